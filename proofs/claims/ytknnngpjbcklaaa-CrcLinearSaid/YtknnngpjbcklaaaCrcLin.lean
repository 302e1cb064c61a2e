/- The walk of CrcLinear. -/
import Derived.Test.YtknnngpjbcklaaaCrcLaw
import Derived.Test.YtknnngpjbcklaaaCrcMath2
import Derived.StillTailTactics
namespace Go.Proofs.Ytknnngpjbcklaaa.CrcLin
open Go Go.RowKit Go.Proofs.YtknnngpjbcklaaaW.PrintWords Go.Proofs.Ytknnngpjbcklaaa.Base Go.Proofs.Ytknnngpjbcklaaa.CrcMath
set_option linter.unusedVariables false
/-- What stands while the last statement is walked. -/
def Good (w : World) (A A' B C : Option Addr) (xs' L ys' zs' : List Int) (w' : World) : Prop :=
  Below w.heap.size w w' ∧ (Kd.int .u8).C w' A' L.length L ∧ (Kd.int .u8).C w' A xs'.length xs' ∧ (Kd.int .u8).C w' B ys'.length ys' ∧ (Kd.int .u8).C w' C zs'.length zs'
theorem Good.awake {w : World} {A A' B C : Option Addr} {xs' L ys' zs' : List Int} {w1 : World} (h : Good w A A' B C xs' L ys' zs' w1) :
    Calls Try.prog 8 #[] w1 fun e w' => e = .returned (.bool true) ∧ Good w A A' B C xs' L ys' zs' w' :=
  (CrcLaw.awake_calls w1).mono fun _ _ ⟨e, hw⟩ => ⟨e, h.1.trans (hw.mono h.1.size), Kd.C_below h.2.1 hw, Kd.C_below h.2.2.1 hw, Kd.C_below h.2.2.2.1 hw, Kd.C_below h.2.2.2.2 hw⟩

theorem Good.drew {w : World} {A A' B C : Option Addr} {xs' L ys' zs' : List Int} {w1 : World} (h : Good w A A' B C xs' L ys' zs' w1) : Good w A A' B C xs' L ys' zs' w1.drew :=
  ⟨h.1.drew, Kd.C_drew h.2.1, Kd.C_drew h.2.2.1, Kd.C_drew h.2.2.2.1, Kd.C_drew h.2.2.2.2⟩

set_option maxRecDepth 100000 in
set_option maxHeartbeats 1000000 in
theorem linear (A B C : Option Addr) (c d f : Nat) (xs ys zs : List Int) (w : World) (hr : (Kd.int .u8).C w A xs.length xs) (hs : (Kd.int .u8).C w B ys.length ys) (ht : (Kd.int .u8).C w C zs.length zs)
    (hc : xs.length ≤ c) (hd : ys.length ≤ d) (hf : zs.length ≤ f) (hn : xs.length * 1 ≤ 140737488351232) (hm : ys.length * 1 ≤ 140737488351232) (ho : zs.length * 1 ≤ 140737488351232)
    (hx : ∀ x ∈ xs, 0 ≤ x ∧ x ≤ 255) (hy : ∀ x ∈ ys, 0 ≤ x ∧ x ≤ 255) (hz : ∀ x ∈ zs, 0 ≤ x ∧ x ≤ 255) :
    Calls Try.prog 6 #[.slice A xs.length c, .slice B ys.length d, .slice C zs.length f] w fun e w' => e = .returned (.bool true) ∧ Below w.heap.size w w' := by
  have HR := Aside0.mk hr
  have HS := Aside0.mk hs
  have HT := Aside0.mk ht
  have HX := Aside0.mk hx
  have HY := Aside0.mk hy
  have HZ := Aside0.mk hz
  clear hr hs ht hx hy hz
  obtain ⟨n, hmn, h1, h2, h3⟩ : ∃ n : Nat, (∀ ats ty, Builtin.min_ ats ty #[.int .i64 (xs.length : Int), .int .i64 (ys.length : Int), .int .i64 (zs.length : Int)] = pure (.int .i64 (n : Int))) ∧ n ≤ xs.length ∧ n ≤ ys.length ∧ n ≤ zs.length := by
    refine ⟨min (min xs.length ys.length) zs.length, fun ats ty => ?_, by omega, by omega, by omega⟩
    rw [Go.Proofs.YtknnngpjbcklaaaW.PrintMore.min_three, Go.Proofs.YtknnngpjbcklaaaW.PrintMore.min2_int]
    simp only [pure_bind]
    rw [Go.Proofs.YtknnngpjbcklaaaW.PrintMore.min2_int]
    simp only [pure_bind]
    congr 2
    (repeat' split) <;> omega
  go_enter Try.func6, Try.ntmps6
  go_wp2_with fail
  obtain ⟨ps, hps, hpl⟩ : ∃ ps : List Int, Aside0 (ps = xs.take n) ∧ ps.length = n := ⟨_, ⟨rfl⟩, by rw [List.length_take]; omega⟩
  have hcopy := HelpByte.copy_calls A c ps w (by rw [hps.out]; exact C_take HR.out n h1) (by omega)
  rw [hpl] at hcopy
  have HCO := Aside0.mk hcopy
  have HPL := Aside0.mk hpl
  clear hcopy hpl
  refine HCO.out.mono ?_
  rintro e w1 ⟨v, rfl, ho, hw1⟩
  rw [HPL.out] at ho
  obtain ⟨A', c', hv, hl', hc', hC', hA'⟩ := int_reads ho
  rw [HPL.out] at hv
  subst hv
  have HO := Aside0.mk ho
  have HW1 := Aside0.mk hw1
  clear ho hw1 HCO hl' hc' hC' hA'
  go_wp2_with fail
  go_loopw [9] (fun i wr => ∃ (k : Nat) (L : List Int), k ≤ n ∧ L.length = n ∧ i = .int .i64 k ∧ Aside0 (wr.ownsRow w.heap.size 5 1 (.slice A' n c') n (L.map (Value.int .u8))) ∧ Aside0 (Below w.heap.size w wr) ∧
    Aside0 (∀ i, i < n → (0 ≤ L.getD i 0 ∧ L.getD i 0 ≤ 255) ∧ BitVec.ofInt 32 (L.getD i 0) = if i < k then BitVec.ofInt 32 (xs.getD i 0) ^^^ BitVec.ofInt 32 (ys.getD i 0) ^^^ BitVec.ofInt 32 (zs.getD i 0) else BitVec.ofInt 32 (xs.getD i 0))) (fun i _ => n - (intOf i).toNat)
  case atStart => exact ⟨0, ps, Nat.zero_le _, HPL.out, rfl, HO, HW1, ⟨fun i hi => by
      have e1 : ps.getD i 0 = xs.getD i 0 := by rw [hps.out]; simp [hi, show i < xs.length by omega]
      rw [e1, if_neg (Nat.not_lt_zero i)]
      exact ⟨at_bounds HX.out i (by omega) rfl, rfl⟩⟩⟩
  case round =>
    obtain ⟨k, L, hk, hL, rfl, HO, HW, HB⟩ := hrel
    have HL := Aside0.mk hL
    clear hL
    by_cases hlt : k < n
    · obtain ⟨g, rfl, hg⟩ := int_some HO.out (by omega)
      obtain ⟨x, hc1, hf1, hx⟩ := int_at HO.out k (by have := HL.out; omega)
      obtain ⟨bd, y, rfl, hc2, hy⟩ := at_nat (Kd.C_below HS.out HW.out) k (by omega)
      obtain ⟨cd, z, rfl, hc3, hz⟩ := at_nat (Kd.C_below HT.out HW.out) k (by omega)
      have hky : k < ys.length := by omega
      have hkz : k < zs.length := by omega
      have G := Aside0.mk hg
      clear hg
      go_wp2_with fail
      go_still_tail 17, (by kernel_rfl)
      change wpList _ _ _ _ _ wr.drew
      go_wp2
      go_roundw
      case rel =>
        have hl := HL.out
        have hxb := HB.out k hlt
        rw [hx.out, if_neg (Nat.lt_irrefl k)] at hxb
        have hyb := at_bounds HY.out k hky hy.out
        have hzb := at_bounds HZ.out k hkz hz.out
        have q1 := xor_u8 x y hxb.1 hyb
        have q2 := xor_u8 _ z q1.1 hzb
        refine ⟨k + 1, L.set k (bits .xor .u8 (bits .xor .u8 x y) z), by omega, by rw [List.length_set]; exact hl, by go_num, ⟨(int_set HO.out k (by omega) _).drew⟩, ⟨(HW.out.setCell (by exact G.out) _).drew⟩, ⟨fun i hi => ?_⟩⟩
        by_cases e : i = k
        · subst e
          have e1 : (L.set i (bits .xor .u8 (bits .xor .u8 x y) z)).getD i 0 = bits .xor .u8 (bits .xor .u8 x y) z := by simp [hl, hi]
          rw [e1, if_pos (by omega), hy.out, hz.out, ← hxb.2, ← q1.2]
          exact q2
        · have e1 : (L.set k (bits .xor .u8 (bits .xor .u8 x y) z)).getD i 0 = L.getD i 0 := by
            have e' : ¬ k = i := fun h => e h.symm
            simp [e']
          rw [e1]
          have hb := HB.out i hi
          by_cases h : i < k
          · rw [if_pos h] at hb
            rw [if_pos (by omega)]
            exact hb
          · rw [if_neg h] at hb
            rw [if_neg (by omega)]
            exact hb
      case measure => simp [intOf]; omega
    · obtain rfl : k = n := by omega
      go_wp2
      obtain ⟨as1, has, hal⟩ : ∃ z1 : List Int, Aside0 (z1 = xs.take k) ∧ z1.length = k := ⟨_, ⟨rfl⟩, by rw [List.length_take]; omega⟩
      obtain ⟨bs, hbs, hbl⟩ : ∃ z1 : List Int, Aside0 (z1 = ys.take k) ∧ z1.length = k := ⟨_, ⟨rfl⟩, by rw [List.length_take]; omega⟩
      obtain ⟨cs, hcs, hcl⟩ : ∃ z1 : List Int, Aside0 (z1 = zs.take k) ∧ z1.length = k := ⟨_, ⟨rfl⟩, by rw [List.length_take]; omega⟩
      obtain ⟨A2, c2, hv2, hj1, hj2, hC2, hj3⟩ := int_reads HO.out
      have e2 : A2 = A' := by injection hv2 with e _ _; exact e.symm
      subst e2
      have hG : Good w A A2 B C as1 L bs cs wr := ⟨HW.out, hC2, by rw [has.out]; exact C_take (Kd.C_below HR.out HW.out) k h1, by rw [hbs.out]; exact C_take (Kd.C_below HS.out HW.out) k h2, by rw [hcs.out]; exact C_take (Kd.C_below HT.out HW.out) k h3⟩
      have hsum : sum L = sum as1 ^^^ sum bs ^^^ sum cs := by
        have h := sum_three (xs := L) (us := xs) (bs := ys) (cs := zs) k HL.out.symm h1 h2 h3 (fun i hi => by
          have := (HB.out i hi).2
          rw [if_pos hi] at this
          exact this)
        rw [← has.out, ← hbs.out, ← hcs.out] at h
        exact h
      have E1 := fun w' (h : Good w A A2 B C as1 L bs cs w') => HL.out ▸ Crc.sum_calls A2 c' L w' h.2.1
      have E2 := fun w' (h : Good w A A2 B C as1 L bs cs w') => hal ▸ Crc.sum_calls A c as1 w' h.2.2.1
      have E3 := fun w' (h : Good w A A2 B C as1 L bs cs w') => hbl ▸ Crc.sum_calls B d bs w' h.2.2.2.1
      have E4 := fun w' (h : Good w A A2 B C as1 L bs cs w') => hcl ▸ Crc.sum_calls C f cs w' h.2.2.2.2
      have HG := Aside0.mk hG
      have F1 := Aside0.mk E1
      have F2 := Aside0.mk E2
      have F3 := Aside0.mk E3
      have F4 := Aside0.mk E4
      have hbit : (((sum L).toNat : Int) == bits .xor .u32 (bits .xor .u32 ((sum as1).toNat : Int) ((sum bs).toNat : Int)) ((sum cs).toNat : Int)) = true := by
        rw [bits_xor, ofInt_nat, bits_xor, ofInt_nat, hsum, beq_iff_eq]
      clear hG hsum E1 E2 E3 E4 hv2 hC2 hal hbl hcl hj1 hj2 hj3
      have hkc : k ≤ c := by omega
      have hkd : k ≤ d := by omega
      have hkf : k ≤ f := by omega
      have ikc : (k : Int) ≤ (c : Int) := by omega
      have ikd : (k : Int) ≤ (d : Int) := by omega
      have ikf : (k : Int) ≤ (f : Int) := by omega
      have ik0 : 0 ≤ (k : Int) := by omega
      have HG' : Aside0 (Good w A A2 B C as1 L bs cs wr.drew) := ⟨Good.drew HG.out⟩
      clear HG
      refine region_good (Good w A A2 B C as1 L bs cs) (by kernel_rfl) (by kernel_rfl) HG'.out (fun hne => ?_)
      repeat (go_big_quiet_step ((first | (go_at_call 8; exact good_calls (Good.awake (GW.ok _))) | (go_at_call 9; exact good_same _ (F1.out _ (GW.ok _))) | (go_at_call 9; exact good_same _ (F2.out _ (GW.ok _))) | (go_at_call 9; exact good_same _ (F3.out _ (GW.ok _))) | (go_at_call 9; exact good_same _ (F4.out _ (GW.ok _))))))
      refine wpQuiet_nil ?_
      rintro w' ⟨nG, rfl⟩
      go_wp2
      go_ret
      exact ⟨rfl, nG.ok.1⟩
end Go.Proofs.Ytknnngpjbcklaaa.CrcLin
