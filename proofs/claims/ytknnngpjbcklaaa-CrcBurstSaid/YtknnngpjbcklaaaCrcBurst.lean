/- The walk of CrcBurst. -/
import Derived.Test.YtknnngpjbcklaaaCrcLaw
import Derived.Test.YtknnngpjbcklaaaCrcMath3
import Derived.StillTailTactics
namespace Go.Proofs.Ytknnngpjbcklaaa.CrcBurst
open Go Go.RowKit Go.Proofs.YtknnngpjbcklaaaW.PrintWords Go.Proofs.Ytknnngpjbcklaaa.Base Go.Proofs.Ytknnngpjbcklaaa.CrcMath
set_option linter.unusedVariables false
set_option linter.unusedSimpArgs false
theorem shift_bit (M : W32) (k : Nat) : (bits .and .u32 ((M.toNat : Int) / 2 ^ k) 1 == 1) = M.getLsbD k := by
  have e : (M.toNat : Int) / 2 ^ k = ((M >>> k).toNat : Int) := by
    rw [BitVec.toNat_ushiftRight, Nat.shiftRight_eq_div_pow, Int.natCast_ediv, Int.natCast_pow]
    rfl
  rw [e, low_eq, BitVec.getLsbD_ushiftRight, Nat.add_zero]
theorem pow_word : ∀ p, p < 8 → BitVec.ofInt 32 (2 ^ p % 256) = BitVec.twoPow 32 p := by decide
theorem pow_byte : ∀ p, p < 8 → (0 ≤ (2 : Int) ^ p % 256 ∧ (2 : Int) ^ p % 256 ≤ 255) := by decide
theorem burst_more (F k : Nat) (M : W32) (p : Nat) : burst F (k + 1) M p = if p = F + k then M.getLsbD k else burst F k M p := by
  unfold burst
  by_cases h : p = F + k
  · subst h
    rw [if_pos rfl, decide_eq_true (by omega), decide_eq_true (by omega), Nat.add_sub_cancel_left]
    rfl
  · rw [if_neg h]
    by_cases h1 : F ≤ p
    · by_cases h2 : p < F + k
      · rw [decide_eq_true h2, decide_eq_true (by omega : p < F + (k + 1))]
      · rw [decide_eq_false h2, decide_eq_false (by omega : ¬ p < F + (k + 1))]
    · rw [decide_eq_false h1]
      rfl
theorem burst_here (F k : Nat) (M : W32) : burst F k M (F + k) = false := by
  unfold burst
  rw [decide_eq_false (by omega : ¬ F + k < F + k), Bool.and_false]
  rfl
/-- A bit that is turned. -/
theorem turned {F k : Nat} {M : W32} {xs ys : List Int} {n : Nat} (hb : M.getLsbD k = true) (hl : xs.length = n) (hq : (F + k) / 8 < n) (x : Int) (hx : xs.getD ((F + k) / 8) 0 = x)
    (HB : ∀ i, i < n → (0 ≤ xs.getD i 0 ∧ xs.getD i 0 ≤ 255) ∧ ∀ t, t < 32 → (BitVec.ofInt 32 (xs.getD i 0)).getLsbD t = ((BitVec.ofInt 32 (ys.getD i 0)).getLsbD t ^^ (decide (t < 8) && burst F k M (8 * i + t)))) :
    ∀ i, i < n → (0 ≤ (xs.set ((F + k) / 8) (bits .xor .u8 x (2 ^ ((F + k) % 8) % 256))).getD i 0 ∧ (xs.set ((F + k) / 8) (bits .xor .u8 x (2 ^ ((F + k) % 8) % 256))).getD i 0 ≤ 255) ∧
      ∀ t, t < 32 → (BitVec.ofInt 32 ((xs.set ((F + k) / 8) (bits .xor .u8 x (2 ^ ((F + k) % 8) % 256))).getD i 0)).getLsbD t = ((BitVec.ofInt 32 (ys.getD i 0)).getLsbD t ^^ (decide (t < 8) && burst F (k + 1) M (8 * i + t))) := by
  intro i hi
  have hm : (F + k) % 8 < 8 := Nat.mod_lt _ (by decide)
  have hxr := (HB _ hq).1
  rw [hx] at hxr
  have q := xor_u8 x _ hxr (pow_byte _ hm)
  by_cases e : i = (F + k) / 8
  · have e1 : (xs.set ((F + k) / 8) (bits .xor .u8 x (2 ^ ((F + k) % 8) % 256))).getD i 0 = bits .xor .u8 x (2 ^ ((F + k) % 8) % 256) := by
      rw [e]
      simp [show (F + k) / 8 < xs.length by omega]
    rw [e1]
    refine ⟨q.1, fun t ht => ?_⟩
    have h1 := (HB i hi).2 t ht
    rw [e, hx] at h1
    rw [q.2, BitVec.getLsbD_xor, h1, pow_word _ hm, BitVec.getLsbD_twoPow, burst_more, e]
    by_cases h2 : t = (F + k) % 8
    · have h3 : 8 * ((F + k) / 8) + t = F + k := by omega
      rw [if_pos h3, h3, burst_here, hb, decide_eq_true (by omega : t < 8), decide_eq_true (by omega : (F + k) % 8 = t), decide_eq_true (by omega : (F + k) % 8 < 32)]
      cases (BitVec.ofInt 32 (ys.getD ((F + k) / 8) 0)).getLsbD t <;> rfl
    · by_cases h4 : t < 8
      · have h3 : ¬ 8 * ((F + k) / 8) + t = F + k := by omega
        rw [if_neg h3, decide_eq_false (by omega : ¬ (F + k) % 8 = t), Bool.and_false, Bool.xor_false]
      · rw [decide_eq_false h4, decide_eq_false (by omega : ¬ (F + k) % 8 = t), Bool.and_false, Bool.false_and, Bool.false_and, Bool.xor_false]
  · have e1 : (xs.set ((F + k) / 8) (bits .xor .u8 x (2 ^ ((F + k) % 8) % 256))).getD i 0 = xs.getD i 0 := by
      have e' : ¬ (F + k) / 8 = i := fun h => e h.symm
      simp [e']
    rw [e1]
    refine ⟨(HB i hi).1, fun t ht => ?_⟩
    rw [(HB i hi).2 t ht, burst_more]
    by_cases h4 : t < 8
    · rw [if_neg (by omega)]
    · rw [decide_eq_false h4]
      rfl
theorem unturned {F k : Nat} {M : W32} {xs ys : List Int} {n : Nat} (hb : M.getLsbD k = false)
    (HB : ∀ i, i < n → (0 ≤ xs.getD i 0 ∧ xs.getD i 0 ≤ 255) ∧ ∀ t, t < 32 → (BitVec.ofInt 32 (xs.getD i 0)).getLsbD t = ((BitVec.ofInt 32 (ys.getD i 0)).getLsbD t ^^ (decide (t < 8) && burst F k M (8 * i + t)))) :
    ∀ i, i < n → (0 ≤ xs.getD i 0 ∧ xs.getD i 0 ≤ 255) ∧ ∀ t, t < 32 → (BitVec.ofInt 32 (xs.getD i 0)).getLsbD t = ((BitVec.ofInt 32 (ys.getD i 0)).getLsbD t ^^ (decide (t < 8) && burst F (k + 1) M (8 * i + t))) := by
  intro i hi
  refine ⟨(HB i hi).1, fun t ht => ?_⟩
  rw [(HB i hi).2 t ht, burst_more]
  by_cases h : 8 * i + t = F + k
  · rw [if_pos h, h, burst_here, hb]
  · rw [if_neg h]
theorem any_more (M : W32) (k : Nat) : ((List.range (k + 1)).any fun j => M.getLsbD j) = (((List.range k).any fun j => M.getLsbD j) || M.getLsbD k) := by
  rw [List.range_succ, List.any_append]
  simp
theorem any_iff (M : W32) (k : Nat) : ((List.range k).any fun j => M.getLsbD j) = false ↔ ∀ j, j < k → M.getLsbD j = false := by
  simp

set_option maxRecDepth 100000 in
set_option maxHeartbeats 1000000 in
/-- Where the first test holds: nothing is looked at. -/
theorem passed (A : Option Addr) (c n : Nat) (at_ m : Int) (w : World) (hm : n ≤ 140737488355328) (b1 b2 b3 : Bool) (h1 : ((n : Int) == 0) = b1) (h2 : (m == 0) = b2) (h3 : decide ((1048576 : Int) < (n : Int)) = b3) (h : (b1 || b2 || b3) = true) :
    Calls Try.prog 5 #[.slice A n c, .int .i64 at_, .int .u32 m] w fun e w' => e = .returned (.bool true) ∧ Below w.heap.size w w' := by
  cases b1 <;> cases b2 <;> cases b3
  · cases h
  all_goals
    clear h
    go_enter Try.func5, Try.ntmps5
    go_wp2_with fail
    refine (CrcLaw.awake_calls w).mono ?_
    rintro e w1 ⟨rfl, hw1⟩
    go_wp2_with fail
    refine (CrcLaw.awake_calls w1).mono ?_
    rintro e w2 ⟨rfl, hw2⟩
    go_wp2
    go_ret
    exact ⟨rfl, hw1.trans (hw2.mono hw1.size)⟩

set_option maxRecDepth 100000 in
set_option maxHeartbeats 1000000 in
theorem burst_calls (A : Option Addr) (c : Nat) (at_ : Int) (M : W32) (ys : List Int) (w : World) (hr : (Kd.int .u8).C w A ys.length ys) (hy : ∀ x ∈ ys, 0 ≤ x ∧ x ≤ 255)
    (h1 : ((ys.length : Int) == 0) = false) (h2 : ((M.toNat : Int) == 0) = false) (h3 : decide ((1048576 : Int) < (ys.length : Int)) = false) (hpos : 0 < ys.length) (hlen : ys.length ≤ 1048576) :
    Calls Try.prog 5 #[.slice A ys.length c, .int .i64 at_, .int .u32 M.toNat] w fun e w' => e = .returned (.bool true) ∧ Below w.heap.size w w' := by
  have HR := Aside0.mk hr
  have HY := Aside0.mk hy
  clear hr hy
  go_enter Try.func5, Try.ntmps5
  go_wp2_with fail
  refine (CrcLaw.awake_calls w).mono ?_
  rintro e w1 ⟨rfl, hw1⟩
  have HR1 := Aside0.mk (Kd.C_below HR.out hw1)
  have HW1 := Aside0.mk hw1
  clear hw1
  go_wp2_with fail
  refine (HelpByte.copy_calls A c ys w1 HR1.out (by have := of_decide_eq_false h3; omega)).mono ?_
  rintro e w2 ⟨v, rfl, ho, hw2⟩
  have HR2 := Aside0.mk (Kd.C_below HR1.out hw2)
  have HW2 := Aside0.mk hw2
  have HO := Aside0.mk ho
  clear hw2 ho
  have hwr : IntKind.u64.wrap (8 * (ys.length : Int)) = 8 * (ys.length : Int) := by rw [IntKind.wrap_u64]; omega
  have hne : ¬ (8 * (ys.length : Int) = 0) := by omega
  go_wp2
  obtain ⟨F, hF, hFlt⟩ : ∃ F : Nat, wrap64 ((IntKind.u64.wrap at_).tmod (8 * (ys.length : Int))) = (F : Int) ∧ F < 8 * ys.length := by
    have h0 : 0 ≤ IntKind.u64.wrap at_ := by rw [IntKind.wrap_u64]; omega
    have h1 := Int.emod_nonneg (IntKind.u64.wrap at_) hne
    have h2 := Int.emod_lt_of_pos (IntKind.u64.wrap at_) (show (0 : Int) < 8 * (ys.length : Int) by omega)
    refine ⟨(IntKind.u64.wrap at_ % (8 * (ys.length : Int))).toNat, ?_, by omega⟩
    rw [Int.tmod_eq_emod_of_nonneg h0]
    unfold wrap64
    omega
  rw [hF]
  clear hF hwr hne
  obtain ⟨g, cap, rfl, hg, hcap, ho2⟩ := int_block HO.out hpos
  have HO2 := Aside0.mk ho2
  have G := Aside0.mk hg
  clear ho2 hg
  go_loopw [9, 10] (fun s9 i wr => ∃ (k : Nat) (L : List Int) (b9 : Bool), k ≤ 32 ∧ F + k ≤ 8 * ys.length ∧ L.length = ys.length ∧ i = .int .i64 k ∧ s9 = .bool b9 ∧ Aside0 (b9 = (List.range k).any fun j => M.getLsbD j) ∧ Aside0 (wr.ownsRow w1.heap.size 5 1 (.slice (some ⟨g, 0, none⟩) ys.length cap) ys.length (L.map (Value.int .u8))) ∧ Aside0 (Below w1.heap.size w1 wr) ∧
    Aside0 (∀ i, i < ys.length → (0 ≤ L.getD i 0 ∧ L.getD i 0 ≤ 255) ∧ ∀ t, t < 32 → (BitVec.ofInt 32 (L.getD i 0)).getLsbD t = ((BitVec.ofInt 32 (ys.getD i 0)).getLsbD t ^^ (decide (t < 8) && burst F k M (8 * i + t))))) (fun _ i _ => 32 - (intOf i).toNat)
  case atStart =>
    refine ⟨0, ys, false, Nat.zero_le _, by omega, rfl, rfl, rfl, ⟨rfl⟩, HO, HW2, ⟨fun i hi => ⟨at_bounds HY.out i hi rfl, fun t ht => ?_⟩⟩⟩
    have : burst F 0 M (8 * i + t) = false := by
      unfold burst
      by_cases h : F ≤ 8 * i + t
      · rw [decide_eq_false (by omega : ¬ 8 * i + t < F + 0), Bool.and_false]
        rfl
      · rw [decide_eq_false h]
        rfl
    rw [this, Bool.and_false, Bool.xor_false]
  case round =>
    obtain ⟨k, L, b9, hk, hFk, hL, rfl, rfl, H9, HO, HW, HB⟩ := hrel
    have HL := Aside0.mk hL
    clear hL
    by_cases hlt : k < 32 ∧ F + k < 8 * ys.length
    · obtain ⟨hk1, hk2⟩ := hlt
      have hq : (F + k) / 8 < ys.length := by omega
      obtain ⟨x, hc1, hf1, hx⟩ := int_at HO.out ((F + k) / 8) (by have := HL.out; omega)
      have hs := shift_bit M k
      cases hb : M.getLsbD k
      · rw [hb] at hs
        have HBk := Aside0.mk hb
        clear hb
        go_wp2
        go_roundw
        case rel => exact ⟨k + 1, L, b9, by omega, by omega, HL.out, by go_num, rfl, ⟨by rw [any_more, HBk.out, Bool.or_false]; exact H9.out⟩, HO, HW, ⟨unturned HBk.out HB.out⟩⟩
        case measure => simp [intOf]; omega
      · rw [hb] at hs
        have HBk := Aside0.mk hb
        clear hb
        go_wp2
        go_roundw
        case rel => exact ⟨k + 1, L.set ((F + k) / 8) (bits .xor .u8 x (2 ^ ((F + k) % 8) % 256)), true, by omega, by omega, by rw [List.length_set]; exact HL.out, by go_num, rfl, ⟨by rw [any_more, HBk.out, Bool.or_true]⟩, ⟨int_set HO.out _ (by have := HL.out; omega) _⟩, ⟨HW.out.setCell (by exact G.out) _⟩, ⟨turned HBk.out HL.out hq x hx.out HB.out⟩⟩
        case measure => simp [intOf]; omega
    · obtain ⟨A2, c2, hv2, hj1, hj2, hC2, hj3⟩ := int_reads HO.out
      have e2 : A2 = some ⟨g, 0, none⟩ := by injection hv2 with e _ _; exact e.symm
      subst e2
      have E1 := HL.out ▸ Crc.sum_calls (some ⟨g, 0, none⟩) cap L wr hC2
      have hsum := sum_burst L ys HL.out F k M hFk (fun i hi => (HB.out i hi).2)
      rw [← any_iff, ← H9.out] at hsum
      have hfin : ((((sum L).toNat : Int) != ((sum ys).toNat : Int)) == b9) = true := by
        rw [beq_iff_eq]
        cases hb9 : b9
        · rw [bne_eq_false_iff_eq, hsum.2 hb9]
        · rw [bne_iff_ne]
          intro e
          have e3 : sum L = sum ys := BitVec.eq_of_toNat_eq (by omega)
          rw [hsum.1 e3] at hb9
          cases hb9
      have F1 := Aside0.mk E1
      have HR3 := Aside0.mk (Kd.C_below HR1.out HW.out)
      clear E1 hsum hv2 hj1 hj2 hC2 hj3
      by_cases hk32 : k < 32
      all_goals
        go_wp2_with fail
        refine F1.out.mono ?_
        rintro e w' ⟨rfl, rfl⟩
        go_wp2_with fail
        refine (Crc.sum_calls A c ys wr HR3.out).mono ?_
        rintro e w' ⟨rfl, rfl⟩
        go_wp2
        go_ret
        exact ⟨rfl, HW1.out.trans (HW.out.mono HW1.out.size)⟩

theorem any_calls (A : Option Addr) (c : Nat) (at_ m : Int) (ys : List Int) (w : World) (hm : (Lit.int .u32 m).wf = true) (hr : (Kd.int .u8).C w A ys.length ys) (hn : ys.length * 1 ≤ 140737488351232) (hy : ∀ x ∈ ys, (Lit.int .u8 x).wf = true) :
    Calls Try.prog 5 #[.slice A ys.length c, .int .i64 at_, .int .u32 m] w fun e w' => e = .returned (.bool true) ∧ Below w.heap.size w w' := by
  by_cases h : ((((ys.length : Int) == 0) || (m == 0)) || decide ((1048576 : Int) < (ys.length : Int))) = true
  · exact passed A c ys.length at_ m w (by omega) _ _ _ rfl rfl rfl h
  · have hb := wf_u32 hm
    obtain ⟨M, rfl⟩ : ∃ M : W32, m = (M.toNat : Int) := ⟨BitVec.ofInt 32 m, by rw [BitVec.toNat_ofInt]; omega⟩
    simp only [Bool.or_eq_true, not_or, Bool.not_eq_true] at h
    have h1 := beq_eq_false_iff_ne.1 h.1.1
    have h3 := of_decide_eq_false h.2
    exact burst_calls A c at_ M ys w hr (fun x hx => wf_u8 (hy x hx)) h.1.1 h.1.2 h.2 (by omega) (by omega)
end Go.Proofs.Ytknnngpjbcklaaa.CrcBurst
