/- Take and the reference's Take. -/
import Derived.Test.YtfkghmalccpcbaaFrameLaw
import Derived.StillTailTactics
namespace Go.Proofs.Ytfkghmalccpcbaa.Frame
open Go Go.RowKit Go.Proofs.YtfkghmalccpcbaaW.PrintWords Go.Proofs.Ytfkghmalccpcbaa.Base Go.Proofs.Ytfkghmalccpcbaa.CrcMath Go.Proofs.Ytfkghmalccpcbaa.FrameMath
set_option linter.unusedVariables false
set_option linter.unusedSimpArgs false

theorem wrap_u32 {x : Int} (h : 0 ≤ x ∧ x ≤ 4294967295) : IntKind.u32.wrap x = x := by
  show x % 4294967296 = x
  omega
set_option maxRecDepth 100000 in
set_option maxHeartbeats 1000000 in
theorem number_calls (A : Option Addr) (c n : Nat) (xs : List Int) (w : World) (hr : (Kd.int .u8).C w A n xs) (h4 : 4 ≤ n) (hl : n = xs.length) (hx : ∀ x ∈ xs, 0 ≤ x ∧ x ≤ 255) :
    Calls Try.prog 28 #[.slice A n c] w fun e w' => e = .returned (.int .u32 (num4 xs)) ∧ w = w' := by
  have HR := Aside0.mk hr
  have HX := Aside0.mk hx
  have HL := Aside0.mk hl
  clear hr hx hl
  go_enter Try.func28, Try.ntmps28
  go_wp2
  go_loop [3, 5] (fun v i => ∃ (k : Nat) (s : Int), k ≤ 4 ∧ i = .int .i64 k ∧ v = .int .u32 s ∧ Aside0 (s = part4 xs k)) (fun _ i => 4 - (intOf i).toNat)
  case atStart => exact ⟨0, 0, by omega, rfl, rfl, ⟨rfl⟩⟩
  case round =>
    obtain ⟨k, s, hk, rfl, rfl, HS⟩ := hrel
    by_cases hlt : k < 4
    · obtain ⟨ad, x, rfl, hcell, HE⟩ := at_nat HR.out k (by omega)
      have hb := at_bounds HX.out k (by have := HL.out; omega) HE.out
      go_wp2
      go_round
      case rel => exact ⟨k + 1, _, by omega, by go_num, rfl, ⟨part4_step xs k hlt HX.out HE.out HS.out hb⟩⟩
      case measure => simp [intOf]; omega
    · obtain rfl : k = 4 := by omega
      go_wp2
      go_ret
      exact ⟨by rw [HS.out]; rfl, rfl⟩

set_option maxRecDepth 100000 in
set_option maxHeartbeats 1000000 in
theorem refof_calls (A : Option Addr) (c n : Nat) (xs : List Int) (w : World) (hr : (Kd.int .u8).C w A n xs) (h4 : 4 ≤ n) (hl : n = xs.length) (hx : ∀ x ∈ xs, 0 ≤ x ∧ x ≤ 255) :
    Calls Try.prog 29 #[.slice A n c] w fun e w' => e = .returned (.int .u32 (num4 xs)) ∧ ∃ m, w' = w.drewN m := by
  obtain ⟨ad, x0, rfl, hc0, HE0⟩ := at_nat hr 0 (by omega)
  obtain ⟨ad', x1, he, hc1, HE1⟩ := at_nat hr 1 (by omega)
  cases he
  obtain ⟨ad', x2, he, hc2, HE2⟩ := at_nat hr 2 (by omega)
  cases he
  obtain ⟨ad', x3, he, hc3, HE3⟩ := at_nat hr 3 (by omega)
  cases he
  have hb0 := at_bounds hx 0 (by omega) HE0.out
  have hb1 := at_bounds hx 1 (by omega) HE1.out
  have hb2 := at_bounds hx 2 (by omega) HE2.out
  have hb3 := at_bounds hx 3 (by omega) HE3.out
  have hc0 : w.cell? ad = some (.int .u8 x0) := by rw [← Addr.add_zero' ad]; exact hc0
  have hc1 : w.cell? { block := ad.block, off := ad.off + 1 } = some (.int .u8 x1) := by simpa [Addr.add] using hc1
  have hc2 : w.cell? { block := ad.block, off := ad.off + 2 } = some (.int .u8 x2) := by simpa [Addr.add] using hc2
  have hc3 : w.cell? { block := ad.block, off := ad.off + 3 } = some (.int .u8 x3) := by simpa [Addr.add] using hc3
  have k0 : IntKind.u32.wrap x0 = x0 := wrap_u32 (by omega)
  have k1 : IntKind.u32.wrap x1 = x1 := wrap_u32 (by omega)
  have k2 : IntKind.u32.wrap x2 = x2 := wrap_u32 (by omega)
  have k3 : IntKind.u32.wrap x3 = x3 := wrap_u32 (by omega)
  have l1 : IntKind.u32.wrap (x1 * 256) = x1 * 256 := wrap_u32 (by omega)
  have l2 : IntKind.u32.wrap (x2 * 65536) = x2 * 65536 := wrap_u32 (by omega)
  have l3 : IntKind.u32.wrap (x3 * 16777216) = x3 * 16777216 := wrap_u32 (by omega)
  have i0 : (0 : Int) < n := by omega
  have i1 : (1 : Int) < n := by omega
  have i2 : (2 : Int) < n := by omega
  have i3 : (3 : Int) < n := by omega
  have j0 : 0 < n := by omega
  have j1 : 1 < n := by omega
  have j2 : 2 < n := by omega
  have j3 : 3 < n := by omega
  have HV := Aside0.mk (num4_all hx HE0.out HE1.out HE2.out HE3.out hb0 hb1 hb2 hb3)
  have HL := Aside0.mk hl
  clear hr hx hl
  go_enter Try.func29, Try.ntmps29
  go_wp2
  go_still (by kernel_rfl)
  go_wp2
  go_ret
  exact ⟨by rw [HV.out]; rfl, 1, rfl⟩

/-- What Take leaves. -/
def TakePost (xs : List Int) (w : World) (e : Ending) (w' : World) : Prop :=
  ∃ v, e = .returned (.tuple #[v, .int .i64 (takeI xs).2.1, .int .i64 (takeI xs).2.2]) ∧ w'.ownsRow w.heap.size 5 1 v (takeI xs).1.length ((takeI xs).1.map (Value.int .u8)) ∧ Below w.heap.size w w'
theorem take_none {xs : List Int} {w w' : World} {m : Nat} {q : Int} (h : takeI xs = ([], 0, q)) (hw : Below w.heap.size w w') : TakePost xs w (.returned (.tuple #[.slice none 0 0, .int .i64 0, .int .i64 q])) w' := by
  unfold TakePost
  rw [h]
  exact ⟨_, rfl, World.ownsRow_nil _ _ _ _, hw⟩
theorem C_cut {k : IntKind} {w : World} {ad : Addr} {xs : List Int} (h : (Kd.int k).C w (some ad) xs.length xs) (lo n : Nat) (hn : lo + n ≤ xs.length) : (Kd.int k).C w (some (ad.add lo)) ((xs.drop lo).take n).length ((xs.drop lo).take n) := by
  have hl : ((xs.drop lo).take n).length = n := by rw [List.length_take, List.length_drop]; omega
  have hm := Kd.C_max h
  refine Kd.C_of_reads (d := (0 : Int)) (h1 := fun _ => rfl) ⟨rfl, by omega, fun h0 => ?_⟩
  refine ⟨_, rfl, fun i hi => ?_⟩
  obtain ⟨ad', x', e', hc, hx⟩ := at_nat h (lo + i) (by omega)
  cases e'
  rw [show ((ad.add lo).add i) = ad.add (lo + i) from by by_cases h1 : lo = 0 <;> by_cases h2 : i = 0 <;> simp [Addr.add, h1, h2, Nat.add_assoc], hc, ← hx.out]
  congr 2
  show _ = ((xs.drop lo).take n).getD i 0
  rw [List.getD_eq_getElem?_getD, List.getD_eq_getElem?_getD, List.getElem?_take, if_pos (by omega), List.getElem?_drop]
theorem C_drop {k : IntKind} {w : World} {ad : Addr} {xs : List Int} (h : (Kd.int k).C w (some ad) xs.length xs) (lo : Nat) (h0 : 0 < lo) (hn : lo ≤ xs.length) : (Kd.int k).C w (some ⟨ad.block, ad.off + lo, none⟩) (xs.length - lo) (xs.drop lo) := by
  have := C_cut h lo (xs.length - lo) (by omega)
  rw [List.take_of_length_le (by simp)] at this
  rw [show ad.add lo = ⟨ad.block, ad.off + lo, none⟩ from by simp [Addr.add]; omega, List.length_drop] at this
  exact this
set_option maxRecDepth 100000 in
set_option maxHeartbeats 1000000 in
theorem take_calls (A : Option Addr) (c : Nat) (xs : List Int) (w : World) (hr : (Kd.int .u8).C w A xs.length xs) (hc : xs.length ≤ c) (hn : xs.length * 1 ≤ 140737488351232) (hx : ∀ x ∈ xs, 0 ≤ x ∧ x ≤ 255) :
    Calls Try.prog 15 #[.slice A xs.length c] w (TakePost xs w) := by
  by_cases h0 : xs.length = 0
  · have h0' := Aside0.mk h0
    go_enter Try.func15, Try.ntmps15
    go_wp2
    go_ret3
    exact take_none (m := 0) (by unfold takeI; rw [if_pos h0'.out]) (Below.refl _ _)
  obtain ⟨ad, z, rfl, hcz, hz⟩ := at_nat hr 0 (by omega)
  have hcz : w.cell? ad = some (.int .u8 z) := by rw [← Addr.add_zero' ad]; exact hcz
  have HR := Aside0.mk hr
  have HX := Aside0.mk hx
  clear hr hx
  by_cases h1 : z ≠ 165 ∧ z ≠ 0
  · have h1' := Aside0.mk h1
    have h2 : (z != 165) = true := by simp [h1.1]
    have h3 : (z != 0) = true := by simp [h1.2]
    have hT : takeI xs = ([], 0, 10) := by unfold takeI; rw [if_neg h0, hz.out, if_pos h1]
    have HT := Aside0.mk hT
    clear hT h1
    go_enter Try.func15, Try.ntmps15
    go_wp2
    go_ret3
    exact take_none (m := 0) HT.out (Below.refl _ _)
  by_cases h2 : z = 0 ∨ xs.length < 10
  · have hT : takeI xs = ([], 0, 9) := by unfold takeI; rw [if_neg h0, hz.out, if_neg h1, if_pos h2]
    have HT := Aside0.mk hT
    clear hT
    by_cases h3 : z = 0
    · have h4 : (z == 0) = true := by simp [h3]
      subst h3
      clear h1 h2
      go_enter Try.func15, Try.ntmps15
      go_wp2
      go_ret3
      exact take_none (m := 0) HT.out (Below.refl _ _)
    · have h5 : z = 165 := by omega
      have h6 : (xs.length : Int) < 10 := by omega
      subst h5
      clear h1 h2 h3
      go_enter Try.func15, Try.ntmps15
      go_wp2
      go_ret3
      exact take_none (m := 0) HT.out (Below.refl _ _)
  obtain rfl : z = 165 := by omega
  have h3 : ¬ (xs.length : Int) < 10 := by omega
  have h10 : 10 ≤ xs.length := by omega
  obtain ⟨n, hN⟩ : ∃ n : Nat, num4 (xs.drop 1) = n := ⟨_, (Int.toNat_of_nonneg (num4_bounds _ (fun x h => HX.out x (List.mem_of_mem_drop h))).1).symm⟩
  have HD1 := Aside0.mk (C_drop HR.out 1 (by omega) (by omega))
  have HN := Aside0.mk (number_calls (some ⟨ad.block, ad.off + 1, none⟩) (c - 1) (xs.length - 1) (xs.drop 1) w HD1.out (by omega) (by simp) (fun x h => HX.out x (List.mem_of_mem_drop h)))
  have HL1 := Aside0.mk hz.out
  rw [hN] at HN
  by_cases h4 : 1048576 < num4 (xs.drop 1)
  · have hT : takeI xs = ([], 0, 10) := by unfold takeI; rw [if_neg h0, hz.out, if_neg h1, if_neg h2, if_pos h4]
    have HT := Aside0.mk hT
    have h5 : decide ((1048576 : Int) < n) = true := by simp; omega
    clear hT h1 h2 h4 hN
    go_enter Try.func15, Try.ntmps15
    go_wp2_with fail
    refine HN.out.mono ?_
    rintro e w' ⟨rfl, rfl⟩
    go_wp2
    go_ret3
    exact take_none (m := 0) HT.out (Below.refl _ _)
  have hn4 : (n : Int) ≤ 1048576 := by omega
  have h5 : decide ((1048576 : Int) < n) = false := by simp; omega
  have hnn : (num4 (xs.drop 1)).toNat = n := by omega
  by_cases h6 : xs.length < 10 + n
  · have hT : takeI xs = ([], 0, 9) := by unfold takeI; rw [if_neg h0, hz.out, if_neg h1, if_neg h2, if_neg h4, hnn, if_pos (.inl h6)]
    have HT := Aside0.mk hT
    have h7 : decide ((xs.length : Int) < 10 + (n : Int)) = true := by simp; omega
    clear hT h1 h2 h4 hN hnn
    go_enter Try.func15, Try.ntmps15
    go_wp2_with fail
    refine HN.out.mono ?_
    rintro e w' ⟨rfl, rfl⟩
    go_wp2
    go_ret3
    exact take_none (m := 0) HT.out (Below.refl _ _)
  have h7 : decide ((xs.length : Int) < 10 + (n : Int)) = false := by simp; omega
  obtain ⟨ad', z, he, hcl, hy⟩ := at_nat HR.out (9 + n) (by omega)
  cases he
  by_cases h8 : z = 0
  · have hT : takeI xs = ([], 0, 9) := by unfold takeI; rw [if_neg h0, hz.out, if_neg h1, if_neg h2, if_neg h4, hnn, if_pos (.inr (by rw [hy.out]; exact h8))]
    have HT := Aside0.mk hT
    subst h8
    clear hT h1 h2 h4 hN hnn
    go_enter Try.func15, Try.ntmps15
    go_wp2_with fail
    refine HN.out.mono ?_
    rintro e w' ⟨rfl, rfl⟩
    go_wp2
    go_ret3
    exact take_none (m := 0) HT.out (Below.refl _ _)
  have h9 : (z == 0) = false := by simpa using h8
  by_cases h10' : z = 90
  rotate_left
  · have hT : takeI xs = ([], 0, 10) := by unfold takeI; rw [if_neg h0, hz.out, if_neg h1, if_neg h2, if_neg h4, hnn, if_neg (by rw [hy.out]; omega), if_pos (by rw [hy.out]; exact h10')]
    have HT := Aside0.mk hT
    have h11 : (z == 90) = false := by simpa using h10'
    clear hT h1 h2 h4 hN hnn h8 h10'
    go_enter Try.func15, Try.ntmps15
    go_wp2_with fail
    refine HN.out.mono ?_
    rintro e w' ⟨rfl, rfl⟩
    go_wp2
    go_ret3
    exact take_none (m := 0) HT.out (Below.refl _ _)
  subst h10'
  have HD5 := Aside0.mk (C_drop HR.out 5 (by omega) (by omega))
  have HN5 := Aside0.mk (number_calls (some ⟨ad.block, ad.off + 5, none⟩) (c - 5) (xs.length - 5) (xs.drop 5) w HD5.out (by omega) (by simp) (fun x h => HX.out x (List.mem_of_mem_drop h)))
  have hb9 := C_cut HR.out 9 n (by omega)
  have hbl : ((xs.drop 9).take n).length = n := by rw [List.length_take, List.length_drop]; omega
  obtain ⟨m5, hM⟩ : ∃ m : Int, num4 (xs.drop 5) = m := ⟨_, rfl⟩
  obtain ⟨body, hbody⟩ : ∃ b, (xs.drop 9).take n = b := ⟨_, rfl⟩
  have hB : takeI xs = if m5 ≠ (fsum body).toNat then ([], 0, 11) else (body, 10 + n, 0) := by
    unfold takeI; rw [if_neg h0, hz.out, if_neg h1, if_neg h2, if_neg h4, hnn, if_neg (by rw [hy.out]; omega), if_neg (by rw [hy.out]; simp), hM, hbody]
  rw [hbody] at hb9 hbl
  rw [hM] at HN5
  have e9 : 10 + n - 1 - 9 = body.length := by omega
  rw [show ad.add 9 = ⟨ad.block, ad.off + 9, none⟩ from by simp [Addr.add]] at hb9
  have HBL := Aside0.mk hbl
  have HB9 := Aside0.mk hb9
  have hs9 := sum_calls (some ⟨ad.block, ad.off + 9, none⟩) (c - 9) body w hb9 (by omega)
  rw [hbl] at hs9
  have HS := Aside0.mk hs9
  clear hs9
  have hm5 := Aside0.mk hM
  have hB' := Aside0.mk hB
  have E9 := Aside0.mk e9
  clear hb9 hbl hM hbody hB e9
  obtain ⟨S, hS⟩ : ∃ S, ((fsum body).toNat : Int) = S := ⟨_, rfl⟩
  have hS' := Aside0.mk hS
  rw [hS] at HS
  clear hS
  by_cases hq : m5 = S
  rotate_left
  · have hT : takeI xs = ([], 0, 11) := by rw [hB'.out, hS'.out, if_pos hq]
    have HT := Aside0.mk hT
    have h11 : (m5 != S) = true := by simpa using hq
    clear hT h1 h2 h4 hN hnn h8 hq
    go_enter Try.func15, Try.ntmps15
    go_wp2_with fail
    refine HN.out.mono ?_
    rintro e w' ⟨rfl, rfl⟩
    go_wp2_with fail
    refine HN5.out.mono ?_
    rintro e w' ⟨rfl, rfl⟩
    go_wp2_with fail
    refine HS.out.mono ?_
    rintro e w' ⟨rfl, hw⟩
    have HW := Aside0.mk hw
    clear hw
    go_wp2
    go_ret3
    exact take_none (m := 0) HT.out HW.out
  · have hT : takeI xs = (body, 10 + n, 0) := by rw [hB'.out, hS'.out, if_neg (by simpa using hq)]
    have HT := Aside0.mk hT
    have h11 : (m5 != S) = false := by simpa using hq
    clear hT h1 h2 h4 hN hnn h8 hq
    go_enter Try.func15, Try.ntmps15
    go_wp2_with fail
    refine HN.out.mono ?_
    rintro e w' ⟨rfl, rfl⟩
    go_wp2_with fail
    refine HN5.out.mono ?_
    rintro e w' ⟨rfl, rfl⟩
    go_wp2_with fail
    refine HS.out.mono ?_
    rintro e w2 ⟨rfl, hw⟩
    have HW := Aside0.mk hw
    have HB2 := Aside0.mk (Kd.C_below HB9.out hw)
    clear hw
    go_wp2_with (at_builtin; refine app_ints w (by rfl) _ _ _ rfl 5 1 Try.underlying22 HelpByte.info (by decide) _ 0 [] rfl (World.ownsRow_nil _ _ _ _) HW.out (some ⟨ad.block, ad.off + 9, none⟩) n (c - 9) body rfl HBL.out HB2.out ?hb ?_; (case hb => omega); intro v w9 HO5 HW5)
    go_ret3
    unfold TakePost
    rw [HT.out]
    refine ⟨v, ?_, ?_, HW5.out⟩
    · simp
    · rw [show body.length = 0 + n from by rw [HBL.out]; omega]; simpa using HO5.out
end Go.Proofs.Ytfkghmalccpcbaa.Frame
