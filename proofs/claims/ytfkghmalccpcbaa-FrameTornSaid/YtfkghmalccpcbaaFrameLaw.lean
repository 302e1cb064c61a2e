/- awake, Bytes, the reference's Pack, and the walk of FramePacks. -/
import Derived.Test.YtfkghmalccpcbaaFrame
import Derived.Lib.SlBytesConst
namespace Go.Proofs.Ytfkghmalccpcbaa.Frame
open Go Go.RowKit Go.Proofs.YtfkghmalccpcbaaW.PrintWords Go.Proofs.Ytfkghmalccpcbaa.Base Go.Proofs.Ytfkghmalccpcbaa.CrcMath Go.Proofs.Ytfkghmalccpcbaa.FrameMath
set_option linter.unusedVariables false
set_option linter.unusedSimpArgs false
theorem C_nil {k : IntKind} (w : World) : (Kd.int k).C w none ([] : List Int).length [] := by
  exact ⟨by simp, by decide, fun h => absurd h (by decide)⟩
theorem own_le {w : World} {b b' e size n : Nat} {v : Value} {xs : List Value} (h : w.ownsRow b e size v n xs) (hb : b' ≤ b) : w.ownsRow b' e size v n xs := by
  obtain ⟨h1, h2⟩ := h
  refine ⟨h1, ?_⟩
  rcases h2 with h2 | ⟨g, cap, cur, h3, h4, h5⟩
  · exact .inl h2
  · exact .inr ⟨g, cap, cur, h3, by omega, h5⟩
set_option maxRecDepth 100000 in
set_option maxHeartbeats 1000000 in
theorem refnumber_calls (s : W32) (w : World) : Calls Try.prog 24 #[.int .u32 s.toNat] w (IntsPost .u8 5 (le4 s.toNat) w) := by
  have hs := s.isLt
  go_enter Try.func24, Try.ntmps24
  go_wp2
  go_ret
  exact ⟨_, rfl, lit_row w (le4 s.toNat) _ _ _ (by simp [le4]; try omega) (Nat.le_refl _) (by rw [le4_length]; decide), (Below.refl _ _).alloc (Nat.le_refl _) _⟩

set_option maxRecDepth 100000 in
set_option maxHeartbeats 1000000 in
theorem bytes_calls (A B : Option Addr) (c d : Nat) (xs ys : List Int) (w : World) (hx : (Kd.int .u8).C w A xs.length xs) (hy : (Kd.int .u8).C w B ys.length ys) (bx : ∀ x ∈ xs, 0 ≤ x ∧ x ≤ 255) (bY : ∀ x ∈ ys, 0 ≤ x ∧ x ≤ 255) {b : Bool} (hb : decide (xs = ys) = b) :
    Calls Try.prog 13 #[.slice A xs.length c, .slice B ys.length d] w fun e w' => e = .returned (.bool b) ∧ w = w' := by
  have k1 := run_str (P := Try.prog) (c := c) hx 22 5 9 Try.underlying22 Try.underlying5
  have k2 := run_str (P := Try.prog) (c := d) hy 22 5 9 Try.underlying22 Try.underlying5
  have k3 := str_inj bx bY
  rw [hb] at k3
  go_enter Try.func13, Try.ntmps13
  go_wp2
  go_ret
  exact ⟨rfl, rfl⟩

set_option maxRecDepth 100000 in
set_option maxHeartbeats 1000000 in
theorem refpack_calls (A : Option Addr) (c : Nat) (xs : List Int) (w : World) (hr : (Kd.int .u8).C w A xs.length xs) (hn : xs.length * 1 ≤ 140737488351232) (hx : ∀ x ∈ xs, 0 ≤ x ∧ x ≤ 255) :
    Calls Try.prog 11 #[.slice A xs.length c] w (PackPost xs w) := by
  have HR := Aside0.mk hr
  have HX := Aside0.mk hx
  clear hr hx
  by_cases hb : 1048576 < xs.length
  · have hb1 : decide ((1048576 : Int) < (xs.length : Int)) = true := by simp; omega
    go_enter Try.func11, Try.ntmps11
    go_wp2
    go_ret2
    unfold PackPost
    rw [if_pos hb]
    exact ⟨rfl, rfl⟩
  · have hb1 : decide ((1048576 : Int) < (xs.length : Int)) = false := by simp; omega
    have hmod : (xs.length : Int) % 4294967296 = (xs.length : Int) := by omega
    obtain ⟨L, hL⟩ : ∃ s : W32, (xs.length : Int) = (s.toNat : Int) := ⟨BitVec.ofNat 32 xs.length, by rw [BitVec.toNat_ofNat]; omega⟩
    have HL := Aside0.mk hL
    clear hL
    go_enter Try.func11, Try.ntmps11
    go_wp2_with fail
    rw [HL.out]
    refine (refnumber_calls L w).mono ?_
    rintro e w1 ⟨v, rfl, ho, hw⟩
    obtain ⟨B, d, rfl, hl, hd, hB, _⟩ := int_reads ho
    rw [le4_length] at hl
    have HB := Aside0.mk hB
    have HW := Aside0.mk hw
    have HR1 := Aside0.mk (Kd.C_below HR.out hw)
    clear ho hB hw hd hl hmod
    go_wp2_with (at_builtin; have ho0 := lit_row (k := .u8) w1 [165] #[.int .u8 165] 5 w1.heap.size rfl (Nat.le_refl _) (by decide); have hw0 := (Below.refl w1.heap.size w1).alloc (Nat.le_refl _) (.cells #[.int .u8 165] 5); revert ho0 hw0; generalize w1.alloc (.cells #[.int .u8 165] 5) = w2; intro ho0 hw0; have HB1 := Kd.C_below HB.out hw0; have HO1 := Aside0.mk ho0; have HW1 := Aside0.mk hw0; clear ho0 hw0; refine app_ints w1 (by rfl) _ _ _ rfl 5 1 Try.underlying22 HelpByte.info (by decide) _ _ _ rfl HO1.out HW1.out B 4 d (le4 L.toNat) rfl ?hm HB1 ?hb ?_; (case hm => first | rfl | simp [le4]); (case hb => simp [le4]; try omega); clear HO1 HW1 HB1; intro v w9 HO2 HW2)
    refine (Crc.refsum_calls B d (le4 L.toNat) w9 (Kd.C_below HB.out HW2.out) (le4_bounds _)).mono ?_
    rintro e w' ⟨rfl, rfl⟩
    go_wp2_with fail
    refine (Crc.ref_calls _ A c xs w9 (Kd.C_below HR1.out HW2.out) HX.out).mono ?_
    rintro e w' ⟨rfl, rfl⟩
    go_wp2_with fail
    refine (refnumber_calls _ w9).mono ?_
    rintro e w5 ⟨v, rfl, ho, hw⟩
    obtain ⟨B, d, rfl, hl, hd, hB, _⟩ := int_reads ho
    rw [le4_length] at hl
    have hw5 := HW2.out.trans (hw.mono HW2.out.size)
    have HO4 := Aside0.mk (own_le (pw_own_below HO2.out hw) HW.out.size)
    have HW4 := Aside0.mk (HW.out.trans (hw5.mono HW.out.size))
    have HB := Aside0.mk hB
    clear ho hB hw hd hl HO2 HW2 hw5 HW HR1
    go_wp2_with (first | (at_builtin; refine app_ints w (by rfl) _ _ _ rfl 5 1 Try.underlying22 HelpByte.info (by decide) _ _ _ rfl HO4.out HW4.out B 4 d (le4 (add (sum (le4 L.toNat)) xs).toNat) rfl ?hm HB.out ?hb ?_; (case hm => first | rfl | simp [le4]); (case hb => simp [le4]; try omega); clear HO4 HW4; intro v w9 HO5 HW5) | (at_builtin; refine app_ints w (by rfl) _ _ _ rfl 5 1 Try.underlying22 HelpByte.info (by decide) _ _ _ rfl HO5.out HW5.out A xs.length c xs rfl ?hm (Kd.C_below HR.out HW5.out) ?hb ?_; (case hm => first | rfl | simp [le4]); (case hb => simp [le4]; try omega); clear HO5 HW5; intro v w9 HO6 HW6) | (at_builtin; refine app_lit w (by rfl) _ _ _ rfl 5 1 Try.underlying22 HelpByte.info (by decide) _ _ _ rfl HO6.out HW6.out 90 rfl ?hb ?_; (case hb => simp [le4]; try omega); clear HO6 HW6; intro v w9 HO7 HW7))
    go_ret2
    unfold PackPost
    rw [if_neg hb]
    have hl : List.length [(165 : Int)] + 4 + 4 + xs.length + 1 = (frame xs).length := by rw [frame_length]; simp; omega
    have hf : frame xs = [165] ++ le4 L.toNat ++ le4 (add (sum (le4 L.toNat)) xs).toNat ++ xs ++ [90] := by rw [← HL.out]; rfl
    refine ⟨_, rfl, ?_, HW7.out⟩
    rw [← hl, hf]
    exact HO7.out

theorem pack_fit {xs : List Int} {w w' : World} {e : Ending} (hb : ¬ 1048576 < xs.length) (h : PackPost xs w e w') :
    ∃ A c, e = .returned (.tuple #[.slice A (frame xs).length c, .int .i64 0]) ∧ (frame xs).length ≤ c ∧ (Kd.int .u8).C w' A (frame xs).length (frame xs) ∧ w'.ownsRow w.heap.size 5 1 (.slice A (frame xs).length c) (frame xs).length ((frame xs).map (Value.int .u8)) ∧ Below w.heap.size w w' := by
  unfold PackPost at h
  rw [if_neg hb] at h
  obtain ⟨v, rfl, ho, hw⟩ := h
  obtain ⟨B, d, rfl, hl, hd, hB, _⟩ := int_reads ho
  exact ⟨B, d, rfl, hd, hB, ho, hw⟩
theorem pack_full {xs : List Int} {w w' : World} {e : Ending} (hb : 1048576 < xs.length) (h : PackPost xs w e w') :
    e = .returned (.tuple #[.slice none 0 0, .int .i64 4]) ∧ w = w' := by
  unfold PackPost at h
  rw [if_pos hb] at h
  exact h
theorem frame_at (xs : List Int) (i : Nat) : i = 0 → (frame xs).getD i 0 = 165 := by rintro rfl; rfl
theorem frame_ab : (frame [97, 98]).getD 0 0 = 165 ∧ (frame [97, 98]).getD 11 0 = 90 := by decide +kernel

set_option maxRecDepth 100000 in
set_option maxHeartbeats 1000000 in
theorem awake_calls (w : World) : Calls Try.prog 12 #[] w fun e w' => e = .returned (.bool true) ∧ Below w.heap.size w w' := by
  have kc := fun (w : World) (C : Array Value) (n c : Nat) => Lib.run_convert_bytes_const (P := Try.prog) w 22 5 C n c Try.underlying22 Try.underlying5
  have hl : (frame [97, 98]).length = 12 := rfl
  go_enter Try.func12, Try.ntmps12
  go_wp2_with fail
  refine (pack_calls _ _ [97, 98] _ (C_lit w _ _ _ _ rfl (by decide)) (by decide)).mono ?_
  intro e w1 hp
  obtain ⟨B, d, rfl, hd, hB, ho, hw⟩ := pack_fit (by decide) hp
  obtain ⟨g, rfl, _⟩ := int_some ho (by rw [frame_length]; decide)
  obtain ⟨ad, x, he, h0, hx⟩ := at_nat hB 0 (by rw [frame_length]; decide)
  cases he
  obtain ⟨ad, y, he, h1, hy⟩ := at_nat hB 11 (by rw [frame_length]; decide)
  cases he
  obtain rfl : x = 165 := by rw [← hx.out]; exact frame_ab.1
  obtain rfl : y = 90 := by rw [← hy.out]; exact frame_ab.2
  have hw0 : Below w.heap.size w w1 := by
    have hs : w.heap.size ≤ (w.alloc (Obj.cells (List.map (Value.int IntKind.u8) [97, 98]).toArray 5 (2, 3))).heap.size := by rw [World.size_alloc]; omega
    exact ((Below.refl _ _).alloc (Nat.le_refl _) _).trans (hw.mono hs)
  rw [show (frame [97, 98]).length = 12 from rfl]
  have h0 : w1.cell? ⟨g, 0, none⟩ = some (Value.int .u8 165) := h0
  have h1 : w1.cell? ⟨g, 11, none⟩ = some (Value.int .u8 90) := h1
  clear hp hB ho hw hd
  go_wp2
  go_ret
  exact ⟨rfl, hw0⟩

set_option maxRecDepth 100000 in
set_option maxHeartbeats 1000000 in
theorem packs (A : Option Addr) (c : Nat) (xs : List Int) (w : World) (hr : (Kd.int .u8).C w A xs.length xs) (hc : xs.length ≤ c) (hn : xs.length * 1 ≤ 140737488351232) (hx : ∀ x ∈ xs, 0 ≤ x ∧ x ≤ 255) :
    Calls Try.prog 3 #[.slice A xs.length c] w fun e w' => e = .returned (.bool true) ∧ Below w.heap.size w w' := by
  have HR := Aside0.mk hr
  have HX := Aside0.mk hx
  have bf : ∀ x ∈ frame xs, 0 ≤ x ∧ x ≤ 255 := frame_bounds xs hx
  clear hr hx
  have BF := Aside0.mk bf
  clear bf
  by_cases hb : 1048576 < xs.length
  · go_enter Try.func3, Try.ntmps3
    go_wp2_with fail
    refine (HelpByte.own_calls A c xs 71 w HR.out hc hn).mono ?_
    rintro e w1 ⟨g, rfl, hg, hb0, hw⟩
    have HC2 := Aside0.mk (C_tailed hb0 (by omega))
    have HR2 := Aside0.mk (Kd.C_below HR.out hw)
    have HB2 := Aside0.mk hb0
    have HW2 := Aside0.mk hw
    clear hb0 hw hg
    go_wp2_with fail
    refine (pack_calls _ _ xs w1 HC2.out hn).mono ?_
    intro e w' hp
    obtain ⟨rfl, rfl⟩ := pack_full hb hp
    clear hp
    go_wp2_with fail
    refine (refpack_calls _ _ xs w1 HR2.out hn HX.out).mono ?_
    intro e w' hp
    obtain ⟨rfl, rfl⟩ := pack_full hb hp
    clear hp
    go_wp2_with fail
    refine (awake_calls w1).mono ?_
    rintro e w2 ⟨rfl, hw2⟩
    have HR3 := Aside0.mk (Kd.C_below HR2.out hw2)
    have HB3 := Aside0.mk (HB2.out)
    have HB3 := Aside0.mk (blk_below HB2.out hw2)
    have HW3 := Aside0.mk (HW2.out.trans (hw2.mono HW2.out.size))
    clear hw2
    go_wp2_with fail
    refine (bytes_calls none none 0 0 [] [] w2 (C_nil _) (C_nil _) (by simp) (by simp) (b := true) (by simp)).mono ?_
    rintro e w' ⟨rfl, rfl⟩
    go_wp2_with fail
    refine (HelpByte.kept_calls g A c xs 71 w2 HB3.out hn HR3.out).mono ?_
    rintro e w' ⟨rfl, n, rfl⟩
    go_wp2
    go_ret
    exact ⟨rfl, pw_below_drewN HW3.out n⟩
  · go_enter Try.func3, Try.ntmps3
    go_wp2_with fail
    refine (HelpByte.own_calls A c xs 71 w HR.out hc hn).mono ?_
    rintro e w1 ⟨g, rfl, hg, hb0, hw⟩
    have HC2 := Aside0.mk (C_tailed hb0 (by omega))
    have HR2 := Aside0.mk (Kd.C_below HR.out hw)
    have HB2 := Aside0.mk hb0
    have HW2 := Aside0.mk hw
    clear hb0 hw hg
    go_wp2_with fail
    refine (pack_calls _ _ xs w1 HC2.out hn).mono ?_
    intro e w2 hp
    obtain ⟨B, d, rfl, hd, hB, ho, hw⟩ := pack_fit hb hp
    have HR3 := Aside0.mk (Kd.C_below HR2.out hw)
    have HB3 := Aside0.mk (blk_below HB2.out hw)
    have HW3 := Aside0.mk (HW2.out.trans (hw.mono HW2.out.size))
    have HX3 := Aside0.mk hB
    clear hp hw hB ho HR2 HB2 HW2
    go_wp2_with fail
    refine (refpack_calls _ _ xs w2 HR3.out hn HX.out).mono ?_
    intro e w3 hp
    obtain ⟨B2, d2, rfl, hd2, hB, ho, hw⟩ := pack_fit hb hp
    have HR4 := Aside0.mk (Kd.C_below HR3.out hw)
    have HB4 := Aside0.mk (blk_below HB3.out hw)
    have HW4 := Aside0.mk (HW3.out.trans (hw.mono HW3.out.size))
    have HX4 := Aside0.mk (Kd.C_below HX3.out hw)
    have HY4 := Aside0.mk hB
    clear hp hw hB ho HR3 HB3 HW3 HX3
    go_wp2_with fail
    refine (awake_calls w3).mono ?_
    rintro e w4 ⟨rfl, hw2⟩
    have HR5 := Aside0.mk (Kd.C_below HR4.out hw2)
    have HB5 := Aside0.mk (blk_below HB4.out hw2)
    have HW5 := Aside0.mk (HW4.out.trans (hw2.mono HW4.out.size))
    have HX5 := Aside0.mk (Kd.C_below HX4.out hw2)
    have HY5 := Aside0.mk (Kd.C_below HY4.out hw2)
    clear hw2 HR4 HB4 HW4 HX4 HY4
    go_wp2_with fail
    refine (bytes_calls B B2 d d2 (frame xs) (frame xs) w4 HX5.out HY5.out BF.out BF.out (b := true) (by simp)).mono ?_
    rintro e w' ⟨rfl, rfl⟩
    go_wp2_with fail
    refine (HelpByte.kept_calls g A c xs 71 w4 HB5.out hn HR5.out).mono ?_
    rintro e w' ⟨rfl, n, rfl⟩
    go_wp2
    go_ret
    exact ⟨rfl, pw_below_drewN HW5.out n⟩
end Go.Proofs.Ytfkghmalccpcbaa.Frame
