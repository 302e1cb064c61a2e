/- The walk of FrameTakes. -/
import Derived.Test.YtfkghmalccpcbaaScanRef
namespace Go.Proofs.Ytfkghmalccpcbaa.Frame
open Go Go.RowKit Go.Proofs.YtfkghmalccpcbaaW.PrintWords Go.Proofs.Ytfkghmalccpcbaa.Base Go.Proofs.Ytfkghmalccpcbaa.CrcMath Go.Proofs.Ytfkghmalccpcbaa.FrameMath
set_option linter.unusedVariables false
set_option linter.unusedSimpArgs false
theorem takeI_bytes (xs : List Int) (hx : ∀ x ∈ xs, 0 ≤ x ∧ x ≤ 255) : ∀ x ∈ (takeI xs).1, 0 ≤ x ∧ x ≤ 255 := by
  intro x h
  unfold takeI at h
  split at h
  · cases h
  split at h
  · cases h
  split at h
  · cases h
  split at h
  · cases h
  split at h
  · cases h
  split at h
  · cases h
  split at h
  · cases h
  exact hx x (List.mem_of_mem_drop (List.mem_of_mem_take h))
theorem scanI_bytes : ∀ (f : Nat) (xs : List Int), (∀ x ∈ xs, 0 ≤ x ∧ x ≤ 255) → ∀ b ∈ (scanI f xs).1, ∀ x ∈ b, 0 ≤ x ∧ x ≤ 255
  | 0, xs, hx, b, hb => by cases hb
  | f + 1, xs, hx, b, hb => by
    simp only [scanI] at hb
    split at hb
    · rcases List.mem_cons.mp hb with rfl | hb
      · exact takeI_bytes xs hx
      · exact scanI_bytes f _ (fun x h => hx x (List.mem_of_mem_drop h)) b hb
    · split at hb <;> cases hb
theorem scanI_many : ∀ (f : Nat) (xs : List Int), (scanI f xs).1.length ≤ xs.length
  | 0, xs => by simp [scanI]
  | f + 1, xs => by
    simp only [scanI]
    split
    · rename_i h
      have h1 := takeI_ok xs h
      have h2 := scanI_many f (xs.drop (takeI xs).2.1)
      rw [List.length_drop] at h2
      simp only [List.length_cons]
      omega
    · split <;> simp

set_option maxRecDepth 100000 in
set_option maxHeartbeats 1000000 in
theorem refscan_none (c : Nat) (w : World) : Calls Try.prog 19 #[.slice none 0 c] w (ScanPost [] w) := by
  go_enter Try.func19, Try.ntmps19
  go_wp2
  go_loopw [5, 6] (fun v i wr => v = .slice none 0 0 ∧ i = .int .i64 0 ∧ Aside0 (Below w.heap.size w wr)) (fun _ i _ => 0)
  case atStart => exact ⟨rfl, rfl, ⟨Below.refl _ _⟩⟩
  case round =>
    obtain ⟨rfl, rfl, HB⟩ := hrel
    go_wp2_with fail
    refine (reftake_calls none _ [] _ (C_nil _) (by simp) (by simp) (by simp)).mono ?_
    intro e w2 hp
    obtain ⟨uA, uc, rfl, hu, hw⟩ := take_own (show takeI [] = ([], 0, 6) from rfl) hp
    have HB2 := Aside0.mk (HB.out.trans (hw.mono HB.out.size))
    clear hp hu hw
    go_wp2
    go_ret3
    exact scan_done (by rfl) (LR_nil _ _) HB2.out
theorem refscan_any (A : Option Addr) (c : Nat) (xs : List Int) (w : World) (hr : (Kd.int .u8).C w A xs.length xs) (hc : xs.length ≤ c) (hn : xs.length ≤ 1048576) (hx : ∀ x ∈ xs, 0 ≤ x ∧ x ≤ 255) :
    Calls Try.prog 19 #[.slice A xs.length c] w (ScanPost xs w) := by
  cases A with
  | some ad => exact refscan_calls ad c xs w hr hc hn hx
  | none =>
    have h0 : xs = [] := List.eq_nil_of_length_eq_zero (none_int hr rfl)
    subst h0
    exact refscan_none c w

set_option maxRecDepth 100000 in
set_option maxHeartbeats 1000000 in
theorem takes (A : Option Addr) (c : Nat) (xs : List Int) (w : World) (hr : (Kd.int .u8).C w A xs.length xs) (hc : xs.length ≤ c) (hn : xs.length ≤ 1048576) (hx : ∀ x ∈ xs, 0 ≤ x ∧ x ≤ 255) :
    Calls Try.prog 6 #[.slice A xs.length c] w fun e w' => e = .returned (.bool true) ∧ Below w.heap.size w w' := by
  have HR := Aside0.mk hr
  have HX := Aside0.mk hx
  obtain ⟨b, n, q, hT⟩ : ∃ b n q, takeI xs = (b, n, q) := ⟨_, _, _, rfl⟩
  obtain ⟨bs, k, p, hS⟩ : ∃ bs k p, scanI (xs.length + 1) xs = (bs, k, p) := ⟨_, _, _, rfl⟩
  have tb := takeI_bytes xs hx
  have sb := scanI_bytes (xs.length + 1) xs hx
  have sm := scanI_many (xs.length + 1) xs
  rw [hT] at tb
  rw [hS] at sb sm
  have TB := Aside0.mk tb
  have SB := Aside0.mk sb
  have hbs : bs.length ≤ 9223372036854775807 := by have : bs.length ≤ xs.length := sm; omega
  have HBS := Aside0.mk hbs
  have HT := Aside0.mk hT
  have HS := Aside0.mk hS
  clear hr hx tb sb sm hbs hT hS
  go_enter Try.func6, Try.ntmps6
  go_wp2_with fail
  refine (HelpByte.own_calls A c xs 71 w HR.out hc (by omega)).mono ?_
  rintro e w1 ⟨g, rfl, hg, hb0, hw⟩
  have HC1 := Aside0.mk (C_tailed hb0 (by omega))
  have HR1 := Aside0.mk (Kd.C_below HR.out hw)
  have HB1 := Aside0.mk hb0
  have HW1 := Aside0.mk hw
  clear hb0 hw hg
  go_wp2_with fail
  refine (take_calls _ _ xs w1 HC1.out (by omega) (by omega) HX.out).mono ?_
  intro e w2 hp
  obtain ⟨xA, xc, rfl, hx2, hw⟩ := take_out HT.out hp
  have HC2 := Aside0.mk (Kd.C_below HC1.out hw)
  have HR2 := Aside0.mk (Kd.C_below HR1.out hw)
  have HB2 := Aside0.mk (blk_below HB1.out hw)
  have HW2 := Aside0.mk (HW1.out.trans (hw.mono HW1.out.size))
  have HX2 := Aside0.mk hx2
  clear hp hx2 hw HC1 HR1 HB1 HW1
  go_wp2_with fail
  refine (reftake_calls _ _ xs w2 HR2.out hc (by omega) HX.out).mono ?_
  intro e w3 hp
  obtain ⟨yA, yc, rfl, hy3, hw⟩ := take_out HT.out hp
  have HC3 := Aside0.mk (Kd.C_below HC2.out hw)
  have HR3 := Aside0.mk (Kd.C_below HR2.out hw)
  have HB3 := Aside0.mk (blk_below HB2.out hw)
  have HW3 := Aside0.mk (HW2.out.trans (hw.mono HW2.out.size))
  have HX3 := Aside0.mk (Kd.C_below HX2.out hw)
  have HY3 := Aside0.mk hy3
  clear hp hy3 hw HC2 HR2 HB2 HW2 HX2
  go_wp2_with fail
  refine (scan_calls _ _ xs w3 HC3.out (by omega) hn HX.out).mono ?_
  intro e w4 hp
  unfold ScanPost at hp
  rw [HS.out] at hp
  obtain ⟨v, rfl, hl, hw⟩ := hp
  obtain ⟨lA, lc, rfl⟩ := LR_len hl
  have HR4 := Aside0.mk (Kd.C_below HR3.out hw)
  have HB4 := Aside0.mk (blk_below HB3.out hw)
  have HW4 := Aside0.mk (HW3.out.trans (hw.mono HW3.out.size))
  have HX4 := Aside0.mk (Kd.C_below HX3.out hw)
  have HY4 := Aside0.mk (Kd.C_below HY3.out hw)
  have HL4 := Aside0.mk hl
  clear hl hw HC3 HR3 HB3 HW3 HX3 HY3
  go_wp2_with fail
  refine (refscan_any _ _ xs w4 HR4.out hc hn HX.out).mono ?_
  intro e w5 hp
  unfold ScanPost at hp
  rw [HS.out] at hp
  obtain ⟨v, rfl, hl, hw⟩ := hp
  obtain ⟨rA, rc, rfl⟩ := LR_len hl
  have HR5 := Aside0.mk (Kd.C_below HR4.out hw)
  have HB5 := Aside0.mk (blk_below HB4.out hw)
  have HW5 := Aside0.mk (HW4.out.trans (hw.mono HW4.out.size))
  have HX5 := Aside0.mk (Kd.C_below HX4.out hw)
  have HY5 := Aside0.mk (Kd.C_below HY4.out hw)
  have HL5 := Aside0.mk (LR_below HL4.out hw)
  have HM5 := Aside0.mk hl
  clear hl hw HR4 HB4 HW4 HX4 HY4 HL4
  go_wp2_with fail
  refine (awake_calls w5).mono ?_
  rintro e w6 ⟨rfl, hw⟩
  have HR6 := Aside0.mk (Kd.C_below HR5.out hw)
  have HB6 := Aside0.mk (blk_below HB5.out hw)
  have HW6 := Aside0.mk (HW5.out.trans (hw.mono HW5.out.size))
  have HX6 := Aside0.mk (Kd.C_below HX5.out hw)
  have HY6 := Aside0.mk (Kd.C_below HY5.out hw)
  have HL6 := Aside0.mk (LR_below HL5.out hw)
  have HM6 := Aside0.mk (LR_below HM5.out hw)
  clear hw HR5 HB5 HW5 HX5 HY5 HL5 HM5
  go_wp2_with fail
  refine (bytes_calls xA yA xc yc b b w6 HX6.out HY6.out TB.out TB.out (b := true) (by simp)).mono ?_
  rintro e w' ⟨rfl, rfl⟩
  go_wp2_with fail
  refine (same_rows _ _ lA rA lc rc bs w6 HL6.out HM6.out SB.out HBS.out).mono ?_
  rintro e w' ⟨rfl, m, rfl⟩
  go_wp2_with fail
  refine (HelpByte.kept_calls g A c xs 71 (w6.drewN m) (by exact HB6.out) (by omega) (C_drawn HR6.out _)).mono ?_
  rintro e w' ⟨rfl, n, rfl⟩
  go_wp2
  go_ret
  exact ⟨rfl, pw_below_drewN HW6.out (m + n)⟩
end Go.Proofs.Ytfkghmalccpcbaa.Frame
