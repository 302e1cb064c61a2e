/- What was packed is taken: the walk of FrameBack. -/
import Derived.Test.YtfkghmalccpcbaaTakeRef
namespace Go.Proofs.Ytfkghmalccpcbaa.Frame
open Go Go.RowKit Go.Proofs.YtfkghmalccpcbaaW.PrintWords Go.Proofs.Ytfkghmalccpcbaa.Base Go.Proofs.Ytfkghmalccpcbaa.CrcMath Go.Proofs.Ytfkghmalccpcbaa.FrameMath
set_option linter.unusedVariables false
set_option linter.unusedSimpArgs false
theorem num4_le4 (n : Int) (t : List Int) (h0 : 0 ≤ n) (h1 : n ≤ 4294967295) : num4 (le4 n ++ t) = n := by
  simp [num4, part4, le4]
  omega
theorem takeI_frame (xs more : List Int) (h : xs.length ≤ 1048576) : takeI (frame xs ++ more) = (xs, xs.length + 10, 0) := by
  have hs := (fsum xs).isLt
  have d1 : (frame xs ++ more).drop 1 = le4 xs.length ++ (le4 (fsum xs).toNat ++ xs ++ [90] ++ more) := by simp [frame]
  have d5 : (frame xs ++ more).drop 5 = le4 (fsum xs).toNat ++ (xs ++ [90] ++ more) := by simp [frame, le4]
  have d9 : (frame xs ++ more).drop 9 = xs ++ ([90] ++ more) := by simp [frame, le4]
  have n1 : num4 ((frame xs ++ more).drop 1) = xs.length := by rw [d1]; exact num4_le4 _ _ (by omega) (by omega)
  have n5 : num4 ((frame xs ++ more).drop 5) = (fsum xs).toNat := by rw [d5]; exact num4_le4 _ _ (by omega) (by omega)
  have hn : (num4 ((frame xs ++ more).drop 1)).toNat = xs.length := by rw [n1]; rfl
  have ht : ((frame xs ++ more).drop 9).take xs.length = xs := by rw [d9, List.take_left]
  have h0 : (frame xs ++ more).getD 0 0 = 165 := by simp [frame]
  have hl : (frame xs ++ more).length = xs.length + 10 + more.length := by rw [List.length_append, frame_length]
  have h9 : (frame xs ++ more).getD (9 + xs.length) 0 = 90 := by
    have e : (frame xs ++ more).getD (9 + xs.length) 0 = ((frame xs ++ more).drop 9).getD xs.length 0 := by
      rw [List.getD_eq_getElem?_getD, List.getD_eq_getElem?_getD, List.getElem?_drop]
    rw [e, d9, List.getD_eq_getElem?_getD, List.getElem?_append_right (Nat.le_refl _)]
    simp
  unfold takeI
  rw [hn, h0, h9, ht, n5, n1, if_neg (by omega), if_neg (by simp), if_neg (by omega), if_neg (by omega), if_neg (by omega), if_neg (by simp), if_neg (by simp)]
  rw [Nat.add_comm]
theorem take_out {xs ys : List Int} {n : Nat} {q : Int} {w w' : World} {e : Ending} (ht : takeI xs = (ys, n, q)) (h : TakePost xs w e w') :
    ∃ A c, e = .returned (.tuple #[.slice A ys.length c, .int .i64 n, .int .i64 q]) ∧ (Kd.int .u8).C w' A ys.length ys ∧ Below w.heap.size w w' := by
  unfold TakePost at h
  rw [ht] at h
  obtain ⟨v, rfl, ho, hw⟩ := h
  obtain ⟨B, d, rfl, _, _, hB, _⟩ := int_reads ho
  exact ⟨B, d, rfl, hB, hw⟩

set_option maxRecDepth 100000 in
set_option maxHeartbeats 1000000 in
theorem back (A B : Option Addr) (c d : Nat) (xs ys : List Int) (w : World) (hr : (Kd.int .u8).C w A xs.length xs) (hs : (Kd.int .u8).C w B ys.length ys) (hn : xs.length ≤ 1048576) (hm : ys.length ≤ 1048576) (hx : ∀ x ∈ xs, 0 ≤ x ∧ x ≤ 255) (hy : ∀ x ∈ ys, 0 ≤ x ∧ x ≤ 255) :
    Calls Try.prog 4 #[.slice A xs.length c, .slice B ys.length d] w fun e w' => e = .returned (.bool true) ∧ Below w.heap.size w w' := by
  have HR := Aside0.mk hr
  have HS := Aside0.mk hs
  have HX := Aside0.mk hx
  have ht := takeI_frame xs ys hn
  have HT := Aside0.mk ht
  have bf : ∀ x ∈ frame xs ++ ys, 0 ≤ x ∧ x ≤ 255 := by
    intro x h
    rcases List.mem_append.mp h with h | h
    · exact frame_bounds xs hx x h
    · exact hy x h
  have BF := Aside0.mk bf
  have fl := frame_length xs
  have hfl : ((frame xs).length : Int) = (xs.length : Int) + 10 := by omega
  have FL := Aside0.mk hfl
  have FLN := Aside0.mk fl
  clear hr hs hx hy ht bf hfl fl
  go_enter Try.func4, Try.ntmps4
  go_wp2_with fail
  refine (pack_calls A c xs w HR.out (by omega)).mono ?_
  intro e w1 hp
  obtain ⟨C, k, rfl, hd, hC, ho, hw⟩ := pack_fit (by omega) hp
  have HR1 := Aside0.mk (Kd.C_below HR.out hw)
  have HS1 := Aside0.mk (Kd.C_below HS.out hw)
  have HC1 := Aside0.mk hC
  have HW1 := Aside0.mk hw
  clear hp hw hC ho
  go_wp2_with fail
  refine (awake_calls w1).mono ?_
  rintro e w2 ⟨rfl, hw⟩
  have HR2 := Aside0.mk (Kd.C_below HR1.out hw)
  have HS2 := Aside0.mk (Kd.C_below HS1.out hw)
  have HC2 := Aside0.mk (Kd.C_below HC1.out hw)
  have HW2 := Aside0.mk (HW1.out.trans (hw.mono HW1.out.size))
  clear hw HW1 HR1 HS1 HC1
  go_wp2_with fail
  refine (HelpByte.copy_calls C k (frame xs) w2 HC2.out (by have := FLN.out; omega)).mono ?_
  rintro e w3 ⟨v, rfl, ho, hw⟩
  have HO3 := Aside0.mk ho
  have HB3 := Aside0.mk hw
  clear ho hw
  go_wp2_with (at_builtin; refine app_ints w2 (by rfl) _ _ _ rfl 5 1 Try.underlying22 HelpByte.info (by decide) v (frame xs).length (frame xs) rfl HO3.out HB3.out B ys.length d ys rfl rfl (Kd.C_below HS2.out HB3.out) ?hb ?_; (case hb => have := FLN.out; omega); clear HO3 HB3; intro v4 w4 HO4 HB4)
  obtain ⟨D, m, rfl, hl4, hc4, hD, _⟩ := int_reads HO4.out
  have HR4 := Aside0.mk (Kd.C_below HR2.out HB4.out)
  have HW4 := Aside0.mk (HW2.out.trans (HB4.out.mono HW2.out.size))
  have HD4 := Aside0.mk hD
  have HC4 := Aside0.mk hc4
  clear hD hl4 hc4 HO4 HB4 HR2 HS2 HC2
  go_wp2_with fail
  refine (take_calls D m (frame xs ++ ys) w4 HD4.out HC4.out (by rw [List.length_append]; have := FLN.out; omega) BF.out).mono ?_
  intro e w5 hp
  obtain ⟨E, q, rfl, hE, hw⟩ := take_out HT.out hp
  have HR5 := Aside0.mk (Kd.C_below HR4.out hw)
  have HE5 := Aside0.mk hE
  have HW5 := Aside0.mk (HW4.out.trans (hw.mono HW4.out.size))
  clear hp hE hw
  rw [show xs.length + 10 = (frame xs).length from FLN.out.symm]
  go_wp2_with fail
  refine (bytes_calls E A q c xs xs w5 HE5.out HR5.out HX.out HX.out (b := true) (by simp)).mono ?_
  rintro e w' ⟨rfl, rfl⟩
  go_wp2
  go_ret
  exact ⟨rfl, HW5.out⟩
end Go.Proofs.Ytfkghmalccpcbaa.Frame
