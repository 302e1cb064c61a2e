/- The contracts of frame and of its reference. -/
import Derived.Test.YtfkghmalccpcbaaCrc
import Derived.Test.YtfkghmalccpcbaaFrameMath
import Derived.Test.YtfkghmalccpcbaaHelpByte
namespace Go.Proofs.Ytfkghmalccpcbaa.Frame
open Go Go.RowKit Go.Proofs.YtfkghmalccpcbaaW.PrintWords Go.Proofs.Ytfkghmalccpcbaa.Base Go.Proofs.Ytfkghmalccpcbaa.CrcMath Go.Proofs.Ytfkghmalccpcbaa.FrameMath
set_option linter.unusedVariables false
set_option linter.unusedSimpArgs false
set_option maxRecDepth 100000 in
set_option maxHeartbeats 1000000 in
theorem word_calls (n : Int) (w : World) : Calls Try.prog 22 #[.int .u32 n] w (IntsPost .u8 5 (le4 n) w) := by
  go_enter Try.func22, Try.ntmps22
  go_wp2
  go_loopw [3, 5] (fun v i wr => ∃ k : Nat, k ≤ 4 ∧ i = .int .i64 k ∧ Aside0 (wr.ownsRow w.heap.size 5 1 v k (((le4 n).take k).map (Value.int .u8))) ∧ Aside0 (Below w.heap.size w wr)) (fun _ i _ => 4 - (intOf i).toNat)
  case atStart => exact ⟨0, by omega, rfl, ⟨World.ownsRow_nil _ _ _ _⟩, ⟨Below.refl _ _⟩⟩
  case round =>
    obtain ⟨k, hk, rfl, HO, HB⟩ := hrel
    by_cases hlt : k < 4
    · go_wp2_with (at_builtin; refine append_own_any _ (by rfl) _ _ _ rfl w.heap.size 5 (.int .u8 0) 1 1 Try.underlying22 HelpByte.info rfl (by decide) (by decide) _ k _ rfl (HO.out.alloc _) _ 1 1 [.int .u8 (n / 2 ^ (8 * k) % 256)] rfl ?hn ?hc ?hz ?h1 ?b1 ?bb ?_; (case hn => rfl); (case hc => exact news_lit wr _ _ _); (case hz => exact fun h => by cases h); (case h1 => simp [Value.oneCell']); (case b1 => omega); (case bb => have hs := HB.out.size; simp only [World.size_alloc]; omega); intro v3 w3 ho3 hg3)
      go_roundw
      case rel =>
        have h3 := ho3.out
        rw [show (List.map (Value.int .u8) ((le4 n).take k) ++ [Value.int .u8 (n / 2 ^ (8 * k) % 256)]) = ((le4 n).take (k + 1)).map (Value.int .u8) from by rw [le4_take n k hlt, List.map_append]; rfl] at h3
        exact ⟨k + 1, by omega, by go_num, ⟨h3⟩, ⟨(HB.out.alloc HB.out.size _).grown hg3 (by have hs := HB.out.size; simp only [World.size_alloc]; omega) (own_base HO.out)⟩⟩
      case measure => simp [intOf]; omega
    · obtain rfl : k = 4 := by omega
      go_wp2
      go_ret
      exact ⟨_, rfl, HO.out, HB.out⟩

set_option maxRecDepth 100000 in
set_option maxHeartbeats 1000000 in
theorem sum_calls (A : Option Addr) (c : Nat) (xs : List Int) (w : World) (hr : (Kd.int .u8).C w A xs.length xs) (hn : xs.length ≤ 4294967295) :
    Calls Try.prog 23 #[.slice A xs.length c] w fun e w' => e = .returned (.int .u32 (fsum xs).toNat) ∧ Below w.heap.size w w' := by
  have HR := Aside0.mk hr
  clear hr
  have hmod : (xs.length : Int) % 4294967296 = (xs.length : Int) := by omega
  go_enter Try.func23, Try.ntmps23
  go_wp2_with fail
  refine (word_calls xs.length w).mono ?_
  rintro e w1 ⟨v, rfl, ho, hw⟩
  obtain ⟨B, d, rfl, hl, hd, hC, _⟩ := int_reads ho
  rw [le4_length] at hl
  have HC := Aside0.mk hC
  have HR1 := Aside0.mk (Kd.C_below HR.out hw)
  have HW := Aside0.mk hw
  clear ho hC hw hd hl hmod
  go_wp2_with fail
  refine (Crc.sum_calls B d (le4 xs.length) w1 HC.out).mono ?_
  rintro e w' ⟨rfl, rfl⟩
  go_wp2_with fail
  refine (Crc.add_calls (sum (le4 xs.length)) A c xs w1 HR1.out).mono ?_
  rintro e w' ⟨rfl, rfl⟩
  go_wp2
  go_ret
  exact ⟨rfl, HW.out⟩

/-- What Pack leaves. -/
def PackPost (xs : List Int) (w : World) (e : Ending) (w' : World) : Prop :=
  if 1048576 < xs.length then e = .returned (.tuple #[.slice none 0 0, .int .i64 4]) ∧ w = w'
  else ∃ v, e = .returned (.tuple #[v, .int .i64 0]) ∧ w'.ownsRow w.heap.size 5 1 v (frame xs).length ((frame xs).map (Value.int .u8)) ∧ Below w.heap.size w w'

set_option maxRecDepth 100000 in
set_option maxHeartbeats 1000000 in
theorem pack_calls (A : Option Addr) (c : Nat) (xs : List Int) (w : World) (hr : (Kd.int .u8).C w A xs.length xs) (hn : xs.length * 1 ≤ 140737488351232) :
    Calls Try.prog 10 #[.slice A xs.length c] w (PackPost xs w) := by
  have HR := Aside0.mk hr
  clear hr
  by_cases hb : 1048576 < xs.length
  · have hb1 : decide ((1048576 : Int) < (xs.length : Int)) = true := by simp; omega
    go_enter Try.func10, Try.ntmps10
    go_wp2
    go_ret2
    unfold PackPost
    rw [if_pos hb]
    exact ⟨rfl, rfl⟩
  · have hb1 : decide ((1048576 : Int) < (xs.length : Int)) = false := by simp; omega
    have hmod : (xs.length : Int) % 4294967296 = (xs.length : Int) := by omega
    go_enter Try.func10, Try.ntmps10
    go_wp2_with fail
    have ho0 := lit_row (k := .u8) w [165] #[.int .u8 165] 5 w.heap.size rfl (Nat.le_refl _) (by decide)
    have hw0 : Below w.heap.size w (w.alloc (.cells #[.int .u8 165] 5)) := (Below.refl _ _).alloc (Nat.le_refl _) _
    revert ho0 hw0
    generalize w.alloc (.cells #[.int .u8 165] 5) = w1
    intro ho0 hw0
    have HO := Aside0.mk ho0
    have HW := Aside0.mk hw0
    clear ho0 hw0
    refine (word_calls xs.length w1).mono ?_
    rintro e w2 ⟨v, rfl, ho, hw⟩
    obtain ⟨B, d, rfl, hl, hd, hB, _⟩ := int_reads ho
    rw [le4_length] at hl
    have HO1 := Aside0.mk (pw_own_below HO.out hw)
    have HW1 := Aside0.mk (HW.out.trans (hw.mono HW.out.size))
    have HB := Aside0.mk hB
    clear ho hB hw hd hl HO HW
    go_wp2_with (at_builtin; refine app_ints w (by rfl) _ _ _ rfl 5 1 Try.underlying22 HelpByte.info (by decide) _ _ _ rfl HO1.out HW1.out B 4 d (le4 xs.length) rfl ?hm HB.out ?hb ?_; (case hm => first | rfl | simp [le4]); (case hb => simp [le4]; try omega); clear HO1 HW1; intro v w9 HO2 HW2)
    refine (sum_calls A c xs w9 (Kd.C_below HR.out HW2.out) (by omega)).mono ?_
    rintro e w4 ⟨rfl, hw⟩
    have HO3 := Aside0.mk (pw_own_below HO2.out hw)
    have HW3 := Aside0.mk (HW2.out.trans (hw.mono HW2.out.size))
    clear hw HO2 HW2 HB
    go_wp2_with fail
    refine (word_calls (fsum xs).toNat w4).mono ?_
    rintro e w5 ⟨v, rfl, ho, hw⟩
    obtain ⟨B, d, rfl, hl, hd, hB, _⟩ := int_reads ho
    rw [le4_length] at hl
    have HO4 := Aside0.mk (pw_own_below HO3.out hw)
    have HW4 := Aside0.mk (HW3.out.trans (hw.mono HW3.out.size))
    have HB := Aside0.mk hB
    clear ho hB hw hd hl HO3 HW3
    go_wp2_with (first | (at_builtin; refine app_ints w (by rfl) _ _ _ rfl 5 1 Try.underlying22 HelpByte.info (by decide) _ _ _ rfl HO4.out HW4.out B 4 d (le4 (fsum xs).toNat) rfl ?hm HB.out ?hb ?_; (case hm => first | rfl | simp [le4]); (case hb => simp [le4]; try omega); clear HO4 HW4; intro v w9 HO5 HW5) | (at_builtin; refine app_ints w (by rfl) _ _ _ rfl 5 1 Try.underlying22 HelpByte.info (by decide) _ _ _ rfl HO5.out HW5.out A xs.length c xs rfl ?hm (Kd.C_below HR.out HW5.out) ?hb ?_; (case hm => first | rfl | simp [le4]); (case hb => simp [le4]; try omega); clear HO5 HW5; intro v w9 HO6 HW6) | (at_builtin; refine app_lit w (by rfl) _ _ _ rfl 5 1 Try.underlying22 HelpByte.info (by decide) _ _ _ rfl HO6.out HW6.out 90 rfl ?hb ?_; (case hb => simp [le4]; try omega); clear HO6 HW6; intro v w9 HO7 HW7))
    go_ret2
    unfold PackPost
    rw [if_neg hb]
    have hl : List.length [(165 : Int)] + 4 + 4 + xs.length + 1 = (frame xs).length := by rw [frame_length]; simp; omega
    exact ⟨_, rfl, by rw [← hl]; exact HO7.out, HW7.out⟩
end Go.Proofs.Ytfkghmalccpcbaa.Frame
