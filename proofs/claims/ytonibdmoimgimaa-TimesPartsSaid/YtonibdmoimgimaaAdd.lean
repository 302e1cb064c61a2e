/- Sums below the end: num.Add and its reference. -/
import Derived.Test.YtonibdmoimgimaaHold
namespace Go.Proofs.Ytonibdmoimgimaa.Add
open Go Go.RowKit Go.Proofs.YtonibdmoimgimaaW.PrintWords Go.Proofs.Ytonibdmoimgimaa.Base
set_option linter.unusedVariables false
set_option linter.unusedSimpArgs false
/-- A sum, or the end. -/
def addI (a b : Int) : Int := min (max a 0 + max b 0) 1152921504606846976
theorem addI_bounds (a b : Int) : 0 ≤ addI a b ∧ addI a b ≤ 1152921504606846976 := by unfold addI; omega
theorem ret_i64 {a b : Int} (h : a = b) : Ending.returned (.int .i64 a) = Ending.returned (.int .i64 b) := by rw [h]
set_option maxRecDepth 100000 in
set_option maxHeartbeats 1000000 in
theorem add_calls (a b : Int) (w : World) : Calls Try.prog 28 #[.int .i64 a, .int .i64 b] w fun e w' => e = .returned (.int .i64 (addI a b)) ∧ w = w' := by
  obtain ⟨p, hp⟩ : ∃ p, max a 0 = p := ⟨_, rfl⟩
  obtain ⟨q, hq⟩ : ∃ q, max b 0 = q := ⟨_, rfl⟩
  have hp1 : (if a < 0 then (0 : Int) else a) = p := by rw [← hp]; split <;> omega
  have hq1 : (if b < 0 then (0 : Int) else b) = q := by rw [← hq]; split <;> omega
  have hE : Aside0 (addI a b = min (p + q) 1152921504606846976) := ⟨by unfold addI; rw [hp, hq]⟩
  have hp0 : 0 ≤ p := by omega
  have hq0 : 0 ≤ q := by omega
  clear hp hq
  by_cases h1 : 1152921504606846976 ≤ p
  · have E : Aside0 (addI a b = 1152921504606846976) := ⟨by rw [hE.out]; omega⟩
    go_enter Try.func28, Try.ntmps28
    go_wp2
    go_ret
    exact ⟨ret_i64 E.out.symm, rfl⟩
  · by_cases h2 : 1152921504606846976 ≤ q
    · have E : Aside0 (addI a b = 1152921504606846976) := ⟨by rw [hE.out]; omega⟩
      go_enter Try.func28, Try.ntmps28
      go_wp2
      go_ret
      exact ⟨ret_i64 E.out.symm, rfl⟩
    · by_cases h3 : 1152921504606846976 ≤ p + q
      · have E : Aside0 (addI a b = 1152921504606846976) := ⟨by rw [hE.out]; omega⟩
        go_enter Try.func28, Try.ntmps28
        go_wp2
        go_ret
        exact ⟨ret_i64 E.out.symm, rfl⟩
      · have E : Aside0 (addI a b = p + q) := ⟨by rw [hE.out]; omega⟩
        go_enter Try.func28, Try.ntmps28
        go_wp2
        go_ret
        exact ⟨ret_i64 E.out.symm, rfl⟩
end Go.Proofs.Ytonibdmoimgimaa.Add
