/- For all numbers a and b: the sum, the lesser one and the test are what the document's answer says. -/
import Derived.Test.YtbpghlfmkbjjcaaPNumAddsx1
namespace Go.Proofs.Ytbpghlfmkbjjcaa.Pure
open Go.RowKit Go.Proofs.Ytbpghlfmkbjjcaa.PNumAdds Go.Proofs.YtbpghlfmkbjjcaaW.PrintWords Go.Proofs.YtbpghlfmkbjjcaaW.PrintLast Go.Proofs.YtbpghlfmkbjjcaaW.PrintMore

theorem bounds_i64 {n : Int} (h : (Lit.int .i64 n).wf = true) : -9223372036854775808 ≤ n ∧ n ≤ 9223372036854775807 := by
  simp [Lit.wf, IntKind.min, IntKind.max, IntKind.signed, IntKind.bits] at h
  omega

theorem awake_true : hansomlaw01_awake.f 10 = some true := by decide +kernel

/-- What a sum is, said plainly. -/
def sum (a b : Int) : Int := if max a 0 + max b 0 ≥ 1152921504606846976 then 1152921504606846976 else max a 0 + max b 0

theorem add_is (a b : Int) (ha : (Lit.int .i64 a).wf = true) (hb : (Lit.int .i64 b).wf = true) : num_Add.f a b = some (sum a b) := by
  have h1 := bounds_i64 ha
  have h2 := bounds_i64 hb
  unfold num_Add.f mx wrap64 sum
  repeat' split
  all_goals first | rfl | (exfalso; omega) | (congr 1; omega)


theorem ref_is (a b : Int) (ha : (Lit.int .i64 a).wf = true) (hb : (Lit.int .i64 b).wf = true) : hansomref01_Add.f a b = some (sum a b) := by
  have h1 := bounds_i64 ha
  have h2 := bounds_i64 hb
  unfold hansomref01_Add.f mx wrap64 sum
  repeat' split
  all_goals first | rfl | (exfalso; omega) | (congr 1; omega)

theorem NumAdds : hansomlaw01_NumAdds.Pure := by
  intro a b ha hb
  refine ⟨10, ?_⟩
  unfold hansomlaw01_NumAdds.f
  rw [awake_true, add_is a b ha hb, ref_is a b ha hb]
  simp only [Option.bind_some, if_true, num_Min.f, num_Less.f]
  by_cases h : a < b
  · simp [h]
  · simp [h]

end Go.Proofs.Ytbpghlfmkbjjcaa.Pure
