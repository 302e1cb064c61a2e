/- For all numbers a, b and c: what is added to more is no less, and the lesser of two is one of both. -/
import Derived.Test.YtbpghlfmkbjjcaaPNumGrowsx2
namespace Go.Proofs.Ytbpghlfmkbjjcaa.Pure
open Go.RowKit Go.Proofs.Ytbpghlfmkbjjcaa.PNumGrows Go.Proofs.YtbpghlfmkbjjcaaW.PrintWords Go.Proofs.YtbpghlfmkbjjcaaW.PrintLast Go.Proofs.YtbpghlfmkbjjcaaW.PrintMore

theorem bounds_i64 {n : Int} (h : (Lit.int .i64 n).wf = true) : -9223372036854775808 ≤ n ∧ n ≤ 9223372036854775807 := by
  simp [Lit.wf, IntKind.min, IntKind.max, IntKind.signed, IntKind.bits] at h
  omega

theorem awake_true : hansomlaw01_awake.f 10 = some true := by decide +kernel

/-- What a sum is, said plainly. -/
def sum (a b : Int) : Int := if max a 0 + max b 0 ≥ 1152921504606846976 then 1152921504606846976 else max a 0 + max b 0

theorem add_is (a b : Int) (ha : (Lit.int .i64 a).wf = true) (hb : (Lit.int .i64 b).wf = true) : num_Add.f a b = some (sum a b) := by
  have h1 := bounds_i64 ha
  have h2 := bounds_i64 hb
  unfold num_Add.f mx wrap64 sum
  repeat' split
  all_goals first | rfl | (exfalso; omega) | (congr 1; omega)


theorem sum_grows {a b : Int} (c : Int) (h : a ≤ b) : sum a c ≤ sum b c := by
  unfold sum
  split <;> split <;> omega

theorem NumGrows : hansomlaw01_NumGrows.Pure := by
  intro a b c ha hb hc
  refine ⟨10, ?_⟩
  unfold hansomlaw01_NumGrows.f
  rw [awake_true, add_is a c ha hc, add_is b c hb hc]
  simp only [Option.bind_some, if_true, num_Min.f, num_Less.f, mn]
  by_cases h : a > b
  · have h1 : b < a := h
    have h2 : ¬ a < b := by omega
    have h3 : b ≤ a := by omega
    have h4 : ¬ b = a := by omega
    simp [h1, h2, h3, h4]
  · have h0 : ¬ b < a := h
    have h1 := sum_grows c (a := a) (b := b) (by omega)
    have h2 : a ≤ b := by omega
    rw [if_neg h, if_pos h1]
    by_cases e : a = b
    · subst e
      simp
    · have h3 : a < b := by omega
      simp [h0, h2, h3, e]

end Go.Proofs.Ytbpghlfmkbjjcaa.Pure
