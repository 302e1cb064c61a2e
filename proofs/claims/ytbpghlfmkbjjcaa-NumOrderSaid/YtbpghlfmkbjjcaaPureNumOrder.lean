/- For all numbers a, b and c: sums are the same in any order, never above the end, and never below their parts. -/
import Derived.Test.YtbpghlfmkbjjcaaPNumOrderx1
namespace Go.Proofs.Ytbpghlfmkbjjcaa.Pure
open Go.RowKit Go.Proofs.Ytbpghlfmkbjjcaa.PNumOrder Go.Proofs.YtbpghlfmkbjjcaaW.PrintWords Go.Proofs.YtbpghlfmkbjjcaaW.PrintLast Go.Proofs.YtbpghlfmkbjjcaaW.PrintMore

theorem bounds_i64 {n : Int} (h : (Lit.int .i64 n).wf = true) : -9223372036854775808 ≤ n ∧ n ≤ 9223372036854775807 := by
  simp [Lit.wf, IntKind.min, IntKind.max, IntKind.signed, IntKind.bits] at h
  omega

theorem awake_true : hansomlaw01_awake.f 10 = some true := by decide +kernel

/-- What a sum is, said plainly. -/
def sum (a b : Int) : Int := if max a 0 + max b 0 ≥ 1152921504606846976 then 1152921504606846976 else max a 0 + max b 0

theorem add_is (a b : Int) (ha : (Lit.int .i64 a).wf = true) (hb : (Lit.int .i64 b).wf = true) : num_Add.f a b = some (sum a b) := by
  have h1 := bounds_i64 ha
  have h2 := bounds_i64 hb
  unfold num_Add.f mx wrap64 sum
  repeat' split
  all_goals first | rfl | (exfalso; omega) | (congr 1; omega)


theorem wf_sum (a b : Int) : (Lit.int .i64 (sum a b)).wf = true := by
  have : 0 ≤ sum a b ∧ sum a b ≤ 1152921504606846976 := by unfold sum; split <;> omega
  simp [Lit.wf, IntKind.min, IntKind.max, IntKind.signed, IntKind.bits]
  omega

theorem awake_more : hansomlaw01_awake.f 11 = some true := by decide +kernel

theorem order_plain (a b c : Int) (ha : (Lit.int .i64 a).wf = true) (hb : (Lit.int .i64 b).wf = true) (hc : (Lit.int .i64 c).wf = true) (a0 : 0 ≤ a) (b0 : 0 ≤ b) (c0 : 0 ≤ c) :
    hansomlaw01_NumOrder.j0 11 a b c false = some true := by
  have h1 := bounds_i64 ha
  have h2 := bounds_i64 hb
  have h3 := bounds_i64 hc
  have e1 : sum (sum a b) c = sum a (sum b c) := by unfold sum; (repeat' split) <;> omega
  have e2 : sum a b = sum b a := by unfold sum; (repeat' split) <;> omega
  have e3 : sum (sum a b) c ≤ 1152921504606846976 := by unfold sum; (repeat' split) <;> omega
  have e4 : sum (sum a b) c ≥ mn a 1152921504606846976 := by unfold sum mn; (repeat' split) <;> omega
  have e5 : sum (sum a b) c = 1152921504606846976 ∨ sum (sum a b) c = wrap64 (wrap64 (a + b) + c) := by
    unfold sum wrap64
    repeat' split
    all_goals omega
  simp only [hansomlaw01_NumOrder.j0]
  rw [if_neg (by simp), add_is a b ha hb]
  simp only [Option.bind_some]
  rw [add_is _ c (wf_sum a b) hc, add_is b c hb hc]
  simp only [Option.bind_some]
  rw [add_is a _ ha (wf_sum b c)]
  simp only [Option.bind_some]
  rw [if_pos e1, add_is b a hb ha]
  simp only [Option.bind_some]
  rw [if_pos e2, if_pos e3, if_pos e4]
  by_cases g : sum (sum a b) c = 1152921504606846976
  · rw [if_pos g]
  · rw [if_neg g]
    have g2 : sum (sum a b) c = wrap64 (wrap64 (a + b) + c) := by omega
    rw [← g2]
    simp

theorem NumOrder : hansomlaw01_NumOrder.Pure := by
  intro a b c ha hb hc
  refine ⟨11, ?_⟩
  have hj : hansomlaw01_NumOrder.j0 11 a b c true = some true := by
    simp only [hansomlaw01_NumOrder.j0]
    rw [if_pos trivial, awake_true]
    rfl
  unfold hansomlaw01_NumOrder.f
  rw [awake_more]
  simp only [Option.bind_some, if_true]
  by_cases a0 : a < 0
  · rw [if_pos a0, hj]
  · rw [if_neg a0]
    by_cases b0 : b < 0
    · rw [if_pos b0, hj]
    · rw [if_neg b0]
      by_cases c0 : c < 0
      · rw [decide_eq_true c0, hj]
      · rw [decide_eq_false c0]
        exact order_plain a b c ha hb hc (by omega) (by omega) (by omega)

end Go.Proofs.Ytbpghlfmkbjjcaa.Pure
