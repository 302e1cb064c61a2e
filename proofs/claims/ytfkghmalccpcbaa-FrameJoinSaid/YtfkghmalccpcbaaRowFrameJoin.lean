/- Of any two lists of rows of bytes: what is scanned of the frames of some, with the frames of others behind, is what both carry. -/
import Derived.Test.YtfkghmalccpcbaaRows
import Derived.Test.YtfkghmalccpcbaaFrameJoin
import Derived.Test.YtfkghmalccpcbaaOpen
import Derived.WalkKit
import Derived.ProofKit
import Derived.OpenShut
import Derived.ShutString
import Derived.ChangeOld
import Derived.Below
import Derived.SizedLaws
namespace Go.Proofs.Ytfkghmalccpcbaa.frameJoin
open Go.ChangeShapes Go.WideShapes Go.ChangeAt Go.RowKit
open Go.ChangeMaps (open_string shut_string)
open Go.Proofs.Ytfkghmalccpcbaa Go.Proofs.YtfkghmalccpcbaaW.PrintWords Go.Proofs.Ytfkghmalccpcbaa.Opens
set_option linter.unusedVariables false
theorem own : ownKnob Try.prog.godebug = none := by kernel_rfl
theorem laidOut : laidOutB Try.prog = true := by kernel_rfl
theorem opens0 : Opens Try.prog 37 (Kd.slice 22 (Kd.slice 5 (Kd.int .u8))) (fun xs => xs.length * 24 ≤ 140737488351232 ∧ ∀ x ∈ xs, (fun xs => xs.length * 1 ≤ 140737488351232 ∧ ∀ x ∈ xs, (fun n => (Lit.int .u8 n).wf = true) x) x) := (Opens.slice (E := 22) Try.underlying37 (by kernel_rfl) (by kernel_rfl) (Opens.slice (E := 5) Try.underlying22 (by kernel_rfl) (by kernel_rfl) (Opens.int Try.underlying5)))
theorem opens1 : Opens Try.prog 37 (Kd.slice 22 (Kd.slice 5 (Kd.int .u8))) (fun xs => xs.length * 24 ≤ 140737488351232 ∧ ∀ x ∈ xs, (fun xs => xs.length * 1 ≤ 140737488351232 ∧ ∀ x ∈ xs, (fun n => (Lit.int .u8 n).wf = true) x) x) := (Opens.slice (E := 22) Try.underlying37 (by kernel_rfl) (by kernel_rfl) (Opens.slice (E := 5) Try.underlying22 (by kernel_rfl) (by kernel_rfl) (Opens.int Try.underlying5)))
set_option maxRecDepth 100000 in
theorem lifted (os : Os) (started : os.Started) (H : Type) (enc : TypeId × Value → H) :
    ReturnsInHanded {} Try.checked os 8 .any (Rows.frameJoinSpec.pre6 enc Try.prog Try.f8 Rows.frameJoinRow.domain false) (Rows.frameJoinSpec.post enc Try.prog Try.f8 false true false false) := by
  refine returnsInHanded_of_change_sized (C := Try.checked) own started (by kernel_rfl) Try.func8
    (ChangeSpec.witness6 (enc := enc) (C := Try.checked) false ⟨#[], #[.slice none 0 0, .slice none 0 0], []⟩ 8 (by kernel_rfl) (by kernel_rfl) (by kernel_rfl) (by kernel_rfl)) ?_
  intro W base args ds gs before hval0 hW hcnd hsz0 _
  have hsz : (DataW.weightsEach Try.prog (Try.f8.params.toList ++ Rows.frameJoinSpec.plain.varTypes Try.prog) (ds ++ gs)).all (· ≤ reachBytes) = true := hsz0
  have hval : ∀ (j : Nat) t v, Try.f8.params[j]? = some t → args[j]? = some v → Value.okWide Try.prog W .any base t v := hval0
  have hW' := hW
  obtain ⟨p, q, hA0, hV, rfl, hfz, hnd⟩ := hW
  have hA : DataW.TrodAll enc Try.prog W 0 (fun _ => true) true Try.f8.params.toList args.toList ds p := hA0
  rw [Try.params8] at hA hval hsz
  obtain ⟨v0, vs0, d0, ds0, p0, q0, hargs, rfl, rfl, h0, r0⟩ := trodAll_cons hA
  obtain ⟨v1, vs1, d1, ds1, p1, q1, rfl, rfl, rfl, h1, r1⟩ := trodAll_cons r0
  obtain ⟨rfl, rfl, rfl⟩ := trodAll_nil r1
  obtain rfl : args = #[v0, v1] := by cases args; simp_all
  obtain ⟨rfl, rfl⟩ := trodVars_none hV
  obtain ⟨A0, len0, c0, rfl⟩ := okWide_slice Try.underlying37 (hval 0 37 v0 rfl rfl)
  have k0 := h0
  have lt0 : ∀ x ∈ p0, x.block < W.heap.size := by obtain ⟨m, hm⟩ := k0; exact DataW.trod_lt m _ _ _ hm
  obtain ⟨l0, rfl, hc0, C0, ok0⟩ := opens0.param_slice hsz (j := 0) (t := 37) rfl rfl h0
  obtain ⟨A1, len1, c1, rfl⟩ := okWide_slice Try.underlying37 (hval 1 37 v1 rfl rfl)
  have k1 := h1
  have lt1 : ∀ x ∈ p1, x.block < W.heap.size := by obtain ⟨m, hm⟩ := k1; exact DataW.trod_lt m _ _ _ hm
  obtain ⟨l1, rfl, hc1, C1, ok1⟩ := opens1.param_slice hsz (j := 1) (t := 37) rfl rfl h1
  clear hA0 hval0 hsz0 hsz
  refine (Frame.join A0 A1 c0 c1 l0 l1 W C0 C1 ⟨ok0.1, fun b hb => ⟨(ok0.2 b hb).1, fun x hx => Base.wf_u8 ((ok0.2 b hb).2 x hx)⟩⟩ ⟨ok1.1, fun b hb => ⟨(ok1.2 b hb).1, fun x hx => Base.wf_u8 ((ok1.2 b hb).2 x hx)⟩⟩).mono fun e W' ⟨he, bel⟩ => ?_
  subst he
  exact ⟨_, rfl, _, _, _, [], _, [], hW', trodAll_mk1 (shut_bool Try.underlying4 _), (trodAll_cons_mk (Below.trod laidOut (by kernel_rfl) (of_decide_eq_true (by kernel_rfl)) k0 bel lt0) (trodAll_cons_mk (Below.trod laidOut (by kernel_rfl) (of_decide_eq_true (by kernel_rfl)) k1 bel lt1) trodAll_mk0)), rfl, bel.frame _, fun h => by cases h⟩
theorem over : Rows.frameJoinRow.holds Try.pinned (OpenSpec.ofChange Rows.frameJoinSpec) :=
  OpenClaim.holds_of_wide 8 Try.f8 rfl rfl rfl rfl rfl rfl rfl ⟨rfl, rfl, rfl, rfl, rfl⟩ rfl rfl rfl rfl rfl (by kernel_rfl) Try.func8 (by kernel_rfl)
    (of_decide_eq_true (by kernel_rfl)) (by unfold Func.isWrapper; first | (rw [if_pos (by decide +kernel)]; kernel_rfl) | (rw [if_neg (by decide +kernel)]; exact ⟨rfl, rfl⟩))
    (fun os started H enc _ => lifted os started H enc)
theorem proved : Rows.FrameJoinSaid := over
#print axioms proved
end Go.Proofs.Ytfkghmalccpcbaa.frameJoin
namespace Go.Proofs.Ytfkghmalccpcbaa
/-- The row, under a short name, for the claim. -/
theorem frameJoin_holds : Rows.FrameJoinSaid := frameJoin.proved
end Go.Proofs.Ytfkghmalccpcbaa
