/- Vehicles that came in. -/
import Derived.Test.YtonibdmoimgimaaStop
namespace Go.Proofs.Ytonibdmoimgimaa.Veh
open Go Go.RowKit Go.Proofs.YtonibdmoimgimaaW.PrintWords Go.Proofs.Ytonibdmoimgimaa.Base Go.Proofs.Ytonibdmoimgimaa.Stops
set_option linter.unusedVariables false
theorem veh_open {E : Nat} {w : World} {x : Int × Int × Int × Int × List Stop} {cs : List Value} (h : (Kd.pair (Kd.int .i64) (Kd.pair (Kd.int .i64) (Kd.pair (Kd.int .i64) (Kd.pair (Kd.int .i64) (Kd.slice E kStop))))).K w x cs) :
    ∃ A c, cs = [.int .i64 x.1, .int .i64 x.2.1, .int .i64 x.2.2.1, .int .i64 x.2.2.2.1, .slice A x.2.2.2.2.length c] ∧ x.2.2.2.2.length ≤ c ∧ kStop.C w A x.2.2.2.2.length x.2.2.2.2 := by
  obtain ⟨_, _, rfl, rfl, _, _, rfl, rfl, _, _, rfl, rfl, _, _, rfl, rfl, A, c, rfl, hc, hC⟩ := h
  exact ⟨A, c, rfl, hc, hC⟩
end Go.Proofs.Ytonibdmoimgimaa.Veh
