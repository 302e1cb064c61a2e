/- Stops: how they lie in memory. -/
import Derived.Test.YtonibdmoimgimaaHold
import Derived.Test.YtonibdmoimgimaaOpen
import Derived.Test.YtonibdmoimgimaaWLast
namespace Go.Proofs.Ytonibdmoimgimaa.Stops
open Go Go.RowKit Go.Proofs.YtonibdmoimgimaaW.PrintWords Go.Proofs.Ytonibdmoimgimaa.Base Go.Proofs.Ytonibdmoimgimaa.Opens
set_option linter.unusedVariables false
set_option linter.unusedSimpArgs false
/-- A stop: a node, a kind, a rider. -/
structure Stop where
  node : Int
  kind : Int
  rider : Int
deriving DecidableEq
def zStop : Stop := ⟨0, 0, 0⟩
def encStop (s : Stop) : List Value := [.int .i64 s.node, .int .i64 s.kind, .int .i64 s.rider]
def kStop : Kd Stop := Kd.iso (Kd.pair (Kd.int .i64) (Kd.pair (Kd.int .i64) (Kd.int .i64))) (fun s => (s.node, s.kind, s.rider))
theorem kStop_enc {w : World} {s : Stop} {cs : List Value} (h : kStop.K w s cs) : cs = encStop s := by
  obtain ⟨_, _, rfl, rfl, _, _, rfl, rfl, rfl⟩ := h
  rfl
theorem kStop_mk (w : World) (s : Stop) : kStop.K w s (encStop s) := ⟨_, _, rfl, rfl, _, _, rfl, rfl, rfl⟩
theorem kStop_sz : kStop.sz = 3 := rfl
/-- Within Go's int. -/
def inI (x : Int) : Prop := -9223372036854775808 ≤ x ∧ x ≤ 9223372036854775807
def okStop (s : Stop) : Prop := inI s.node ∧ inI s.kind ∧ inI s.rider
theorem opens_stop : Opens Try.prog 41 kStop okStop := by
  have h : Opens Try.prog 41 (Kd.pair (Kd.int .i64) (Kd.pair (Kd.int .i64) (Kd.int .i64))) (fun x => (fun n => (Lit.int .i64 n).wf = true) x.1 ∧ (fun x => (fun n => (Lit.int .i64 n).wf = true) x.1 ∧ (fun n => (Lit.int .i64 n).wf = true) x.2) x.2) :=
    Opens.struct Try.underlying41 (by kernel_rfl) (OpensF.cons rfl (by kernel_rfl) (Opens.int Try.underlying3) (by rfl) (OpensF.cons rfl (by kernel_rfl) (Opens.int Try.underlying3) (by rfl) (OpensF.one rfl (by kernel_rfl) (Opens.int Try.underlying3))))
  refine (h.iso (fun s : Stop => (s.node, s.kind, s.rider)) (fun x => ⟨x.1, x.2.1, x.2.2⟩) (fun a => rfl)).imp (fun s hs => ?_)
  exact ⟨wf_i64 hs.1, wf_i64 hs.2.1, wf_i64 hs.2.2⟩
/-- A stop of a row that is read: its cells, as a walk spells them. -/
theorem stop_at {w : World} {A : Option Addr} {n : Nat} {xs : List Stop} (h : kStop.C w A n xs) (i : Nat) (hi : i < n) :
    ∃ ad s, A = some ad ∧ w.cell? (ad.add (i * 3)) = some (.int .i64 s.node) ∧ w.cell? ⟨(ad.add (i * 3)).block, (ad.add (i * 3)).off + 1, none⟩ = some (.int .i64 s.kind) ∧ w.cell? ⟨(ad.add (i * 3)).block, (ad.add (i * 3)).off + 2, none⟩ = some (.int .i64 s.rider) ∧ Aside0 (xs.getD i zStop = s) := by
  obtain ⟨ad, c, e, hl, hK, hc⟩ := ReadsRow.get_ h zStop (i : Int) (by omega) (by omega)
  have hK := kStop_enc hK
  rw [Int.toNat_natCast] at hK hc
  subst hK
  rw [kStop_sz] at hc
  refine ⟨ad, _, e, hc 0 _ rfl, ?_, ?_, ⟨rfl⟩⟩
  · rw [← add_field _ _ 1 (by omega)]; exact hc 1 _ rfl
  · rw [← add_field _ _ 2 (by omega)]; exact hc 2 _ rfl
theorem stop_len {w : World} {A : Option Addr} {n : Nat} {xs : List Stop} (h : kStop.C w A n xs) : xs.length = n ∧ n ≤ 9223372036854775807 := ⟨h.1, h.2.1⟩
theorem stop_nil (w : World) : kStop.C w none 0 [] := ⟨rfl, by decide, fun h => absurd h (by decide)⟩
theorem stop_none {w : World} {n : Nat} {xs : List Stop} (h : kStop.C w none n xs) : n = 0 ∧ xs = [] := by
  rcases Nat.eq_zero_or_pos n with h0 | h0
  · exact ⟨h0, List.eq_nil_of_length_eq_zero (by rw [h.1, h0])⟩
  · obtain ⟨ad, _, e, _⟩ := stop_at h 0 h0
    cases e
theorem getD_mem {α : Type} {xs : List α} {i : Nat} {d x : α} (hi : i < xs.length) (h : xs.getD i d = x) : x ∈ xs := by
  rw [← h, List.getD_eq_getElem?_getD, List.getElem?_eq_getElem hi]
  exact List.getElem_mem hi
end Go.Proofs.Ytonibdmoimgimaa.Stops
