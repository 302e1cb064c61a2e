/- The reference's Right: a vehicle. -/
import Derived.Test.YtonibdmoimgimaaRefStops
namespace Go.Proofs.Ytonibdmoimgimaa.RefRight
open Go Go.RowKit Go.Proofs.YtonibdmoimgimaaW.PrintWords Go.Proofs.Ytonibdmoimgimaa.Base Go.Proofs.Ytonibdmoimgimaa.Stops
set_option linter.unusedVariables false
set_option linter.unusedSimpArgs false
def rightP (id cap ed left : Int) (l : List Stop) : Prop := 0 < id ∧ 1 ≤ cap ∧ cap ≤ 8 ∧ 0 ≤ left ∧ left ≤ 2199023255552 ∧ 0 ≤ ed ∧ ed ≤ 2199023255552 ∧ stopsP l
open Classical in
noncomputable def rightB (id cap ed left : Int) (l : List Stop) : Bool := decide (rightP id cap ed left l)
theorem rightB_true {id cap ed left : Int} {l : List Stop} (h : rightB id cap ed left l = true) : rightP id cap ed left l := by simpa [rightB] using h
theorem rightB_not {id cap ed left : Int} {l : List Stop} (h : ¬ rightP id cap ed left l) : rightB id cap ed left l = false := by simp [rightB, h]
theorem rightB_of {id cap ed left : Int} {l : List Stop} (h : rightP id cap ed left l) : rightB id cap ed left l = true := by simp [rightB, h]
set_option maxRecDepth 100000 in
set_option maxHeartbeats 1000000 in
theorem refRight_calls (id cap ed left : Int) (A : Option Addr) (c : Nat) (l : List Stop) (w : World) (hl : kStop.C w A l.length l) :
    Calls Try.prog 18 #[.agg #[.int .i64 id, .int .i64 cap, .int .i64 ed, .int .i64 left, .slice A l.length c]] w fun e w' => e = .returned (.bool (rightB id cap ed left l)) ∧ Below w.heap.size w w' := by
  have hb := (Below.refl w.heap.size w).alloc (Nat.le_refl _) (Obj.cells #[.int .i64 id, .int .i64 cap, .int .i64 ed, .int .i64 left, .slice A l.length c] 24)
  have HL := Aside0.mk (Kd.C_below hl hb)
  have HB := Aside0.mk hb
  clear hl hb
  by_cases k0 : 0 < id
  rotate_left
  · have E : Aside0 (rightB id cap ed left l = false) := ⟨rightB_not fun h => k0 h.1⟩
    go_enter Try.func18, Try.ntmps18
    go_wp2
    go_ret
    exact ⟨by rw [E.out]; rfl, HB.out⟩
  by_cases k1 : 1 ≤ cap
  rotate_left
  · have E : Aside0 (rightB id cap ed left l = false) := ⟨rightB_not fun h => k1 h.2.1⟩
    go_enter Try.func18, Try.ntmps18
    go_wp2
    go_ret
    exact ⟨by rw [E.out]; rfl, HB.out⟩
  by_cases k2 : cap ≤ 8
  rotate_left
  · have E : Aside0 (rightB id cap ed left l = false) := ⟨rightB_not fun h => k2 h.2.2.1⟩
    go_enter Try.func18, Try.ntmps18
    go_wp2
    go_ret
    exact ⟨by rw [E.out]; rfl, HB.out⟩
  by_cases k3 : 0 ≤ left
  rotate_left
  · have E : Aside0 (rightB id cap ed left l = false) := ⟨rightB_not fun h => k3 h.2.2.2.1⟩
    go_enter Try.func18, Try.ntmps18
    go_wp2
    go_ret
    exact ⟨by rw [E.out]; rfl, HB.out⟩
  by_cases k4 : left ≤ 2199023255552
  rotate_left
  · have E : Aside0 (rightB id cap ed left l = false) := ⟨rightB_not fun h => k4 h.2.2.2.2.1⟩
    go_enter Try.func18, Try.ntmps18
    go_wp2
    go_ret
    exact ⟨by rw [E.out]; rfl, HB.out⟩
  by_cases k5 : 0 ≤ ed
  rotate_left
  · have E : Aside0 (rightB id cap ed left l = false) := ⟨rightB_not fun h => k5 h.2.2.2.2.2.1⟩
    go_enter Try.func18, Try.ntmps18
    go_wp2
    go_ret
    exact ⟨by rw [E.out]; rfl, HB.out⟩
  by_cases k6 : ed ≤ 2199023255552
  rotate_left
  · have E : Aside0 (rightB id cap ed left l = false) := ⟨rightB_not fun h => k6 h.2.2.2.2.2.2.1⟩
    go_enter Try.func18, Try.ntmps18
    go_wp2
    go_ret
    exact ⟨by rw [E.out]; rfl, HB.out⟩
  have E : Aside0 (rightB id cap ed left l = stopsB l) := ⟨by
    by_cases hs : stopsP l
    · rw [stopsB_true hs, rightB_of ⟨k0, k1, k2, k3, k4, k5, k6, hs⟩]
    · rw [stopsB_false hs, rightB_not fun h => hs h.2.2.2.2.2.2.2]⟩
  go_enter Try.func18, Try.ntmps18
  go_wp2_with fail
  refine (stops_calls A c l _ HL.out).mono ?_
  rintro e w2 ⟨rfl, hw⟩
  have hb2 := HB.out.trans (hw.mono HB.out.size)
  clear hw
  obtain ⟨B, hB⟩ : ∃ B, stopsB l = B := ⟨_, rfl⟩
  rw [hB] at E ⊢
  clear hB
  go_wp2
  go_ret
  exact ⟨by rw [E.out]; rfl, hb2⟩
end Go.Proofs.Ytonibdmoimgimaa.RefRight
