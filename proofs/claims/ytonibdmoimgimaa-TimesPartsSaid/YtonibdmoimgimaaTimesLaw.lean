/- awake, own: what the laws on times have in common. -/
import Derived.Test.YtonibdmoimgimaaTimesArr
import Derived.Test.YtonibdmoimgimaaTimesDrive
namespace Go.Proofs.Ytonibdmoimgimaa.TimesLaw
open Go Go.RowKit Go.Proofs.YtonibdmoimgimaaW.PrintWords Go.Proofs.Ytonibdmoimgimaa.Base Go.Proofs.Ytonibdmoimgimaa.Stops Go.Proofs.Ytonibdmoimgimaa.Add Go.Proofs.Ytonibdmoimgimaa.Times
set_option linter.unusedVariables false
set_option linter.unusedSimpArgs false
theorem flat_get : ∀ (ss : List Stop) (j i : Nat) (p : Stop), ss[j]? = some p → i < 3 → (ss.flatMap encStop)[j * 3 + i]? = (encStop p)[i]?
  | [], j, i, p, h, _ => by simp at h
  | s :: t, 0, i, p, h, hi => by
    have : s = p := by simpa using h
    subst this
    rw [List.flatMap_cons, List.getElem?_append_left (by simp [encStop]; omega), Nat.zero_mul, Nat.zero_add]
  | s :: t, j + 1, i, p, h, hi => by
    have h2 : t[j]? = some p := by simpa using h
    rw [List.flatMap_cons, List.getElem?_append_right (by simp [encStop]; omega), ← flat_get t j i p h2 hi]
    congr 1
    simp only [encStop, List.length_cons, List.length_nil]
    omega
theorem stops_lit (w : World) (ss : List Stop) (cs : Array Value) (E : Nat) (fr : Nat × Nat) (h : cs = (ss.flatMap encStop).toArray) (hn : ss.length ≤ 9223372036854775807) : kStop.C (w.alloc (.cells cs E fr)) (some ⟨w.heap.size, 0, none⟩) ss.length ss :=
  ⟨rfl, hn, fun _ => ⟨_, rfl, fun j p hj => ⟨encStop p, rfl, kStop_mk _ p, fun i u hu => by
    have hi : i < 3 := (List.getElem?_eq_some_iff.1 hu).1
    rw [add_plain, cell_of_row _ _ _ _ _ _ (blk_new w _), h, kStop_sz]
    rw [← hu, ← flat_get ss j i p hj hi]
    simp⟩⟩⟩
theorem add_off (ad : Addr) (j : Nat) (hj : 0 < j) : ad.add j = ⟨ad.block, ad.off + j, none⟩ := by
  have h := add_field ad 0 j hj
  rwa [Nat.zero_add, Addr.add_zero'] at h
def ws : List Stop := [⟨0, 0, 0⟩, ⟨1, 1, 1⟩, ⟨2, 2, 1⟩]
theorem ws_arr : arrI (some [5]) 100 3 ws 3 = [100, 105, 113] := by kernel_rfl
theorem ws_drive : driveI (some [5]) ws 2 = 10 := by kernel_rfl
set_option maxRecDepth 100000 in
set_option maxHeartbeats 1000000 in
theorem awake_calls (w : World) : Calls Try.prog 8 #[] w fun e w' => e = .returned (.bool true) ∧ Below w.heap.size w w' := by
  go_enter Try.func8, Try.ntmps8
  go_upto_region 2 with fail
  have hC := stops_lit w ws #[.int .i64 0, .int .i64 0, .int .i64 0, .int .i64 1, .int .i64 1, .int .i64 1, .int .i64 2, .int .i64 2, .int .i64 1] 41 (0, 0) rfl (by decide)
  have hb := (Below.refl w.heap.size w).alloc (Nat.le_refl _) (Obj.cells #[.int .i64 0, .int .i64 0, .int .i64 0, .int .i64 1, .int .i64 1, .int .i64 1, .int .i64 2, .int .i64 2, .int .i64 1] 41)
  have hs := World.size_alloc w (Obj.cells #[.int .i64 0, .int .i64 0, .int .i64 0, .int .i64 1, .int .i64 1, .int .i64 1, .int .i64 2, .int .i64 2, .int .i64 1] 41)
  revert hC hb hs
  generalize w.alloc (Obj.cells #[.int .i64 0, .int .i64 0, .int .i64 0, .int .i64 1, .int .i64 1, .int .i64 1, .int .i64 2, .int .i64 2, .int .i64 1] 41) = w0
  intro hC hb hs
  rw [← hs]
  obtain ⟨g, hg⟩ : ∃ g, w.heap.size = g := ⟨_, rfl⟩
  rw [hg] at hC hb hs ⊢
  have hk := blk_new w0 (Obj.cells #[.int .i64 0, .int .i64 0, .int .i64 0, .int .i64 100, .slice (some ⟨g, 0, none⟩) 3 3] 24)
  have hb1 := hb.alloc (by omega) (Obj.cells #[.int .i64 0, .int .i64 0, .int .i64 0, .int .i64 100, .slice (some ⟨g, 0, none⟩) 3 3] 24)
  have hs1 := World.size_alloc w0 (Obj.cells #[.int .i64 0, .int .i64 0, .int .i64 0, .int .i64 100, .slice (some ⟨g, 0, none⟩) 3 3] 24)
  have hC1 := Kd.C_below hC ((Below.refl w0.heap.size w0).alloc (Nat.le_refl _) (Obj.cells #[.int .i64 0, .int .i64 0, .int .i64 0, .int .i64 100, .slice (some ⟨g, 0, none⟩) 3 3] 24))
  obtain ⟨g1, hg1⟩ : ∃ g1, w0.heap.size = g1 := ⟨_, rfl⟩
  rw [hg1] at hk hs1 hs ⊢
  revert hk hb1 hs1 hC1
  generalize w0.alloc (Obj.cells #[.int .i64 0, .int .i64 0, .int .i64 0, .int .i64 100, .slice (some ⟨g, 0, none⟩) 3 3] 24) = w1
  intro hb1 hC1 hs1 hk
  have H1 : Hold w1 (fun x => Below g w x ∧ (x.cell? ⟨g1, 0, none⟩ = some (.int .i64 0) ∧ x.cell? ⟨g1, 1, none⟩ = some (.int .i64 0) ∧ x.cell? ⟨g1, 2, none⟩ = some (.int .i64 0) ∧ x.cell? ⟨g1, 3, none⟩ = some (.int .i64 100) ∧ x.cell? ⟨g1, 4, none⟩ = some (.slice (some ⟨g, 0, none⟩) 3 3)) ∧ kStop.C x (some ⟨g, 0, none⟩) 3 ws) w1 := Hold.start (fun w' h => by
    have hk2 := blk_below hk h
    refine ⟨hb1.trans (h.mono (by omega)), ⟨?_, ?_, ?_, ?_, ?_⟩, Kd.C_below hC1 h⟩ <;> (rw [blk_cell hk2]; rfl))
  have HG := Aside0.mk hg
  have HG1 : Aside0 (g ≤ w1.heap.size) := ⟨by omega⟩
  clear hC hb hs hk hb1 hs1 hC1 hg hg1
  obtain ⟨-, ⟨c0, c1, c2, c3, c4⟩, -⟩ := H1.out
  go_wp2_with fail
  have hT : (Kd.int .i64).C (w1.alloc (Obj.cells #[.int .i64 5] 2)) (some ⟨w1.heap.size, 0, none⟩) 1 [5] := C_lit w1 [5] _ _ _ rfl (by decide)
  have H2 := H1.alloc (Obj.cells #[.int .i64 5] 2)
  clear c0 c1 c2 c3 c4
  revert hT H2
  generalize w1.alloc (Obj.cells #[.int .i64 5] 2) = w2
  generalize w1.heap.size = g3
  intro hT H2
  refine (arrivals_calls (some [5]) _ 0 0 0 100 3 (some ⟨g, 0, none⟩) 3 ws w2 ⟨_, 1, rfl, hT, by intro d hd; rw [List.mem_singleton.1 hd]; omega⟩ H2.out.2.2 (by decide)).mono ?_
  rintro e w3 ⟨v, rfl, hO, hw⟩
  rw [show ws.length = 3 from rfl, ws_arr] at hO
  obtain ⟨A, c, rfl, hO, hC, -⟩ := int_open hO 3 rfl
  have H3 := (H2.step hw)
  clear hT hw
  obtain ⟨ad, u1, rfl, r1, q1⟩ := at_nat hC 1 (by decide)
  obtain ⟨ad', u2, e, r2, q2⟩ := at_nat hC 2 (by decide)
  cases e
  obtain rfl : 105 = u1 := q1.out
  obtain rfl : 113 = u2 := q2.out
  obtain ⟨-, ⟨c0, c1, c2, c3, c4⟩, -⟩ := H3.out
  rw [add_off _ _ (by decide)] at r1 r2
  clear q1 q2 hO hC
  go_wp2_with fail
  have hT : (Kd.int .i64).C (w3.alloc (Obj.cells #[.int .i64 5] 2)) (some ⟨w3.heap.size, 0, none⟩) 1 [5] := C_lit w3 [5] _ _ _ rfl (by decide)
  have H4 := H3.alloc (Obj.cells #[.int .i64 5] 2)
  clear c0 c1 c2 c3 c4 r1 r2
  revert hT H4
  generalize w3.alloc (Obj.cells #[.int .i64 5] 2) = w4
  generalize w3.heap.size = g4
  intro hT H4
  refine (drive_calls (some [5]) _ (some ⟨g, 0, none⟩) 3 ws w4 ⟨_, 1, rfl, hT, by intro d hd; rw [List.mem_singleton.1 hd]; omega⟩ H4.out.2.2 (by decide)).mono ?_
  rintro e w5 ⟨rfl, hw⟩
  rw [show ws.length - 1 = 2 from rfl, ws_drive]
  have H5 := H4.step hw
  clear hw hT
  go_wp2
  go_ret
  exact ⟨rfl, by rw [HG.out]; exact H5.out.1⟩
end Go.Proofs.Ytonibdmoimgimaa.TimesLaw
