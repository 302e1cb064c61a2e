/- The reference's Right. -/
import Derived.Test.YtonibdmoimgimaaRefRight
namespace Go.Proofs.Ytonibdmoimgimaa.RefRight
open Go Go.RowKit Go.Proofs.YtonibdmoimgimaaW.PrintWords Go.Proofs.Ytonibdmoimgimaa.Base Go.Proofs.Ytonibdmoimgimaa.Stops
set_option linter.unusedVariables false
set_option linter.unusedSimpArgs false
/-- A stop is right at its place. -/
def okAt (l : List Stop) (i : Nat) (s : Stop) : Prop :=
  0 ≤ s.node ∧ s.node < 4194304 ∧ (i = 0 ↔ s.kind = 0) ∧
  if i = 0 then s.rider = 0
  else 1 ≤ s.rider ∧ (s.kind = 1 ∨ s.kind = 2) ∧ 0 ≤ findI l s.rider 2 ∧ findI l s.rider 1 < findI l s.rider 2 ∧ (s.kind = 1 → findI l s.rider 1 = i) ∧ (s.kind = 2 → findI l s.rider 2 = i)
def stopsP (l : List Stop) : Prop := 1 ≤ l.length ∧ l.length ≤ 64 ∧ ∀ i, i < l.length → okAt l i (l.getD i zStop)
open Classical in
noncomputable def stopsB (l : List Stop) : Bool := decide (stopsP l)
theorem stopsB_true {l : List Stop} (h : stopsP l) : stopsB l = true := by simp [stopsB, h]
theorem stopsB_false {l : List Stop} (h : ¬ stopsP l) : stopsB l = false := by simp [stopsB, h]
theorem not_at {l : List Stop} {k : Nat} {s : Stop} (hk : k < l.length) (hq : l.getD k zStop = s) (h : ¬ okAt l k s) : stopsB l = false :=
  stopsB_false fun hp => h (hq ▸ hp.2.2 k hk)
theorem okAt_pos {l : List Stop} {m : Nat} {s : Stop} (hm : 0 < m) : okAt l m s ↔ 0 ≤ s.node ∧ s.node < 4194304 ∧ ¬ s.kind = 0 ∧ 1 ≤ s.rider ∧ (s.kind = 1 ∨ s.kind = 2) ∧ 0 ≤ findI l s.rider 2 ∧ findI l s.rider 1 < findI l s.rider 2 ∧ (s.kind = 1 → findI l s.rider 1 = m) ∧ (s.kind = 2 → findI l s.rider 2 = m) := by
  unfold okAt
  rw [if_neg (by omega), show (m = 0 ↔ s.kind = 0) ↔ ¬ s.kind = 0 from by constructor <;> intro h <;> omega]
theorem okAt_zero {l : List Stop} {s : Stop} : okAt l 0 s ↔ 0 ≤ s.node ∧ s.node < 4194304 ∧ s.kind = 0 ∧ s.rider = 0 := by
  unfold okAt
  simp
set_option maxRecDepth 100000 in
set_option maxHeartbeats 2000000 in
theorem stops_calls (A : Option Addr) (c : Nat) (l : List Stop) (w : World) (hl : kStop.C w A l.length l) :
    Calls Try.prog 34 #[.slice A l.length c] w fun e w' => e = .returned (.bool (stopsB l)) ∧ Below w.heap.size w w' := by
  have H0 : Hold w (fun x => Below w.heap.size w x ∧ kStop.C x A l.length l) w := Hold.start (fun w' h => ⟨h, Kd.C_below hl h⟩)
  have hx := Kd.C_max hl
  clear hl
  by_cases hz : l.length < 1
  · have E : Aside0 (stopsB l = false) := ⟨stopsB_false fun h => by have := h.1; omega⟩
    go_enter Try.func34, Try.ntmps34
    go_wp2
    go_ret
    exact ⟨by rw [E.out]; rfl, H0.out.1⟩
  by_cases h64 : 64 < l.length
  · have E : Aside0 (stopsB l = false) := ⟨stopsB_false fun h => by have := h.2.1; omega⟩
    go_enter Try.func34, Try.ntmps34
    go_wp2
    go_ret
    exact ⟨by rw [E.out]; rfl, H0.out.1⟩
  have hn : l.length ≤ 1000000000 := by omega
  clear hx
  go_enter Try.func34, Try.ntmps34
  go_wp2
  go_loopw [3] (fun i wr => ∃ k : Nat, k ≤ l.length ∧ i = .int .i64 k ∧ Aside0 (∀ j, j < k → okAt l j (l.getD j zStop)) ∧ Hold w (fun x => Below w.heap.size w x ∧ kStop.C x A l.length l) wr) (fun i _ => l.length - (intOf i).toNat)
  case atStart => exact ⟨0, by omega, rfl, ⟨fun j h => absurd h (by omega)⟩, H0⟩
  case round =>
    obtain ⟨k, hk, rfl, HJ, HW⟩ := hrel
    by_cases hlt : k < l.length
    · obtain ⟨_, hS⟩ := HW.out
      obtain ⟨ad, s, rfl, h0, h1, h2, hq⟩ := stop_at hS k hlt
      have HN : Aside0 (¬ okAt l k s → stopsB l = false) := ⟨not_at hlt hq.out⟩
      have HW2 := HW.alloc (Obj.cells #[.int .i64 s.node, .int .i64 s.kind, .int .i64 s.rider] 41)
      clear hS
      by_cases hn0 : s.node < 0
      · have E : Aside0 (stopsB l = false) := ⟨HN.out fun h => by have := h.1; omega⟩
        go_wp2
        go_ret
        exact ⟨by rw [E.out]; rfl, HW2.out.1⟩
      by_cases hn1 : 4194304 ≤ s.node
      · have E : Aside0 (stopsB l = false) := ⟨HN.out fun h => by have := h.2.1; omega⟩
        go_wp2
        go_ret
        exact ⟨by rw [E.out]; rfl, HW2.out.1⟩
      rcases k with _ | p
      · simp only [Nat.zero_mul, Addr.add_zero'] at h0 h1 h2
        by_cases hk0 : s.kind = 0
        · by_cases hr : s.rider = 0
          · have G : Aside0 (okAt l 0 s) := ⟨okAt_zero.2 ⟨by omega, by omega, hk0, hr⟩⟩
            have b0 : (s.kind == 0) = true := by rw [beq_iff_eq]; exact hk0
            have b1 : (s.rider == 0) = true := by rw [beq_iff_eq]; exact hr
            clear hk0 hr
            go_wp2
            go_roundw
            case rel => exact ⟨0 + 1, by omega, rfl, ⟨fun j hj => by rcases Nat.lt_succ_iff_lt_or_eq.1 hj with h | h; exact HJ.out j h; rw [h, hq.out]; exact G.out⟩, HW2⟩
            case measure => simp only [intOf]; omega
          · have E : Aside0 (stopsB l = false) := ⟨HN.out fun h => hr (okAt_zero.1 h).2.2.2⟩
            have b0 : (s.kind == 0) = true := by rw [beq_iff_eq]; exact hk0
            have b1 : (s.rider == 0) = false := by rw [beq_eq_false_iff_ne]; exact hr
            clear hk0 hr
            go_wp2
            go_ret
            exact ⟨by rw [E.out]; rfl, HW2.out.1⟩
        · have E : Aside0 (stopsB l = false) := ⟨HN.out fun h => hk0 (okAt_zero.1 h).2.2.1⟩
          have b0 : (s.kind == 0) = false := by rw [beq_eq_false_iff_ne]; exact hk0
          clear hk0
          go_wp2
          go_ret
          exact ⟨by rw [E.out]; rfl, HW2.out.1⟩
      · generalize hm : p + 1 = m at *
        have hm0 : 0 < m := by omega
        have HM := Aside0.mk hm
        clear hm
        have HN2 : Aside0 (¬ (0 ≤ s.node ∧ s.node < 4194304 ∧ ¬ s.kind = 0 ∧ 1 ≤ s.rider ∧ (s.kind = 1 ∨ s.kind = 2) ∧ 0 ≤ findI l s.rider 2 ∧ findI l s.rider 1 < findI l s.rider 2 ∧ (s.kind = 1 → findI l s.rider 1 = m) ∧ (s.kind = 2 → findI l s.rider 2 = m)) → stopsB l = false) := ⟨fun h => HN.out fun h2 => h ((okAt_pos hm0).1 h2)⟩
        have z0 : ((m : Int) == 0) = false := by rw [beq_eq_false_iff_ne]; omega
        by_cases hk0 : s.kind = 0
        · have E : Aside0 (stopsB l = false) := ⟨HN2.out fun h => h.2.2.1 hk0⟩
          have b0 : (s.kind == 0) = true := by rw [beq_iff_eq]; exact hk0
          clear hk0
          go_wp2
          go_ret
          exact ⟨by rw [E.out]; rfl, HW2.out.1⟩
        have b0 : (s.kind == 0) = false := by rw [beq_eq_false_iff_ne]; exact hk0
        have HC2 : Aside0 (kStop.C (wr.alloc (Obj.cells #[.int .i64 s.node, .int .i64 s.kind, .int .i64 s.rider] 41)) (some ad) l.length l) := ⟨HW2.out.2⟩
        go_wp2_with fail
        refine (refFind_calls (some ad) c l s.rider _ HC2.out hn).mono ?_
        rintro e w2 ⟨rfl, rfl⟩
        obtain ⟨P, hP⟩ : ∃ P, findI l s.rider 1 = P := ⟨_, rfl⟩
        obtain ⟨D, hD⟩ : ∃ D, findI l s.rider 2 = D := ⟨_, rfl⟩
        have HP := Aside0.mk hP
        have HD := Aside0.mk hD
        rw [hP, hD] at HN2
        rw [hP, hD]
        clear hP hD
        have hbk := blk_new wr (Obj.cells #[.int .i64 s.node, .int .i64 s.kind, .int .i64 s.rider] 41)
        have q1 : (wr.alloc (Obj.cells #[.int .i64 s.node, .int .i64 s.kind, .int .i64 s.rider] 41)).cell? ⟨wr.heap.size, 1, none⟩ = some (.int .i64 s.kind) := by rw [blk_cell hbk]; rfl
        have q2 : (wr.alloc (Obj.cells #[.int .i64 s.node, .int .i64 s.kind, .int .i64 s.rider] 41)).cell? ⟨wr.heap.size, 2, none⟩ = some (.int .i64 s.rider) := by rw [blk_cell hbk]; rfl
        clear h0 h1 h2 hbk HC2
        revert HW2 q1 q2
        generalize wr.alloc (Obj.cells #[.int .i64 s.node, .int .i64 s.kind, .int .i64 s.rider] 41) = w2
        generalize wr.heap.size = g2
        intro HW2 q1 q2
        by_cases c1 : s.rider < 1
        · have E : Aside0 (stopsB l = false) := ⟨HN2.out fun h => by have := h.2.2.2.1; omega⟩
          go_wp2
          go_ret
          exact ⟨by rw [E.out]; rfl, HW2.out.1⟩
        by_cases k1 : s.kind = 1
        · rw [k1] at q1
          have b1 : (s.kind == 1) = true := by rw [beq_iff_eq]; exact k1
          have b2 : (s.kind == 2) = false := by rw [beq_eq_false_iff_ne]; omega
          by_cases c2 : D < 0
          · have E : Aside0 (stopsB l = false) := ⟨HN2.out fun h => by have := h.2.2.2.2.2.1; omega⟩
            clear k1 hk0
            go_wp2
            go_ret
            exact ⟨by rw [E.out]; rfl, HW2.out.1⟩
          by_cases c3 : D ≤ P
          · have E : Aside0 (stopsB l = false) := ⟨HN2.out fun h => by have := h.2.2.2.2.2.2.1; omega⟩
            clear k1 hk0
            go_wp2
            go_ret
            exact ⟨by rw [E.out]; rfl, HW2.out.1⟩
          by_cases c4 : P = (m : Int)
          · have G : Aside0 (okAt l m s) := ⟨(okAt_pos hm0).2 ⟨by omega, by omega, hk0, by omega, by omega, by rw [HD.out]; omega, by rw [HD.out, HP.out]; omega, by rw [HP.out]; intro _; omega, by rw [HD.out]; intro _; omega⟩⟩
            have b4 : (P == (m : Int)) = true := by rw [beq_iff_eq]; exact c4
            clear k1 hk0
            go_wp2
            go_roundw
            case rel => exact ⟨m + 1, by omega, rfl, ⟨fun j hj => by rcases Nat.lt_succ_iff_lt_or_eq.1 hj with h | h; exact HJ.out j h; rw [h, hq.out]; exact G.out⟩, HW2⟩
            case measure => simp only [intOf]; omega
          · have E : Aside0 (stopsB l = false) := ⟨HN2.out fun h => c4 (h.2.2.2.2.2.2.2.1 (by omega))⟩
            have b4 : (P == (m : Int)) = false := by rw [beq_eq_false_iff_ne]; exact c4
            clear k1 hk0
            go_wp2
            go_ret
            exact ⟨by rw [E.out]; rfl, HW2.out.1⟩
        by_cases k2 : s.kind = 2
        · rw [k2] at q1
          have b1 : (s.kind == 1) = false := by rw [beq_eq_false_iff_ne]; exact k1
          have b2 : (s.kind == 2) = true := by rw [beq_iff_eq]; exact k2
          by_cases c2 : D < 0
          · have E : Aside0 (stopsB l = false) := ⟨HN2.out fun h => by have := h.2.2.2.2.2.1; omega⟩
            clear k1 k2 hk0
            go_wp2
            go_ret
            exact ⟨by rw [E.out]; rfl, HW2.out.1⟩
          by_cases c3 : D ≤ P
          · have E : Aside0 (stopsB l = false) := ⟨HN2.out fun h => by have := h.2.2.2.2.2.2.1; omega⟩
            clear k1 k2 hk0
            go_wp2
            go_ret
            exact ⟨by rw [E.out]; rfl, HW2.out.1⟩
          by_cases c4 : D = (m : Int)
          · have G : Aside0 (okAt l m s) := ⟨(okAt_pos hm0).2 ⟨by omega, by omega, hk0, by omega, by omega, by rw [HD.out]; omega, by rw [HD.out, HP.out]; omega, by rw [HP.out]; intro _; omega, by rw [HD.out]; intro _; omega⟩⟩
            have b4 : (D == (m : Int)) = true := by rw [beq_iff_eq]; exact c4
            clear k1 k2 hk0
            go_wp2
            go_roundw
            case rel => exact ⟨m + 1, by omega, rfl, ⟨fun j hj => by rcases Nat.lt_succ_iff_lt_or_eq.1 hj with h | h; exact HJ.out j h; rw [h, hq.out]; exact G.out⟩, HW2⟩
            case measure => simp only [intOf]; omega
          · have E : Aside0 (stopsB l = false) := ⟨HN2.out fun h => c4 (h.2.2.2.2.2.2.2.2 (by omega))⟩
            have b4 : (D == (m : Int)) = false := by rw [beq_eq_false_iff_ne]; exact c4
            clear k1 k2 hk0
            go_wp2
            go_ret
            exact ⟨by rw [E.out]; rfl, HW2.out.1⟩
        · have E : Aside0 (stopsB l = false) := ⟨HN2.out fun h => by have := h.2.2.2.2.1; omega⟩
          have b1 : (s.kind == 1) = false := by rw [beq_eq_false_iff_ne]; exact k1
          have b2 : (s.kind == 2) = false := by rw [beq_eq_false_iff_ne]; exact k2
          clear hk0
          go_wp2
          go_ret
          exact ⟨by rw [E.out]; rfl, HW2.out.1⟩
    · have E : Aside0 (stopsB l = true) := ⟨stopsB_true ⟨by omega, by omega, fun j hj => HJ.out j (by omega)⟩⟩
      go_wp2
      go_ret
      exact ⟨by rw [E.out]; rfl, HW.out.1⟩
end Go.Proofs.Ytonibdmoimgimaa.RefRight
