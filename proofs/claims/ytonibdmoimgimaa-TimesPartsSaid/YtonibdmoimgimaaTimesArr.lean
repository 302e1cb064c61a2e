/- Arrivals. -/
import Derived.Test.YtonibdmoimgimaaTimes
import Derived.Test.YtonibdmoimgimaaRegion
namespace Go.Proofs.Ytonibdmoimgimaa.Times
open Go Go.RowKit Go.Proofs.YtonibdmoimgimaaW.PrintWords Go.Proofs.Ytonibdmoimgimaa.Base Go.Proofs.Ytonibdmoimgimaa.Stops Go.Proofs.Ytonibdmoimgimaa.Add Go.Proofs.Ytonibdmoimgimaa.Region
set_option linter.unusedVariables false
set_option linter.unusedSimpArgs false
attribute [local go_sem ↓] Go.wp_at_zero Go.wp_at_succ
set_option maxRecDepth 100000 in
set_option maxHeartbeats 1000000 in
theorem meas (n k : Nat) (h : k < n) : n - (intOf (.int .i64 ((k : Int) + 1))).toNat < n - (intOf (.int .i64 (k : Int))).toNat := by
  simp only [intOf]; omega
theorem arrivals_calls (D : Option (List Int)) (v : Value) (id cap ed left dwell : Int) (A : Option Addr) (c : Nat) (l : List Stop) (w : World) (hD : TellsD D v w) (hl : kStop.C w A l.length l) (hn : l.length ≤ 1000000) :
    Calls Try.prog 10 #[.agg #[.int .i64 id, .int .i64 cap, .int .i64 ed, .int .i64 left, .slice A l.length c], v, .int .i64 dwell] w (IntsPost .i64 2 (arrI D left dwell l l.length) w) := by
  have HD := Aside0.mk hD
  have HL := Aside0.mk hl
  clear hD hl
  go_enter Try.func10, Try.ntmps10
  go_wp2
  have hb := (Below.refl w.heap.size w).alloc (Nat.le_refl _) (Obj.cells #[.int .i64 id, .int .i64 cap, .int .i64 ed, .int .i64 left, .slice A l.length c] 24)
  have hk := blk_new w (Obj.cells #[.int .i64 id, .int .i64 cap, .int .i64 ed, .int .i64 left, .slice A l.length c] 24)
  have hs := World.size_alloc w (Obj.cells #[.int .i64 id, .int .i64 cap, .int .i64 ed, .int .i64 left, .slice A l.length c] 24)
  revert hb hk hs
  generalize w.alloc (Obj.cells #[.int .i64 id, .int .i64 cap, .int .i64 ed, .int .i64 left, .slice A l.length c] 24) = w1
  intro hb hk hs
  obtain ⟨g, hg⟩ : ∃ g, w.heap.size = g := ⟨_, rfl⟩
  rw [hg] at hb hk hs ⊢
  have H : Hold w1 (fun x => Below g w x ∧ x.cell? ⟨g, 3, none⟩ = some (.int .i64 left) ∧ x.cell? ⟨g, 4, none⟩ = some (.slice A l.length c) ∧ kStop.C x A l.length l ∧ TellsD D v x) w1 := Hold.start (fun w' h => by
    have hk2 := blk_below hk h
    refine ⟨hb.trans (h.mono (by omega)), ?_, ?_, Kd.C_below (Kd.C_below HL.out (by rw [hg]; exact hb)) h, (HD.out.below (by rw [hg]; exact hb)).below h⟩
    · rw [blk_cell hk2]; rfl
    · rw [blk_cell hk2]; rfl)
  have HG := Aside0.mk hg
  have HS1 : Aside0 (g ≤ w1.heap.size) := ⟨by omega⟩
  clear hb hk hs hg
  go_loopw [7, 13] (fun s7 i wr => ∃ k : Nat, k ≤ l.length ∧ i = .int .i64 k ∧ Aside0 (wr.ownsRow w1.heap.size 2 1 s7 k ((arrI D left dwell l k).map (Value.int .i64))) ∧ Hold w1 (fun x => Below g w x ∧ x.cell? ⟨g, 3, none⟩ = some (.int .i64 left) ∧ x.cell? ⟨g, 4, none⟩ = some (.slice A l.length c) ∧ kStop.C x A l.length l ∧ TellsD D v x) wr) (fun _ i _ => l.length - (intOf i).toNat)
  case atStart => exact ⟨0, by omega, rfl, ⟨World.ownsRow_nil _ _ _ _⟩, H⟩
  case round =>
    obtain ⟨k, hk, rfl, HO, HW⟩ := hrel
    by_cases hlt : k < l.length
    · obtain ⟨UA, uc, rfl, ho, hUC, huc⟩ := int_open HO.out k (arrI_length D left dwell l k)
      have HU := Aside0.mk ho
      obtain ⟨_, hc3, hc4, hS, hT⟩ := HW.out
      obtain ⟨ad, s, rfl, hs0, hs1, hs2, hs⟩ := stop_at hS k hlt
      have hbk := blk_new wr (Obj.cells #[.int .i64 s.node, .int .i64 s.kind, .int .i64 s.rider] 41)
      have H2 := (HW.alloc (Obj.cells #[.int .i64 s.node, .int .i64 s.kind, .int .i64 s.rider] 41)).also (S := fun x => x.heap[wr.heap.size]? = some (Obj.cells #[.int .i64 s.node, .int .i64 s.kind, .int .i64 s.rider] 41 (0, 0)) ∧ (Kd.int .i64).C x UA k (arrI D left dwell l k)) (fun w' h => ⟨blk_below hbk h, Kd.C_below (Kd.C_below hUC ((Below.refl _ _).alloc (Nat.le_refl _) _)) h⟩)
      have HO2 := Aside0.mk (World.ownsRow.alloc ho (Obj.cells #[.int .i64 s.node, .int .i64 s.kind, .int .i64 s.rider] 41))
      have HB2 : Aside0 (Below w1.heap.size w1 (wr.alloc (Obj.cells #[.int .i64 s.node, .int .i64 s.kind, .int .i64 s.rider] 41))) := ⟨HW.base.alloc HW.base.size _⟩
      have HKD : Aside0 (∀ x, Below w1.heap.size w1 x → Below g w x ∧ x.cell? ⟨g, 3, none⟩ = some (.int .i64 left) ∧ x.cell? ⟨g, 4, none⟩ = some (.slice (some ad) l.length c) ∧ kStop.C x (some ad) l.length l ∧ TellsD D v x) := ⟨HW.keep⟩
      clear ho hUC hS hT hbk
      go_upto_region 5 with fail
      revert H2 HO2 HB2
      generalize wr.alloc (Obj.cells #[.int .i64 s.node, .int .i64 s.kind, .int .i64 s.rider] 41) = w2
      generalize wr.heap.size = g2
      intro H2 HO2 HB2
      clear hs0 hs1 hs2 hc3 hc4
      rcases k with _ | p
      · have hc3 := H2.out.1.2.1
        go_wp2_with (at_builtin; refine app_lit w1 (by rfl) _ _ _ rfl 2 8 Try.underlying25 i64info (by decide) _ _ (arrI D left dwell l 0) rfl HO2.out HB2.out left rfl ?hb ?_; (case hb => omega); intro v4 w4 HO4 HB4)
        go_roundw
        case rel => exact ⟨1, by omega, rfl, by rw [arrI_snoc]; exact HO4, ⟨HB4.out, HKD.out⟩⟩
        case measure => simp [intOf]; omega
      · rcases p with _ | p
        · obtain ⟨_, hC3, hC4, hS, hT⟩ := H2.out.1
          obtain ⟨ad', s0, e, hs0, hs1, hs2, hq⟩ := stop_at hS 0 (by omega)
          cases e
          simp only [Nat.zero_mul, Addr.add_zero'] at hs0 hs1 hs2
          have f3 : ∀ n : GW (later w2), n.w.cell? ⟨g, 3, none⟩ = some (.int .i64 left) := fun n => pw_cell_below n.ok hC3
          have f4 : ∀ n : GW (later w2), n.w.cell? ⟨g, 4, none⟩ = some (.slice (some ad) l.length c) := fun n => pw_cell_below n.ok hC4
          have k0 : ∀ n : GW (later w2), n.w.cell? ad = some (.int .i64 s0.node) := fun n => pw_cell_below n.ok hs0
          have k1 : ∀ n : GW (later w2), n.w.cell? ⟨ad.block, ad.off + 1, none⟩ = some (.int .i64 s0.kind) := fun n => pw_cell_below n.ok hs1
          have k2 : ∀ n : GW (later w2), n.w.cell? ⟨ad.block, ad.off + 2, none⟩ = some (.int .i64 s0.rider) := fun n => pw_cell_below n.ok hs2
          have c0 : ∀ n : GW (later w2), n.w.cell? ⟨g2, 0, none⟩ = some (.int .i64 s.node) := fun n => by rw [blk_cell (blk_below H2.out.2.1 n.ok)]; rfl
          have c1 : ∀ n : GW (later w2), n.w.cell? ⟨g2, 1, none⟩ = some (.int .i64 s.kind) := fun n => by rw [blk_cell (blk_below H2.out.2.1 n.ok)]; rfl
          have c2 : ∀ n : GW (later w2), n.w.cell? ⟨g2, 2, none⟩ = some (.int .i64 s.rider) := fun n => by rw [blk_cell (blk_below H2.out.2.1 n.ok)]; rfl
          have hTB : Aside0 (∀ n : GW (later w2), TellsD D v n.w) := ⟨fun n => hT.below n.ok⟩
          have hl0 : (0 : Int) < (l.length : Int) := by omega
          clear hC3 hC4 hS hT hs0 hs1 hs2
          go_upto_region 10 with fail
          refine region_app (later w2) 11 (.tmp 7) rfl rfl (by kernel_rfl) (by kernel_rfl) (fun _ _ _ _ h => h) (later_drew w2) (fun hne => ?_)
          simp only [List.take_succ_cons, List.take_zero, List.drop_succ_cons, List.drop_zero]
          repeat (go_big_quiet_step ((first | (go_at_call 29; exact good_below _ (between_calls D v s0 s _ (hTB.out _))) | (go_at_call 28; exact good_eq _ (add_calls left _ _)))))
          refine wpQuiet_nil ?_
          intro w5 hw5
          have HO5 := Aside0.mk (pw_own_below HO2.out hw5)
          have HB5 := Aside0.mk (HB2.out.trans (hw5.mono HB2.out.size))
          have HSS : Aside0 (l.getD 0 zStop = s0 ∧ l.getD 1 zStop = s) := ⟨hq.out, hs.out⟩
          clear f3 f4 k0 k1 k2 c0 c1 c2 hw5
          go_wp2_with (at_builtin; refine app_lit w1 (by rfl) _ _ _ rfl 2 8 Try.underlying25 i64info (by decide) _ _ (arrI D left dwell l 1) rfl HO5.out HB5.out (addI left (distI D s0.node s.node)) rfl ?hb ?_; (case hb => omega); intro v4 w4 HO4 HB4)
          go_roundw
          case rel =>
            refine ⟨2, by omega, rfl, ?_, ⟨HB4.out, HKD.out⟩⟩
            rw [arrI_snoc]
            have e : arrAt D left dwell l 1 = addI left (distI D s0.node s.node) := by
              show addI left (dd D l 0 1) = _
              unfold dd
              rw [HSS.out.1, HSS.out.2]
            rw [e]
            exact HO4
          case measure => simp [intOf]; omega
        · generalize hm : p + 1 = m at *
          have hm0 : 0 < m := by omega
          have HM := Aside0.mk hm
          clear hm
          obtain ⟨_, hC3, hC4, hS, hT⟩ := H2.out.1
          obtain ⟨ad', s0, e, hs0, hs1, hs2, hq⟩ := stop_at hS m (by omega)
          cases e
          obtain ⟨ud, x, hUA, hx0, hx⟩ := at_nat H2.out.2.2 m (by omega)
          subst hUA
          have hx2 := hx.out
          rw [arrI_at D left dwell l (m + 1) m (by omega)] at hx2
          subst hx2
          clear hx
          have f3 : ∀ n : GW (later w2), n.w.cell? ⟨g, 3, none⟩ = some (.int .i64 left) := fun n => pw_cell_below n.ok hC3
          have f4 : ∀ n : GW (later w2), n.w.cell? ⟨g, 4, none⟩ = some (.slice (some ad) l.length c) := fun n => pw_cell_below n.ok hC4
          have k0 : ∀ n : GW (later w2), n.w.cell? (ad.add (m * 3)) = some (.int .i64 s0.node) := fun n => pw_cell_below n.ok hs0
          have k1 : ∀ n : GW (later w2), n.w.cell? ⟨(ad.add (m * 3)).block, (ad.add (m * 3)).off + 1, none⟩ = some (.int .i64 s0.kind) := fun n => pw_cell_below n.ok hs1
          have k2 : ∀ n : GW (later w2), n.w.cell? ⟨(ad.add (m * 3)).block, (ad.add (m * 3)).off + 2, none⟩ = some (.int .i64 s0.rider) := fun n => pw_cell_below n.ok hs2
          have u0 : ∀ n : GW (later w2), n.w.cell? (ud.add m) = some (.int .i64 (arrAt D left dwell l m)) := fun n => pw_cell_below n.ok hx0
          have c0 : ∀ n : GW (later w2), n.w.cell? ⟨g2, 0, none⟩ = some (.int .i64 s.node) := fun n => by rw [blk_cell (blk_below H2.out.2.1 n.ok)]; rfl
          have c1 : ∀ n : GW (later w2), n.w.cell? ⟨g2, 1, none⟩ = some (.int .i64 s.kind) := fun n => by rw [blk_cell (blk_below H2.out.2.1 n.ok)]; rfl
          have c2 : ∀ n : GW (later w2), n.w.cell? ⟨g2, 2, none⟩ = some (.int .i64 s.rider) := fun n => by rw [blk_cell (blk_below H2.out.2.1 n.ok)]; rfl
          have hTB : Aside0 (∀ n : GW (later w2), TellsD D v n.w) := ⟨fun n => hT.below n.ok⟩
          obtain ⟨X, hX⟩ : ∃ X, arrAt D left dwell l m = X := ⟨_, rfl⟩
          rw [hX] at u0
          have HX := Aside0.mk hX
          have i1 : IntKind.i64.wrap ((m + 1 : Nat) - 1 : Int) = (m : Int) := by rw [IntWalk.i64_in _ (by omega)]; omega
          have i2 : (0 : Int) ≤ (m : Int) := by omega
          have i3 : (m : Int) < (l.length : Int) := by omega
          have i4 : (m : Int) < ((m + 1 : Nat) : Int) := by omega
          have i5 : (m : Int).toNat = m := by omega
          clear hC3 hC4 hS hT hs0 hs1 hs2 hx0 hX
          go_upto_region 6 with fail
          refine region_app (later w2) 18 (.tmp 7) rfl rfl (by kernel_rfl) (by kernel_rfl) (fun _ _ _ _ h => h) (later_drew w2) (fun hne => ?_)
          simp only [List.take_succ_cons, List.take_zero, List.drop_succ_cons, List.drop_zero]
          repeat (go_big_quiet_step ((first | (go_at_call 29; exact good_below _ (between_calls D v s0 s _ (hTB.out _))) | (go_at_call 28; exact good_eq _ (add_calls _ _ _)))))
          refine wpQuiet_nil ?_
          intro w5 hw5
          have HO5 := Aside0.mk (pw_own_below HO2.out hw5)
          have HB5 := Aside0.mk (HB2.out.trans (hw5.mono HB2.out.size))
          have HSS : Aside0 (l.getD m zStop = s0 ∧ l.getD (m + 1) zStop = s) := ⟨hq.out, hs.out⟩
          clear f3 f4 k0 k1 k2 c0 c1 c2 u0 hw5 i1 i2 i3 i4 i5
          go_wp2_with (at_builtin; refine app_lit w1 (by rfl) _ _ _ rfl 2 8 Try.underlying25 i64info (by decide) _ _ (arrI D left dwell l (m + 1)) rfl HO5.out HB5.out (addI (addI X dwell) (distI D s0.node s.node)) rfl ?hb ?_; (case hb => omega); intro v4 w4 HO4 HB4)
          go_roundw
          case rel =>
            refine ⟨m + 1 + 1, by omega, rfl, ?_, ⟨HB4.out, HKD.out⟩⟩
            rw [arrI_snoc]
            have e : arrAt D left dwell l (m + 1) = addI (addI X dwell) (distI D s0.node s.node) := by
              rw [← HX.out, arrAt_next D left dwell l m hm0]
              unfold dd
              rw [HSS.out.1, HSS.out.2]
            rw [e]
            exact HO4
          case measure => have := HM.out; simp only [intOf]; omega
    · obtain rfl : k = l.length := by omega
      go_wp2
      go_ret
      refine ⟨_, rfl, ?_, ?_⟩
      · rw [arrI_length]
        exact own_lower HO.out (by rw [HG.out]; exact HS1.out)
      · rw [HG.out]
        exact HW.out.1
end Go.Proofs.Ytonibdmoimgimaa.Times
