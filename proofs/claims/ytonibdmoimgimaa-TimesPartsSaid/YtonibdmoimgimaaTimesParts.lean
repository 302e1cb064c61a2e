/- The parts of a route: the law TimesParts. -/
import Derived.Test.YtonibdmoimgimaaTimesPartsM
import Derived.Test.YtonibdmoimgimaaVeh
import Derived.Test.YtonibdmoimgimaaRefVeh
import Derived.Deep.RegionHeld3
import Derived.Deep.DrawnRows
namespace Go.Proofs.Ytonibdmoimgimaa.TimesParts
open Go Go.RowKit Go.Proofs.YtonibdmoimgimaaW.PrintWords Go.Proofs.Ytonibdmoimgimaa.Base Go.Proofs.Ytonibdmoimgimaa.Stops Go.Proofs.Ytonibdmoimgimaa.Add Go.Proofs.Ytonibdmoimgimaa.Times Go.Proofs.Ytonibdmoimgimaa.TimesLaw Go.Proofs.Ytonibdmoimgimaa.RefRight
set_option linter.unusedVariables false
set_option linter.unusedSimpArgs false
attribute [local go_sem ↓] Go.wp_at_zero Go.wp_at_succ
theorem later_step {w0 x y : World} (h : Below x.heap.size x y) (hx : Below w0.heap.size w0 x) : Below w0.heap.size w0 y := hx.trans (h.mono hx.size)
set_option maxRecDepth 100000 in
set_option maxHeartbeats 2000000 in
theorem parts_calls (id cap ed left : Int) (A : Option Addr) (c : Nat) (l : List Stop) (F : Option Addr) (fc : Nat) (far : List Int) (dwell at_ : Int) (w : World) (hc : l.length ≤ c) (hl : kStop.C w A l.length l) (hF : (Kd.int .i64).C w F far.length far) (hfb : ∀ d ∈ far, -9223372036854775808 ≤ d ∧ d ≤ 9223372036854775807) :
    Calls Try.prog 5 #[.agg #[.int .i64 id, .int .i64 cap, .int .i64 ed, .int .i64 left, .slice A l.length c], .slice F far.length fc, .int .i64 dwell, .int .i64 at_] w fun e w' => e = .returned (.bool true) ∧ Below w.heap.size w w' := by
  have HFB := Aside0.mk hfb
  have hk := blk_new w (Obj.cells #[.int .i64 id, .int .i64 cap, .int .i64 ed, .int .i64 left, .slice A l.length c] 24)
  have hb := (Below.refl w.heap.size w).alloc (Nat.le_refl _) (Obj.cells #[.int .i64 id, .int .i64 cap, .int .i64 ed, .int .i64 left, .slice A l.length c] 24)
  have hC := Kd.C_below hl hb
  have hC2 := Kd.C_below hF hb
  clear hl hF hfb
  have HC := Aside0.mk hc
  clear hc
  go_enter Try.func5, Try.ntmps5
  go_wp2_with fail
  revert hk hb hC hC2
  generalize w.alloc (Obj.cells #[.int .i64 id, .int .i64 cap, .int .i64 ed, .int .i64 left, .slice A l.length c] 24) = w1
  obtain ⟨g, hg⟩ : ∃ g, w.heap.size = g := ⟨_, rfl⟩
  rw [hg]
  intro hk hb hC hC2
  have HB := Aside0.mk hb
  have HG : Aside0 (g ≤ w1.heap.size) := ⟨by have := hb.size; omega⟩
  have HGG := Aside0.mk hg
  clear hg
  have H1 : Hold w1 (fun x => (x.cell? ⟨g, 0, none⟩ = some (.int .i64 id) ∧ x.cell? ⟨g, 1, none⟩ = some (.int .i64 cap) ∧ x.cell? ⟨g, 2, none⟩ = some (.int .i64 ed) ∧ x.cell? ⟨g, 3, none⟩ = some (.int .i64 left) ∧ x.cell? ⟨g, 4, none⟩ = some (.slice A l.length c)) ∧ kStop.C x A l.length l ∧ (Kd.int .i64).C x F far.length far) w1 := Hold.start (fun w' h => by
    have hk2 := blk_below hk h
    refine ⟨⟨?_, ?_, ?_, ?_, ?_⟩, Kd.C_below hC h, Kd.C_below hC2 h⟩ <;> (rw [blk_cell hk2]; rfl))
  clear hk hb hC hC2
  refine (awake_calls w1).mono ?_
  rintro e w2 ⟨rfl, hw⟩
  have H2 := H1.step hw
  clear hw H1
  obtain ⟨⟨c0, c1, c2, c3, c4⟩, -, -⟩ := H2.out
  go_wp2_with fail
  refine (refRight_calls id cap ed left A c l w2 H2.out.2.1).mono ?_
  rintro e w3 ⟨rfl, hw⟩
  have H3 := H2.step hw
  clear hw H2 c0 c1 c2 c3 c4
  obtain ⟨⟨c0, c1, c2, c3, c4⟩, -, -⟩ := H3.out
  obtain ⟨B, hB⟩ : ∃ B, rightB id cap ed left l = B := ⟨_, rfl⟩
  rw [hB]
  cases B with
  | false =>
    clear hB
    go_wp2_with fail
    refine (awake_calls w3).mono ?_
    rintro e w4 ⟨rfl, hw⟩
    have H4 := H3.step hw
    clear hw
    go_wp2
    go_ret
    exact ⟨rfl, by rw [HGG.out]; exact HB.out.trans (H4.base.mono HG.out)⟩
  | true =>
    have HR := Aside0.mk (rightB_true hB)
    clear hB
    go_upto_region 3 with fail
    go_cut [2] (fun s2 wx => ∃ dw : Int, 0 ≤ dw ∧ dw ≤ 1048576 ∧ s2 = .int .i64 dw ∧ wx = w3)
    case first =>
      go_wp2_with fail
      all_goals go_meet
      all_goals (case rel => exact ⟨_, by omega, by omega, rfl, rfl⟩)
    case rest =>
      obtain ⟨dw, hd0, hd1, rfl, rfl⟩ := hcut
      have h64 := HR.out.2.2.2.2.2.2.2.2.1
      have h1 := HR.out.2.2.2.2.2.2.2.1
      go_upto_region 5 with fail
      obtain ⟨k, hk, hkl⟩ : ∃ k : Nat, (IntKind.u64.wrap at_).tmod (l.length : Int) = k ∧ k < l.length := by
        have h0 : 0 ≤ IntKind.u64.wrap at_ := by rw [IntKind.wrap_u64]; omega
        rw [Int.tmod_eq_emod_of_nonneg h0]
        have h2 := Int.emod_nonneg (IntKind.u64.wrap at_) (show (l.length : Int) ≠ 0 by omega)
        have h3 := Int.emod_lt_of_pos (IntKind.u64.wrap at_) (show (0 : Int) < (l.length : Int) by omega)
        exact ⟨_, (Int.toNat_of_nonneg h2).symm, by omega⟩
      have hk64 : wrap64 (k : Int) = (k : Int) := by unfold wrap64; omega
      rw [hk, hk64]
      clear hk hk64
      obtain ⟨m, hm⟩ : ∃ m : Nat, m = k + 1 := ⟨_, rfl⟩
      have HM := Aside0.mk hm
      obtain ⟨ad, _, hA, -, -, -, -⟩ := stop_at H3.out.2.1 0 (by omega)
      subst hA
      have c5 := pw_cell_below ((Below.refl wc.heap.size wc).alloc (Nat.le_refl _) (Obj.cells #[.int .i64 id, .int .i64 cap, .int .i64 ed, .int .i64 left, .slice (some ad) l.length c] 24)) c4
      have hcap := HC.out
      have i1 : IntKind.i64.wrap ((k : Int) + 1) = (m : Int) := by rw [IntWalk.i64_in _ (by omega)]; omega
      have i2 : (0 : Int) ≤ (m : Int) := by omega
      have i3 : (m : Int) ≤ (c : Int) := by omega
      have i4 : (m : Int).toNat = m := by omega
      clear hm hcap
      go_upto_region 7 with fail
      obtain ⟨lt, hlt⟩ : ∃ lt, lt = l.take m := ⟨_, rfl⟩
      have hlm : lt.length = m := by rw [hlt, List.length_take]; have := HM.out; omega
      subst hlm
      have HLT : Aside0 (lt = l.take lt.length) := ⟨hlt⟩
      clear hlt
      have hbk := blk_new wc (Obj.cells #[.int .i64 id, .int .i64 cap, .int .i64 ed, .int .i64 left, .slice (some ad) lt.length c] 24)
      have H4 := H3.alloc (Obj.cells #[.int .i64 id, .int .i64 cap, .int .i64 ed, .int .i64 left, .slice (some ad) lt.length c] 24)
      clear c0 c1 c2 c3 c4 c5 H3
      revert hbk H4
      generalize wc.alloc (Obj.cells #[.int .i64 id, .int .i64 cap, .int .i64 ed, .int .i64 left, .slice (some ad) lt.length c] 24) = w5
      generalize wc.heap.size = g5
      intro hbk H4
      have hS : ∀ x, Below w5.heap.size w5 x → Below w5.heap.size w5 x ∧ x.cell? ⟨g, 0, none⟩ = some (.int .i64 id) ∧ x.cell? ⟨g, 1, none⟩ = some (.int .i64 cap) ∧ x.cell? ⟨g, 2, none⟩ = some (.int .i64 ed) ∧ x.cell? ⟨g, 3, none⟩ = some (.int .i64 left) ∧ x.cell? ⟨g, 4, none⟩ = some (.slice (some ad) l.length c) ∧ x.cell? ⟨g5, 0, none⟩ = some (.int .i64 id) ∧ x.cell? ⟨g5, 1, none⟩ = some (.int .i64 cap) ∧ x.cell? ⟨g5, 2, none⟩ = some (.int .i64 ed) ∧ x.cell? ⟨g5, 3, none⟩ = some (.int .i64 left) ∧ x.cell? ⟨g5, 4, none⟩ = some (.slice (some ad) lt.length c) := fun x h => by
        have hk2 := blk_below hbk h
        have hc := (H4.step h).out.1
        refine ⟨h, hc.1, hc.2.1, hc.2.2.1, hc.2.2.2.1, hc.2.2.2.2, ?_, ?_, ?_, ?_, ?_⟩ <;> (rw [blk_cell hk2]; rfl)
      have hTC : ∀ x, Below w5.heap.size w5 x → kStop.C x (some ad) l.length l ∧ kStop.C x (some ad) lt.length lt ∧ TellsD (some far) (.func (.func 11) #[.slice F far.length fc] #[]) x := fun x h => ⟨(H4.step h).out.2.1, by have e := stop_take (H4.step h).out.2.1 lt.length (by have := HM.out; omega); rw [← HLT.out] at e; exact e, F, fc, rfl, (H4.step h).out.2.2, HFB.out⟩
      have h0 := hS w5 (Below.refl _ _)
      have hlt64 : lt.length ≤ 64 := by have := HM.out; omega
      have hTL : ∀ x, Below w5.heap.size w5 x → ∀ l', l' = l ∨ l' = lt → kStop.C x (some ad) l'.length l' ∧ l'.length ≤ 1000000 := fun x h l' hl' => by rcases hl' with rfl | rfl; exact ⟨(hTC x h).1, by omega⟩; exact ⟨(hTC x h).2.1, by omega⟩
      clear hbk
      go_cut [11, 12] (fun s11 s12 wx => ∃ A1 c1 A2 c2, s11 = .slice A1 l.length c1 ∧ s12 = .slice A2 lt.length c2 ∧ (Kd.int .i64).C wx A1 l.length (arrI (some far) left dw l l.length) ∧ (Kd.int .i64).C wx A2 lt.length (arrI (some far) left dw lt lt.length) ∧ Below w5.heap.size w5 wx)
      case first =>
        go_region_held3 (fun x => Below w5.heap.size w5 x ∧ x.cell? ⟨g, 0, none⟩ = some (.int .i64 id) ∧ x.cell? ⟨g, 1, none⟩ = some (.int .i64 cap) ∧ x.cell? ⟨g, 2, none⟩ = some (.int .i64 ed) ∧ x.cell? ⟨g, 3, none⟩ = some (.int .i64 left) ∧ x.cell? ⟨g, 4, none⟩ = some (.slice (some ad) l.length c) ∧ x.cell? ⟨g5, 0, none⟩ = some (.int .i64 id) ∧ x.cell? ⟨g5, 1, none⟩ = some (.int .i64 cap) ∧ x.cell? ⟨g5, 2, none⟩ = some (.int .i64 ed) ∧ x.cell? ⟨g5, 3, none⟩ = some (.int .i64 left) ∧ x.cell? ⟨g5, 4, none⟩ = some (.slice (some ad) lt.length c)) (first | exact hS _ (by assumption) | exact hS _ (And.left (by assumption)) | exact hS _ (Below.drew (by first | assumption | exact And.left (by assumption))) | exact hS _ ((Below.refl _ _).drew)) (first | (go_at_call 10; refine (arrivals_calls (some far) _ id cap ed left dw (some ad) c _ _ (hTC _ (by first | assumption | exact And.left (by assumption))).2.2 (hTL _ (by first | assumption | exact And.left (by assumption)) _ (by first | exact .inl rfl | exact .inr rfl)).1 (hTL _ (by first | assumption | exact And.left (by assumption)) _ (by first | exact .inl rfl | exact .inr rfl)).2).mono ?_; rintro e wz ⟨v, rfl, hO, hw⟩; have hB := later_step (w0 := w5) hw (by first | assumption | exact And.left (by assumption))))
        all_goals (
          rename_i wy vy hOy hwy hBy hhy
          obtain ⟨A1, c1, rfl, -, hC1, -⟩ := int_open hOy l.length (arrI_length _ _ _ _ _)
          obtain ⟨A2, c2, rfl, -, hC2, -⟩ := int_open hO lt.length (arrI_length _ _ _ _ _)
          go_wp2_with fail
          go_meet
          case rel => exact ⟨_, _, _, _, rfl, rfl, Kd.C_below hC1 hw, hC2, hB⟩)
      case rest =>
        obtain ⟨A1, c1, A2, c2, rfl, rfl, hC1, hC2, hB⟩ := hcut
        have HT : Hold wc (fun x => (Kd.int .i64).C x A1 l.length (arrI (some far) left dw l l.length) ∧ (Kd.int .i64).C x A2 lt.length (arrI (some far) left dw lt lt.length) ∧ x.cell? ⟨g, 4, none⟩ = some (.slice (some ad) l.length c) ∧ kStop.C x (some ad) l.length l ∧ kStop.C x (some ad) lt.length lt ∧ TellsD (some far) (.func (.func 11) #[.slice F far.length fc] #[]) x) wc := Hold.start (fun w' h => ⟨Kd.C_below hC1 h, Kd.C_below hC2 h, (hS w' (later_step h hB)).2.2.2.2.2.1, hTC w' (later_step h hB)⟩)
        have c4 := HT.out.2.2.1
        have HGC : Aside0 (g ≤ wc.heap.size) := ⟨Nat.le_trans HG.out (H4.step hB).base.size⟩
        have HBC := Aside0.mk (HB.out.trans ((H4.step hB).base.mono HG.out))
        clear hC1 hC2 hS hTC hTL h0 hB H4
        go_wp2
        go_loopw [13] (fun i wr => ∃ j : Nat, j ≤ lt.length ∧ i = .int .i64 j ∧ Hold wc (fun x => (Kd.int .i64).C x A1 l.length (arrI (some far) left dw l l.length) ∧ (Kd.int .i64).C x A2 lt.length (arrI (some far) left dw lt lt.length) ∧ x.cell? ⟨g, 4, none⟩ = some (.slice (some ad) l.length c) ∧ kStop.C x (some ad) l.length l ∧ kStop.C x (some ad) lt.length lt ∧ TellsD (some far) (.func (.func 11) #[.slice F far.length fc] #[]) x) wr) (fun i _ => lt.length - (intOf i).toNat)
        case atStart => exact ⟨0, by omega, rfl, HT⟩
        case round =>
          obtain ⟨j, hj, rfl, HW⟩ := hrel
          have hmk := HM.out
          by_cases hlt : j < lt.length
          · obtain ⟨ad1, a, rfl, ha, hqa⟩ := at_nat HW.out.1 j (by omega)
            obtain ⟨ad2, b, rfl, hb, hqb⟩ := at_nat HW.out.2.1 j hlt
            have hqa := hqa.out
            have hqb := hqb.out
            rw [arrI_at _ _ _ _ _ _ (by omega)] at hqa
            rw [arrI_at _ _ _ _ _ _ hlt, HLT.out, arr_take _ _ _ _ _ j hlt, hqa] at hqb
            subst hqb
            clear hqa
            have fa : ∀ n : GW (Region.later wr), n.w.cell? (ad1.add j) = some (.int .i64 a) := fun n => pw_cell_below n.ok ha
            have fb : ∀ n : GW (Region.later wr), n.w.cell? (ad2.add j) = some (.int .i64 a) := fun n => pw_cell_below n.ok hb
            clear ha hb
            have i2 : (0 : Int) ≤ (j : Int) := by omega
            have i3 : (j : Int) < (l.length : Int) := by omega
            have i4 : (j : Int) < (lt.length : Int) := by omega
            have i5 : (j : Int).toNat = j := by omega
            have i6 : (j : Int) ≤ (k : Int) := by omega
            have e5 : (a != a) = false := by simp
            clear hmk
            go_upto_region 13 with fail
            refine region_good (Region.later wr) rfl (by kernel_rfl) (Region.later_drew wr) (fun hne => ?_)
            repeat (go_big_quiet_step (fail))
            refine wpQuiet_nil ?_
            rintro w7 ⟨n, rfl⟩
            have HW7 := HW.step n.ok
            revert HW7
            generalize n.w = w7
            intro HW7
            clear fa fb
            go_wp2
            go_roundw
            case rel => exact ⟨j + 1, by omega, rfl, HW7⟩
            case measure => simp only [intOf]; omega
          · have i6 : ¬ ((j : Int) ≤ (k : Int)) := by omega
            obtain ⟨ld, hld⟩ : ∃ ld, ld = l.drop k := ⟨_, rfl⟩
            have hdl : l.length - k = ld.length := by rw [hld, List.length_drop]
            have HLD := Aside0.mk hld
            have hdrop : ∀ n : GW (Region.later wr), kStop.C n.w (some (ad.add (k * 3))) ld.length ld := fun n => by
              have e := stop_drop (HW.step n.ok).out.2.2.2.1 k hkl
              rw [← HLD.out] at e
              exact e
            have f4 : ∀ n : GW (Region.later wr), n.w.cell? ⟨g, 4, none⟩ = some (.slice (some ad) l.length c) := fun n => (HW.step n.ok).out.2.2.1
            have hTD : ∀ n : GW (Region.later wr), TellsD (some far) (.func (.func 11) #[.slice F far.length fc] #[]) n.w := fun n => (HW.step n.ok).out.2.2.2.2.2
            have hTL : ∀ n : GW (Region.later wr), ∀ A' l', (A' = some ad ∧ l' = l ∨ A' = some ad ∧ l' = lt ∨ A' = some (ad.add (k * 3)) ∧ l' = ld) → kStop.C n.w A' l'.length l' ∧ l'.length ≤ 1000000 := fun n A' l' h => by
              rcases h with ⟨rfl, rfl⟩ | ⟨rfl, rfl⟩ | ⟨rfl, rfl⟩
              · exact ⟨(HW.step n.ok).out.2.2.2.1, by omega⟩
              · exact ⟨(HW.step n.ok).out.2.2.2.2.1, by omega⟩
              · exact ⟨hdrop n, by omega⟩
            have hLN : ∀ l', (l' = l ∨ l' = lt ∨ l' = ld) → l'.length ≤ 1000000 := fun l' h => by rcases h with rfl | rfl | rfl <;> omega
            have HV : Aside0 (driveI (some far) l (l.length - 1) = (if 1152921504606846976 < driveI (some far) lt (lt.length - 1) + driveI (some far) ld (ld.length - 1) then 1152921504606846976 else driveI (some far) lt (lt.length - 1) + driveI (some far) ld (ld.length - 1)) ∧ (k = 0 → driveI (some far) lt (lt.length - 1) = 0)) := ⟨by
              have e1 : driveI (some far) lt (lt.length - 1) = driveI (some far) l k := by
                rw [show lt.length - 1 = k by omega, HLT.out]
                exact drive_take _ _ _ _ (by omega)
              refine ⟨?_, fun h => by rw [e1, h]; rfl⟩
              rw [e1, hld, ← drive_split]
              congr 1
              rw [List.length_drop]
              omega⟩
            have HB1 := Aside0.mk (drive_bounds (some far) lt (lt.length - 1))
            have HB2 := Aside0.mk (drive_bounds (some far) ld (ld.length - 1))
            have hcap := HC.out
            have i1 : IntKind.i64.wrap ((k : Int) + 1) = (lt.length : Int) := by rw [IntWalk.i64_in _ (by omega)]; omega
            have i2 : (0 : Int) ≤ (lt.length : Int) := by omega
            have i3 : (lt.length : Int) ≤ (c : Int) := by omega
            have i4 : (0 : Int) ≤ (k : Int) := by omega
            have i5 : (k : Int) ≤ (l.length : Int) := by omega
            have i7 : (k : Int).toNat = k := by omega
            have i8 : k < c := by omega
            have HK := Aside0.mk hkl
            clear hmk hld hdrop hcap hkl
            go_upto_region 15 with fail
            refine region_good (Region.later wr) rfl (by kernel_rfl) (Region.later_drew wr) (fun hne => ?_)
            repeat (go_big_quiet_step ((go_at_call 15; exact Region.good_below _ (drive_calls (some far) _ _ _ _ _ (hTD _) (hTL _ _ _ (by first | exact .inl ⟨rfl, rfl⟩ | exact .inr (.inl ⟨rfl, rfl⟩) | exact .inr (.inr ⟨rfl, rfl⟩))).1 (hLN _ (by first | exact .inl rfl | exact .inr (.inl rfl) | exact .inr (.inr rfl)))))))
            refine wpQuiet_nil ?_
            rintro w7 ⟨n, rfl⟩
            have HW7 := HW.step n.ok
            revert HW7
            generalize n.w = w7
            intro HW7
            clear f4 hTD hTL hLN i1 i2 i3 i5 i7 i8 hdl
            obtain ⟨X, hX⟩ : ∃ X, driveI (some far) l (l.length - 1) = X := ⟨_, rfl⟩
            obtain ⟨Y, hY⟩ : ∃ Y, driveI (some far) lt (lt.length - 1) = Y := ⟨_, rfl⟩
            obtain ⟨Z, hZ⟩ : ∃ Z, driveI (some far) ld (ld.length - 1) = Z := ⟨_, rfl⟩
            rw [hX, hY, hZ] at HV
            rw [hY] at HB1
            rw [hZ] at HB2
            rw [hX, hY, hZ]
            clear hX hY hZ
            obtain ⟨y0, y1⟩ := HB1.out
            obtain ⟨z0, z1⟩ := HB2.out
            have i9 : IntKind.i64.wrap (Y + Z) = Y + Z := by rw [IntWalk.i64_in _ (by omega)]
            have hv := HV.out
            have HE : Aside0 (Below w.heap.size w w7) := ⟨by rw [HGG.out]; exact HBC.out.trans (HW7.base.mono HGC.out)⟩
            by_cases hbig : 1152921504606846976 < Y + Z
            · rw [if_pos hbig] at hv
              have ex : (X == 1152921504606846976) = true := by rw [beq_iff_eq]; exact hv.1
              have hk0 := hv.2
              clear hv HV
              rcases Nat.eq_zero_or_pos k with h0 | h0
              · exact absurd (hk0 h0) (by omega)
              · have j1 : 0 < (k : Int) := by omega
                clear hk0 h0
                go_wp2
                go_ret
                exact ⟨rfl, HE.out⟩
            · rw [if_neg hbig] at hv
              have ex : (X == Y + Z) = true := by rw [beq_iff_eq]; exact hv.1
              have hk0 := hv.2
              clear hv HV
              rcases Nat.eq_zero_or_pos k with h0 | h0
              · have j1 : ¬ (0 < (k : Int)) := by omega
                have ey : (Y == 0) = true := by rw [beq_iff_eq]; exact hk0 h0
                clear hk0 h0
                go_wp2
                go_ret
                exact ⟨rfl, HE.out⟩
              · have j1 : 0 < (k : Int) := by omega
                clear hk0 h0
                go_wp2
                go_ret
                exact ⟨rfl, HE.out⟩
theorem law {E : Nat} (x : Int × Int × Int × Int × List Stop) (vl : List Value) (F : Option Addr) (fc : Nat) (far : List Int) (dwell at_ : Int) (w : World) (hx : (Kd.pair (Kd.int .i64) (Kd.pair (Kd.int .i64) (Kd.pair (Kd.int .i64) (Kd.pair (Kd.int .i64) (Kd.slice E kStop))))).K w x vl) (hF : (Kd.int .i64).C w F far.length far) (hfb : ∀ d ∈ far, (Lit.int .i64 d).wf = true) :
    Calls Try.prog 5 #[.agg vl.toArray, .slice F far.length fc, .int .i64 dwell, .int .i64 at_] w fun e w' => e = .returned (.bool true) ∧ Below w.heap.size w w' := by
  obtain ⟨A, c, rfl, hc, hC⟩ := Veh.veh_open hx
  exact parts_calls _ _ _ _ A c _ F fc far dwell at_ w hc hC hF (fun d hd => wf_i64 (hfb d hd))
end Go.Proofs.Ytonibdmoimgimaa.TimesParts
