/- Left later: the law TimesShift. -/
import Derived.Test.YtonibdmoimgimaaTimesLaw
import Derived.Test.YtonibdmoimgimaaVeh
import Derived.Test.YtonibdmoimgimaaRefVeh
import Derived.Deep.RegionHeld3
import Derived.Deep.DrawnRows
namespace Go.Proofs.Ytonibdmoimgimaa.TimesShift
open Go Go.RowKit Go.Proofs.YtonibdmoimgimaaW.PrintWords Go.Proofs.Ytonibdmoimgimaa.Base Go.Proofs.Ytonibdmoimgimaa.Stops Go.Proofs.Ytonibdmoimgimaa.Add Go.Proofs.Ytonibdmoimgimaa.Times Go.Proofs.Ytonibdmoimgimaa.TimesLaw Go.Proofs.Ytonibdmoimgimaa.RefRight
set_option linter.unusedVariables false
set_option linter.unusedSimpArgs false
attribute [local go_sem ↓] Go.wp_at_zero Go.wp_at_succ
theorem dist_two (far : List Int) (x y : Int) : farI far x y = 1152921504606846976 ∨ 0 ≤ farI far x y ∧ farI far x y < 1099511627776 := by
  unfold farI
  split
  · omega
  · split <;> omega
/-- Left later by t: all is later by t, or never. -/
theorem arr_shift (far : List Int) (left t dw : Int) (l : List Stop) (h0 : 0 ≤ left) (h1 : left ≤ 2199023255552) (t0 : 0 ≤ t) (t1 : t < 1099511627776) (d0 : 0 ≤ dw) (d1 : dw ≤ 1048576) :
    ∀ k : Nat, k ≤ 1000 → (arrAt (some far) left dw l k = 1152921504606846976 ∧ arrAt (some far) (left + t) dw l k = 1152921504606846976) ∨
      (0 ≤ arrAt (some far) left dw l k ∧ arrAt (some far) left dw l k ≤ 2199023255552 + k * 2199023255552 ∧ arrAt (some far) (left + t) dw l k = arrAt (some far) left dw l k + t)
  | 0, _ => .inr ⟨h0, by simp [arrAt]; omega, rfl⟩
  | 1, _ => by
    have hd := dist_two far (i32 (l.getD 0 zStop).node) (i32 (l.getD 1 zStop).node)
    simp only [arrAt, dd, distI]
    unfold addI
    omega
  | k + 2, hk => by
    have hd := dist_two far (i32 (l.getD (k + 1) zStop).node) (i32 (l.getD (k + 2) zStop).node)
    have ih := arr_shift far left t dw l h0 h1 t0 t1 d0 d1 (k + 1) (by omega)
    simp only [arrAt, dd, distI]
    revert ih hd
    generalize arrAt (some far) left dw l (k + 1) = a
    generalize arrAt (some far) (left + t) dw l (k + 1) = b
    generalize farI far (i32 (l.getD (k + 1) zStop).node) (i32 (l.getD (k + 2) zStop).node) = d
    intro hd ih
    unfold addI
    omega
theorem later_step {w0 x y : World} (h : Below x.heap.size x y) (hx : Below w0.heap.size w0 x) : Below w0.heap.size w0 y := hx.trans (h.mono hx.size)
set_option maxRecDepth 100000 in
set_option maxHeartbeats 2000000 in
theorem shift_calls (id cap ed left : Int) (A : Option Addr) (c : Nat) (l : List Stop) (F : Option Addr) (fc : Nat) (far : List Int) (dwell later : Int) (w : World) (hl : kStop.C w A l.length l) (hF : (Kd.int .i64).C w F far.length far) (hfb : ∀ d ∈ far, -9223372036854775808 ≤ d ∧ d ≤ 9223372036854775807) :
    Calls Try.prog 4 #[.agg #[.int .i64 id, .int .i64 cap, .int .i64 ed, .int .i64 left, .slice A l.length c], .slice F far.length fc, .int .i64 dwell, .int .i64 later] w fun e w' => e = .returned (.bool true) ∧ Below w.heap.size w w' := by
  have HFB := Aside0.mk hfb
  have hk := blk_new w (Obj.cells #[.int .i64 id, .int .i64 cap, .int .i64 ed, .int .i64 left, .slice A l.length c] 24)
  have hb := (Below.refl w.heap.size w).alloc (Nat.le_refl _) (Obj.cells #[.int .i64 id, .int .i64 cap, .int .i64 ed, .int .i64 left, .slice A l.length c] 24)
  have hC := Kd.C_below hl hb
  have hC2 := Kd.C_below hF hb
  clear hl hF hfb
  go_enter Try.func4, Try.ntmps4
  go_wp2_with fail
  revert hk hb hC hC2
  generalize w.alloc (Obj.cells #[.int .i64 id, .int .i64 cap, .int .i64 ed, .int .i64 left, .slice A l.length c] 24) = w1
  obtain ⟨g, hg⟩ : ∃ g, w.heap.size = g := ⟨_, rfl⟩
  rw [hg]
  intro hk hb hC hC2
  have HB := Aside0.mk hb
  have HG : Aside0 (g ≤ w1.heap.size) := ⟨by have := hb.size; omega⟩
  have HGG := Aside0.mk hg
  clear hg
  have H1 : Hold w1 (fun x => (x.cell? ⟨g, 0, none⟩ = some (.int .i64 id) ∧ x.cell? ⟨g, 1, none⟩ = some (.int .i64 cap) ∧ x.cell? ⟨g, 2, none⟩ = some (.int .i64 ed) ∧ x.cell? ⟨g, 3, none⟩ = some (.int .i64 left) ∧ x.cell? ⟨g, 4, none⟩ = some (.slice A l.length c)) ∧ kStop.C x A l.length l ∧ (Kd.int .i64).C x F far.length far) w1 := Hold.start (fun w' h => by
    have hk2 := blk_below hk h
    refine ⟨⟨?_, ?_, ?_, ?_, ?_⟩, Kd.C_below hC h, Kd.C_below hC2 h⟩ <;> (rw [blk_cell hk2]; rfl))
  clear hk hb hC hC2
  refine (awake_calls w1).mono ?_
  rintro e w2 ⟨rfl, hw⟩
  have H2 := H1.step hw
  clear hw H1
  obtain ⟨⟨c0, c1, c2, c3, c4⟩, -, -⟩ := H2.out
  go_wp2_with fail
  refine (refRight_calls id cap ed left A c l w2 H2.out.2.1).mono ?_
  rintro e w3 ⟨rfl, hw⟩
  have H3 := H2.step hw
  clear hw H2 c0 c1 c2 c3 c4
  obtain ⟨⟨c0, c1, c2, c3, c4⟩, -, -⟩ := H3.out
  obtain ⟨B, hB⟩ : ∃ B, rightB id cap ed left l = B := ⟨_, rfl⟩
  rw [hB]
  cases B with
  | false =>
    clear hB
    go_wp2_with fail
    refine (awake_calls w3).mono ?_
    rintro e w4 ⟨rfl, hw⟩
    have H4 := H3.step hw
    clear hw
    go_wp2
    go_ret
    exact ⟨rfl, by rw [HGG.out]; exact HB.out.trans (H4.base.mono HG.out)⟩
  | true =>
    have HR := Aside0.mk (rightB_true hB)
    clear hB
    go_upto_region 3 with fail
    go_cut [2] (fun s2 wx => ∃ dw : Int, 0 ≤ dw ∧ dw ≤ 1048576 ∧ s2 = .int .i64 dw ∧ wx = w3)
    case first =>
      go_wp2_with fail
      all_goals go_meet
      all_goals (case rel => exact ⟨_, by omega, by omega, rfl, rfl⟩)
    case rest =>
      obtain ⟨dw, hd0, hd1, rfl, rfl⟩ := hcut
      go_upto_region 5 with fail
      obtain ⟨t, ht⟩ : ∃ t, bits .and .i64 later 1099511627775 = t := ⟨_, rfl⟩
      rw [ht]
      have ht2 : t = later % 1099511627776 := by rw [← ht]; exact and_low later
      have ht0 : 0 ≤ t := by omega
      have ht1 : t < 1099511627776 := by omega
      clear ht ht2
      have hleft := HR.out.2.2.2.1
      have hleft1 := HR.out.2.2.2.2.1
      have c5 := pw_cell_below ((Below.refl wc.heap.size wc).alloc (Nat.le_refl _) (Obj.cells #[.int .i64 id, .int .i64 cap, .int .i64 ed, .int .i64 left, .slice A l.length c] 24)) c3
      have i1 : IntKind.i64.wrap (left + t) = left + t := by rw [IntWalk.i64_in _ (by omega)]
      go_upto_region 7 with fail
      have hbk := blk_new wc (Obj.cells #[.int .i64 id, .int .i64 cap, .int .i64 ed, .int .i64 (left + t), .slice A l.length c] 24)
      have H4 := H3.alloc (Obj.cells #[.int .i64 id, .int .i64 cap, .int .i64 ed, .int .i64 (left + t), .slice A l.length c] 24)
      clear c0 c1 c2 c3 c4 c5 i1 H3
      revert hbk H4
      generalize wc.alloc (Obj.cells #[.int .i64 id, .int .i64 cap, .int .i64 ed, .int .i64 (left + t), .slice A l.length c] 24) = w5
      generalize wc.heap.size = g5
      intro hbk H4
      have hS : ∀ x, Below w5.heap.size w5 x → Below w5.heap.size w5 x ∧ x.cell? ⟨g, 0, none⟩ = some (.int .i64 id) ∧ x.cell? ⟨g, 1, none⟩ = some (.int .i64 cap) ∧ x.cell? ⟨g, 2, none⟩ = some (.int .i64 ed) ∧ x.cell? ⟨g, 3, none⟩ = some (.int .i64 left) ∧ x.cell? ⟨g, 4, none⟩ = some (.slice A l.length c) ∧ x.cell? ⟨g5, 0, none⟩ = some (.int .i64 id) ∧ x.cell? ⟨g5, 1, none⟩ = some (.int .i64 cap) ∧ x.cell? ⟨g5, 2, none⟩ = some (.int .i64 ed) ∧ x.cell? ⟨g5, 3, none⟩ = some (.int .i64 (left + t)) ∧ x.cell? ⟨g5, 4, none⟩ = some (.slice A l.length c) := fun x h => by
        have hk2 := blk_below hbk h
        have hc := (H4.step h).out.1
        refine ⟨h, hc.1, hc.2.1, hc.2.2.1, hc.2.2.2.1, hc.2.2.2.2, ?_, ?_, ?_, ?_, ?_⟩ <;> (rw [blk_cell hk2]; rfl)
      have hTC : ∀ x, Below w5.heap.size w5 x → kStop.C x A l.length l ∧ TellsD (some far) (.func (.func 11) #[.slice F far.length fc] #[]) x := fun x h => ⟨(H4.step h).out.2.1, F, fc, rfl, (H4.step h).out.2.2, HFB.out⟩
      have h64 := HR.out.2.2.2.2.2.2.2.2.1
      have h0 := hS w5 (Below.refl _ _)
      clear hbk
      go_cut [10, 11] (fun s10 s11 wx => ∃ A1 c1 A2 c2, s10 = .slice A1 l.length c1 ∧ s11 = .slice A2 l.length c2 ∧ (Kd.int .i64).C wx A1 l.length (arrI (some far) left dw l l.length) ∧ (Kd.int .i64).C wx A2 l.length (arrI (some far) (left + t) dw l l.length) ∧ Below w5.heap.size w5 wx)
      case first =>
        go_region_held3 (fun x => Below w5.heap.size w5 x ∧ x.cell? ⟨g, 0, none⟩ = some (.int .i64 id) ∧ x.cell? ⟨g, 1, none⟩ = some (.int .i64 cap) ∧ x.cell? ⟨g, 2, none⟩ = some (.int .i64 ed) ∧ x.cell? ⟨g, 3, none⟩ = some (.int .i64 left) ∧ x.cell? ⟨g, 4, none⟩ = some (.slice A l.length c) ∧ x.cell? ⟨g5, 0, none⟩ = some (.int .i64 id) ∧ x.cell? ⟨g5, 1, none⟩ = some (.int .i64 cap) ∧ x.cell? ⟨g5, 2, none⟩ = some (.int .i64 ed) ∧ x.cell? ⟨g5, 3, none⟩ = some (.int .i64 (left + t)) ∧ x.cell? ⟨g5, 4, none⟩ = some (.slice A l.length c)) (first | exact hS _ (by assumption) | exact hS _ (And.left (by assumption)) | exact hS _ (Below.drew (by first | assumption | exact And.left (by assumption))) | exact hS _ ((Below.refl _ _).drew)) (first | (go_at_call 10; refine (arrivals_calls (some far) _ id cap ed _ dw A c l _ (hTC _ (by first | assumption | exact And.left (by assumption))).2 (hTC _ (by first | assumption | exact And.left (by assumption))).1 (by omega)).mono ?_; rintro e wz ⟨v, rfl, hO, hw⟩; have hB := later_step (w0 := w5) hw (by first | assumption | exact And.left (by assumption))))
        all_goals (
          rename_i wy vy hOy hwy hBy hhy
          obtain ⟨A1, c1, rfl, -, hC1, -⟩ := int_open hOy l.length (arrI_length _ _ _ _ _)
          obtain ⟨A2, c2, rfl, -, hC2, -⟩ := int_open hO l.length (arrI_length _ _ _ _ _)
          go_wp2_with fail
          go_meet
          case rel => exact ⟨_, _, _, _, rfl, rfl, Kd.C_below hC1 hw, hC2, hB⟩)
      case rest =>
        obtain ⟨A1, c1, A2, c2, rfl, rfl, hC1, hC2, hB⟩ := hcut
        have HT : Hold wc (fun x => (Kd.int .i64).C x A1 l.length (arrI (some far) left dw l l.length) ∧ (Kd.int .i64).C x A2 l.length (arrI (some far) (left + t) dw l l.length)) wc := Hold.start (fun w' h => ⟨Kd.C_below hC1 h, Kd.C_below hC2 h⟩)
        have c4 := (hS wc hB).2.2.2.2.2.1
        have HGC : Aside0 (g ≤ wc.heap.size) := ⟨Nat.le_trans HG.out (H4.step hB).base.size⟩
        have HBC := Aside0.mk (HB.out.trans ((H4.step hB).base.mono HG.out))
        clear hC1 hC2 hS hTC h0 hB H4
        go_wp2
        go_loopw [12] (fun i wr => ∃ k : Nat, k ≤ l.length ∧ i = .int .i64 k ∧ Hold wc (fun x => (Kd.int .i64).C x A1 l.length (arrI (some far) left dw l l.length) ∧ (Kd.int .i64).C x A2 l.length (arrI (some far) (left + t) dw l l.length)) wr) (fun i _ => l.length - (intOf i).toNat)
        case atStart => exact ⟨0, by omega, rfl, HT⟩
        case round =>
          obtain ⟨k, hk, rfl, HW⟩ := hrel
          by_cases hlt : k < l.length
          · obtain ⟨ad1, a, rfl, ha, hqa⟩ := at_nat HW.out.1 k hlt
            obtain ⟨ad2, b, rfl, hb, hqb⟩ := at_nat HW.out.2 k hlt
            have hqa := hqa.out
            have hqb := hqb.out
            rw [arrI_at _ _ _ _ _ _ hlt] at hqa hqb
            have hsh := arr_shift far left t dw l hleft hleft1 ht0 ht1 hd0 hd1 k (by omega)
            rw [hqa, hqb] at hsh
            clear hqa hqb
            have fa : ∀ n : GW (Region.later wr), n.w.cell? (ad1.add k) = some (.int .i64 a) := fun n => pw_cell_below n.ok ha
            have fb : ∀ n : GW (Region.later wr), n.w.cell? (ad2.add k) = some (.int .i64 b) := fun n => pw_cell_below n.ok hb
            clear ha hb
            have i2 : (0 : Int) ≤ (k : Int) := by omega
            have i3 : (k : Int) < (l.length : Int) := by omega
            have i5 : (k : Int).toNat = k := by omega
            rcases hsh with ⟨ha0, hb0⟩ | ⟨ha0, ha1, rfl⟩
            · have i7 : 1152921504606846976 ≤ a := by omega
              have i8 : ¬ (a < 1152921504606846976) := by omega
              have e3 : (b = 1152921504606846976) = True := eq_true hb0
              have e4 : (b == 1152921504606846976) = true := by rw [beq_iff_eq]; exact hb0
              have e5 : (b != 1152921504606846976) = false := by rw [bne, e4]; rfl
              have e6 : (decide (b = 1152921504606846976)) = true := by rw [decide_eq_true_eq]; exact hb0
              clear ha0 hb0
              go_upto_region 13 with fail
              refine region_good (Region.later wr) rfl (by kernel_rfl) (Region.later_drew wr) (fun hne => ?_)
              repeat (go_big_quiet_step (fail))
              refine wpQuiet_nil ?_
              rintro w7 ⟨n, rfl⟩
              have HW7 := HW.step n.ok
              revert HW7
              generalize n.w = w7
              intro HW7
              clear fa fb
              go_wp2
              go_roundw
              case rel => exact ⟨k + 1, by omega, rfl, HW7⟩
              case measure => simp only [intOf]; omega
            · have i6 : IntKind.i64.wrap (a + t) = a + t := by rw [IntWalk.i64_in _ (by omega)]
              have i7 : a < 1152921504606846976 := by omega
              have i8 : ¬ (1152921504606846976 ≤ a) := by omega
              have e5 : ((a + t) != (a + t)) = false := by simp
              clear ha0 ha1
              go_upto_region 13 with fail
              refine region_good (Region.later wr) rfl (by kernel_rfl) (Region.later_drew wr) (fun hne => ?_)
              repeat (go_big_quiet_step (fail))
              refine wpQuiet_nil ?_
              rintro w7 ⟨n, rfl⟩
              have HW7 := HW.step n.ok
              revert HW7
              generalize n.w = w7
              intro HW7
              clear fa fb
              go_wp2
              go_roundw
              case rel => exact ⟨k + 1, by omega, rfl, HW7⟩
              case measure => simp only [intOf]; omega
          · go_wp2
            go_ret
            exact ⟨rfl, by rw [HGG.out]; exact HBC.out.trans (HW.base.mono HGC.out)⟩
theorem law {E : Nat} (x : Int × Int × Int × Int × List Stop) (vl : List Value) (F : Option Addr) (fc : Nat) (far : List Int) (dwell later : Int) (w : World) (hx : (Kd.pair (Kd.int .i64) (Kd.pair (Kd.int .i64) (Kd.pair (Kd.int .i64) (Kd.pair (Kd.int .i64) (Kd.slice E kStop))))).K w x vl) (hF : (Kd.int .i64).C w F far.length far) (hfb : ∀ d ∈ far, (Lit.int .i64 d).wf = true) :
    Calls Try.prog 4 #[.agg vl.toArray, .slice F far.length fc, .int .i64 dwell, .int .i64 later] w fun e w' => e = .returned (.bool true) ∧ Below w.heap.size w w' := by
  obtain ⟨A, c, rfl, -, hC⟩ := Veh.veh_open hx
  exact shift_calls _ _ _ _ A c _ F fc far dwell later w hC hF (fun d hd => wf_i64 (hfb d hd))
end Go.Proofs.Ytonibdmoimgimaa.TimesShift
