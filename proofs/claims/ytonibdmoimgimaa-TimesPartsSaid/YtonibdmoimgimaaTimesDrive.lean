/- Drive. -/
import Derived.Test.YtonibdmoimgimaaTimes
import Derived.Test.YtonibdmoimgimaaRegion
namespace Go.Proofs.Ytonibdmoimgimaa.Times
open Go Go.RowKit Go.Proofs.YtonibdmoimgimaaW.PrintWords Go.Proofs.Ytonibdmoimgimaa.Base Go.Proofs.Ytonibdmoimgimaa.Stops Go.Proofs.Ytonibdmoimgimaa.Add Go.Proofs.Ytonibdmoimgimaa.Region
set_option linter.unusedVariables false
set_option linter.unusedSimpArgs false
attribute [local go_sem ↓] Go.wp_at_zero Go.wp_at_succ
/-- How far the first so many ways are. -/
def driveI (D : Option (List Int)) (l : List Stop) : Nat → Int
  | 0 => 0
  | k + 1 => addI (driveI D l k) (dd D l k (k + 1))
set_option maxRecDepth 100000 in
set_option maxHeartbeats 1000000 in
theorem drive_calls (D : Option (List Int)) (v : Value) (A : Option Addr) (c : Nat) (l : List Stop) (w : World) (hD : TellsD D v w) (hl : kStop.C w A l.length l) (hn : l.length ≤ 1000000) :
    Calls Try.prog 15 #[.slice A l.length c, v] w fun e w' => e = .returned (.int .i64 (driveI D l (l.length - 1))) ∧ Below w.heap.size w w' := by
  have H0 : Hold w (fun x => Below w.heap.size w x ∧ kStop.C x A l.length l ∧ TellsD D v x) w := Hold.start (fun w' h => ⟨h, Kd.C_below hl h, hD.below h⟩)
  clear hD hl
  go_enter Try.func15, Try.ntmps15
  go_wp2
  go_loopw [5, 6] (fun s5 i wr => ∃ m k : Nat, m = k + 1 ∧ k ≤ l.length - 1 ∧ i = .int .i64 m ∧ s5 = .int .i64 (driveI D l k) ∧ Hold w (fun x => Below w.heap.size w x ∧ kStop.C x A l.length l ∧ TellsD D v x) wr) (fun _ i _ => l.length - (intOf i).toNat)
  case atStart => exact ⟨1, 0, rfl, by omega, rfl, rfl, H0⟩
  case round =>
    obtain ⟨m, k, hm, hk, rfl, rfl, HW⟩ := hrel
    by_cases hlt : m < l.length
    · obtain ⟨_, hS, hT⟩ := HW.out
      obtain ⟨ad, s0, rfl, ha0, ha1, ha2, hq0⟩ := stop_at hS k (by omega)
      obtain ⟨ad', s1, e, hb0, hb1, hb2, hq1⟩ := stop_at hS m (by omega)
      cases e
      have k0 : ∀ n : GW (later wr), n.w.cell? (ad.add (k * 3)) = some (.int .i64 s0.node) := fun n => pw_cell_below n.ok ha0
      have k1 : ∀ n : GW (later wr), n.w.cell? ⟨(ad.add (k * 3)).block, (ad.add (k * 3)).off + 1, none⟩ = some (.int .i64 s0.kind) := fun n => pw_cell_below n.ok ha1
      have k2 : ∀ n : GW (later wr), n.w.cell? ⟨(ad.add (k * 3)).block, (ad.add (k * 3)).off + 2, none⟩ = some (.int .i64 s0.rider) := fun n => pw_cell_below n.ok ha2
      have c0 : ∀ n : GW (later wr), n.w.cell? (ad.add (m * 3)) = some (.int .i64 s1.node) := fun n => pw_cell_below n.ok hb0
      have c1 : ∀ n : GW (later wr), n.w.cell? ⟨(ad.add (m * 3)).block, (ad.add (m * 3)).off + 1, none⟩ = some (.int .i64 s1.kind) := fun n => pw_cell_below n.ok hb1
      have c2 : ∀ n : GW (later wr), n.w.cell? ⟨(ad.add (m * 3)).block, (ad.add (m * 3)).off + 2, none⟩ = some (.int .i64 s1.rider) := fun n => pw_cell_below n.ok hb2
      have hTB : Aside0 (∀ n : GW (later wr), TellsD D v n.w) := ⟨fun n => hT.below n.ok⟩
      have i1 : IntKind.i64.wrap ((m : Int) - 1 : Int) = (k : Int) := by rw [IntWalk.i64_in _ (by omega)]; omega
      have i2 : (0 : Int) ≤ (k : Int) := by omega
      have i3 : (k : Int) < (l.length : Int) := by omega
      have i4 : (k : Int).toNat = k := by omega
      have j2 : (0 : Int) ≤ (m : Int) := by omega
      have j3 : (m : Int) < (l.length : Int) := by omega
      have j4 : (m : Int).toNat = m := by omega
      have HM := Aside0.mk hm
      clear hS hT ha0 ha1 ha2 hb0 hb1 hb2 hm
      obtain ⟨X, hX⟩ : ∃ X, driveI D l k = X := ⟨_, rfl⟩
      have HX := Aside0.mk hX
      rw [hX]
      clear hX
      go_upto_region 5 with fail
      refine region_good (later wr) rfl (by kernel_rfl) (later_drew wr) (fun hne => ?_)
      repeat (go_big_quiet_step ((first | (go_at_call 29; exact good_below _ (between_calls D v s0 s1 _ (hTB.out _))) | (go_at_call 28; exact good_eq _ (add_calls _ _ _)))))
      refine wpQuiet_nil ?_
      rintro w5 ⟨n, rfl⟩
      have hw5 := n.ok
      revert hw5
      generalize n.w = w5
      intro hw5
      have HW5 := HW.step hw5
      have HSS : Aside0 (l.getD k zStop = s0 ∧ l.getD m zStop = s1) := ⟨hq0.out, hq1.out⟩
      clear k0 k1 k2 c0 c1 c2 hw5 i1 i2 i3
      go_wp2
      go_roundw
      case rel =>
        have hm := HM.out
        refine ⟨m + 1, m, rfl, by omega, by simp, ?_, HW5⟩
        have e : driveI D l m = addI X (distI D s0.node s1.node) := by
          rw [hm, ← HX.out, ← HSS.out.1, ← HSS.out.2, hm]
          rfl
        rw [e]
      case measure => have := HM.out; simp only [intOf]; omega
    · have E : Aside0 (l.length - 1 = k) := ⟨by omega⟩
      go_wp2
      go_ret
      exact ⟨by rw [E.out]; rfl, HW.out.1⟩
end Go.Proofs.Ytonibdmoimgimaa.Times
