-- PRINTED BY print.sh 35421559b90ae4d0a3588c463048766b98c2df88dd9212a6774a882060cdf62d: not written by this session
import Derived.Test.YtbpghlfmkbjjcaaPNumShiftsx0
import Derived.Test.YtbpghlfmkbjjcaaPNumShiftsx1
namespace Go.Proofs.Ytbpghlfmkbjjcaa.PNumShifts
open Go.RowKit Go.Proofs.YtbpghlfmkbjjcaaW.PrintWords Go.Proofs.YtbpghlfmkbjjcaaW.PrintLast Go.Proofs.YtbpghlfmkbjjcaaW.PrintMore
attribute [local go_sem] max2_int min2_int max_two min_two max_three min_three max_four min_four   -- for this text's walks alone
set_option linter.unusedVariables false
set_option linter.unusedSimpArgs false

/-! ### hansomlaw01_NumShifts: function 10 -/
def hansomlaw01_NumShifts.j0 : Nat → Int → Int → Int → Int → Bool → Option (Bool)
  | 0, _, _, _, _, _ => none
  | k + 1, x0, x1, x2, x3, x31 => if x31 = true then ((hansomlaw01_awake.f k).bind fun t117 => (if t117 = true then ((num_Ones.f k x0).bind fun t118 => ((num_Ones.f k (x0 / 4294967296)).bind fun t119 => ((num_Ones.f k (Go.bits .and .u64 x0 4294967295)).bind fun t120 => (some (t118 == (wrap64 (t119 + t120))))))) else (some false))) else ((num_Narrow.f x1 x3).bind fun bt121 => ((num_Narrow.f bt121.1 x2).bind fun bt123 => ((num_Narrow.f x1 x2).bind fun bt125 => ((num_Narrow.f bt125.1 x3).bind fun bt127 => (if bt123.1 = bt125.1 then (if bt127.1 = bt125.1 then (if bt127.2 = true then (if bt125.2 = true then (if bt121.1 = x1 then (if 0 ≤ (IntKind.u64.wrap (wrap64 (x3 - 1))) then (if ((shr .u64 x0 (IntKind.u64.wrap (wrap64 (x3 - 1)))) / 2) = 0 then ((num_Log.f k x0).bind fun t129 => (some (decide (t129 < x3)))) else (some true)) else (none)) else (some false)) else (if 0 ≤ (IntKind.u64.wrap (wrap64 (x3 - 1))) then (if ((shr .u64 x0 (IntKind.u64.wrap (wrap64 (x3 - 1)))) / 2) = 0 then ((num_Log.f k x0).bind fun t130 => (some (decide (t130 < x3)))) else (some true)) else (none))) else (some false)) else (some false)) else (some false))))))
def hansomlaw01_NumShifts.f (k : Nat) (a0 : Int) (a1 : Int) (a2 : Int) (a3 : Int) : Option (Bool) := (hansomlaw01_awake.f k).bind fun t116 => (if t116 = true then (if a2 < 1 then (hansomlaw01_NumShifts.j0 k a0 a1 a2 a3 true) else (if a2 > a3 then (hansomlaw01_NumShifts.j0 k a0 a1 a2 a3 true) else (hansomlaw01_NumShifts.j0 k a0 a1 a2 a3 (decide (a3 > 64))))) else (hansomlaw01_NumShifts.j0 k a0 a1 a2 a3 true))
theorem hansomlaw01_NumShifts.mono_l : ∀ k, (∀ y0 y1 y2 y3 y4, LeO (hansomlaw01_NumShifts.j0 k y0 y1 y2 y3 y4) (hansomlaw01_NumShifts.j0 (k + 1) y0 y1 y2 y3 y4))
  | 0 => fun _ _ _ _ _ r h => by simp [hansomlaw01_NumShifts.j0] at h
  | k + 1 => by
    have ih0 := hansomlaw01_NumShifts.mono_l k
    · intro y0 y1 y2 y3 y4
      unfold hansomlaw01_NumShifts.j0
      repeat' first
      | (with_reducible exact ih0 _ _ _ _ _)
      | (with_reducible exact hansomlaw01_awake.mono _)
      | (with_reducible exact num_Log.mono _ _)
      | (with_reducible exact num_Ones.mono _ _)
      | (with_reducible exact LeO.refl _)
      | (with_reducible exact LeO.none _)
      | (with_reducible refine LeO.ite ?_ ?_)
      | (with_reducible refine LeO.bind ?_ (fun _ => ?_))
      | exact ih0 _ _ _ _ _
      | exact hansomlaw01_awake.mono _
      | exact num_Log.mono _ _
      | exact num_Ones.mono _ _
      | exact LeO.none _
      | refine LeO.ite ?_ ?_
      | refine LeO.bind ?_ (fun _ => ?_)
theorem hansomlaw01_NumShifts.mono : ∀ a0 a1 a2 a3 k, LeO (hansomlaw01_NumShifts.f k a0 a1 a2 a3) (hansomlaw01_NumShifts.f (k + 1) a0 a1 a2 a3) := by
  intro a0 a1 a2 a3 k
  have ih0 := hansomlaw01_NumShifts.mono_l k
  unfold hansomlaw01_NumShifts.f
  repeat' first
      | (with_reducible exact ih0 _ _ _ _ _)
      | (with_reducible exact hansomlaw01_awake.mono _)
      | (with_reducible exact num_Log.mono _ _)
      | (with_reducible exact num_Ones.mono _ _)
      | (with_reducible exact LeO.refl _)
      | (with_reducible exact LeO.none _)
      | (with_reducible refine LeO.ite ?_ ?_)
      | (with_reducible refine LeO.bind ?_ (fun _ => ?_))
      | exact ih0 _ _ _ _ _
      | exact hansomlaw01_awake.mono _
      | exact num_Log.mono _ _
      | exact num_Ones.mono _ _
      | exact LeO.none _
      | refine LeO.ite ?_ ?_
      | refine LeO.bind ?_ (fun _ => ?_)
set_option maxHeartbeats 8000000 in
set_option maxRecDepth 100000 in
theorem hansomlaw01_NumShifts.calls (k : Nat) (a0 : Int) (a1 : Int) (a2 : Int) (a3 : Int) (r : Bool) (w : World) (h : hansomlaw01_NumShifts.f k a0 a1 a2 a3 = some r) :
    Calls Try.prog 10 #[.int .u64 a0, .int .i64 a1, .int .i64 a2, .int .i64 a3] w fun e w' => e = .returned (.bool r) ∧ Below w.heap.size w w' := by
  have HB := Aside0.mk (Below.refl w.heap.size w)
  have H : ((hansomlaw01_awake.f k).bind fun t116 => (if t116 = true then (if a2 < 1 then (hansomlaw01_NumShifts.j0 k a0 a1 a2 a3 true) else (if a2 > a3 then (hansomlaw01_NumShifts.j0 k a0 a1 a2 a3 true) else (hansomlaw01_NumShifts.j0 k a0 a1 a2 a3 (decide (a3 > 64))))) else (hansomlaw01_NumShifts.j0 k a0 a1 a2 a3 true))) = some r := h
  clear h
  have HC5 := Aside0.mk H
  clear H
  go_enter Try.func10, Try.ntmps10
  go_upto_region 1 with (fail)
  go_cut [31] (fun v31 wc => ∃ (kq : Nat) (x31_4 : Bool), v31 = .bool x31_4 ∧ Aside0 (hansomlaw01_NumShifts.j0 kq a0 a1 a2 a3 x31_4 = some r) ∧ Aside0 (kq ≤ k) ∧ Aside0 (Below w.heap.size w wc))
  case first =>
    have H := HC5.out
    clear HC5
    replace H := Option.bind_eq_some_iff.mp H
    obtain ⟨t116, A60, H⟩ := H
    replace H : (if t116 = true then (if a2 < 1 then (hansomlaw01_NumShifts.j0 k a0 a1 a2 a3 true) else (if a2 > a3 then (hansomlaw01_NumShifts.j0 k a0 a1 a2 a3 true) else (hansomlaw01_NumShifts.j0 k a0 a1 a2 a3 (decide (a3 > 64))))) else (hansomlaw01_NumShifts.j0 k a0 a1 a2 a3 true)) = some r := H
    have A6 := Aside0.mk A60
    clear A60
    by_cases c7 : t116 = true
    · subst c7
      have H1 : (if a2 < 1 then (hansomlaw01_NumShifts.j0 k a0 a1 a2 a3 true) else (if a2 > a3 then (hansomlaw01_NumShifts.j0 k a0 a1 a2 a3 true) else (hansomlaw01_NumShifts.j0 k a0 a1 a2 a3 (decide (a3 > 64))))) = some r := by rw [if_pos rfl] at H; exact H
      clear H
      have H := H1
      clear H1
      by_cases c8 : a2 < 1
      · rw [if_pos c8] at H
        have c8b0 : decide (a2 < 1) = true := decide_eq_true c8
        clear c8
        (first | rw [c8b0] | (simp only [i64_w, i32_w]; rw [c8b0]) | skip)
        have H' := Aside0.mk H
        clear H
        go_wp2_with (first | ((with_reducible refine gate_callee (f := 16) rfl ?_); refine goesL_ (some 17) rfl rfl Try.func16 (by kernel_rfl) rfl #[] rfl (by (try simp only [List.map_toArray, List.map_cons, List.map_nil]); first | done | rfl | (simp only [List.length_drop, List.length_take]; rfl)) ?_; (with_reducible refine (hansomlaw01_awake.calls k  true _ A6.out).mono ?_); rintro e w9 ⟨rfl, hb⟩; refine ⟨_, rfl, ?_⟩; have n0_ := Aside0.mk (below_step (by repeat (first | (with_reducible first | exact HB.out | apply below_alloc | apply pw_below_drewN | apply below_drew1) | exact HB.out)) hb); clear HB; have HB := n0_; clear n0_; (try clear hb); (try clear hb2); (try clear hk); (try clear hi)))
        go_meet
        case rel => exact ⟨_, (true), (by first | rfl | (simp; done) | (simp [*]; done)), H', ⟨by first | omega | exact Nat.le_refl _⟩, ⟨by repeat (first | (with_reducible first | exact HB.out | apply below_alloc | apply pw_below_drewN | apply below_drew1) | exact HB.out)⟩⟩
      · rw [if_neg c8] at H
        have c8b0 : decide (a2 < 1) = false := decide_eq_false c8
        clear c8
        (first | rw [c8b0] | (simp only [i64_w, i32_w]; rw [c8b0]) | skip)
        by_cases c10 : a2 > a3
        · rw [if_pos c10] at H
          have c10b0 : decide (a3 < a2) = true := decide_eq_true c10
          clear c10
          have H' := Aside0.mk H
          clear H
          go_wp2_with (first | ((with_reducible refine gate_callee (f := 16) rfl ?_); refine goesL_ (some 17) rfl rfl Try.func16 (by kernel_rfl) rfl #[] rfl (by (try simp only [List.map_toArray, List.map_cons, List.map_nil]); first | done | rfl | (simp only [List.length_drop, List.length_take]; rfl)) ?_; (with_reducible refine (hansomlaw01_awake.calls k  true _ A6.out).mono ?_); rintro e w11 ⟨rfl, hb⟩; refine ⟨_, rfl, ?_⟩; have n0_ := Aside0.mk (below_step (by repeat (first | (with_reducible first | exact HB.out | apply below_alloc | apply pw_below_drewN | apply below_drew1) | exact HB.out)) hb); clear HB; have HB := n0_; clear n0_; (try clear hb); (try clear hb2); (try clear hk); (try clear hi)))
          go_meet
          case rel => exact ⟨_, (true), (by first | rfl | (simp; done) | (simp [*]; done)), H', ⟨by first | omega | exact Nat.le_refl _⟩, ⟨by repeat (first | (with_reducible first | exact HB.out | apply below_alloc | apply pw_below_drewN | apply below_drew1) | exact HB.out)⟩⟩
        · rw [if_neg c10] at H
          have c10b0 : decide (a3 < a2) = false := decide_eq_false c10
          clear c10
          have H' := Aside0.mk H
          clear H
          go_wp2_with (first | ((with_reducible refine gate_callee (f := 16) rfl ?_); refine goesL_ (some 17) rfl rfl Try.func16 (by kernel_rfl) rfl #[] rfl (by (try simp only [List.map_toArray, List.map_cons, List.map_nil]); first | done | rfl | (simp only [List.length_drop, List.length_take]; rfl)) ?_; (with_reducible refine (hansomlaw01_awake.calls k  true _ A6.out).mono ?_); rintro e w12 ⟨rfl, hb⟩; refine ⟨_, rfl, ?_⟩; have n0_ := Aside0.mk (below_step (by repeat (first | (with_reducible first | exact HB.out | apply below_alloc | apply pw_below_drewN | apply below_drew1) | exact HB.out)) hb); clear HB; have HB := n0_; clear n0_; (try clear hb); (try clear hb2); (try clear hk); (try clear hi)))
          go_meet
          case rel => exact ⟨_, (decide (a3 > 64)), (by first | rfl | (simp; done) | (simp [*]; done)), H', ⟨by first | omega | exact Nat.le_refl _⟩, ⟨by repeat (first | (with_reducible first | exact HB.out | apply below_alloc | apply pw_below_drewN | apply below_drew1) | exact HB.out)⟩⟩
    · replace c7 := Bool.eq_false_iff.mpr c7
      subst c7
      have H1 : (hansomlaw01_NumShifts.j0 k a0 a1 a2 a3 true) = some r := by rw [if_neg (show ¬ (false = true) by decide)] at H; exact H
      clear H
      have H := H1
      clear H1
      have H' := Aside0.mk H
      clear H
      go_wp2_with (first | ((with_reducible refine gate_callee (f := 16) rfl ?_); refine goesL_ (some 17) rfl rfl Try.func16 (by kernel_rfl) rfl #[] rfl (by (try simp only [List.map_toArray, List.map_cons, List.map_nil]); first | done | rfl | (simp only [List.length_drop, List.length_take]; rfl)) ?_; (with_reducible refine (hansomlaw01_awake.calls k  false _ A6.out).mono ?_); rintro e w13 ⟨rfl, hb⟩; refine ⟨_, rfl, ?_⟩; have n0_ := Aside0.mk (below_step (by repeat (first | (with_reducible first | exact HB.out | apply below_alloc | apply pw_below_drewN | apply below_drew1) | exact HB.out)) hb); clear HB; have HB := n0_; clear n0_; (try clear hb); (try clear hb2); (try clear hk); (try clear hi)))
      go_meet
      case rel => exact ⟨_, (true), (by first | rfl | (simp; done) | (simp [*]; done)), H', ⟨by first | omega | exact Nat.le_refl _⟩, ⟨by repeat (first | (with_reducible first | exact HB.out | apply below_alloc | apply pw_below_drewN | apply below_drew1) | exact HB.out)⟩⟩
  case rest =>
    clear HC5
    try clear c1
    try clear p2
    try clear c7
    try clear c8
    try clear c8b0
    try clear c10
    try clear c10b0
    obtain ⟨kq, x31_4, rfl, HA, HJ4, HB⟩ := hcut
    cases kq with
    | zero => exact absurd HA.out (by simp [hansomlaw01_NumShifts.j0])
    | succ kj4 =>
      have H := HA.out
      clear HA
      simp only [hansomlaw01_NumShifts.j0] at H
      by_cases c14 : x31_4 = true
      · subst c14
        have H1 : ((hansomlaw01_awake.f kj4).bind fun t117 => (if t117 = true then ((num_Ones.f kj4 a0).bind fun t118 => ((num_Ones.f kj4 (a0 / 4294967296)).bind fun t119 => ((num_Ones.f kj4 (Go.bits .and .u64 a0 4294967295)).bind fun t120 => (some (t118 == (wrap64 (t119 + t120))))))) else (some false))) = some r := by rw [if_pos rfl] at H; exact H
        clear H
        have H := H1
        clear H1
        replace H := Option.bind_eq_some_iff.mp H
        obtain ⟨t117, A150, H⟩ := H
        replace H : (if t117 = true then ((num_Ones.f kj4 a0).bind fun t118 => ((num_Ones.f kj4 (a0 / 4294967296)).bind fun t119 => ((num_Ones.f kj4 (Go.bits .and .u64 a0 4294967295)).bind fun t120 => (some (t118 == (wrap64 (t119 + t120))))))) else (some false)) = some r := H
        have A15 := Aside0.mk A150
        clear A150
        by_cases c16 : t117 = true
        · subst c16
          have H1 : ((num_Ones.f kj4 a0).bind fun t118 => ((num_Ones.f kj4 (a0 / 4294967296)).bind fun t119 => ((num_Ones.f kj4 (Go.bits .and .u64 a0 4294967295)).bind fun t120 => (some (t118 == (wrap64 (t119 + t120))))))) = some r := by rw [if_pos rfl] at H; exact H
          clear H
          have H := H1
          clear H1
          replace H := Option.bind_eq_some_iff.mp H
          obtain ⟨t118, A170, H⟩ := H
          replace H : ((num_Ones.f kj4 (a0 / 4294967296)).bind fun t119 => ((num_Ones.f kj4 (Go.bits .and .u64 a0 4294967295)).bind fun t120 => (some (t118 == (wrap64 (t119 + t120)))))) = some r := H
          have A17 := Aside0.mk A170
          clear A170
          replace H := Option.bind_eq_some_iff.mp H
          obtain ⟨t119, A180, H⟩ := H
          replace H : ((num_Ones.f kj4 (Go.bits .and .u64 a0 4294967295)).bind fun t120 => (some (t118 == (wrap64 (t119 + t120))))) = some r := H
          have A18 := Aside0.mk A180
          clear A180
          replace H := Option.bind_eq_some_iff.mp H
          obtain ⟨t120, A190, H⟩ := H
          replace H : (some (t118 == (wrap64 (t119 + t120)))) = some r := H
          have A19 := Aside0.mk A190
          clear A190
          obtain rfl := Option.some.inj H
          go_wp2_with (first | ((with_reducible refine gate_callee (f := 16) rfl ?_); refine goesL_ (some 32) rfl rfl Try.func16 (by kernel_rfl) rfl #[] rfl (by (try simp only [List.map_toArray, List.map_cons, List.map_nil]); first | done | rfl | (simp only [List.length_drop, List.length_take]; rfl)) ?_; (with_reducible refine (hansomlaw01_awake.calls kj4  true _ A15.out).mono ?_); rintro e w20 ⟨rfl, hb⟩; refine ⟨_, rfl, ?_⟩; have n0_ := Aside0.mk (below_step (by repeat (first | (with_reducible first | exact HB.out | apply below_alloc | apply pw_below_drewN | apply below_drew1) | exact HB.out)) hb); clear HB; have HB := n0_; clear n0_; (try clear hb); (try clear hb2); (try clear hk); (try clear hi)) | (go_at_call 26; (with_reducible refine (num_Ones.calls kj4 a0 t118 _ A17.out).mono ?_); rintro e w' ⟨rfl, ⟨nd, rfl⟩⟩) | (go_at_call 26; (with_reducible refine (num_Ones.calls kj4 (a0 / 4294967296) t119 _ A18.out).mono ?_); rintro e w' ⟨rfl, ⟨nd, rfl⟩⟩) | (go_at_call 26; (with_reducible refine (num_Ones.calls kj4 (Go.bits .and .u64 a0 4294967295) t120 _ A19.out).mono ?_); rintro e w' ⟨rfl, ⟨nd, rfl⟩⟩))
          go_ret
          exact ⟨by first | rfl | (simp [errW_none, errW_some] <;> rfl) | (simp [*, errW_none, errW_some] <;> rfl), by repeat (first | (with_reducible first | exact HB.out | apply below_alloc | apply pw_below_drewN | apply below_drew1) | exact HB.out)⟩
        · replace c16 := Bool.eq_false_iff.mpr c16
          subst c16
          have H1 : (some false) = some r := by rw [if_neg (show ¬ (false = true) by decide)] at H; exact H
          clear H
          have H := H1
          clear H1
          obtain rfl := Option.some.inj H
          go_wp2_with (first | ((with_reducible refine gate_callee (f := 16) rfl ?_); refine goesL_ (some 32) rfl rfl Try.func16 (by kernel_rfl) rfl #[] rfl (by (try simp only [List.map_toArray, List.map_cons, List.map_nil]); first | done | rfl | (simp only [List.length_drop, List.length_take]; rfl)) ?_; (with_reducible refine (hansomlaw01_awake.calls kj4  false _ A15.out).mono ?_); rintro e w21 ⟨rfl, hb⟩; refine ⟨_, rfl, ?_⟩; have n0_ := Aside0.mk (below_step (by repeat (first | (with_reducible first | exact HB.out | apply below_alloc | apply pw_below_drewN | apply below_drew1) | exact HB.out)) hb); clear HB; have HB := n0_; clear n0_; (try clear hb); (try clear hb2); (try clear hk); (try clear hi)))
          go_ret
          exact ⟨by first | rfl | (simp [errW_none, errW_some] <;> rfl) | (simp [*, errW_none, errW_some] <;> rfl), by repeat (first | (with_reducible first | exact HB.out | apply below_alloc | apply pw_below_drewN | apply below_drew1) | exact HB.out)⟩
      · replace c14 := Bool.eq_false_iff.mpr c14
        subst c14
        have H1 : ((num_Narrow.f a1 a3).bind fun bt121 => ((num_Narrow.f bt121.1 a2).bind fun bt123 => ((num_Narrow.f a1 a2).bind fun bt125 => ((num_Narrow.f bt125.1 a3).bind fun bt127 => (if bt123.1 = bt125.1 then (if bt127.1 = bt125.1 then (if bt127.2 = true then (if bt125.2 = true then (if bt121.1 = a1 then (if 0 ≤ (IntKind.u64.wrap (wrap64 (a3 - 1))) then (if ((shr .u64 a0 (IntKind.u64.wrap (wrap64 (a3 - 1)))) / 2) = 0 then ((num_Log.f kj4 a0).bind fun t129 => (some (decide (t129 < a3)))) else (some true)) else (none)) else (some false)) else (if 0 ≤ (IntKind.u64.wrap (wrap64 (a3 - 1))) then (if ((shr .u64 a0 (IntKind.u64.wrap (wrap64 (a3 - 1)))) / 2) = 0 then ((num_Log.f kj4 a0).bind fun t130 => (some (decide (t130 < a3)))) else (some true)) else (none))) else (some false)) else (some false)) else (some false)))))) = some r := by rw [if_neg (show ¬ (false = true) by decide)] at H; exact H
        clear H
        have H := H1
        clear H1
        replace H := Option.bind_eq_some_iff.mp H
        obtain ⟨⟨t121, t122⟩, A220, H⟩ := H
        replace H : ((num_Narrow.f t121 a2).bind fun bt123 => ((num_Narrow.f a1 a2).bind fun bt125 => ((num_Narrow.f bt125.1 a3).bind fun bt127 => (if bt123.1 = bt125.1 then (if bt127.1 = bt125.1 then (if bt127.2 = true then (if bt125.2 = true then (if t121 = a1 then (if 0 ≤ (IntKind.u64.wrap (wrap64 (a3 - 1))) then (if ((shr .u64 a0 (IntKind.u64.wrap (wrap64 (a3 - 1)))) / 2) = 0 then ((num_Log.f kj4 a0).bind fun t129 => (some (decide (t129 < a3)))) else (some true)) else (none)) else (some false)) else (if 0 ≤ (IntKind.u64.wrap (wrap64 (a3 - 1))) then (if ((shr .u64 a0 (IntKind.u64.wrap (wrap64 (a3 - 1)))) / 2) = 0 then ((num_Log.f kj4 a0).bind fun t130 => (some (decide (t130 < a3)))) else (some true)) else (none))) else (some false)) else (some false)) else (some false))))) = some r := H
        have A22 := Aside0.mk A220
        clear A220
        replace H := Option.bind_eq_some_iff.mp H
        obtain ⟨⟨t123, t124⟩, A230, H⟩ := H
        replace H : ((num_Narrow.f a1 a2).bind fun bt125 => ((num_Narrow.f bt125.1 a3).bind fun bt127 => (if t123 = bt125.1 then (if bt127.1 = bt125.1 then (if bt127.2 = true then (if bt125.2 = true then (if t121 = a1 then (if 0 ≤ (IntKind.u64.wrap (wrap64 (a3 - 1))) then (if ((shr .u64 a0 (IntKind.u64.wrap (wrap64 (a3 - 1)))) / 2) = 0 then ((num_Log.f kj4 a0).bind fun t129 => (some (decide (t129 < a3)))) else (some true)) else (none)) else (some false)) else (if 0 ≤ (IntKind.u64.wrap (wrap64 (a3 - 1))) then (if ((shr .u64 a0 (IntKind.u64.wrap (wrap64 (a3 - 1)))) / 2) = 0 then ((num_Log.f kj4 a0).bind fun t130 => (some (decide (t130 < a3)))) else (some true)) else (none))) else (some false)) else (some false)) else (some false)))) = some r := H
        have A23 := Aside0.mk A230
        clear A230
        replace H := Option.bind_eq_some_iff.mp H
        obtain ⟨⟨t125, t126⟩, A240, H⟩ := H
        replace H : ((num_Narrow.f t125 a3).bind fun bt127 => (if t123 = t125 then (if bt127.1 = t125 then (if bt127.2 = true then (if t126 = true then (if t121 = a1 then (if 0 ≤ (IntKind.u64.wrap (wrap64 (a3 - 1))) then (if ((shr .u64 a0 (IntKind.u64.wrap (wrap64 (a3 - 1)))) / 2) = 0 then ((num_Log.f kj4 a0).bind fun t129 => (some (decide (t129 < a3)))) else (some true)) else (none)) else (some false)) else (if 0 ≤ (IntKind.u64.wrap (wrap64 (a3 - 1))) then (if ((shr .u64 a0 (IntKind.u64.wrap (wrap64 (a3 - 1)))) / 2) = 0 then ((num_Log.f kj4 a0).bind fun t130 => (some (decide (t130 < a3)))) else (some true)) else (none))) else (some false)) else (some false)) else (some false))) = some r := H
        have A24 := Aside0.mk A240
        clear A240
        replace H := Option.bind_eq_some_iff.mp H
        obtain ⟨⟨t127, t128⟩, A250, H⟩ := H
        replace H : (if t123 = t125 then (if t127 = t125 then (if t128 = true then (if t126 = true then (if t121 = a1 then (if 0 ≤ (IntKind.u64.wrap (wrap64 (a3 - 1))) then (if ((shr .u64 a0 (IntKind.u64.wrap (wrap64 (a3 - 1)))) / 2) = 0 then ((num_Log.f kj4 a0).bind fun t129 => (some (decide (t129 < a3)))) else (some true)) else (none)) else (some false)) else (if 0 ≤ (IntKind.u64.wrap (wrap64 (a3 - 1))) then (if ((shr .u64 a0 (IntKind.u64.wrap (wrap64 (a3 - 1)))) / 2) = 0 then ((num_Log.f kj4 a0).bind fun t130 => (some (decide (t130 < a3)))) else (some true)) else (none))) else (some false)) else (some false)) else (some false)) = some r := H
        have A25 := Aside0.mk A250
        clear A250
        by_cases c26 : t123 = t125
        · rw [if_pos c26] at H
          have c26b0 : (t123 == t125) = true := beq_iff_eq.mpr c26
          have c26b1 : (t123 != t125) = false := bne_eq_false_iff_eq.mpr c26
          clear c26
          by_cases c27 : t127 = t125
          · rw [if_pos c27] at H
            have c27b0 : (t127 == t125) = true := beq_iff_eq.mpr c27
            have c27b1 : (t127 != t125) = false := bne_eq_false_iff_eq.mpr c27
            clear c27
            by_cases c28 : t128 = true
            · subst c28
              have H1 : (if t126 = true then (if t121 = a1 then (if 0 ≤ (IntKind.u64.wrap (wrap64 (a3 - 1))) then (if ((shr .u64 a0 (IntKind.u64.wrap (wrap64 (a3 - 1)))) / 2) = 0 then ((num_Log.f kj4 a0).bind fun t129 => (some (decide (t129 < a3)))) else (some true)) else (none)) else (some false)) else (if 0 ≤ (IntKind.u64.wrap (wrap64 (a3 - 1))) then (if ((shr .u64 a0 (IntKind.u64.wrap (wrap64 (a3 - 1)))) / 2) = 0 then ((num_Log.f kj4 a0).bind fun t130 => (some (decide (t130 < a3)))) else (some true)) else (none))) = some r := by rw [if_pos rfl] at H; exact H
              clear H
              have H := H1
              clear H1
              by_cases c29 : t126 = true
              · subst c29
                have H1 : (if t121 = a1 then (if 0 ≤ (IntKind.u64.wrap (wrap64 (a3 - 1))) then (if ((shr .u64 a0 (IntKind.u64.wrap (wrap64 (a3 - 1)))) / 2) = 0 then ((num_Log.f kj4 a0).bind fun t129 => (some (decide (t129 < a3)))) else (some true)) else (none)) else (some false)) = some r := by rw [if_pos rfl] at H; exact H
                clear H
                have H := H1
                clear H1
                by_cases c30 : t121 = a1
                · rw [if_pos c30] at H
                  have c30b0 : (t121 == a1) = true := beq_iff_eq.mpr c30
                  have c30b1 : (t121 != a1) = false := bne_eq_false_iff_eq.mpr c30
                  clear c30
                  obtain ⟨ji31, hji31⟩ : ∃ j_ : Int, (IntKind.u64.wrap (wrap64 (a3 - 1))) = j_ := ⟨_, rfl⟩
                  replace H : (if 0 ≤ (ji31) then (if ((shr .u64 a0 (ji31)) / 2) = 0 then ((num_Log.f kj4 a0).bind fun t129 => (some (decide (t129 < a3)))) else (some true)) else (none)) = some r := by first | (rw [hji31] at H; exact H) | (simp only [hji31] at H ⊢; exact H)
                  (try rw [hji31] at A22)
                  (try rw [hji31] at A23)
                  (try rw [hji31] at A24)
                  (try rw [hji31] at A25)
                  by_cases c32 : 0 ≤ (ji31)
                  · rw [if_pos c32] at H
                    have c32b0 := eq_true c32
                    have c32b1 : decide (0 ≤ (ji31)) = true := decide_eq_true c32
                    clear c32
                    obtain ⟨ji33, hji33⟩ : ∃ j_ : Int, (shr .u64 a0 (ji31)) = j_ := ⟨_, rfl⟩
                    replace H : (if ((ji33) / 2) = 0 then ((num_Log.f kj4 a0).bind fun t129 => (some (decide (t129 < a3)))) else (some true)) = some r := by first | (rw [hji33] at H; exact H) | (simp only [hji33] at H ⊢; exact H)
                    (try rw [hji33] at A22)
                    (try rw [hji33] at A23)
                    (try rw [hji33] at A24)
                    (try rw [hji33] at A25)
                    have hji33_ : (a0 / 2 ^ min (ji31).toNat 64) = ji33 := hji33
                    have hji33z : (ji31) ≤ 64 → (a0 / 2 ^ (ji31).toNat) = ji33 := shr_small hji33
                    by_cases c34 : ((ji33) / 2) = 0
                    · rw [if_pos c34] at H
                      have c34b0 : (((ji33) / 2) == 0) = true := beq_iff_eq.mpr c34
                      have c34b1 : (((ji33) / 2) != 0) = false := bne_eq_false_iff_eq.mpr c34
                      clear c34
                      replace H := Option.bind_eq_some_iff.mp H
                      obtain ⟨t129, A350, H⟩ := H
                      replace H : (some (decide (t129 < a3))) = some r := H
                      have A35 := Aside0.mk A350
                      clear A350
                      obtain rfl := Option.some.inj H
                      go_wp2_with (first | ((with_reducible refine gate_callee (f := 27) rfl ?_); refine goesL_ (some 48) rfl rfl Try.func27 (by kernel_rfl) rfl #[.int .i64 a1, .int .i64 a3] rfl (by (try simp only [List.map_toArray, List.map_cons, List.map_nil]); first | done | rfl | (simp only [List.length_drop, List.length_take]; rfl)) ?_; (with_reducible refine (num_Narrow.calls a1 a3 t121 t122 _ A22.out).mono ?_); rintro e w' ⟨rfl, ⟨nd, rfl⟩⟩; refine ⟨_, rfl, ?_⟩) | ((with_reducible refine gate_callee (f := 27) rfl ?_); refine goesL_ (some 54) rfl rfl Try.func27 (by kernel_rfl) rfl #[.int .i64 t121, .int .i64 a2] rfl (by (try simp only [List.map_toArray, List.map_cons, List.map_nil]); first | done | rfl | (simp only [List.length_drop, List.length_take]; rfl)) ?_; (with_reducible refine (num_Narrow.calls t121 a2 t123 t124 _ A23.out).mono ?_); rintro e w' ⟨rfl, ⟨nd, rfl⟩⟩; refine ⟨_, rfl, ?_⟩) | ((with_reducible refine gate_callee (f := 27) rfl ?_); refine goesL_ (some 60) rfl rfl Try.func27 (by kernel_rfl) rfl #[.int .i64 a1, .int .i64 a2] rfl (by (try simp only [List.map_toArray, List.map_cons, List.map_nil]); first | done | rfl | (simp only [List.length_drop, List.length_take]; rfl)) ?_; (with_reducible refine (num_Narrow.calls a1 a2 t125 true _ A24.out).mono ?_); rintro e w' ⟨rfl, ⟨nd, rfl⟩⟩; refine ⟨_, rfl, ?_⟩) | ((with_reducible refine gate_callee (f := 27) rfl ?_); refine goesL_ (some 66) rfl rfl Try.func27 (by kernel_rfl) rfl #[.int .i64 t125, .int .i64 a3] rfl (by (try simp only [List.map_toArray, List.map_cons, List.map_nil]); first | done | rfl | (simp only [List.length_drop, List.length_take]; rfl)) ?_; (with_reducible refine (num_Narrow.calls t125 a3 t127 true _ A25.out).mono ?_); rintro e w' ⟨rfl, ⟨nd, rfl⟩⟩; refine ⟨_, rfl, ?_⟩) | (go_at_call 28; (with_reducible refine (num_Log.calls kj4 a0 t129 _ A35.out).mono ?_); rintro e w' ⟨rfl, ⟨nd, rfl⟩⟩))
                      go_ret
                      exact ⟨by first | rfl | (simp [errW_none, errW_some] <;> rfl) | (simp only [← hji31, ← hji33]; first | rfl | (simp [errW_none, errW_some] <;> rfl)) | (simp [*, errW_none, errW_some] <;> rfl), by repeat (first | (with_reducible first | exact HB.out | apply below_alloc | apply pw_below_drewN | apply below_drew1) | exact HB.out)⟩
                    · rw [if_neg c34] at H
                      have c34b0 : (((ji33) / 2) == 0) = false := beq_eq_false_iff_ne.mpr c34
                      have c34b1 : (((ji33) / 2) != 0) = true := bne_iff_ne.mpr c34
                      obtain rfl := Option.some.inj H
                      go_wp2_with (first | ((with_reducible refine gate_callee (f := 27) rfl ?_); refine goesL_ (some 48) rfl rfl Try.func27 (by kernel_rfl) rfl #[.int .i64 a1, .int .i64 a3] rfl (by (try simp only [List.map_toArray, List.map_cons, List.map_nil]); first | done | rfl | (simp only [List.length_drop, List.length_take]; rfl)) ?_; (with_reducible refine (num_Narrow.calls a1 a3 t121 t122 _ A22.out).mono ?_); rintro e w' ⟨rfl, ⟨nd, rfl⟩⟩; refine ⟨_, rfl, ?_⟩) | ((with_reducible refine gate_callee (f := 27) rfl ?_); refine goesL_ (some 54) rfl rfl Try.func27 (by kernel_rfl) rfl #[.int .i64 t121, .int .i64 a2] rfl (by (try simp only [List.map_toArray, List.map_cons, List.map_nil]); first | done | rfl | (simp only [List.length_drop, List.length_take]; rfl)) ?_; (with_reducible refine (num_Narrow.calls t121 a2 t123 t124 _ A23.out).mono ?_); rintro e w' ⟨rfl, ⟨nd, rfl⟩⟩; refine ⟨_, rfl, ?_⟩) | ((with_reducible refine gate_callee (f := 27) rfl ?_); refine goesL_ (some 60) rfl rfl Try.func27 (by kernel_rfl) rfl #[.int .i64 a1, .int .i64 a2] rfl (by (try simp only [List.map_toArray, List.map_cons, List.map_nil]); first | done | rfl | (simp only [List.length_drop, List.length_take]; rfl)) ?_; (with_reducible refine (num_Narrow.calls a1 a2 t125 true _ A24.out).mono ?_); rintro e w' ⟨rfl, ⟨nd, rfl⟩⟩; refine ⟨_, rfl, ?_⟩) | ((with_reducible refine gate_callee (f := 27) rfl ?_); refine goesL_ (some 66) rfl rfl Try.func27 (by kernel_rfl) rfl #[.int .i64 t125, .int .i64 a3] rfl (by (try simp only [List.map_toArray, List.map_cons, List.map_nil]); first | done | rfl | (simp only [List.length_drop, List.length_take]; rfl)) ?_; (with_reducible refine (num_Narrow.calls t125 a3 t127 true _ A25.out).mono ?_); rintro e w' ⟨rfl, ⟨nd, rfl⟩⟩; refine ⟨_, rfl, ?_⟩))
                      go_ret
                      exact ⟨by first | rfl | (simp [errW_none, errW_some] <;> rfl) | (simp only [← hji31, ← hji33]; first | rfl | (simp [errW_none, errW_some] <;> rfl)) | (simp [*, errW_none, errW_some] <;> rfl), by repeat (first | (with_reducible first | exact HB.out | apply below_alloc | apply pw_below_drewN | apply below_drew1) | exact HB.out)⟩
                  · rw [if_neg c32] at H
                    exact absurd H (by simp)
                · rw [if_neg c30] at H
                  have c30b0 : (t121 == a1) = false := beq_eq_false_iff_ne.mpr c30
                  have c30b1 : (t121 != a1) = true := bne_iff_ne.mpr c30
                  obtain rfl := Option.some.inj H
                  go_wp2_with (first | ((with_reducible refine gate_callee (f := 27) rfl ?_); refine goesL_ (some 48) rfl rfl Try.func27 (by kernel_rfl) rfl #[.int .i64 a1, .int .i64 a3] rfl (by (try simp only [List.map_toArray, List.map_cons, List.map_nil]); first | done | rfl | (simp only [List.length_drop, List.length_take]; rfl)) ?_; (with_reducible refine (num_Narrow.calls a1 a3 t121 t122 _ A22.out).mono ?_); rintro e w' ⟨rfl, ⟨nd, rfl⟩⟩; refine ⟨_, rfl, ?_⟩) | ((with_reducible refine gate_callee (f := 27) rfl ?_); refine goesL_ (some 54) rfl rfl Try.func27 (by kernel_rfl) rfl #[.int .i64 t121, .int .i64 a2] rfl (by (try simp only [List.map_toArray, List.map_cons, List.map_nil]); first | done | rfl | (simp only [List.length_drop, List.length_take]; rfl)) ?_; (with_reducible refine (num_Narrow.calls t121 a2 t123 t124 _ A23.out).mono ?_); rintro e w' ⟨rfl, ⟨nd, rfl⟩⟩; refine ⟨_, rfl, ?_⟩) | ((with_reducible refine gate_callee (f := 27) rfl ?_); refine goesL_ (some 60) rfl rfl Try.func27 (by kernel_rfl) rfl #[.int .i64 a1, .int .i64 a2] rfl (by (try simp only [List.map_toArray, List.map_cons, List.map_nil]); first | done | rfl | (simp only [List.length_drop, List.length_take]; rfl)) ?_; (with_reducible refine (num_Narrow.calls a1 a2 t125 true _ A24.out).mono ?_); rintro e w' ⟨rfl, ⟨nd, rfl⟩⟩; refine ⟨_, rfl, ?_⟩) | ((with_reducible refine gate_callee (f := 27) rfl ?_); refine goesL_ (some 66) rfl rfl Try.func27 (by kernel_rfl) rfl #[.int .i64 t125, .int .i64 a3] rfl (by (try simp only [List.map_toArray, List.map_cons, List.map_nil]); first | done | rfl | (simp only [List.length_drop, List.length_take]; rfl)) ?_; (with_reducible refine (num_Narrow.calls t125 a3 t127 true _ A25.out).mono ?_); rintro e w' ⟨rfl, ⟨nd, rfl⟩⟩; refine ⟨_, rfl, ?_⟩))
                  go_ret
                  exact ⟨by first | rfl | (simp [errW_none, errW_some] <;> rfl) | (simp [*, errW_none, errW_some] <;> rfl), by repeat (first | (with_reducible first | exact HB.out | apply below_alloc | apply pw_below_drewN | apply below_drew1) | exact HB.out)⟩
              · replace c29 := Bool.eq_false_iff.mpr c29
                subst c29
                have H1 : (if 0 ≤ (IntKind.u64.wrap (wrap64 (a3 - 1))) then (if ((shr .u64 a0 (IntKind.u64.wrap (wrap64 (a3 - 1)))) / 2) = 0 then ((num_Log.f kj4 a0).bind fun t130 => (some (decide (t130 < a3)))) else (some true)) else (none)) = some r := by rw [if_neg (show ¬ (false = true) by decide)] at H; exact H
                clear H
                have H := H1
                clear H1
                obtain ⟨ji36, hji36⟩ : ∃ j_ : Int, (IntKind.u64.wrap (wrap64 (a3 - 1))) = j_ := ⟨_, rfl⟩
                replace H : (if 0 ≤ (ji36) then (if ((shr .u64 a0 (ji36)) / 2) = 0 then ((num_Log.f kj4 a0).bind fun t130 => (some (decide (t130 < a3)))) else (some true)) else (none)) = some r := by first | (rw [hji36] at H; exact H) | (simp only [hji36] at H ⊢; exact H)
                (try rw [hji36] at A22)
                (try rw [hji36] at A23)
                (try rw [hji36] at A24)
                (try rw [hji36] at A25)
                by_cases c37 : 0 ≤ (ji36)
                · rw [if_pos c37] at H
                  have c37b0 := eq_true c37
                  have c37b1 : decide (0 ≤ (ji36)) = true := decide_eq_true c37
                  clear c37
                  obtain ⟨ji38, hji38⟩ : ∃ j_ : Int, (shr .u64 a0 (ji36)) = j_ := ⟨_, rfl⟩
                  replace H : (if ((ji38) / 2) = 0 then ((num_Log.f kj4 a0).bind fun t130 => (some (decide (t130 < a3)))) else (some true)) = some r := by first | (rw [hji38] at H; exact H) | (simp only [hji38] at H ⊢; exact H)
                  (try rw [hji38] at A22)
                  (try rw [hji38] at A23)
                  (try rw [hji38] at A24)
                  (try rw [hji38] at A25)
                  have hji38_ : (a0 / 2 ^ min (ji36).toNat 64) = ji38 := hji38
                  have hji38z : (ji36) ≤ 64 → (a0 / 2 ^ (ji36).toNat) = ji38 := shr_small hji38
                  by_cases c39 : ((ji38) / 2) = 0
                  · rw [if_pos c39] at H
                    have c39b0 : (((ji38) / 2) == 0) = true := beq_iff_eq.mpr c39
                    have c39b1 : (((ji38) / 2) != 0) = false := bne_eq_false_iff_eq.mpr c39
                    clear c39
                    replace H := Option.bind_eq_some_iff.mp H
                    obtain ⟨t130, A400, H⟩ := H
                    replace H : (some (decide (t130 < a3))) = some r := H
                    have A40 := Aside0.mk A400
                    clear A400
                    obtain rfl := Option.some.inj H
                    go_wp2_with (first | ((with_reducible refine gate_callee (f := 27) rfl ?_); refine goesL_ (some 48) rfl rfl Try.func27 (by kernel_rfl) rfl #[.int .i64 a1, .int .i64 a3] rfl (by (try simp only [List.map_toArray, List.map_cons, List.map_nil]); first | done | rfl | (simp only [List.length_drop, List.length_take]; rfl)) ?_; (with_reducible refine (num_Narrow.calls a1 a3 t121 t122 _ A22.out).mono ?_); rintro e w' ⟨rfl, ⟨nd, rfl⟩⟩; refine ⟨_, rfl, ?_⟩) | ((with_reducible refine gate_callee (f := 27) rfl ?_); refine goesL_ (some 54) rfl rfl Try.func27 (by kernel_rfl) rfl #[.int .i64 t121, .int .i64 a2] rfl (by (try simp only [List.map_toArray, List.map_cons, List.map_nil]); first | done | rfl | (simp only [List.length_drop, List.length_take]; rfl)) ?_; (with_reducible refine (num_Narrow.calls t121 a2 t123 t124 _ A23.out).mono ?_); rintro e w' ⟨rfl, ⟨nd, rfl⟩⟩; refine ⟨_, rfl, ?_⟩) | ((with_reducible refine gate_callee (f := 27) rfl ?_); refine goesL_ (some 60) rfl rfl Try.func27 (by kernel_rfl) rfl #[.int .i64 a1, .int .i64 a2] rfl (by (try simp only [List.map_toArray, List.map_cons, List.map_nil]); first | done | rfl | (simp only [List.length_drop, List.length_take]; rfl)) ?_; (with_reducible refine (num_Narrow.calls a1 a2 t125 false _ A24.out).mono ?_); rintro e w' ⟨rfl, ⟨nd, rfl⟩⟩; refine ⟨_, rfl, ?_⟩) | ((with_reducible refine gate_callee (f := 27) rfl ?_); refine goesL_ (some 66) rfl rfl Try.func27 (by kernel_rfl) rfl #[.int .i64 t125, .int .i64 a3] rfl (by (try simp only [List.map_toArray, List.map_cons, List.map_nil]); first | done | rfl | (simp only [List.length_drop, List.length_take]; rfl)) ?_; (with_reducible refine (num_Narrow.calls t125 a3 t127 true _ A25.out).mono ?_); rintro e w' ⟨rfl, ⟨nd, rfl⟩⟩; refine ⟨_, rfl, ?_⟩) | (go_at_call 28; (with_reducible refine (num_Log.calls kj4 a0 t130 _ A40.out).mono ?_); rintro e w' ⟨rfl, ⟨nd, rfl⟩⟩))
                    go_ret
                    exact ⟨by first | rfl | (simp [errW_none, errW_some] <;> rfl) | (simp only [← hji36, ← hji38]; first | rfl | (simp [errW_none, errW_some] <;> rfl)) | (simp [*, errW_none, errW_some] <;> rfl), by repeat (first | (with_reducible first | exact HB.out | apply below_alloc | apply pw_below_drewN | apply below_drew1) | exact HB.out)⟩
                  · rw [if_neg c39] at H
                    have c39b0 : (((ji38) / 2) == 0) = false := beq_eq_false_iff_ne.mpr c39
                    have c39b1 : (((ji38) / 2) != 0) = true := bne_iff_ne.mpr c39
                    obtain rfl := Option.some.inj H
                    go_wp2_with (first | ((with_reducible refine gate_callee (f := 27) rfl ?_); refine goesL_ (some 48) rfl rfl Try.func27 (by kernel_rfl) rfl #[.int .i64 a1, .int .i64 a3] rfl (by (try simp only [List.map_toArray, List.map_cons, List.map_nil]); first | done | rfl | (simp only [List.length_drop, List.length_take]; rfl)) ?_; (with_reducible refine (num_Narrow.calls a1 a3 t121 t122 _ A22.out).mono ?_); rintro e w' ⟨rfl, ⟨nd, rfl⟩⟩; refine ⟨_, rfl, ?_⟩) | ((with_reducible refine gate_callee (f := 27) rfl ?_); refine goesL_ (some 54) rfl rfl Try.func27 (by kernel_rfl) rfl #[.int .i64 t121, .int .i64 a2] rfl (by (try simp only [List.map_toArray, List.map_cons, List.map_nil]); first | done | rfl | (simp only [List.length_drop, List.length_take]; rfl)) ?_; (with_reducible refine (num_Narrow.calls t121 a2 t123 t124 _ A23.out).mono ?_); rintro e w' ⟨rfl, ⟨nd, rfl⟩⟩; refine ⟨_, rfl, ?_⟩) | ((with_reducible refine gate_callee (f := 27) rfl ?_); refine goesL_ (some 60) rfl rfl Try.func27 (by kernel_rfl) rfl #[.int .i64 a1, .int .i64 a2] rfl (by (try simp only [List.map_toArray, List.map_cons, List.map_nil]); first | done | rfl | (simp only [List.length_drop, List.length_take]; rfl)) ?_; (with_reducible refine (num_Narrow.calls a1 a2 t125 false _ A24.out).mono ?_); rintro e w' ⟨rfl, ⟨nd, rfl⟩⟩; refine ⟨_, rfl, ?_⟩) | ((with_reducible refine gate_callee (f := 27) rfl ?_); refine goesL_ (some 66) rfl rfl Try.func27 (by kernel_rfl) rfl #[.int .i64 t125, .int .i64 a3] rfl (by (try simp only [List.map_toArray, List.map_cons, List.map_nil]); first | done | rfl | (simp only [List.length_drop, List.length_take]; rfl)) ?_; (with_reducible refine (num_Narrow.calls t125 a3 t127 true _ A25.out).mono ?_); rintro e w' ⟨rfl, ⟨nd, rfl⟩⟩; refine ⟨_, rfl, ?_⟩))
                    go_ret
                    exact ⟨by first | rfl | (simp [errW_none, errW_some] <;> rfl) | (simp only [← hji36, ← hji38]; first | rfl | (simp [errW_none, errW_some] <;> rfl)) | (simp [*, errW_none, errW_some] <;> rfl), by repeat (first | (with_reducible first | exact HB.out | apply below_alloc | apply pw_below_drewN | apply below_drew1) | exact HB.out)⟩
                · rw [if_neg c37] at H
                  exact absurd H (by simp)
            · replace c28 := Bool.eq_false_iff.mpr c28
              subst c28
              have H1 : (some false) = some r := by rw [if_neg (show ¬ (false = true) by decide)] at H; exact H
              clear H
              have H := H1
              clear H1
              obtain rfl := Option.some.inj H
              go_wp2_with (first | ((with_reducible refine gate_callee (f := 27) rfl ?_); refine goesL_ (some 48) rfl rfl Try.func27 (by kernel_rfl) rfl #[.int .i64 a1, .int .i64 a3] rfl (by (try simp only [List.map_toArray, List.map_cons, List.map_nil]); first | done | rfl | (simp only [List.length_drop, List.length_take]; rfl)) ?_; (with_reducible refine (num_Narrow.calls a1 a3 t121 t122 _ A22.out).mono ?_); rintro e w' ⟨rfl, ⟨nd, rfl⟩⟩; refine ⟨_, rfl, ?_⟩) | ((with_reducible refine gate_callee (f := 27) rfl ?_); refine goesL_ (some 54) rfl rfl Try.func27 (by kernel_rfl) rfl #[.int .i64 t121, .int .i64 a2] rfl (by (try simp only [List.map_toArray, List.map_cons, List.map_nil]); first | done | rfl | (simp only [List.length_drop, List.length_take]; rfl)) ?_; (with_reducible refine (num_Narrow.calls t121 a2 t123 t124 _ A23.out).mono ?_); rintro e w' ⟨rfl, ⟨nd, rfl⟩⟩; refine ⟨_, rfl, ?_⟩) | ((with_reducible refine gate_callee (f := 27) rfl ?_); refine goesL_ (some 60) rfl rfl Try.func27 (by kernel_rfl) rfl #[.int .i64 a1, .int .i64 a2] rfl (by (try simp only [List.map_toArray, List.map_cons, List.map_nil]); first | done | rfl | (simp only [List.length_drop, List.length_take]; rfl)) ?_; (with_reducible refine (num_Narrow.calls a1 a2 t125 t126 _ A24.out).mono ?_); rintro e w' ⟨rfl, ⟨nd, rfl⟩⟩; refine ⟨_, rfl, ?_⟩) | ((with_reducible refine gate_callee (f := 27) rfl ?_); refine goesL_ (some 66) rfl rfl Try.func27 (by kernel_rfl) rfl #[.int .i64 t125, .int .i64 a3] rfl (by (try simp only [List.map_toArray, List.map_cons, List.map_nil]); first | done | rfl | (simp only [List.length_drop, List.length_take]; rfl)) ?_; (with_reducible refine (num_Narrow.calls t125 a3 t127 false _ A25.out).mono ?_); rintro e w' ⟨rfl, ⟨nd, rfl⟩⟩; refine ⟨_, rfl, ?_⟩))
              go_ret
              exact ⟨by first | rfl | (simp [errW_none, errW_some] <;> rfl) | (simp [*, errW_none, errW_some] <;> rfl), by repeat (first | (with_reducible first | exact HB.out | apply below_alloc | apply pw_below_drewN | apply below_drew1) | exact HB.out)⟩
          · rw [if_neg c27] at H
            have c27b0 : (t127 == t125) = false := beq_eq_false_iff_ne.mpr c27
            have c27b1 : (t127 != t125) = true := bne_iff_ne.mpr c27
            obtain rfl := Option.some.inj H
            go_wp2_with (first | ((with_reducible refine gate_callee (f := 27) rfl ?_); refine goesL_ (some 48) rfl rfl Try.func27 (by kernel_rfl) rfl #[.int .i64 a1, .int .i64 a3] rfl (by (try simp only [List.map_toArray, List.map_cons, List.map_nil]); first | done | rfl | (simp only [List.length_drop, List.length_take]; rfl)) ?_; (with_reducible refine (num_Narrow.calls a1 a3 t121 t122 _ A22.out).mono ?_); rintro e w' ⟨rfl, ⟨nd, rfl⟩⟩; refine ⟨_, rfl, ?_⟩) | ((with_reducible refine gate_callee (f := 27) rfl ?_); refine goesL_ (some 54) rfl rfl Try.func27 (by kernel_rfl) rfl #[.int .i64 t121, .int .i64 a2] rfl (by (try simp only [List.map_toArray, List.map_cons, List.map_nil]); first | done | rfl | (simp only [List.length_drop, List.length_take]; rfl)) ?_; (with_reducible refine (num_Narrow.calls t121 a2 t123 t124 _ A23.out).mono ?_); rintro e w' ⟨rfl, ⟨nd, rfl⟩⟩; refine ⟨_, rfl, ?_⟩) | ((with_reducible refine gate_callee (f := 27) rfl ?_); refine goesL_ (some 60) rfl rfl Try.func27 (by kernel_rfl) rfl #[.int .i64 a1, .int .i64 a2] rfl (by (try simp only [List.map_toArray, List.map_cons, List.map_nil]); first | done | rfl | (simp only [List.length_drop, List.length_take]; rfl)) ?_; (with_reducible refine (num_Narrow.calls a1 a2 t125 t126 _ A24.out).mono ?_); rintro e w' ⟨rfl, ⟨nd, rfl⟩⟩; refine ⟨_, rfl, ?_⟩) | ((with_reducible refine gate_callee (f := 27) rfl ?_); refine goesL_ (some 66) rfl rfl Try.func27 (by kernel_rfl) rfl #[.int .i64 t125, .int .i64 a3] rfl (by (try simp only [List.map_toArray, List.map_cons, List.map_nil]); first | done | rfl | (simp only [List.length_drop, List.length_take]; rfl)) ?_; (with_reducible refine (num_Narrow.calls t125 a3 t127 t128 _ A25.out).mono ?_); rintro e w' ⟨rfl, ⟨nd, rfl⟩⟩; refine ⟨_, rfl, ?_⟩))
            go_ret
            exact ⟨by first | rfl | (simp [errW_none, errW_some] <;> rfl) | (simp [*, errW_none, errW_some] <;> rfl), by repeat (first | (with_reducible first | exact HB.out | apply below_alloc | apply pw_below_drewN | apply below_drew1) | exact HB.out)⟩
        · rw [if_neg c26] at H
          have c26b0 : (t123 == t125) = false := beq_eq_false_iff_ne.mpr c26
          have c26b1 : (t123 != t125) = true := bne_iff_ne.mpr c26
          obtain rfl := Option.some.inj H
          go_wp2_with (first | ((with_reducible refine gate_callee (f := 27) rfl ?_); refine goesL_ (some 48) rfl rfl Try.func27 (by kernel_rfl) rfl #[.int .i64 a1, .int .i64 a3] rfl (by (try simp only [List.map_toArray, List.map_cons, List.map_nil]); first | done | rfl | (simp only [List.length_drop, List.length_take]; rfl)) ?_; (with_reducible refine (num_Narrow.calls a1 a3 t121 t122 _ A22.out).mono ?_); rintro e w' ⟨rfl, ⟨nd, rfl⟩⟩; refine ⟨_, rfl, ?_⟩) | ((with_reducible refine gate_callee (f := 27) rfl ?_); refine goesL_ (some 54) rfl rfl Try.func27 (by kernel_rfl) rfl #[.int .i64 t121, .int .i64 a2] rfl (by (try simp only [List.map_toArray, List.map_cons, List.map_nil]); first | done | rfl | (simp only [List.length_drop, List.length_take]; rfl)) ?_; (with_reducible refine (num_Narrow.calls t121 a2 t123 t124 _ A23.out).mono ?_); rintro e w' ⟨rfl, ⟨nd, rfl⟩⟩; refine ⟨_, rfl, ?_⟩) | ((with_reducible refine gate_callee (f := 27) rfl ?_); refine goesL_ (some 60) rfl rfl Try.func27 (by kernel_rfl) rfl #[.int .i64 a1, .int .i64 a2] rfl (by (try simp only [List.map_toArray, List.map_cons, List.map_nil]); first | done | rfl | (simp only [List.length_drop, List.length_take]; rfl)) ?_; (with_reducible refine (num_Narrow.calls a1 a2 t125 t126 _ A24.out).mono ?_); rintro e w' ⟨rfl, ⟨nd, rfl⟩⟩; refine ⟨_, rfl, ?_⟩) | ((with_reducible refine gate_callee (f := 27) rfl ?_); refine goesL_ (some 66) rfl rfl Try.func27 (by kernel_rfl) rfl #[.int .i64 t125, .int .i64 a3] rfl (by (try simp only [List.map_toArray, List.map_cons, List.map_nil]); first | done | rfl | (simp only [List.length_drop, List.length_take]; rfl)) ?_; (with_reducible refine (num_Narrow.calls t125 a3 t127 t128 _ A25.out).mono ?_); rintro e w' ⟨rfl, ⟨nd, rfl⟩⟩; refine ⟨_, rfl, ?_⟩))
          go_ret
          exact ⟨by first | rfl | (simp [errW_none, errW_some] <;> rfl) | (simp [*, errW_none, errW_some] <;> rfl), by repeat (first | (with_reducible first | exact HB.out | apply below_alloc | apply pw_below_drewN | apply below_drew1) | exact HB.out)⟩

/-- THE ONE PURE STATEMENT of hansomlaw01_NumShifts: yours. -/
def hansomlaw01_NumShifts.Pure : Prop := ∀ (a0 : Int) (a1 : Int) (a2 : Int) (a3 : Int), (Lit.int .u64 a0).wf = true → (Lit.int .i64 a1).wf = true → (Lit.int .i64 a2).wf = true → (Lit.int .i64 a3).wf = true → ∃ k, hansomlaw01_NumShifts.f k a0 a1 a2 a3 = some true
theorem hansomlaw01_NumShifts.walk (P : hansomlaw01_NumShifts.Pure) (a0 : Int) (a1 : Int) (a2 : Int) (a3 : Int) (w : World) (w0 : (Lit.int .u64 a0).wf = true) (w1 : (Lit.int .i64 a1).wf = true) (w2 : (Lit.int .i64 a2).wf = true) (w3 : (Lit.int .i64 a3).wf = true) :
    Calls Try.prog 10 #[.int .u64 a0, .int .i64 a1, .int .i64 a2, .int .i64 a3] w fun e w' => e = .returned (.bool true) ∧ Below w.heap.size w w' := by
  obtain ⟨k, h⟩ := P a0 a1 a2 a3 w0 w1 w2 w3
  refine (hansomlaw01_NumShifts.calls k a0 a1 a2 a3 true w h).mono ?_
  rintro e w' ⟨rfl, hd⟩
  exact ⟨rfl, hd⟩

end Go.Proofs.Ytbpghlfmkbjjcaa.PNumShifts
