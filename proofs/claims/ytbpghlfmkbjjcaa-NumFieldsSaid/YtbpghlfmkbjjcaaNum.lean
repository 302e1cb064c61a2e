/- The contracts of num and of its reference: widths, packing. -/
import Derived.Test.YtbpghlfmkbjjcaaHold
import Derived.Test.YtbpghlfmkbjjcaaNumMath
import Derived.Deep.CutBlock
import Derived.Deep.DeepCutAuto
namespace Go.Proofs.Ytbpghlfmkbjjcaa.Num
open Go Go.RowKit Go.Proofs.YtbpghlfmkbjjcaaW.PrintWords Go.Proofs.Ytbpghlfmkbjjcaa.Base Go.Proofs.Ytbpghlfmkbjjcaa.NumMath
set_option linter.unusedVariables false
set_option linter.unusedSimpArgs false
set_option maxRecDepth 100000 in
set_option maxHeartbeats 1000000 in
theorem right_calls (A : Option Addr) (c : Nat) (bits : List Int) (w : World) (hr : (Kd.int .i64).C w A bits.length bits) (hb : ∀ x ∈ bits, -9223372036854775808 ≤ x ∧ x ≤ 9223372036854775807) {b : Bool} (h : right bits = b) :
    Calls Try.prog 34 #[.slice A bits.length c] w fun e w' => e = .returned (.bool b) ∧ w = w' := by
  have HR := Aside0.mk hr
  have HB := Aside0.mk hb
  have HH := Aside0.mk h
  clear hr hb h
  by_cases h64 : 64 < bits.length
  · have e : b = false := by
      rw [← HH.out]
      unfold right
      rw [decide_eq_false (by omega)]
      rfl
    subst e
    go_enter Try.func34, Try.ntmps34
    go_wp2
    go_ret
    exact ⟨rfl, rfl⟩
  · have hb1 : right bits = rightI 64 bits := by
      unfold right
      rw [decide_eq_true (by omega)]
      rfl
    rw [hb1] at HH
    clear hb1
    go_enter Try.func34, Try.ntmps34
    go_wp2
    go_loop [3, 11] (fun s i => ∃ k a : Nat, k ≤ bits.length ∧ a ≤ 64 ∧ i = .int .i64 k ∧ s = .int .i64 a ∧ Aside0 (RI bits k (64 - (a : Int)))) (fun _ i => bits.length - (intOf i).toNat)
    case atStart => exact ⟨0, 0, by omega, by omega, rfl, rfl, ⟨RI_zero bits⟩⟩
    case round =>
      obtain ⟨k, a, hk, ha, rfl, rfl, HI⟩ := hrel
      by_cases hlt : k < bits.length
      · obtain ⟨ad, n, rfl, hcell, hn⟩ := at_nat HR.out k hlt
        by_cases h1 : n < 1
        · have E := Aside0.mk (RI_stop HI.out hlt hn.out (.inl h1))
          go_wp2
          go_ret
          exact ⟨by rw [← HH.out, E.out]; rfl, rfl⟩
        · by_cases h2 : 64 - (a : Int) < n
          · have E := Aside0.mk (RI_stop HI.out hlt hn.out (.inr h2))
            go_wp2
            go_ret
            exact ⟨by rw [← HH.out, E.out]; rfl, rfl⟩
          · obtain ⟨m, rfl⟩ : ∃ m : Nat, n = m := ⟨n.toNat, by omega⟩
            have E := Aside0.mk (RI_step HI.out hlt hn.out (by omega) (by omega))
            go_wp2
            go_round
            case rel => exact ⟨k + 1, a + m, by omega, by omega, by go_num, by go_num, ⟨by rw [show (64 : Int) - ((a + m : Nat) : Int) = 64 - (a : Int) - (m : Int) by omega]; exact E.out⟩⟩
            case measure => simp [intOf]; omega
      · have E := Aside0.mk (RI_end HI.out (by omega))
        go_wp2
        go_ret
        exact ⟨by rw [← HH.out, E.out]; rfl, rfl⟩
set_option maxRecDepth 100000 in
set_option maxHeartbeats 1000000 in
theorem refright_calls (A : Option Addr) (c : Nat) (bits : List Int) (w : World) (hr : (Kd.int .i64).C w A bits.length bits) (hb : ∀ x ∈ bits, -9223372036854775808 ≤ x ∧ x ≤ 9223372036854775807) {b : Bool} (h : right bits = b) :
    Calls Try.prog 35 #[.slice A bits.length c] w fun e w' => e = .returned (.bool b) ∧ w = w' := by
  have HR := Aside0.mk hr
  have HB := Aside0.mk hb
  have HH := Aside0.mk h
  clear hr hb h
  by_cases h64 : 64 < bits.length
  · have e : b = false := by
      rw [← HH.out]
      unfold right
      rw [decide_eq_false (by omega)]
      rfl
    subst e
    go_enter Try.func35, Try.ntmps35
    go_wp2
    go_ret
    exact ⟨rfl, rfl⟩
  · have hb1 : right bits = rightI 64 bits := by
      unfold right
      rw [decide_eq_true (by omega)]
      rfl
    rw [hb1] at HH
    clear hb1
    go_enter Try.func35, Try.ntmps35
    go_wp2
    go_loop [3, 4] (fun s i => ∃ k a : Nat, k ≤ bits.length ∧ a ≤ 64 ∧ i = .int .i64 k ∧ s = .int .i64 (64 - (a : Int)) ∧ Aside0 (RI bits k (64 - (a : Int)))) (fun _ i => bits.length - (intOf i).toNat)
    case atStart => exact ⟨0, 0, by omega, by omega, rfl, rfl, ⟨RI_zero bits⟩⟩
    case round =>
      obtain ⟨k, a, hk, ha, rfl, rfl, HI⟩ := hrel
      by_cases hlt : k < bits.length
      · obtain ⟨ad, n, rfl, hcell, hn⟩ := at_nat HR.out k hlt
        by_cases h1 : n < 1
        · have E := Aside0.mk (RI_stop HI.out hlt hn.out (.inl h1))
          go_wp2
          go_ret
          exact ⟨by rw [← HH.out, E.out]; rfl, rfl⟩
        · by_cases h2 : 64 - (a : Int) < n
          · have E := Aside0.mk (RI_stop HI.out hlt hn.out (.inr h2))
            go_wp2
            go_ret
            exact ⟨by rw [← HH.out, E.out]; rfl, rfl⟩
          · obtain ⟨m, rfl⟩ : ∃ m : Nat, n = m := ⟨n.toNat, by omega⟩
            have E := Aside0.mk (RI_step HI.out hlt hn.out (by omega) (by omega))
            go_wp2
            go_round
            case rel => exact ⟨k + 1, a + m, by omega, by omega, by go_num, (by congr 1; omega), ⟨by rw [show (64 : Int) - ((a + m : Nat) : Int) = 64 - (a : Int) - (m : Int) by omega]; exact E.out⟩⟩
            case measure => simp [intOf]; omega
      · have E := Aside0.mk (RI_end HI.out (by omega))
        go_wp2
        go_ret
        exact ⟨by rw [← HH.out, E.out]; rfl, rfl⟩

/-- Which word numbers are, and why they are none. -/
def packR (v bits : List Int) : Int × Int :=
  if right bits = true ∧ v.length = bits.length then (if fit v bits = true then ((val v bits : Nat), 0) else (0, 8)) else (0, 1)
theorem or_u64 (w x a : Nat) (hw : w < 2 ^ a) (hx : x * 2 ^ a < 18446744073709551616) (ha : a ≤ 64) : Go.bits .or .u64 (w : Int) (IntKind.u64.wrap ((x : Int) * 2 ^ a)) = ((w + x * 2 ^ a : Nat) : Int) := by
  rw [IntKind.wrap_u64]
  have hp : (2 : Nat) ^ a ≤ 2 ^ 64 := Nat.pow_le_pow_right (by decide) ha
  have e : (x : Int) * 2 ^ a % 18446744073709551616 = ((x * 2 ^ a : Nat) : Int) := by
    have : (x : Int) * 2 ^ a = ((x * 2 ^ a : Nat) : Int) := by push_cast; rfl
    rw [this]
    omega
  rw [e, bits_or_u64_nat _ _ (by omega) hx, Nat.or_comm, Nat.mul_comm, ← Nat.two_pow_add_eq_or_of_lt hw, Nat.add_comm]
theorem fits_u64 {x n : Nat} (h : x < 2 ^ n) (a : Nat) (ha : a + n ≤ 64) : x * 2 ^ a < 18446744073709551616 := by
  have h1 : x * 2 ^ a < 2 ^ n * 2 ^ a := Nat.mul_lt_mul_of_pos_right h (Nat.two_pow_pos a)
  rw [← Nat.pow_add] at h1
  have h2 : (2 : Nat) ^ (n + a) ≤ 2 ^ 64 := Nat.pow_le_pow_right (by decide) (by omega)
  omega
set_option maxRecDepth 100000 in
set_option maxHeartbeats 1000000 in
theorem pack_calls (A B : Option Addr) (c d : Nat) (v bits : List Int) (w : World) (hv : (Kd.int .u64).C w A v.length v) (hr : (Kd.int .i64).C w B bits.length bits) (bv : ∀ x ∈ v, 0 ≤ x ∧ x ≤ 18446744073709551615) (hb : ∀ x ∈ bits, -9223372036854775808 ≤ x ∧ x ≤ 9223372036854775807) {x q : Int} (h : packR v bits = (x, q)) :
    Calls Try.prog 14 #[.slice A v.length c, .slice B bits.length d] w fun e w' => e = .returned (.tuple #[.int .u64 x, .int .i64 q]) ∧ w = w' := by
  have HV := Aside0.mk hv
  have HR := Aside0.mk hr
  have BV := Aside0.mk bv
  have HB := Aside0.mk hb
  have HH := Aside0.mk h
  clear hv hr bv hb h
  cases hrt : right bits with
  | false =>
    have HRT := Aside0.mk hrt
    have e : (x, q) = ((0 : Int), (1 : Int)) := by rw [← HH.out]; unfold packR; rw [hrt, if_neg (by simp)]
    injection e with e1 e2
    subst e1 e2
    clear hrt
    go_enter Try.func14, Try.ntmps14
    go_wp2_with fail
    refine (right_calls B d bits w HR.out HB.out HRT.out).mono ?_
    rintro e w' ⟨rfl, rfl⟩
    go_wp2
    go_ret2
    exact ⟨rfl, rfl⟩
  | true =>
    have HRT := Aside0.mk hrt
    by_cases hl : v.length = bits.length
    rotate_left
    · have e : (x, q) = ((0 : Int), (1 : Int)) := by rw [← HH.out]; unfold packR; rw [if_neg (by simp [hl])]
      injection e with e1 e2
      subst e1 e2
      have hl1 : ((v.length : Int) != (bits.length : Int)) = true := by rw [bne_iff_ne]; omega
      clear hrt hl
      go_enter Try.func14, Try.ntmps14
      go_wp2_with fail
      refine (right_calls B d bits w HR.out HB.out HRT.out).mono ?_
      rintro e w' ⟨rfl, rfl⟩
      go_wp2
      go_ret2
      exact ⟨rfl, rfl⟩
    · have hp : packR v bits = if fit v bits = true then (((val v bits : Nat) : Int), 0) else (0, 8) := by unfold packR; rw [if_pos ⟨hrt, hl⟩]
      rw [hp] at HH
      have HL := Aside0.mk hl
      have hl1 : ((v.length : Int) != (bits.length : Int)) = false := by rw [bne_eq_false_iff_eq]; omega
      have hr64 := Aside0.mk (right_split hrt)
      have hlen : bits.length ≤ 64 := hr64.out.1
      clear hp hrt hl
      go_enter Try.func14, Try.ntmps14
      go_wp2_with fail
      refine (right_calls B d bits w HR.out HB.out HRT.out).mono ?_
      rintro e w' ⟨rfl, rfl⟩
      go_wp2
      go_loop [6, 7, 22] (fun s6 s7 i => ∃ k a W : Nat, k ≤ bits.length ∧ a ≤ 64 ∧ i = .int .i64 k ∧ s7 = .int .i64 a ∧ s6 = .int .u64 W ∧ Aside0 (PI v bits k a W)) (fun _ _ i => bits.length - (intOf i).toNat)
      case atStart => exact ⟨0, 0, 0, by omega, by omega, rfl, rfl, rfl, ⟨PI_zero v bits⟩⟩
      case round =>
        obtain ⟨k, a, W, hk, ha, rfl, rfl, rfl, HI⟩ := hrel
        by_cases hlt : k < bits.length
        · obtain ⟨bd, n, rfl, hcell, hn⟩ := at_nat HR.out k hlt
          obtain ⟨ad, y, rfl, hcell2, hy⟩ := at_nat HV.out k (by have := HL.out; omega)
          have hyb := at_bounds BV.out k (by have := HL.out; omega) hy.out
          have hnb := RI_at hr64.out.2 HI.out.1 hlt hn.out
          obtain ⟨m, rfl⟩ : ∃ m : Nat, n = m := ⟨n.toNat, by omega⟩
          obtain ⟨z, rfl⟩ : ∃ z : Nat, y = z := ⟨y.toNat, by omega⟩
          have hm1 : 1 ≤ m := by omega
          have hm2 : a + m ≤ 64 := by omega
          have hm3 : m ≤ 64 := by omega
          have HZ : Aside0 ((z : Int) ≤ 18446744073709551615) := ⟨hyb.2⟩
          clear hnb hyb
          have hkv : k < v.length := by have := HL.out; omega
          by_cases hf : z < 2 ^ m
          · have HI2 := Aside0.mk (PI_step HI.out hr64.out.2 hlt HL.out hy.out hn.out (by simpa using hf))
            have HO := Aside0.mk (or_u64 W z a HI.out.2.1 (fits_u64 hf a hm2) (by omega))
            have hd : (z : Int) / 2 ^ m = 0 := by
              rw [show (z : Int) / 2 ^ m = ((z / 2 ^ m : Nat) : Int) by push_cast; rfl, Nat.div_eq_of_lt hf]
              rfl
            clear hf
            by_cases h64 : m < 64
            · go_wp2
              go_round
              case rel => exact ⟨k + 1, a + m, W + z * 2 ^ a, by omega, by omega, by go_num, by go_num, by rw [HO.out], by simpa using HI2⟩
              case measure => simp [intOf]; omega
            · go_wp2
              go_round
              case rel => exact ⟨k + 1, a + m, W + z * 2 ^ a, by omega, by omega, by go_num, by go_num, by rw [HO.out], by simpa using HI2⟩
              case measure => simp [intOf]; omega
          · have E := Aside0.mk (PI_over HI.out hlt HL.out hy.out hn.out (by simpa using hf))
            have h64 : m < 64 := by
              rcases Nat.lt_or_ge m 64 with h | h
              · exact h
              · have : (2 : Nat) ^ 64 ≤ 2 ^ m := Nat.pow_le_pow_right (by decide) h
                have := HZ.out
                omega
            have hd : ((z : Int) / 2 ^ m != 0) = true := by
              rw [bne_iff_ne]
              rw [show (z : Int) / 2 ^ m = ((z / 2 ^ m : Nat) : Int) by push_cast; rfl]
              have : 0 < z / 2 ^ m := Nat.div_pos (by omega) (Nat.two_pow_pos m)
              omega
            clear hf
            go_wp2
            go_ret2
            have e := HH.out
            rw [E.out, if_neg (by simp)] at e
            injection e with e1 e2
            subst e1 e2
            exact ⟨rfl, rfl⟩
        · have E := Aside0.mk (PI_end HI.out (by omega))
          go_wp2
          go_ret2
          have e := HH.out
          rw [E.out.1, if_pos rfl, E.out.2.1] at e
          injection e with e1 e2
          subst e1 e2
          exact ⟨rfl, rfl⟩

theorem and_one (z : Nat) (hz : z ≤ 18446744073709551615) (k : Nat) : Go.bits .and .u64 ((z : Int) / 2 ^ k) 1 = ((z / 2 ^ k % 2 : Nat) : Int) := by
  have h1 : z / 2 ^ k ≤ z := Nat.div_le_self _ _
  rw [show (z : Int) / 2 ^ k = ((z / 2 ^ k : Nat) : Int) by push_cast; rfl, show (1 : Int) = ((1 : Nat) : Int) from rfl, bits_and_u64_nat _ _ (by omega) (by decide), Nat.and_one_is_mod]
/-- Bit by bit: so much of a number is in the word. -/
def BI (W z a m kk Y : Nat) : Prop := Y = W + z % 2 ^ kk * 2 ^ a ∧ z % 2 ^ kk < 2 ^ m
theorem BI_zero (W z a m : Nat) : BI W z a m 0 W := ⟨by simp [Nat.mod_one], by rw [Nat.pow_zero, Nat.mod_one]; exact Nat.two_pow_pos m⟩
theorem BI_no {W z a m kk Y : Nat} (h : BI W z a m kk Y) (hb : z / 2 ^ kk % 2 = 0) : BI W z a m (kk + 1) Y := by
  have e : z % 2 ^ (kk + 1) = z % 2 ^ kk := by rw [Nat.mod_pow_succ, hb, Nat.mul_zero, Nat.add_zero]
  unfold BI
  rw [e]
  exact h
theorem BI_yes {W z a m kk Y : Nat} (h : BI W z a m kk Y) (hb : z / 2 ^ kk % 2 = 1) (hk : kk < m) (hW : W < 2 ^ a) : BI W z a m (kk + 1) (Y + 1 * 2 ^ (a + kk)) ∧ Y < 2 ^ (a + kk) := by
  have e : z % 2 ^ (kk + 1) = z % 2 ^ kk + 2 ^ kk := by rw [Nat.mod_pow_succ, hb, Nat.mul_one]
  have hp := Nat.mod_lt z (Nat.two_pow_pos kk)
  have h1 : (2 : Nat) ^ (kk + 1) ≤ 2 ^ m := Nat.pow_le_pow_right (by decide) hk
  have h2 : z % 2 ^ kk * 2 ^ a + 2 ^ a ≤ 2 ^ kk * 2 ^ a := by
    rw [← Nat.succ_mul]
    exact Nat.mul_le_mul_right _ hp
  refine ⟨⟨?_, ?_⟩, ?_⟩
  · rw [e, h.1, Nat.add_mul, Nat.pow_add, Nat.mul_comm (2 ^ a)]
    omega
  · rw [e]
    rw [Nat.pow_succ] at h1
    omega
  · rw [h.1, Nat.pow_add, Nat.mul_comm (2 ^ a)]
    omega
theorem BI_over {z m kk : Nat} (hb : z / 2 ^ kk % 2 = 1) (hk : m ≤ kk) : ¬ z < 2 ^ m := by
  intro h
  have h1 : (2 : Nat) ^ m ≤ 2 ^ kk := Nat.pow_le_pow_right (by decide) hk
  rw [Nat.div_eq_of_lt (by omega)] at hb
  omega
theorem BI_end {W z a m Y : Nat} (h : BI W z a m 64 Y) (hz : z ≤ 18446744073709551615) : Y = W + z * 2 ^ a ∧ z < 2 ^ m := by
  have e : z % 2 ^ 64 = z := Nat.mod_eq_of_lt (by omega)
  unfold BI at h
  rw [e] at h
  exact h
set_option maxRecDepth 100000 in
set_option maxHeartbeats 1000000 in
theorem refpack_calls (A B : Option Addr) (c d : Nat) (v bits : List Int) (w : World) (hv : (Kd.int .u64).C w A v.length v) (hr : (Kd.int .i64).C w B bits.length bits) (bv : ∀ x ∈ v, 0 ≤ x ∧ x ≤ 18446744073709551615) (hb : ∀ x ∈ bits, -9223372036854775808 ≤ x ∧ x ≤ 9223372036854775807) {x q : Int} (h : packR v bits = (x, q)) :
    Calls Try.prog 15 #[.slice A v.length c, .slice B bits.length d] w fun e w' => e = .returned (.tuple #[.int .u64 x, .int .i64 q]) ∧ w = w' := by
  have HV := Aside0.mk hv
  have HR := Aside0.mk hr
  have BV := Aside0.mk bv
  have HB := Aside0.mk hb
  have HH := Aside0.mk h
  clear hv hr bv hb h
  cases hrt : right bits with
  | false =>
    have HRT := Aside0.mk hrt
    have e : (x, q) = ((0 : Int), (1 : Int)) := by rw [← HH.out]; unfold packR; rw [hrt, if_neg (by simp)]
    injection e with e1 e2
    subst e1 e2
    clear hrt
    go_enter Try.func15, Try.ntmps15
    go_wp2_with fail
    refine (refright_calls B d bits w HR.out HB.out HRT.out).mono ?_
    rintro e w' ⟨rfl, rfl⟩
    go_wp2
    go_ret2
    exact ⟨rfl, rfl⟩
  | true =>
    have HRT := Aside0.mk hrt
    by_cases hl : v.length = bits.length
    rotate_left
    · have e : (x, q) = ((0 : Int), (1 : Int)) := by rw [← HH.out]; unfold packR; rw [if_neg (by simp [hl])]
      injection e with e1 e2
      subst e1 e2
      have hl1 : ((v.length : Int) != (bits.length : Int)) = true := by rw [bne_iff_ne]; omega
      clear hrt hl
      go_enter Try.func15, Try.ntmps15
      go_wp2_with fail
      refine (refright_calls B d bits w HR.out HB.out HRT.out).mono ?_
      rintro e w' ⟨rfl, rfl⟩
      go_wp2
      go_ret2
      exact ⟨rfl, rfl⟩
    · have hp : packR v bits = if fit v bits = true then (((val v bits : Nat) : Int), 0) else (0, 8) := by unfold packR; rw [if_pos ⟨hrt, hl⟩]
      rw [hp] at HH
      have HL := Aside0.mk hl
      have hl1 : ((v.length : Int) != (bits.length : Int)) = false := by rw [bne_eq_false_iff_eq]; omega
      have hr64 := Aside0.mk (right_split hrt)
      have hlen : bits.length ≤ 64 := hr64.out.1
      clear hp hrt hl
      go_enter Try.func15, Try.ntmps15
      go_wp2_with fail
      refine (refright_calls B d bits w HR.out HB.out HRT.out).mono ?_
      rintro e w' ⟨rfl, rfl⟩
      go_wp2
      go_loop [6, 7, 8] (fun s6 s7 i => ∃ k a W : Nat, k ≤ bits.length ∧ a ≤ 64 ∧ i = .int .i64 k ∧ s7 = .int .i64 a ∧ s6 = .int .u64 W ∧ Aside0 (PI v bits k a W)) (fun _ _ i => bits.length - (intOf i).toNat)
      case atStart => exact ⟨0, 0, 0, by omega, by omega, rfl, rfl, rfl, ⟨PI_zero v bits⟩⟩
      case round =>
        obtain ⟨k, a, W, hk, ha, rfl, rfl, rfl, HI⟩ := hrel
        by_cases hlt : k < bits.length
        · obtain ⟨bd, n, rfl, hcell, hn⟩ := at_nat HR.out k hlt
          obtain ⟨ad, y, rfl, hcell2, hy⟩ := at_nat HV.out k (by have := HL.out; omega)
          have hyb := at_bounds BV.out k (by have := HL.out; omega) hy.out
          have hnb := RI_at hr64.out.2 HI.out.1 hlt hn.out
          obtain ⟨m, rfl⟩ : ∃ m : Nat, n = m := ⟨n.toNat, by omega⟩
          obtain ⟨z, rfl⟩ : ∃ z : Nat, y = z := ⟨y.toNat, by omega⟩
          have hm1 : 1 ≤ m := by omega
          have hm2 : a + m ≤ 64 := by omega
          have hm3 : m ≤ 64 := by omega
          have HZ : Aside0 (z ≤ 18446744073709551615) := ⟨by have := hyb.2; omega⟩
          clear hnb hyb
          have hkv : k < v.length := by have := HL.out; omega
          go_wp2
          go_loop [6, 9] (fun s6 i => ∃ kk Y : Nat, kk ≤ 64 ∧ i = .int .i64 kk ∧ s6 = .int .u64 Y ∧ Aside0 (BI W z a m kk Y)) (fun _ i => 64 - (intOf i).toNat)
          case atStart => exact ⟨0, W, by omega, rfl, rfl, ⟨BI_zero W z a m⟩⟩
          case round =>
            obtain ⟨kk, Y, hkk, rfl, rfl, HBI⟩ := hrel
            by_cases h64 : kk < 64
            · rcases Nat.mod_two_eq_zero_or_one (z / 2 ^ kk) with hb | hb
              · have ht : (Go.bits .and .u64 ((z : Int) / 2 ^ kk) 1 == 0) = true := by rw [and_one z HZ.out kk, hb]; rfl
                have E := Aside0.mk (BI_no HBI.out hb)
                clear hb
                go_wp2
                go_round
                case rel => exact ⟨kk + 1, Y, by omega, by go_num, rfl, E⟩
                case measure => simp [intOf]; omega
              · have ht : (Go.bits .and .u64 ((z : Int) / 2 ^ kk) 1 == 0) = false := by rw [and_one z HZ.out kk, hb]; rfl
                by_cases hkm : kk < m
                · have E := Aside0.mk (BI_yes HBI.out hb hkm HI.out.2.1)
                  have HO := Aside0.mk (or_u64 Y 1 (a + kk) E.out.2 (by
                    have : (2 : Nat) ^ (a + kk) ≤ 2 ^ 63 := Nat.pow_le_pow_right (by decide) (by omega)
                    omega) (by omega))
                  clear hb
                  go_wp2
                  go_round
                  case rel => exact ⟨kk + 1, Y + 1 * 2 ^ (a + kk), by omega, by go_num, by rw [← HO.out]; simp, ⟨E.out.1⟩⟩
                  case measure => simp [intOf]; omega
                · have E := Aside0.mk (PI_over HI.out hlt HL.out hy.out hn.out (by simpa using BI_over hb (by omega)))
                  clear hb
                  go_wp2
                  go_ret2
                  have e := HH.out
                  rw [E.out, if_neg (by simp)] at e
                  injection e with e1 e2
                  subst e1 e2
                  exact ⟨rfl, rfl⟩
            · obtain rfl : kk = 64 := by omega
              have hE := BI_end HBI.out HZ.out
              have HI2 := Aside0.mk (PI_step HI.out hr64.out.2 hlt HL.out hy.out hn.out (by simpa using hE.2))
              have HY := Aside0.mk hE.1
              clear hE
              go_wp2
              go_round
              case rel => exact ⟨k + 1, a + m, Y, by omega, by omega, by go_num, by go_num, rfl, by rw [HY.out]; simpa using HI2⟩
              case measure => simp [intOf]; omega
        · have E := Aside0.mk (PI_end HI.out (by omega))
          have hkv : v.length ≤ k := by have := HL.out; omega
          go_wp2
          go_ret2
          have e := HH.out
          rw [E.out.1, if_pos rfl, E.out.2.1] at e
          injection e with e1 e2
          subst e1 e2
          exact ⟨rfl, rfl⟩
end Go.Proofs.Ytbpghlfmkbjjcaa.Num
