/- The contracts of crc and of its reference: both come to one sum. -/
import Derived.Test.YtfkghmalccpcbaaBase
import Derived.Test.YtfkghmalccpcbaaCrcMath
namespace Go.Proofs.Ytfkghmalccpcbaa.Crc
open Go Go.RowKit Go.Proofs.YtfkghmalccpcbaaW.PrintWords Go.Proofs.Ytfkghmalccpcbaa.Base Go.Proofs.Ytfkghmalccpcbaa.CrcMath
set_option linter.unusedVariables false
set_option maxRecDepth 100000 in
set_option maxHeartbeats 1000000 in
theorem add_calls (s : W32) (A : Option Addr) (c : Nat) (xs : List Int) (w : World) (hr : (Kd.int .u8).C w A xs.length xs) :
    Calls Try.prog 30 #[.int .u32 s.toNat, .slice A xs.length c] w fun e w' => e = .returned (.int .u32 (add s xs).toNat) ∧ w = w' := by
  have hn := Kd.C_max hr
  have HR := Aside0.mk hr
  clear hr
  go_enter Try.func30, Try.ntmps30
  go_wp2
  rw [not_is]
  go_loop [0, 11] (fun s0 i => ∃ k : Nat, k ≤ xs.length ∧ i = .int .i64 k ∧ s0 = .int .u32 (run (~~~ s) (xs.take k)).toNat) (fun _ i => xs.length - (intOf i).toNat)
  case atStart => exact ⟨0, Nat.zero_le _, rfl, rfl⟩
  case round =>
    obtain ⟨k, hk, rfl, rfl⟩ := hrel
    by_cases hlt : k < xs.length
    · obtain ⟨ad, x, rfl, h1, hx⟩ := at_nat HR.out k hlt
      go_wp2
      rw [xor_byte]
      go_loop [0, 19] (fun s0 i => ∃ j : Nat, j ≤ 8 ∧ i = .int .i64 j ∧ s0 = .int .u32 (steps j (run (~~~ s) (xs.take k) ^^^ BitVec.ofInt 32 x)).toNat) (fun _ i => 8 - (intOf i).toNat)
      case atStart => exact ⟨0, Nat.zero_le _, rfl, rfl⟩
      case round =>
        obtain ⟨j, hj, rfl, rfl⟩ := hrel
        by_cases hj8 : j < 8
        · go_wp2
          go_round
          case rel => exact ⟨j + 1, by omega, by go_num, by rw [round, ← steps_succ]⟩
          case measure => simp [intOf]; omega
        · obtain rfl : j = 8 := by omega
          go_wp2
          go_round
          case rel => exact ⟨_, _, _, ⟨k + 1, by omega, by go_num, by rw [run_take _ _ _ hlt, hx.out]; rfl⟩, rfl, rfl, rfl⟩
          case measure => simp [intOf]; omega
    · obtain rfl : k = xs.length := by omega
      go_wp2
      go_ret
      exact ⟨congrArg (fun z => Ending.returned (.int .u32 z)) (not_is (run (~~~ s) xs)), rfl⟩

theorem sum_calls (A : Option Addr) (c : Nat) (xs : List Int) (w : World) (hr : (Kd.int .u8).C w A xs.length xs) :
    Calls Try.prog 31 #[.slice A xs.length c] w fun e w' => e = .returned (.int .u32 (sum xs).toNat) ∧ w = w' := by
  have HR := Aside0.mk hr
  clear hr
  go_enter Try.func31, Try.ntmps31
  go_wp2_with (go_at_call 30; refine (add_calls 0#32 A c xs w HR.out).mono ?_; rintro e w' ⟨rfl, rfl⟩)
  go_ret
  exact ⟨rfl, rfl⟩

/-! ### The reference: bit by bit -/
def bitAt (x : Int) (k : Nat) : W32 := BitVec.ofInt 32 x >>> k
def refBit (s : W32) (x : Int) (k : Nat) : W32 := (s >>> 1) ^^^ (if (s ^^^ (BitVec.ofInt 32 (x / 2 ^ k))).getLsbD 0 then poly else 0#32)
set_option maxRecDepth 100000 in
set_option maxHeartbeats 1000000 in
theorem ref_calls (s : W32) (A : Option Addr) (c : Nat) (xs : List Int) (w : World) (hr : (Kd.int .u8).C w A xs.length xs) (hx : ∀ x ∈ xs, 0 ≤ x ∧ x ≤ 255) :
    Calls Try.prog 25 #[.int .u32 s.toNat, .slice A xs.length c] w fun e w' => e = .returned (.int .u32 (add s xs).toNat) ∧ w = w' := by
  have hn := Kd.C_max hr
  have HR := Aside0.mk hr
  have HX := Aside0.mk hx
  clear hr hx
  go_enter Try.func25, Try.ntmps25
  go_wp2
  rw [not_is]
  go_loop [5, 6] (fun s0 i => ∃ k : Nat, k ≤ xs.length ∧ i = .int .i64 k ∧ s0 = .int .u32 (run (~~~ s) (xs.take k)).toNat) (fun _ i => xs.length - (intOf i).toNat)
  case atStart => exact ⟨0, Nat.zero_le _, rfl, rfl⟩
  case round =>
    obtain ⟨k, hk, rfl, rfl⟩ := hrel
    by_cases hlt : k < xs.length
    · obtain ⟨ad, x, rfl, h1, hx⟩ := at_nat HR.out k hlt
      have hb := Aside0.mk (at_bounds HX.out k hlt hx.out)
      go_wp2
      go_loop [5, 7] (fun s0 i => ∃ (j : Nat) (R : W32), j ≤ 8 ∧ i = .int .i64 j ∧ s0 = .int .u32 R.toNat ∧ Aside0 (R = steps j (run (~~~ s) (xs.take k) ^^^ BitVec.ofInt 32 x) ^^^ (BitVec.ofInt 32 x >>> j))) (fun _ i => 8 - (intOf i).toNat)
      case atStart => exact ⟨0, _, Nat.zero_le _, rfl, rfl, ⟨by simp [steps, BitVec.xor_assoc]⟩⟩
      case round =>
        obtain ⟨j, R, hj, rfl, rfl, hR⟩ := hrel
        by_cases hj8 : j < 8
        · go_wp2
          · have ht : (bits .and .u32 (bits .xor .u32 (R.toNat : Int) (x / 2 ^ j % 4294967296)) 1 == 1) = true := by assumption
            rw [ref_test _ R x hb.out.1 hb.out.2 j hR.out] at ht
            exact ⟨⟨j + 1, _, by omega, by go_num, congrArg _ (ref_yes _ R x j hR.out ht), ⟨by rw [steps_succ]⟩⟩, by simp [intOf]; omega⟩
          · have ht : (bits .and .u32 (bits .xor .u32 (R.toNat : Int) (x / 2 ^ j % 4294967296)) 1 == 1) = false := by assumption
            rw [ref_test _ R x hb.out.1 hb.out.2 j hR.out] at ht
            exact ⟨⟨j + 1, _, by omega, by go_num, congrArg _ (ref_no _ R x j hR.out ht), ⟨by rw [steps_succ]⟩⟩, by simp [intOf]; omega⟩
        · obtain rfl : j = 8 := by omega
          go_wp2
          go_round
          case rel => exact ⟨k + 1, by omega, by omega, by rw [run_take _ _ _ hlt, hx.out, byte_out _ x hb.out.1 hb.out.2 R hR.out]⟩
          case measure => simp [intOf]; omega
    · obtain rfl : k = xs.length := by omega
      go_wp2
      go_ret
      exact ⟨congrArg (fun z => Ending.returned (.int .u32 z)) (not_is (run (~~~ s) xs)), rfl⟩

theorem refsum_calls (A : Option Addr) (c : Nat) (xs : List Int) (w : World) (hr : (Kd.int .u8).C w A xs.length xs) (hx : ∀ x ∈ xs, 0 ≤ x ∧ x ≤ 255) :
    Calls Try.prog 26 #[.slice A xs.length c] w fun e w' => e = .returned (.int .u32 (sum xs).toNat) ∧ w = w' := by
  have HR := Aside0.mk hr
  have HX := Aside0.mk hx
  clear hr hx
  go_enter Try.func26, Try.ntmps26
  go_wp2_with (go_at_call 25; refine (ref_calls 0#32 A c xs w HR.out HX.out).mono ?_; rintro e w' ⟨rfl, rfl⟩)
  go_ret
  exact ⟨rfl, rfl⟩
end Go.Proofs.Ytfkghmalccpcbaa.Crc
