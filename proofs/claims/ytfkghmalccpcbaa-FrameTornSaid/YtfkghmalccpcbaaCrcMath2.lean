/- More plain laws of the sum: it is linear; a burst of turned bits turns it. -/
import Derived.Test.YtfkghmalccpcbaaCrcMath
namespace Go.Proofs.Ytfkghmalccpcbaa.CrcMath
open Go Go.RowKit

theorem step_xor (s t : W32) : step (s ^^^ t) = step s ^^^ step t := by
  unfold step
  rw [BitVec.ushiftRight_xor_distrib, BitVec.getLsbD_xor]
  cases s.getLsbD 0 <;> cases t.getLsbD 0
  · simp
  · simp [BitVec.xor_assoc]
  · simp only [Bool.true_xor, Bool.not_false, if_true, Bool.false_eq_true, if_false, BitVec.xor_zero]
    rw [BitVec.xor_assoc, BitVec.xor_assoc, BitVec.xor_comm poly]
  · simp only [Bool.true_xor, Bool.not_true, Bool.false_eq_true, if_false, if_true, BitVec.xor_zero]
    rw [BitVec.xor_assoc, ← BitVec.xor_assoc poly, BitVec.xor_comm poly, BitVec.xor_assoc (t >>> 1), BitVec.xor_self, BitVec.xor_zero]
theorem steps_xor (n : Nat) : ∀ s t : W32, steps n (s ^^^ t) = steps n s ^^^ steps n t := by
  induction n with
  | zero => intro s t; rfl
  | succ n ih => intro s t; rw [steps_succ, steps_succ, steps_succ, ih, step_xor]

/-- Three texts, and what they are together. -/
theorem run_three {xs us bs cs : List Int} (n : Nat) (s1 s2 s3 : W32) (h1 : n ≤ xs.length) (h2 : n ≤ us.length) (h3 : n ≤ bs.length) (h4 : n ≤ cs.length)
    (h : ∀ i, i < n → BitVec.ofInt 32 (xs.getD i 0) = BitVec.ofInt 32 (us.getD i 0) ^^^ BitVec.ofInt 32 (bs.getD i 0) ^^^ BitVec.ofInt 32 (cs.getD i 0)) :
    ∀ k, k ≤ n → run (s1 ^^^ s2 ^^^ s3) (xs.take k) = run s1 (us.take k) ^^^ run s2 (bs.take k) ^^^ run s3 (cs.take k) := by
  intro k
  induction k with
  | zero => intro _; rfl
  | succ k ih =>
    intro hk
    rw [run_take _ _ _ (by omega), run_take _ _ _ (by omega), run_take _ _ _ (by omega), run_take _ _ _ (by omega), ih (by omega)]
    unfold byte
    rw [h k (by omega), ← steps_xor, ← steps_xor]
    congr 1
    generalize run s1 (us.take k) = a
    generalize run s2 (bs.take k) = b
    generalize run s3 (cs.take k) = c
    generalize BitVec.ofInt 32 (us.getD k 0) = x
    generalize BitVec.ofInt 32 (bs.getD k 0) = y
    generalize BitVec.ofInt 32 (cs.getD k 0) = z
    apply BitVec.eq_of_getLsbD_eq
    intro i hi
    simp only [BitVec.getLsbD_xor]
    cases a.getLsbD i <;> cases b.getLsbD i <;> cases c.getLsbD i <;> cases x.getLsbD i <;> cases y.getLsbD i <;> cases z.getLsbD i <;> rfl
theorem sum_three {xs us bs cs : List Int} (n : Nat) (h1 : n = xs.length) (h2 : n ≤ us.length) (h3 : n ≤ bs.length) (h4 : n ≤ cs.length)
    (h : ∀ i, i < n → BitVec.ofInt 32 (xs.getD i 0) = BitVec.ofInt 32 (us.getD i 0) ^^^ BitVec.ofInt 32 (bs.getD i 0) ^^^ BitVec.ofInt 32 (cs.getD i 0)) :
    sum xs = sum (us.take n) ^^^ sum (bs.take n) ^^^ sum (cs.take n) := by
  have h5 := run_three n (~~~ 0#32) (~~~ 0#32) (~~~ 0#32) (by omega) h2 h3 h4 h n (Nat.le_refl _)
  have e : (~~~ 0#32 ^^^ ~~~ 0#32 ^^^ ~~~ 0#32 : W32) = ~~~ 0#32 := by decide
  rw [e, h1, List.take_length] at h5
  unfold sum add
  rw [h5, h1]
  generalize run (~~~ 0#32) (us.take xs.length) = a
  generalize run (~~~ 0#32) (bs.take xs.length) = b
  generalize run (~~~ 0#32) (cs.take xs.length) = c
  apply BitVec.eq_of_getLsbD_eq
  intro i hi
  simp only [BitVec.getLsbD_xor, BitVec.getLsbD_not, hi, decide_true, Bool.true_and]
  cases a.getLsbD i <;> cases b.getLsbD i <;> cases c.getLsbD i <;> rfl

/-- How 'xor' of bytes is said. -/
theorem xor_u8 (x y : Int) (hx : 0 ≤ x ∧ x ≤ 255) (hy : 0 ≤ y ∧ y ≤ 255) : (0 ≤ bits .xor .u8 x y ∧ bits .xor .u8 x y ≤ 255) ∧ BitVec.ofInt 32 (bits .xor .u8 x y) = BitVec.ofInt 32 x ^^^ BitVec.ofInt 32 y := by
  obtain ⟨a, rfl⟩ := Int.eq_ofNat_of_zero_le hx.1
  obtain ⟨b, rfl⟩ := Int.eq_ofNat_of_zero_le hy.1
  have hab : a ^^^ b < 256 := Nat.xor_lt_two_pow (n := 8) (by omega) (by omega)
  have e : bits .xor .u8 (a : Int) (b : Int) = ((a ^^^ b : Nat) : Int) := by
    show IntKind.u8.wrap _ = _
    rw [show IntKind.u8.bits = 8 from rfl, BitVec.ofInt_natCast, BitVec.ofInt_natCast, BitVec.toNat_xor, BitVec.toNat_ofNat, BitVec.toNat_ofNat, Nat.mod_eq_of_lt (by omega), Nat.mod_eq_of_lt (by omega), IntKind.wrap_u8]
    omega
  rw [e]
  refine ⟨by omega, ?_⟩
  rw [BitVec.ofInt_natCast, BitVec.ofInt_natCast, BitVec.ofInt_natCast]
  apply BitVec.eq_of_toNat_eq
  rw [BitVec.toNat_xor, BitVec.toNat_ofNat, BitVec.toNat_ofNat, BitVec.toNat_ofNat, Nat.mod_eq_of_lt (by omega), Nat.mod_eq_of_lt (a := a) (by omega), Nat.mod_eq_of_lt (a := b) (by omega)]
end Go.Proofs.Ytfkghmalccpcbaa.CrcMath
