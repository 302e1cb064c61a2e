/- Plain laws of bits: what 'and', 'or', 'and not' and shifts of words are, as bit vectors. -/
import Derived.Laws.BitsLemmas
import Derived.RowKit
namespace Go.Proofs.Ytbpghlfmkbjjcaa.NumBits
open Go Go.RowKit

theorem wrap64_nat (r : BitVec 64) : wrap64 (r.toNat : Int) = r.toInt := by
  rw [BitVec.toInt_eq_toNat_cond]
  have := r.isLt
  unfold wrap64
  split <;> omega

theorem ofInt_toInt (v : Int) (h : -9223372036854775808 ≤ v ∧ v ≤ 9223372036854775807) : (BitVec.ofInt 64 v).toInt = v := by
  rw [BitVec.toInt_ofInt]
  exact Int.bmod_eq_of_le (by omega) (by omega)

theorem toNat_ofInt (v : Int) : ((BitVec.ofInt 64 v).toNat : Int) = v % 18446744073709551616 := by
  rw [BitVec.toNat_ofInt]
  rw [Int.toNat_of_nonneg (Int.emod_nonneg _ (by decide))]
  rfl

theorem or_i64 (x y : Int) : bits .or .i64 x y = (BitVec.ofInt 64 x ||| BitVec.ofInt 64 y).toInt := by
  rw [← wrap64_nat]
  show IntKind.i64.wrap _ = _
  rw [IntKind.wrap_i64]
  rfl
theorem and_i64 (x y : Int) : bits .and .i64 x y = (BitVec.ofInt 64 x &&& BitVec.ofInt 64 y).toInt := by
  rw [← wrap64_nat]
  show IntKind.i64.wrap _ = _
  rw [IntKind.wrap_i64]
  rfl
theorem andNot_i64 (x y : Int) : bits .andNot .i64 x y = (BitVec.ofInt 64 x &&& ~~~ BitVec.ofInt 64 y).toInt := by
  rw [← wrap64_nat]
  show IntKind.i64.wrap _ = _
  rw [IntKind.wrap_i64]
  rfl

/-- A word in so many bits, with its sign. -/
def nar (V : BitVec 64) (n : Nat) : BitVec 64 := (V <<< (64 - n)).sshiftRight (64 - n)

theorem nar_bit (V : BitVec 64) (n i : Nat) (h1 : 1 ≤ n) (h2 : n ≤ 64) (hi : i < 64) : (nar V n).getLsbD i = if i < n then V.getLsbD i else V.getLsbD (n - 1) := by
  unfold nar
  rw [BitVec.getLsbD_sshiftRight, BitVec.msb_eq_getLsbD_last]
  simp only [BitVec.getLsbD_shiftLeft]
  by_cases h : i < n
  · have e1 : 64 - n + i < 64 := by omega
    have e2 : ¬ (64 ≤ i) := by omega
    have e3 : ¬ (64 - n + i < 64 - n) := by omega
    have e4 : 64 - n + i - (64 - n) = i := by omega
    simp [h, e1, e2, e4]
  · have e1 : ¬ (64 - n + i < 64) := by omega
    have e2 : ¬ (64 ≤ i) := by omega
    have e3 : ¬ (63 < 64 - n) := by omega
    have e4 : 63 - (64 - n) = n - 1 := by omega
    simp [h, e1, e2, e3, e4]

theorem nar_nar_le (V : BitVec 64) (m n : Nat) (h1 : 1 ≤ m) (h2 : m ≤ n) (h3 : n ≤ 64) : nar (nar V n) m = nar V m := by
  apply BitVec.eq_of_getLsbD_eq
  intro i hi
  rw [nar_bit _ m i h1 (by omega) hi, nar_bit _ m i h1 (by omega) hi]
  split
  · rw [nar_bit _ n i (by omega) h3 hi, if_pos (by omega)]
  · rw [nar_bit _ n (m - 1) (by omega) h3 (by omega), if_pos (by omega)]

theorem nar_nar_ge (V : BitVec 64) (m n : Nat) (h1 : 1 ≤ m) (h2 : m ≤ n) (h3 : n ≤ 64) : nar (nar V m) n = nar V m := by
  apply BitVec.eq_of_getLsbD_eq
  intro i hi
  rw [nar_bit _ n i (by omega) (by omega) hi]
  split
  · rfl
  · rw [nar_bit _ m (n - 1) (by omega) (by omega) (by omega), nar_bit _ m i (by omega) (by omega) hi, if_neg (by omega : ¬ i < m)]
    split
    · congr 1; omega
    · rfl

/-- A word that is shifted left and back. -/
theorem shift_back (v : Int) (n : Nat) :
    wrap64 ((v % 18446744073709551616) * 2 ^ (64 - n) % 18446744073709551616) / 2 ^ (64 - n) = (nar (BitVec.ofInt 64 v) n).toInt := by
  have e : (v % 18446744073709551616) * 2 ^ (64 - n) % 18446744073709551616 = ((BitVec.ofInt 64 v <<< (64 - n)).toNat : Int) := by
    rw [BitVec.toNat_shiftLeft, Nat.shiftLeft_eq, ← toNat_ofInt v, Int.natCast_emod, Int.natCast_mul, Int.natCast_pow]
    rfl
  rw [e, wrap64_nat]
  unfold nar
  rw [BitVec.toInt_sshiftRight, Int.shiftRight_eq_div_pow]
  simp

theorem one_shl (j : Nat) (hj : j < 64) : BitVec.ofInt 64 (IntKind.i64.wrap (1 * 2 ^ j)) = BitVec.twoPow 64 j := by
  have e : ((1 : Int) * 2 ^ j) = ((2 ^ j : Nat) : Int) := by
    rw [Int.one_mul, Int.natCast_pow]
    rfl
  have hp : 2 ^ j < 18446744073709551616 := Nat.pow_lt_pow_right (a := 2) (by decide) hj
  apply BitVec.eq_of_toNat_eq
  rw [BitVec.toNat_twoPow, e, IntKind.wrap_i64]
  have h := toNat_ofInt (((2 ^ j : Nat) + 9223372036854775808 : Int) % 18446744073709551616 - 9223372036854775808)
  generalize 2 ^ j = P at *
  have h2 : P % 2 ^ 64 = P := Nat.mod_eq_of_lt hp
  rw [h2]
  omega

/-- How many of the lowest d bits are set. -/
def cnt : Nat → Nat → Nat
  | 0, _ => 0
  | d + 1, w => w % 2 + cnt d (w / 2)
theorem cnt_le (d : Nat) : ∀ w, cnt d w ≤ d := by
  induction d with
  | zero => intro w; simp [cnt]
  | succ d ih => intro w; simp only [cnt]; have := ih (w / 2); omega
theorem cnt_zero (d : Nat) : cnt d 0 = 0 := by
  induction d with
  | zero => rfl
  | succ d ih => simp [cnt, ih]
theorem cnt_split (d e : Nat) : ∀ w, cnt (d + e) w = cnt d (w % 2 ^ d) + cnt e (w / 2 ^ d) := by
  induction d with
  | zero => intro w; simp [cnt]
  | succ d ih =>
    intro w
    rw [show d + 1 + e = (d + e) + 1 by omega]
    simp only [cnt]
    rw [ih (w / 2), Nat.div_div_eq_div_mul, show 2 * 2 ^ d = 2 ^ (d + 1) by rw [Nat.pow_succ]; omega]
    have h1 : w % 2 ^ (d + 1) % 2 = w % 2 := by
      rw [Nat.mod_mod_of_dvd]; exact ⟨2 ^ d, by rw [Nat.pow_succ, Nat.mul_comm]⟩
    have h2 : w % 2 ^ (d + 1) / 2 = w / 2 % 2 ^ d := by
      rw [Nat.pow_succ, Nat.mul_comm, Nat.mod_mul_right_div_self]
    rw [h1, h2]
    omega
theorem cnt_more (d e w : Nat) (h : w < 2 ^ d) : cnt (d + e) w = cnt d w := by
  rw [cnt_split, Nat.mod_eq_of_lt h, Nat.div_eq_of_lt h, cnt_zero]; rfl

/-- The number of the highest bit that is set, by halves. -/
def lg : Nat → Nat → Int → Int
  | 0, _, x => x
  | d + 1, w, x => if w = 0 then x else lg d (w / 2) (x + 1)
theorem lg_zero (d : Nat) (x : Int) : lg d 0 x = x := by cases d <;> simp [lg]
theorem lg_lt (d : Nat) : ∀ (w : Nat) (x : Int) (n : Nat), w < 2 ^ n → n ≤ d → lg d w x ≤ x + n := by
  induction d with
  | zero => intro w x n h hn; obtain rfl : n = 0 := by omega
            simp [lg]
  | succ d ih =>
    intro w x n h hn
    simp only [lg]
    split
    · omega
    · cases n with
      | zero => simp at h; contradiction
      | succ n =>
        have := ih (w / 2) (x + 1) n (by rw [Nat.pow_succ] at h; omega) (by omega)
        omega
end Go.Proofs.Ytbpghlfmkbjjcaa.NumBits
