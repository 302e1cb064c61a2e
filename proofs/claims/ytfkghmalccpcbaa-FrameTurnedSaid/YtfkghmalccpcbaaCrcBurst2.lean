/- Turned bits, one by one. -/
import Derived.Test.YtfkghmalccpcbaaCrcMath2
import Derived.Test.YtfkghmalccpcbaaBase
import Derived.Test.YtfkghmalccpcbaaCrcMath3
namespace Go.Proofs.Ytfkghmalccpcbaa.CrcBurst
open Go Go.RowKit Go.Proofs.YtfkghmalccpcbaaW.PrintWords Go.Proofs.Ytfkghmalccpcbaa.Base Go.Proofs.Ytfkghmalccpcbaa.CrcMath
set_option linter.unusedVariables false
set_option linter.unusedSimpArgs false
theorem shift_bit (M : W32) (k : Nat) : (bits .and .u32 ((M.toNat : Int) / 2 ^ k) 1 == 1) = M.getLsbD k := by
  have e : (M.toNat : Int) / 2 ^ k = ((M >>> k).toNat : Int) := by
    rw [BitVec.toNat_ushiftRight, Nat.shiftRight_eq_div_pow, Int.natCast_ediv, Int.natCast_pow]
    rfl
  rw [e, low_eq, BitVec.getLsbD_ushiftRight, Nat.add_zero]
theorem pow_word : ∀ p, p < 8 → BitVec.ofInt 32 (2 ^ p % 256) = BitVec.twoPow 32 p := by decide
theorem pow_byte : ∀ p, p < 8 → (0 ≤ (2 : Int) ^ p % 256 ∧ (2 : Int) ^ p % 256 ≤ 255) := by decide
theorem burst_more (F k : Nat) (M : W32) (p : Nat) : burst F (k + 1) M p = if p = F + k then M.getLsbD k else burst F k M p := by
  unfold burst
  by_cases h : p = F + k
  · subst h
    rw [if_pos rfl, decide_eq_true (by omega), decide_eq_true (by omega), Nat.add_sub_cancel_left]
    rfl
  · rw [if_neg h]
    by_cases h1 : F ≤ p
    · by_cases h2 : p < F + k
      · rw [decide_eq_true h2, decide_eq_true (by omega : p < F + (k + 1))]
      · rw [decide_eq_false h2, decide_eq_false (by omega : ¬ p < F + (k + 1))]
    · rw [decide_eq_false h1]
      rfl
theorem burst_here (F k : Nat) (M : W32) : burst F k M (F + k) = false := by
  unfold burst
  rw [decide_eq_false (by omega : ¬ F + k < F + k), Bool.and_false]
  rfl
/-- A bit that is turned. -/
theorem turned {F k : Nat} {M : W32} {xs ys : List Int} {n : Nat} (hb : M.getLsbD k = true) (hl : xs.length = n) (hq : (F + k) / 8 < n) (x : Int) (hx : xs.getD ((F + k) / 8) 0 = x)
    (HB : ∀ i, i < n → (0 ≤ xs.getD i 0 ∧ xs.getD i 0 ≤ 255) ∧ ∀ t, t < 32 → (BitVec.ofInt 32 (xs.getD i 0)).getLsbD t = ((BitVec.ofInt 32 (ys.getD i 0)).getLsbD t ^^ (decide (t < 8) && burst F k M (8 * i + t)))) :
    ∀ i, i < n → (0 ≤ (xs.set ((F + k) / 8) (bits .xor .u8 x (2 ^ ((F + k) % 8) % 256))).getD i 0 ∧ (xs.set ((F + k) / 8) (bits .xor .u8 x (2 ^ ((F + k) % 8) % 256))).getD i 0 ≤ 255) ∧
      ∀ t, t < 32 → (BitVec.ofInt 32 ((xs.set ((F + k) / 8) (bits .xor .u8 x (2 ^ ((F + k) % 8) % 256))).getD i 0)).getLsbD t = ((BitVec.ofInt 32 (ys.getD i 0)).getLsbD t ^^ (decide (t < 8) && burst F (k + 1) M (8 * i + t))) := by
  intro i hi
  have hm : (F + k) % 8 < 8 := Nat.mod_lt _ (by decide)
  have hxr := (HB _ hq).1
  rw [hx] at hxr
  have q := xor_u8 x _ hxr (pow_byte _ hm)
  by_cases e : i = (F + k) / 8
  · have e1 : (xs.set ((F + k) / 8) (bits .xor .u8 x (2 ^ ((F + k) % 8) % 256))).getD i 0 = bits .xor .u8 x (2 ^ ((F + k) % 8) % 256) := by
      rw [e]
      simp [show (F + k) / 8 < xs.length by omega]
    rw [e1]
    refine ⟨q.1, fun t ht => ?_⟩
    have h1 := (HB i hi).2 t ht
    rw [e, hx] at h1
    rw [q.2, BitVec.getLsbD_xor, h1, pow_word _ hm, BitVec.getLsbD_twoPow, burst_more, e]
    by_cases h2 : t = (F + k) % 8
    · have h3 : 8 * ((F + k) / 8) + t = F + k := by omega
      rw [if_pos h3, h3, burst_here, hb, decide_eq_true (by omega : t < 8), decide_eq_true (by omega : (F + k) % 8 = t), decide_eq_true (by omega : (F + k) % 8 < 32)]
      cases (BitVec.ofInt 32 (ys.getD ((F + k) / 8) 0)).getLsbD t <;> rfl
    · by_cases h4 : t < 8
      · have h3 : ¬ 8 * ((F + k) / 8) + t = F + k := by omega
        rw [if_neg h3, decide_eq_false (by omega : ¬ (F + k) % 8 = t), Bool.and_false, Bool.xor_false]
      · rw [decide_eq_false h4, decide_eq_false (by omega : ¬ (F + k) % 8 = t), Bool.and_false, Bool.false_and, Bool.false_and, Bool.xor_false]
  · have e1 : (xs.set ((F + k) / 8) (bits .xor .u8 x (2 ^ ((F + k) % 8) % 256))).getD i 0 = xs.getD i 0 := by
      have e' : ¬ (F + k) / 8 = i := fun h => e h.symm
      simp [e']
    rw [e1]
    refine ⟨(HB i hi).1, fun t ht => ?_⟩
    rw [(HB i hi).2 t ht, burst_more]
    by_cases h4 : t < 8
    · rw [if_neg (by omega)]
    · rw [decide_eq_false h4]
      rfl
theorem unturned {F k : Nat} {M : W32} {xs ys : List Int} {n : Nat} (hb : M.getLsbD k = false)
    (HB : ∀ i, i < n → (0 ≤ xs.getD i 0 ∧ xs.getD i 0 ≤ 255) ∧ ∀ t, t < 32 → (BitVec.ofInt 32 (xs.getD i 0)).getLsbD t = ((BitVec.ofInt 32 (ys.getD i 0)).getLsbD t ^^ (decide (t < 8) && burst F k M (8 * i + t)))) :
    ∀ i, i < n → (0 ≤ xs.getD i 0 ∧ xs.getD i 0 ≤ 255) ∧ ∀ t, t < 32 → (BitVec.ofInt 32 (xs.getD i 0)).getLsbD t = ((BitVec.ofInt 32 (ys.getD i 0)).getLsbD t ^^ (decide (t < 8) && burst F (k + 1) M (8 * i + t))) := by
  intro i hi
  refine ⟨(HB i hi).1, fun t ht => ?_⟩
  rw [(HB i hi).2 t ht, burst_more]
  by_cases h : 8 * i + t = F + k
  · rw [if_pos h, h, burst_here, hb]
  · rw [if_neg h]
theorem any_more (M : W32) (k : Nat) : ((List.range (k + 1)).any fun j => M.getLsbD j) = (((List.range k).any fun j => M.getLsbD j) || M.getLsbD k) := by
  rw [List.range_succ, List.any_append]
  simp
theorem any_iff (M : W32) (k : Nat) : ((List.range k).any fun j => M.getLsbD j) = false ↔ ∀ j, j < k → M.getLsbD j = false := by
  simp

end Go.Proofs.Ytfkghmalccpcbaa.CrcBurst
