/- Plain laws of the sum: a burst of turned bits turns it. -/
import Derived.Test.YtfkghmalccpcbaaCrcMath2
namespace Go.Proofs.Ytfkghmalccpcbaa.CrcMath
open Go Go.RowKit
set_option linter.unusedSimpArgs false

theorem step_zero : step 0#32 = 0#32 := by decide
theorem steps_zero (n : Nat) : steps n 0#32 = 0#32 := by
  induction n with
  | zero => rfl
  | succ n ih => rw [steps_succ, ih, step_zero]
theorem poly_top : poly.getLsbD 31 = true := by decide
theorem step_top (s : W32) : (step s).getLsbD 31 = s.getLsbD 0 := by
  unfold step
  rw [BitVec.getLsbD_xor, BitVec.getLsbD_ushiftRight, BitVec.getLsbD_of_ge _ _ (by decide)]
  cases s.getLsbD 0
  · simp
  · simp [poly_top]
theorem step_inj {s t : W32} (h : step s = step t) : s = t := by
  have h0 : s.getLsbD 0 = t.getLsbD 0 := by rw [← step_top, ← step_top, h]
  have h1 : s >>> 1 = t >>> 1 := by
    unfold step at h
    rw [h0] at h
    have h2 := congrArg (· ^^^ (if t.getLsbD 0 then poly else 0#32)) h
    simp only [BitVec.xor_assoc, BitVec.xor_self, BitVec.xor_zero] at h2
    exact h2
  apply BitVec.eq_of_getLsbD_eq
  intro i hi
  cases i with
  | zero => exact h0
  | succ i =>
    have := congrArg (fun b => BitVec.getLsbD b i) h1
    simpa [BitVec.getLsbD_ushiftRight, Nat.add_comm] using this
theorem steps_inj (n : Nat) : ∀ {s t : W32}, steps n s = steps n t → s = t := by
  induction n with
  | zero => intro s t h; exact h
  | succ n ih =>
    intro s t h
    rw [steps_succ, steps_succ] at h
    exact ih (step_inj h)

def bit (b : Bool) : W32 := if b then 1#32 else 0#32
theorem bit_at (b : Bool) (i : Nat) : (bit b).getLsbD i = (decide (i = 0) && b) := by
  have h : (1#32) = BitVec.twoPow 32 0 := by decide
  cases b
  · simp [bit]
  · simp only [bit, if_true, h, BitVec.getLsbD_twoPow]
    by_cases e : i = 0
    · simp [e]
    · have e' : ¬ 0 = i := fun q => e q.symm
      simp [e, e']
/-- A word, its lowest bit and the rest. -/
theorem parted (d : W32) : d = bit (d.getLsbD 0) ^^^ (d >>> 1) <<< 1 := by
  apply BitVec.eq_of_getLsbD_eq
  intro i hi
  rw [BitVec.getLsbD_xor, bit_at, BitVec.getLsbD_shiftLeft, BitVec.getLsbD_ushiftRight]
  cases i with
  | zero => simp
  | succ i => simp [hi, Nat.add_comm]
theorem step_even (y : W32) (h : y.getLsbD 31 = false) : step (y <<< 1) = y := by
  unfold step
  rw [BitVec.getLsbD_shiftLeft]
  simp only [Nat.lt_irrefl, show ¬ (0 : Nat) ≥ 1 by omega, decide_false, decide_true, Bool.true_and, Bool.and_false, Bool.false_and, show (0 : Nat) < 1 by omega, Bool.not_true, Bool.false_eq_true, if_false, BitVec.xor_zero]
  apply BitVec.eq_of_getLsbD_eq
  intro i hi
  rw [BitVec.getLsbD_ushiftRight, BitVec.getLsbD_shiftLeft]
  by_cases e : i = 31
  · subst e
    rw [h]
    simp
  · have : 1 + i < 32 := by omega
    simp [this]

/-- Bits, one behind the other. -/
def bitrun (δ : Nat → Bool) : Nat → W32
  | 0 => 0#32
  | p + 1 => step (bitrun δ p ^^^ bit (δ p))
theorem bitrun_word (δ : Nat → Bool) (p : Nat) (d : W32) (J : Nat) (h : ∀ j, j < J → δ (p + j) = d.getLsbD j) : ∀ j, j ≤ J → bitrun δ (p + j) ^^^ (d >>> j) = steps j (bitrun δ p ^^^ d) := by
  intro j
  induction j with
  | zero => intro _; rfl
  | succ j ih =>
    intro hj
    have e := parted (d >>> j)
    rw [BitVec.getLsbD_ushiftRight, Nat.add_zero, ← BitVec.shiftRight_add] at e
    have top : (d >>> (j + 1)).getLsbD 31 = false := by
      rw [BitVec.getLsbD_ushiftRight]
      exact BitVec.getLsbD_of_ge _ _ (by omega)
    rw [steps_succ, ← ih (by omega), e, ← BitVec.xor_assoc, step_xor, step_even _ top, ← h j (by omega)]
    rfl
theorem bitrun_none (δ : Nat → Bool) (p : Nat) (h : ∀ q, q < p → δ q = false) : bitrun δ p = 0#32 := by
  induction p with
  | zero => rfl
  | succ p ih =>
    show step (bitrun δ p ^^^ bit (δ p)) = _
    rw [ih (fun q hq => h q (by omega)), h p (by omega)]
    decide
theorem bitrun_rest (δ : Nat → Bool) (p : Nat) (h : ∀ q, p ≤ q → δ q = false) : ∀ r, bitrun δ (p + r) = steps r (bitrun δ p) := by
  intro r
  induction r with
  | zero => rfl
  | succ r ih =>
    show step (bitrun δ (p + r) ^^^ bit (δ (p + r))) = _
    rw [h (p + r) (by omega), ih, steps_succ]
    show step (_ ^^^ 0#32) = _
    rw [BitVec.xor_zero]

theorem steps_low (K : Nat) : ∀ M : W32, (∀ j, j < K → M.getLsbD j = false) → steps K M = M >>> K := by
  induction K with
  | zero => intro M _; simp [steps]
  | succ K ih =>
    intro M h
    have e : step M = M >>> 1 := by
      unfold step
      rw [h 0 (by omega)]
      simp
    show steps K (step M) = _
    rw [e, ih, ← BitVec.shiftRight_add, Nat.add_comm]
    intro j hj
    rw [BitVec.getLsbD_ushiftRight]
    exact h (1 + j) (by omega)
theorem low_of_steps (K : Nat) (M : W32) (h : steps K M = M >>> K) : ∀ j, j < K → M.getLsbD j = false := by
  have h1 : ∀ j, j < K → ((M >>> K) <<< K).getLsbD j = false := by
    intro j hj
    rw [BitVec.getLsbD_shiftLeft]
    simp [hj]
  have h2 : ((M >>> K) <<< K) >>> K = M >>> K := by
    apply BitVec.eq_of_getLsbD_eq
    intro i hi
    rw [BitVec.getLsbD_ushiftRight, BitVec.getLsbD_shiftLeft, BitVec.getLsbD_ushiftRight, BitVec.getLsbD_ushiftRight]
    by_cases e : K + i < 32
    · simp [e]
    · simp [e, BitVec.getLsbD_of_ge M (K + i) (by omega)]
  have h3 : steps K M = steps K ((M >>> K) <<< K) := by rw [steps_low K _ h1, h2, h]
  have h4 := steps_inj K h3
  intro j hj
  rw [h4]
  exact h1 j hj

/-- What two texts differ by, run through. -/
theorem run_diff (xs ys : List Int) (hl : xs.length = ys.length) (δ : Nat → Bool)
    (h : ∀ i, i < ys.length → ∀ t, t < 32 → (BitVec.ofInt 32 (xs.getD i 0)).getLsbD t = ((BitVec.ofInt 32 (ys.getD i 0)).getLsbD t ^^ (decide (t < 8) && δ (8 * i + t)))) (s : W32) :
    ∀ k, k ≤ ys.length → run s (xs.take k) = run s (ys.take k) ^^^ bitrun δ (8 * k) := by
  intro k
  induction k with
  | zero => intro _; simp [bitrun]
  | succ k ih =>
    intro hk
    rw [run_take _ _ _ (by omega), run_take _ _ _ (by omega), ih (by omega)]
    generalize run s (ys.take k) = r
    have hd : ∀ t, (BitVec.ofInt 32 (xs.getD k 0) ^^^ BitVec.ofInt 32 (ys.getD k 0)).getLsbD t = (decide (t < 8) && δ (8 * k + t)) := by
      intro t
      rw [BitVec.getLsbD_xor]
      by_cases ht : t < 32
      · rw [h k (by omega) t ht]
        cases (BitVec.ofInt 32 (ys.getD k 0)).getLsbD t <;> simp
      · rw [BitVec.getLsbD_of_ge _ _ (by omega), BitVec.getLsbD_of_ge _ _ (by omega), decide_eq_false (by omega)]
        rfl
    have hw := bitrun_word δ (8 * k) (BitVec.ofInt 32 (xs.getD k 0) ^^^ BitVec.ofInt 32 (ys.getD k 0)) 8 (fun j hj => by rw [hd, decide_eq_true hj, Bool.true_and]) 8 (Nat.le_refl _)
    have hz : (BitVec.ofInt 32 (xs.getD k 0) ^^^ BitVec.ofInt 32 (ys.getD k 0)) >>> 8 = 0#32 := by
      apply BitVec.eq_of_getLsbD_eq
      intro i hi
      rw [BitVec.getLsbD_ushiftRight, hd, decide_eq_false (by omega)]
      simp
    rw [hz, BitVec.xor_zero] at hw
    rw [show 8 * (k + 1) = 8 * k + 8 by omega, hw]
    unfold byte
    rw [← steps_xor]
    congr 1
    generalize bitrun δ (8 * k) = q
    generalize BitVec.ofInt 32 (xs.getD k 0) = x
    generalize BitVec.ofInt 32 (ys.getD k 0) = y
    apply BitVec.eq_of_getLsbD_eq
    intro i hi
    simp only [BitVec.getLsbD_xor]
    cases r.getLsbD i <;> cases q.getLsbD i <;> cases x.getLsbD i <;> cases y.getLsbD i <;> rfl

/-- The bits of a burst: those of M from place F on, K of them. -/
def burst (F K : Nat) (M : W32) (p : Nat) : Bool := decide (F ≤ p) && decide (p < F + K) && M.getLsbD (p - F)
theorem sum_burst (xs ys : List Int) (hl : xs.length = ys.length) (F K : Nat) (M : W32) (hF : F + K ≤ 8 * ys.length)
    (h : ∀ i, i < ys.length → ∀ t, t < 32 → (BitVec.ofInt 32 (xs.getD i 0)).getLsbD t = ((BitVec.ofInt 32 (ys.getD i 0)).getLsbD t ^^ (decide (t < 8) && burst F K M (8 * i + t)))) :
    (sum xs = sum ys ↔ ∀ j, j < K → M.getLsbD j = false) := by
  have h1 := run_diff xs ys hl (burst F K M) h (~~~ 0#32) ys.length (Nat.le_refl _)
  rw [List.take_length, ← hl, List.take_length, hl] at h1
  have hF0 : bitrun (burst F K M) F = 0#32 := bitrun_none _ F (fun q hq => by unfold burst; rw [decide_eq_false (by omega)]; rfl)
  have hK := bitrun_word (burst F K M) F M K (fun j hj => by
    unfold burst
    rw [decide_eq_true (by omega), decide_eq_true (by omega), Nat.add_sub_cancel_left]
    rfl) K (Nat.le_refl _)
  rw [hF0, BitVec.zero_xor] at hK
  have hR := bitrun_rest (burst F K M) (F + K) (fun q hq => by
    unfold burst
    rw [decide_eq_false (by omega : ¬ q < F + K), Bool.and_false]
    rfl) (8 * ys.length - (F + K))
  rw [show F + K + (8 * ys.length - (F + K)) = 8 * ys.length by omega] at hR
  have e1 : sum xs = sum ys ↔ bitrun (burst F K M) (8 * ys.length) = 0#32 := by
    unfold sum add
    rw [h1]
    generalize run (~~~ 0#32) ys = r
    constructor
    · intro e
      have e2 : r ^^^ bitrun (burst F K M) (8 * ys.length) = r := by
        have := congrArg (fun z : W32 => ~~~ z) e
        simpa using this
      have := congrArg (r ^^^ ·) e2
      simpa [← BitVec.xor_assoc] using this
    · intro e
      rw [e, BitVec.xor_zero]
  rw [e1, hR]
  constructor
  · intro e
    have e2 : bitrun (burst F K M) (F + K) = 0#32 := steps_inj _ (e.trans (steps_zero _).symm)
    rw [e2, BitVec.zero_xor] at hK
    exact low_of_steps K M hK.symm
  · intro e
    rw [steps_low K M e] at hK
    have e2 : bitrun (burst F K M) (F + K) = 0#32 := by
      have := congrArg (· ^^^ (M >>> K)) hK
      simpa [BitVec.xor_assoc] using this
    rw [e2, steps_zero]
end Go.Proofs.Ytfkghmalccpcbaa.CrcMath
