/- Numbers packed into words, said plainly: no program here. -/
import Derived.RowKit
import Derived.Laws.BitsLemmas
import Derived.Laws.BitsAllLaws
namespace Go.Proofs.Ytbpghlfmkbjjcaa.NumMath
open Go Go.RowKit
set_option linter.unusedVariables false
set_option linter.unusedSimpArgs false

/-- Widths that may be, of so many bits that are left. -/
def rightI : Int → List Int → Bool
  | _, [] => true
  | l, n :: r => decide (1 ≤ n ∧ n ≤ l) && rightI (l - n) r
def right (bits : List Int) : Bool := decide (bits.length ≤ 64) && rightI 64 bits
/-- Each number in its width; the word that they are. -/
def fit : List Int → List Int → Bool
  | v :: vs, n :: ns => decide (v.toNat < 2 ^ n.toNat) && fit vs ns
  | _, _ => true
def val : List Int → List Int → Nat
  | v :: vs, n :: ns => v.toNat + 2 ^ n.toNat * val vs ns
  | _, _ => 0
/-- The numbers that a word is, and what is left of it. -/
def unpackI : Nat → List Int → List Int × Nat
  | w, [] => ([], w)
  | w, n :: ns => (((w % 2 ^ n.toNat : Nat) : Int) :: (unpackI (w / 2 ^ n.toNat) ns).1, (unpackI (w / 2 ^ n.toNat) ns).2)
theorem rightI_sum : ∀ (l : Int) (bits : List Int), rightI l bits = true → 0 ≤ l → ∀ n ∈ bits, 1 ≤ n ∧ n ≤ l
  | l, [], _, _, n, h => by cases h
  | l, m :: r, h, h0, n, hn => by
    simp only [rightI, Bool.and_eq_true, decide_eq_true_eq] at h
    rcases List.mem_cons.1 hn with rfl | hn
    · exact h.1
    · have := rightI_sum (l - m) r h.2 (by omega) n hn
      omega
theorem right_split {bits : List Int} (h : right bits = true) : bits.length ≤ 64 ∧ rightI 64 bits = true := by
  simpa [right] using h
/-- Up to a place: what is left of the widths. -/
def RI (bits : List Int) (k : Nat) (l : Int) : Prop := rightI 64 bits = rightI l (bits.drop k) ∧ 0 ≤ l ∧ l ≤ 64
theorem drop_at {xs : List Int} {k : Nat} {x : Int} (hk : k < xs.length) (hx : xs.getD k 0 = x) : xs.drop k = x :: xs.drop (k + 1) := by
  rw [List.drop_eq_getElem_cons hk]
  congr 1
  rw [← hx]
  simp [hk]
theorem RI_zero (bits : List Int) : RI bits 0 64 := ⟨rfl, by decide, by decide⟩
theorem RI_step {bits : List Int} {k : Nat} {l n : Int} (h : RI bits k l) (hk : k < bits.length) (hn : bits.getD k 0 = n) (h1 : 1 ≤ n) (h2 : n ≤ l) : RI bits (k + 1) (l - n) := by
  obtain ⟨h, h3, h4⟩ := h
  rw [drop_at hk hn] at h
  refine ⟨?_, by omega, by omega⟩
  rw [h]
  simp [rightI, h1, h2]
theorem RI_stop {bits : List Int} {k : Nat} {l n : Int} (h : RI bits k l) (hk : k < bits.length) (hn : bits.getD k 0 = n) (h1 : n < 1 ∨ l < n) : rightI 64 bits = false := by
  obtain ⟨h, _⟩ := h
  rw [drop_at hk hn] at h
  rw [h]
  simp only [rightI]
  rw [decide_eq_false (by omega)]
  rfl
theorem RI_end {bits : List Int} {k : Nat} {l : Int} (h : RI bits k l) (hk : bits.length ≤ k) : rightI 64 bits = true := by
  obtain ⟨h, _⟩ := h
  rw [List.drop_eq_nil_of_le hk] at h
  rw [h]
  rfl
theorem RI_at {bits : List Int} {k : Nat} {l n : Int} (hr : rightI 64 bits = true) (h : RI bits k l) (hk : k < bits.length) (hn : bits.getD k 0 = n) : 1 ≤ n ∧ n ≤ l := by
  obtain ⟨h, _⟩ := h
  rw [drop_at hk hn, hr] at h
  simp only [rightI] at h
  have := h.symm
  simp only [Bool.and_eq_true, decide_eq_true_eq] at this
  exact this.1
/-- Packed up to a place. -/
def PI (v bits : List Int) (k a w : Nat) : Prop :=
  RI bits k (64 - (a : Int)) ∧ w < 2 ^ a ∧ fit v bits = fit (v.drop k) (bits.drop k) ∧ val v bits = w + 2 ^ a * val (v.drop k) (bits.drop k)
theorem PI_zero (v bits : List Int) : PI v bits 0 0 0 := ⟨RI_zero bits, by decide, rfl, by simp⟩
theorem PI_step {v bits : List Int} {k a w : Nat} {x n : Int} (h : PI v bits k a w) (hr : rightI 64 bits = true) (hk : k < bits.length) (hl : v.length = bits.length) (hx : v.getD k 0 = x) (hn : bits.getD k 0 = n) (hf : x.toNat < 2 ^ n.toNat) :
    PI v bits (k + 1) (a + n.toNat) (w + x.toNat * 2 ^ a) := by
  obtain ⟨h1, h2, h3, h4⟩ := h
  have hn2 := RI_at hr h1 hk hn
  have h5 := RI_step h1 hk hn hn2.1 hn2.2
  rw [drop_at (by omega) hx, drop_at hk hn] at h3 h4
  refine ⟨?_, ?_, ?_, ?_⟩
  · rwa [show (64 : Int) - ((a + n.toNat : Nat) : Int) = 64 - (a : Int) - n by omega]
  · rw [Nat.pow_add, Nat.mul_comm (2 ^ a)]
    have : x.toNat * 2 ^ a + 2 ^ a ≤ 2 ^ n.toNat * 2 ^ a := by
      rw [← Nat.succ_mul]
      exact Nat.mul_le_mul_right _ hf
    omega
  · rw [h3]
    simp [fit, hf]
  · rw [h4]
    simp only [val]
    rw [Nat.mul_add, Nat.pow_add, Nat.mul_comm x.toNat, Nat.mul_assoc]
    omega
theorem PI_over {v bits : List Int} {k a w : Nat} {x n : Int} (h : PI v bits k a w) (hk : k < bits.length) (hl : v.length = bits.length) (hx : v.getD k 0 = x) (hn : bits.getD k 0 = n) (hf : ¬ x.toNat < 2 ^ n.toNat) : fit v bits = false := by
  obtain ⟨h1, h2, h3, h4⟩ := h
  rw [drop_at (by omega) hx, drop_at hk hn] at h3
  rw [h3]
  simp [fit, hf]
theorem PI_end {v bits : List Int} {k a w : Nat} (h : PI v bits k a w) (hk : bits.length ≤ k) : fit v bits = true ∧ val v bits = w ∧ w < 18446744073709551616 := by
  obtain ⟨h1, h2, h3, h4⟩ := h
  rw [List.drop_eq_nil_of_le hk] at h3 h4
  have ha : a ≤ 64 := by have := h1.2; omega
  have hp : (2 : Nat) ^ a ≤ 2 ^ 64 := Nat.pow_le_pow_right (by decide) ha
  refine ⟨?_, ?_, by omega⟩
  · rw [h3]
    cases v.drop k <;> rfl
  · rw [h4]
    cases v.drop k <;> simp [val]
/-- Unpacked up to a place: so much is left, at a place of the word. -/
def UI (bits : List Int) (W : Nat) (k a r : Nat) (out : List Int) : Prop :=
  RI bits k (64 - (a : Int)) ∧ r = W / 2 ^ a ∧ out.length = k ∧ unpackI W bits = (out ++ (unpackI r (bits.drop k)).1, (unpackI r (bits.drop k)).2)
theorem UI_zero (bits : List Int) (W : Nat) : UI bits W 0 0 W [] := ⟨RI_zero bits, by simp, rfl, by simp⟩
theorem UI_step {bits out : List Int} {W k a r : Nat} {n : Int} (h : UI bits W k a r out) (hr : rightI 64 bits = true) (hk : k < bits.length) (hn : bits.getD k 0 = n) :
    UI bits W (k + 1) (a + n.toNat) (r / 2 ^ n.toNat) (out ++ [((r % 2 ^ n.toNat : Nat) : Int)]) := by
  obtain ⟨h1, h2, h3, h4⟩ := h
  have hn2 := RI_at hr h1 hk hn
  have h5 := RI_step h1 hk hn hn2.1 hn2.2
  rw [drop_at hk hn] at h4
  refine ⟨?_, ?_, by simp [h3], ?_⟩
  · rwa [show (64 : Int) - ((a + n.toNat : Nat) : Int) = 64 - (a : Int) - n by omega]
  · rw [h2, Nat.div_div_eq_div_mul, Nat.pow_add]
  · rw [h4]
    simp [unpackI]
theorem UI_end {bits out : List Int} {W k a r : Nat} (h : UI bits W k a r out) (hk : bits.length ≤ k) : unpackI W bits = (out, r) := by
  obtain ⟨h1, h2, h3, h4⟩ := h
  rw [h4, List.drop_eq_nil_of_le hk]
  simp [unpackI]

/-! ### There and back -/
theorem unpack_val : ∀ (v bits : List Int), (∀ x ∈ v, 0 ≤ x) → v.length = bits.length → fit v bits = true → unpackI (val v bits) bits = (v, 0)
  | [], [], _, _, _ => rfl
  | [], _ :: _, _, h, _ => by simp at h
  | _ :: _, [], _, h, _ => by simp at h
  | x :: v, n :: bits, hx, hl, hf => by
    simp only [fit, Bool.and_eq_true, decide_eq_true_eq] at hf
    have ih := unpack_val v bits (fun y hy => hx y (List.mem_cons_of_mem _ hy)) (by simpa using hl) hf.2
    have h0 := hx x List.mem_cons_self
    have e1 : (x.toNat + 2 ^ n.toNat * val v bits) % 2 ^ n.toNat = x.toNat := by rw [Nat.add_mul_mod_self_left, Nat.mod_eq_of_lt hf.1]
    have e2 : (x.toNat + 2 ^ n.toNat * val v bits) / 2 ^ n.toNat = val v bits := by
      rw [Nat.add_mul_div_left _ _ (Nat.two_pow_pos _), Nat.div_eq_of_lt hf.1, Nat.zero_add]
    simp only [val, unpackI, e1, e2, ih]
    rw [Int.toNat_of_nonneg h0]
theorem val_unpack : ∀ (bits : List Int) (W : Nat), (unpackI W bits).1.length = bits.length ∧ fit (unpackI W bits).1 bits = true ∧ ((unpackI W bits).2 = 0 → val (unpackI W bits).1 bits = W)
  | [], W => ⟨rfl, rfl, fun h => h.symm⟩
  | n :: bits, W => by
    obtain ⟨h1, h2, h3⟩ := val_unpack bits (W / 2 ^ n.toNat)
    refine ⟨by simp [unpackI, h1], ?_, fun h => ?_⟩
    · simp only [unpackI, fit, Bool.and_eq_true, decide_eq_true_eq]
      exact ⟨by rw [Int.toNat_natCast]; exact Nat.mod_lt _ (Nat.two_pow_pos _), h2⟩
    · simp only [unpackI, val] at h ⊢
      rw [h3 h, Int.toNat_natCast]
      exact Nat.mod_add_div _ _
theorem unpack_bounds : ∀ (bits : List Int) (W : Nat), W < 18446744073709551616 → ∀ x ∈ (unpackI W bits).1, 0 ≤ x ∧ x ≤ 18446744073709551615
  | [], W, _, x, h => by cases h
  | n :: bits, W, hW, x, h => by
    simp only [unpackI] at h
    rcases List.mem_cons.1 h with rfl | h
    · have := Nat.mod_le W (2 ^ n.toNat)
      omega
    · exact unpack_bounds bits _ (Nat.lt_of_le_of_lt (Nat.div_le_self _ _) hW) x h
end Go.Proofs.Ytbpghlfmkbjjcaa.NumMath
