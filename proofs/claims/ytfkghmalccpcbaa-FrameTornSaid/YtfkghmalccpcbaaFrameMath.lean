/- What frames are, said plainly: no program here. -/
import Derived.Test.YtfkghmalccpcbaaCrcMath
import Derived.Laws.BitsAllLaws
namespace Go.Proofs.Ytfkghmalccpcbaa.FrameMath
open Go Go.RowKit Go.Proofs.Ytfkghmalccpcbaa.CrcMath
set_option linter.unusedSimpArgs false
set_option linter.unusedVariables false

/-- A number in four bytes, the lowest first. -/
def le4 (n : Int) : List Int := [n % 256, n / 256 % 256, n / 65536 % 256, n / 16777216 % 256]
/-- The sum of a length and of what is carried. -/
def fsum (xs : List Int) : W32 := add (sum (le4 xs.length)) xs
/-- A frame. -/
def frame (xs : List Int) : List Int := [165] ++ le4 xs.length ++ le4 (fsum xs).toNat ++ xs ++ [90]
theorem le4_length (n : Int) : (le4 n).length = 4 := rfl
theorem frame_length (xs : List Int) : (frame xs).length = xs.length + 10 := by simp [frame, le4]
theorem le4_bounds (n : Int) : ∀ x ∈ le4 n, 0 ≤ x ∧ x ≤ 255 := by
  intro x hx
  simp only [le4, List.mem_cons, List.not_mem_nil, or_false] at hx
  omega
theorem le4_take (n : Int) (k : Nat) (h : k < 4) : (le4 n).take (k + 1) = (le4 n).take k ++ [n / 2 ^ (8 * k) % 256] := by
  obtain rfl | rfl | rfl | rfl : k = 0 ∨ k = 1 ∨ k = 2 ∨ k = 3 := by omega
  all_goals simp [le4]
theorem frame_bounds (xs : List Int) (hx : ∀ x ∈ xs, 0 ≤ x ∧ x ≤ 255) : ∀ x ∈ frame xs, 0 ≤ x ∧ x ≤ 255 := by
  intro x h
  simp only [frame, List.mem_append, List.mem_singleton] at h
  rcases h with (((rfl | h) | h) | h) | rfl
  · omega
  · exact le4_bounds _ x h
  · exact le4_bounds _ x h
  · exact hx x h
  · omega
/-- The number that the first bytes are. -/
def part4 (xs : List Int) : Nat → Int
  | 0 => 0
  | k + 1 => part4 xs k + xs.getD k 0 * 2 ^ (8 * k)
def num4 (xs : List Int) : Int := part4 xs 4
theorem or_mul (a b i : Nat) (h : a < 2 ^ i) : a ||| (b * 2 ^ i) = a + b * 2 ^ i := by
  rw [Nat.or_comm, ← Nat.shiftLeft_eq, ← Nat.shiftLeft_add_eq_or_of_lt h, Nat.add_comm]
theorem or_shift (s x : Int) (k : Nat) (hk : k < 4) (h0 : 0 ≤ s) (h1 : s < 2 ^ (8 * k)) (x0 : 0 ≤ x) (x1 : x ≤ 255) : bits BinOp.or IntKind.u32 s (x * 2 ^ (8 * k) % 4294967296) = s + x * 2 ^ (8 * k) := by
  obtain ⟨m, rfl⟩ := Int.eq_ofNat_of_zero_le h0
  obtain ⟨n, rfl⟩ := Int.eq_ofNat_of_zero_le x0
  have hn : n < 256 := by omega
  have hm : m < 2 ^ (8 * k) := by exact_mod_cast h1
  have hp : n * 2 ^ (8 * k) + 2 ^ (8 * k) ≤ 4294967296 := by
    calc n * 2 ^ (8 * k) + 2 ^ (8 * k) = (n + 1) * 2 ^ (8 * k) := by rw [Nat.add_mul, Nat.one_mul]
      _ ≤ 256 * 2 ^ (8 * k) := Nat.mul_le_mul_right _ hn
      _ ≤ 4294967296 := by
        obtain rfl | rfl | rfl | rfl : k = 0 ∨ k = 1 ∨ k = 2 ∨ k = 3 := by omega
        all_goals decide
  have hpos : 0 < 2 ^ (8 * k) := Nat.two_pow_pos _
  have e : ((n : Int) * 2 ^ (8 * k) % 4294967296) = ((n * 2 ^ (8 * k) : Nat) : Int) := by
    have : ((n : Int) * 2 ^ (8 * k)) = ((n * 2 ^ (8 * k) : Nat) : Int) := by push_cast; rfl
    rw [this]
    omega
  rw [e, u32_or_nat m (n * 2 ^ (8 * k)) (by omega) (by omega), or_mul m n (8 * k) hm]
  push_cast
  rfl
theorem part4_bounds (xs : List Int) (hx : ∀ x ∈ xs, 0 ≤ x ∧ x ≤ 255) : ∀ k : Nat, 0 ≤ part4 xs k ∧ part4 xs k < 2 ^ (8 * k)
  | 0 => by simp [part4]
  | k + 1 => by
    have h := part4_bounds xs hx k
    have hb : 0 ≤ xs.getD k 0 ∧ xs.getD k 0 ≤ 255 := by
      by_cases hk : k < xs.length
      · have := hx xs[k] (List.getElem_mem hk)
        simpa [hk] using this
      · simp [hk]
    have e : (2 : Int) ^ (8 * (k + 1)) = 256 * 2 ^ (8 * k) := by rw [Nat.mul_add, Int.pow_add]; omega
    have hp : (0 : Int) < 2 ^ (8 * k) := Int.pow_pos (by decide)
    have h1 : 0 ≤ xs.getD k 0 * 2 ^ (8 * k) := Int.mul_nonneg hb.1 (by omega)
    have h2 : xs.getD k 0 * 2 ^ (8 * k) ≤ 255 * 2 ^ (8 * k) := Int.mul_le_mul_of_nonneg_right hb.2 (by omega)
    rw [e]
    show 0 ≤ part4 xs k + xs.getD k 0 * 2 ^ (8 * k) ∧ part4 xs k + xs.getD k 0 * 2 ^ (8 * k) < _
    omega
theorem part4_step (xs : List Int) (k : Nat) (hk : k < 4) (hx : ∀ x ∈ xs, 0 ≤ x ∧ x ≤ 255) {x s : Int} (e : xs.getD k 0 = x) (h : s = part4 xs k) (b : 0 ≤ x ∧ x ≤ 255) : bits BinOp.or IntKind.u32 s (x * 2 ^ (8 * k) % 4294967296) = part4 xs (k + 1) := by
  have h' := part4_bounds xs hx k
  rw [or_shift s x k hk (by omega) (by omega) b.1 b.2, h, ← e]
  rfl
theorem num4_bounds (xs : List Int) (hx : ∀ x ∈ xs, 0 ≤ x ∧ x ≤ 255) : 0 ≤ num4 xs ∧ num4 xs ≤ 4294967295 := by
  have := part4_bounds xs hx 4
  unfold num4
  omega
theorem num4_all {xs : List Int} {a b c d : Int} (hx : ∀ x ∈ xs, 0 ≤ x ∧ x ≤ 255) (ha : xs.getD 0 0 = a) (hb : xs.getD 1 0 = b) (hc : xs.getD 2 0 = c) (hd : xs.getD 3 0 = d) (a0 : 0 ≤ a ∧ a ≤ 255) (b0 : 0 ≤ b ∧ b ≤ 255) (c0 : 0 ≤ c ∧ c ≤ 255) (d0 : 0 ≤ d ∧ d ≤ 255) :
    bits BinOp.or IntKind.u32 (bits BinOp.or IntKind.u32 (bits BinOp.or IntKind.u32 a (b * 256)) (c * 65536)) (d * 16777216) = num4 xs := by
  have p1 : a = part4 xs 1 := by show a = 0 + xs.getD 0 0 * 2 ^ (8 * 0); rw [ha]; omega
  have e1 := part4_step xs 1 (by decide) hx hb p1 b0
  have e2 := part4_step xs 2 (by decide) hx hc rfl c0
  have e3 := part4_step xs 3 (by decide) hx hd rfl d0
  unfold num4
  rw [← e3, ← e2, ← e1]
  congr 1
  · congr 1
    · congr 1; omega
    · omega
  · omega
/-- What bytes carry, how many of them, and a word of it. -/
def takeI (xs : List Int) : List Int × Nat × Int :=
  if xs.length = 0 then ([], 0, 6) else
  if xs.getD 0 0 ≠ 165 ∧ xs.getD 0 0 ≠ 0 then ([], 0, 10) else
  if xs.getD 0 0 = 0 ∨ xs.length < 10 then ([], 0, 9) else
  if 1048576 < num4 (xs.drop 1) then ([], 0, 10) else
  if xs.length < 10 + (num4 (xs.drop 1)).toNat ∨ xs.getD (9 + (num4 (xs.drop 1)).toNat) 0 = 0 then ([], 0, 9) else
  if xs.getD (9 + (num4 (xs.drop 1)).toNat) 0 ≠ 90 then ([], 0, 10) else
  if num4 (xs.drop 5) ≠ (fsum ((xs.drop 9).take (num4 (xs.drop 1)).toNat)).toNat then ([], 0, 11) else
  ((xs.drop 9).take (num4 (xs.drop 1)).toNat, 10 + (num4 (xs.drop 1)).toNat, 0)
end Go.Proofs.Ytfkghmalccpcbaa.FrameMath
