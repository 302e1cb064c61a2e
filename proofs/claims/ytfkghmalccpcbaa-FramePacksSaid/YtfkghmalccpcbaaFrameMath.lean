/- What frames are, said plainly: no program here. -/
import Derived.Test.YtfkghmalccpcbaaCrcMath
namespace Go.Proofs.Ytfkghmalccpcbaa.FrameMath
open Go Go.RowKit Go.Proofs.Ytfkghmalccpcbaa.CrcMath
set_option linter.unusedSimpArgs false

/-- A number in four bytes, the lowest first. -/
def le4 (n : Int) : List Int := [n % 256, n / 256 % 256, n / 65536 % 256, n / 16777216 % 256]
/-- The sum of a length and of what is carried. -/
def fsum (xs : List Int) : W32 := add (sum (le4 xs.length)) xs
/-- A frame. -/
def frame (xs : List Int) : List Int := [165] ++ le4 xs.length ++ le4 (fsum xs).toNat ++ xs ++ [90]
theorem le4_length (n : Int) : (le4 n).length = 4 := rfl
theorem frame_length (xs : List Int) : (frame xs).length = xs.length + 10 := by simp [frame, le4]
theorem le4_bounds (n : Int) : ∀ x ∈ le4 n, 0 ≤ x ∧ x ≤ 255 := by
  intro x hx
  simp only [le4, List.mem_cons, List.not_mem_nil, or_false] at hx
  omega
theorem le4_take (n : Int) (k : Nat) (h : k < 4) : (le4 n).take (k + 1) = (le4 n).take k ++ [n / 2 ^ (8 * k) % 256] := by
  obtain rfl | rfl | rfl | rfl : k = 0 ∨ k = 1 ∨ k = 2 ∨ k = 3 := by omega
  all_goals simp [le4]
theorem frame_bounds (xs : List Int) (hx : ∀ x ∈ xs, 0 ≤ x ∧ x ≤ 255) : ∀ x ∈ frame xs, 0 ≤ x ∧ x ≤ 255 := by
  intro x h
  simp only [frame, List.mem_append, List.mem_singleton] at h
  rcases h with (((rfl | h) | h) | h) | rfl
  · omega
  · exact le4_bounds _ x h
  · exact le4_bounds _ x h
  · exact hx x h
  · omega
end Go.Proofs.Ytfkghmalccpcbaa.FrameMath
