/- Plain laws of the sum: one step of a bit, of a byte, of bytes, as bit vectors; no program here. -/
import Derived.Laws.BitsLemmas
import Derived.RowKit
namespace Go.Proofs.Ytfkghmalccpcbaa.CrcMath
open Go Go.RowKit

abbrev W32 := BitVec 32
def poly : W32 := 0xEDB88320#32
/-- One bit. -/
def step (s : W32) : W32 := (s >>> 1) ^^^ (if s.getLsbD 0 then poly else 0#32)
def steps : Nat → W32 → W32
  | 0, s => s
  | n + 1, s => steps n (step s)
theorem steps_succ (n : Nat) : ∀ s, steps (n + 1) s = step (steps n s) := by
  induction n with
  | zero => intro s; rfl
  | succ n ih => intro s; show steps (n + 1) (step s) = _; rw [ih]; rfl
/-- One byte. -/
def byte (s : W32) (x : Int) : W32 := steps 8 (s ^^^ BitVec.ofInt 32 x)
def run (s : W32) (xs : List Int) : W32 := xs.foldl byte s
/-- The sum of what has the sum s, and xs behind it. -/
def add (s : W32) (xs : List Int) : W32 := ~~~ run (~~~ s) xs
def sum (xs : List Int) : W32 := add 0#32 xs

theorem run_append (s : W32) (xs ys : List Int) : run s (xs ++ ys) = run (run s xs) ys := List.foldl_append
theorem run_take (s : W32) (xs : List Int) (k : Nat) (h : k < xs.length) : run s (xs.take (k + 1)) = byte (run s (xs.take k)) (xs.getD k 0) := by
  rw [List.take_succ_eq_append_getElem h, run_append]
  simp [run, h]

/-! ### How the machine says these -/
theorem ofInt_nat (s : W32) : BitVec.ofInt 32 (s.toNat : Int) = s := by
  rw [BitVec.ofInt_natCast, BitVec.ofNat_toNat, BitVec.setWidth_eq]
theorem u32_nat (s : W32) : IntKind.u32.wrap (s.toNat : Int) = (s.toNat : Int) := by
  rw [IntKind.wrap_u32]
  have := s.isLt
  omega
theorem bits_xor (s : W32) (y : Int) : bits .xor .u32 (s.toNat : Int) y = ((s ^^^ BitVec.ofInt 32 y).toNat : Int) := by
  rw [← u32_nat (s ^^^ BitVec.ofInt 32 y)]
  show IntKind.u32.wrap _ = _
  rw [show IntKind.u32.bits = 32 from rfl, ofInt_nat]
theorem bits_and (s : W32) (y : Int) : bits .and .u32 (s.toNat : Int) y = ((s &&& BitVec.ofInt 32 y).toNat : Int) := by
  rw [← u32_nat (s &&& BitVec.ofInt 32 y)]
  show IntKind.u32.wrap _ = _
  rw [show IntKind.u32.bits = 32 from rfl, ofInt_nat]
theorem ofInt_mod (x : Int) : BitVec.ofInt 32 (x % 4294967296) = BitVec.ofInt 32 x := by
  apply BitVec.eq_of_toNat_eq
  rw [BitVec.toNat_ofInt, BitVec.toNat_ofInt]
  show ((x % 4294967296) % 4294967296).toNat = (x % 4294967296).toNat
  rw [Int.emod_emod_of_dvd _ (Int.dvd_refl _)]
theorem not_is (s : W32) : bits .xor .u32 IntKind.u32.max (s.toNat : Int) = ((~~~ s).toNat : Int) := by
  have h : IntKind.u32.max = ((BitVec.allOnes 32).toNat : Int) := by decide
  rw [h, bits_xor, ofInt_nat]
  rw [BitVec.allOnes_xor]
theorem xor_byte (s : W32) (x : Int) : bits .xor .u32 (s.toNat : Int) (x % 4294967296) = ((s ^^^ BitVec.ofInt 32 x).toNat : Int) := by
  rw [bits_xor, ofInt_mod]
theorem half (s : W32) : (s.toNat : Int) / (2 : Int) = ((s >>> 1).toNat : Int) := by
  rw [BitVec.toNat_ushiftRight, Nat.shiftRight_eq_div_pow]
  omega
theorem low (s : W32) : bits .and .u32 (s.toNat : Int) 1 = if s.getLsbD 0 then 1 else 0 := by
  rw [bits_and]
  have h : s &&& BitVec.ofInt 32 1 = if s.getLsbD 0 then 1#32 else 0#32 := by
    apply BitVec.eq_of_getLsbD_eq
    intro i hi
    have h1 : BitVec.ofInt 32 1 = BitVec.twoPow 32 0 := by decide
    have h2 : (1#32) = BitVec.twoPow 32 0 := by decide
    rw [BitVec.getLsbD_and, h1, BitVec.getLsbD_twoPow]
    by_cases e : i = 0
    · subst e
      cases s.getLsbD 0 <;> simp
    · have e' : ¬ 0 = i := fun q => e q.symm
      cases s.getLsbD 0
      · simp [e']
      · simp [h2, BitVec.getLsbD_twoPow, e']
  rw [h]
  cases s.getLsbD 0 <;> decide
/-- A round of the program's inner loop. -/
theorem round (s : W32) : bits .xor .u32 ((s.toNat : Int) / (2 : Int)) ((3988292384 * bits .and .u32 (s.toNat : Int) 1) % 4294967296) = ((step s).toNat : Int) := by
  rw [half, low, bits_xor]
  have h1 : BitVec.ofInt 32 (3988292384 * 1 % 4294967296) = poly := by decide
  have h0 : BitVec.ofInt 32 (3988292384 * 0 % 4294967296) = 0#32 := by decide
  unfold step
  cases s.getLsbD 0
  · simp only [Bool.false_eq_true, if_false, h0]
  · simp only [if_true, h1]

/-! ### Bit by bit, as the reference goes -/
theorem ofInt_shift (x : Int) (h0 : 0 ≤ x) (h1 : x ≤ 255) (j : Nat) : BitVec.ofInt 32 (x / 2 ^ j) = BitVec.ofInt 32 x >>> j := by
  obtain ⟨n, rfl⟩ := Int.eq_ofNat_of_zero_le h0
  have e : (n : Int) / 2 ^ j = ((n / 2 ^ j : Nat) : Int) := by
    rw [Int.natCast_ediv, Int.natCast_pow]
    rfl
  rw [e, BitVec.ofInt_natCast, BitVec.ofInt_natCast]
  apply BitVec.eq_of_toNat_eq
  rw [BitVec.toNat_ushiftRight, Nat.shiftRight_eq_div_pow, BitVec.toNat_ofNat, BitVec.toNat_ofNat, Nat.mod_eq_of_lt (a := n) (by omega)]
  exact Nat.mod_eq_of_lt (Nat.lt_of_le_of_lt (Nat.div_le_self _ _) (by omega))
theorem ofInt_out (x : Int) (h0 : 0 ≤ x) (h1 : x ≤ 255) : BitVec.ofInt 32 x >>> 8 = 0#32 := by
  rw [← ofInt_shift x h0 h1]
  have : x / 2 ^ 8 = 0 := by omega
  rw [this]
  rfl
theorem low_eq (s : W32) : (bits .and .u32 (s.toNat : Int) 1 == 1) = s.getLsbD 0 := by
  rw [low]
  cases s.getLsbD 0 <;> rfl
theorem ref_test (T R : W32) (x : Int) (h0 : 0 ≤ x) (h1 : x ≤ 255) (j : Nat) (h : R = T ^^^ (BitVec.ofInt 32 x >>> j)) :
    (bits .and .u32 (bits .xor .u32 (R.toNat : Int) (x / 2 ^ j % 4294967296)) 1 == 1) = T.getLsbD 0 := by
  rw [xor_byte, low_eq, ofInt_shift x h0 h1, h, BitVec.xor_assoc, BitVec.xor_self, BitVec.xor_zero]
theorem ref_yes (T R : W32) (x : Int) (j : Nat) (h : R = T ^^^ (BitVec.ofInt 32 x >>> j)) (ht : T.getLsbD 0 = true) :
    bits .xor .u32 ((R.toNat : Int) / (2 : Int)) 3988292384 = ((step T ^^^ (BitVec.ofInt 32 x >>> (j + 1))).toNat : Int) := by
  have hp : BitVec.ofInt 32 3988292384 = poly := by decide
  rw [half, bits_xor, hp]
  congr 2
  unfold step
  rw [ht, if_pos rfl, h, BitVec.shiftRight_add, BitVec.ushiftRight_xor_distrib, BitVec.xor_assoc, BitVec.xor_assoc, BitVec.xor_comm poly]
theorem ref_no (T R : W32) (x : Int) (j : Nat) (h : R = T ^^^ (BitVec.ofInt 32 x >>> j)) (ht : T.getLsbD 0 = false) :
    (R.toNat : Int) / (2 : Int) = ((step T ^^^ (BitVec.ofInt 32 x >>> (j + 1))).toNat : Int) := by
  rw [half]
  congr 2
  unfold step
  rw [ht, if_neg (by simp), h, BitVec.shiftRight_add, BitVec.ushiftRight_xor_distrib, BitVec.xor_zero]
theorem byte_out (S : W32) (x : Int) (h0 : 0 ≤ x) (h1 : x ≤ 255) (R : W32) (h : R = steps 8 (S ^^^ BitVec.ofInt 32 x) ^^^ (BitVec.ofInt 32 x >>> 8)) : R = byte S x := by
  rw [h, ofInt_out x h0 h1, BitVec.xor_zero]
  rfl
end Go.Proofs.Ytfkghmalccpcbaa.CrcMath
