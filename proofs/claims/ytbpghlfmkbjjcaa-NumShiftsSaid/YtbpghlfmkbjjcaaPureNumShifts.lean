/- For all words and numbers: the highest bit and the count of bits go with the halves, and narrow twice is narrow once. -/
import Derived.Test.YtbpghlfmkbjjcaaPNumShiftsx2
import Derived.Test.YtbpghlfmkbjjcaaNumBits
import Derived.WalkSmall
namespace Go.Proofs.Ytbpghlfmkbjjcaa.Pure
open Go.RowKit Go.Proofs.Ytbpghlfmkbjjcaa.NumBits Go.Proofs.Ytbpghlfmkbjjcaa.PNumShifts Go.Proofs.YtbpghlfmkbjjcaaW.PrintWords Go.Proofs.YtbpghlfmkbjjcaaW.PrintLast Go.Proofs.YtbpghlfmkbjjcaaW.PrintMore

theorem bounds_i64 {n : Int} (h : (Lit.int .i64 n).wf = true) : -9223372036854775808 ≤ n ∧ n ≤ 9223372036854775807 := by
  simp [Lit.wf, IntKind.min, IntKind.max, IntKind.signed, IntKind.bits] at h
  omega

theorem awake_true : hansomlaw01_awake.f 10 = some true := by decide +kernel


theorem bounds_u64 {n : Int} (h : (Lit.int .u64 n).wf = true) : 0 ≤ n ∧ n < 18446744073709551616 := by
  simp [Lit.wf, IntKind.min, IntKind.max, IntKind.signed, IntKind.bits] at h
  omega

theorem wrap_idle {n : Int} (h0 : -9223372036854775808 ≤ n) (h1 : n ≤ 9223372036854775807) : wrap64 n = n := by unfold wrap64; omega

theorem narrow_is (v n : Int) (h1 : 1 ≤ n) (h2 : n ≤ 64) :
    num_Narrow.f v n = some ((nar (BitVec.ofInt 64 v) n.toNat).toInt, ((nar (BitVec.ofInt 64 v) n.toNat).toInt == v)) := by
  obtain ⟨m, rfl⟩ := Int.eq_ofNat_of_zero_le (by omega : 0 ≤ n)
  unfold num_Narrow.f
  have e : wrap64 (64 - (m : Int)) = ((64 - m : Nat) : Int) := by unfold wrap64; omega
  rw [if_neg (by omega), if_neg (by omega), e, if_pos (by omega)]
  have s : shr .i64 (wrap64 (shl .u64 (IntKind.u64.wrap v) ((64 - m : Nat) : Int))) ((64 - m : Nat) : Int) = (nar (BitVec.ofInt 64 v) m).toInt := by
    rw [← shift_back]
    unfold shr shl
    have h64 : min ((64 - m : Nat) : Int).toNat IntKind.u64.bits = 64 - m := by
      show min (64 - m) 64 = _
      omega
    have h64' : min ((64 - m : Nat) : Int).toNat IntKind.i64.bits = 64 - m := h64
    rw [h64, h64', IntKind.wrap_u64, IntKind.wrap_u64]
  rw [s]
  rfl

theorem ones_is (d : Nat) : ∀ (w : Nat) (x : Int) (k : Nat), w < 2 ^ d → d ≤ 64 → d < k → 0 ≤ x → x + d ≤ 1000 → num_Ones.l0 k (w : Int) x = some (x + cnt d w) := by
  induction d with
  | zero =>
    intro w x k hw _ hk _ _
    obtain ⟨k, rfl⟩ : ∃ m, k = m + 1 := ⟨k - 1, by omega⟩
    obtain rfl : w = 0 := by simpa using hw
    simp [num_Ones.l0, cnt]
  | succ d ih =>
    intro w x k hw hd hk hx hx2
    obtain ⟨k, rfl⟩ : ∃ m, k = m + 1 := ⟨k - 1, by omega⟩
    simp only [num_Ones.l0]
    by_cases h : (w : Int) = 0
    · rw [if_pos h]
      obtain rfl : w = 0 := by omega
      rw [cnt_zero]
      simp
    · rw [if_neg h]
      have hb : w < 18446744073709551616 := Nat.lt_of_lt_of_le hw (Nat.pow_le_pow_right (by decide) hd)
      rw [and_one_u64 _ (by omega) (by omega), wrap_idle (n := (w : Int) % 2) (by omega) (by omega), wrap_idle (by omega) (by omega)]
      have e : (w : Int) / 2 = ((w / 2 : Nat) : Int) := by omega
      rw [e, ih (w / 2) _ k (by rw [Nat.pow_succ] at hw; omega) (by omega) (by omega) (by omega) (by omega)]
      simp only [cnt]
      congr 1
      omega

theorem ones_f (w : Int) (h0 : 0 ≤ w) (h1 : w < 18446744073709551616) (k : Nat) (hk : 64 < k) : num_Ones.f k w = some (cnt 64 w.toNat : Int) := by
  obtain ⟨n, rfl⟩ := Int.eq_ofNat_of_zero_le h0
  unfold num_Ones.f
  rw [ones_is 64 n 0 k (by omega) (by omega) hk (by omega) (by omega)]
  simp

theorem log_is (d : Nat) : ∀ (w : Nat) (x : Int) (k : Nat), w < 2 ^ d → d ≤ 64 → d < k → -1 ≤ x → x + d ≤ 1000 → num_Log.l0 k (w : Int) x = some (lg d w x) := by
  induction d with
  | zero =>
    intro w x k hw _ hk _ _
    obtain ⟨k, rfl⟩ : ∃ m, k = m + 1 := ⟨k - 1, by omega⟩
    obtain rfl : w = 0 := by simpa using hw
    simp [num_Log.l0, lg]
  | succ d ih =>
    intro w x k hw hd hk hx hx2
    obtain ⟨k, rfl⟩ : ∃ m, k = m + 1 := ⟨k - 1, by omega⟩
    simp only [num_Log.l0]
    by_cases h : (w : Int) = 0
    · rw [if_pos h]
      obtain rfl : w = 0 := by omega
      rw [lg_zero]
    · rw [if_neg h, wrap_idle (by omega) (by omega)]
      have e : (w : Int) / 2 = ((w / 2 : Nat) : Int) := by omega
      rw [e, ih (w / 2) _ k (by rw [Nat.pow_succ] at hw; omega) (by omega) (by omega) (by omega) (by omega)]
      simp only [lg]
      rw [if_neg (by omega)]

theorem log_f (w : Int) (h0 : 0 ≤ w) (h1 : w < 18446744073709551616) (k : Nat) (hk : 64 < k) : num_Log.f k w = some (lg 64 w.toNat (-1)) := by
  obtain ⟨n, rfl⟩ := Int.eq_ofNat_of_zero_le h0
  unfold num_Log.f
  rw [log_is 64 n (-1) k (by omega) (by omega) hk (by omega) (by omega)]
  rfl

theorem awake_more : hansomlaw01_awake.f 90 = some true := by decide +kernel
theorem awake_less : hansomlaw01_awake.f 89 = some true := by decide +kernel

theorem halves (w : Nat) (hw : w < 18446744073709551616) : (cnt 64 w : Int) = wrap64 ((cnt 64 (w / 4294967296) : Int) + (cnt 64 (w % 4294967296) : Int)) := by
  have h1 : cnt 64 w = cnt 32 (w % 4294967296) + cnt 32 (w / 4294967296) := cnt_split 32 32 w
  have h2 : cnt 64 (w / 4294967296) = cnt 32 (w / 4294967296) := cnt_more 32 32 _ (by omega)
  have h3 : cnt 64 (w % 4294967296) = cnt 32 (w % 4294967296) := cnt_more 32 32 _ (by omega)
  have b1 := cnt_le 64 (w / 4294967296)
  have b2 := cnt_le 64 (w % 4294967296)
  rw [wrap_idle (by omega) (by omega)]
  omega

theorem first_way (w v m n : Int) (hw : 0 ≤ w ∧ w < 18446744073709551616) : hansomlaw01_NumShifts.j0 90 w v m n true = some true := by
  obtain ⟨a, rfl⟩ := Int.eq_ofNat_of_zero_le hw.1
  simp only [hansomlaw01_NumShifts.j0]
  rw [if_pos trivial, awake_less]
  simp only [Option.bind_some, if_true]
  have e1 : (a : Int) / 4294967296 = ((a / 4294967296 : Nat) : Int) := by omega
  have e2 : Go.bits .and .u64 (a : Int) 4294967295 = ((a % 4294967296 : Nat) : Int) := by
    have := bits_and_u64_nat a 4294967295 (by omega) (by decide)
    rw [show ((4294967295 : Nat) : Int) = 4294967295 from rfl] at this
    rw [this]
    have h2 : a &&& 4294967295 = a % 4294967296 := Nat.and_two_pow_sub_one_eq_mod a 32
    rw [h2]
  rw [e1, e2, ones_f (a : Int) (by omega) (by omega) 89 (by omega), ones_f ((a / 4294967296 : Nat) : Int) (by omega) (by omega) 89 (by omega), ones_f ((a % 4294967296 : Nat) : Int) (by omega) (by omega) 89 (by omega)]
  simp only [Option.bind_some, Int.toNat_natCast]
  rw [← halves a (by omega)]
  simp

theorem nar_in (V : BitVec 64) (n : Nat) : -9223372036854775808 ≤ (nar V n).toInt ∧ (nar V n).toInt ≤ 9223372036854775807 := by
  have h1 := BitVec.le_toInt (nar V n)
  have h2 := BitVec.toInt_lt (x := nar V n)
  omega

theorem shr_two (w : Nat) (m : Nat) (hm : m < 64) : (shr .u64 (w : Int) (m : Int)) / 2 = ((w / 2 ^ (m + 1) : Nat) : Int) := by
  have h64 : min (m : Int).toNat IntKind.u64.bits = m := by
    show min m 64 = m
    omega
  unfold shr
  rw [h64]
  have e : (w : Int) / 2 ^ m = ((w / 2 ^ m : Nat) : Int) := by
    rw [Int.natCast_ediv, Int.natCast_pow]
    rfl
  rw [e, Nat.pow_succ, ← Nat.div_div_eq_div_mul]
  omega

theorem second_way (w v m n : Int) (hw : 0 ≤ w ∧ w < 18446744073709551616) (hv : -9223372036854775808 ≤ v ∧ v ≤ 9223372036854775807) (h1 : 1 ≤ m) (h2 : m ≤ n) (h3 : n ≤ 64) :
    hansomlaw01_NumShifts.j0 90 w v m n false = some true := by
  obtain ⟨a, rfl⟩ := Int.eq_ofNat_of_zero_le hw.1
  obtain ⟨m, rfl⟩ := Int.eq_ofNat_of_zero_le (by omega : 0 ≤ m)
  obtain ⟨n, rfl⟩ := Int.eq_ofNat_of_zero_le (by omega : 0 ≤ n)
  simp only [hansomlaw01_NumShifts.j0]
  rw [if_neg (by simp), narrow_is v n (by omega) h3, narrow_is v m h1 (by omega)]
  simp only [Option.bind_some, Int.toNat_natCast]
  rw [narrow_is _ m h1 (by omega), narrow_is _ n (by omega) h3]
  simp only [Option.bind_some, Int.toNat_natCast, BitVec.ofInt_toInt]
  rw [nar_nar_le _ m n (by omega) (by omega) (by omega), nar_nar_ge _ m n (by omega) (by omega) (by omega)]
  rw [if_pos rfl, if_pos rfl]
  simp only [beq_self_eq_true, if_true]
  have e : IntKind.u64.wrap (wrap64 ((n : Int) - 1)) = ((n - 1 : Nat) : Int) := by
    rw [IntKind.wrap_u64]
    unfold wrap64
    omega
  have hlog : (if 0 ≤ ((n - 1 : Nat) : Int) then (if ((shr .u64 (a : Int) ((n - 1 : Nat) : Int)) / 2) = 0 then ((num_Log.f 89 (a : Int)).bind fun t129 => (some (decide (t129 < (n : Int))))) else (some true)) else (none)) = some true := by
    rw [if_pos (by omega), shr_two a (n - 1) (by omega), show n - 1 + 1 = n by omega]
    by_cases h : ((a / 2 ^ n : Nat) : Int) = 0
    · rw [if_pos h, log_f (a : Int) (by omega) (by omega) 89 (by omega)]
      have hlt : a < 2 ^ n := by
        have : a / 2 ^ n = 0 := by omega
        rcases Nat.div_eq_zero_iff.1 this with h | h
        · exact absurd h (Nat.ne_of_gt (Nat.two_pow_pos n))
        · exact h
      have := lg_lt 64 a (-1) n hlt (by omega)
      simp only [Option.bind_some, Int.toNat_natCast]
      rw [decide_eq_true (by omega)]
    · rw [if_neg h]
  rw [e, hlog]
  by_cases hok : ((nar (BitVec.ofInt 64 v) m).toInt == v) = true
  · rw [if_pos hok, if_pos]
    have hV : nar (BitVec.ofInt 64 v) m = BitVec.ofInt 64 v := by
      have : (nar (BitVec.ofInt 64 v) m).toInt = v := by simpa using hok
      rw [← BitVec.ofInt_toInt (x := nar (BitVec.ofInt 64 v) m), this]
    have hN : nar (BitVec.ofInt 64 v) n = BitVec.ofInt 64 v := by
      have := nar_nar_ge (BitVec.ofInt 64 v) m n (by omega) (by omega) (by omega)
      rw [hV] at this
      exact this
    rw [hN, ofInt_toInt v hv]
  · rw [if_neg hok]

theorem NumShifts : hansomlaw01_NumShifts.Pure := by
  intro w v m n hw hv hm hn
  have hw' := bounds_u64 hw
  have hv' := bounds_i64 hv
  refine ⟨90, ?_⟩
  unfold hansomlaw01_NumShifts.f
  rw [awake_more]
  simp only [Option.bind_some, if_true]
  by_cases h1 : m < 1
  · rw [if_pos h1, first_way w v m n hw']
  · rw [if_neg h1]
    by_cases h2 : m > n
    · rw [if_pos h2, first_way w v m n hw']
    · rw [if_neg h2]
      by_cases h3 : n > 64
      · rw [decide_eq_true h3, first_way w v m n hw']
      · rw [decide_eq_false h3, second_way w v m n hw' hv' (by omega) (by omega) (by omega)]

end Go.Proofs.Ytbpghlfmkbjjcaa.Pure
