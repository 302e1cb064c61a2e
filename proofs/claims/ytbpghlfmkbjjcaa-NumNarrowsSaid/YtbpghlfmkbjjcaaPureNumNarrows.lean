/- For all numbers: what is made narrow, how many bits are set, the highest bit and the pair are what the document's answer says. -/
import Derived.Test.YtbpghlfmkbjjcaaPNumNarrowsx3
import Derived.Test.YtbpghlfmkbjjcaaNumBits
import Derived.WalkSmall
namespace Go.Proofs.Ytbpghlfmkbjjcaa.Pure
open Go.RowKit Go.Proofs.Ytbpghlfmkbjjcaa.NumBits Go.Proofs.Ytbpghlfmkbjjcaa.PNumNarrows Go.Proofs.YtbpghlfmkbjjcaaW.PrintWords Go.Proofs.YtbpghlfmkbjjcaaW.PrintLast Go.Proofs.YtbpghlfmkbjjcaaW.PrintMore

theorem bounds_i64 {n : Int} (h : (Lit.int .i64 n).wf = true) : -9223372036854775808 ≤ n ∧ n ≤ 9223372036854775807 := by
  simp [Lit.wf, IntKind.min, IntKind.max, IntKind.signed, IntKind.bits] at h
  omega

theorem awake_true : hansomlaw01_awake.f 10 = some true := by decide +kernel


theorem bounds_u64 {n : Int} (h : (Lit.int .u64 n).wf = true) : 0 ≤ n ∧ n < 18446744073709551616 := by
  simp [Lit.wf, IntKind.min, IntKind.max, IntKind.signed, IntKind.bits] at h
  omega

theorem wrap_idle {n : Int} (h0 : -9223372036854775808 ≤ n) (h1 : n ≤ 9223372036854775807) : wrap64 n = n := by unfold wrap64; omega

theorem narrow_is (v n : Int) (h1 : 1 ≤ n) (h2 : n ≤ 64) :
    num_Narrow.f v n = some ((nar (BitVec.ofInt 64 v) n.toNat).toInt, ((nar (BitVec.ofInt 64 v) n.toNat).toInt == v)) := by
  obtain ⟨m, rfl⟩ := Int.eq_ofNat_of_zero_le (by omega : 0 ≤ n)
  unfold num_Narrow.f
  have e : wrap64 (64 - (m : Int)) = ((64 - m : Nat) : Int) := by unfold wrap64; omega
  rw [if_neg (by omega), if_neg (by omega), e, if_pos (by omega)]
  have s : shr .i64 (wrap64 (shl .u64 (IntKind.u64.wrap v) ((64 - m : Nat) : Int))) ((64 - m : Nat) : Int) = (nar (BitVec.ofInt 64 v) m).toInt := by
    rw [← shift_back]
    unfold shr shl
    have h64 : min ((64 - m : Nat) : Int).toNat IntKind.u64.bits = 64 - m := by
      show min (64 - m) 64 = _
      omega
    have h64' : min ((64 - m : Nat) : Int).toNat IntKind.i64.bits = 64 - m := h64
    rw [h64, h64', IntKind.wrap_u64, IntKind.wrap_u64]
  rw [s]
  rfl

theorem ones_is (d : Nat) : ∀ (w : Nat) (x : Int) (k : Nat), w < 2 ^ d → d ≤ 64 → d < k → 0 ≤ x → x + d ≤ 1000 → num_Ones.l0 k (w : Int) x = some (x + cnt d w) := by
  induction d with
  | zero =>
    intro w x k hw _ hk _ _
    obtain ⟨k, rfl⟩ : ∃ m, k = m + 1 := ⟨k - 1, by omega⟩
    obtain rfl : w = 0 := by simpa using hw
    simp [num_Ones.l0, cnt]
  | succ d ih =>
    intro w x k hw hd hk hx hx2
    obtain ⟨k, rfl⟩ : ∃ m, k = m + 1 := ⟨k - 1, by omega⟩
    simp only [num_Ones.l0]
    by_cases h : (w : Int) = 0
    · rw [if_pos h]
      obtain rfl : w = 0 := by omega
      rw [cnt_zero]
      simp
    · rw [if_neg h]
      have hb : w < 18446744073709551616 := Nat.lt_of_lt_of_le hw (Nat.pow_le_pow_right (by decide) hd)
      rw [and_one_u64 _ (by omega) (by omega), wrap_idle (n := (w : Int) % 2) (by omega) (by omega), wrap_idle (by omega) (by omega)]
      have e : (w : Int) / 2 = ((w / 2 : Nat) : Int) := by omega
      rw [e, ih (w / 2) _ k (by rw [Nat.pow_succ] at hw; omega) (by omega) (by omega) (by omega) (by omega)]
      simp only [cnt]
      congr 1
      omega

theorem ones_f (w : Int) (h0 : 0 ≤ w) (h1 : w < 18446744073709551616) (k : Nat) (hk : 64 < k) : num_Ones.f k w = some (cnt 64 w.toNat : Int) := by
  obtain ⟨n, rfl⟩ := Int.eq_ofNat_of_zero_le h0
  unfold num_Ones.f
  rw [ones_is 64 n 0 k (by omega) (by omega) hk (by omega) (by omega)]
  simp

theorem log_is (d : Nat) : ∀ (w : Nat) (x : Int) (k : Nat), w < 2 ^ d → d ≤ 64 → d < k → -1 ≤ x → x + d ≤ 1000 → num_Log.l0 k (w : Int) x = some (lg d w x) := by
  induction d with
  | zero =>
    intro w x k hw _ hk _ _
    obtain ⟨k, rfl⟩ : ∃ m, k = m + 1 := ⟨k - 1, by omega⟩
    obtain rfl : w = 0 := by simpa using hw
    simp [num_Log.l0, lg]
  | succ d ih =>
    intro w x k hw hd hk hx hx2
    obtain ⟨k, rfl⟩ : ∃ m, k = m + 1 := ⟨k - 1, by omega⟩
    simp only [num_Log.l0]
    by_cases h : (w : Int) = 0
    · rw [if_pos h]
      obtain rfl : w = 0 := by omega
      rw [lg_zero]
    · rw [if_neg h, wrap_idle (by omega) (by omega)]
      have e : (w : Int) / 2 = ((w / 2 : Nat) : Int) := by omega
      rw [e, ih (w / 2) _ k (by rw [Nat.pow_succ] at hw; omega) (by omega) (by omega) (by omega) (by omega)]
      simp only [lg]
      rw [if_neg (by omega)]

theorem log_f (w : Int) (h0 : 0 ≤ w) (h1 : w < 18446744073709551616) (k : Nat) (hk : 64 < k) : num_Log.f k w = some (lg 64 w.toNat (-1)) := by
  obtain ⟨n, rfl⟩ := Int.eq_ofNat_of_zero_le h0
  unfold num_Log.f
  rw [log_is 64 n (-1) k (by omega) (by omega) hk (by omega) (by omega)]
  rfl

theorem ref_loop (v : Int) (V : BitVec 64) (n : Nat) (hn1 : 1 ≤ n) (sign : Bool) (hs : sign = V.getLsbD (n - 1)) (d : Nat) : ∀ (j : Nat) (X : BitVec 64) (k : Nat), j + d = 64 → n ≤ j → d < k →
    (∀ i, i < 64 → X.getLsbD i = if i < n then V.getLsbD i else if i < j then V.getLsbD (n - 1) else V.getLsbD i) →
    hansomref01_Narrow.l0 k v X.toInt sign (j : Int) = some ((nar V n).toInt, ((nar V n).toInt == v)) := by
  induction d with
  | zero =>
    intro j X k hj hnj hk hX
    obtain ⟨k, rfl⟩ : ∃ m, k = m + 1 := ⟨k - 1, by omega⟩
    simp only [hansomref01_Narrow.l0]
    rw [if_neg (by omega)]
    have e : X = nar V n := by
      apply BitVec.eq_of_getLsbD_eq
      intro i hi
      rw [hX i hi, nar_bit V n i hn1 (by omega) hi, if_pos (by omega : i < j)]
    rw [e]
  | succ d ih =>
    intro j X k hj hnj hk hX
    obtain ⟨k, rfl⟩ : ∃ m, k = m + 1 := ⟨k - 1, by omega⟩
    simp only [hansomref01_Narrow.l0]
    have e0 : IntKind.u64.wrap (j : Int) = (j : Int) := by rw [IntKind.wrap_u64]; omega
    have e1 : wrap64 ((j : Int) + 1) = ((j + 1 : Nat) : Int) := by unfold wrap64; omega
    have e2 : BitVec.ofInt 64 X.toInt = X := BitVec.ofInt_toInt
    have e3 : BitVec.ofInt 64 (shl .i64 1 (j : Int)) = BitVec.twoPow 64 j := by
      unfold shl
      have h64 : min (j : Int).toNat IntKind.i64.bits = j := by
        show min j 64 = j
        omega
      rw [h64]
      exact one_shl j (by omega)
    rw [if_pos (by omega), e0, e1, or_i64, andNot_i64, e2, e3]
    have step : ∀ Y : BitVec 64, (∀ i, i < 64 → Y.getLsbD i = if i = j then sign else X.getLsbD i) →
        hansomref01_Narrow.l0 k v Y.toInt sign ((j + 1 : Nat) : Int) = some ((nar V n).toInt, ((nar V n).toInt == v)) := by
      intro Y hY
      refine ih (j + 1) Y k (by omega) (by omega) (by omega) (fun i hi => ?_)
      rw [hY i hi, hX i hi]
      by_cases h : i = j
      · rw [if_pos h, hs, if_neg (by omega), if_pos (by omega)]
      · rw [if_neg h]
        by_cases h2 : i < n
        · rw [if_pos h2, if_pos h2]
        · rw [if_neg h2, if_neg h2]
          by_cases h3 : i < j
          · rw [if_pos h3, if_pos (by omega)]
          · rw [if_neg h3, if_neg (by omega)]
    cases hb : sign
    · rw [if_neg (by simp), if_pos (by omega)]
      rw [hb] at step
      refine step _ (fun i hi => ?_)
      rw [BitVec.getLsbD_and, BitVec.getLsbD_not, BitVec.getLsbD_twoPow]
      by_cases h : i = j
      · simp [h]
      · have h' : ¬ j = i := fun e => h e.symm
        simp [h, h', hi]
    · rw [if_pos rfl, if_pos (by omega)]
      rw [hb] at step
      refine step _ (fun i hi => ?_)
      rw [BitVec.getLsbD_or, BitVec.getLsbD_twoPow]
      by_cases h : i = j
      · simp [h]; omega
      · have h' : ¬ j = i := fun e => h e.symm
        simp [h, h']

theorem sign_is (v : Int) (hv : -9223372036854775808 ≤ v ∧ v ≤ 9223372036854775807) (m : Nat) (hm : m < 64) :
    (Go.bits .and .i64 (shr .i64 v (m : Int)) 1 == 1) = (BitVec.ofInt 64 v).getLsbD m := by
  have h64 : min (m : Int).toNat IntKind.i64.bits = m := by
    show min m 64 = m
    omega
  unfold shr
  rw [h64, and_i64]
  have e : v / 2 ^ m = ((BitVec.ofInt 64 v).sshiftRight m).toInt := by
    rw [BitVec.toInt_sshiftRight, Int.shiftRight_eq_div_pow, ofInt_toInt v hv]
    simp
  rw [e, BitVec.ofInt_toInt]
  have hb : ((BitVec.ofInt 64 v).sshiftRight m &&& BitVec.ofInt 64 1) = if (BitVec.ofInt 64 v).getLsbD m then 1#64 else 0#64 := by
    apply BitVec.eq_of_getLsbD_eq
    intro i hi
    have h1 : BitVec.ofInt 64 1 = BitVec.twoPow 64 0 := by decide
    rw [BitVec.getLsbD_and, h1, BitVec.getLsbD_twoPow, BitVec.getLsbD_sshiftRight]
    by_cases h : i = 0
    · subst h
      cases hg : (BitVec.ofInt 64 v).getLsbD m <;> simp [hm]
    · have h' : ¬ 0 = i := fun e => h e.symm
      cases (BitVec.ofInt 64 v).getLsbD m
      · simp [h']
      · have : (1#64).getLsbD i = false := by
          have h2 : (1#64) = BitVec.twoPow 64 0 := by decide
          rw [h2, BitVec.getLsbD_twoPow]
          simp [h']
        simp [h', this]
  rw [hb]
  cases (BitVec.ofInt 64 v).getLsbD m <;> decide

theorem ref_narrow (v n : Int) (hv : -9223372036854775808 ≤ v ∧ v ≤ 9223372036854775807) (k : Nat) (hk : 70 < k) : hansomref01_Narrow.f k v n = num_Narrow.f v n := by
  obtain ⟨k, rfl⟩ : ∃ m, k = m + 1 := ⟨k - 1, by omega⟩
  unfold hansomref01_Narrow.f
  by_cases h1 : n < 1
  · rw [if_pos h1]
    simp only [hansomref01_Narrow.j0, num_Narrow.f]
    rw [if_pos trivial, if_pos h1]
  · rw [if_neg h1]
    by_cases h2 : n > 64
    · rw [decide_eq_true h2]
      simp only [hansomref01_Narrow.j0, num_Narrow.f]
      rw [if_pos trivial, if_neg h1, if_pos h2]
    · rw [decide_eq_false h2, narrow_is v n (by omega) (by omega)]
      obtain ⟨m, rfl⟩ := Int.eq_ofNat_of_zero_le (by omega : 0 ≤ n)
      simp only [hansomref01_Narrow.j0]
      have e : IntKind.u64.wrap (wrap64 ((m : Int) - 1)) = ((m - 1 : Nat) : Int) := by
        rw [IntKind.wrap_u64]
        unfold wrap64
        omega
      rw [if_neg (by simp), e, if_pos (by omega), sign_is v hv (m - 1) (by omega)]
      have hx := ref_loop v (BitVec.ofInt 64 v) m (by omega) _ rfl (64 - m) m (BitVec.ofInt 64 v) k (by omega) (by omega) (by omega) (fun i hi => by
        by_cases h : i < m
        · rw [if_pos h]
        · rw [if_neg h, if_neg h])
      rw [ofInt_toInt v hv] at hx
      exact hx

theorem bit_is (w : Nat) (j : Nat) (hj : j < 64) (hw : w < 18446744073709551616) : Go.bits .and .u64 (shr .u64 (w : Int) (j : Int)) 1 = ((w / 2 ^ j % 2 : Nat) : Int) := by
  have h64 : min (j : Int).toNat IntKind.u64.bits = j := by
    show min j 64 = j
    omega
  unfold shr
  rw [h64]
  have e : (w : Int) / 2 ^ j = ((w / 2 ^ j : Nat) : Int) := by
    rw [Int.natCast_ediv, Int.natCast_pow]
    rfl
  have hle : w / 2 ^ j ≤ w := Nat.div_le_self _ _
  rw [e]
  generalize w / 2 ^ j = u at *
  rw [and_one_u64 _ (by omega) (by omega)]
  omega

theorem ref_ones (w : Nat) (hw : w < 18446744073709551616) (d : Nat) : ∀ (j : Nat) (x : Int) (k : Nat), j + d = 64 → d < k → 0 ≤ x → x ≤ j →
    hansomref01_Ones.l0 k (w : Int) x (j : Int) = some (x + cnt d (w / 2 ^ j)) := by
  induction d with
  | zero =>
    intro j x k hj hk _ _
    obtain ⟨k, rfl⟩ : ∃ m, k = m + 1 := ⟨k - 1, by omega⟩
    simp only [hansomref01_Ones.l0]
    rw [if_neg (by omega)]
    simp [cnt]
  | succ d ih =>
    intro j x k hj hk hx0 hx1
    obtain ⟨k, rfl⟩ : ∃ m, k = m + 1 := ⟨k - 1, by omega⟩
    simp only [hansomref01_Ones.l0]
    have e0 : IntKind.u64.wrap (j : Int) = (j : Int) := by rw [IntKind.wrap_u64]; omega
    have e1 : wrap64 ((j : Int) + 1) = ((j + 1 : Nat) : Int) := by unfold wrap64; omega
    have hm : w / 2 ^ j % 2 < 2 := Nat.mod_lt _ (by decide)
    rw [if_pos (by omega), e0, if_pos (by omega), e1, bit_is w j (by omega) hw, wrap_idle (n := ((w / 2 ^ j % 2 : Nat) : Int)) (by omega) (by omega), wrap_idle (by omega) (by omega)]
    rw [ih (j + 1) _ k (by omega) (by omega) (by omega) (by omega)]
    simp only [cnt]
    have hd : w / 2 ^ (j + 1) = w / 2 ^ j / 2 := by rw [Nat.div_div_eq_div_mul, ← Nat.pow_succ]
    rw [hd]
    generalize w / 2 ^ j = u at *
    congr 1
    omega

/-- The number of the highest bit that is set, from place j on, d places, as a loop upward tells it. -/
theorem ref_log (w : Nat) (hw : w < 18446744073709551616) (d : Nat) : ∀ (j : Nat) (x : Int) (k : Nat), j + d = 64 → d < k →
    hansomref01_Log.l0 k (w : Int) x (j : Int) = some (if w / 2 ^ j = 0 then x else lg d (w / 2 ^ j) ((j : Int) - 1)) := by
  induction d with
  | zero =>
    intro j x k hj hk
    obtain ⟨k, rfl⟩ : ∃ m, k = m + 1 := ⟨k - 1, by omega⟩
    simp only [hansomref01_Log.l0]
    rw [if_neg (by omega)]
    have : w / 2 ^ j = 0 := Nat.div_eq_of_lt (by rw [show j = 64 by omega]; exact hw)
    rw [if_pos this]
  | succ d ih =>
    intro j x k hj hk
    obtain ⟨k, rfl⟩ : ∃ m, k = m + 1 := ⟨k - 1, by omega⟩
    simp only [hansomref01_Log.l0]
    have e0 : IntKind.u64.wrap (j : Int) = (j : Int) := by rw [IntKind.wrap_u64]; omega
    have e1 : wrap64 ((j : Int) + 1) = ((j + 1 : Nat) : Int) := by unfold wrap64; omega
    have hd : w / 2 ^ (j + 1) = w / 2 ^ j / 2 := by rw [Nat.div_div_eq_div_mul, ← Nat.pow_succ]
    rw [if_pos (by omega), e0, if_pos (by omega), e1, bit_is w j (by omega) hw, ih (j + 1) _ k (by omega) (by omega), ih (j + 1) _ k (by omega) (by omega), hd]
    generalize w / 2 ^ j = u
    simp only [lg]
    have ej : (((j + 1 : Nat) : Int) - 1) = (j : Int) - 1 + 1 := by omega
    rw [ej]
    by_cases h : u = 0
    · subst h
      simp
    · by_cases h1 : ((u % 2 : Nat) : Int) = 1
      · rw [if_pos h1, if_neg h, if_neg h]
        by_cases h2 : u / 2 = 0
        · rw [if_pos h2, h2, lg_zero]
          congr 1
          omega
        · rw [if_neg h2]
      · have h2 : ¬ u / 2 = 0 := by omega
        rw [if_neg h1, if_neg h2, if_neg h, if_neg h]

theorem awake_more : hansomlaw01_awake.f 80 = some true := by decide +kernel

theorem key_same (a b : Int) : hansomref01_Key.f a b = num_Key.f a b := rfl

theorem NumNarrows : hansomlaw01_NumNarrows.Pure := by
  intro v n w a b hv hn hw ha hb
  have hw' := bounds_u64 hw
  have hv' := bounds_i64 hv
  refine ⟨80, ?_⟩
  obtain ⟨m, rfl⟩ := Int.eq_ofNat_of_zero_le hw'.1
  have ho : hansomref01_Ones.f 80 (m : Int) = some (cnt 64 m : Int) := by
    unfold hansomref01_Ones.f
    have := ref_ones m (by omega) 64 0 0 80 (by omega) (by omega) (by omega) (by omega)
    simpa using this
  have hl : hansomref01_Log.f 80 (m : Int) = some (lg 64 m (-1)) := by
    unfold hansomref01_Log.f
    have := ref_log m (by omega) 64 0 (-1) 80 (by omega) (by omega)
    rw [show ((0 : Nat) : Int) = 0 from rfl] at this
    rw [this]
    simp only [Nat.pow_zero, Nat.div_one]
    by_cases h : m = 0
    · subst h
      rw [if_pos rfl, lg_zero]
    · rw [if_neg h]
      rfl
  obtain ⟨x, hx⟩ : ∃ x, num_Narrow.f v n = some x := by
    by_cases h1 : n < 1
    · exact ⟨(0, false), by unfold num_Narrow.f; rw [if_pos h1]⟩
    · by_cases h2 : n > 64
      · exact ⟨(0, false), by unfold num_Narrow.f; rw [if_neg h1, if_pos h2]⟩
      · exact ⟨_, narrow_is v n (by omega) (by omega)⟩
  obtain ⟨y, hy⟩ : ∃ y, num_Key.f a b = some y := by
    unfold num_Key.f
    (repeat' split) <;> exact ⟨_, rfl⟩
  unfold hansomlaw01_NumNarrows.f
  rw [ref_narrow v n hv' 80 (by omega), key_same, hx, hy, awake_more]
  simp only [Option.bind_some, if_true]
  rw [ones_f (m : Int) (by omega) (by omega) 80 (by omega), ho]
  simp only [Option.bind_some]
  rw [log_f (m : Int) (by omega) (by omega) 80 (by omega), hl]
  simp

end Go.Proofs.Ytbpghlfmkbjjcaa.Pure
