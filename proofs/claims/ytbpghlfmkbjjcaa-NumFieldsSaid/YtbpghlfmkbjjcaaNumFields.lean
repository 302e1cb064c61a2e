/- The walk of NumFields. -/
import Derived.Test.YtbpghlfmkbjjcaaNumLaw
namespace Go.Proofs.Ytbpghlfmkbjjcaa.Num
open Go Go.RowKit Go.Proofs.YtbpghlfmkbjjcaaW.PrintWords Go.Proofs.Ytbpghlfmkbjjcaa.Base Go.Proofs.Ytbpghlfmkbjjcaa.NumMath
set_option linter.unusedVariables false
set_option linter.unusedSimpArgs false
theorem width_is (v : Int) : ∃ p : Nat, 1 ≤ p ∧ p ≤ 31 ∧ wrap64 (1 + wrap64 ((IntKind.u64.wrap v).tmod 31)) = (p : Int) := by
  rw [IntKind.wrap_u64, Int.tmod_eq_emod_of_nonneg (Int.emod_nonneg _ (by decide))]
  refine ⟨(1 + v % 18446744073709551616 % 31).toNat, by omega, by omega, ?_⟩
  unfold wrap64
  omega
theorem mask_is (x p : Nat) (hp : p ≤ 31) (hx : x < 18446744073709551616) : Go.bits .and .u64 (x : Int) (IntKind.u64.wrap (IntKind.u64.wrap (2 ^ p) - 1)) = ((x % 2 ^ p : Nat) : Int) := by
  have hle : (2 : Nat) ^ p ≤ 2 ^ 31 := Nat.pow_le_pow_right (by decide) hp
  have hpos : 0 < 2 ^ p := Nat.two_pow_pos p
  have e : IntKind.u64.wrap (IntKind.u64.wrap (2 ^ p) - 1) = ((2 ^ p - 1 : Nat) : Int) := by
    rw [IntKind.wrap_u64, IntKind.wrap_u64, show ((2 : Int) ^ p) = ((2 ^ p : Nat) : Int) by push_cast; rfl]
    generalize 2 ^ p = u at *
    omega
  rw [e, bits_and_u64_nat x _ hx (by omega), Nat.and_two_pow_sub_one_eq_mod]
theorem pack_two (x y p q : Nat) (hp1 : 1 ≤ p) (hp2 : p ≤ 31) (hq1 : 1 ≤ q) (hq2 : q ≤ 31) (hx : x < 2 ^ p) (hy : y < 2 ^ q) : packR [(x : Int), (y : Int)] [(p : Int), (q : Int)] = (((x + 2 ^ p * y : Nat) : Int), 0) := by
  have hr : right [(p : Int), (q : Int)] = true := by
    simp only [right, rightI, List.length_cons, List.length_nil]
    simp
    omega
  have hf : fit [(x : Int), (y : Int)] [(p : Int), (q : Int)] = true := by simp [fit, hx, hy]
  unfold packR
  rw [if_pos ⟨hr, rfl⟩, if_pos hf]
  simp [val]
theorem word_lt (x y p q : Nat) (hp2 : p ≤ 31) (hq2 : q ≤ 31) (hx : x < 2 ^ p) (hy : y < 2 ^ q) : x + 2 ^ p * y < 18446744073709551616 := by
  have h1 : 2 ^ p * y + 2 ^ p ≤ 2 ^ p * 2 ^ q := by rw [← Nat.mul_succ]; exact Nat.mul_le_mul_left _ hy
  have h2 : 2 ^ p * 2 ^ q ≤ (2 : Nat) ^ 62 := by rw [← Nat.pow_add]; exact Nat.pow_le_pow_right (by decide) (by omega)
  omega
theorem high_same (x y b p : Nat) (hx : x < 2 ^ p) (hy : y < 2 ^ p) (lx : x + 2 ^ p * b < 18446744073709551616) (ly : y + 2 ^ p * b < 18446744073709551616) :
    (Go.bits .xor .u64 ((x + 2 ^ p * b : Nat) : Int) ((y + 2 ^ p * b : Nat) : Int) / 2 ^ p == 0) = true := by
  rw [u64_xor_nat _ _ lx ly, beq_iff_eq, show ((2 : Int) ^ p) = ((2 ^ p : Nat) : Int) by push_cast; rfl, ← Int.natCast_ediv, Nat.xor_div_two_pow]
  rw [Nat.add_mul_div_left _ _ (Nat.two_pow_pos p), Nat.add_mul_div_left _ _ (Nat.two_pow_pos p), Nat.div_eq_of_lt hx, Nat.div_eq_of_lt hy, Nat.xor_self]
  rfl
theorem low_same (x b d p : Nat) (hp : p ≤ 31) (hx : x < 2 ^ p) (lx : x + 2 ^ p * b < 18446744073709551616) (ly : x + 2 ^ p * d < 18446744073709551616) :
    (Go.bits .and .u64 (Go.bits .xor .u64 ((x + 2 ^ p * b : Nat) : Int) ((x + 2 ^ p * d : Nat) : Int)) (IntKind.u64.wrap (IntKind.u64.wrap (2 ^ p) - 1)) == 0) = true := by
  have hlt : (x + 2 ^ p * b) ^^^ (x + 2 ^ p * d) < 18446744073709551616 := Nat.xor_lt_two_pow (n := 64) lx ly
  rw [u64_xor_nat _ _ lx ly, mask_is _ p hp hlt, beq_iff_eq, Nat.xor_mod_two_pow, Nat.add_mul_mod_self_left, Nat.add_mul_mod_self_left, Nat.xor_self]
  rfl
set_option maxRecDepth 100000 in
set_option maxHeartbeats 1000000 in
theorem fields (a b c d : Nat) (wa wb : Int) (w : World) (ha : a < 18446744073709551616) (hb : b < 18446744073709551616) (hc : c < 18446744073709551616) (hd : d < 18446744073709551616) :
    Calls Try.prog 5 #[.int .u64 a, .int .u64 b, .int .u64 c, .int .u64 d, .int .i64 wa, .int .i64 wb] w fun e w' => e = .returned (.bool true) ∧ Below w.heap.size w w' := by
  obtain ⟨p, hp1, hp2, hp⟩ := width_is wa
  obtain ⟨q, hq1, hq2, hq⟩ := width_is wb
  have HP := Aside0.mk hp
  have HQ := Aside0.mk hq
  have HA := Aside0.mk (mask_is a p hp2 ha)
  have HB := Aside0.mk (mask_is b q hq2 hb)
  have HC := Aside0.mk (mask_is c p hp2 hc)
  have HD := Aside0.mk (mask_is d q hq2 hd)
  obtain ⟨a2, ea⟩ : ∃ x, a % 2 ^ p = x := ⟨_, rfl⟩
  obtain ⟨b2, eb⟩ : ∃ x, b % 2 ^ q = x := ⟨_, rfl⟩
  obtain ⟨c2, ec⟩ : ∃ x, c % 2 ^ p = x := ⟨_, rfl⟩
  obtain ⟨d2, ed⟩ : ∃ x, d % 2 ^ q = x := ⟨_, rfl⟩
  have la : a2 < 2 ^ p := by rw [← ea]; exact Nat.mod_lt _ (Nat.two_pow_pos p)
  have lb : b2 < 2 ^ q := by rw [← eb]; exact Nat.mod_lt _ (Nat.two_pow_pos q)
  have lc : c2 < 2 ^ p := by rw [← ec]; exact Nat.mod_lt _ (Nat.two_pow_pos p)
  have ld : d2 < 2 ^ q := by rw [← ed]; exact Nat.mod_lt _ (Nat.two_pow_pos q)
  rw [ea] at HA
  rw [eb] at HB
  rw [ec] at HC
  rw [ed] at HD
  have lx := word_lt a2 b2 p q hp2 hq2 la lb
  have ly := word_lt c2 b2 p q hp2 hq2 lc lb
  have lz := word_lt c2 d2 p q hp2 hq2 lc ld
  have HX := Aside0.mk (pack_two a2 b2 p q hp1 hp2 hq1 hq2 la lb)
  have HY := Aside0.mk (pack_two c2 b2 p q hp1 hp2 hq1 hq2 lc lb)
  have HZ := Aside0.mk (pack_two c2 d2 p q hp1 hp2 hq1 hq2 lc ld)
  have HS := Aside0.mk (high_same a2 c2 b2 p la lc lx ly)
  have HL := Aside0.mk (low_same c2 b2 d2 p hp2 lc ly lz)
  have hlt : b2 < d2 → c2 + 2 ^ p * b2 < c2 + 2 ^ p * d2 := fun h => Nat.add_lt_add_left (Nat.mul_lt_mul_of_pos_left h (Nat.two_pow_pos p)) _
  have hgt : d2 < b2 → c2 + 2 ^ p * d2 < c2 + 2 ^ p * b2 := fun h => Nat.add_lt_add_left (Nat.mul_lt_mul_of_pos_left h (Nat.two_pow_pos p)) _
  have LT := Aside0.mk hlt
  have GT := Aside0.mk hgt
  have bx : ∀ x y p q : Nat, p ≤ 31 → q ≤ 31 → x < 2 ^ p → y < 2 ^ q → ∀ z ∈ [(x : Int), (y : Int)], 0 ≤ z ∧ z ≤ 18446744073709551615 := by
    intro x y p q h1 h2 h3 h4 z hz
    have e1 : (2 : Nat) ^ p ≤ 2 ^ 31 := Nat.pow_le_pow_right (by decide) h1
    have e2 : (2 : Nat) ^ q ≤ 2 ^ 31 := Nat.pow_le_pow_right (by decide) h2
    simp only [List.mem_cons, List.not_mem_nil, or_false] at hz
    omega
  have BX := Aside0.mk (bx a2 b2 p q hp2 hq2 la lb)
  have BY := Aside0.mk (bx c2 b2 p q hp2 hq2 lc lb)
  have BZ := Aside0.mk (bx c2 d2 p q hp2 hq2 lc ld)
  have BW : Aside0 (∀ z ∈ [(p : Int), (q : Int)], -9223372036854775808 ≤ z ∧ z ≤ 9223372036854775807) := ⟨by
    intro z hz
    simp only [List.mem_cons, List.not_mem_nil, or_false] at hz
    omega⟩
  clear bx ea eb ec ed la lb lc ld lx ly lz hlt hgt hp hq ha hb hc hd
  revert HX HY HZ HS HL LT GT
  generalize a2 + 2 ^ p * b2 = X
  generalize c2 + 2 ^ p * b2 = Y
  generalize c2 + 2 ^ p * d2 = Z
  intro HX HY HZ HS HL LT GT
  have H0 := Hold.start (w := w) (R := fun x => Below w.heap.size w x) (fun w' h => h)
  go_enter Try.func5, Try.ntmps5
  go_upto_region 2 with fail
  rw [HP.out, HQ.out]
  clear HP HQ
  go_upto_region 4 with fail
  rw [HA.out, HB.out, HC.out, HD.out]
  clear HA HB HC HD
  go_upto_region 5 with fail
  have H1 := (H0.alloc (.cells #[.int .i64 p, .int .i64 q] 3)).alsoC (C_lit (k := .i64) w [(p : Int), (q : Int)] #[.int .i64 p, .int .i64 q] 3 (0, 0) rfl (by simp))
  revert H1
  generalize w.alloc (.cells #[.int .i64 p, .int .i64 q] 3) = w1
  intro H1
  go_wp2_with fail
  have hC := C_lit (k := .u64) w1 [(a2 : Int), (b2 : Int)] #[.int .u64 a2, .int .u64 b2] 25 (0, 0) rfl (by simp)
  have H2 := H1.alloc (.cells #[.int .u64 a2, .int .u64 b2] 25)
  revert hC H2
  generalize w1.alloc (.cells #[.int .u64 a2, .int .u64 b2] 25) = w2
  intro hC H2
  refine (pack_calls _ _ 2 2 [(a2 : Int), (b2 : Int)] [(p : Int), (q : Int)] w2 hC H2.out.2 BX.out BW.out HX.out).mono ?_
  rintro e w' ⟨rfl, rfl⟩
  clear hC
  go_wp2_with fail
  have hC := C_lit (k := .u64) w2 [(c2 : Int), (b2 : Int)] #[.int .u64 c2, .int .u64 b2] 25 (0, 0) rfl (by simp)
  have H3 := H2.alloc (.cells #[.int .u64 c2, .int .u64 b2] 25)
  revert hC H3
  generalize w2.alloc (.cells #[.int .u64 c2, .int .u64 b2] 25) = w3
  intro hC H3
  refine (pack_calls _ _ 2 2 [(c2 : Int), (b2 : Int)] [(p : Int), (q : Int)] w3 hC H3.out.2 BY.out BW.out HY.out).mono ?_
  rintro e w' ⟨rfl, rfl⟩
  clear hC
  go_wp2_with fail
  have hC := C_lit (k := .u64) w3 [(c2 : Int), (d2 : Int)] #[.int .u64 c2, .int .u64 d2] 25 (0, 0) rfl (by simp)
  have H4 := H3.alloc (.cells #[.int .u64 c2, .int .u64 d2] 25)
  revert hC H4
  generalize w3.alloc (.cells #[.int .u64 c2, .int .u64 d2] 25) = w4
  intro hC H4
  refine (pack_calls _ _ 2 2 [(c2 : Int), (d2 : Int)] [(p : Int), (q : Int)] w4 hC H4.out.2 BZ.out BW.out HZ.out).mono ?_
  rintro e w' ⟨rfl, rfl⟩
  clear hC
  go_wp2_with fail
  refine (awake_calls w4).mono ?_
  rintro e w5 ⟨rfl, hw⟩
  have H5 := H4.step hw
  clear hw
  have hs := HS.out
  have hl := HL.out
  rcases Nat.lt_trichotomy b2 d2 with h | h | h
  · have h2 := LT.out h
    go_wp2
    go_ret
    exact ⟨rfl, H5.out.1⟩
  · subst h
    go_wp2
    go_ret
    exact ⟨rfl, H5.out.1⟩
  · have h2 := GT.out h
    go_wp2
    go_ret
    exact ⟨rfl, H5.out.1⟩
theorem fields_any (a b c d wa wb : Int) (w : World) (ha : (Lit.int .u64 a).wf = true) (hb : (Lit.int .u64 b).wf = true) (hc : (Lit.int .u64 c).wf = true) (hd : (Lit.int .u64 d).wf = true) :
    Calls Try.prog 5 #[.int .u64 a, .int .u64 b, .int .u64 c, .int .u64 d, .int .i64 wa, .int .i64 wb] w fun e w' => e = .returned (.bool true) ∧ Below w.heap.size w w' := by
  have h1 := wf_u64 ha
  have h2 := wf_u64 hb
  have h3 := wf_u64 hc
  have h4 := wf_u64 hd
  obtain ⟨a, rfl⟩ : ∃ n : Nat, a = n := ⟨a.toNat, by omega⟩
  obtain ⟨b, rfl⟩ : ∃ n : Nat, b = n := ⟨b.toNat, by omega⟩
  obtain ⟨c, rfl⟩ : ∃ n : Nat, c = n := ⟨c.toNat, by omega⟩
  obtain ⟨d, rfl⟩ : ∃ n : Nat, d = n := ⟨d.toNat, by omega⟩
  exact fields a b c d wa wb w (by omega) (by omega) (by omega) (by omega)
end Go.Proofs.Ytbpghlfmkbjjcaa.Num
