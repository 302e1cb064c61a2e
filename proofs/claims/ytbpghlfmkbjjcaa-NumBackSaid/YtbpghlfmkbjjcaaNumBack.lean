/- The walks of NumUnpacks and NumBack. -/
import Derived.Test.YtbpghlfmkbjjcaaNumUn
namespace Go.Proofs.Ytbpghlfmkbjjcaa.Num
open Go Go.RowKit Go.Proofs.YtbpghlfmkbjjcaaW.PrintWords Go.Proofs.Ytbpghlfmkbjjcaa.Base Go.Proofs.Ytbpghlfmkbjjcaa.NumMath
set_option linter.unusedVariables false
set_option linter.unusedSimpArgs false
set_option maxRecDepth 100000 in
set_option maxHeartbeats 1000000 in
theorem unpacks (W : Nat) (B : Option Addr) (d : Nat) (bits : List Int) (w : World) (hr : (Kd.int .i64).C w B bits.length bits) (hd : bits.length ≤ d) (nb : bits.length * 8 ≤ 140737488351232) (hb : ∀ x ∈ bits, -9223372036854775808 ≤ x ∧ x ≤ 9223372036854775807) (hW : W < 18446744073709551616) :
    Calls Try.prog 8 #[.int .u64 W, .slice B bits.length d] w fun e w' => e = .returned (.bool true) ∧ Below w.heap.size w w' := by
  have H := Hold.start (w := w) (R := fun x => Below w.heap.size w x ∧ (Kd.int .i64).C x B bits.length bits) (fun w' h => ⟨h, Kd.C_below hr h⟩)
  have HB := Aside0.mk hb
  have HW := Aside0.mk hW
  obtain ⟨xs, q, hpr⟩ : ∃ x q, unpackR W bits = (x, q) := ⟨_, _, rfl⟩
  have HP := Aside0.mk hpr
  clear hr hb hW hpr
  go_enter Try.func8, Try.ntmps8
  go_wp2_with fail
  refine (HelpInt.own_calls B d bits 71 w H.out.2 hd nb).mono ?_
  rintro e w1 ⟨g, rfl, hg, hb1, hw⟩
  have H1 := (H.step hw).also (S := fun x => x.heap[g]? = some (.cells (tailed .i64 bits 71 3 0) 3 (0, 0))) (fun w' h => blk_below hb1 h)
  clear hg hb1 hw
  go_wp2_with fail
  refine (unpack_calls W (some ⟨g, 0, none⟩) _ bits w1 (C_tailed H1.out.2 (by omega)) HB.out HW.out).mono ?_
  intro e w2 hp
  obtain ⟨XA, xc, rfl, hX, hw⟩ := unpack_out HP.out hp
  have H2 := (H1.step hw).alsoC hX
  clear hp hX hw
  go_wp2_with fail
  refine (refunpack_calls W B d bits w2 H2.out.1.1.2 HB.out HW.out).mono ?_
  intro e w3 hp
  obtain ⟨YA, yc, rfl, hY, hw⟩ := unpack_out HP.out hp
  have H3 := (H2.step hw).alsoC hY
  clear hp hY hw
  go_wp2_with fail
  refine (awake_calls w3).mono ?_
  rintro e w4 ⟨rfl, hw⟩
  have H4 := H3.step hw
  clear hw
  go_wp2_with fail
  refine (HelpU64.plain_calls XA YA xc yc xs xs w4 H4.out.1.2 H4.out.2).mono ?_
  rw [decide_eq_true rfl]
  rintro e w' ⟨rfl, n, rfl⟩
  have H5 := H4.drawn n
  go_wp2_with fail
  refine (HelpInt.kept_calls g B d bits 71 (w4.drewN n) H5.out.1.1.2 nb H5.out.1.1.1.2).mono ?_
  rintro e w' ⟨rfl, m, rfl⟩
  have H6 := H4.drawn (n + m)
  go_wp2
  go_ret
  exact ⟨rfl, H6.out.1.1.1.1⟩

theorem val_lt : ∀ (bits v : List Int) (l : Nat), rightI l bits = true → fit v bits = true → val v bits < 2 ^ l
  | [], v, l, _, _ => by cases v <;> exact Nat.two_pow_pos l
  | n :: bits, [], l, _, _ => Nat.two_pow_pos l
  | n :: bits, x :: v, l, hr, hf => by
    simp only [rightI, Bool.and_eq_true, decide_eq_true_eq] at hr
    simp only [fit, Bool.and_eq_true, decide_eq_true_eq] at hf
    have ih := val_lt bits v (l - n.toNat) (by rw [show ((l - n.toNat : Nat) : Int) = (l : Int) - n by omega]; exact hr.2) hf.2
    have e : (2 : Nat) ^ l = 2 ^ n.toNat * 2 ^ (l - n.toNat) := by rw [← Nat.pow_add]; congr 1; omega
    simp only [val]
    rw [e]
    have h2 : 2 ^ n.toNat * val v bits + 2 ^ n.toNat ≤ 2 ^ n.toNat * 2 ^ (l - n.toNat) := by
      rw [← Nat.mul_succ]
      exact Nat.mul_le_mul_left _ ih
    have := hf.1
    omega
theorem pack_ok {v bits : List Int} {x : Int} (h : packR v bits = (x, 0)) : right bits = true ∧ v.length = bits.length ∧ fit v bits = true ∧ x = (val v bits : Nat) := by
  unfold packR at h
  split at h
  · rename_i h1
    split at h
    · rename_i h2
      injection h with h3 _
      exact ⟨h1.1, h1.2, h2, h3.symm⟩
    · injection h with _ h4
      simp at h4
  · injection h with _ h4
    simp at h4
theorem back_of_pack {v bits : List Int} {x : Int} (hv : ∀ y ∈ v, 0 ≤ y ∧ y ≤ 18446744073709551615) (h : packR v bits = (x, 0)) : ∃ X : Nat, x = X ∧ X < 18446744073709551616 ∧ unpackR X bits = (v, 0) := by
  obtain ⟨h1, h2, h3, rfl⟩ := pack_ok h
  refine ⟨_, rfl, val_lt bits v 64 (right_split h1).2 h3, ?_⟩
  unfold unpackR
  rw [if_pos h1, unpack_val v bits (fun y hy => (hv y hy).1) h2 h3, if_pos rfl]
theorem pack_of_back {W : Nat} {bits y : List Int} (h : unpackR W bits = (y, 0)) : packR y bits = ((W : Int), 0) := by
  unfold unpackR at h
  split at h
  · rename_i h1
    split at h
    · rename_i h2
      injection h with h3 _
      obtain ⟨h4, h5, h6⟩ := val_unpack bits W
      rw [h3] at h4 h5 h6
      unfold packR
      rw [if_pos ⟨h1, h4⟩, if_pos h5, h6 h2]
    · injection h with _ h4
      simp at h4
  · injection h with _ h4
    simp at h4
theorem unpackR_bytes {W : Nat} {bits y : List Int} {q : Int} (hW : W < 18446744073709551616) (h : unpackR W bits = (y, q)) : ∀ x ∈ y, 0 ≤ x ∧ x ≤ 18446744073709551615 := by
  unfold unpackR at h
  split at h
  · split at h
    · injection h with h3 _
      rw [← h3]
      exact unpack_bounds bits W hW
    · injection h with h3 _
      rw [← h3]
      intro x hx
      cases hx
  · injection h with h3 _
    rw [← h3]
    intro x hx
    cases hx
set_option maxRecDepth 100000 in
set_option maxHeartbeats 1000000 in
theorem back (A B : Option Addr) (c d : Nat) (v bits : List Int) (W : Nat) (w : World) (hv : (Kd.int .u64).C w A v.length v) (hr : (Kd.int .i64).C w B bits.length bits) (bv : ∀ x ∈ v, 0 ≤ x ∧ x ≤ 18446744073709551615) (hb : ∀ x ∈ bits, -9223372036854775808 ≤ x ∧ x ≤ 9223372036854775807) (hW : W < 18446744073709551616) :
    Calls Try.prog 9 #[.slice A v.length c, .slice B bits.length d, .int .u64 W] w fun e w' => e = .returned (.bool true) ∧ Below w.heap.size w w' := by
  have H := Hold.start (w := w) (R := fun x => Below w.heap.size w x ∧ (Kd.int .u64).C x A v.length v ∧ (Kd.int .i64).C x B bits.length bits) (fun w' h => ⟨h, Kd.C_below hv h, Kd.C_below hr h⟩)
  have BV := Aside0.mk bv
  have HB := Aside0.mk hb
  have HW := Aside0.mk hW
  obtain ⟨x, q, hpr⟩ : ∃ x q, packR v bits = (x, q) := ⟨_, _, rfl⟩
  obtain ⟨ys, f, hun⟩ : ∃ x q, unpackR W bits = (x, q) := ⟨_, _, rfl⟩
  obtain ⟨z, g, hpz⟩ : ∃ x q, packR ys bits = (x, q) := ⟨_, _, rfl⟩
  have HP := Aside0.mk hpr
  have HU := Aside0.mk hun
  have HZ := Aside0.mk hpz
  have BY := Aside0.mk (unpackR_bytes hW hun)
  have hlast : Aside0 (f = 0 → g = 0 ∧ z = W) := ⟨by
    rintro rfl
    rw [pack_of_back hun] at hpz
    injection hpz with h1 h2
    exact ⟨h2.symm, h1.symm⟩⟩
  clear hv hr bv hb hW hpr hun hpz
  by_cases hq : q = 0
  · subst hq
    obtain ⟨X, hX1, hX2, hX3⟩ := back_of_pack BV.out HP.out
    subst hX1
    have HX2 := Aside0.mk hX2
    have HX3 := Aside0.mk hX3
    clear hX2 hX3
    by_cases hf : f = 0
    · obtain ⟨rfl, rfl⟩ := hlast.out hf
      subst hf
      go_enter Try.func9, Try.ntmps9
      go_wp2_with fail
      refine (pack_calls A B c d v bits w H.out.2.1 H.out.2.2 BV.out HB.out HP.out).mono ?_
      rintro e w' ⟨rfl, rfl⟩
      go_wp2_with fail
      refine (unpack_calls X B d bits w H.out.2.2 HB.out HX2.out).mono ?_
      intro e w2 hp
      obtain ⟨YA, yc, rfl, hY, hw⟩ := unpack_out HX3.out hp
      have H2 := (H.step hw).alsoC hY
      clear hp hY hw
      go_wp2_with fail
      refine (HelpU64.plain_calls YA A yc c v v w2 H2.out.2 H2.out.1.2.1).mono ?_
      rw [decide_eq_true rfl]
      rintro e w' ⟨rfl, n, rfl⟩
      have H3 := H2.drawn n
      go_wp2_with fail
      refine (unpack_calls W B d bits _ H3.out.1.2.2 HB.out HW.out).mono ?_
      intro e w4 hp
      obtain ⟨ZA, zc, rfl, hZ, hw⟩ := unpack_out HU.out hp
      have H4 := (H3.step hw).alsoC hZ
      clear hp hZ hw
      go_wp2_with fail
      refine (pack_calls ZA B zc d ys bits w4 H4.out.2 H4.out.1.1.2.2 BY.out HB.out HZ.out).mono ?_
      rintro e w' ⟨rfl, rfl⟩
      go_wp2_with fail
      refine (awake_calls w4).mono ?_
      rintro e w5 ⟨rfl, hw⟩
      have H5 := H4.step hw
      clear hw
      go_wp2
      go_ret
      exact ⟨rfl, H5.out.1.1.1⟩
    · have hf0 : (f != 0) = true := by simpa using hf
      clear hlast hf
      go_enter Try.func9, Try.ntmps9
      go_wp2_with fail
      refine (pack_calls A B c d v bits w H.out.2.1 H.out.2.2 BV.out HB.out HP.out).mono ?_
      rintro e w' ⟨rfl, rfl⟩
      go_wp2_with fail
      refine (unpack_calls X B d bits w H.out.2.2 HB.out HX2.out).mono ?_
      intro e w2 hp
      obtain ⟨YA, yc, rfl, hY, hw⟩ := unpack_out HX3.out hp
      have H2 := (H.step hw).alsoC hY
      clear hp hY hw
      go_wp2_with fail
      refine (HelpU64.plain_calls YA A yc c v v w2 H2.out.2 H2.out.1.2.1).mono ?_
      rw [decide_eq_true rfl]
      rintro e w' ⟨rfl, n, rfl⟩
      have H3 := H2.drawn n
      go_wp2_with fail
      refine (unpack_calls W B d bits _ H3.out.1.2.2 HB.out HW.out).mono ?_
      intro e w4 hp
      obtain ⟨ZA, zc, rfl, hZ, hw⟩ := unpack_out HU.out hp
      have H4 := (H3.step hw).alsoC hZ
      clear hp hZ hw
      go_wp2_with fail
      refine (pack_calls ZA B zc d ys bits w4 H4.out.2 H4.out.1.1.2.2 BY.out HB.out HZ.out).mono ?_
      rintro e w' ⟨rfl, rfl⟩
      go_wp2_with fail
      refine (awake_calls w4).mono ?_
      rintro e w5 ⟨rfl, hw⟩
      have H5 := H4.step hw
      clear hw
      go_wp2
      go_ret
      exact ⟨rfl, H5.out.1.1.1⟩
  · have hq0 : (q == 0) = false := by simpa using hq
    clear hq
    by_cases hf : f = 0
    · obtain ⟨rfl, rfl⟩ := hlast.out hf
      subst hf
      go_enter Try.func9, Try.ntmps9
      go_wp2_with fail
      refine (pack_calls A B c d v bits w H.out.2.1 H.out.2.2 BV.out HB.out HP.out).mono ?_
      rintro e w' ⟨rfl, rfl⟩
      go_wp2_with fail
      refine (unpack_calls W B d bits _ H.out.2.2 HB.out HW.out).mono ?_
      intro e w4 hp
      obtain ⟨ZA, zc, rfl, hZ, hw⟩ := unpack_out HU.out hp
      have H4 := (H.step hw).alsoC hZ
      clear hp hZ hw
      go_wp2_with fail
      refine (pack_calls ZA B zc d ys bits w4 H4.out.2 H4.out.1.2.2 BY.out HB.out HZ.out).mono ?_
      rintro e w' ⟨rfl, rfl⟩
      go_wp2_with fail
      refine (awake_calls w4).mono ?_
      rintro e w5 ⟨rfl, hw⟩
      have H5 := H4.step hw
      clear hw
      go_wp2
      go_ret
      exact ⟨rfl, H5.out.1.1⟩
    · have hf0 : (f != 0) = true := by simpa using hf
      clear hlast hf
      go_enter Try.func9, Try.ntmps9
      go_wp2_with fail
      refine (pack_calls A B c d v bits w H.out.2.1 H.out.2.2 BV.out HB.out HP.out).mono ?_
      rintro e w' ⟨rfl, rfl⟩
      go_wp2_with fail
      refine (unpack_calls W B d bits _ H.out.2.2 HB.out HW.out).mono ?_
      intro e w4 hp
      obtain ⟨ZA, zc, rfl, hZ, hw⟩ := unpack_out HU.out hp
      have H4 := (H.step hw).alsoC hZ
      clear hp hZ hw
      go_wp2_with fail
      refine (pack_calls ZA B zc d ys bits w4 H4.out.2 H4.out.1.2.2 BY.out HB.out HZ.out).mono ?_
      rintro e w' ⟨rfl, rfl⟩
      go_wp2_with fail
      refine (awake_calls w4).mono ?_
      rintro e w5 ⟨rfl, hw⟩
      have H5 := H4.step hw
      clear hw
      go_wp2
      go_ret
      exact ⟨rfl, H5.out.1.1⟩
theorem nat_u64 {W : Int} (h : (Lit.int .u64 W).wf = true) : ∃ n : Nat, W = n ∧ n < 18446744073709551616 := by
  have := wf_u64 h
  exact ⟨W.toNat, by omega, by omega⟩
theorem unpacks_any (W : Int) (B : Option Addr) (d : Nat) (bits : List Int) (w : World) (hr : (Kd.int .i64).C w B bits.length bits) (hd : bits.length ≤ d) (nb : bits.length * 8 ≤ 140737488351232) (hb : ∀ x ∈ bits, (Lit.int .i64 x).wf = true) (hW : (Lit.int .u64 W).wf = true) :
    Calls Try.prog 8 #[.int .u64 W, .slice B bits.length d] w fun e w' => e = .returned (.bool true) ∧ Below w.heap.size w w' := by
  obtain ⟨n, rfl, hn⟩ := nat_u64 hW
  exact unpacks n B d bits w hr hd nb (fun x h => wf_i64 (hb x h)) hn
theorem back_any (A B : Option Addr) (c d : Nat) (v bits : List Int) (W : Int) (w : World) (hv : (Kd.int .u64).C w A v.length v) (hr : (Kd.int .i64).C w B bits.length bits) (bv : ∀ x ∈ v, (Lit.int .u64 x).wf = true) (hb : ∀ x ∈ bits, (Lit.int .i64 x).wf = true) (hW : (Lit.int .u64 W).wf = true) :
    Calls Try.prog 9 #[.slice A v.length c, .slice B bits.length d, .int .u64 W] w fun e w' => e = .returned (.bool true) ∧ Below w.heap.size w w' := by
  obtain ⟨n, rfl, hn⟩ := nat_u64 hW
  exact back A B c d v bits n w hv hr (fun x h => wf_u64 (bv x h)) (fun x h => wf_i64 (hb x h)) hn
end Go.Proofs.Ytbpghlfmkbjjcaa.Num
