/- The reference's Take. -/
import Derived.Test.YtfkghmalccpcbaaTake
namespace Go.Proofs.Ytfkghmalccpcbaa.Frame
open Go Go.RowKit Go.Proofs.YtfkghmalccpcbaaW.PrintWords Go.Proofs.Ytfkghmalccpcbaa.Base Go.Proofs.Ytfkghmalccpcbaa.CrcMath Go.Proofs.Ytfkghmalccpcbaa.FrameMath
set_option linter.unusedVariables false
set_option linter.unusedSimpArgs false
theorem drew_on {w w' : World} {m x : Nat} (h : ∃ k, w' = (w.drewN (m + x)).drewN k) : ∃ n, w' = w.drewN (m + n) := by
  obtain ⟨k, h⟩ := h
  exact ⟨x + k, by rw [h, World.drewN_drewN, Nat.add_assoc]⟩
theorem num4_take (xs : List Int) : num4 (xs.take 4) = num4 xs := by
  simp only [num4, part4, List.getD_eq_getElem?_getD, List.getElem?_take]
  rfl
theorem le4_num4 (xs : List Int) (h : 4 ≤ xs.length) (hx : ∀ x ∈ xs, 0 ≤ x ∧ x ≤ 255) : le4 (num4 xs) = xs.take 4 := by
  obtain ⟨a, b, c, d, t, rfl⟩ : ∃ a b c d t, xs = a :: b :: c :: d :: t := by
    match xs, h with
    | a :: b :: c :: d :: t, _ => exact ⟨a, b, c, d, t, rfl⟩
  have ha := hx a (by simp)
  have hb := hx b (by simp)
  have hc := hx c (by simp)
  have hd := hx d (by simp)
  have e : num4 (a :: b :: c :: d :: t) = a + b * 256 + c * 65536 + d * 16777216 := by
    simp [num4, part4]
  rw [e]
  simp only [le4, List.take_succ_cons, List.take_zero]
  congr 1
  · omega
  congr 1
  · omega
  congr 1
  · omega
  congr 1
  · omega

set_option maxRecDepth 100000 in
set_option maxHeartbeats 1000000 in
theorem reftake_calls (A : Option Addr) (c : Nat) (xs : List Int) (w : World) (hr : (Kd.int .u8).C w A xs.length xs) (hc : xs.length ≤ c) (hn : xs.length * 1 ≤ 140737488351232) (hx : ∀ x ∈ xs, 0 ≤ x ∧ x ≤ 255) :
    Calls Try.prog 17 #[.slice A xs.length c] w (TakePost xs w) := by
  by_cases h0 : xs.length = 0
  · have h0' := Aside0.mk h0
    go_enter Try.func17, Try.ntmps17
    go_wp2
    go_ret3
    exact take_none (m := 0) (by unfold takeI; rw [if_pos h0'.out]) (Below.refl _ _)
  obtain ⟨ad, z, rfl, hcz, hz⟩ := at_nat hr 0 (by omega)
  have hcz : w.cell? ad = some (.int .u8 z) := by rw [← Addr.add_zero' ad]; exact hcz
  have HR := Aside0.mk hr
  have HX := Aside0.mk hx
  clear hr hx
  by_cases h1 : z ≠ 165 ∧ z ≠ 0
  · have h1' := Aside0.mk h1
    have h2 : (z != 165) = true := by simp [h1.1]
    have h3 : (z != 0) = true := by simp [h1.2]
    have hT : takeI xs = ([], 0, 10) := by unfold takeI; rw [if_neg h0, hz.out, if_pos h1]
    have HT := Aside0.mk hT
    clear hT h1
    go_enter Try.func17, Try.ntmps17
    go_wp2
    go_ret3
    exact take_none (m := 0) HT.out (Below.refl _ _)
  by_cases h2 : z = 0 ∨ xs.length < 10
  · have hT : takeI xs = ([], 0, 9) := by unfold takeI; rw [if_neg h0, hz.out, if_neg h1, if_pos h2]
    have HT := Aside0.mk hT
    clear hT
    by_cases h3 : z = 0
    · have h4 : (z == 0) = true := by simp [h3]
      subst h3
      clear h1 h2
      go_enter Try.func17, Try.ntmps17
      go_wp2
      go_ret3
      exact take_none (m := 0) HT.out (Below.refl _ _)
    · have h5 : z = 165 := by omega
      have h6 : (xs.length : Int) < 10 := by omega
      subst h5
      clear h1 h2 h3
      go_enter Try.func17, Try.ntmps17
      go_wp2
      go_ret3
      exact take_none (m := 0) HT.out (Below.refl _ _)
  obtain rfl : z = 165 := by omega
  have h3 : ¬ (xs.length : Int) < 10 := by omega
  have h10 : 10 ≤ xs.length := by omega
  have hb1 : ∀ x ∈ xs.drop 1, 0 ≤ x ∧ x ≤ 255 := fun x h => HX.out x (List.mem_of_mem_drop h)
  have hb5 : ∀ x ∈ xs.drop 5, 0 ≤ x ∧ x ≤ 255 := fun x h => HX.out x (List.mem_of_mem_drop h)
  obtain ⟨n, hN⟩ : ∃ n : Nat, num4 (xs.drop 1) = n := ⟨_, (Int.toNat_of_nonneg (num4_bounds _ hb1).1).symm⟩
  have hc1 := C_cut HR.out 1 4 (by omega)
  have hl1 : ((xs.drop 1).take 4).length = 4 := by rw [List.length_take, List.length_drop]; omega
  rw [show ad.add 1 = ⟨ad.block, ad.off + 1, none⟩ from by simp [Addr.add], hl1] at hc1
  have hle : (xs.drop 1).take 4 = le4 n := by rw [← hN]; exact (le4_num4 _ (by simp; omega) hb1).symm
  have HN := Aside0.mk (refof_calls (some ⟨ad.block, ad.off + 1, none⟩) (c - 1) 4 ((xs.drop 1).take 4) w hc1 (by omega) hl1.symm (fun x h => hb1 x (List.mem_of_mem_take h)))
  rw [num4_take, hN] at HN
  have hc1' := hc1
  rw [hle] at hc1'
  have HC1 := Aside0.mk hc1'
  have HB1 := Aside0.mk hb1
  have HB5 := Aside0.mk hb5
  clear hc1 hl1 hle hc1' hb1 hb5
  by_cases h4 : 1048576 < num4 (xs.drop 1)
  · have hT : takeI xs = ([], 0, 10) := by unfold takeI; rw [if_neg h0, hz.out, if_neg h1, if_neg h2, if_pos h4]
    have HT := Aside0.mk hT
    have h5 : decide ((1048576 : Int) < n) = true := by simp; omega
    clear hT h1 h2 h4 hN
    go_enter Try.func17, Try.ntmps17
    go_wp2_with fail
    refine HN.out.mono ?_
    rintro e w' ⟨rfl, m, rfl⟩
    go_wp2
    go_ret3
    exact take_none (m := 0) HT.out (pw_below_drewN (Below.refl _ _) m)
  have hn4 : (n : Int) ≤ 1048576 := by omega
  have h5 : decide ((1048576 : Int) < n) = false := by simp; omega
  have hnn : (num4 (xs.drop 1)).toNat = n := by omega
  by_cases h6 : xs.length < 10 + n
  · have hT : takeI xs = ([], 0, 9) := by unfold takeI; rw [if_neg h0, hz.out, if_neg h1, if_neg h2, if_neg h4, hnn, if_pos (.inl h6)]
    have HT := Aside0.mk hT
    have h7 : decide ((xs.length : Int) - 10 < (n : Int)) = true := by simp; omega
    clear hT h1 h2 h4 hN hnn
    go_enter Try.func17, Try.ntmps17
    go_wp2_with fail
    refine HN.out.mono ?_
    rintro e w' ⟨rfl, m, rfl⟩
    go_wp2
    go_ret3
    exact take_none (m := 0) HT.out (pw_below_drewN (Below.refl _ _) m)
  have h7 : decide ((xs.length : Int) - 10 < (n : Int)) = false := by simp; omega
  obtain ⟨ad', z, he, hcl, hy⟩ := at_nat HR.out (9 + n) (by omega)
  cases he
  by_cases h8 : z = 0
  · have hT : takeI xs = ([], 0, 9) := by unfold takeI; rw [if_neg h0, hz.out, if_neg h1, if_neg h2, if_neg h4, hnn, if_pos (.inr (by rw [hy.out]; exact h8))]
    have HT := Aside0.mk hT
    subst h8
    clear hT h1 h2 h4 hN hnn
    go_enter Try.func17, Try.ntmps17
    go_wp2_with fail
    refine HN.out.mono ?_
    rintro e w' ⟨rfl, m, rfl⟩
    go_wp2
    go_ret3
    exact take_none (m := 0) HT.out (pw_below_drewN (Below.refl _ _) m)
  have h9 : (z == 0) = false := by simpa using h8
  by_cases h10' : z = 90
  rotate_left
  · have hT : takeI xs = ([], 0, 10) := by unfold takeI; rw [if_neg h0, hz.out, if_neg h1, if_neg h2, if_neg h4, hnn, if_neg (by rw [hy.out]; omega), if_pos (by rw [hy.out]; exact h10')]
    have HT := Aside0.mk hT
    have h11 : (z != 90) = true := by simpa using h10'
    clear hT h1 h2 h4 hN hnn h8 h10'
    go_enter Try.func17, Try.ntmps17
    go_wp2_with fail
    refine HN.out.mono ?_
    rintro e w' ⟨rfl, m, rfl⟩
    go_wp2
    go_ret3
    exact take_none (m := 0) HT.out (pw_below_drewN (Below.refl _ _) m)
  subst h10'
  have hc5 := C_cut HR.out 5 4 (by omega)
  have hl5 : ((xs.drop 5).take 4).length = 4 := by rw [List.length_take, List.length_drop]; omega
  rw [show ad.add 5 = ⟨ad.block, ad.off + 5, none⟩ from by simp [Addr.add], hl5] at hc5
  have HN5 := Aside0.mk (fun m => refof_calls (some ⟨ad.block, ad.off + 5, none⟩) (c - 5) 4 ((xs.drop 5).take 4) (w.drewN m) (C_drawn hc5 m) (by omega) hl5.symm (fun x h => HB5.out x (List.mem_of_mem_take h)))
  rw [num4_take] at HN5
  have hb9 := C_cut HR.out 9 n (by omega)
  have hbl : ((xs.drop 9).take n).length = n := by rw [List.length_take, List.length_drop]; omega
  obtain ⟨m5, hM⟩ : ∃ m : Int, num4 (xs.drop 5) = m := ⟨_, rfl⟩
  have hby : ∀ x ∈ (xs.drop 9).take n, 0 ≤ x ∧ x ≤ 255 := fun x h => HX.out x (List.mem_of_mem_drop (List.mem_of_mem_take h))
  obtain ⟨body, hbody⟩ : ∃ b, (xs.drop 9).take n = b := ⟨_, rfl⟩
  have hB : takeI xs = if m5 ≠ (fsum body).toNat then ([], 0, 11) else (body, 10 + n, 0) := by
    unfold takeI; rw [if_neg h0, hz.out, if_neg h1, if_neg h2, if_neg h4, hnn, if_neg (by rw [hy.out]; omega), if_neg (by rw [hy.out]; simp), hM, hbody]
  rw [hbody] at hb9 hbl hby
  rw [hM] at HN5
  rw [show ad.add 9 = ⟨ad.block, ad.off + 9, none⟩ from by simp [Addr.add]] at hb9
  have hs9 : ∀ m s, Calls Try.prog 25 #[.int .u32 (BitVec.toNat s), .slice (some ⟨ad.block, ad.off + 9, none⟩) n (c - 9)] (w.drewN m) fun e w' => e = .returned (.int .u32 (add s body).toNat) ∧ w' = w.drewN m := by
    intro m s
    have := Crc.ref_calls s (some ⟨ad.block, ad.off + 9, none⟩) (c - 9) body (w.drewN m) (C_drawn hb9 m) hby
    rw [hbl] at this
    exact this.mono (fun e w' ⟨h, h'⟩ => ⟨h, h'.symm⟩)
  have HBL := Aside0.mk hbl
  have HB9 := Aside0.mk hb9
  have hm5 := Aside0.mk hM
  have hB' := Aside0.mk hB
  have hf : fsum body = add (sum (le4 n)) body := by unfold fsum; rw [hbl]
  clear hb9 hbl hM hbody hB hc5 hl5 hby
  obtain ⟨S, hS⟩ : ∃ S, ((add (sum (le4 n)) body).toNat : Int) = S := ⟨_, rfl⟩
  have hS' : Aside0 (((fsum body).toNat : Int) = S) := ⟨by rw [hf]; exact hS⟩
  have hs9' : ∀ m, Calls Try.prog 25 #[.int .u32 (BitVec.toNat (sum (le4 n))), .slice (some ⟨ad.block, ad.off + 9, none⟩) n (c - 9)] (w.drewN m) fun e w' => e = .returned (.int .u32 S) ∧ w' = w.drewN m := fun m => by
    have := hs9 m (sum (le4 n))
    rw [hS] at this
    exact this
  have HS9 := Aside0.mk hs9'
  clear hs9 hs9' hS hf
  have HSum := Aside0.mk (fun m => Crc.refsum_calls (some ⟨ad.block, ad.off + 1, none⟩) (c - 1) (le4 n) (w.drewN m) (C_drawn HC1.out m) (le4_bounds _))
  have q1 : (9 : Int) ≤ c := by omega
  have q2 : (5 : Int) ≤ c := by omega
  have q3 : (9 : Int) + n ≤ c := by omega
  have q4 : (9 : Int) ≤ 9 + n := by omega
  have q5 : 9 ≤ c := by omega
  have q6 : 5 ≤ c := by omega
  have q7 : 9 + n ≤ c := by omega
  have q8 : (0 : Int) ≤ n := by omega
  by_cases hq : m5 = S
  rotate_left
  · have hT : takeI xs = ([], 0, 11) := by rw [hB'.out, hS'.out, if_pos hq]
    have HT := Aside0.mk hT
    have h11 : (m5 != S) = true := by simpa using hq
    clear hT h1 h2 h4 hN hnn h8 hq
    go_enter Try.func17, Try.ntmps17
    go_wp2_with fail
    refine HN.out.mono ?_
    rintro e w' ⟨rfl, m, rfl⟩
    go_wp2
    go_quiet ((first | (go_at_call 29; go_must (exact (HN5.out _).mono (fun _ _ ⟨he, hm⟩ => ⟨he, drew_on hm⟩))) | (go_at_call 26; go_must (exact (HSum.out _).mono (fun _ _ ⟨he, hm⟩ => ⟨he, _, hm.symm⟩))) | (go_at_call 25; go_must (exact (HS9.out _).mono (fun _ _ ⟨he, hm⟩ => ⟨he, _, hm⟩)))))
    go_wp2
    go_ret3
    exact take_none (m := 0) HT.out (pw_below_drewN (pw_below_drewN (Below.refl _ _) _) _)
  · have hT : takeI xs = (body, 10 + n, 0) := by rw [hB'.out, hS'.out, if_neg (by simpa using hq)]
    have HT := Aside0.mk hT
    have h11 : (m5 != S) = false := by simpa using hq
    clear hT h1 h2 h4 hN hnn h8 hq
    go_enter Try.func17, Try.ntmps17
    go_wp2_with fail
    refine HN.out.mono ?_
    rintro e w' ⟨rfl, m, rfl⟩
    go_wp2
    go_quiet ((first | (go_at_call 29; go_must (exact (HN5.out _).mono (fun _ _ ⟨he, hm⟩ => ⟨he, drew_on hm⟩))) | (go_at_call 26; go_must (exact (HSum.out _).mono (fun _ _ ⟨he, hm⟩ => ⟨he, _, hm.symm⟩))) | (go_at_call 25; go_must (exact (HS9.out _).mono (fun _ _ ⟨he, hm⟩ => ⟨he, _, hm⟩)))))
    go_wp2_with (at_builtin; go_must (refine app_ints w (by rfl) _ _ _ rfl 5 1 Try.underlying22 HelpByte.info (by decide) _ 0 [] rfl (World.ownsRow_nil _ _ _ _) (pw_below_drewN (Below.refl _ _) _) _ _ _ body rfl ?hm (C_drawn HB9.out _) ?hb ?_); (case hm => have := HBL.out; omega); (case hb => omega); intro v w9 HO5 HW5)
    go_ret3
    unfold TakePost
    rw [HT.out]
    refine ⟨v, ?_, ?_, HW5.out⟩
    · simp
    · have := HO5.out
      simp only [List.nil_append] at this
      rw [show body.length = 0 + (9 + n - 9) from by rw [HBL.out]; omega]
      exact this
end Go.Proofs.Ytfkghmalccpcbaa.Frame
