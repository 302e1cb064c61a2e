/- The reference's Scan; rows that are the same. -/
import Derived.Test.YtfkghmalccpcbaaScan
namespace Go.Proofs.Ytfkghmalccpcbaa.Frame
open Go Go.RowKit Go.Proofs.YtfkghmalccpcbaaW.PrintWords Go.Proofs.Ytfkghmalccpcbaa.Base Go.Proofs.Ytfkghmalccpcbaa.CrcMath Go.Proofs.Ytfkghmalccpcbaa.FrameMath
set_option linter.unusedVariables false
set_option linter.unusedSimpArgs false
set_option maxRecDepth 100000 in
set_option maxHeartbeats 1000000 in
theorem refscan_calls (ad : Addr) (c : Nat) (xs : List Int) (w : World) (hr : (Kd.int .u8).C w (some ad) xs.length xs) (hc : xs.length ≤ c) (hn : xs.length ≤ 4000000000000) (hx : ∀ x ∈ xs, 0 ≤ x ∧ x ≤ 255) :
    Calls Try.prog 19 #[.slice (some ad) xs.length c] w (ScanPost xs w) := by
  have HR := Aside0.mk hr
  have HX := Aside0.mk hx
  clear hr hx
  go_enter Try.func19, Try.ntmps19
  go_wp2
  go_loopw [5, 6] (fun v i wr => ∃ (k f : Nat) (bs : List (List Int)), k ≤ xs.length ∧ i = .int .i64 k ∧ bs.length ≤ k ∧ Aside0 (LR w wr v bs) ∧ Aside0 (Below w.heap.size w wr) ∧ Aside0 (SI xs k f bs)) (fun _ i _ => xs.length - (intOf i).toNat)
  case atStart => exact ⟨0, xs.length + 1, [], by omega, rfl, by simp, ⟨LR_nil _ _⟩, ⟨Below.refl _ _⟩, ⟨by simp, by simp⟩⟩
  case round =>
    obtain ⟨k, f, bs, hk, rfl, hbk, HL, HB, HS⟩ := hrel
    obtain ⟨b, n, q, hT⟩ : ∃ b n q, takeI (xs.drop k) = (b, n, q) := ⟨_, _, _, rfl⟩
    have HT := Aside0.mk hT
    clear hT
    have HRr := Aside0.mk (Kd.C_below HR.out HB.out)
    go_wp2_with fail
    · refine (at_drop2 reftake_calls (by omega)).mono ?_
      intro e w2 hp
      have hT6 : takeI (xs.drop k) = ([], 0, 6) := by rw [List.drop_eq_nil_of_le (by omega)]; rfl
      obtain ⟨uA, uc, rfl, hu, hw⟩ := take_own hT6 hp
      have HL2 := Aside0.mk (LR_below HL.out hw)
      have HB2 := Aside0.mk (HB.out.trans (hw.mono HB.out.size))
      have HE := Aside0.mk (SI_end HS.out hT6 (by decide))
      clear hp hu hw HL HB HRr hT6
      go_wp2
      go_ret3
      exact scan_done (by rw [HE.out]; rfl) HL2.out HB2.out
    · refine (at_drop1 reftake_calls HRr.out (by omega) hn HX.out hk).mono ?_
      intro e w2 hp
      obtain ⟨uA, uc, rfl, hu, hw⟩ := take_own HT.out hp
      have HU := Aside0.mk (own_le hu HB.out.size)
      have HL2 := Aside0.mk (LR_below HL.out hw)
      have HB2 := Aside0.mk (HB.out.trans (hw.mono HB.out.size))
      clear hp hu hw HL HB HRr
      by_cases h0 : q = 0
      · obtain ⟨hn10, hkn, f', HS'⟩ := SI_on HS.out HT.out h0 hk
        have HS2 := Aside0.mk HS'
        clear HS'
        subst h0
        go_wp2_with (at_builtin; go_must (refine app_row w (by rfl) _ _ _ rfl Try.underlying37 slinfo _ bs rfl HL2.out HB2.out (.slice uA b.length uc) b HU.out rfl ?hb ?_); (case hb => omega); clear HL2 HB2; intro v4 w4 HL4 HB4)
        go_roundw
        case rel => exact ⟨k + n, f', bs ++ [b], by omega, by go_num, by simp; omega, HL4, HB4, HS2⟩
        case measure => simp [intOf]; omega
      · have HE := Aside0.mk (SI_end HS.out HT.out h0)
        have e0 : (q == 0) = false := by simpa using h0
        by_cases h6 : q = 6
        · subst h6
          go_wp2
          go_ret3
          exact scan_done (by rw [HE.out]; rfl) HL2.out HB2.out
        have e6 : (q == 6) = false := by simpa using h6
        have e00 : (q != 0) = true := by simpa using h0
        by_cases h9 : q = 9
        · subst h9
          go_wp2
          go_ret3
          exact scan_done (by rw [HE.out]; rfl) HL2.out HB2.out
        have e9 : (q == 9) = false := by simpa using h9
        have HE2 : Aside0 (scanI (xs.length + 1) xs = (bs, k, q)) := ⟨by rw [HE.out, if_neg (by omega)]⟩
        clear HE h0 h6 h9
        go_wp2
        go_ret3
        exact scan_done HE2.out HL2.out HB2.out

/-- A row out of rows. -/
theorem LR_at {w0 w : World} {A : Option Addr} {n c : Nat} {bs : List (List Int)} (h : LR w0 w (.slice A n c) bs) (k : Nat) (hk : k < bs.length) :
    ∃ ad B d, A = some ad ∧ w.cell? (ad.add k) = some (.slice B (bs.getD k []).length d) ∧ (Kd.int .u8).C w B (bs.getD k []).length (bs.getD k []) := by
  obtain ⟨vs, ho, hl, hr⟩ := h
  have hv : vs[k]? = some vs[k] := List.getElem?_eq_getElem (by omega)
  have hb : bs[k]? = some (bs.getD k []) := by rw [List.getElem?_eq_getElem hk]; simp [hk]
  have h1 := hr k _ _ hv hb
  obtain ⟨B, d, e, _, _, hB, _⟩ := int_reads h1
  have hA : ∃ g, A = some ⟨g, 0, none⟩ := by
    rcases ho.2 with ⟨_, h0⟩ | ⟨g, cap, cur, h, _⟩
    · omega
    · injection h with h
      exact ⟨g, h⟩
  obtain ⟨g, rfl⟩ := hA
  exact ⟨_, B, d, rfl, by rw [← e]; exact ho.cells rfl k _ hv, hB⟩
theorem LR_drawn {w0 w : World} {v : Value} {bs : List (List Int)} (h : LR w0 w v bs) (m : Nat) : LR w0 (w.drewN m) v bs := LR_below h (pw_below_drewN (Below.refl _ _) m)
theorem LR_len {w0 w : World} {v : Value} {bs : List (List Int)} (h : LR w0 w v bs) : ∃ A c, v = .slice A bs.length c := by
  obtain ⟨vs, ho, _⟩ := h
  rcases ho.2 with ⟨rfl, h0⟩ | ⟨g, cap, cur, rfl, _⟩
  · exact ⟨none, 0, by rw [h0]⟩
  · exact ⟨_, _, rfl⟩

set_option maxRecDepth 100000 in
set_option maxHeartbeats 1000000 in
theorem same_rows (w0 w1 : World) (A B : Option Addr) (c d : Nat) (bs : List (List Int)) (w : World) (hx : LR w0 w (.slice A bs.length c) bs) (hy : LR w1 w (.slice B bs.length d) bs) (hb : ∀ b ∈ bs, ∀ x ∈ b, 0 ≤ x ∧ x ≤ 255) (hn : bs.length ≤ 9223372036854775807) :
    Calls Try.prog 20 #[.slice A bs.length c, .slice B bs.length d, .func (.func 13) #[] #[]] w fun e w' => e = .returned (.bool true) ∧ ∃ n, w' = w.drewN n := by
  obtain ⟨N, hN⟩ : ∃ N, bs.length = N := ⟨_, rfl⟩
  rw [hN] at hx hy hn ⊢
  have HX := Aside0.mk hx
  have HY := Aside0.mk hy
  have HB := Aside0.mk hb
  clear hx hy hb
  have HN := Aside0.mk hN
  clear hN
  go_enter Try.func20, Try.ntmps20
  go_wp2
  go_loopw [7] (fun i wr => ∃ (k n : Nat), k ≤ N ∧ i = .int .i64 k ∧ wr = w.drewN n) (fun i _ => N - (intOf i).toNat)
  case atStart => exact ⟨0, 0, by omega, rfl, rfl⟩
  case round =>
    obtain ⟨k, n, hk, rfl, rfl⟩ := hrel
    by_cases hlt : k < N
    · obtain ⟨ad, XA, xc, rfl, h1, hC1⟩ := LR_at HX.out k (by have := HN.out; omega)
      obtain ⟨bd, YA, yc, rfl, h2, hC2⟩ := LR_at HY.out k (by have := HN.out; omega)
      have HC1 := Aside0.mk hC1
      have HC2 := Aside0.mk hC2
      have HE := Aside0.mk (HB.out (bs.getD k []) (by
        have hk2 : k < bs.length := by have := HN.out; omega
        rw [List.getD_eq_getElem?_getD, List.getElem?_eq_getElem hk2]
        exact List.getElem_mem hk2))
      clear hC1 hC2
      revert h1 h2 HC1 HC2 HE
      generalize bs.getD k [] = b
      intro h1 h2 HC1 HC2 HE
      go_wp2
      go_quiet ((go_at_call 13; go_must (exact (bytes_calls XA YA xc yc b b _ (C_drawn HC1.out _) (C_drawn HC2.out _) HE.out HE.out (b := true) (by simp)).mono (fun _ _ ⟨he, hm⟩ => ⟨he, _, hm.symm⟩))))
      go_wp2
      go_roundw
      case rel => exact ⟨k + 1, _, by omega, by go_num, rfl⟩
      case measure => simp [intOf]; omega
    · obtain rfl : k = N := by omega
      go_wp2
      go_ret
      exact ⟨rfl, _, rfl⟩
end Go.Proofs.Ytfkghmalccpcbaa.Frame
