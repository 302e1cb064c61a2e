/- Frames of some rows, one behind the other: packed, and the walk of FrameJoin. -/
import Derived.Test.YtfkghmalccpcbaaFrameMore
import Derived.Test.YtfkghmalccpcbaaScanRef
import Derived.Test.YtfkghmalccpcbaaHold
import Derived.IntWalk
namespace Go.Proofs.Ytfkghmalccpcbaa.Frame
open Go Go.RowKit Go.Proofs.YtfkghmalccpcbaaW.PrintWords Go.Proofs.Ytfkghmalccpcbaa.Base Go.Proofs.Ytfkghmalccpcbaa.CrcMath Go.Proofs.Ytfkghmalccpcbaa.FrameMath
set_option linter.unusedVariables false
set_option linter.unusedSimpArgs false
/-- Rows of bytes that came in. -/
abbrev kRows : Kd (List Int) := Kd.slice 5 (Kd.int .u8)
theorem rows_at {w : World} {A : Option Addr} {n : Nat} {bs : List (List Int)} (h : kRows.C w A n bs) (i : Nat) (hi : i < n) :
    ∃ ad B d, A = some ad ∧ w.cell? (ad.add i) = some (.slice B (bs.getD i []).length d) ∧ (Kd.int .u8).C w B (bs.getD i []).length (bs.getD i []) := by
  obtain ⟨ad, c, e, hl, ⟨B, d, rfl, h1, h2⟩, hc⟩ := ReadsRow.get_ h [] (i : Int) (by omega) (by omega)
  have := hc 0 _ rfl
  refine ⟨ad, B, d, e, ?_, h2⟩
  have h3 : kRows.sz = 1 := rfl
  rw [h3, Nat.mul_one, Nat.add_zero] at this
  exact this
theorem rows_mem {bs : List (List Int)} {i : Nat} (hi : i < bs.length) : bs.getD i [] ∈ bs := by
  rw [List.getD_eq_getElem?_getD, List.getElem?_eq_getElem hi]
  exact List.getElem_mem hi
theorem rows_take {bs : List (List Int)} {i : Nat} (hi : i < bs.length) : bs.take (i + 1) = bs.take i ++ [bs.getD i []] := by
  rw [List.take_succ_eq_append_getElem hi, List.getD_eq_getElem?_getD, List.getElem?_eq_getElem hi]
  rfl
theorem frames_le (bs : List (List Int)) (h : ∀ b ∈ bs, b.length ≤ 65526) : (frames bs).length ≤ bs.length * 65536 := by
  induction bs with
  | nil => simp [frames]
  | cons b r ih =>
    have h1 := h b List.mem_cons_self
    have h2 := ih (fun c hc => h c (List.mem_cons_of_mem _ hc))
    rw [frames_cons, List.length_append, frame_length, List.length_cons, Nat.add_mul]
    omega
theorem frames_20 (bs : List (List Int)) (h : ∀ b ∈ bs, b.length ≤ 65526) (h2 : bs.length ≤ 20) : (frames bs).length ≤ 1310720 := by
  have := frames_le bs h
  omega
/-- What packed leaves. -/
def PackedPost (bs : List (List Int)) (w : World) (e : Ending) (w' : World) : Prop :=
  (e = .returned (.tuple #[.slice none 0 0, .int .i64 0, .bool false]) ∧ Below w.heap.size w w') ∨
  ∃ v n, n = (bs.take 20).length ∧ e = .returned (.tuple #[v, .int .i64 (n : Nat), .bool true]) ∧ w'.ownsRow w.heap.size 5 1 v (frames (bs.take 20)).length ((frames (bs.take 20)).map (Value.int .u8)) ∧ Below w.heap.size w w' ∧ ∀ b ∈ bs.take 20, b.length ≤ 65526
set_option maxRecDepth 100000 in
set_option maxHeartbeats 1000000 in
theorem packed_calls (A : Option Addr) (c : Nat) (bs : List (List Int)) (w : World) (hr : kRows.C w A bs.length bs) (hn : bs.length * 24 ≤ 140737488351232) (hb : ∀ b ∈ bs, b.length * 1 ≤ 140737488351232) :
    Calls Try.prog 21 #[.slice A bs.length c] w (PackedPost bs w) := by
  obtain ⟨N, hN⟩ : ∃ N, (bs.take 20).length = N := ⟨_, rfl⟩
  have hN1 : N ≤ bs.length := by rw [← hN, List.length_take]; omega
  have hN2 : N ≤ 20 := by rw [← hN, List.length_take]; omega
  have hN3 : bs.length ≤ N ∨ 20 ≤ N := by rw [← hN, List.length_take]; omega
  have HN := Aside0.mk hN
  have HB := Aside0.mk hb
  have H := Hold.start (R := fun x => kRows.C x A bs.length bs) (fun w' h => Kd.C_below hr h)
  have hmn : (if (20 : Int) < (bs.length : Int) then (20 : Int) else (bs.length : Int)) = (N : Int) := by split <;> omega
  clear hr hb hN
  go_enter Try.func21, Try.ntmps21
  go_wp2
  clear hmn
  go_loopw [5, 7] (fun v i wr => ∃ k : Nat, k ≤ N ∧ i = .int .i64 k ∧ Aside0 (wr.ownsRow w.heap.size 5 1 v (frames (bs.take k)).length ((frames (bs.take k)).map (Value.int .u8))) ∧ Aside0 (∀ b ∈ bs.take k, b.length ≤ 65526) ∧ Hold w (fun x => kRows.C x A bs.length bs) wr) (fun _ i _ => N - (intOf i).toNat)
  case atStart => exact ⟨0, by omega, rfl, ⟨World.ownsRow_nil _ _ _ _⟩, ⟨by simp⟩, H⟩
  case round =>
    obtain ⟨k, hk, rfl, HO, HS, HW⟩ := hrel
    by_cases hlt : k < N
    · obtain ⟨ad, B, d, rfl, hcell, hC⟩ := rows_at HW.out k (by omega)
      have hbl := HB.out _ (rows_mem (i := k) (by omega))
      have HT := Aside0.mk (rows_take (bs := bs) (i := k) (by omega))
      have HC := Aside0.mk hC
      have hfl := frames_20 _ HS.out (by rw [List.length_take]; omega)
      clear hC
      revert hcell hbl HT HC
      generalize bs.getD k [] = b
      intro hcell hbl HT HC
      by_cases hb : 1048576 < b.length
      · go_wp2_with fail
        refine (pack_calls B d b wr HC.out (by omega)).mono ?_
        intro e w' hp
        obtain ⟨rfl, rfl⟩ := pack_full hb hp
        clear hp
        go_wp2
        go_ret3
        exact .inl ⟨rfl, HW.base⟩
      · have fl := frame_length b
        have FL := Aside0.mk fl
        go_wp2_with fail
        refine (pack_calls B d b wr HC.out (by omega)).mono ?_
        intro e w2 hp
        obtain ⟨E, q, rfl, hq, hE, ho, hw⟩ := pack_fit hb hp
        have HW2 := HW.step hw
        have HO2 := Aside0.mk (pw_own_below HO.out hw)
        have HE := Aside0.mk hE
        clear hp ho hE hw
        by_cases h16 : 65536 < (frame b).length
        · have h16' : decide ((65536 : Int) < ((frame b).length : Int)) = true := by simp; omega
          clear fl
          go_wp2
          go_ret3
          exact .inl ⟨rfl, HW2.base⟩
        · have h16' : decide ((65536 : Int) < ((frame b).length : Int)) = false := by simp; omega
          clear fl
          go_wp2_with (at_builtin; refine app_ints w (by rfl) _ _ _ rfl 5 1 Try.underlying22 HelpByte.info (by decide) _ _ _ rfl HO2.out HW2.base E (frame b).length q (frame b) rfl rfl HE.out ?hb ?_; (case hb => omega); intro v4 w4 HO4 HB4)
          go_roundw
          case rel =>
            refine ⟨k + 1, by omega, by go_num, ?_, ?_, ⟨HB4.out, HW2.keep⟩⟩
            · rw [HT.out, frames_snoc, List.length_append]
              exact HO4
            · refine ⟨fun c hc => ?_⟩
              rw [HT.out] at hc
              rcases List.mem_append.1 hc with hc | hc
              · exact HS.out c hc
              · rw [List.mem_singleton.1 hc]
                have := FL.out
                omega
          case measure => simp [intOf]; omega
    · obtain rfl : k = N := by omega
      have e20 : bs.take k = bs.take 20 := by
        have := HN.out
        rw [List.length_take] at this
        rcases Nat.lt_or_ge bs.length 20 with h | h
        · rw [List.take_of_length_le (by omega), List.take_of_length_le (by omega)]
        · rw [show k = 20 by omega]
      have E := Aside0.mk e20
      clear e20
      go_wp2
      go_ret3
      refine .inr ⟨_, k, HN.out.symm, rfl, ?_, HW.base, ?_⟩
      · rw [← E.out]; exact HO.out
      · rw [← E.out]; exact HS.out

theorem packed_own {bs : List (List Int)} {w w' : World} {e : Ending} (h : PackedPost bs w e w') :
    (e = .returned (.tuple #[.slice none 0 0, .int .i64 0, .bool false]) ∧ Below w.heap.size w w') ∨
    ∃ A c n, n = (bs.take 20).length ∧ e = .returned (.tuple #[.slice A (frames (bs.take 20)).length c, .int .i64 (n : Nat), .bool true]) ∧ (Kd.int .u8).C w' A (frames (bs.take 20)).length (frames (bs.take 20)) ∧ Below w.heap.size w w' ∧ (∀ b ∈ bs.take 20, b.length ≤ 65526) ∧ (frames (bs.take 20)).length ≤ 1310720 := by
  rcases h with h | ⟨v, n, hn, rfl, ho, hw, hs⟩
  · exact .inl h
  · obtain ⟨B, d, rfl, _, _, hB, _⟩ := int_reads ho
    exact .inr ⟨B, d, n, hn, rfl, hB, hw, hs, frames_20 _ hs (by rw [List.length_take]; omega)⟩

set_option maxRecDepth 100000 in
set_option maxHeartbeats 1000000 in
theorem scan_none (c : Nat) (w : World) : Calls Try.prog 18 #[.slice none 0 c] w (ScanPost [] w) := by
  go_enter Try.func18, Try.ntmps18
  go_wp2
  go_loopw [5, 6] (fun v i wr => v = .slice none 0 0 ∧ i = .int .i64 0 ∧ Aside0 (Below w.heap.size w wr)) (fun _ i _ => 0)
  case atStart => exact ⟨rfl, rfl, ⟨Below.refl _ _⟩⟩
  case round =>
    obtain ⟨rfl, rfl, HB⟩ := hrel
    go_wp2_with fail
    refine (take_calls none _ [] _ (C_nil _) (by simp) (by simp) (by simp)).mono ?_
    intro e w2 hp
    obtain ⟨uA, uc, rfl, hu, hw⟩ := take_own (show takeI [] = ([], 0, 6) from rfl) hp
    have HB2 := Aside0.mk (HB.out.trans (hw.mono HB.out.size))
    clear hp hu hw
    go_wp2
    go_ret3
    exact scan_done (by rfl) (LR_nil _ _) HB2.out
theorem scan_any (A : Option Addr) (c n : Nat) (xs : List Int) (w : World) (hr : (Kd.int .u8).C w A n xs) (hl : n = xs.length) (hc : xs.length ≤ c) (hn : xs.length ≤ 4000000000000) (hx : ∀ x ∈ xs, 0 ≤ x ∧ x ≤ 255) :
    Calls Try.prog 18 #[.slice A n c] w (ScanPost xs w) := by
  subst hl
  cases A with
  | some ad => exact scan_calls ad c xs w hr hc hn hx
  | none =>
    have h0 : xs = [] := List.eq_nil_of_length_eq_zero (none_int hr rfl)
    subst h0
    exact scan_none c w
theorem LR_rows {w0 w : World} {v : Value} {bs : List (List Int)} (h : LR w0 w v bs) (hn : bs.length ≤ 9223372036854775807) : ∃ A c, v = .slice A bs.length c ∧ kRows.C w A bs.length bs := by
  obtain ⟨A, c, rfl⟩ := LR_len h
  refine ⟨A, c, rfl, rfl, hn, fun h0 => ?_⟩
  obtain ⟨ad, _, _, rfl, _⟩ := LR_at h 0 h0
  refine ⟨ad, rfl, fun j p hj => ?_⟩
  have hjl : j < bs.length := (List.getElem?_eq_some_iff.1 hj).1
  obtain ⟨ad', B, d, e, hc, hC⟩ := LR_at h j hjl
  cases e
  have hp : bs.getD j [] = p := by rw [List.getD_eq_getElem?_getD, hj]; rfl
  rw [hp] at hc hC
  obtain ⟨vs, ho, hl, hr⟩ := h
  have hv : vs[j]? = some vs[j] := List.getElem?_eq_getElem (by omega)
  obtain ⟨B2, d2, e2, _, hd2, _⟩ := int_reads (hr j _ _ hv hj)
  obtain ⟨g, hg⟩ : ∃ g, ad = ⟨g, 0, none⟩ := by
    rcases ho.2 with ⟨_, h0⟩ | ⟨g, cap, cur, h, _⟩
    · omega
    · injection h with h
      injection h with h
      exact ⟨g, h⟩
  subst hg
  have h5 := ho.cells rfl j _ hv
  rw [e2] at h5
  have h6 : some (Value.slice B p.length d) = some (Value.slice B2 p.length d2) := hc.symm.trans h5
  injection h6 with h6
  injection h6 with h7 _ h8
  subst h7 h8
  refine ⟨[.slice B p.length d], rfl, ⟨B, d, rfl, hd2, hC⟩, fun i u hu => ?_⟩
  have hi : i = 0 := by
    have := (List.getElem?_eq_some_iff.1 hu).1
    simp at this
    exact this
  subst hi
  have hsz : kRows.sz = 1 := rfl
  rw [hsz, Nat.mul_one, Nat.add_zero, hc]
  simpa using hu

set_option maxRecDepth 100000 in
set_option maxHeartbeats 1000000 in
theorem join (A B : Option Addr) (c d : Nat) (xs ys : List (List Int)) (w : World) (hx : kRows.C w A xs.length xs) (hy : kRows.C w B ys.length ys) (okx : xs.length * 24 ≤ 140737488351232 ∧ ∀ b ∈ xs, b.length * 1 ≤ 140737488351232 ∧ ∀ x ∈ b, 0 ≤ x ∧ x ≤ 255) (oky : ys.length * 24 ≤ 140737488351232 ∧ ∀ b ∈ ys, b.length * 1 ≤ 140737488351232 ∧ ∀ x ∈ b, 0 ≤ x ∧ x ≤ 255) :
    Calls Try.prog 8 #[.slice A xs.length c, .slice B ys.length d] w fun e w' => e = .returned (.bool true) ∧ Below w.heap.size w w' := by
  have H := Hold.start (w := w) (R := fun x => Below w.heap.size w x ∧ kRows.C x A xs.length xs ∧ kRows.C x B ys.length ys) (fun w' h => ⟨h, Kd.C_below hx h, Kd.C_below hy h⟩)
  have OX := Aside0.mk okx
  have OY := Aside0.mk oky
  clear hx hy okx oky
  go_enter Try.func8, Try.ntmps8
  go_wp2_with fail
  refine (awake_calls w).mono ?_
  rintro e w1 ⟨rfl, hw⟩
  have H1 := H.step hw
  clear hw H
  go_wp2_with fail
  refine (packed_calls A c xs w1 H1.out.2.1 OX.out.1 (fun b hb => (OX.out.2 b hb).1)).mono ?_
  intro e w2 hp
  rcases packed_own hp with ⟨rfl, hw⟩ | ⟨XA, xc, n, hn, rfl, hX, hw, hsx, hlx⟩
  · have H2 := H1.step hw
    clear hp hw H1
    go_wp2_with fail
    refine (packed_calls B d ys w2 H2.out.2.2 OY.out.1 (fun b hb => (OY.out.2 b hb).1)).mono ?_
    intro e w3 hp
    rcases packed_own hp with ⟨rfl, hw⟩ | ⟨YA, yc, m, hm, rfl, hY, hw, hsy, hly⟩
    all_goals
      have H3 := H2.step hw
      clear hp hw H2
      go_wp2
      go_ret
      exact ⟨rfl, H3.out.1⟩
  have H2 := (H1.step hw).alsoC hX
  have HSX := Aside0.mk hsx
  have HNX := Aside0.mk hn
  clear hp hw H1 hX hsx hn
  go_wp2_with fail
  refine (packed_calls B d ys w2 H2.out.1.2.2 OY.out.1 (fun b hb => (OY.out.2 b hb).1)).mono ?_
  intro e w3 hp
  rcases packed_own hp with ⟨rfl, hw⟩ | ⟨YA, yc, m, hm, rfl, hY, hw, hsy, hly⟩
  · have H3 := H2.step hw
    clear hp hw H2
    go_wp2
    go_ret
    exact ⟨rfl, H3.out.1.1⟩
  have H3 := (H2.step hw).alsoC hY
  have HSY := Aside0.mk hsy
  have HNY := Aside0.mk hm
  have hscan := scan_all (xs.take 20 ++ ys.take 20) [] (fun b hb => by
    rcases List.mem_append.1 hb with hb | hb
    · have := HSX.out b hb; omega
    · have := hsy b hb; omega) (.inl rfl)
  rw [List.append_nil, frames_append] at hscan
  have HSC := Aside0.mk hscan
  have BX : ∀ x ∈ frames (xs.take 20) ++ frames (ys.take 20), 0 ≤ x ∧ x ≤ 255 := by
    intro x hx
    rcases List.mem_append.1 hx with hx | hx
    · exact frames_bytes _ (fun b hb => (OX.out.2 b (List.mem_of_mem_take hb)).2) x hx
    · exact frames_bytes _ (fun b hb => (OY.out.2 b (List.mem_of_mem_take hb)).2) x hx
  have HBX := Aside0.mk BX
  have hxb := OX.out
  clear hp hw H2 hY hsy hm hscan BX hxb
  revert hlx hly H3 HSC HBX
  generalize frames (xs.take 20) = PX
  generalize frames (ys.take 20) = PY
  intro hlx hly H3 HSC HBX
  go_wp2_with fail
  refine (HelpByte.copy_calls XA xc PX w3 H3.out.1.2 (by omega)).mono ?_
  rintro e w4 ⟨v, rfl, ho, hw⟩
  have HO4 := Aside0.mk ho
  have HB4 := Aside0.mk hw
  have H4 := H3.step hw
  clear ho hw
  go_wp2_with (at_builtin; refine app_ints w3 (by rfl) _ _ _ rfl 5 1 Try.underlying22 HelpByte.info (by decide) v PX.length PX rfl HO4.out HB4.out YA PY.length yc PY rfl rfl H4.out.2 ?hb ?_; (case hb => omega); clear HO4 HB4; intro v5 w5 HO5 HB5)
  obtain ⟨D, m5, rfl, hl5, hc5, hD, _⟩ := int_reads HO5.out
  have H5 := (H3.step HB5.out).alsoC hD
  have HC5 := Aside0.mk hc5
  have HL5 := Aside0.mk hl5
  clear hD hl5 hc5 HO5 HB5 H4 H3
  go_wp2_with fail
  refine (scan_any D m5 (PX ++ PY).length (PX ++ PY) w5 H5.out.2 rfl HC5.out (by rw [List.length_append]; omega) HBX.out).mono ?_
  intro e w6 hp
  unfold ScanPost at hp
  rw [HSC.out] at hp
  obtain ⟨v, rfl, hl, hw⟩ := hp
  have hLL : (xs.take 20 ++ ys.take 20).length = n + m := by rw [List.length_append, HNX.out, HNY.out]
  have hn20 : n ≤ 20 ∧ n ≤ xs.length := by rw [HNX.out, List.length_take]; omega
  have hm20 : m ≤ 20 ∧ m ≤ ys.length := by rw [HNY.out, List.length_take]; omega
  obtain ⟨E, q, rfl, hE⟩ := LR_rows hl (by rw [hLL]; omega)
  rw [hLL] at hE ⊢
  have H6 := (H5.step hw).alsoC hE
  have e1 : (((PX ++ PY).length : Nat) : Int) = (PX.length : Int) + (PY.length : Int) := by rw [List.length_append]; omega
  rw [e1]
  clear hl hw H5 hE e1 hLL HSC HBX HC5 HL5
  have eqx : ∀ i, i < n → (xs.take 20 ++ ys.take 20).getD i [] = xs.getD i [] := by
    intro i hi
    rw [List.getD_eq_getElem?_getD, List.getD_eq_getElem?_getD, List.getElem?_append_left (by rw [← HNX.out]; exact hi), List.getElem?_take, if_pos (by omega)]
  have eqy : ∀ i, i < m → (xs.take 20 ++ ys.take 20).getD (n + i) [] = ys.getD i [] := by
    intro i hi
    rw [List.getD_eq_getElem?_getD, List.getD_eq_getElem?_getD, List.getElem?_append_right (by rw [← HNX.out]; omega), ← HNX.out, List.getElem?_take, if_pos (by omega), Nat.add_sub_cancel_left]
  have EX := Aside0.mk eqx
  have EY := Aside0.mk eqy
  clear eqx eqy
  go_wp2
  go_loopw [14] (fun i wr => ∃ (k r : Nat), k ≤ n ∧ i = .int .i64 k ∧ wr = w6.drewN r) (fun i _ => n - (intOf i).toNat)
  case atStart => exact ⟨0, 0, by omega, rfl, rfl⟩
  case round =>
    obtain ⟨k, r, hk, rfl, rfl⟩ := hrel
    by_cases hlt : k < n
    · obtain ⟨ad, XA1, xc1, rfl, h1, hC1⟩ := rows_at H6.out.2 k (by omega)
      obtain ⟨bd, YA1, yc1, rfl, h2, hC2⟩ := rows_at H6.out.1.1.1.1.2.1 k (by omega)
      have HC1 := Aside0.mk hC1
      have HC2 := Aside0.mk hC2
      rw [EX.out k hlt] at h1 HC1
      have HE := Aside0.mk ((OX.out.2 _ (rows_mem (i := k) (by omega))).2)
      clear hC1 hC2
      revert h1 h2 HC1 HC2 HE
      generalize xs.getD k [] = b
      intro h1 h2 HC1 HC2 HE
      go_wp2
      go_quiet ((go_at_call 13; go_must (exact (bytes_calls XA1 YA1 xc1 yc1 b b _ (C_drawn HC1.out _) (C_drawn HC2.out _) HE.out HE.out (b := true) (by simp)).mono (fun _ _ ⟨he, hm⟩ => ⟨he, _, hm.symm⟩))))
      go_wp2
      go_roundw
      case rel => exact ⟨k + 1, _, by omega, by go_num, rfl⟩
      case measure => simp [intOf]; omega
    · obtain rfl : k = n := by omega
      go_wp2
      go_loopw [15] (fun i wr => ∃ (k2 r : Nat), k2 ≤ m ∧ i = .int .i64 k2 ∧ wr = w6.drewN r) (fun i _ => m - (intOf i).toNat)
      case atStart => exact ⟨0, r, by omega, rfl, rfl⟩
      case round =>
        obtain ⟨k2, r, hk2, rfl, rfl⟩ := hrel
        by_cases hlt : k2 < m
        · obtain ⟨ad, XA1, xc1, rfl, h1, hC1⟩ := rows_at H6.out.2 (k + k2) (by omega)
          obtain ⟨bd, YA1, yc1, rfl, h2, hC2⟩ := rows_at H6.out.1.1.1.1.2.2 k2 (by omega)
          have HC1 := Aside0.mk hC1
          have HC2 := Aside0.mk hC2
          rw [EY.out k2 hlt] at h1 HC1
          have HE := Aside0.mk ((OY.out.2 _ (rows_mem (i := k2) (by omega))).2)
          clear hC1 hC2
          revert h1 h2 HC1 HC2 HE
          generalize ys.getD k2 [] = b
          intro h1 h2 HC1 HC2 HE
          have hs1 : IntKind.i64.wrap ((k : Int) + (k2 : Int)) = (k : Int) + (k2 : Int) := IntWalk.i64_in _ (by omega)
          have hs2 : 0 ≤ (k : Int) + (k2 : Int) := by omega
          have hs3 : ((k : Int) + (k2 : Int)).toNat = k + k2 := by omega
          go_wp2
          go_quiet ((go_at_call 13; go_must (exact (bytes_calls XA1 YA1 xc1 yc1 b b _ (C_drawn HC1.out _) (C_drawn HC2.out _) HE.out HE.out (b := true) (by simp)).mono (fun _ _ ⟨he, hm⟩ => ⟨he, _, hm.symm⟩))))
          clear hs1 hs2 hs3
          go_wp2
          go_roundw
          case rel => exact ⟨k2 + 1, _, by omega, by go_num, rfl⟩
          case measure => simp [intOf]; omega
        · obtain rfl : k2 = m := by omega
          go_wp2
          go_ret
          exact ⟨rfl, pw_below_drewN H6.out.1.1.1.1.1 _⟩
end Go.Proofs.Ytfkghmalccpcbaa.Frame
