/- The walk of FrameTurned. -/
import Derived.Test.YtfkghmalccpcbaaFrameMore
import Derived.Test.YtfkghmalccpcbaaHold
import Derived.Test.YtfkghmalccpcbaaCrcBurst2
namespace Go.Proofs.Ytfkghmalccpcbaa.Frame
open Go Go.RowKit Go.Proofs.YtfkghmalccpcbaaW.PrintWords Go.Proofs.Ytfkghmalccpcbaa.Base Go.Proofs.Ytfkghmalccpcbaa.CrcMath Go.Proofs.Ytfkghmalccpcbaa.FrameMath Go.Proofs.Ytfkghmalccpcbaa.CrcBurst
set_option linter.unusedVariables false
set_option linter.unusedSimpArgs false

set_option maxRecDepth 100000 in
set_option maxHeartbeats 1000000 in
/-- Where the first test holds: nothing is turned. -/
theorem turned_passed (A : Option Addr) (c : Nat) (xs : List Int) (at_ m : Int) (sb : Bool) (w : World) (hr : (Kd.int .u8).C w A xs.length xs) (hn : xs.length * 1 ≤ 140737488351232) (h : m = 0 ∨ 65536 < xs.length) :
    Calls Try.prog 5 #[.slice A xs.length c, .int .i64 at_, .int .u32 m, .bool sb] w fun e w' => e = .returned (.bool true) ∧ Below w.heap.size w w' := by
  have HR := Aside0.mk hr
  clear hr
  by_cases hb : 1048576 < xs.length
  · clear h
    go_enter Try.func5, Try.ntmps5
    go_wp2_with fail
    refine (pack_calls A c xs w HR.out (by omega)).mono ?_
    intro e w1 hp
    obtain ⟨rfl, rfl⟩ := pack_full hb hp
    clear hp
    go_wp2_with fail
    refine (awake_calls w).mono ?_
    rintro e w2 ⟨rfl, hw⟩
    go_wp2_with fail
    refine (awake_calls w2).mono ?_
    rintro e w3 ⟨rfl, hw3⟩
    go_wp2
    go_ret
    exact ⟨rfl, hw.trans (hw3.mono hw.size)⟩
  · by_cases hm : m = 0
    · subst hm
      clear h
      go_enter Try.func5, Try.ntmps5
      go_wp2_with fail
      refine (pack_calls A c xs w HR.out (by omega)).mono ?_
      intro e w1 hp
      obtain ⟨C, k, rfl, hd, hC, ho, hw1⟩ := pack_fit hb hp
      clear hp hC ho hd
      go_wp2_with fail
      refine (awake_calls w1).mono ?_
      rintro e w2 ⟨rfl, hw⟩
      go_wp2_with fail
      refine (awake_calls w2).mono ?_
      rintro e w3 ⟨rfl, hw3⟩
      go_wp2
      go_ret
      exact ⟨rfl, hw1.trans ((hw.trans (hw3.mono hw.size)).mono hw1.size)⟩
    · have hl : decide ((65536 : Int) < (xs.length : Int)) = true := by simp; omega
      have hm0 : (m == 0) = false := by simpa using hm
      clear h hm
      go_enter Try.func5, Try.ntmps5
      go_wp2_with fail
      refine (pack_calls A c xs w HR.out (by omega)).mono ?_
      intro e w1 hp
      obtain ⟨C, k, rfl, hd, hC, ho, hw1⟩ := pack_fit hb hp
      clear hp hC ho hd
      go_wp2_with fail
      refine (awake_calls w1).mono ?_
      rintro e w2 ⟨rfl, hw⟩
      go_wp2_with fail
      refine (awake_calls w2).mono ?_
      rintro e w3 ⟨rfl, hw3⟩
      go_wp2
      go_ret
      exact ⟨rfl, hw1.trans ((hw.trans (hw3.mono hw.size)).mono hw1.size)⟩
theorem tmod_word (at_ : Int) (B : Nat) (h0 : 0 < B) (hB : B ≤ 1048576) : ∃ k : Nat, wrap64 ((IntKind.u64.wrap at_).tmod (B : Int)) = (k : Int) ∧ k < B := by
  have h0 : 0 ≤ IntKind.u64.wrap at_ := by rw [IntKind.wrap_u64]; omega
  have h1 := Int.emod_nonneg (IntKind.u64.wrap at_) (show (B : Int) ≠ 0 by omega)
  have h2 := Int.emod_lt_of_pos (IntKind.u64.wrap at_) (show (0 : Int) < (B : Int) by omega)
  refine ⟨(IntKind.u64.wrap at_ % (B : Int)).toNat, ?_, by omega⟩
  rw [Int.tmod_eq_emod_of_nonneg h0]
  unfold wrap64
  omega
/-- What the frame is, some bits of it being turned. -/
def TB (b L : List Int) (F k : Nat) (M : W32) : Prop :=
  ∀ i, i < b.length → (0 ≤ L.getD i 0 ∧ L.getD i 0 ≤ 255) ∧ ∀ t, t < 32 → (BitVec.ofInt 32 (L.getD i 0)).getLsbD t = ((BitVec.ofInt 32 (b.getD i 0)).getLsbD t ^^ (decide (t < 8) && burst F k M (8 * i + t)))
theorem TB_zero (b : List Int) (F : Nat) (M : W32) (hb : ∀ x ∈ b, 0 ≤ x ∧ x ≤ 255) : TB b b F 0 M := by
  refine fun i hi => ⟨at_bounds hb i hi rfl, fun t ht => ?_⟩
  have : burst F 0 M (8 * i + t) = false := by
    unfold burst
    by_cases h : F ≤ 8 * i + t
    · rw [decide_eq_false (by omega : ¬ 8 * i + t < F + 0), Bool.and_false]
      rfl
    · rw [decide_eq_false h]
      rfl
  rw [this, Bool.and_false, Bool.xor_false]

set_option maxRecDepth 100000 in
set_option maxHeartbeats 1000000 in
theorem turned_sum (A : Option Addr) (c : Nat) (xs : List Int) (at_ : Int) (M : W32) (sb : Bool) (w : World) (hr : (Kd.int .u8).C w A xs.length xs) (hn : xs.length ≤ 65536) (hx : ∀ x ∈ xs, 0 ≤ x ∧ x ≤ 255) (hm : ((M.toNat : Int) == 0) = false) (hsel : sb = true) (F0 B : Nat) (hF0 : F0 = 40) (hB : B = 32) :
    Calls Try.prog 5 #[.slice A xs.length c, .int .i64 at_, .int .u32 M.toNat, .bool sb] w fun e w' => e = .returned (.bool true) ∧ Below w.heap.size w w' := by
  have H := Hold.start (R := fun x => (Kd.int .u8).C x A xs.length xs) (fun w' hb => Kd.C_below hr hb)
  have HX := Aside0.mk hx
  have BF := Aside0.mk (frame_bounds xs hx)
  have FL := Aside0.mk (frame_length xs)
  clear hr hx
  obtain ⟨k0, hk0, hk0B⟩ := tmod_word at_ B (by omega) (by omega)
  have hk0' : wrap64 ((IntKind.u64.wrap at_).tmod 32) = (k0 : Int) := by rw [← hk0]; congr 2 <;> omega
  have HK := Aside0.mk hk0'
  clear hk0'
  obtain ⟨hB1, hB2⟩ : (B : Int) ≤ 32 ∧ 32 ≤ (B : Int) := by omega
  clear hB
  have hl : decide ((65536 : Int) < (xs.length : Int)) = false := by simp; omega
  clear hk0
  go_enter Try.func5, Try.ntmps5
  go_wp2_with fail
  refine (pack_calls A c xs w H.out (by first | omega | decide)).mono ?_
  intro e w1 hp
  obtain ⟨C, cap, rfl, hd, hC, ho, hw⟩ := pack_fit (by first | omega | decide) hp
  have H1 := H.step hw
  have HO1 := Aside0.mk ho
  clear hp hw hC ho H hd
  go_wp2_with fail
  refine (awake_calls w1).mono ?_
  rintro e w2 ⟨rfl, hw⟩
  have H2 := H1.step hw
  have HO2 := Aside0.mk (pw_own_below HO1.out hw)
  clear hw H1 HO1
  subst hsel
  go_wp2
  
  rw [HK.out]
  obtain ⟨g, hg, hgb⟩ := int_some HO2.out (by have := FL.out; omega)
  subst hg
  have G := Aside0.mk hgb
  clear hgb
  obtain ⟨FN, hFN⟩ : ∃ n, (frame xs).length = n := ⟨_, rfl⟩
  have HFN := Aside0.mk hFN
  have hfn1 : FN ≤ xs.length + 10 := by have := FL.out; omega
  have hfn2 : xs.length + 10 ≤ FN := by have := FL.out; omega
  rw [hFN] at HO2 ⊢
  clear hFN
  go_loopw [14, 15] (fun s14 i wr => ∃ (k : Nat) (L : List Int) (b9 : Bool), k ≤ 32 ∧ k0 + k ≤ B ∧ Aside0 (L.length = FN) ∧ i = .int .i64 k ∧ s14 = .bool b9 ∧ Aside0 (b9 = (List.range k).any fun j => M.getLsbD j) ∧ Aside0 (wr.ownsRow w.heap.size 5 1 (.slice (some ⟨g, 0, none⟩) FN cap) FN (L.map (Value.int .u8))) ∧ Hold w (fun x => (Kd.int .u8).C x A xs.length xs) wr ∧ Aside0 (TB (frame xs) L (F0 + k0) k M)) (fun _ i _ => 32 - (intOf i).toNat)
  case atStart => exact ⟨0, frame xs, false, Nat.zero_le _, by omega, HFN, rfl, rfl, ⟨rfl⟩, HO2, H2, ⟨TB_zero _ _ _ BF.out⟩⟩
  case round =>
    obtain ⟨k, L, b9, hk, hFk, HL, rfl, rfl, H9, HO, HW, HB⟩ := hrel
    by_cases hlt : k < 32 ∧ k0 + k < B
    · obtain ⟨hk1, hk2⟩ := hlt
      have hq : (F0 + k0 + k) / 8 < FN := by omega
      obtain ⟨x, hc1, hf1, hx⟩ := int_at HO.out ((F0 + k0 + k) / 8) (by have := HL.out; omega)
      have hs := shift_bit M k
      have hk3 : (k0 : Int) + (k : Int) < 32 := by omega
      have hk4 : (k : Int) < 32 := by omega
      subst hF0
      cases hb : M.getLsbD k
      · rw [hb] at hs
        have HBk := Aside0.mk hb
        clear hb
        go_wp2
        go_roundw
        case rel => exact ⟨k + 1, L, b9, by omega, by omega, HL, by go_num, rfl, ⟨by rw [any_more, HBk.out, Bool.or_false]; exact H9.out⟩, HO, HW, ⟨unturned (F := 40 + k0) HBk.out HB.out⟩⟩
        case measure => simp [intOf]; omega
      · rw [hb] at hs
        have HBk := Aside0.mk hb
        clear hb
        go_wp2
        go_roundw
        case rel => exact ⟨k + 1, L.set ((40 + k0 + k) / 8) (bits .xor .u8 x (2 ^ ((40 + k0 + k) % 8) % 256)), true, by omega, by omega, ⟨by rw [List.length_set]; exact HL.out⟩, by go_num, rfl, ⟨by rw [any_more, HBk.out, Bool.or_true]⟩, ⟨int_set HO.out _ (by have := HL.out; omega) _⟩, HW.set (by exact G.out) _, ⟨turned (F := 40 + k0) (n := (frame xs).length) HBk.out (by rw [HL.out, HFN.out]) (by rw [HFN.out]; exact hq) x hx.out HB.out⟩⟩
        case measure => simp [intOf]; omega
    · obtain ⟨A2, c2, hv2, hj1, hj2, hC2, hj3⟩ := int_reads HO.out
      have e2 : A2 = some ⟨g, 0, none⟩ := by injection hv2 with e _ _; exact e.symm
      subst e2
      have hT := takeI_turned xs L (F0 + k0) k M HX.out (by first | omega | decide) (by rw [HL.out, HFN.out]) HB.out (by omega)
      have LB : ∀ x ∈ L, 0 ≤ x ∧ x ≤ 255 := by
        intro x hx
        obtain ⟨i, hi, rfl⟩ := List.mem_iff_getElem.1 hx
        have := (HB.out i (by rw [HFN.out, ← HL.out]; exact hi)).1
        simpa [hi] using this
      have hfc : FN ≤ cap := by injection hv2 with _ _ e; omega
      have htk := take_calls (some ⟨g, 0, none⟩) cap L wr (by exact hC2) (by rw [HL.out]; exact hfc) (by rw [HL.out]; omega) LB
      rw [HL.out] at htk
      have HT := Aside0.mk htk
      rw [← any_iff, ← H9.out] at hT
      have HTI := Aside0.mk hT
      clear htk hT LB hv2 hj1 hj2 hC2 hj3
      by_cases hk32 : k < 32
      all_goals
        cases b9
        · have ht := HTI.out.1 rfl
          have HTT := Aside0.mk ht
          clear ht
          go_wp2_with fail
          refine HT.out.mono ?_
          intro e w5 hp
          obtain ⟨E, q, rfl, hE, hw⟩ := take_out HTT.out hp
          have HW5 := HW.step hw
          have HE := Aside0.mk hE
          clear hp hE hw
          go_wp2_with fail
          refine (bytes_calls E A q c xs xs w5 HE.out HW5.out HX.out HX.out (b := true) (by simp)).mono ?_
          rintro e w' ⟨rfl, rfl⟩
          go_wp2
          go_ret
          exact ⟨rfl, HW5.base⟩
        · have ht := HTI.out.2 (by simp)
          have HTT := Aside0.mk ht
          clear ht
          go_wp2_with fail
          refine HT.out.mono ?_
          intro e w5 hp
          obtain ⟨E, q, rfl, hE, hw⟩ := take_out HTT.out hp
          have HW5 := HW.step hw
          clear hp hE hw
          go_wp2
          go_ret
          exact ⟨rfl, HW5.base⟩

set_option maxRecDepth 100000 in
set_option maxHeartbeats 1000000 in
theorem turned_none (A : Option Addr) (c : Nat) (at_ : Int) (M : W32) (sb : Bool) (w : World) (hr : (Kd.int .u8).C w A 0 ([] : List Int)) (hn : 0 ≤ 65536) (hx : ∀ x ∈ ([] : List Int), 0 ≤ x ∧ x ≤ 255) (hm : ((M.toNat : Int) == 0) = false) (hsel : sb = false) (F0 B : Nat) (hF0 : F0 = 40) (hB : B = 32) :
    Calls Try.prog 5 #[.slice A 0 c, .int .i64 at_, .int .u32 M.toNat, .bool sb] w fun e w' => e = .returned (.bool true) ∧ Below w.heap.size w w' := by
  have H := Hold.start (R := fun x => (Kd.int .u8).C x A 0 ([] : List Int)) (fun w' hb => Kd.C_below hr hb)
  have HX := Aside0.mk hx
  have BF := Aside0.mk (frame_bounds ([] : List Int) hx)
  have FL := (Aside0.mk rfl : Aside0 ((frame ([] : List Int)).length = 0 + 10))
  clear hr hx
  obtain ⟨k0, hk0, hk0B⟩ := tmod_word at_ B (by omega) (by omega)
  have hk0' : wrap64 ((IntKind.u64.wrap at_).tmod 32) = (k0 : Int) := by rw [← hk0]; congr 2 <;> omega
  have HK := Aside0.mk hk0'
  clear hk0'
  obtain ⟨hB1, hB2⟩ : (B : Int) ≤ 32 ∧ 32 ≤ (B : Int) := by omega
  clear hB
  have hl : decide ((65536 : Int) < (0 : Int)) = false := by simp
  clear hk0
  go_enter Try.func5, Try.ntmps5
  go_wp2_with fail
  refine (pack_calls A c ([] : List Int) w H.out (by first | omega | decide)).mono ?_
  intro e w1 hp
  obtain ⟨C, cap, rfl, hd, hC, ho, hw⟩ := pack_fit (by first | omega | decide) hp
  have H1 := H.step hw
  have HO1 := Aside0.mk ho
  clear hp hw hC ho H hd
  go_wp2_with fail
  refine (awake_calls w1).mono ?_
  rintro e w2 ⟨rfl, hw⟩
  have H2 := H1.step hw
  have HO2 := Aside0.mk (pw_own_below HO1.out hw)
  clear hw H1 HO1
  subst hsel
  go_wp2
  
  rw [HK.out]
  obtain ⟨g, hg, hgb⟩ := int_some HO2.out (by have := FL.out; omega)
  subst hg
  have G := Aside0.mk hgb
  clear hgb
  obtain ⟨FN, hFN⟩ : ∃ n, (frame ([] : List Int)).length = n := ⟨_, rfl⟩
  have HFN := Aside0.mk hFN
  have hfn1 : FN ≤ 0 + 10 := by have := FL.out; omega
  have hfn2 : 0 + 10 ≤ FN := by have := FL.out; omega
  rw [hFN] at HO2 ⊢
  clear hFN
  go_loopw [14, 15] (fun s14 i wr => ∃ (k : Nat) (L : List Int) (b9 : Bool), k ≤ 32 ∧ k0 + k ≤ B ∧ Aside0 (L.length = FN) ∧ i = .int .i64 k ∧ s14 = .bool b9 ∧ Aside0 (b9 = (List.range k).any fun j => M.getLsbD j) ∧ Aside0 (wr.ownsRow w.heap.size 5 1 (.slice (some ⟨g, 0, none⟩) FN cap) FN (L.map (Value.int .u8))) ∧ Hold w (fun x => (Kd.int .u8).C x A 0 ([] : List Int)) wr ∧ Aside0 (TB (frame ([] : List Int)) L (F0 + k0) k M)) (fun _ i _ => 32 - (intOf i).toNat)
  case atStart => exact ⟨0, frame ([] : List Int), false, Nat.zero_le _, by omega, HFN, rfl, rfl, ⟨rfl⟩, HO2, H2, ⟨TB_zero _ _ _ BF.out⟩⟩
  case round =>
    obtain ⟨k, L, b9, hk, hFk, HL, rfl, rfl, H9, HO, HW, HB⟩ := hrel
    by_cases hlt : k < 32 ∧ k0 + k < B
    · obtain ⟨hk1, hk2⟩ := hlt
      have hq : (F0 + k0 + k) / 8 < FN := by omega
      obtain ⟨x, hc1, hf1, hx⟩ := int_at HO.out ((F0 + k0 + k) / 8) (by have := HL.out; omega)
      have hs := shift_bit M k
      have hk3 : (k0 : Int) + (k : Int) < 32 := by omega
      have hk4 : (k : Int) < 32 := by omega
      subst hF0
      cases hb : M.getLsbD k
      · rw [hb] at hs
        have HBk := Aside0.mk hb
        clear hb
        go_wp2
        go_roundw
        case rel => exact ⟨k + 1, L, b9, by omega, by omega, HL, by go_num, rfl, ⟨by rw [any_more, HBk.out, Bool.or_false]; exact H9.out⟩, HO, HW, ⟨unturned (F := 40 + k0) HBk.out HB.out⟩⟩
        case measure => simp [intOf]; omega
      · rw [hb] at hs
        have HBk := Aside0.mk hb
        clear hb
        go_wp2
        go_roundw
        case rel => exact ⟨k + 1, L.set ((40 + k0 + k) / 8) (bits .xor .u8 x (2 ^ ((40 + k0 + k) % 8) % 256)), true, by omega, by omega, ⟨by rw [List.length_set]; exact HL.out⟩, by go_num, rfl, ⟨by rw [any_more, HBk.out, Bool.or_true]⟩, ⟨int_set HO.out _ (by have := HL.out; omega) _⟩, HW.set (by exact G.out) _, ⟨turned (F := 40 + k0) (n := (frame ([] : List Int)).length) HBk.out (by rw [HL.out, HFN.out]) (by rw [HFN.out]; exact hq) x hx.out HB.out⟩⟩
        case measure => simp [intOf]; omega
    · obtain ⟨A2, c2, hv2, hj1, hj2, hC2, hj3⟩ := int_reads HO.out
      have e2 : A2 = some ⟨g, 0, none⟩ := by injection hv2 with e _ _; exact e.symm
      subst e2
      have hT := takeI_turned ([] : List Int) L (F0 + k0) k M HX.out (by first | omega | decide) (by rw [HL.out, HFN.out]) HB.out (by omega)
      have LB : ∀ x ∈ L, 0 ≤ x ∧ x ≤ 255 := by
        intro x hx
        obtain ⟨i, hi, rfl⟩ := List.mem_iff_getElem.1 hx
        have := (HB.out i (by rw [HFN.out, ← HL.out]; exact hi)).1
        simpa [hi] using this
      have hfc : FN ≤ cap := by injection hv2 with _ _ e; omega
      have htk := take_calls (some ⟨g, 0, none⟩) cap L wr (by exact hC2) (by rw [HL.out]; exact hfc) (by rw [HL.out]; omega) LB
      rw [HL.out] at htk
      have HT := Aside0.mk htk
      rw [← any_iff, ← H9.out] at hT
      have HTI := Aside0.mk hT
      clear htk hT LB hv2 hj1 hj2 hC2 hj3
      by_cases hk32 : k < 32
      all_goals
        cases b9
        · have ht := HTI.out.1 rfl
          have HTT := Aside0.mk ht
          clear ht
          go_wp2_with fail
          refine HT.out.mono ?_
          intro e w5 hp
          obtain ⟨E, q, rfl, hE, hw⟩ := take_out HTT.out hp
          have HW5 := HW.step hw
          have HE := Aside0.mk hE
          clear hp hE hw
          go_wp2_with fail
          refine (bytes_calls E A q c ([] : List Int) ([] : List Int) w5 HE.out HW5.out HX.out HX.out (b := true) (by simp)).mono ?_
          rintro e w' ⟨rfl, rfl⟩
          go_wp2
          go_ret
          exact ⟨rfl, HW5.base⟩
        · have ht := HTI.out.2 (by simp)
          have HTT := Aside0.mk ht
          clear ht
          go_wp2_with fail
          refine HT.out.mono ?_
          intro e w5 hp
          obtain ⟨E, q, rfl, hE, hw⟩ := take_out HTT.out hp
          have HW5 := HW.step hw
          clear hp hE hw
          go_wp2
          go_ret
          exact ⟨rfl, HW5.base⟩

set_option maxRecDepth 100000 in
set_option maxHeartbeats 1000000 in
theorem turned_body (A : Option Addr) (c : Nat) (xs : List Int) (at_ : Int) (M : W32) (sb : Bool) (w : World) (hr : (Kd.int .u8).C w A xs.length xs) (hn : xs.length ≤ 65536) (hx : ∀ x ∈ xs, 0 ≤ x ∧ x ≤ 255) (hm : ((M.toNat : Int) == 0) = false) (hsel : sb = false ∧ 0 < xs.length) (F0 B : Nat) (hF0 : F0 = 72) (hB : B = 8 * xs.length) :
    Calls Try.prog 5 #[.slice A xs.length c, .int .i64 at_, .int .u32 M.toNat, .bool sb] w fun e w' => e = .returned (.bool true) ∧ Below w.heap.size w w' := by
  have H := Hold.start (R := fun x => (Kd.int .u8).C x A xs.length xs) (fun w' hb => Kd.C_below hr hb)
  have HX := Aside0.mk hx
  have BF := Aside0.mk (frame_bounds xs hx)
  have FL := Aside0.mk (frame_length xs)
  clear hr hx
  obtain ⟨k0, hk0, hk0B⟩ := tmod_word at_ B (by omega) (by omega)
  have hk0' : wrap64 ((IntKind.u64.wrap at_).tmod (8 * (xs.length : Int))) = (k0 : Int) := by rw [← hk0]; congr 2 <;> omega
  have HK := Aside0.mk hk0'
  clear hk0'
  obtain ⟨hB1, hB2⟩ : (B : Int) ≤ (8 * (xs.length : Int)) ∧ (8 * (xs.length : Int)) ≤ (B : Int) := by omega
  clear hB
  have hl : decide ((65536 : Int) < (xs.length : Int)) = false := by simp; omega
  clear hk0
  go_enter Try.func5, Try.ntmps5
  go_wp2_with fail
  refine (pack_calls A c xs w H.out (by first | omega | decide)).mono ?_
  intro e w1 hp
  obtain ⟨C, cap, rfl, hd, hC, ho, hw⟩ := pack_fit (by first | omega | decide) hp
  have H1 := H.step hw
  have HO1 := Aside0.mk ho
  clear hp hw hC ho H hd
  go_wp2_with fail
  refine (awake_calls w1).mono ?_
  rintro e w2 ⟨rfl, hw⟩
  have H2 := H1.step hw
  have HO2 := Aside0.mk (pw_own_below HO1.out hw)
  clear hw H1 HO1
  obtain ⟨rfl, hpos⟩ := hsel
  have hz : ((xs.length : Int) == 0) = false := by rw [beq_eq_false_iff_ne]; omega
  have hwr : IntKind.u64.wrap (8 * (xs.length : Int)) = 8 * (xs.length : Int) := by rw [IntKind.wrap_u64]; omega
  have hne : ¬ (8 * (xs.length : Int) = 0) := by omega
  go_wp2
  clear hwr hne
  rw [HK.out]
  obtain ⟨g, hg, hgb⟩ := int_some HO2.out (by have := FL.out; omega)
  subst hg
  have G := Aside0.mk hgb
  clear hgb
  obtain ⟨FN, hFN⟩ : ∃ n, (frame xs).length = n := ⟨_, rfl⟩
  have HFN := Aside0.mk hFN
  have hfn1 : FN ≤ xs.length + 10 := by have := FL.out; omega
  have hfn2 : xs.length + 10 ≤ FN := by have := FL.out; omega
  rw [hFN] at HO2 ⊢
  clear hFN
  go_loopw [14, 15] (fun s14 i wr => ∃ (k : Nat) (L : List Int) (b9 : Bool), k ≤ 32 ∧ k0 + k ≤ B ∧ Aside0 (L.length = FN) ∧ i = .int .i64 k ∧ s14 = .bool b9 ∧ Aside0 (b9 = (List.range k).any fun j => M.getLsbD j) ∧ Aside0 (wr.ownsRow w.heap.size 5 1 (.slice (some ⟨g, 0, none⟩) FN cap) FN (L.map (Value.int .u8))) ∧ Hold w (fun x => (Kd.int .u8).C x A xs.length xs) wr ∧ Aside0 (TB (frame xs) L (F0 + k0) k M)) (fun _ i _ => 32 - (intOf i).toNat)
  case atStart => exact ⟨0, frame xs, false, Nat.zero_le _, by omega, HFN, rfl, rfl, ⟨rfl⟩, HO2, H2, ⟨TB_zero _ _ _ BF.out⟩⟩
  case round =>
    obtain ⟨k, L, b9, hk, hFk, HL, rfl, rfl, H9, HO, HW, HB⟩ := hrel
    by_cases hlt : k < 32 ∧ k0 + k < B
    · obtain ⟨hk1, hk2⟩ := hlt
      have hq : (F0 + k0 + k) / 8 < FN := by omega
      obtain ⟨x, hc1, hf1, hx⟩ := int_at HO.out ((F0 + k0 + k) / 8) (by have := HL.out; omega)
      have hs := shift_bit M k
      have hk3 : (k0 : Int) + (k : Int) < (8 * (xs.length : Int)) := by omega
      have hk4 : (k : Int) < 32 := by omega
      subst hF0
      cases hb : M.getLsbD k
      · rw [hb] at hs
        have HBk := Aside0.mk hb
        clear hb
        go_wp2
        go_roundw
        case rel => exact ⟨k + 1, L, b9, by omega, by omega, HL, by go_num, rfl, ⟨by rw [any_more, HBk.out, Bool.or_false]; exact H9.out⟩, HO, HW, ⟨unturned (F := 72 + k0) HBk.out HB.out⟩⟩
        case measure => simp [intOf]; omega
      · rw [hb] at hs
        have HBk := Aside0.mk hb
        clear hb
        go_wp2
        go_roundw
        case rel => exact ⟨k + 1, L.set ((72 + k0 + k) / 8) (bits .xor .u8 x (2 ^ ((72 + k0 + k) % 8) % 256)), true, by omega, by omega, ⟨by rw [List.length_set]; exact HL.out⟩, by go_num, rfl, ⟨by rw [any_more, HBk.out, Bool.or_true]⟩, ⟨int_set HO.out _ (by have := HL.out; omega) _⟩, HW.set (by exact G.out) _, ⟨turned (F := 72 + k0) (n := (frame xs).length) HBk.out (by rw [HL.out, HFN.out]) (by rw [HFN.out]; exact hq) x hx.out HB.out⟩⟩
        case measure => simp [intOf]; omega
    · obtain ⟨A2, c2, hv2, hj1, hj2, hC2, hj3⟩ := int_reads HO.out
      have e2 : A2 = some ⟨g, 0, none⟩ := by injection hv2 with e _ _; exact e.symm
      subst e2
      have hT := takeI_turned xs L (F0 + k0) k M HX.out (by first | omega | decide) (by rw [HL.out, HFN.out]) HB.out (by omega)
      have LB : ∀ x ∈ L, 0 ≤ x ∧ x ≤ 255 := by
        intro x hx
        obtain ⟨i, hi, rfl⟩ := List.mem_iff_getElem.1 hx
        have := (HB.out i (by rw [HFN.out, ← HL.out]; exact hi)).1
        simpa [hi] using this
      have hfc : FN ≤ cap := by injection hv2 with _ _ e; omega
      have htk := take_calls (some ⟨g, 0, none⟩) cap L wr (by exact hC2) (by rw [HL.out]; exact hfc) (by rw [HL.out]; omega) LB
      rw [HL.out] at htk
      have HT := Aside0.mk htk
      rw [← any_iff, ← H9.out] at hT
      have HTI := Aside0.mk hT
      clear htk hT LB hv2 hj1 hj2 hC2 hj3
      by_cases hk32 : k < 32
      all_goals
        cases b9
        · have ht := HTI.out.1 rfl
          have HTT := Aside0.mk ht
          clear ht
          go_wp2_with fail
          refine HT.out.mono ?_
          intro e w5 hp
          obtain ⟨E, q, rfl, hE, hw⟩ := take_out HTT.out hp
          have HW5 := HW.step hw
          have HE := Aside0.mk hE
          clear hp hE hw
          go_wp2_with fail
          refine (bytes_calls E A q c xs xs w5 HE.out HW5.out HX.out HX.out (b := true) (by simp)).mono ?_
          rintro e w' ⟨rfl, rfl⟩
          go_wp2
          go_ret
          exact ⟨rfl, HW5.base⟩
        · have ht := HTI.out.2 (by simp)
          have HTT := Aside0.mk ht
          clear ht
          go_wp2_with fail
          refine HT.out.mono ?_
          intro e w5 hp
          obtain ⟨E, q, rfl, hE, hw⟩ := take_out HTT.out hp
          have HW5 := HW.step hw
          clear hp hE hw
          go_wp2
          go_ret
          exact ⟨rfl, HW5.base⟩

theorem turned_any (A : Option Addr) (c : Nat) (at_ m : Int) (sb : Bool) (xs : List Int) (w : World) (hm : (Lit.int .u32 m).wf = true) (hr : (Kd.int .u8).C w A xs.length xs) (hn : xs.length * 1 ≤ 140737488351232) (hx : ∀ x ∈ xs, (Lit.int .u8 x).wf = true) :
    Calls Try.prog 5 #[.slice A xs.length c, .int .i64 at_, .int .u32 m, .bool sb] w fun e w' => e = .returned (.bool true) ∧ Below w.heap.size w w' := by
  by_cases h : m = 0 ∨ 65536 < xs.length
  · exact turned_passed A c xs at_ m sb w hr hn h
  · have hb := wf_u32 hm
    obtain ⟨M, rfl⟩ : ∃ M : W32, m = (M.toNat : Int) := ⟨BitVec.ofInt 32 m, by rw [BitVec.toNat_ofInt]; omega⟩
    have h0 : ((M.toNat : Int) == 0) = false := by rw [beq_eq_false_iff_ne]; omega
    by_cases hs : sb = true
    · exact turned_sum A c xs at_ M sb w hr (by omega) (fun x h => wf_u8 (hx x h)) h0 hs 40 32 rfl rfl
    · by_cases hz : xs.length = 0
      · obtain rfl : xs = [] := List.eq_nil_of_length_eq_zero hz
        exact turned_none A c at_ M sb w hr (by omega) (fun x h => by cases h) h0 (by simpa using hs) 40 32 rfl rfl
      exact turned_body A c xs at_ M sb w hr (by omega) (fun x h => wf_u8 (hx x h)) h0 ⟨by cases sb <;> simp_all, by omega⟩ 72 (8 * xs.length) rfl rfl
end Go.Proofs.Ytfkghmalccpcbaa.Frame
