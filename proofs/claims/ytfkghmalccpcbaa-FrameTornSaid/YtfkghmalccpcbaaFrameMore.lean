/- Frames one behind the other, whole, torn and turned, said plainly. -/
import Derived.Test.YtfkghmalccpcbaaScan
import Derived.Test.YtfkghmalccpcbaaCrcMath3
namespace Go.Proofs.Ytfkghmalccpcbaa.Frame
open Go Go.RowKit Go.Proofs.YtfkghmalccpcbaaW.PrintWords Go.Proofs.Ytfkghmalccpcbaa.Base Go.Proofs.Ytfkghmalccpcbaa.CrcMath Go.Proofs.Ytfkghmalccpcbaa.FrameMath
set_option linter.unusedVariables false
set_option linter.unusedSimpArgs false

/-- Frames, one behind the other. -/
def frames (bs : List (List Int)) : List Int := (bs.map frame).flatten
theorem frames_cons (b : List Int) (bs : List (List Int)) : frames (b :: bs) = frame b ++ frames bs := by simp [frames]
theorem frames_snoc (b : List Int) (bs : List (List Int)) : frames (bs ++ [b]) = frames bs ++ frame b := by simp [frames]
theorem frames_append (cs bs : List (List Int)) : frames (cs ++ bs) = frames cs ++ frames bs := by simp [frames]
theorem frames_bytes (bs : List (List Int)) (h : ∀ b ∈ bs, ∀ x ∈ b, 0 ≤ x ∧ x ≤ 255) : ∀ x ∈ frames bs, 0 ≤ x ∧ x ≤ 255 := by
  intro x hx
  unfold frames at hx
  rw [List.mem_flatten] at hx
  obtain ⟨l, hl, hx⟩ := hx
  obtain ⟨b, hb, rfl⟩ := List.mem_map.1 hl
  exact frame_bounds b (h b hb) x hx
theorem scanI_frames : ∀ (bs : List (List Int)) (rest : List Int) (f : Nat), (∀ b ∈ bs, b.length ≤ 1048576) → (frames bs ++ rest).length + 1 ≤ f →
    ∃ f', rest.length + 1 ≤ f' ∧ scanI f (frames bs ++ rest) = (bs ++ (scanI f' rest).1, (frames bs).length + (scanI f' rest).2.1, (scanI f' rest).2.2)
  | [], rest, f, _, hf => ⟨f, by simpa [frames] using hf, by simp [frames]⟩
  | b :: bs, rest, f, hb, hf => by
    rw [frames_cons, List.append_assoc, List.length_append, frame_length] at hf
    obtain ⟨g, rfl⟩ : ∃ g, f = g + 1 := ⟨f - 1, by omega⟩
    obtain ⟨f', h1, h2⟩ := scanI_frames bs rest g (fun c hc => hb c (List.mem_cons_of_mem _ hc)) (by omega)
    refine ⟨f', h1, ?_⟩
    have ht := takeI_frame b (frames bs ++ rest) (hb b List.mem_cons_self)
    have hd : (frame b ++ (frames bs ++ rest)).drop (b.length + 10) = frames bs ++ rest := by rw [← frame_length, List.drop_left]
    rw [frames_cons, List.append_assoc]
    simp only [scanI, ht, if_true, hd, h2, List.cons_append, List.length_append, frame_length]
    rw [Nat.add_assoc (b.length + 10)]
theorem scanI_end (f : Nat) (rest : List Int) (hf : 1 ≤ f) (h : (takeI rest).2.2 = 6 ∨ (takeI rest).2.2 = 9) : scanI f rest = ([], 0, 0) := by
  obtain ⟨g, rfl⟩ : ∃ g, f = g + 1 := ⟨f - 1, by omega⟩
  simp only [scanI]
  rw [if_neg (by omega), if_pos h]
theorem scan_all (bs : List (List Int)) (rest : List Int) (hb : ∀ b ∈ bs, b.length ≤ 1048576) (h : (takeI rest).2.2 = 6 ∨ (takeI rest).2.2 = 9) :
    scanI ((frames bs ++ rest).length + 1) (frames bs ++ rest) = (bs, (frames bs).length, 0) := by
  obtain ⟨f', h1, h2⟩ := scanI_frames bs rest _ hb (Nat.le_refl _)
  rw [h2, scanI_end f' rest (by omega) h]
  simp
theorem getD_drop (xs : List Int) (a k : Nat) : (xs.drop a).getD k 0 = xs.getD (a + k) 0 := by
  rw [List.getD_eq_getElem?_getD, List.getD_eq_getElem?_getD, List.getElem?_drop]
theorem num4_eq (xs : List Int) : num4 xs = xs.getD 0 0 + xs.getD 1 0 * 256 + xs.getD 2 0 * 65536 + xs.getD 3 0 * 16777216 := by
  unfold num4 part4 part4 part4 part4 part4
  omega
theorem frame_num (b : List Int) : (frame b).getD 0 0 = 165 ∧ (frame b).getD 1 0 = (b.length : Int) % 256 ∧ (frame b).getD 2 0 = (b.length : Int) / 256 % 256 ∧ (frame b).getD 3 0 = (b.length : Int) / 65536 % 256 ∧ (frame b).getD 4 0 = (b.length : Int) / 16777216 % 256 := by
  refine ⟨rfl, rfl, rfl, rfl, rfl⟩
theorem frame_sum (b : List Int) : (frame b).getD 5 0 = ((fsum b).toNat : Int) % 256 ∧ (frame b).getD 6 0 = ((fsum b).toNat : Int) / 256 % 256 ∧ (frame b).getD 7 0 = ((fsum b).toNat : Int) / 65536 % 256 ∧ (frame b).getD 8 0 = ((fsum b).toNat : Int) / 16777216 % 256 := by
  refine ⟨rfl, rfl, rfl, rfl⟩
theorem frame_body (b : List Int) (i : Nat) (hi : i < b.length) : (frame b).getD (9 + i) 0 = b.getD i 0 := by
  rw [← getD_drop]
  have : (frame b).drop 9 = b ++ [90] := by simp [frame, le4]
  rw [this, List.getD_eq_getElem?_getD, List.getD_eq_getElem?_getD, List.getElem?_append_left hi]
theorem frame_last (b : List Int) : (frame b).getD (9 + b.length) 0 = 90 := by
  rw [← getD_drop]
  have : (frame b).drop 9 = b ++ [90] := by simp [frame, le4]
  rw [this, List.getD_eq_getElem?_getD, List.getElem?_append_right (Nat.le_refl _)]
  simp
theorem torn_at (b : List Int) (m z i : Nat) (hm : m ≤ (frame b).length) : ((frame b).take m ++ List.replicate z 0).getD i 0 = if i < m then (frame b).getD i 0 else 0 := by
  have hl : ((frame b).take m).length = m := by rw [List.length_take]; omega
  rw [List.getD_eq_getElem?_getD]
  by_cases h : i < m
  · rw [if_pos h, List.getElem?_append_left (by omega), List.getElem?_take, if_pos h, List.getD_eq_getElem?_getD]
  · rw [if_neg h, List.getElem?_append_right (by omega), List.getElem?_replicate]
    split <;> rfl
theorem takeI_torn (b : List Int) (hlen : b.length ≤ 1048576) (m z : Nat) (hm : m < (frame b).length) : (takeI ((frame b).take m ++ List.replicate z 0)).2.2 = 6 ∨ (takeI ((frame b).take m ++ List.replicate z 0)).2.2 = 9 := by
  have hT := fun i => torn_at b m z i (Nat.le_of_lt hm)
  have hn := num4_eq (((frame b).take m ++ List.replicate z 0).drop 1)
  rw [getD_drop, getD_drop, getD_drop, getD_drop, hT, hT, hT, hT] at hn
  rw [frame_length] at hm
  obtain ⟨f0, f1, f2, f3, f4⟩ := frame_num b
  revert hT hn
  generalize (frame b).take m ++ List.replicate z 0 = T
  intro hT hn
  simp only [Nat.add_zero, Nat.reduceAdd, f1, f2, f3, f4] at hn
  have hnum : 0 ≤ num4 (T.drop 1) ∧ num4 (T.drop 1) ≤ 1048576 ∧ m ≤ 9 + (num4 (T.drop 1)).toNat := by
    by_cases m1 : 1 < m
    · rw [if_pos m1] at hn
      by_cases m2 : 2 < m
      · rw [if_pos m2] at hn
        by_cases m3 : 3 < m
        · rw [if_pos m3] at hn
          by_cases m4 : 4 < m
          · rw [if_pos m4] at hn
            omega
          · rw [if_neg m4] at hn
            omega
        · rw [if_neg m3, if_neg (by omega)] at hn
          omega
      · rw [if_neg m2, if_neg (by omega), if_neg (by omega)] at hn
        omega
    · rw [if_neg m1, if_neg (by omega), if_neg (by omega), if_neg (by omega)] at hn
      omega
  have hz : T.getD (9 + (num4 (T.drop 1)).toNat) 0 = 0 := by rw [hT, if_neg (by omega)]
  unfold takeI
  by_cases h0 : T.length = 0
  · rw [if_pos h0]
    exact .inl rfl
  · rw [if_neg h0]
    by_cases m0 : 0 < m
    · have e0 : T.getD 0 0 = 165 := by rw [hT, if_pos m0, f0]
      rw [e0, if_neg (by omega)]
      by_cases h1 : T.length < 10
      · rw [if_pos (.inr h1)]
        exact .inr rfl
      · rw [if_neg (by omega), if_neg (by omega), if_pos (.inr hz)]
        exact .inr rfl
    · have e0 : T.getD 0 0 = 0 := by rw [hT, if_neg m0]
      rw [e0, if_neg (by omega), if_pos (.inl rfl)]
      exact .inr rfl

/-! ### Turned bits -/
theorem byte_ext {x y : Int} (hx : 0 ≤ x ∧ x ≤ 255) (hy : 0 ≤ y ∧ y ≤ 255) (h : ∀ t, t < 32 → (BitVec.ofInt 32 x).getLsbD t = (BitVec.ofInt 32 y).getLsbD t) : x = y := by
  have e : BitVec.ofInt 32 x = BitVec.ofInt 32 y := BitVec.eq_of_getLsbD_eq h
  have e2 := congrArg BitVec.toNat e
  rw [BitVec.toNat_ofInt, BitVec.toNat_ofInt] at e2
  have h1 : x % ((2 ^ 32 : Nat) : Int) = x := by rw [show ((2 ^ 32 : Nat) : Int) = 4294967296 from rfl]; omega
  have h2 : y % ((2 ^ 32 : Nat) : Int) = y := by rw [show ((2 ^ 32 : Nat) : Int) = 4294967296 from rfl]; omega
  rw [h1, h2] at e2
  omega
theorem add_burst (s : W32) (xs ys : List Int) (hl : xs.length = ys.length) (F K : Nat) (M : W32) (hF : F + K ≤ 8 * ys.length)
    (h : ∀ i, i < ys.length → ∀ t, t < 32 → (BitVec.ofInt 32 (xs.getD i 0)).getLsbD t = ((BitVec.ofInt 32 (ys.getD i 0)).getLsbD t ^^ (decide (t < 8) && burst F K M (8 * i + t)))) :
    (add s xs = add s ys ↔ ∀ j, j < K → M.getLsbD j = false) := by
  rw [← sum_burst xs ys hl F K M hF h]
  have h1 := run_diff xs ys hl (burst F K M) h (~~~ s) ys.length (Nat.le_refl _)
  have h2 := run_diff xs ys hl (burst F K M) h (~~~ 0#32) ys.length (Nat.le_refl _)
  rw [List.take_length, ← hl, List.take_length, hl] at h1 h2
  unfold sum add
  rw [h1, h2]
  have key : ∀ r d : W32, (~~~ (r ^^^ d) = ~~~ r ↔ d = 0#32) := by
    intro r d
    constructor
    · intro e
      have e2 : r ^^^ d = r := by
        have := congrArg (fun z : W32 => ~~~ z) e
        simpa using this
      have := congrArg (r ^^^ ·) e2
      simpa [← BitVec.xor_assoc] using this
    · rintro rfl
      rw [BitVec.xor_zero]
  rw [key, key]
/-- What a turned frame is taken for. -/
theorem takeI_turned (b L : List Int) (F K : Nat) (M : W32) (hb : ∀ x ∈ b, 0 ≤ x ∧ x ≤ 255) (hlen : b.length ≤ 1048576) (hL : L.length = (frame b).length)
    (HB : ∀ i, i < (frame b).length → (0 ≤ L.getD i 0 ∧ L.getD i 0 ≤ 255) ∧ ∀ t, t < 32 → (BitVec.ofInt 32 (L.getD i 0)).getLsbD t = ((BitVec.ofInt 32 ((frame b).getD i 0)).getLsbD t ^^ (decide (t < 8) && burst F K M (8 * i + t))))
    (hF : 40 ≤ F ∧ F + K ≤ 72 ∨ 72 ≤ F ∧ F + K ≤ 72 + 8 * b.length) :
    ((∀ j, j < K → M.getLsbD j = false) → takeI L = (b, b.length + 10, 0)) ∧ (¬ (∀ j, j < K → M.getLsbD j = false) → takeI L = ([], 0, 11)) := by
  have fl := frame_length b
  have fb := frame_bounds b hb
  have same : ∀ i, i < (frame b).length → (8 * i + 8 ≤ F ∨ F + K ≤ 8 * i) → L.getD i 0 = (frame b).getD i 0 := by
    intro i hi ho
    refine byte_ext (HB i hi).1 (at_bounds fb i hi rfl) (fun t ht => ?_)
    rw [(HB i hi).2 t ht]
    by_cases h8 : t < 8
    · have : burst F K M (8 * i + t) = false := by
        unfold burst
        rcases ho with ho | ho
        · rw [decide_eq_false (by omega : ¬ F ≤ 8 * i + t)]
          rfl
        · rw [decide_eq_false (by omega : ¬ 8 * i + t < F + K), Bool.and_false]
          rfl
      rw [this, Bool.and_false, Bool.xor_false]
    · rw [decide_eq_false h8, Bool.false_and, Bool.xor_false]
  obtain ⟨f0, f1, f2, f3, f4⟩ := frame_num b
  obtain ⟨f5, f6, f7, f8⟩ := frame_sum b
  have e0 : L.getD 0 0 = 165 := by rw [same 0 (by omega) (by omega), f0]
  have n1 : num4 (L.drop 1) = b.length := by
    rw [num4_eq, getD_drop, getD_drop, getD_drop, getD_drop]
    simp only [Nat.add_zero, Nat.reduceAdd]
    rw [same 1 (by omega) (by omega), same 2 (by omega) (by omega), same 3 (by omega) (by omega), same 4 (by omega) (by omega), f1, f2, f3, f4]
    omega
  have n1' : (num4 (L.drop 1)).toNat = b.length := by rw [n1]; rfl
  have el : L.getD (9 + b.length) 0 = 90 := by rw [same (9 + b.length) (by omega) (by omega), frame_last]
  have hs := (fsum b).isLt
  have bl : ((L.drop 9).take b.length).length = b.length := by rw [List.length_take, List.length_drop]; omega
  have bat : ∀ i, i < b.length → ((L.drop 9).take b.length).getD i 0 = L.getD (9 + i) 0 := by
    intro i hi
    rw [List.getD_eq_getElem?_getD, List.getElem?_take, if_pos hi, ← List.getD_eq_getElem?_getD, getD_drop]
  have whole : takeI L = if num4 (L.drop 5) ≠ (fsum ((L.drop 9).take b.length)).toNat then ([], 0, 11) else ((L.drop 9).take b.length, 10 + b.length, 0) := by
    unfold takeI
    rw [n1', e0, el, n1, if_neg (by omega), if_neg (by omega), if_neg (by omega), if_neg (by omega), if_neg (by omega), if_neg (by omega)]
  have fs : fsum ((L.drop 9).take b.length) = add (sum (le4 b.length)) ((L.drop 9).take b.length) := by unfold fsum; rw [bl]
  rw [whole]
  have asame : (∀ i, i < b.length → L.getD (9 + i) 0 = b.getD i 0) → (L.drop 9).take b.length = b := by
    intro h
    apply List.ext_getElem (by rw [bl])
    intro i h1 h2
    have := bat i h2
    rw [h i h2] at this
    rw [List.getD_eq_getElem?_getD, List.getD_eq_getElem?_getD, List.getElem?_eq_getElem h1, List.getElem?_eq_getElem h2] at this
    simpa using this
  rcases hF with ⟨hF1, hF2⟩ | ⟨hF1, hF2⟩
  · have hbody : (L.drop 9).take b.length = b := asame (fun i hi => by rw [same (9 + i) (by omega) (by omega), frame_body b i hi])
    rw [hbody]
    have n5 := num4_eq (L.drop 5)
    rw [getD_drop, getD_drop, getD_drop, getD_drop] at n5
    simp only [Nat.add_zero, Nat.reduceAdd] at n5
    have b5 := (HB 5 (by omega)).1
    have b6 := (HB 6 (by omega)).1
    have b7 := (HB 7 (by omega)).1
    have b8 := (HB 8 (by omega)).1
    constructor
    · intro hz
      have z : ∀ i, i < (frame b).length → L.getD i 0 = (frame b).getD i 0 := by
        intro i hi
        refine byte_ext (HB i hi).1 (at_bounds fb i hi rfl) (fun t ht => ?_)
        rw [(HB i hi).2 t ht]
        have : burst F K M (8 * i + t) = false := by
          unfold burst
          by_cases h1 : F ≤ 8 * i + t ∧ 8 * i + t < F + K
          · rw [hz (8 * i + t - F) (by omega), Bool.and_false]
          · by_cases h2 : F ≤ 8 * i + t
            · rw [decide_eq_false (by omega : ¬ 8 * i + t < F + K), Bool.and_false]
              rfl
            · rw [decide_eq_false h2]
              rfl
        rw [this, Bool.and_false, Bool.xor_false]
      rw [if_neg (by rw [n5, z 5 (by omega), z 6 (by omega), z 7 (by omega), z 8 (by omega), f5, f6, f7, f8]; omega)]
      rw [Nat.add_comm]
    · intro hz
      rw [if_pos]
      intro e
      apply hz
      intro j hj
      cases hbit : M.getLsbD j
      · rfl
      exfalso
      have hp : (F + j) / 8 = 5 ∨ (F + j) / 8 = 6 ∨ (F + j) / 8 = 7 ∨ (F + j) / 8 = 8 := by omega
      have ne : L.getD ((F + j) / 8) 0 ≠ (frame b).getD ((F + j) / 8) 0 := by
        intro e2
        have := (HB ((F + j) / 8) (by omega)).2 ((F + j) % 8) (by omega)
        rw [e2, show 8 * ((F + j) / 8) + (F + j) % 8 = F + j by omega] at this
        have hbu : burst F K M (F + j) = true := by
          unfold burst
          rw [decide_eq_true (by omega), decide_eq_true (by omega), Nat.add_sub_cancel_left, hbit]
          rfl
        rw [hbu, decide_eq_true (by omega : (F + j) % 8 < 8)] at this
        revert this
        cases (BitVec.ofInt 32 ((frame b).getD ((F + j) / 8) 0)).getLsbD ((F + j) % 8) <;> simp
      rw [n5] at e
      rcases hp with hp | hp | hp | hp <;> rw [hp] at ne <;> first | rw [f5] at ne | rw [f6] at ne | rw [f7] at ne | rw [f8] at ne
      all_goals omega
  · have n5 : num4 (L.drop 5) = (fsum b).toNat := by
      rw [num4_eq, getD_drop, getD_drop, getD_drop, getD_drop]
      simp only [Nat.add_zero, Nat.reduceAdd]
      rw [same 5 (by omega) (by omega), same 6 (by omega) (by omega), same 7 (by omega) (by omega), same 8 (by omega) (by omega), f5, f6, f7, f8]
      omega
    have bu := add_burst (sum (le4 b.length)) ((L.drop 9).take b.length) b bl (F - 72) K M (by omega) (fun i hi t ht => by
      rw [bat i hi, (HB (9 + i) (by omega)).2 t ht, frame_body b i hi]
      congr 2
      unfold burst
      by_cases h1 : F ≤ 8 * (9 + i) + t
      · rw [decide_eq_true h1, decide_eq_true (by omega : F - 72 ≤ 8 * i + t), show 8 * (9 + i) + t - F = 8 * i + t - (F - 72) by omega]
        by_cases h2 : 8 * (9 + i) + t < F + K
        · rw [decide_eq_true h2, decide_eq_true (by omega : 8 * i + t < F - 72 + K)]
        · rw [decide_eq_false h2, decide_eq_false (by omega : ¬ 8 * i + t < F - 72 + K)]
      · rw [decide_eq_false h1, decide_eq_false (by omega : ¬ F - 72 ≤ 8 * i + t)]
        rfl)
    have fsb : fsum b = add (sum (le4 b.length)) b := rfl
    constructor
    · intro hz
      have e := bu.2 hz
      have same2 : ∀ i, i < b.length → L.getD (9 + i) 0 = b.getD i 0 := by
        intro i hi
        rw [← frame_body b i hi]
        refine byte_ext (HB _ (by omega)).1 (at_bounds fb _ (by omega) rfl) (fun t ht => ?_)
        rw [(HB _ (by omega)).2 t ht]
        have : burst F K M (8 * (9 + i) + t) = false := by
          unfold burst
          by_cases h1 : F ≤ 8 * (9 + i) + t ∧ 8 * (9 + i) + t < F + K
          · rw [hz (8 * (9 + i) + t - F) (by omega), Bool.and_false]
          · by_cases h2 : F ≤ 8 * (9 + i) + t
            · rw [decide_eq_false (by omega : ¬ 8 * (9 + i) + t < F + K), Bool.and_false]
              rfl
            · rw [decide_eq_false h2]
              rfl
        rw [this, Bool.and_false, Bool.xor_false]
      rw [asame same2, n5, if_neg (by simp)]
      rw [Nat.add_comm]
    · intro hz
      rw [if_pos]
      rw [n5, fs, fsb]
      intro e
      exact hz (bu.1 (BitVec.eq_of_toNat_eq (by omega)))
end Go.Proofs.Ytfkghmalccpcbaa.Frame
