/- A region that draws its order: a first operand that is only moved, reads and calls in a class of worlds, and a tail that comes one by one (append). -/
import Derived.Test.YtonibdmoimgimaaHold
import Derived.StillTailTactics
import Derived.Deep.QuietTactic
import Derived.BigQuiet
namespace Go.Proofs.Ytonibdmoimgimaa.Region
open Go Go.RowKit Go.Proofs.Ytonibdmoimgimaa.Base
set_option linter.unusedVariables false
section
variable {P : Program} {ops : Array Oper} {md : Region.Mode} {C : World → Prop}
/-- Every operation of the head but the first is waited for by a later one, up to the tail's first. -/
def sink1 (md : Region.Mode) (ops : Array Oper) (n : Nat) : Bool :=
  (List.range n).all fun i => i == 0 || (List.range (n + 1)).any fun j => decide (i < j) && Region.waitsFor md ops j i
theorem no_tail {n : Nat} {listed : Array Bool} (hs : sink1 md ops n = true) (hc : Region.chainB md ops n = true) (hn : n < ops.size) (inv : HeadInv md ops n listed) :
    ∀ (d i : Nat), n - i = d → 0 < i → i < n → listed.getD i true = false → ∀ t, n ≤ t → t ∉ Region.ready md ops listed := by
  intro d
  induction d using Nat.strongRecOn with
  | _ d ih =>
    intro i hd h0 hi hun t ht hr
    obtain ⟨_, ot, hot, hall⟩ := mem_ready.1 hr
    have htl : t < ops.size := (Array.getElem?_eq_some_iff.1 hot).1
    rcases Nat.lt_or_ge n t with htn | htn
    · have h1 := List.all_eq_true.1 hc t (List.mem_range.2 htl)
      rw [Bool.or_eq_true, decide_eq_true_eq] at h1
      rcases h1 with h1 | h1
      · omega
      · obtain ⟨o', ho', e, he, hb, hon⟩ := Region.waitsFor_spec h1
        obtain rfl : o' = ot := Option.some.inj (ho'.symm.trans hot)
        have h2 := hall e he hb
        rw [hon, getD_both (inv.tail (t - 1) (by omega) (by omega))] at h2
        cases h2
    · obtain rfl : t = n := by omega
      have h1 := List.all_eq_true.1 hs i (List.mem_range.2 hi)
      rw [Bool.or_eq_true, beq_iff_eq] at h1
      obtain ⟨j, hj, hj2⟩ := List.any_eq_true.1 (h1.resolve_left (by omega))
      rw [Bool.and_eq_true, decide_eq_true_eq] at hj2
      obtain ⟨oj, hoj, e, he, hb, hon⟩ := Region.waitsFor_spec hj2.2
      have hjl := List.mem_range.1 hj
      by_cases hjt : j = t
      · subst hjt
        obtain rfl : oj = ot := Option.some.inj (hoj.symm.trans hot)
        have h2 := hall e he hb
        rw [hon, getD_both hun] at h2
        cases h2
      · cases hl : listed.getD j false with
        | true =>
          have h2 := inv.closed j oj hoj hl e he hb
          rw [hon, getD_both hun] at h2
          cases h2
        | false =>
          have hjs : j < listed.size := by rw [inv.size]; omega
          exact ih (t - j) (by omega) j rfl (by omega) (by omega) (getD_in hjs hl) t (Nat.le_refl _) hr
/-- Whatever order is picked, as long as the head lasts. -/
def headQ (P : Program) (md : Region.Mode) (ops : Array Oper) (C : World → Prop) (n : Nat) (L : Array Bool → Act → Prop) : Nat → Array Bool → Act → Prop
  | 0, listed, a => L listed a
  | f + 1, listed, a => Region.ready md ops listed ≠ [] ∧ ∀ i ∈ Region.ready md ops listed, i < n ∧ qOp P ops C i (headQ P md ops C n L f (listed.setIfInBounds i true)) a
theorem any_of_head {n g : Nat} {L : Array Bool → Act → Prop} {Q' : Exit → Act → World → Prop} (hL : ∀ listed a w, C w → L listed a → wpAny P md ops Q' g listed a w) :
    ∀ (f : Nat) (listed : Array Bool) (a : Act) (w : World), C w → headQ P md ops C n L f listed a → wpAny P md ops Q' (f + g) listed a w
  | 0, listed, a, w, hw, h => by rw [Nat.zero_add]; exact hL _ _ _ hw h
  | f + 1, listed, a, w, hw, h => by
    rw [show f + 1 + g = (f + g) + 1 by omega]
    exact ⟨fun h0 => absurd h0 h.1, fun i hi => wpOp_of_qOp hw (fun a' w' hw' h' => any_of_head hL f _ a' w' hw' h') (h.2 i hi).2⟩
theorem head_first {n i : Nat} {oi : Oper} {v : Value} {L : Array Bool → Act → Prop} (hi : ops[i]? = some oi) (hsel : ∀ (j : Nat) (o : Oper) cs b, ops[j]? = some o → o.op ≠ .select cs b)
    (hs : sink1 md ops n = true) (hc : Region.chainB md ops n = true) (hn : n < ops.size) (h0 : 0 < i) (hin : i < n)
    (hdone : ∀ listed a, L listed a → ∀ j ∈ Region.ready md ops listed, n ≤ j) :
    ∀ (f : Nat) (listed : Array Bool) (a : Act), HeadInv md ops n listed →
      (∀ j oj, ops[j]? = some oj → j ≠ i → listed.getD j true = false → (∀ e ∈ oj.after, Region.binds md e = true → e.on ≠ i) → oi.apart ops oj = true) →
      i ∈ Region.ready md ops listed → YieldsIn P ops C oi v a →
      headQ P md ops C n L f (listed.setIfInBounds i true) (a.put oi.dst v) → headQ P md ops C n L (f + 1) listed a := by
  intro f
  induction f with
  | zero =>
    intro listed a inv _ hr hy H
    have hun := (mem_ready.1 hr).1
    refine ⟨fun h => (by rw [h] at hr; cases hr), fun j hj => ?_⟩
    have hjn : j < n := Nat.lt_of_not_le fun h => no_tail hs hc hn inv _ i rfl h0 hin hun j h hj
    refine ⟨hjn, ?_⟩
    by_cases hji : j = i
    · subst hji; exact hy.qOp hi H
    · have := hdone _ _ H j (ready_mono hj hji)
      omega
  | succ f ih =>
    intro listed a inv hfree hr hy H
    have hun := (mem_ready.1 hr).1
    refine ⟨fun h => (by rw [h] at hr; cases hr), fun j hj => ?_⟩
    have hjn : j < n := Nat.lt_of_not_le fun h => no_tail hs hc hn inv _ i rfl h0 hin hun j h hj
    refine ⟨hjn, ?_⟩
    by_cases hji : j = i
    · subst hji; exact hy.qOp hi H
    · have h1 := (H.2 j (ready_mono hj hji)).2
      obtain ⟨hjun, oj, hoj, hall⟩ := mem_ready.1 hj
      have hnot : ∀ e ∈ oj.after, Region.binds md e = true → e.on ≠ i := fun e he hb heq => by
        have h1 := hall e he hb
        rw [heq, getD_both hun] at h1
        cases h1
      have h2 := qOp_put hoj (hfree j oj hoj hji hjun hnot) (fun cs b => hsel i oi cs b hi) (fun cs b => hsel j oj cs b hoj) hy h1
      have hfree' : ∀ k ok, ops[k]? = some ok → k ≠ i → (listed.setIfInBounds j true).getD k true = false →
          (∀ e ∈ ok.after, Region.binds md e = true → e.on ≠ i) → oi.apart ops ok = true := fun k ok hk hki hun hno => by
        refine hfree k ok hk hki ?_ hno
        by_cases hjk : j = k
        · subst hjk; exact hjun
        · rwa [getD_set_ne true hjk] at hun
      refine qOp_mono (fun a' h3 => ih (listed.setIfInBounds j true) a' (inv.set hj hjn) hfree' (ready_mono hr (Ne.symm hji)) h3.1 ?_) h2
      rw [Array.setIfInBounds_comm _ _ hji]
      exact h3.2
theorem head_lex {n g : Nat} {Lq : Act → Prop} (hsel : Region.noSelect ops = true) (hs : sink1 md ops n = true) (hc : Region.chainB md ops n = true) (hn : n < ops.size) :
    ∀ (l : List Oper) (k : Nat) (listed : Array Bool) (a : Act), 0 < k → (∀ j, j < l.length → l[j]? = ops[k + j]?) → k + l.length = n → HeadInv md ops n listed →
    Region.lexHead md ops g l.length k listed = true → wpQuiet P ops C Lq l a →
    headQ P md ops C n (fun listed' a' => Region.seqB md ops g n listed' = true ∧ Lq a') l.length listed a
  | [], k, listed, a, _, _, hk, _, hB, h => by
    obtain rfl : k = n := by simpa using hk
    exact ⟨by simpa [Region.lexHead] using hB, h⟩
  | o :: l, k, listed, a, h0, hl, hk, inv, hB, h => by
    have ho : ops[k]? = some o := by simpa using (hl 0 (by simp)).symm
    simp only [List.length_cons, Region.lexHead, Bool.and_eq_true] at hB
    obtain ⟨⟨hr, hf⟩, hB'⟩ := hB
    have hkn : k < n := by simp only [List.length_cons] at hk; omega
    have hr' : k ∈ Region.ready md ops listed := by simpa using hr
    have hst : qOp P ops C k (wpQuiet P ops C Lq l) a := by unfold qOp; simp only [ho]; exact h
    obtain ⟨v, hy, hK⟩ := yieldsIn_of_qOp ho hst
    exact head_first ho (Region.noSelect_spec hsel) hs hc hn h0 hkn (fun listed' a' hL => seqB_ready hL.1) l.length listed a inv (Region.free_spec ho hf) hr' hy
      (head_lex hsel hs hc hn l (k + 1) _ _ (by omega) (fun j hj => by have := hl (j + 1) (by simp; omega); simpa [Nat.add_assoc, Nat.add_comm 1 j] using this) (by simp only [List.length_cons] at hk; omega) (inv.set hr' hkn) hB' hK)
/-- What is asked of such a region, as a Bool. -/
def appB (md : Region.Mode) (ops : Array Oper) (n : Nat) : Bool :=
  Region.noSelect ops && decide (0 < n) && decide (n < ops.size) && sink1 md ops n && Region.chainB md ops n &&
  (Region.ready md ops (Array.replicate ops.size false)).contains 0 && Region.free md ops (Array.replicate ops.size false) 0 &&
  (match ops[0]? with | some o => o.after.isEmpty | none => false) &&
  Region.lexHead md ops (ops.size - n) (n - 1) 1 ((Array.replicate ops.size false).setIfInBounds 0 true)
theorem region_app (good : World → Prop) {id : Nat} {Q : Exit → Act → World → Prop} {a : Act} {w : World} {o : Oper} {l : List Oper} (n : Nat) (x : Operand) (hop : o.op = .move x) (hgd : o.guard = none) (hm : P.follows .mixedOrders = true) (hB : appB .any (o :: l).toArray n = true)
    (hQ : ∀ c a v w, Q (.panic c) (a.put o.dst v) w → Q (.panic c) a w) (h0 : good w.drew)
    (h8 : Nonempty (GW good) → wpQuiet P (o :: l).toArray (fun w' => ∃ n : GW good, w' = n.w) (fun a' => ∀ w', good w' → wpList P (o :: l).toArray Q ((o :: l).drop n) a' w') ((o :: l).take n) a) : (Code.region id (o :: l).toArray true).wp P Q a w := by
  simp only [appB, Bool.and_eq_true, decide_eq_true_eq] at hB
  obtain ⟨⟨⟨⟨⟨⟨⟨⟨hsel, hn0⟩, hn⟩, hs⟩, hc⟩, hr⟩, hf⟩, haf⟩, hlex⟩ := hB
  have hn' : n < (o :: l).length := by simpa using hn
  have ho : (o :: l).toArray[0]? = some o := rfl
  have h9 := h8 ⟨⟨w.drew, h0⟩⟩
  have h : wpQuiet P (o :: l).toArray (fun w' => ∃ n : GW good, w' = n.w) (fun a' => ∀ w', good w' → wpList P (o :: l).toArray Q ((o :: l).drop n) a' w') (l.take (n - 1)) (a.put o.dst (a.eval x)) := by
    have e9 : (o :: l).take n = o :: l.take (n - 1) := by
      obtain ⟨m, rfl⟩ : ∃ m, n = m + 1 := ⟨n - 1, by omega⟩
      rfl
    rw [e9] at h9
    unfold wpQuiet at h9
    rw [if_pos (by simp [Region.wanted, hgd])] at h9
    obtain ⟨v, h1, h2⟩ := h9
    have h3 := h1 w.drew ⟨⟨w.drew, h0⟩, rfl⟩
    have h4 : a.eval x = v := by
      unfold Oper.quietAt at h3
      simpa [execOp, hop, Oper.quietUpon] using h3
    rw [h4]
    exact h2
  have haf' : o.after = #[] := by
    rw [ho] at haf
    simpa using haf
  refine wp_region_any hm ?_
  have hsz : (o :: l).toArray.size = ((l.take (n - 1)).length + ((o :: l).toArray.size - n)) + 1 := by
    simp only [List.size_toArray, List.length_take, List.length_cons] at hn' ⊢
    omega
  have inv0 : HeadInv .any (o :: l).toArray n ((Array.replicate (o :: l).toArray.size false).setIfInBounds 0 true) := by
    refine ⟨by simp, fun j oj hj hl e he hb => ?_, fun t ht htl => ?_⟩
    · by_cases hj0 : 0 = j
      · subst hj0
        obtain rfl : oj = o := Option.some.inj (hj.symm.trans ho)
        rw [haf'] at he
        simp at he
      · rw [getD_set_ne false hj0, getD_replicate_false] at hl
        cases hl
    · rw [getD_set_ne true (by omega)]
      exact getD_in (by simpa using htl) (getD_replicate_false _ _)
  have H := head_lex (P := P) (C := fun w' => ∃ n : GW good, w' = n.w) (md := .any) (g := (o :: l).toArray.size - n) hsel hs hc hn (l.take (n - 1)) 1 _ (a.put o.dst (a.eval x)) (by omega) (fun j hj => by
    have hj' : j < n - 1 := by simp only [List.length_take] at hj; omega
    have hjl : j < l.length := by simp only [List.length_take] at hj; omega
    rw [List.getElem?_take, if_pos hj', List.getElem?_toArray, Nat.add_comm 1 j, List.getElem?_cons_succ]) (by simp only [List.length_take, List.length_cons] at hn' ⊢; omega) inv0 (by
      rw [show (l.take (n - 1)).length = n - 1 by simp only [List.length_take, List.length_cons] at hn' ⊢; omega]
      exact hlex) h
  have H2 := any_of_head (P := P) (Q' := Q) (g := (o :: l).toArray.size - n) (fun listed a' w' hw' hL => by
    obtain ⟨nG, rfl⟩ := hw'
    have := wpAny_of_seq (md := .any) (Q' := Q) ((o :: l).drop n) n listed a' nG.w (fun j => by simp [List.getElem?_drop]) (by rw [List.length_drop]; simpa using hL.1) (hL.2 _ nG.ok)
    rwa [List.length_drop] at this) _ _ _ _ ⟨⟨w.drew, h0⟩, rfl⟩ H
  have key := wpAny_first (P := P) (Q := Q) (md := .any) (v := a.eval x) ho (Region.noSelect_spec hsel) (fun c a' w' => hQ c a' _ w') ((l.take (n - 1)).length + ((o :: l).toArray.size - n)) (Array.replicate (o :: l).toArray.size false) a w.drew (Region.free_spec ho hf) (by simpa using hr)
    (.inl ⟨by simp [Region.wanted, hgd], fun w' => by simp [execOp, hop]⟩) H2
  rw [← hsz] at key
  exact key
/-- The class of all that comes of a world. -/
abbrev later (w0 : World) : World → Prop := fun x => Below w0.heap.size w0 x
theorem good_below {w0 : World} (n : GW (later w0)) {f : FuncId} {args : Array Value} {v : Value} (h : Calls P f args n.w fun e w' => e = .returned v ∧ Below n.w.heap.size n.w w') :
    Calls P f args n.w fun e w'' => e = .returned v ∧ ∃ m : GW (later w0), w'' = m.w := h.mono fun _ _ ⟨he, hg⟩ => ⟨he, ⟨_, n.ok.trans (hg.mono n.ok.size)⟩, rfl⟩
theorem good_eq {w0 : World} (n : GW (later w0)) {f : FuncId} {args : Array Value} {v : Value} (h : Calls P f args n.w fun e w' => e = .returned v ∧ n.w = w') :
    Calls P f args n.w fun e w'' => e = .returned v ∧ ∃ m : GW (later w0), w'' = m.w := h.mono fun _ _ ⟨he, hg⟩ => ⟨he, n, hg.symm⟩
theorem later_drew (w0 : World) : later w0 w0.drew := (Below.refl _ _).drew
end
end Go.Proofs.Ytonibdmoimgimaa.Region
