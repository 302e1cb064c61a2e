/- What all walks of this seat use. -/
import Derived.Test.YtonibdmoimgimaaProg
import Derived.Test.YtonibdmoimgimaaChecked
import Derived.Test.YtonibdmoimgimaaWWords
import Derived.Test.YtonibdmoimgimaaWLast
import Derived.Test.YtonibdmoimgimaaWMore
import Derived.WalkSpells
import Derived.WalkLawsBesides
import Derived.Outline
import Derived.Lib.Hide
import Derived.Deep.QuietTactic
import Derived.BigQuiet
namespace Go.Proofs.Ytonibdmoimgimaa.Base
open Go Go.RowKit Go.Proofs.YtonibdmoimgimaaW.PrintWords
set_option linter.unusedVariables false

/-- A slice of whole numbers that came in. -/
def IsRow (k : IntKind) (w : World) (a : Option Addr) (len cap : Nat) (zs : List Int) : Prop :=
  (a = none ∧ len = 0 ∧ cap = 0 ∧ zs = []) ∨
  ∃ x, a = some x ∧ len ≤ cap ∧ cap ≤ maxLen ∧ zs.length = cap ∧ (∀ i, i < zs.length → w.cell? (x.add i) = some (.int k (zs.getD i 0))) ∧ ∀ n ∈ zs, (Lit.int k n).wf = true
theorem wf_u8 {x : Int} (h : (Lit.int .u8 x).wf = true) : 0 ≤ x ∧ x ≤ 255 := by
  simp [Lit.wf, IntKind.min, IntKind.max, IntKind.signed, IntKind.bits] at h
  omega
theorem wf_u32 {x : Int} (h : (Lit.int .u32 x).wf = true) : 0 ≤ x ∧ x ≤ 4294967295 := by
  simp [Lit.wf, IntKind.min, IntKind.max, IntKind.signed, IntKind.bits] at h
  omega
theorem wf_u64 {x : Int} (h : (Lit.int .u64 x).wf = true) : 0 ≤ x ∧ x ≤ 18446744073709551615 := by
  simp [Lit.wf, IntKind.min, IntKind.max, IntKind.signed, IntKind.bits] at h
  omega
theorem wf_i32 {x : Int} (h : (Lit.int .i32 x).wf = true) : -2147483648 ≤ x ∧ x ≤ 2147483647 := by
  simp [Lit.wf, IntKind.min, IntKind.max, IntKind.signed, IntKind.bits] at h
  omega
theorem wf_i64 {x : Int} (h : (Lit.int .i64 x).wf = true) : -9223372036854775808 ≤ x ∧ x ≤ 9223372036854775807 := by
  simp [Lit.wf, IntKind.min, IntKind.max, IntKind.signed, IntKind.bits] at h
  omega

/-- An element of a row of whole numbers. -/
theorem at_nat {k : IntKind} {w : World} {A : Option Addr} {n : Nat} {xs : List Int} (h : (Kd.int k).C w A n xs) (i : Nat) (h1 : i < n) :
    ∃ ad x, A = some ad ∧ w.cell? (ad.add i) = some (.int k x) ∧ Aside0 (xs.getD i 0 = x) := by
  obtain ⟨ad, e, hc⟩ := Kd.at_int h (i : Int) (by omega) (by omega)
  exact ⟨ad, _, e, hc, ⟨rfl⟩⟩
theorem event_step {P : Program} {ops : Array Oper} {rest : List Oper} {o : Oper} {a : Act} {Q : Exit → Act → World → Prop} {W w1 : World} {v : Value} (hg : Region.wanted o (yielded ops a.tmps) = true)
    (hrun : (execOp a.eval o).run P W = .ok (.value v) w1) (h : wpList P ops Q rest (a.put o.dst v) w1) : wpList P ops Q (o :: rest) a W :=
  wpList_step fun K hK => by
    rw [if_pos hg]
    unfold Oper.wp
    rw [hrun]
    exact hK _ _ h

/-- 'make([]T, 0, n)': a new block of n zero elements. -/
theorem make_blk {P : Program} (w : World) {ops : Array Oper} {rest : List Oper} {o : Oper} {a : Act} {Q : Exit → Act → World → Prop}
    (hg : Region.wanted o (yielded ops a.tmps) = true) (l c : Operand) (t : TypeId) (hop : o.op = Op.makeSlice t l c)
    (e : TypeId) (z : Value) (size bytes : Nat) (h1 : P.underlying t = some (.slice e)) (h2 : (P.info? e).map (fun i => (i.zero, i.size, i.bytes)) = some (some z, size, bytes))
    (kl kc : IntKind) (C : Int) (n : Nat) (hl : a.eval l = .int kl 0) (hc : a.eval c = .int kc C) (hC : C = (n : Int)) (b2 : bytes * n ≤ 281474976710656) (b3 : n ≤ 9223372036854775807)
    (hK : ∀ w', Aside0 (w'.heap[w.heap.size]? = some (.cells (madeCells z.cells (n * size)) e (0, 0))) → Below w.heap.size w w' → w.heap.size < w'.heap.size → wpList P ops Q rest (a.put o.dst (.slice (some ⟨w.heap.size, 0, none⟩) 0 n)) w') :
    wpList P ops Q (o :: rest) a w := by
  obtain ⟨i, hi, hz, hs, hb⟩ := info_parts h2
  subst hC
  have hr := run_make (P := P) w t e i z h1 hi hz kl kc 0 n (Int.le_refl _) (by omega) (by
    have h : ((i.bytes * n : Nat) : Int) ≤ 281474976710656 := by rw [hb]; omega
    rwa [Int.natCast_mul] at h) (by omega)
  simp only [Int.toNat_zero, Int.toNat_natCast, hs] at hr
  refine event_step hg (w1 := w.alloc (.cells (madeCells z.cells (n * size)) e)) (v := .slice (some ⟨w.heap.size, 0, none⟩) 0 n) (by simp [execOp, hop, hl, hc, hr]) (hK _ ⟨blk_new w _⟩ ((Below.refl _ _).alloc (Nat.le_refl _) _) (by simp))

/-- 'append' into a known block, within the capacity, whatever the shape of what is appended. -/
theorem append_blk {P : Program} (w : World) {ops : Array Oper} {rest : List Oper} {o : Oper} {a : Act} {Q : Exit → Act → World → Prop}
    (hg : Region.wanted o (yielded ops a.tmps) = true) (s x : Operand) (t : TypeId) (hop : o.op = Op.call { callee := Callee.builtin Builtin.append, args := #[s, x], argTypes := #[t, t] })
    (e : TypeId) (z : Value) (size bytes : Nat) (h1 : P.underlying t = some (.slice e)) (h2 : (P.info? e).map (fun i => (i.zero, i.size, i.bytes)) = some (some z, size, bytes))
    (g k cap : Nat) (cur : Array Value) (hs : a.eval s = .slice (some ⟨g, 0, none⟩) k cap) (hblk : w.heap[g]? = some (.cells cur e (0, 0))) (hcur : cur.size = cap * size) (ao : Option Addr) (m c : Nat) (news : List Value) (hx : a.eval x = .slice ao m c) (hn : news.length = m * size)
    (hc : ∀ j u, news[j]? = some u → ∃ ad, ao = some ad ∧ w.cell? (ad.add j) = some u) (hz : ao = none → m = 0) (h1c : ∀ u ∈ news, u.oneCell' = true) (b1 : k + m ≤ cap)
    (hK : ∀ w', Aside0 (w'.heap[g]? = some (.cells (cur.toList.take (k * size) ++ news ++ cur.toList.drop (k * size + news.length)).toArray e (0, 0))) → w.grownBy w' (some g) → wpList P ops Q rest (a.put o.dst (.slice (some ⟨g, 0, none⟩) (k + m) cap)) w') :
    wpList P ops Q (o :: rest) a w := by
  obtain ⟨i, hi, _, hsz, hb⟩ := info_parts h2
  cases ao with
  | some ad =>
    have hr := run_append_room (P := P) w t o.type e i h1 hi g k cap cur hblk ad m c news (by rw [hsz]; exact hn) (fun j u hu => by
      obtain ⟨ad', e1, h⟩ := hc j u hu
      cases e1
      exact h) h1c b1 (by rw [hsz, hn, hcur, ← Nat.add_mul]; exact Nat.mul_le_mul_right _ b1)
    rw [hsz] at hr
    refine event_step hg (by simp only [execOp, hop, resolve, invoke, builtin, Sem.run_bind, Sem.run_pure, Result.andThen_ok, List.map_toArray, List.map_cons, List.map_nil, hs, hx, hr]) (hK _ ⟨setRow_heap w g cur _ e _ hblk⟩ ⟨rfl, rfl, rfl, by simp, fun j _ hj => setRow_other w g j _ (fun e => hj (by rw [e]))⟩)
  | none =>
    obtain rfl := hz rfl
    have hnews : news = [] := List.eq_nil_of_length_eq_zero (by simpa using hn)
    subst hnews
    have hnc : k ≤ cap := by omega
    have hrun : (Builtin.append_ #[t, t] o.type #[.slice (some ⟨g, 0, none⟩) k cap, .slice none 0 c]).run P w = .ok (.slice (some ⟨g, 0, none⟩) k cap) w := by
      simp [Builtin.append_, run_underlying h1, sizeOf, typeInfo, hi, Builtin.lenOf, Builtin.firstCells, hnc, storeCells]
    refine event_step hg (v := .slice (some ⟨g, 0, none⟩) k cap) (w1 := w) (by simp [execOp, hop, resolve, invoke, builtin, hs, hx, hrun, Result.andThen]) ?_
    have := hK w ⟨by simpa using hblk⟩ ⟨rfl, rfl, rfl, Nat.le_refl _, fun _ _ _ => rfl⟩
    simpa using this

/-- The cells of a row of whole numbers, as an append wants them. -/
theorem news_int {k : IntKind} {w : World} {A : Option Addr} {xs : List Int} (h : (Kd.int k).C w A xs.length xs) : ∀ j u, (xs.map (Value.int k))[j]? = some u → ∃ ad, A = some ad ∧ w.cell? (ad.add j) = some u := by
  intro j u hu
  have hj : j < xs.length := by
    rcases Nat.lt_or_ge j xs.length with h | h
    · exact h
    · rw [List.getElem?_eq_none (by simpa using h)] at hu
      cases hu
  obtain ⟨ad, x, e, hc, hx⟩ := at_nat h j hj
  refine ⟨ad, e, hc.trans ?_⟩
  rw [← hu, ← hx.out]
  simp [hj]
theorem none_int {k : IntKind} {w : World} {A : Option Addr} {xs : List Int} (h : (Kd.int k).C w A xs.length xs) (e : A = none) : xs.length = 0 := by
  rcases Nat.eq_zero_or_pos xs.length with h0 | h0
  · exact h0
  · obtain ⟨ad, x, e', _⟩ := at_nat h 0 h0
    rw [e] at e'
    cases e'
theorem one_int (k : IntKind) (xs : List Int) : ∀ u ∈ xs.map (Value.int k), u.oneCell' = true := by
  intro u hu
  obtain ⟨x, _, rfl⟩ := List.mem_map.1 hu
  rfl

/-- Numbers, j times f behind them, and r noughts behind these. -/
def tailed (k : IntKind) (xs : List Int) (f : Int) (j r : Nat) : Array Value := (xs.map (Value.int k) ++ List.replicate j (Value.int k f) ++ List.replicate r (Value.int k 0)).toArray
theorem tailed_size (k : IntKind) (xs : List Int) (f : Int) (j r : Nat) : (tailed k xs f j r).size = xs.length + j + r := by simp [tailed, Nat.add_assoc]
theorem tailed_set (k : IntKind) (xs : List Int) (f : Int) (j r : Nat) : (tailed k xs f j (r + 1)).setIfInBounds (xs.length + j) (.int k f) = tailed k xs f (j + 1) r := by
  unfold tailed
  rw [List.setIfInBounds_toArray]
  congr 1
  rw [List.set_append_right _ _ (by simp)]
  simp only [List.length_append, List.length_map, List.length_replicate, Nat.sub_self, List.replicate_succ, List.set_cons_zero]
  rw [← List.replicate_succ, List.replicate_succ']
  simp
theorem tailed_at (k : IntKind) (xs : List Int) (f : Int) (j r i : Nat) (h : i < xs.length) : (tailed k xs f j r)[i]? = some (.int k (xs.getD i 0)) := by
  unfold tailed
  rw [List.getElem?_toArray, List.append_assoc, List.getElem?_append_left (by simpa using h)]
  simp [h]
theorem tailed_fill (k : IntKind) (xs : List Int) (f : Int) (j r i : Nat) (h1 : xs.length ≤ i) (h2 : i < xs.length + j) : (tailed k xs f j r)[i]? = some (.int k f) := by
  unfold tailed
  rw [List.getElem?_toArray, List.append_assoc, List.getElem?_append_right (by simpa using h1), List.getElem?_append_left (by simp; omega), List.getElem?_replicate, if_pos (by simp; omega)]
theorem tailed_zero (k : IntKind) (xs : List Int) (f : Int) (j r i : Nat) (h1 : xs.length + j ≤ i) (h2 : i < xs.length + j + r) : (tailed k xs f j r)[i]? = some (.int k 0) := by
  unfold tailed
  rw [List.getElem?_toArray, List.getElem?_append_right (by simpa using h1), List.getElem?_replicate, if_pos (by simp; omega)]
theorem made_int (k : IntKind) (n : Nat) : madeCells (Value.int k 0).cells n = tailed k [] 0 0 n := by
  apply Array.ext_getElem?
  intro i
  by_cases h : i < n
  · rw [tailed_zero k [] 0 0 n i (by simp) (by simpa using h)]
    simp [madeCells, Value.cells, h, Nat.mod_one]
  · rw [Array.getElem?_eq_none (by rw [size_madeCells]; omega), Array.getElem?_eq_none (by rw [tailed_size]; simp; omega)]

theorem tailed_own (k : IntKind) (xs : List Int) (m : Nat) : ((tailed k [] 0 0 (xs.length + m)).toList.take (0 * 1) ++ xs.map (Value.int k) ++ (tailed k [] 0 0 (xs.length + m)).toList.drop (0 * 1 + (xs.map (Value.int k)).length)).toArray = tailed k xs 0 0 m := by
  unfold tailed
  simp

theorem at_bounds {lo hi : Int} {xs : List Int} (h : ∀ x ∈ xs, lo ≤ x ∧ x ≤ hi) (i : Nat) (h1 : i < xs.length) {x : Int} (e : xs.getD i 0 = x) : lo ≤ x ∧ x ≤ hi := by
  subst e
  have : xs.getD i 0 = xs[i] := by simp [h1]
  rw [this]
  exact h _ (List.getElem_mem h1)
theorem C_drawn {α : Type} {d : Kd α} {w : World} {A : Option Addr} {n : Nat} {xs : List α} (h : d.C w A n xs) (m : Nat) : d.C (w.drewN m) A n xs := Kd.C_drewN h m
/-- The head of a block, as a row that is read. -/
theorem C_tailed {k : IntKind} {w : World} {g E : Nat} {xs : List Int} {f : Int} {j r : Nat} (h : w.heap[g]? = some (.cells (tailed k xs f j r) E (0, 0))) (hn : xs.length ≤ 9223372036854775807) : (Kd.int k).C w (some ⟨g, 0, none⟩) xs.length xs :=
  Kd.C_of_reads (d := (0 : Int)) (h1 := fun _ => rfl) ⟨rfl, hn, fun _ => ⟨_, rfl, fun i hi => by
    rw [add_plain, blk_cell h, tailed_at k xs f j r i hi]⟩⟩
/-- The beginning of a row that is read. -/
theorem C_take {k : IntKind} {w : World} {A : Option Addr} {xs : List Int} (h : (Kd.int k).C w A xs.length xs) (n : Nat) (hn : n ≤ xs.length) : (Kd.int k).C w A (xs.take n).length (xs.take n) := by
  have hl : (xs.take n).length = n := by rw [List.length_take]; omega
  have hm := Kd.C_max h
  refine Kd.C_of_reads (d := (0 : Int)) (h1 := fun _ => rfl) ⟨rfl, by omega, fun h0 => ?_⟩
  obtain ⟨ad, x, e, _, _⟩ := at_nat h 0 (by omega)
  refine ⟨ad, e, fun i hi => ?_⟩
  obtain ⟨ad', x', e', hc, hx⟩ := at_nat h i (by omega)
  have : ad' = ad := by rw [e] at e'; injection e' with e'; exact e'.symm
  subst this
  rw [hc, ← hx.out]
  congr 2
  show _ = (xs.take n).getD i 0
  simp [show i < n by omega, show i < xs.length by omega]
/-- A literal's block, as a row that is read. -/
theorem C_lit {k : IntKind} (w : World) (xs : List Int) (cs : Array Value) (E : Nat) (fr : Nat × Nat) (h : cs = (xs.map (Value.int k)).toArray) (hn : xs.length ≤ 9223372036854775807) : (Kd.int k).C (w.alloc (.cells cs E fr)) (some ⟨w.heap.size, 0, none⟩) xs.length xs :=
  Kd.C_of_reads (d := (0 : Int)) (h1 := fun _ => rfl) ⟨rfl, hn, fun _ => ⟨_, rfl, fun i hi => by
    rw [add_plain, cell_of_row _ _ _ _ _ _ (blk_new w _), h]
    simp [hi]⟩⟩
/-- 'append' to a row of the call's own (or nil), whatever the shape of what is appended. -/
theorem append_own_any {P : Program} (w : World) {ops : Array Oper} {rest : List Oper} {o : Oper} {a : Act} {Q : Exit → Act → World → Prop}
    (hg : Region.wanted o (yielded ops a.tmps) = true) (s x : Operand) (t : TypeId) (hop : o.op = Op.call { callee := Callee.builtin Builtin.append, args := #[s, x], argTypes := #[t, t] })
    (base : Nat) (e : TypeId) (z : Value) (size bytes : Nat) (h1 : P.underlying t = some (.slice e)) (h2 : (P.info? e).map (fun i => (i.zero, i.size, i.bytes)) = some (some z, size, bytes)) (hzs : z.cells.size = size) (hsz : 0 < size) (hb0 : 0 < bytes)
    (v : Value) (n : Nat) (xs : List Value) (hs : a.eval s = v) (hown : w.ownsRow base e size v n xs) (ao : Option Addr) (m c : Nat) (news : List Value) (hx : a.eval x = .slice ao m c) (hn : news.length = m * size)
    (hc : ∀ j u, news[j]? = some u → ∃ ad, ao = some ad ∧ w.cell? (ad.add j) = some u) (hz : ao = none → m = 0) (h1c : ∀ u ∈ news, u.oneCell' = true) (hb : (n + m) * bytes ≤ 140737488355328) (hbase : base ≤ w.heap.size)
    (hK : ∀ v' w', Aside0 (w'.ownsRow base e size v' (n + m) (xs ++ news)) → w.grownBy w' v.ownBlock → wpList P ops Q rest (a.put o.dst v') w') :
    wpList P ops Q (o :: rest) a w := by
  obtain ⟨i, hi, hz0, hsize, hby⟩ := info_parts h2
  have hle : n + m ≤ 140737488355328 := Nat.le_trans (Nat.le_mul_of_pos_right _ hb0) hb
  cases ao with
  | some ad =>
    obtain ⟨v', w', hr, r1, r2, _⟩ := run_append_own (P := P) w base t o.type e i z size bytes h1 hi hz0 hsize hby hzs hsz v n xs hown ad m c news hn (fun j u hu => by
      obtain ⟨ad', e1, h⟩ := hc j u hu
      cases e1
      exact h) h1c (by unfold maxLen; omega) hb hbase
    refine event_step hg (by simp only [execOp, hop, resolve, invoke, builtin, Sem.run_bind, Sem.run_pure, Result.andThen_ok, List.map_toArray, List.map_cons, List.map_nil, hs, hx, hr]) (hK v' w' ⟨r1⟩ r2)
  | none =>
    obtain rfl := hz rfl
    have hnews : news = [] := List.eq_nil_of_length_eq_zero (by simpa using hn)
    subst hnews
    have hrun : (Builtin.append_ #[t, t] o.type #[v, .slice none 0 c]).run P w = .ok v w := by
      rcases hown.2 with ⟨rfl, rfl⟩ | ⟨g, cap, cur, rfl, _, _, hnc, _⟩
      · simp [Builtin.append_, run_underlying h1, sizeOf, typeInfo, hi, Builtin.lenOf, Builtin.firstCells]
      · simp [Builtin.append_, run_underlying h1, sizeOf, typeInfo, hi, Builtin.lenOf, Builtin.firstCells, hnc, storeCells]
    refine event_step hg (v := v) (w1 := w) (by simp [execOp, hop, resolve, invoke, builtin, hs, hx, hrun, Result.andThen]) ?_
    have := hK v w ⟨by simpa using hown⟩ ⟨rfl, rfl, rfl, Nat.le_refl _, fun _ _ _ => rfl⟩
    simpa using this

/-- One cell in a new block, as an append wants it. -/
theorem news_lit (w : World) (v : Value) (e : TypeId) (fr : Nat × Nat) : ∀ (j : Nat) (u : Value), [v][j]? = some u → ∃ ad : Addr, (some ⟨w.heap.size, 0, none⟩ : Option Addr) = some ad ∧ (w.alloc (.cells #[v] e fr)).cell? (ad.add j) = some u := by
  intro j u hu
  refine ⟨_, rfl, ?_⟩
  rw [add_plain, cell_of_row _ _ _ _ _ _ (blk_new w _)]
  simpa using hu
/-- Numbers that are read, behind numbers of the call's own: the whole step. -/
theorem app_ints {P : Program} {k : IntKind} (w0 : World) {w : World} {ops : Array Oper} {rest : List Oper} {o : Oper} {a : Act} {Q : Exit → Act → World → Prop}
    (hg : Region.wanted o (yielded ops a.tmps) = true) (s x : Operand) (t : TypeId) (hop : o.op = Op.call { callee := Callee.builtin Builtin.append, args := #[s, x], argTypes := #[t, t] })
    (e : TypeId) (bytes : Nat) (h1 : P.underlying t = some (.slice e)) (h2 : (P.info? e).map (fun i => (i.zero, i.size, i.bytes)) = some (some (.int k 0), 1, bytes)) (hb0 : 0 < bytes)
    (v : Value) (n : Nat) (xs : List Int) (hs : a.eval s = v) (HO : w.ownsRow w0.heap.size e 1 v n (xs.map (Value.int k))) (HW : Below w0.heap.size w0 w) (ao : Option Addr) (m c : Nat) (ys : List Int) (hx : a.eval x = .slice ao m c) (hm : ys.length = m)
    (hC : (Kd.int k).C w ao ys.length ys) (hb : (n + m) * bytes ≤ 140737488355328)
    (hK : ∀ v' w', Aside0 (w'.ownsRow w0.heap.size e 1 v' (n + m) ((xs ++ ys).map (Value.int k))) → Aside0 (Below w0.heap.size w0 w') → wpList P ops Q rest (a.put o.dst v') w') :
    wpList P ops Q (o :: rest) a w :=
  append_own_any w hg s x t hop w0.heap.size e (.int k 0) 1 bytes h1 h2 rfl (by decide) hb0 v n _ hs HO ao m c (ys.map (Value.int k)) hx (by simp [hm]) (news_int hC) (fun h => by rw [← hm]; exact none_int hC h) (one_int _ _) hb HW.size
    (fun v' w' ho hg' => hK v' w' ⟨by rw [List.map_append]; exact ho.out⟩ ⟨HW.grown hg' HW.size (own_base HO)⟩)
/-- One number, in a literal's block, behind numbers of the call's own: the whole step. -/
theorem app_lit {P : Program} {k : IntKind} (w0 : World) {w : World} {ops : Array Oper} {rest : List Oper} {o : Oper} {a : Act} {Q : Exit → Act → World → Prop}
    (hg : Region.wanted o (yielded ops a.tmps) = true) (s x : Operand) (t : TypeId) (hop : o.op = Op.call { callee := Callee.builtin Builtin.append, args := #[s, x], argTypes := #[t, t] })
    (e : TypeId) (bytes : Nat) (h1 : P.underlying t = some (.slice e)) (h2 : (P.info? e).map (fun i => (i.zero, i.size, i.bytes)) = some (some (.int k 0), 1, bytes)) (hb0 : 0 < bytes)
    (v : Value) (n : Nat) (xs : List Int) (hs : a.eval s = v) (HO : w.ownsRow w0.heap.size e 1 v n (xs.map (Value.int k))) (HW : Below w0.heap.size w0 w) (y : Int) (hx : a.eval x = .slice (some ⟨w.heap.size, 0, none⟩) 1 1) (hb : (n + 1) * bytes ≤ 140737488355328)
    (hK : ∀ v' w', Aside0 (w'.ownsRow w0.heap.size e 1 v' (n + 1) ((xs ++ [y]).map (Value.int k))) → Aside0 (Below w0.heap.size w0 w') → wpList P ops Q rest (a.put o.dst v') w') :
    wpList P ops Q (o :: rest) a (w.alloc (.cells #[.int k y] e)) :=
  append_own_any _ hg s x t hop w0.heap.size e (.int k 0) 1 bytes h1 h2 rfl (by decide) hb0 v n _ hs (HO.alloc _) _ 1 1 [.int k y] hx rfl (news_lit w _ _ _) (fun h => by cases h) (by simp [Value.oneCell']) hb (by have := HW.size; simp; omega)
    (fun v' w' ho hg' => hK v' w' ⟨by rw [List.map_append]; exact ho.out⟩ ⟨(HW.alloc HW.size _).grown hg' (by have := HW.size; simp; omega) (own_base HO)⟩)
/-- A row of whole numbers of the call's own, as a row that is read. -/
theorem int_reads {k : IntKind} {w : World} {base e : Nat} {v : Value} {xs : List Int} {n : Nat} (h : w.ownsRow base e 1 v n (xs.map (Value.int k))) :
    ∃ A c, v = .slice A xs.length c ∧ n = xs.length ∧ xs.length ≤ c ∧ (Kd.int k).C w A xs.length xs ∧ (∀ a, A = some a → base ≤ a.block ∧ a.block < w.heap.size) := by
  have hn : n = xs.length := by have := h.1; simp at this; omega
  subst hn
  rcases h.2 with ⟨rfl, h0⟩ | ⟨g, cap, cur, rfl, hg, hb, hnc, hcm, hcs, ht⟩
  · have h0' : xs = [] := List.eq_nil_of_length_eq_zero h0
    subst h0'
    exact ⟨none, 0, rfl, rfl, Nat.le_refl _, Kd.C_nil _ w, fun a h => by cases h⟩
  · refine ⟨some ⟨g, 0, none⟩, cap, rfl, rfl, hnc, Kd.C_of_reads (d := (0 : Int)) (h1 := fun _ => rfl) ⟨rfl, by unfold maxLen at hcm; omega, fun _ => ⟨_, rfl, fun i hi => ?_⟩⟩, fun a h => by cases h; exact ⟨hg, blk_lt hb⟩⟩
    rw [add_plain, blk_cell hb]
    have : (cur.toList.take (xs.length * 1))[i]? = some (Value.int k (xs.getD i 0)) := by
      rw [ht]
      simp [hi]
    rw [List.getElem?_take, if_pos (by omega), Array.getElem?_toList] at this
    exact this
/-- A row of whole numbers of the call's own that isn't empty, as a block. -/
theorem int_block {k : IntKind} {w : World} {base e : Nat} {v : Value} {xs : List Int} {n : Nat} (h : w.ownsRow base e 1 v n (xs.map (Value.int k))) (h0 : 0 < xs.length) :
    ∃ g cap, v = .slice (some ⟨g, 0, none⟩) xs.length cap ∧ base ≤ g ∧ xs.length ≤ cap ∧ w.ownsRow base e 1 (.slice (some ⟨g, 0, none⟩) xs.length cap) xs.length (xs.map (Value.int k)) := by
  have hn : n = xs.length := by have := h.1; simp at this; omega
  subst hn
  rcases h.2 with ⟨_, h1⟩ | ⟨g, cap, cur, rfl, hg, hb, hnc, hcm, hcs, ht⟩
  · omega
  · exact ⟨g, cap, rfl, hg, hnc, h⟩
theorem int_some {w : World} {base e size n c : Nat} {A : Option Addr} {xs : List Value} (h : w.ownsRow base e size (.slice A n c) n xs) (h0 : 0 < n) : ∃ g, A = some ⟨g, 0, none⟩ ∧ base ≤ g := by
  rcases h.2 with ⟨h1, h2⟩ | ⟨g', cap', cur, h1, hg, _⟩
  · omega
  · cases h1
    exact ⟨g', rfl, hg⟩
/-- A cell of such a row; and a store into it. -/
theorem int_at {k : IntKind} {w : World} {base e g cap n : Nat} {xs : List Int} (h : w.ownsRow base e 1 (.slice (some ⟨g, 0, none⟩) n cap) n (xs.map (Value.int k))) (i : Nat) (hi : i < xs.length) :
    ∃ x, w.cell? ⟨g, i, none⟩ = some (.int k x) ∧ w.frozen? ⟨g, i, none⟩ = false ∧ Aside0 (xs.getD i 0 = x) := by
  have hn : n = xs.length := by have := h.1; simp at this; omega
  subst hn
  rcases h.2 with ⟨h1, _⟩ | ⟨g', cap', cur, h1, hg, hb, hnc, hcm, hcs, ht⟩
  · cases h1
  · cases h1
    refine ⟨_, ?_, blk_frozen hb i, ⟨rfl⟩⟩
    rw [blk_cell hb]
    have : (cur.toList.take (xs.length * 1))[i]? = some (Value.int k (xs.getD i 0)) := by
      rw [ht]
      simp [hi]
    rw [List.getElem?_take, if_pos (by omega), Array.getElem?_toList] at this
    exact this
theorem int_set {k : IntKind} {w : World} {base e g cap n : Nat} {xs : List Int} (h : w.ownsRow base e 1 (.slice (some ⟨g, 0, none⟩) n cap) n (xs.map (Value.int k))) (i : Nat) (hi : i < xs.length) (x : Int) :
    (w.setCell ⟨g, i, none⟩ (.int k x)).ownsRow base e 1 (.slice (some ⟨g, 0, none⟩) n cap) n ((xs.set i x).map (Value.int k)) := by
  have hn : n = xs.length := by have := h.1; simp at this; omega
  subst hn
  rcases h.2 with ⟨h1, _⟩ | ⟨g', cap', cur, h1, hg, hb, hnc, hcm, hcs, ht⟩
  · cases h1
  · cases h1
    refine ⟨by simp, .inr ⟨g, cap, cur.setIfInBounds i (.int k x), rfl, hg, blk_set hb i _, hnc, hcm, by simpa using hcs, ?_⟩⟩
    rw [Array.toList_setIfInBounds, List.take_set, ht, List.map_set]
/-- What a function leaves that hands back new bytes (or other whole numbers). -/
def IntsPost (k : IntKind) (E : Nat) (xs : List Int) (w : World) (e : Ending) (w' : World) : Prop := ∃ v, e = .returned v ∧ w'.ownsRow w.heap.size E 1 v xs.length (xs.map (Value.int k)) ∧ Below w.heap.size w w'
/-- 'string(b)'. -/
theorem run_str {P : Program} {w : World} {A : Option Addr} {c : Nat} {xs : List Int} (h : (Kd.int .u8).C w A xs.length xs) (src e dst : TypeId) (hs : P.underlying src = some (.slice e)) (he : P.underlying e = some (.int .u8)) (hd : P.underlying dst = some .string) :
    (convert src dst (.slice A xs.length c)).run P w = .ok (.string (strOfNums xs)) w := by
  cases A with
  | none =>
    have h0 : xs = [] := List.eq_nil_of_length_eq_zero (none_int h rfl)
    subst h0
    exact run_convert_bytes_nil w src e hs he _ _ dst hd
  | some ad =>
    have hl : (loadCells ad xs.length).run P w = .ok (xs.map (Value.int .u8)).toArray w := by
      have := run_loadCells_list (P := P) w ad (xs.map (Value.int .u8)) (fun j v hj => by
        obtain ⟨ad', e', h'⟩ := news_int h j v hj
        cases e'
        exact h')
      simpa using this
    rw [run_convert_bytes_string w src dst e _ _ _ hs he hd, run_bytesToString w _ _ _ xs hl, foldl_push_bytes]
    simp [strOfNums, ByteArray.empty, ByteArray.emptyWithCapacity]
    rfl
theorem str_inj {xs ys : List Int} (hx : ∀ x ∈ xs, 0 ≤ x ∧ x ≤ 255) (hy : ∀ x ∈ ys, 0 ≤ x ∧ x ≤ 255) : ((strOfNums xs).toList == (strOfNums ys).toList) = decide (xs = ys) := by
  have back : ∀ zs : List Int, (∀ x ∈ zs, 0 ≤ x ∧ x ≤ 255) → (strOfNums zs).data.toList.map (fun b => (b.toNat : Int)) = zs := by
    intro zs hz
    rw [strOfNums_data, List.map_map]
    conv => rhs; rw [← List.map_id zs]
    refine List.map_congr_left (fun x hxx => ?_)
    have := hz x hxx
    show ((UInt8.ofNat x.toNat).toNat : Int) = x
    rw [UInt8.toNat_ofNat']
    omega
  rw [Bool.eq_iff_iff, beq_iff_eq, decide_eq_true_eq]
  constructor
  · intro e
    have e2 : (strOfNums xs).data.toList = (strOfNums ys).data.toList := by
      rw [← ByteArray.toList_eq, ← ByteArray.toList_eq]
      exact e
    rw [← back xs hx, ← back ys hy, e2]
  · intro e
    rw [e]
/-- A literal's block, as a row of the call's own. -/
theorem lit_row {k : IntKind} (w : World) (xs : List Int) (cs : Array Value) (E base : Nat) (h : cs = (xs.map (Value.int k)).toArray) (hb : base ≤ w.heap.size) (hn : xs.length ≤ 9223372036854775807) :
    (w.alloc (.cells cs E)).ownsRow base E 1 (.slice (some ⟨w.heap.size, 0, none⟩) xs.length xs.length) xs.length (xs.map (Value.int k)) := by
  subst h
  have := World.ownsRow_lit (base := base) (e := E) (size := 1) w (xs.map (Value.int k)).toArray xs.length hb (by unfold maxLen; omega) (by simp)
  simpa using this
/-- Two lists, one by one, up to a place. -/
theorem same_step {xs ys : List Int} (k : Nat) (hl : xs.length = ys.length) (hk : k < xs.length) {x y : Int} (hx : xs.getD k 0 = x) (hy : ys.getD k 0 = y) (h : xs.take k = ys.take k) (e : x = y) : xs.take (k + 1) = ys.take (k + 1) := by
  rw [List.take_succ_eq_append_getElem hk, List.take_succ_eq_append_getElem (by omega : k < ys.length), h]
  have h1 : xs.getD k 0 = xs[k] := by simp [hk]
  have h2 : ys.getD k 0 = ys[k] := by simp [show k < ys.length by omega]
  rw [← h1, ← h2, hx, hy, e]
theorem same_end {xs ys : List Int} (hl : xs.length = ys.length) (h : xs.take xs.length = ys.take xs.length) : xs = ys := by
  rw [List.take_length] at h
  rw [h, hl, List.take_length]
theorem same_not {xs ys : List Int} (k : Nat) {x y : Int} (hx : xs.getD k 0 = x) (hy : ys.getD k 0 = y) (e : ¬ x = y) : ¬ xs = ys := by
  rintro rfl
  exact e (hx.symm.trans hy)
/-- A world of a class. -/
structure GW (good : World → Prop) where
  w : World
  ok : good w
/-- A region that draws its order, whose operations read and whose calls leave a world of the class and hand back one value, whatever world of the class they meet: the order of the text serves. -/
theorem region_good {P : Program} (good : World → Prop) {id : Nat} {Q : Exit → Act → World → Prop} {a : Act} {w : World} {l : List Oper} (hm : P.follows .mixedOrders = true) (hB : Region.lexB .any l.toArray = true) (h0 : good w.drew)
    (h : Nonempty (GW good) → wpQuiet P l.toArray (fun w' => ∃ n : GW good, w' = n.w) (fun a' => ∀ w', (∃ n : GW good, w' = n.w) → Q .normal a' w') l a) : (Code.region id l.toArray true).wp P Q a w :=
  wp_region_quiet (C := fun w' => ∃ n : GW good, w' = n.w) hm hB ⟨⟨w.drew, h0⟩, rfl⟩ (by simpa using h ⟨⟨w.drew, h0⟩⟩)
/-- A callee's contract, met in a world of the class. -/
theorem good_calls {P : Program} {good : World → Prop} {f : FuncId} {args : Array Value} {w : World} {v : Value} (h : Calls P f args w fun e w' => e = .returned v ∧ good w') :
    Calls P f args w fun e w'' => e = .returned v ∧ ∃ n : GW good, w'' = n.w := h.mono fun _ _ ⟨he, hg⟩ => ⟨he, ⟨_, hg⟩, rfl⟩
theorem good_same {P : Program} {good : World → Prop} (n : GW good) {f : FuncId} {args : Array Value} {v : Value} (h : Calls P f args n.w fun e w' => e = .returned v ∧ n.w = w') :
    Calls P f args n.w fun e w'' => e = .returned v ∧ ∃ n : GW good, w'' = n.w := h.mono fun _ _ ⟨he, hg⟩ => ⟨he, n, hg.symm⟩
end Go.Proofs.Ytonibdmoimgimaa.Base
