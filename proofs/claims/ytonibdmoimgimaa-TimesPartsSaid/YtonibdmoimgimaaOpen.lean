/- Arguments that came in, laid open, kind by kind: whole numbers, slices, structs, slices of structs. -/
import Derived.Test.YtonibdmoimgimaaBase
import Derived.Deep.Slices
import Derived.OpenShut
import Derived.ChangeArms
import Derived.SizedLaws
namespace Go.Proofs.Ytonibdmoimgimaa.Opens
open Go Go.RowKit Go.ChangeShapes Go.WideShapes Go.Deep Go.Proofs.YtonibdmoimgimaaW.PrintWords
set_option linter.unusedVariables false
set_option linter.unusedSimpArgs false

/-- A datum's weights are within reach. -/
def Light {H : Type} (P : Program) (t : TypeId) (d : DataW H) : Prop := ∀ n ∈ d.weights P t, n ≤ 140737488351232
/-- What came in of type t reads as one of the kind d that is ok. -/
def Opens {α : Type} (P : Program) (t : TypeId) (d : Kd α) (ok : α → Prop) : Prop :=
  ∀ (H : Type) (enc : TypeId × Value → H) (w : World) (base : Nat) (spare : Nat → Bool) (held : Bool) (fuel : Nat) (cs : List Value) (x : DataW H × List MemPlace),
    DataW.trod enc P w base spare held fuel t cs = some x → Light P t x.1 → ∃ a : α, d.K w a cs ∧ ok a
theorem Opens.int {P : Program} {t : TypeId} {k : IntKind} (ht : P.underlying t = some (.int k)) : Opens P t (Kd.int k) (fun n => (Lit.int k n).wf = true) := by
  intro H enc w base spare held fuel cs x h _
  obtain ⟨n, rfl, _, hw⟩ := DataW.trod_int ht h
  exact ⟨n, rfl, hw⟩
theorem Opens.bool {P : Program} {t : TypeId} (ht : P.underlying t = some .bool) : Opens P t Kd.bool (fun _ => True) := by
  intro H enc w base spare held fuel cs x h _
  obtain ⟨n, rfl, _⟩ := DataW.trod_bool ht h
  exact ⟨n, rfl, trivial⟩
theorem Opens.string {P : Program} {t : TypeId} (ht : P.underlying t = some .string) : Opens P t Kd.string (fun s => s.size ≤ 140737488351232) := by
  intro H enc w base spare held fuel cs x h hl
  obtain ⟨s, rfl, rfl, _⟩ := DataW.trod_string ht h
  refine ⟨s, rfl, ?_⟩
  have := hl s.data.toList.length (by simp [DataW.weights])
  simpa using this
theorem all_mem {H : Type} {P : Program} {e : TypeId} {n : Nat} : ∀ {l : List (DataW H)} {d : DataW H}, d ∈ l → n ∈ d.weights P e → n ∈ DataW.weightsAll P e l
  | [], _, h, _ => by cases h
  | y :: l, d, h, hn => by
    simp only [DataW.weightsAll, List.mem_append]
    rcases List.mem_cons.1 h with rfl | h
    · exact .inl hn
    · exact .inr (all_mem h hn)
theorem Opens.slice {α : Type} {P : Program} {t e E B : Nat} {d : Kd α} {ok : α → Prop} (ht : P.underlying t = some (.slice e)) (hB : P.bytesOf e = B) (hC : P.cellsOf e = d.sz) (he : Opens P e d ok) :
    Opens P t (Kd.slice E d) (fun xs => xs.length * B ≤ 140737488351232 ∧ ∀ x ∈ xs, ok x) := by
  intro H enc w base spare held fuel cs x h hl
  rcases open_slice ht h with ⟨rfl, rfl⟩ | ⟨a, len, cap, m, n, D, Pl, rfl, hb, hlc, hm, hmm, rfl, hi⟩
  · exact ⟨[], ⟨none, 0, rfl, Nat.le_refl _, by simp, by simp, fun h => absurd h (by simp)⟩, by simp, fun x h => by cases h⟩
  have hle : len ≤ m := by rw [hmm]; split <;> omega
  have hw : len * B ≤ 140737488351232 := by
    have := hl (((List.range len).map D).length * B + (((List.range (m - len)).map fun j => D (len + j)).length) * B) (by
      simp only [DataW.weights, ht]
      rw [List.mem_cons, hB, Nat.add_mul]
      exact .inl rfl)
    simp only [List.length_map, List.length_range] at this
    omega
  have each : ∀ i, i < len → ∃ p : α, ok p ∧ ∃ c : List Value, c.length = d.sz ∧ d.K w p c ∧ ∀ j u, c[j]? = some u → w.cell? (a.add (i * d.sz + j)) = some u := by
    intro i hil
    obtain ⟨cs', hc, ht'⟩ := hi i (by omega)
    obtain ⟨p, hp, hok⟩ := he H enc w base spare held n cs' (D i, Pl i) ht' (fun q hq => hl q (by
      simp only [DataW.weights, ht]
      refine List.mem_cons_of_mem _ (List.mem_append_left _ (all_mem ?_ hq))
      exact List.mem_map.2 ⟨i, List.mem_range.2 hil, rfl⟩))
    rw [hC] at hc
    obtain ⟨_, hcl, hat⟩ := World.cells?_some hc
    refine ⟨p, hok, cs', d.K_len hp, hp, fun j u hu => ?_⟩
    have hj : j < cs'.length := (List.getElem?_eq_some_iff.1 hu).1
    rw [← Go.Deep.add_add, hat j (by have := d.K_len hp; omega), hu]
  have build : ∀ k, k ≤ len → ∃ xs : List α, xs.length = k ∧ (∀ x ∈ xs, ok x) ∧ ∀ i p, xs[i]? = some p → ∃ c : List Value, c.length = d.sz ∧ d.K w p c ∧ ∀ j u, c[j]? = some u → w.cell? (a.add (i * d.sz + j)) = some u := by
    intro k
    induction k with
    | zero => exact fun _ => ⟨[], rfl, (fun x h => by cases h), (fun i p h => by simp at h)⟩
    | succ k ih =>
      intro hk
      obtain ⟨xs, h1, h2, h3⟩ := ih (by omega)
      obtain ⟨p, hp, c, hc⟩ := each k (by omega)
      refine ⟨xs ++ [p], by simp [h1], fun x hx => ?_, fun i q hq => ?_⟩
      · rcases List.mem_append.1 hx with hx | hx
        · exact h2 x hx
        · rw [List.mem_singleton.1 hx]; exact hp
      · rcases Nat.lt_or_ge i xs.length with hi' | hi'
        · rw [List.getElem?_append_left hi'] at hq
          exact h3 i q hq
        · have hik : i = k := by
            have := (List.getElem?_eq_some_iff.1 hq).1
            simp at this
            omega
          subst hik
          rw [List.getElem?_append_right (by omega), h1] at hq
          have : p = q := by simpa using hq
          subst this
          exact ⟨c, hc⟩
  obtain ⟨xs, h1, h2, h3⟩ := build len (Nat.le_refl _)
  subst h1
  unfold maxLen at hm
  exact ⟨xs, ⟨some a, cap, rfl, hlc, rfl, by omega, fun _ => ⟨a, rfl, h3⟩⟩, hw, h2⟩
/-- Fields in line, from a place on. -/
def OpensF {α : Type} (P : Program) (fs : List Field) (off : Nat) (d : Kd α) (ok : α → Prop) : Prop :=
  ∀ (H : Type) (enc : TypeId × Value → H) (w : World) (base : Nat) (spare : Nat → Bool) (held : Bool) (n : Nat) (cs : List Value) (xs : List (DataW H × List MemPlace)),
    xs.length = fs.length → (∀ (i : Nat) (f : Field), fs[i]? = some f → DataW.trod enc P w base spare held n f.type ((cs.drop f.offset).take (P.cellsOf f.type)) = xs[i]?) →
    (∀ (i : Nat) (f : Field) (x : DataW H × List MemPlace), fs[i]? = some f → xs[i]? = some x → Light P f.type x.1) → ∃ a : α, d.K w a ((cs.drop off).take d.sz) ∧ ok a
theorem OpensF.one {α : Type} {P : Program} {f : Field} {off : Nat} {d : Kd α} {ok : α → Prop} (ho : f.offset = off) (hC : P.cellsOf f.type = d.sz) (h : Opens P f.type d ok) : OpensF P [f] off d ok := by
  intro H enc w base spare held n cs xs hl hf hw
  have h0 := hf 0 f rfl
  obtain ⟨x, hx⟩ : ∃ x, xs[0]? = some x := by
    cases xs with
    | nil => simp at hl
    | cons x r => exact ⟨x, rfl⟩
  rw [hx, ho, hC] at h0
  exact h H enc w base spare held n _ _ h0 (hw 0 f _ rfl hx)
theorem OpensF.cons {α β : Type} {P : Program} {f : Field} {fs : List Field} {off off2 : Nat} {d : Kd α} {d' : Kd β} {ok : α → Prop} {ok' : β → Prop} (ho : f.offset = off) (hC : P.cellsOf f.type = d.sz) (h : Opens P f.type d ok) (ho2 : off2 = off + d.sz) (h' : OpensF P fs off2 d' ok') :
    OpensF P (f :: fs) off (Kd.pair d d') (fun x => ok x.1 ∧ ok' x.2) := by
  subst ho2
  intro H enc w base spare held n cs xs hl hf hw
  cases xs with
  | nil => simp at hl
  | cons x xs =>
    have h0 := hf 0 f rfl
    rw [List.getElem?_cons_zero, ho, hC] at h0
    obtain ⟨a, ha, hoka⟩ := h H enc w base spare held n _ _ h0 (hw 0 f _ rfl rfl)
    obtain ⟨b, hb, hokb⟩ := h' H enc w base spare held n cs xs (by simpa using hl) (fun i g hg => by have := hf (i + 1) g (by simpa using hg); simpa using this) (fun i g y hg hy => hw (i + 1) g y (by simpa using hg) (by simpa using hy))
    refine ⟨(a, b), ⟨_, _, ?_, ha, hb⟩, hoka, hokb⟩
    show (cs.drop off).take (d.sz + d'.sz) = _
    rw [List.take_add, List.drop_drop]
theorem Opens.struct {α : Type} {P : Program} {t : TypeId} {fs : Array Field} {d : Kd α} {ok : α → Prop} (ht : P.underlying t = some (.struct fs)) (hC : P.cellsOf t = d.sz) (h : OpensF P fs.toList 0 d ok) : Opens P t d ok := by
  intro H enc w base spare held fuel cs x hx hl
  obtain ⟨xs, n, _, rfl, hlen, hxl, hf⟩ := DataW.trod_struct ht hx
  have := h H enc w base spare held n cs xs (by simpa using hxl) (fun (i : Nat) (f : Field) hi => hf i f (by simpa using hi)) (fun (i : Nat) (f : Field) (y : DataW H × List MemPlace) hi hy q hq => hl q (by
    simp only [DataW.weights, ht]
    exact DataW.weights_mem_each (j := i) (t := f.type) (d := y.1) (by simp [hi]) (by simp [hy]) q hq))
  rwa [List.drop_zero, List.take_of_length_le (by omega)] at this
theorem Opens.array2 {α : Type} {P : Program} {t e : TypeId} {d : Kd α} {ok : α → Prop} (ht : P.underlying t = some (.array 2 e)) (hC : P.cellsOf e = d.sz) (hT : P.cellsOf t = d.sz + d.sz) (h : Opens P e d ok) : Opens P t (Kd.pair d d) (fun x => ok x.1 ∧ ok x.2) := by
  intro H enc w base spare held fuel cs x hx hl
  obtain ⟨xs, n, _, rfl, hlen, hxl, hf⟩ := DataW.trod_array ht hx
  have go : ∀ i, i < 2 → ∃ a, d.K w a ((cs.drop (i * d.sz)).take d.sz) ∧ ok a := by
    intro i hi
    have h0 := hf i hi
    have hx : xs[i]? = some xs[i] := List.getElem?_eq_getElem (by omega)
    rw [hx, hC] at h0
    refine h H enc w base spare held n _ _ h0 (fun q hq => hl q ?_)
    simp only [DataW.weights, ht]
    exact all_mem (List.mem_map.2 ⟨xs[i], List.getElem_mem _, rfl⟩) hq
  obtain ⟨a, ha, hoka⟩ := go 0 (by decide)
  obtain ⟨b, hb, hokb⟩ := go 1 (by decide)
  refine ⟨(a, b), ⟨_, _, ?_, ha, hb⟩, hoka, hokb⟩
  rw [Nat.zero_mul, List.drop_zero, Nat.one_mul]
  have hb' := d.K_len hb
  rw [Nat.one_mul, List.length_take, List.length_drop] at hb'
  have e2 : (cs.drop d.sz).take d.sz = cs.drop d.sz := List.take_of_length_le (by rw [List.length_drop]; omega)
  rw [e2, List.take_append_drop]
theorem Opens.iso {α β : Type} {P : Program} {t : TypeId} {d : Kd α} {ok : α → Prop} (h : Opens P t d ok) (f : β → α) (g : α → β) (hfg : ∀ a, f (g a) = a) : Opens P t (Kd.iso d f) (fun b => ok (f b)) := by
  intro H enc w base spare held fuel cs x hx hl
  obtain ⟨a, ha, hok⟩ := h H enc w base spare held fuel cs x hx hl
  exact ⟨g a, by show d.K w (f (g a)) cs; rw [hfg]; exact ha, by show ok (f (g a)); rw [hfg]; exact hok⟩
theorem Opens.imp {α : Type} {P : Program} {t : TypeId} {d : Kd α} {ok ok' : α → Prop} (h : Opens P t d ok) (hi : ∀ a, ok a → ok' a) : Opens P t d ok' := by
  intro H enc w base spare held fuel cs x hx hl
  obtain ⟨a, ha, hok⟩ := h H enc w base spare held fuel cs x hx hl
  exact ⟨a, ha, hi a hok⟩
/-- A parameter that came in. -/
theorem Opens.param {α : Type} {P : Program} {t : TypeId} {d : Kd α} {ok : α → Prop} (h : Opens P t d ok) {H : Type} {enc : TypeId × Value → H} {w : World} {base : Nat} {spare : Nat → Bool} {held : Bool} {v : Value} {x : DataW H} {ps : List MemPlace} {ts : List TypeId} {ds : List (DataW H)} {j : Nat}
    (hsz : (DataW.weightsEach P ts ds).all (· ≤ reachBytes) = true) (htj : ts[j]? = some t) (hdj : ds[j]? = some x) (hT : DataW.Trod enc P w base spare held t v x ps) : ∃ a : α, d.K w a v.cells.toList ∧ ok a := by
  obtain ⟨fuel, hf⟩ := hT
  refine h H enc w base spare held fuel _ _ hf (fun n hn => ?_)
  have := of_decide_eq_true (List.all_eq_true.1 hsz _ (DataW.weights_mem_each htj hdj n hn))
  exact this
theorem Opens.param_slice {α : Type} {P : Program} {t E : Nat} {d : Kd α} {ok : List α → Prop} (h : Opens P t (Kd.slice E d) ok) {H : Type} {enc : TypeId × Value → H} {w : World} {base : Nat} {spare : Nat → Bool} {held : Bool} {A : Option Addr} {n c : Nat} {x : DataW H} {ps : List MemPlace} {ts : List TypeId} {ds : List (DataW H)} {j : Nat}
    (hsz : (DataW.weightsEach P ts ds).all (· ≤ reachBytes) = true) (htj : ts[j]? = some t) (hdj : ds[j]? = some x) (hT : DataW.Trod enc P w base spare held t (.slice A n c) x ps) : ∃ xs : List α, n = xs.length ∧ xs.length ≤ c ∧ d.C w A xs.length xs ∧ ok xs := by
  obtain ⟨xs, ⟨A', c', he, hl, hC⟩, hok⟩ := h.param hsz htj hdj hT
  have he' : Value.slice A n c = Value.slice A' xs.length c' := by simpa [Value.cells] using he
  injection he' with h1 h2 h3
  subst h1 h2 h3
  exact ⟨xs, rfl, hl, hC, hok⟩
theorem Opens.param_agg {α : Type} {P : Program} {t : Nat} {d : Kd α} {ok : α → Prop} (h : Opens P t d ok) {H : Type} {enc : TypeId × Value → H} {w : World} {base : Nat} {spare : Nat → Bool} {held : Bool} {cs : Array Value} {x : DataW H} {ps : List MemPlace} {ts : List TypeId} {ds : List (DataW H)} {j : Nat}
    (hsz : (DataW.weightsEach P ts ds).all (· ≤ reachBytes) = true) (htj : ts[j]? = some t) (hdj : ds[j]? = some x) (hT : DataW.Trod enc P w base spare held t (.agg cs) x ps) : ∃ (a : α) (l : List Value), cs = l.toArray ∧ d.K w a l ∧ ok a := by
  obtain ⟨a, ha, hok⟩ := h.param hsz htj hdj hT
  exact ⟨a, cs.toList, by simp, by simpa [Value.cells] using ha, hok⟩
end Go.Proofs.Ytonibdmoimgimaa.Opens
