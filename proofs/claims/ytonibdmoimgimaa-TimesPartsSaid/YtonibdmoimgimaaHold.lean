/- What holds in a world and in every later one, carried along a walk in one hypothesis. -/
import Derived.Test.YtonibdmoimgimaaBase
namespace Go.Proofs.Ytonibdmoimgimaa.Base
open Go Go.RowKit Go.Proofs.YtonibdmoimgimaaW.PrintWords
set_option linter.unusedVariables false
/-- R holds in whatever comes of w0; w came of w0. -/
structure Hold (w0 : World) (R : World → Prop) (w : World) : Prop where
  base : Below w0.heap.size w0 w
  keep : ∀ w', Below w0.heap.size w0 w' → R w'
theorem Hold.out {w0 w : World} {R : World → Prop} (h : Hold w0 R w) : R w := h.keep w h.base
theorem Hold.go {w0 w w' : World} {R : World → Prop} (h : Hold w0 R w) (hb : Below w0.heap.size w w') : Hold w0 R w' := ⟨h.base.trans hb, h.keep⟩
theorem Hold.step {w0 w w' : World} {R : World → Prop} (h : Hold w0 R w) (hb : Below w.heap.size w w') : Hold w0 R w' := h.go (hb.mono h.base.size)
theorem Hold.drawn {w0 w : World} {R : World → Prop} (h : Hold w0 R w) (n : Nat) : Hold w0 R (w.drewN n) := h.step (pw_below_drewN (Below.refl _ _) n)
theorem Hold.alloc {w0 w : World} {R : World → Prop} (h : Hold w0 R w) (o : Obj) : Hold w0 R (w.alloc o) := h.step ((Below.refl _ _).alloc (Nat.le_refl _) o)
theorem Hold.set {w0 w : World} {R : World → Prop} (h : Hold w0 R w) {p : Addr} (hp : w0.heap.size ≤ p.block) (v : Value) : Hold w0 R (w.setCell p v) := ⟨h.base.setCell hp v, h.keep⟩
theorem Hold.start {w : World} {R : World → Prop} (h : ∀ w', Below w.heap.size w w' → R w') : Hold w R w := ⟨Below.refl _ _, h⟩
/-- From here on: one thing more. -/
theorem Hold.also {w0 w : World} {R S : World → Prop} (h : Hold w0 R w) (h2 : ∀ w', Below w.heap.size w w' → S w') : Hold w (fun x => R x ∧ S x) w :=
  ⟨Below.refl _ _, fun w2 hb => ⟨h.keep w2 (h.base.trans (hb.mono h.base.size)), h2 w2 hb⟩⟩
theorem Hold.alsoC {α : Type} {d : Kd α} {w0 w : World} {R : World → Prop} {A : Option Addr} {n : Nat} {xs : List α} (h : Hold w0 R w) (hc : d.C w A n xs) : Hold w (fun x => R x ∧ d.C x A n xs) w :=
  h.also (fun w' hb => Kd.C_below hc hb)
theorem Hold.imp {w0 w : World} {R S : World → Prop} (h : Hold w0 R w) (hi : ∀ x, R x → S x) : Hold w0 S w := ⟨h.base, fun w2 hb => hi _ (h.keep w2 hb)⟩
theorem own_lower {w : World} {b b' e size n : Nat} {v : Value} {xs : List Value} (h : w.ownsRow b e size v n xs) (hb : b' ≤ b) : w.ownsRow b' e size v n xs := by
  obtain ⟨h1, h2⟩ := h
  refine ⟨h1, ?_⟩
  rcases h2 with h2 | ⟨g, cap, cur, h3, h4, h5⟩
  · exact .inl h2
  · exact .inr ⟨g, cap, cur, h3, by omega, h5⟩
/-- Rows of other types live on. -/
def Rest (e : TypeId) (w w' : World) : Prop := ∀ (b e' s n : Nat) (v : Value) (xs : List Value), e' ≠ e → w.ownsRow b e' s v n xs → w'.ownsRow b e' s v n xs
theorem app_ints2 {P : Program} {k : IntKind} (w0 : World) {w : World} {ops : Array Oper} {rest : List Oper} {o : Oper} {a : Act} {Q : Exit → Act → World → Prop}
    (hg : Region.wanted o (yielded ops a.tmps) = true) (s x : Operand) (t : TypeId) (hop : o.op = Op.call { callee := Callee.builtin Builtin.append, args := #[s, x], argTypes := #[t, t] })
    (e : TypeId) (bytes : Nat) (h1 : P.underlying t = some (.slice e)) (h2 : (P.info? e).map (fun i => (i.zero, i.size, i.bytes)) = some (some (.int k 0), 1, bytes)) (hb0 : 0 < bytes)
    (v : Value) (n : Nat) (xs : List Int) (hs : a.eval s = v) (HO : w.ownsRow w0.heap.size e 1 v n (xs.map (Value.int k))) (HW : Below w0.heap.size w0 w) (ao : Option Addr) (m c : Nat) (ys : List Int) (hx : a.eval x = .slice ao m c) (hm : ys.length = m)
    (hC : (Kd.int k).C w ao ys.length ys) (hb : (n + m) * bytes ≤ 140737488355328)
    (hK : ∀ v' w', Aside0 (w'.ownsRow w0.heap.size e 1 v' (n + m) ((xs ++ ys).map (Value.int k))) → Aside0 (Below w0.heap.size w0 w') → Aside0 (Rest e w w') → wpList P ops Q rest (a.put o.dst v') w') :
    wpList P ops Q (o :: rest) a w :=
  append_own_any w hg s x t hop w0.heap.size e (.int k 0) 1 bytes h1 h2 rfl (by decide) hb0 v n _ hs HO ao m c (ys.map (Value.int k)) hx (by simp [hm]) (news_int hC) (fun h => by rw [← hm]; exact none_int hC h) (one_int _ _) hb HW.size
    (fun v' w' ho hg' => hK v' w' ⟨by rw [List.map_append]; exact ho.out⟩ ⟨HW.grown hg' HW.size (own_base HO)⟩ ⟨fun b e' s' n' u us he hu => hu.kept hg' (own_type_ne hu HO he)⟩)
theorem app_lit2 {P : Program} {k : IntKind} (w0 : World) {w : World} {ops : Array Oper} {rest : List Oper} {o : Oper} {a : Act} {Q : Exit → Act → World → Prop}
    (hg : Region.wanted o (yielded ops a.tmps) = true) (s x : Operand) (t : TypeId) (hop : o.op = Op.call { callee := Callee.builtin Builtin.append, args := #[s, x], argTypes := #[t, t] })
    (e : TypeId) (bytes : Nat) (h1 : P.underlying t = some (.slice e)) (h2 : (P.info? e).map (fun i => (i.zero, i.size, i.bytes)) = some (some (.int k 0), 1, bytes)) (hb0 : 0 < bytes)
    (v : Value) (n : Nat) (xs : List Int) (hs : a.eval s = v) (HO : w.ownsRow w0.heap.size e 1 v n (xs.map (Value.int k))) (HW : Below w0.heap.size w0 w) (y : Int) (hx : a.eval x = .slice (some ⟨w.heap.size, 0, none⟩) 1 1) (hb : (n + 1) * bytes ≤ 140737488355328)
    (hK : ∀ v' w', Aside0 (w'.ownsRow w0.heap.size e 1 v' (n + 1) ((xs ++ [y]).map (Value.int k))) → Aside0 (Below w0.heap.size w0 w') → Aside0 (Rest e w w') → wpList P ops Q rest (a.put o.dst v') w') :
    wpList P ops Q (o :: rest) a (w.alloc (.cells #[.int k y] e)) :=
  append_own_any _ hg s x t hop w0.heap.size e (.int k 0) 1 bytes h1 h2 rfl (by decide) hb0 v n _ hs (HO.alloc _) _ 1 1 [.int k y] hx rfl (news_lit w _ _ _) (fun h => by cases h) (by simp [Value.oneCell']) hb (by have := HW.size; simp; omega)
    (fun v' w' ho hg' => hK v' w' ⟨by rw [List.map_append]; exact ho.out⟩ ⟨(HW.alloc HW.size _).grown hg' (by have := HW.size; simp; omega) (own_base HO)⟩ ⟨fun b e' s' n' u us he hu => (hu.alloc _).kept hg' (own_type_ne hu HO he)⟩)
/-- A row of whole numbers of the call's own, laid open at its length. -/
theorem int_open {k : IntKind} {w : World} {base e : Nat} {v : Value} {xs : List Int} {n : Nat} (h : w.ownsRow base e 1 v n (xs.map (Value.int k))) (m : Nat) (hm : xs.length = m) :
    ∃ A c, v = .slice A m c ∧ w.ownsRow base e 1 (.slice A m c) m (xs.map (Value.int k)) ∧ (Kd.int k).C w A m xs ∧ m ≤ c := by
  obtain ⟨A, c, rfl, rfl, hc, hC, _⟩ := int_reads h
  subst hm
  exact ⟨A, c, rfl, h, hC, hc⟩
end Go.Proofs.Ytonibdmoimgimaa.Base
