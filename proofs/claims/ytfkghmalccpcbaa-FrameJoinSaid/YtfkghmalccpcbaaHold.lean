/- What holds in a world and in every later one, carried along a walk in one hypothesis. -/
import Derived.Test.YtfkghmalccpcbaaBase
namespace Go.Proofs.Ytfkghmalccpcbaa.Base
open Go Go.RowKit Go.Proofs.YtfkghmalccpcbaaW.PrintWords
set_option linter.unusedVariables false
/-- R holds in whatever comes of w0; w came of w0. -/
structure Hold (w0 : World) (R : World → Prop) (w : World) : Prop where
  base : Below w0.heap.size w0 w
  keep : ∀ w', Below w0.heap.size w0 w' → R w'
theorem Hold.out {w0 w : World} {R : World → Prop} (h : Hold w0 R w) : R w := h.keep w h.base
theorem Hold.go {w0 w w' : World} {R : World → Prop} (h : Hold w0 R w) (hb : Below w0.heap.size w w') : Hold w0 R w' := ⟨h.base.trans hb, h.keep⟩
theorem Hold.step {w0 w w' : World} {R : World → Prop} (h : Hold w0 R w) (hb : Below w.heap.size w w') : Hold w0 R w' := h.go (hb.mono h.base.size)
theorem Hold.drawn {w0 w : World} {R : World → Prop} (h : Hold w0 R w) (n : Nat) : Hold w0 R (w.drewN n) := h.step (pw_below_drewN (Below.refl _ _) n)
theorem Hold.alloc {w0 w : World} {R : World → Prop} (h : Hold w0 R w) (o : Obj) : Hold w0 R (w.alloc o) := h.step ((Below.refl _ _).alloc (Nat.le_refl _) o)
theorem Hold.set {w0 w : World} {R : World → Prop} (h : Hold w0 R w) {p : Addr} (hp : w0.heap.size ≤ p.block) (v : Value) : Hold w0 R (w.setCell p v) := ⟨h.base.setCell hp v, h.keep⟩
theorem Hold.start {w : World} {R : World → Prop} (h : ∀ w', Below w.heap.size w w' → R w') : Hold w R w := ⟨Below.refl _ _, h⟩
/-- From here on: one thing more. -/
theorem Hold.also {w0 w : World} {R S : World → Prop} (h : Hold w0 R w) (h2 : ∀ w', Below w.heap.size w w' → S w') : Hold w (fun x => R x ∧ S x) w :=
  ⟨Below.refl _ _, fun w2 hb => ⟨h.keep w2 (h.base.trans (hb.mono h.base.size)), h2 w2 hb⟩⟩
theorem Hold.alsoC {α : Type} {d : Kd α} {w0 w : World} {R : World → Prop} {A : Option Addr} {n : Nat} {xs : List α} (h : Hold w0 R w) (hc : d.C w A n xs) : Hold w (fun x => R x ∧ d.C x A n xs) w :=
  h.also (fun w' hb => Kd.C_below hc hb)
theorem Hold.imp {w0 w : World} {R S : World → Prop} (h : Hold w0 R w) (hi : ∀ x, R x → S x) : Hold w0 S w := ⟨h.base, fun w2 hb => hi _ (h.keep w2 hb)⟩
end Go.Proofs.Ytfkghmalccpcbaa.Base
