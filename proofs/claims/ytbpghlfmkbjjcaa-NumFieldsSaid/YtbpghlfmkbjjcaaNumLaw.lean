/- awake of num, and the walk of NumPacks. -/
import Derived.Test.YtbpghlfmkbjjcaaNum
import Derived.Test.YtbpghlfmkbjjcaaAdd
import Derived.Test.YtbpghlfmkbjjcaaHelpU64
import Derived.Test.YtbpghlfmkbjjcaaHelpInt
namespace Go.Proofs.Ytbpghlfmkbjjcaa.Num
open Go Go.RowKit Go.Proofs.YtbpghlfmkbjjcaaW.PrintWords Go.Proofs.Ytbpghlfmkbjjcaa.Base Go.Proofs.Ytbpghlfmkbjjcaa.NumMath
set_option linter.unusedVariables false
set_option linter.unusedSimpArgs false
set_option maxRecDepth 100000 in
set_option maxHeartbeats 1000000 in
theorem awake_calls (w : World) : Calls Try.prog 16 #[] w fun e w' => e = .returned (.bool true) ∧ Below w.heap.size w w' := by
  have ha : Add.addI 2 3 = 5 := by decide
  go_enter Try.func16, Try.ntmps16
  go_wp2_with fail
  have hC1 := C_lit (k := .u64) w [5, 1] #[.int .u64 5, .int .u64 1] 25 (0, 0) rfl (by decide)
  have hB1 := (Below.refl w.heap.size w).alloc (Nat.le_refl _) (Obj.cells #[.int .u64 5, .int .u64 1] 25)
  have hs1 : (w.alloc (Obj.cells #[.int .u64 5, .int .u64 1] 25)).heap.size = w.heap.size + 1 := World.size_alloc _ _
  revert hC1 hB1 hs1
  generalize w.alloc (Obj.cells #[.int .u64 5, .int .u64 1] 25) = w1
  intro hC1 hB1 hs1
  have hC2 := C_lit (k := .i64) w1 [3, 1] #[.int .i64 3, .int .i64 1] 3 (0, 0) rfl (by decide)
  have hB2 := (Below.refl w1.heap.size w1).alloc (Nat.le_refl _) (Obj.cells #[.int .i64 3, .int .i64 1] 3)
  rw [hs1] at hC2
  have hC1' := Kd.C_below hC1 hB2
  revert hC1' hC2 hB2
  generalize w1.alloc (Obj.cells #[.int .i64 3, .int .i64 1] 3) = w2
  intro hC2 hB2 hC1'
  have hB : Below w.heap.size w w2 := hB1.trans (hB2.mono hB1.size)
  refine (pack_calls _ _ 2 2 [5, 1] [3, 1] w2 hC1' hC2 (by decide) (by decide) (x := 13) (q := 0) (by decide)).mono ?_
  rintro e w' ⟨rfl, rfl⟩
  clear hC1 hC1' hC2 hB1 hB2 hs1
  go_wp2_with fail
  refine (Add.add_calls 2 3 _).mono ?_
  rintro e w' ⟨rfl, rfl⟩
  rw [ha]
  clear ha
  go_wp2
  go_ret
  exact ⟨rfl, hB⟩

set_option maxRecDepth 100000 in
set_option maxHeartbeats 1000000 in
theorem packs (A B : Option Addr) (c d : Nat) (v bits : List Int) (w : World) (hv : (Kd.int .u64).C w A v.length v) (hr : (Kd.int .i64).C w B bits.length bits) (hc : v.length ≤ c) (hd : bits.length ≤ d) (nv : v.length * 8 ≤ 140737488351232) (nb : bits.length * 8 ≤ 140737488351232) (bv : ∀ x ∈ v, 0 ≤ x ∧ x ≤ 18446744073709551615) (hb : ∀ x ∈ bits, -9223372036854775808 ≤ x ∧ x ≤ 9223372036854775807) :
    Calls Try.prog 3 #[.slice A v.length c, .slice B bits.length d] w fun e w' => e = .returned (.bool true) ∧ Below w.heap.size w w' := by
  have H := Hold.start (w := w) (R := fun x => Below w.heap.size w x ∧ (Kd.int .u64).C x A v.length v ∧ (Kd.int .i64).C x B bits.length bits) (fun w' h => ⟨h, Kd.C_below hv h, Kd.C_below hr h⟩)
  have BV := Aside0.mk bv
  have HB := Aside0.mk hb
  obtain ⟨x, q, hpr⟩ : ∃ x q, packR v bits = (x, q) := ⟨_, _, rfl⟩
  have HP := Aside0.mk hpr
  clear hv hr bv hb hpr
  go_enter Try.func3, Try.ntmps3
  go_wp2_with fail
  refine (HelpU64.own_calls A c v 71 w H.out.2.1 hc nv).mono ?_
  rintro e w1 ⟨g1, rfl, hg1, hb1, hw⟩
  have H1 := (H.step hw).also (S := fun x => x.heap[g1]? = some (.cells (tailed .u64 v 71 3 0) 25 (0, 0))) (fun w' h => blk_below hb1 h)
  clear hg1 hb1 hw
  go_wp2_with fail
  refine (HelpInt.own_calls B d bits 71 w1 H1.out.1.2.2 hd nb).mono ?_
  rintro e w2 ⟨g2, rfl, hg2, hb2, hw⟩
  have H2 := (H1.step hw).also (S := fun x => x.heap[g2]? = some (.cells (tailed .i64 bits 71 3 0) 3 (0, 0))) (fun w' h => blk_below hb2 h)
  clear hg2 hb2 hw
  go_wp2_with fail
  refine (pack_calls (some ⟨g1, 0, none⟩) (some ⟨g2, 0, none⟩) _ _ v bits w2 (C_tailed H2.out.1.2 (by omega)) (C_tailed H2.out.2 (by omega)) BV.out HB.out HP.out).mono ?_
  rintro e w' ⟨rfl, rfl⟩
  go_wp2_with fail
  refine (refpack_calls A B _ _ v bits w2 H2.out.1.1.2.1 H2.out.1.1.2.2 BV.out HB.out HP.out).mono ?_
  rintro e w' ⟨rfl, rfl⟩
  go_wp2_with fail
  refine (awake_calls w2).mono ?_
  rintro e w3 ⟨rfl, hw⟩
  have H3 := H2.step hw
  clear hw
  go_wp2_with fail
  refine (HelpU64.kept_calls g1 A c v 71 w3 H3.out.1.2 nv H3.out.1.1.2.1).mono ?_
  rintro e w' ⟨rfl, n, rfl⟩
  have H4 := H3.drawn n
  go_wp2_with fail
  refine (HelpInt.kept_calls g2 B d bits 71 (w3.drewN n) H4.out.2 nb H4.out.1.1.2.2).mono ?_
  rintro e w' ⟨rfl, m, rfl⟩
  have H5 := H3.drawn (n + m)
  go_wp2
  go_ret
  exact ⟨rfl, H5.out.1.1.1⟩
end Go.Proofs.Ytbpghlfmkbjjcaa.Num
