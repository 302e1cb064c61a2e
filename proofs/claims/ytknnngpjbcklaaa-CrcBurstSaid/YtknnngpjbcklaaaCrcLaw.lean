/- The walks of the laws of crc, over the contracts. -/
import Derived.Test.YtknnngpjbcklaaaCrc
import Derived.Test.YtknnngpjbcklaaaHelpByte
import Derived.Lib.SlBytesConst
namespace Go.Proofs.Ytknnngpjbcklaaa.CrcLaw
open Go Go.RowKit Go.Proofs.YtknnngpjbcklaaaW.PrintWords Go.Proofs.Ytknnngpjbcklaaa.Base Go.Proofs.Ytknnngpjbcklaaa.CrcMath
set_option linter.unusedVariables false
theorem known : sum [49, 50, 51, 52, 53, 54, 55, 56, 57] = 0xcbf43926#32 := by decide +kernel

set_option maxRecDepth 100000 in
theorem awake_calls (w : World) : Calls Try.prog 8 #[] w fun e w' => e = .returned (.bool true) ∧ Below w.heap.size w w' := by
  have kc := fun (w : World) (C : Array Value) (n c : Nat) => Lib.run_convert_bytes_const (P := Try.prog) w 22 5 C n c Try.underlying22 Try.underlying5
  go_enter Try.func8, Try.ntmps8
  go_wp2_with fail
  refine (Crc.sum_calls _ _ [49, 50, 51, 52, 53, 54, 55, 56, 57] _ (C_lit w _ _ _ _ rfl (by decide))).mono ?_
  rw [known]
  rintro e w1 ⟨rfl, rfl⟩
  go_wp2
  go_ret
  exact ⟨rfl, (Below.refl _ _).alloc (Nat.le_refl _) _⟩

set_option maxRecDepth 100000 in
set_option maxHeartbeats 1000000 in
theorem sums (s : W32) (A : Option Addr) (c : Nat) (xs : List Int) (w : World) (hr : (Kd.int .u8).C w A xs.length xs) (hc : xs.length ≤ c) (hn : xs.length * 1 ≤ 140737488351232) (hx : ∀ x ∈ xs, 0 ≤ x ∧ x ≤ 255) :
    Calls Try.prog 3 #[.slice A xs.length c, .int .u32 s.toNat] w fun e w' => e = .returned (.bool true) ∧ Below w.heap.size w w' := by
  have HR := Aside0.mk hr
  have HX := Aside0.mk hx
  clear hr hx
  go_enter Try.func3, Try.ntmps3
  go_wp2_with fail
  refine (HelpByte.own_calls A c xs 71 w HR.out hc hn).mono ?_
  rintro e w1 ⟨g, rfl, hg, hb, hw⟩
  go_wp2_with fail
  refine (awake_calls w1).mono ?_
  rintro e w2 ⟨rfl, hw2⟩
  have HC2 := Aside0.mk (C_tailed (blk_below hb hw2) (by omega))
  have HR2 := Aside0.mk (Kd.C_below (Kd.C_below HR.out hw) (hw2))
  have HB2 := Aside0.mk (blk_below hb hw2)
  have HW2 := Aside0.mk (hw.trans (hw2.mono hw.size))
  clear hb hw hw2
  go_wp2_with fail
  refine (Crc.sum_calls _ _ xs w2 HC2.out).mono ?_
  rintro e w' ⟨rfl, rfl⟩
  go_wp2_with fail
  refine (Crc.refsum_calls _ _ xs w2 HR2.out HX.out).mono ?_
  rintro e w' ⟨rfl, rfl⟩
  go_wp2_with fail
  refine (Crc.add_calls s _ _ xs w2 HC2.out).mono ?_
  rintro e w' ⟨rfl, rfl⟩
  go_wp2_with fail
  refine (Crc.ref_calls s _ _ xs w2 HR2.out HX.out).mono ?_
  rintro e w' ⟨rfl, rfl⟩
  go_wp2_with fail
  refine (HelpByte.kept_calls g A c xs 71 w2 HB2.out hn HR2.out).mono ?_
  rintro e w' ⟨rfl, n, rfl⟩
  go_wp2
  go_ret
  exact ⟨rfl, pw_below_drewN HW2.out n⟩

theorem sums_any (a : Int) (A : Option Addr) (c : Nat) (xs : List Int) (w : World) (ha : (Lit.int .u32 a).wf = true) (hr : (Kd.int .u8).C w A xs.length xs) (hc : xs.length ≤ c) (hn : xs.length * 1 ≤ 140737488351232) (hx : ∀ x ∈ xs, (Lit.int .u8 x).wf = true) :
    Calls Try.prog 3 #[.slice A xs.length c, .int .u32 a] w fun e w' => e = .returned (.bool true) ∧ Below w.heap.size w w' := by
  have hb := wf_u32 ha
  obtain ⟨s, rfl⟩ : ∃ s : W32, a = (s.toNat : Int) := ⟨BitVec.ofInt 32 a, by rw [BitVec.toNat_ofInt]; omega⟩
  exact sums s A c xs w hr hc hn (fun x h => wf_u8 (hx x h))

theorem sum_parts (xs ys : List Int) : sum (xs ++ ys) = add (sum xs) ys := by
  unfold sum add
  rw [run_append, BitVec.not_not]
theorem add_none (s : W32) : add s [] = s := by
  unfold add
  show ~~~ (~~~ s) = s
  rw [BitVec.not_not]

set_option maxRecDepth 100000 in
set_option maxHeartbeats 1000000 in
theorem parts (A B : Option Addr) (c d : Nat) (xs ys : List Int) (w : World) (hr : (Kd.int .u8).C w A xs.length xs) (hs : (Kd.int .u8).C w B ys.length ys) (hn : xs.length ≤ 1048576) (hm : ys.length ≤ 1048576) :
    Calls Try.prog 4 #[.slice A xs.length c, .slice B ys.length d] w fun e w' => e = .returned (.bool true) ∧ Below w.heap.size w w' := by
  have HR := Aside0.mk hr
  have HS := Aside0.mk hs
  clear hr hs
  go_enter Try.func4, Try.ntmps4
  go_wp2_with fail
  refine (awake_calls w).mono ?_
  rintro e w1 ⟨rfl, hw1⟩
  have HR1 := Aside0.mk (Kd.C_below HR.out hw1)
  have HS1 := Aside0.mk (Kd.C_below HS.out hw1)
  have HW1 := Aside0.mk hw1
  clear hw1
  go_wp2_with fail
  refine (HelpByte.copy_calls A c xs w1 HR1.out (by omega)).mono ?_
  rintro e w2 ⟨v, rfl, ho, hw2⟩
  have HR2 := Aside0.mk (Kd.C_below HR1.out hw2)
  have HS2 := Aside0.mk (Kd.C_below HS1.out hw2)
  have HW2 := Aside0.mk hw2
  have HO := Aside0.mk ho
  clear hw2 ho
  go_wp2_with (at_builtin; refine append_own_any _ (by rfl) _ _ _ rfl w1.heap.size 5 (.int .u8 0) 1 1 Try.underlying22 HelpByte.info rfl (by decide) (by decide) v xs.length (xs.map (Value.int .u8)) rfl HO.out B ys.length d (ys.map (Value.int .u8)) rfl ?hn ?hc ?hz ?h1 ?b1 ?bb ?_; (case hn => simp); (case hc => exact news_int HS2.out); (case hz => exact none_int HS2.out); (case h1 => exact one_int _ _); (case b1 => omega); (case bb => exact HW2.out.size); intro v3 w3 ho3 hg3)
  have ho3' := ho3.out
  rw [← List.map_append] at ho3'
  obtain ⟨C, c3, rfl, hl3, hc3, hC3, _⟩ := int_reads ho3'
  have hw3 : Below w1.heap.size w1 w3 := HW2.out.grown hg3 HW2.out.size (own_base HO.out)
  have HR3 := Aside0.mk (Kd.C_below HR1.out hw3)
  have HS3 := Aside0.mk (Kd.C_below HS1.out hw3)
  have HC3 := Aside0.mk hC3
  have HW3 := Aside0.mk (HW1.out.trans (hw3.mono HW1.out.size))
  have e1 : sum (xs ++ ys) = add (sum xs) ys := sum_parts xs ys
  have E1 := Aside0.mk e1
  clear e1 hw3 hC3 ho3' ho3 hg3 hl3 hc3
  go_wp2_with fail
  refine (Crc.sum_calls C c3 (xs ++ ys) w3 HC3.out).mono ?_
  rw [E1.out]
  rintro e w' ⟨rfl, rfl⟩
  go_wp2_with fail
  refine (Crc.sum_calls A c xs w3 HR3.out).mono ?_
  rintro e w' ⟨rfl, rfl⟩
  go_wp2_with fail
  refine (Crc.add_calls (sum xs) B d ys w3 HS3.out).mono ?_
  rintro e w' ⟨rfl, rfl⟩
  go_wp2_with fail
  refine (Crc.sum_calls A c xs w3 HR3.out).mono ?_
  rintro e w' ⟨rfl, rfl⟩
  go_wp2_with fail
  refine (Crc.add_calls (sum xs) none 0 [] w3 (Kd.C_nil _ _)).mono ?_
  rw [add_none]
  rintro e w' ⟨rfl, rfl⟩
  go_wp2_with fail
  refine (Crc.sum_calls A c xs w3 HR3.out).mono ?_
  rintro e w' ⟨rfl, rfl⟩
  go_wp2
  go_ret
  exact ⟨rfl, HW3.out⟩
end Go.Proofs.Ytknnngpjbcklaaa.CrcLaw
