/- The contracts of Own, Plain, Same and Kept of hansomhelp at int. -/
import Derived.Test.YtbpghlfmkbjjcaaBase
namespace Go.Proofs.Ytbpghlfmkbjjcaa.HelpInt
open Go Go.RowKit Go.Proofs.YtbpghlfmkbjjcaaW.PrintWords Go.Proofs.Ytbpghlfmkbjjcaa.Base
set_option linter.unusedVariables false
theorem info : (Try.prog.info? 3).map (fun i => (i.zero, i.size, i.bytes)) = some (some (.int .i64 0), 1, 8) := by kernel_rfl

/-- What Own leaves: a block with the numbers, and three more behind them. -/
def OwnPost (xs : List Int) (f : Int) (w : World) (e : Ending) (w' : World) : Prop :=
  ∃ g, e = .returned (.slice (some ⟨g, 0, none⟩) xs.length (xs.length + 3)) ∧ w.heap.size ≤ g ∧ w'.heap[g]? = some (.cells (tailed .i64 xs f 3 0) 3 (0, 0)) ∧ Below w.heap.size w w'

set_option maxRecDepth 100000 in
set_option maxHeartbeats 1000000 in
theorem own_calls (A : Option Addr) (c : Nat) (xs : List Int) (f : Int) (w : World) (hr : (Kd.int .i64).C w A xs.length xs) (hc : xs.length ≤ c) (hn : xs.length * 8 ≤ 140737488351232) :
    Calls Try.prog 13 #[.slice A xs.length c, .int .i64 f] w (OwnPost xs f w) := by
  have HR := Aside0.mk hr
  clear hr
  have e3 : ((xs.length : Int) + 3) = ((xs.length + 3 : Nat) : Int) := by omega
  have E3 := Aside0.mk e3
  clear e3
  go_enter Try.func13, Try.ntmps13
  go_wp2_with (first | (at_make; refine make_blk _ (by rfl) _ _ _ rfl 3 _ 1 8 Try.underlying23 info .i64 .i64 _ (xs.length + 3) rfl rfl E3.out (by omega) (by omega) ?_; intro w1 hb1 hw1 hs1) | (at_builtin; refine append_blk _ (by rfl) _ _ _ rfl 3 _ 1 8 Try.underlying23 info w.heap.size 0 (xs.length + 3) _ rfl hb1.out ?hcur A xs.length c (xs.map (Value.int .i64)) rfl ?hn ?hc ?hz ?h1 ?b1 ?_; (case hcur => rw [size_madeCells]); (case hn => simp); (case hc => exact news_int (Kd.C_below HR.out hw1)); (case hz => exact none_int HR.out); (case h1 => exact one_int _ _); (case b1 => omega); intro w2 hb2 hg2))
  have hb2' : w2.heap[w.heap.size]? = some (.cells (tailed .i64 xs f 0 3) 3 (0, 0)) := by
    rw [hb2.out]
    rw [made_int, Nat.mul_one (xs.length + 3), tailed_own]
    rfl
  have HB2 := Aside0.mk hb2'
  have HW2 := Aside0.mk (hw1.grown hg2 (by omega) (by intro k hk; cases hk; exact Nat.le_refl _))
  have hs2 : w.heap.size < w2.heap.size := Nat.lt_of_lt_of_le hs1 hg2.size
  clear hb2' hb2 hb1 hw1 hg2 hs1
  go_loopw [7] (fun i wr => ∃ j : Nat, j ≤ 3 ∧ i = .int .i64 (xs.length + j : Nat) ∧ Aside0 (wr.heap[w.heap.size]? = some (.cells (tailed .i64 xs f j (3 - j)) 3 (0, 0))) ∧ Aside0 (Below w.heap.size w wr)) (fun i _ => xs.length + 3 - (intOf i).toNat)
  case atStart => exact ⟨0, by omega, rfl, HB2, HW2⟩
  case round =>
    obtain ⟨j, hj, rfl, HB, HW⟩ := hrel
    by_cases hlt : j < 3
    · have hcell : wr.cell? ⟨w.heap.size, xs.length + j, none⟩ = some (.int .i64 0) := (blk_cell HB.out _).trans (tailed_zero _ _ _ _ _ _ (by omega) (by omega))
      have hfz : wr.frozen? ⟨w.heap.size, xs.length + j, none⟩ = false := blk_frozen HB.out _
      go_wp2
      go_roundw
      case rel =>
        refine ⟨j + 1, by omega, by go_num, ⟨?_⟩, ⟨HW.out.setCell (Nat.le_refl _) _⟩⟩
        have h3 : 3 - j = (3 - (j + 1)) + 1 := by omega
        have HB' := HB.out
        rw [h3] at HB'
        have := blk_set HB' (xs.length + j) (.int .i64 f)
        rw [tailed_set] at this
        exact this
      case measure => simp [intOf]; omega
    · obtain rfl : j = 3 := by omega
      go_wp2
      go_ret
      exact ⟨w.heap.size, rfl, Nat.le_refl _, HB.out, HW.out⟩

theorem eq_calls (x y : Int) (w : World) : Calls Try.prog 40 #[.int .i64 x, .int .i64 y] w fun e w' => e = .returned (.bool (x == y)) ∧ w' = w := by
  go_enter Try.func40, Try.ntmps40
  go_wp2
  go_ret
  exact ⟨rfl, rfl⟩

/-- What a test of two lists tells. -/
def SamePost (b : Bool) (w : World) (e : Ending) (w' : World) : Prop := e = .returned (.bool b) ∧ ∃ n, w' = w.drewN n

set_option maxRecDepth 100000 in
set_option maxHeartbeats 1000000 in
theorem same_calls (A B : Option Addr) (c d : Nat) (xs ys : List Int) (w : World) (hx : (Kd.int .i64).C w A xs.length xs) (hy : (Kd.int .i64).C w B ys.length ys) :
    Calls Try.prog 39 #[.slice A xs.length c, .slice B ys.length d, .func (.func 40) #[] #[]] w (SamePost (decide (xs = ys)) w) := by
  have hn := Kd.C_max hx
  have HX := Aside0.mk hx
  have HY := Aside0.mk hy
  clear hx hy
  by_cases hl : xs.length = ys.length
  · have hl1 : ((xs.length : Int) == (ys.length : Int)) = true := by rw [beq_iff_eq]; omega
    have hl2 : ((xs.length : Int) != (ys.length : Int)) = false := by rw [bne_eq_false_iff_eq]; omega
    have HL := Aside0.mk hl
    clear hl
    go_enter Try.func39, Try.ntmps39
    go_wp2
    go_loopw [7] (fun i wr => ∃ (k n : Nat), k ≤ xs.length ∧ i = .int .i64 k ∧ Aside0 (xs.take k = ys.take k) ∧ wr = w.drewN n) (fun i _ => xs.length - (intOf i).toNat)
    case atStart => exact ⟨0, 0, by omega, rfl, ⟨rfl⟩, rfl⟩
    case round =>
      obtain ⟨k, n, hk, rfl, HE, rfl⟩ := hrel
      by_cases hlt : k < xs.length
      · obtain ⟨ad, x, rfl, h1, hx⟩ := at_nat HX.out k hlt
        obtain ⟨bd, y, rfl, h2, hy⟩ := at_nat HY.out k (by have := HL.out; omega)
        have hlt2 : k < ys.length := by have := HL.out; omega
        by_cases hxy : x = y
        · have hb : (x == y) = true := by rw [beq_iff_eq]; exact hxy
          have HXY := Aside0.mk hxy
          clear hxy
          go_wp2
          go_quiet ((go_at_call 40; exact (eq_calls x y _).mono (fun _ _ ⟨he, hm⟩ => ⟨he, _, hm⟩)))
          go_wp2
          go_roundw
          case rel => exact ⟨k + 1, _, by omega, by go_num, ⟨same_step k HL.out hlt hx.out hy.out HE.out HXY.out⟩, rfl⟩
          case measure => simp [intOf]; omega
        · have hb : (x == y) = false := by rw [beq_eq_false_iff_ne]; exact hxy
          have HXY := Aside0.mk hxy
          clear hxy
          go_wp2
          go_quiet ((go_at_call 40; exact (eq_calls x y _).mono (fun _ _ ⟨he, hm⟩ => ⟨he, _, hm⟩)))
          go_wp2
          go_ret
          exact ⟨by rw [decide_eq_false (same_not k hx.out hy.out HXY.out)]; rfl, _, World.drewN_drewN _ _ _⟩
      · obtain rfl : k = xs.length := by omega
        go_wp2
        go_ret
        exact ⟨by rw [decide_eq_true (same_end HL.out HE.out)]; rfl, _, rfl⟩
  · have hl1 : ((xs.length : Int) == (ys.length : Int)) = false := by rw [beq_eq_false_iff_ne]; omega
    have hl2 : ((xs.length : Int) != (ys.length : Int)) = true := by rw [bne_iff_ne]; omega
    have HL := Aside0.mk hl
    clear hl
    go_enter Try.func39, Try.ntmps39
    go_wp2
    go_ret
    exact ⟨by rw [decide_eq_false (fun e => HL.out (by rw [e]))]; rfl, 0, rfl⟩

theorem plain_calls (A B : Option Addr) (c d : Nat) (xs ys : List Int) (w : World) (hx : (Kd.int .i64).C w A xs.length xs) (hy : (Kd.int .i64).C w B ys.length ys) :
    Calls Try.prog 36 #[.slice A xs.length c, .slice B ys.length d] w (SamePost (decide (xs = ys)) w) := by
  have HX := Aside0.mk hx
  have HY := Aside0.mk hy
  clear hx hy
  go_enter Try.func36, Try.ntmps36
  go_wp2_with (go_at_call 39; refine (same_calls A B c d xs ys w HX.out HY.out).mono ?_; rintro e w' ⟨rfl, hw⟩)
  go_ret
  exact ⟨rfl, hw⟩

set_option maxRecDepth 100000 in
set_option maxHeartbeats 1000000 in
/-- Kept of what Own left: true. -/
theorem kept_calls (g : Nat) (B : Option Addr) (d : Nat) (xs : List Int) (f : Int) (w : World) (hg : w.heap[g]? = some (.cells (tailed .i64 xs f 3 0) 3 (0, 0))) (hn : xs.length * 8 ≤ 140737488351232) (hy : (Kd.int .i64).C w B xs.length xs) :
    Calls Try.prog 18 #[.slice (some ⟨g, 0, none⟩) xs.length (xs.length + 3), .slice B xs.length d, .int .i64 f] w (SamePost true w) := by
  have HG := Aside0.mk hg
  have HY := Aside0.mk hy
  clear hg hy
  have hf : (f == f) = true := by simp
  have hf2 : (f != f) = false := by simp
  go_enter Try.func18, Try.ntmps18
  go_wp2_with (go_at_call 36; refine (plain_calls (some ⟨g, 0, none⟩) B (xs.length + 3) d xs xs w (C_tailed HG.out (by omega)) HY.out).mono ?_; rw [decide_eq_true rfl]; rintro e w' ⟨rfl, n, rfl⟩)
  go_loop [8] (fun i => ∃ j : Nat, j ≤ 3 ∧ i = .int .i64 (xs.length + j : Nat)) (fun i => xs.length + 3 - (intOf i).toNat)
  case atStart => exact ⟨0, by omega, rfl⟩
  case round =>
    obtain ⟨j, hj, rfl⟩ := hrel
    by_cases hlt : j < 3
    · have hcell : w.cell? ⟨g, xs.length + j, none⟩ = some (.int .i64 f) := (blk_cell HG.out _).trans (tailed_fill _ _ _ _ _ _ (by omega) (by omega))
      go_wp2
      go_round
      case rel => exact ⟨j + 1, by omega, by go_num⟩
      case measure => simp [intOf]; omega
    · obtain rfl : j = 3 := by omega
      go_wp2
      go_ret
      exact ⟨rfl, _, rfl⟩
end Go.Proofs.Ytbpghlfmkbjjcaa.HelpInt
