/- Distances between stops: the contracts of times and of its reference. -/
import Derived.Test.YtonibdmoimgimaaStop
import Derived.Test.YtonibdmoimgimaaAdd
import Derived.IntWalk
import Derived.Deep.RegionHeld3
import Derived.Deep.DrawnRows
namespace Go.Proofs.Ytonibdmoimgimaa.Times
open Go Go.RowKit Go.Proofs.YtonibdmoimgimaaW.PrintWords Go.Proofs.Ytonibdmoimgimaa.Base Go.Proofs.Ytonibdmoimgimaa.Stops Go.Proofs.Ytonibdmoimgimaa.Add
set_option linter.unusedVariables false
set_option linter.unusedSimpArgs false
/-- A node's number in 32 bits. -/
def i32 (x : Int) : Int := wrap32 x
/-- Which place of the list. -/
def idx (x y n : Int) : Int := (IntKind.u64.wrap (IntKind.u64.wrap (IntKind.u64.wrap x * 7) + IntKind.u64.wrap y)).tmod n
theorem idx_nat (x y : Int) (n : Nat) (h : 0 < n) : ∃ j : Nat, idx x y n = j ∧ j < n := by
  unfold idx
  have h0 : 0 ≤ IntKind.u64.wrap (IntKind.u64.wrap (IntKind.u64.wrap x * 7) + IntKind.u64.wrap y) := by rw [IntKind.wrap_u64]; omega
  rw [Int.tmod_eq_emod_of_nonneg h0]
  have h1 := Int.emod_nonneg (IntKind.u64.wrap (IntKind.u64.wrap (IntKind.u64.wrap x * 7) + IntKind.u64.wrap y)) (show (n : Int) ≠ 0 by omega)
  have h2 := Int.emod_lt_of_pos (IntKind.u64.wrap (IntKind.u64.wrap (IntKind.u64.wrap x * 7) + IntKind.u64.wrap y)) (show (0 : Int) < (n : Int) by omega)
  exact ⟨_, (Int.toNat_of_nonneg h1).symm, by omega⟩
/-- How far nodes are from each other, by a list. -/
def farI (far : List Int) (x y : Int) : Int :=
  if far.length = 0 ∨ x = y then 0 else if far.getD (idx x y far.length).toNat 0 < 0 then 1152921504606846976 else far.getD (idx x y far.length).toNat 0 % 1099511627776
theorem farI_bounds (far : List Int) (x y : Int) : 0 ≤ farI far x y ∧ farI far x y ≤ 1152921504606846976 := by
  unfold farI
  split
  · omega
  · split <;> omega
/-- By a list, or nobody tells it. -/
def distI (D : Option (List Int)) (x y : Int) : Int :=
  match D with
  | some far => farI far (i32 x) (i32 y)
  | none => if i32 x = i32 y then 0 else 1152921504606846976
theorem distI_bounds (D : Option (List Int)) (x y : Int) : 0 ≤ distI D x y ∧ distI D x y ≤ 1152921504606846976 := by
  cases D with
  | some far => exact farI_bounds _ _ _
  | none => simp only [distI]; split <;> omega
theorem and_low (n : Int) : bits .and .i64 n 1099511627775 = n % 1099511627776 := by
  have h40 : (BitVec.ofInt 64 1099511627775).toNat = 2 ^ 40 - 1 := by decide
  have key : (BitVec.ofInt 64 n &&& BitVec.ofInt 64 1099511627775).toNat = (n % ((2 ^ 64 : Nat) : Int)).toNat % 2 ^ 40 := by
    rw [BitVec.toNat_and, BitVec.toNat_ofInt, h40, Nat.and_two_pow_sub_one_eq_mod]
  show IntKind.i64.wrap ((BitVec.ofInt 64 n &&& BitVec.ofInt 64 1099511627775).toNat : Nat) = n % 1099511627776
  rw [key, IntKind.wrap_i64]
  omega
set_option maxRecDepth 100000 in
set_option maxHeartbeats 1000000 in
theorem far_calls (A : Option Addr) (c : Nat) (far : List Int) (x y : Int) (w : World) (hr : (Kd.int .i64).C w A far.length far) (hb : ∀ d ∈ far, -9223372036854775808 ≤ d ∧ d ≤ 9223372036854775807) :
    Calls Try.prog 11 #[.slice A far.length c, .agg #[.int .i32 x, .int .i32 y]] w fun e w' => e = .returned (.int .i64 (farI far x y)) ∧ Below w.heap.size w w' := by
  have HR := Aside0.mk hr
  have HB := Aside0.mk hb
  have hx := Kd.C_max hr
  clear hr hb
  by_cases h0 : far.length = 0
  · have E : Aside0 (farI far x y = 0) := ⟨by unfold farI; rw [if_pos (.inl h0)]⟩
    have h0' : ((far.length : Int) == 0) = true := by rw [beq_iff_eq]; omega
    clear h0
    go_enter Try.func11, Try.ntmps11
    go_wp2
    go_ret
    exact ⟨ret_i64 E.out.symm, (Below.refl _ _).alloc (Nat.le_refl _) _⟩
  · have h0' : ((far.length : Int) == 0) = false := by rw [beq_eq_false_iff_ne]; omega
    by_cases hxy : x = y
    · have E : Aside0 (farI far x y = 0) := ⟨by unfold farI; rw [if_pos (.inr hxy)]⟩
      have hxy' : (x == y) = true := by rw [beq_iff_eq]; exact hxy
      clear h0 hxy
      go_enter Try.func11, Try.ntmps11
      go_wp2
      go_ret
      exact ⟨ret_i64 E.out.symm, (Below.refl _ _).alloc (Nat.le_refl _) _⟩
    · have hxy' : (x == y) = false := by rw [beq_eq_false_iff_ne]; exact hxy
      obtain ⟨j, hj, hjl⟩ := idx_nat x y far.length (by omega)
      obtain ⟨ad, d, rfl, hc, hd⟩ := at_nat HR.out j hjl
      have hdb := at_bounds HB.out j hjl hd.out
      have E : Aside0 (farI far x y = if d < 0 then 1152921504606846976 else d % 1099511627776) := ⟨by unfold farI; rw [if_neg (by omega), hj, Int.toNat_natCast, hd.out]⟩
      have hpos : 0 < far.length := by omega
      clear h0 hxy
      unfold idx at hj
      have HJ := Aside0.mk hj
      clear hj
      go_enter Try.func11, Try.ntmps11
      have hj := HJ.out
      have hc2 := pw_cell_below ((Below.refl w.heap.size w).alloc (Nat.le_refl _) (Obj.cells #[.int .i32 x, .int .i32 y] 60)) hc
      by_cases hd0 : d < 0
      · have E2 : Aside0 (farI far x y = 1152921504606846976) := ⟨by rw [E.out, if_pos hd0]⟩
        go_wp2
        go_ret
        exact ⟨ret_i64 E2.out.symm, (Below.refl _ _).alloc (Nat.le_refl _) _⟩
      · have E2 : Aside0 (farI far x y = d % 1099511627776) := ⟨by rw [E.out, if_neg hd0]⟩
        have HL := Aside0.mk (and_low d)
        go_wp2
        go_ret
        exact ⟨by rw [E2.out, ← HL.out]; rfl, (Below.refl _ _).alloc (Nat.le_refl _) _⟩
/-- How a distance is told: a list behind a method, or nothing. -/
def TellsD (D : Option (List Int)) (v : Value) (w : World) : Prop :=
  match D with
  | none => v = .nilFunc
  | some far => ∃ A c, v = .func (.func 11) #[.slice A far.length c] #[] ∧ (Kd.int .i64).C w A far.length far ∧ ∀ d ∈ far, -9223372036854775808 ≤ d ∧ d ≤ 9223372036854775807
theorem TellsD.below {D : Option (List Int)} {v : Value} {w w' : World} (h : TellsD D v w) (hb : Below w.heap.size w w') : TellsD D v w' := by
  cases D with
  | none => exact h
  | some far =>
    obtain ⟨A, c, rfl, hC, hd⟩ := h
    exact ⟨A, c, rfl, Kd.C_below hC hb, hd⟩
theorem addI_zero {x : Int} (h : 0 ≤ x ∧ x ≤ 1152921504606846976) : addI x 0 = x := by unfold addI; omega
theorem func_nil (F : Fn) (fs cs : Array Value) (w : World) : (binOp .neq 30 (.func F fs cs) .nilFunc).run Try.prog w = .ok (.bool true) w := by rfl
theorem nil_nil (w : World) : (binOp .neq 30 .nilFunc .nilFunc).run Try.prog w = .ok (.bool false) w := by rfl
set_option maxRecDepth 100000 in
set_option maxHeartbeats 1000000 in
theorem between_calls (D : Option (List Int)) (v : Value) (a b : Stop) (w : World) (hD : TellsD D v w) :
    Calls Try.prog 29 #[.agg #[.int .i64 a.node, .int .i64 a.kind, .int .i64 a.rider], .agg #[.int .i64 b.node, .int .i64 b.kind, .int .i64 b.rider], v] w fun e w' => e = .returned (.int .i64 (distI D a.node b.node)) ∧ Below w.heap.size w w' := by
  have hnn := nil_nil
  cases D with
  | none =>
    obtain rfl : v = .nilFunc := hD
    by_cases h : i32 a.node = i32 b.node
    · have E : Aside0 (distI none a.node b.node = 0) := ⟨by simp only [distI]; rw [if_pos h]⟩
      have h' : (wrap32 a.node == wrap32 b.node) = true := by rw [beq_iff_eq]; exact h
      clear h
      go_enter Try.func29, Try.ntmps29
      go_wp2
      go_ret
      exact ⟨ret_i64 E.out.symm, (((Below.refl _ _).alloc (Nat.le_refl _) _).alloc (by simp) _).alloc (by simp; omega) _⟩
    · have E : Aside0 (distI none a.node b.node = 1152921504606846976) := ⟨by simp only [distI]; rw [if_neg h]⟩
      have h' : (wrap32 a.node == wrap32 b.node) = false := by rw [beq_eq_false_iff_ne]; exact h
      clear h
      go_enter Try.func29, Try.ntmps29
      go_wp2
      go_ret
      exact ⟨ret_i64 E.out.symm, (((Below.refl _ _).alloc (Nat.le_refl _) _).alloc (by simp) _).alloc (by simp; omega) _⟩
  | some far =>
    obtain ⟨A, c, rfl, hC, hd⟩ := hD
    have hfn := func_nil (.func 11) #[.slice A far.length c] #[]
    have HC := Aside0.mk hC
    have HD := Aside0.mk hd
    clear hC hd hnn
    go_enter Try.func29, Try.ntmps29
    go_wp2_with fail
    have hb3 := (((Below.refl w.heap.size w).alloc (Nat.le_refl _) (Obj.cells #[.int .i64 a.node, .int .i64 a.kind, .int .i64 a.rider] 41)).alloc (by simp) (Obj.cells #[.int .i64 b.node, .int .i64 b.kind, .int .i64 b.rider] 41)).alloc (by simp; omega) (Obj.cells #[.int .i32 (wrap32 a.node), .int .i32 (wrap32 b.node)] 60)
    revert hb3
    generalize ((w.alloc (Obj.cells #[.int .i64 a.node, .int .i64 a.kind, .int .i64 a.rider] 41)).alloc (Obj.cells #[.int .i64 b.node, .int .i64 b.kind, .int .i64 b.rider] 41)).alloc (Obj.cells #[.int .i32 (wrap32 a.node), .int .i32 (wrap32 b.node)] 60) = w3
    intro hb3
    refine (far_calls A c far (wrap32 a.node) (wrap32 b.node) w3 (Kd.C_below HC.out hb3) HD.out).mono ?_
    rintro e w4 ⟨rfl, hw⟩
    have hb4 := hb3.trans (hw.mono hb3.size)
    clear hw hb3
    go_wp2_with fail
    refine (add_calls _ 0 w4).mono ?_
    rintro e w' ⟨rfl, rfl⟩
    rw [addI_zero (farI_bounds _ _ _)]
    go_wp2
    go_ret
    exact ⟨rfl, hb4⟩
/-- The distance of two stops by their places. -/
def dd (D : Option (List Int)) (l : List Stop) (i j : Nat) : Int := distI D (l.getD i zStop).node (l.getD j zStop).node
/-- When a stop is come to. -/
def arrAt (D : Option (List Int)) (left dwell : Int) (l : List Stop) : Nat → Int
  | 0 => left
  | 1 => addI left (dd D l 0 1)
  | k + 2 => addI (addI (arrAt D left dwell l (k + 1)) dwell) (dd D l (k + 1) (k + 2))
theorem arrAt_next (D : Option (List Int)) (left dwell : Int) (l : List Stop) (m : Nat) (h : 0 < m) : arrAt D left dwell l (m + 1) = addI (addI (arrAt D left dwell l m) dwell) (dd D l m (m + 1)) := by
  obtain ⟨k, rfl⟩ : ∃ k, m = k + 1 := ⟨m - 1, by omega⟩
  rfl
def arrI (D : Option (List Int)) (left dwell : Int) (l : List Stop) (k : Nat) : List Int := (List.range k).map (arrAt D left dwell l)
theorem arrI_length (D : Option (List Int)) (left dwell : Int) (l : List Stop) (k : Nat) : (arrI D left dwell l k).length = k := by simp [arrI]
theorem arrI_snoc (D : Option (List Int)) (left dwell : Int) (l : List Stop) (k : Nat) : arrI D left dwell l (k + 1) = arrI D left dwell l k ++ [arrAt D left dwell l k] := by simp [arrI, List.range_succ]
theorem arrI_at (D : Option (List Int)) (left dwell : Int) (l : List Stop) (k j : Nat) (h : j < k) : (arrI D left dwell l k).getD j 0 = arrAt D left dwell l j := by simp [arrI, h]
theorem i64info : (Try.prog.info? 2).map (fun i => (i.zero, i.size, i.bytes)) = some (some (.int .i64 0), 1, 8) := by kernel_rfl
end Go.Proofs.Ytonibdmoimgimaa.Times
