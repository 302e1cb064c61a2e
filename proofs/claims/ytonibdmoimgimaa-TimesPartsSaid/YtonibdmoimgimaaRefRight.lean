/- The reference's Find, and what is right. -/
import Derived.Test.YtonibdmoimgimaaStop
import Derived.IntWalk
namespace Go.Proofs.Ytonibdmoimgimaa.RefRight
open Go Go.RowKit Go.Proofs.YtonibdmoimgimaaW.PrintWords Go.Proofs.Ytonibdmoimgimaa.Base Go.Proofs.Ytonibdmoimgimaa.Stops
set_option linter.unusedVariables false
set_option linter.unusedSimpArgs false
/-- Where the first such is, from a number on. -/
def fst (q : Stop → Bool) : List Stop → Nat → Int
  | [], _ => -1
  | s :: t, n => if q s then n else fst q t (n + 1)
def isOf (r k : Int) (s : Stop) : Bool := s.rider == r && s.kind == k
def findI (l : List Stop) (r k : Int) : Int := fst (isOf r k) l 0
theorem fst_drop (q : Stop → Bool) (l : List Stop) (k : Nat) (h : k < l.length) : fst q (l.drop k) k = if q (l.getD k zStop) then (k : Int) else fst q (l.drop (k + 1)) (k + 1) := by
  rw [List.drop_eq_getElem_cons h]
  have e : l.getD k zStop = l[k] := by simp [h]
  rw [e]
  rfl
theorem fst_bounds (q : Stop → Bool) : ∀ (l : List Stop) (n : Nat), fst q l n = -1 ∨ (n : Int) ≤ fst q l n ∧ fst q l n < n + l.length
  | [], n => .inl rfl
  | s :: t, n => by
    unfold fst
    split
    · right; simp only [List.length_cons]; omega
    · rcases fst_bounds q t (n + 1) with h | h
      · exact .inl h
      · right; simp only [List.length_cons]; omega
theorem findI_bounds (l : List Stop) (r k : Int) : findI l r k = -1 ∨ 0 ≤ findI l r k ∧ findI l r k < l.length := by
  have := fst_bounds (isOf r k) l 0
  unfold findI
  omega
set_option maxRecDepth 100000 in
set_option maxHeartbeats 1000000 in
theorem refFind_calls (A : Option Addr) (c : Nat) (l : List Stop) (r : Int) (w : World) (hl : kStop.C w A l.length l) (hn : l.length ≤ 1000000000) :
    Calls Try.prog 43 #[.slice A l.length c, .int .i64 r] w fun e w' => e = .returned (.tuple #[.int .i64 (findI l r 1), .int .i64 (findI l r 2)]) ∧ w = w' := by
  have HL := Aside0.mk hl
  have f1 : Aside0 (∀ m, m = l.length → fst (isOf r 1) (l.drop m) m = -1 ∧ fst (isOf r 2) (l.drop m) m = -1) := ⟨by rintro m rfl; simp [fst]⟩
  clear hl
  go_enter Try.func43, Try.ntmps43
  go_wp2
  go_loopw [6, 7, 8] (fun p d i wr => ∃ m : Nat, m ≤ l.length ∧ i = .int .i64 ((m : Int) - 1) ∧ p = .int .i64 (fst (isOf r 1) (l.drop m) m) ∧ d = .int .i64 (fst (isOf r 2) (l.drop m) m) ∧ wr = w) (fun _ _ i _ => (intOf i + 1).toNat)
  case atStart => exact ⟨l.length, by omega, rfl, by rw [(f1.out _ rfl).1], by rw [(f1.out _ rfl).2], rfl⟩
  case round =>
    obtain ⟨m, hm, rfl, rfl, rfl, rfl⟩ := hrel
    rcases m with _ | k
    · go_wp2
      go_ret2
      exact ⟨rfl, rfl⟩
    · obtain ⟨ad, s, rfl, h0, h1, h2, hq⟩ := stop_at HL.out k (by omega)
      rw [show ((k + 1 : Nat) : Int) - 1 = (k : Int) by omega]
      obtain ⟨P, hP⟩ : ∃ P, fst (isOf r 1) (l.drop (k + 1)) (k + 1) = P := ⟨_, rfl⟩
      obtain ⟨D, hD⟩ : ∃ D, fst (isOf r 2) (l.drop (k + 1)) (k + 1) = D := ⟨_, rfl⟩
      have HP : Aside0 (fst (isOf r 1) (l.drop k) k = if s.rider = r ∧ s.kind = 1 then (k : Int) else P) := ⟨by rw [fst_drop _ _ _ (by omega), hq.out, hP]; simp [isOf]⟩
      have HD : Aside0 (fst (isOf r 2) (l.drop k) k = if s.rider = r ∧ s.kind = 2 then (k : Int) else D) := ⟨by rw [fst_drop _ _ _ (by omega), hq.out, hD]; simp [isOf]⟩
      rw [hP, hD]
      clear hP hD
      have i4 : (k : Int).toNat = k := by omega
      have i3 : (k : Int) < (l.length : Int) := by omega
      have i5 : IntKind.i64.wrap ((k : Int) - 1) = (k : Int) - 1 := by rw [IntWalk.i64_in _ (by omega)]
      by_cases hr : s.rider = r
      · by_cases hk1 : s.kind = 1
        · have E1 : Aside0 (fst (isOf r 1) (l.drop k) k = (k : Int)) := ⟨by rw [HP.out, if_pos ⟨hr, hk1⟩]⟩
          have E2 : Aside0 (fst (isOf r 2) (l.drop k) k = D) := ⟨by rw [HD.out, if_neg (by rintro ⟨-, h⟩; omega)]⟩
          rw [hk1] at h1
          rw [hr] at h2
          clear hr hk1
          go_wp2
          go_roundw
          case rel => exact ⟨k, by omega, rfl, by rw [E1.out], by rw [E2.out], by first | rfl | trivial⟩
          case measure => simp only [intOf]; omega
        · by_cases hk2 : s.kind = 2
          · have E1 : Aside0 (fst (isOf r 1) (l.drop k) k = P) := ⟨by rw [HP.out, if_neg (by rintro ⟨-, h⟩; omega)]⟩
            have E2 : Aside0 (fst (isOf r 2) (l.drop k) k = (k : Int)) := ⟨by rw [HD.out, if_pos ⟨hr, hk2⟩]⟩
            rw [hk2] at h1
            rw [hr] at h2
            clear hr hk1 hk2
            go_wp2
            go_roundw
            case rel => exact ⟨k, by omega, rfl, by rw [E1.out], by rw [E2.out], by first | rfl | trivial⟩
            case measure => simp only [intOf]; omega
          · have E1 : Aside0 (fst (isOf r 1) (l.drop k) k = P) := ⟨by rw [HP.out, if_neg (by rintro ⟨-, h⟩; omega)]⟩
            have E2 : Aside0 (fst (isOf r 2) (l.drop k) k = D) := ⟨by rw [HD.out, if_neg (by rintro ⟨-, h⟩; omega)]⟩
            have b1 : (s.kind == 1) = false := by rw [beq_eq_false_iff_ne]; exact hk1
            have b2 : (s.kind == 2) = false := by rw [beq_eq_false_iff_ne]; exact hk2
            rw [hr] at h2
            clear hr hk1 hk2
            go_wp2
            go_roundw
            case rel => exact ⟨k, by omega, rfl, by rw [E1.out], by rw [E2.out], by first | rfl | trivial⟩
            case measure => simp only [intOf]; omega
      · have E1 : Aside0 (fst (isOf r 1) (l.drop k) k = P) := ⟨by rw [HP.out, if_neg (by rintro ⟨h, -⟩; exact hr h)]⟩
        have E2 : Aside0 (fst (isOf r 2) (l.drop k) k = D) := ⟨by rw [HD.out, if_neg (by rintro ⟨h, -⟩; exact hr h)]⟩
        have b1 : (s.rider == r) = false := by rw [beq_eq_false_iff_ne]; exact hr
        clear hr
        go_wp2
        go_roundw
        case rel => exact ⟨k, by omega, rfl, by rw [E1.out], by rw [E2.out], by first | rfl | trivial⟩
        case measure => simp only [intOf]; omega
end Go.Proofs.Ytonibdmoimgimaa.RefRight
