/- A route's parts: what TimesParts says of lists. -/
import Derived.Test.YtonibdmoimgimaaTimesLaw
namespace Go.Proofs.Ytonibdmoimgimaa.TimesParts
open Go Go.RowKit Go.Proofs.YtonibdmoimgimaaW.PrintWords Go.Proofs.Ytonibdmoimgimaa.Base Go.Proofs.Ytonibdmoimgimaa.Stops Go.Proofs.Ytonibdmoimgimaa.Add Go.Proofs.Ytonibdmoimgimaa.Times Go.Proofs.Ytonibdmoimgimaa.TimesLaw
set_option linter.unusedVariables false
set_option linter.unusedSimpArgs false
theorem stop_take {w : World} {A : Option Addr} {l : List Stop} (h : kStop.C w A l.length l) (m : Nat) (hm : m ≤ l.length) : kStop.C w A (l.take m).length (l.take m) := by
  refine ⟨rfl, ?_, fun h0 => ?_⟩
  · have := Kd.C_max h; simp only [List.length_take]; omega
  · have hlen : (l.take m).length = m := by rw [List.length_take]; omega
    obtain ⟨ad, e, hc⟩ := h.2.2 (by omega)
    refine ⟨ad, e, fun j p hj => hc j p ?_⟩
    rw [List.getElem?_take] at hj
    split at hj
    · exact hj
    · cases hj
theorem stop_drop {w : World} {ad : Addr} {l : List Stop} (h : kStop.C w (some ad) l.length l) (m : Nat) (hm : m < l.length) : kStop.C w (some (ad.add (m * 3))) (l.drop m).length (l.drop m) := by
  refine ⟨rfl, ?_, fun h0 => ?_⟩
  · have := Kd.C_max h; simp only [List.length_drop]; omega
  · obtain ⟨ad', e, hc⟩ := h.2.2 (by omega)
    cases e
    refine ⟨_, rfl, fun j p hj => ?_⟩
    rw [List.getElem?_drop] at hj
    obtain ⟨c, h1, h2, h3⟩ := hc _ _ hj
    refine ⟨c, h1, h2, fun i u hu => ?_⟩
    rw [Go.Deep.add_add, ← h3 i u hu]
    congr 2
    rw [kStop_sz, Nat.add_mul]
    omega
theorem getD_take (l : List Stop) (m i : Nat) (h : i < m) : (l.take m).getD i zStop = l.getD i zStop := by
  simp [List.getD_eq_getElem?_getD, List.getElem?_take, h]
theorem getD_drop (l : List Stop) (m i : Nat) : (l.drop m).getD i zStop = l.getD (m + i) zStop := by
  simp [List.getD_eq_getElem?_getD, List.getElem?_drop]
theorem arr_take (D : Option (List Int)) (left dw : Int) (l : List Stop) (m : Nat) : ∀ i, i < m → arrAt D left dw (l.take m) i = arrAt D left dw l i
  | 0, _ => rfl
  | 1, h => by simp only [arrAt, dd]; rw [getD_take _ _ _ h, getD_take _ _ _ (by omega)]
  | i + 2, h => by
    have ih := arr_take D left dw l m (i + 1) (by omega)
    simp only [arrAt, dd]
    rw [getD_take _ _ _ h, getD_take _ _ _ (by omega)]
    have e : arrAt D left dw (l.take m) (i + 1) = arrAt D left dw l (i + 1) := ih
    rw [e]
theorem drive_take (D : Option (List Int)) (l : List Stop) (m : Nat) : ∀ i, i < m → driveI D (l.take m) i = driveI D l i
  | 0, _ => rfl
  | i + 1, h => by
    simp only [driveI, dd]
    rw [drive_take D l m i (by omega), getD_take _ _ _ h, getD_take _ _ _ (by omega)]
theorem drive_bounds (D : Option (List Int)) (l : List Stop) : ∀ i, 0 ≤ driveI D l i ∧ driveI D l i ≤ 1152921504606846976
  | 0 => by simp [driveI]
  | i + 1 => by
    have ih := drive_bounds D l i
    have hd := distI_bounds D (l.getD i zStop).node (l.getD (i + 1) zStop).node
    simp only [driveI, dd]
    unfold addI
    omega
/-- The drive of two parts that share a stop. -/
theorem drive_split (D : Option (List Int)) (l : List Stop) (m : Nat) : ∀ j, driveI D l (m + j) = if 1152921504606846976 < driveI D l m + driveI D (l.drop m) j then 1152921504606846976 else driveI D l m + driveI D (l.drop m) j
  | 0 => by
    have := drive_bounds D l m
    simp only [driveI, Nat.add_zero]
    omega
  | j + 1 => by
    have ih := drive_split D l m j
    have h1 := drive_bounds D l m
    have h2 := drive_bounds D (l.drop m) j
    have hd := distI_bounds D (l.getD (m + j) zStop).node (l.getD (m + (j + 1)) zStop).node
    have e1 : driveI D l (m + (j + 1)) = addI (driveI D l (m + j)) (dd D l (m + j) (m + (j + 1))) := rfl
    have e2 : driveI D (l.drop m) (j + 1) = addI (driveI D (l.drop m) j) (dd D l (m + j) (m + (j + 1))) := by
      simp only [driveI, dd]
      rw [getD_drop, getD_drop]
    rw [e1, e2, ih]
    unfold dd
    generalize distI D (l.getD (m + j) zStop).node (l.getD (m + (j + 1)) zStop).node = d at *
    generalize driveI D l m = a at *
    generalize driveI D (l.drop m) j = b at *
    clear ih e1 e2
    unfold addI
    omega
end Go.Proofs.Ytonibdmoimgimaa.TimesParts
