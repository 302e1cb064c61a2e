/- Scan and the reference's Scan. -/
import Derived.Test.YtfkghmalccpcbaaFrameBack
import Derived.Lib.OwnKind
namespace Go.Proofs.Ytfkghmalccpcbaa.Frame
open Go Go.RowKit Go.Proofs.YtfkghmalccpcbaaW.PrintWords Go.Proofs.Ytfkghmalccpcbaa.Base Go.Proofs.Ytfkghmalccpcbaa.CrcMath Go.Proofs.Ytfkghmalccpcbaa.FrameMath
set_option linter.unusedVariables false
set_option linter.unusedSimpArgs false
theorem slinfo : (Try.prog.info? 22).map (fun i => (i.zero, i.size, i.bytes)) = some (some (.slice none 0 0), 1, 24) := by kernel_rfl
/-- Rows of bytes, as values. -/
def Rows (w : World) (base : Nat) (vs : List Value) (bs : List (List Int)) : Prop :=
  vs.length = bs.length ∧ ∀ (i : Nat) (u : Value) (b : List Int), vs[i]? = some u → bs[i]? = some b → w.ownsRow base 5 1 u b.length (b.map (Value.int .u8))
/-- A row of rows of bytes, of the call's own. -/
def LR (w0 w : World) (v : Value) (bs : List (List Int)) : Prop :=
  ∃ vs, w.ownsRow w0.heap.size 22 1 v bs.length vs ∧ Rows w w0.heap.size vs bs
theorem LR_nil (w0 w : World) : LR w0 w (.slice none 0 0) [] := ⟨[], World.ownsRow_nil _ _ _ _, rfl, fun i u b h => by simp at h⟩
theorem LR_below {w0 w w' : World} {v : Value} {bs : List (List Int)} (h : LR w0 w v bs) (hw : Below w.heap.size w w') : LR w0 w' v bs := by
  obtain ⟨vs, h1, h2, h3⟩ := h
  exact ⟨vs, pw_own_below h1 hw, h2, fun i u b hu hb => pw_own_below (h3 i u b hu hb) hw⟩
theorem row_one {w : World} {base e : Nat} {u : Value} {n : Nat} {xs : List Value} (h : w.ownsRow base e 1 u n xs) : u.oneCell' = true := by
  rcases h.2 with ⟨rfl, _⟩ | ⟨g', cap, cur, rfl, _⟩ <;> rfl
theorem app_row {P : Program} (w0 : World) {w : World} {ops : Array Oper} {rest : List Oper} {o : Oper} {a : Act} {Q : Exit → Act → World → Prop}
    (hg : Region.wanted o (yielded ops a.tmps) = true) (s x : Operand) (t : TypeId) (hop : o.op = Op.call { callee := Callee.builtin Builtin.append, args := #[s, x], argTypes := #[t, t] })
    (h1 : P.underlying t = some (.slice 22)) (h2 : (P.info? 22).map (fun i => (i.zero, i.size, i.bytes)) = some (some (.slice none 0 0), 1, 24))
    (v : Value) (bs : List (List Int)) (hs : a.eval s = v) (HL : LR w0 w v bs) (HW : Below w0.heap.size w0 w) (u : Value) (b : List Int) (hu : w.ownsRow w0.heap.size 5 1 u b.length (b.map (Value.int .u8)))
    (hx : a.eval x = .slice (some ⟨w.heap.size, 0, none⟩) 1 1) (hb : (bs.length + 1) * 24 ≤ 140737488355328)
    (hK : ∀ v' w', Aside0 (LR w0 w' v' (bs ++ [b])) → Aside0 (Below w0.heap.size w0 w') → wpList P ops Q rest (a.put o.dst v') w') :
    wpList P ops Q (o :: rest) a (w.alloc (.cells #[u] 22)) := by
  obtain ⟨vs, ho, hl, hr⟩ := HL
  have hsz : w0.heap.size ≤ (w.alloc (.cells #[u] 22)).heap.size := by have := HW.size; rw [World.size_alloc]; omega
  refine append_own_any _ hg s x t hop w0.heap.size 22 (.slice none 0 0) 1 24 h1 h2 rfl (by decide) (by decide) v bs.length vs hs (ho.alloc _) _ 1 1 [u] hx rfl (news_lit w _ _ _) (fun h => by cases h) (by simpa using row_one hu) hb hsz ?_
  intro v' w' ho' hg'
  have hal := (HW.alloc HW.size (.cells #[u] 22))
  have kept : ∀ (u2 : Value) (b2 : List Int), w.ownsRow w0.heap.size 5 1 u2 b2.length (b2.map (Value.int .u8)) → w'.ownsRow w0.heap.size 5 1 u2 b2.length (b2.map (Value.int .u8)) := by
    intro u2 b2 h
    refine (h.alloc _).kept hg' ?_
    by_cases e : u2.ownBlock = none
    · exact .inl e
    · refine .inr (fun e2 => ?_)
      obtain ⟨g, hg2⟩ := Option.ne_none_iff_exists'.mp e
      obtain ⟨c1, f1, k1⟩ := Lib.ownsRow_kind h g hg2
      obtain ⟨c2, f2, k2⟩ := Lib.ownsRow_kind ho g (by rw [← e2]; exact hg2)
      rw [k1] at k2
      injection k2 with k2
      injection k2 with _ k2
      exact absurd k2 (by decide)
  refine hK v' w' ⟨vs ++ [u], ?_, ?_, ?_⟩ ⟨hal.grown hg' hsz (own_base ho)⟩
  · have := ho'.out
    rw [show (bs ++ [b]).length = bs.length + 1 from by simp]
    exact this
  · simp [hl]
  · intro i u2 b2 h3 h4
    by_cases hi : i < vs.length
    · rw [List.getElem?_append_left hi] at h3
      rw [List.getElem?_append_left (by omega)] at h4
      exact kept u2 b2 (hr i u2 b2 h3 h4)
    · have hi2 : i = vs.length := by
        have := (List.getElem?_eq_some_iff.mp h3).1
        simp at this
        omega
      subst hi2
      simp at h3
      rw [hl] at h4
      simp at h4
      subst h3 h4
      exact kept _ _ hu
/-- What bytes carry that are frames, one behind the other. -/
def scanI : Nat → List Int → List (List Int) × Nat × Int
  | 0, _ => ([], 0, 0)
  | f + 1, xs => if (takeI xs).2.2 = 0 then ((takeI xs).1 :: (scanI f (xs.drop (takeI xs).2.1)).1, (takeI xs).2.1 + (scanI f (xs.drop (takeI xs).2.1)).2.1, (scanI f (xs.drop (takeI xs).2.1)).2.2)
    else if (takeI xs).2.2 = 6 ∨ (takeI xs).2.2 = 9 then ([], 0, 0) else ([], 0, (takeI xs).2.2)
theorem takeI_ok (xs : List Int) (h : (takeI xs).2.2 = 0) : 10 ≤ (takeI xs).2.1 ∧ (takeI xs).2.1 ≤ xs.length ∧ (takeI xs).1.length + 10 = (takeI xs).2.1 := by
  unfold takeI at h ⊢
  split at h
  · simp at h
  rename_i h0
  rw [if_neg h0]
  split at h
  · simp at h
  rename_i h0
  rw [if_neg h0]
  split at h
  · simp at h
  rename_i h0
  rw [if_neg h0]
  split at h
  · simp at h
  rename_i h0
  rw [if_neg h0]
  split at h
  · simp at h
  rename_i h1
  rw [if_neg h1]
  split at h
  · simp at h
  rename_i h0
  rw [if_neg h0]
  split at h
  · simp at h
  rename_i h0
  rw [if_neg h0]
  simp only [List.length_take, List.length_drop]
  omega
/-- What Scan leaves. -/
def ScanPost (xs : List Int) (w : World) (e : Ending) (w' : World) : Prop :=
  ∃ v, e = .returned (.tuple #[v, .int .i64 (scanI (xs.length + 1) xs).2.1, .int .i64 (scanI (xs.length + 1) xs).2.2]) ∧ LR w w' v (scanI (xs.length + 1) xs).1 ∧ Below w.heap.size w w'

theorem C_dropk {k : IntKind} {w : World} {ad : Addr} {xs : List Int} (h : (Kd.int k).C w (some ad) xs.length xs) (lo : Nat) (hn : lo ≤ xs.length) : (Kd.int k).C w (some (ad.add lo)) (xs.drop lo).length (xs.drop lo) := by
  have := C_cut h lo (xs.length - lo) (by omega)
  rw [List.take_of_length_le (by simp)] at this
  exact this
theorem scan_step (xs : List Int) (bs : List (List Int)) (k f : Nat) (hf : (xs.drop k).length + 1 ≤ f) (h : scanI (xs.length + 1) xs = (bs ++ (scanI f (xs.drop k)).1, k + (scanI f (xs.drop k)).2.1, (scanI f (xs.drop k)).2.2)) :
    ((takeI (xs.drop k)).2.2 = 0 → ∃ f', (xs.drop (k + (takeI (xs.drop k)).2.1)).length + 1 ≤ f' ∧ scanI (xs.length + 1) xs = ((bs ++ [(takeI (xs.drop k)).1]) ++ (scanI f' (xs.drop (k + (takeI (xs.drop k)).2.1))).1, (k + (takeI (xs.drop k)).2.1) + (scanI f' (xs.drop (k + (takeI (xs.drop k)).2.1))).2.1, (scanI f' (xs.drop (k + (takeI (xs.drop k)).2.1))).2.2)) ∧
    (¬ (takeI (xs.drop k)).2.2 = 0 → scanI (xs.length + 1) xs = (bs, k, if (takeI (xs.drop k)).2.2 = 6 ∨ (takeI (xs.drop k)).2.2 = 9 then 0 else (takeI (xs.drop k)).2.2)) := by
  obtain ⟨f, rfl⟩ : ∃ g, f = g + 1 := ⟨f - 1, by omega⟩
  refine ⟨fun h0 => ⟨f, ?_, ?_⟩, fun h0 => ?_⟩
  · have := takeI_ok _ h0
    rw [List.length_drop] at *
    omega
  · rw [h]
    conv => lhs; simp only [scanI, if_pos h0]
    rw [List.drop_drop]
    simp [Nat.add_assoc]
  · rw [h]
    conv => lhs; simp only [scanI, if_neg h0]
    split
    · simp
    · simp

theorem take_own {xs ys : List Int} {n : Nat} {q : Int} {w w' : World} {e : Ending} (ht : takeI xs = (ys, n, q)) (h : TakePost xs w e w') :
    ∃ A c, e = .returned (.tuple #[.slice A ys.length c, .int .i64 n, .int .i64 q]) ∧ w'.ownsRow w.heap.size 5 1 (.slice A ys.length c) ys.length (ys.map (Value.int .u8)) ∧ Below w.heap.size w w' := by
  unfold TakePost at h
  rw [ht] at h
  obtain ⟨v, rfl, ho, hw⟩ := h
  obtain ⟨B, d, rfl, _, _, hB, _⟩ := int_reads ho
  exact ⟨B, d, rfl, ho, hw⟩
/-- A function that takes, of what is behind a place. -/
theorem at_drop1 {F : FuncId} (T : ∀ (A : Option Addr) (c : Nat) (ys : List Int) (w : World), (Kd.int .u8).C w A ys.length ys → ys.length ≤ c → ys.length * 1 ≤ 140737488351232 → (∀ x ∈ ys, 0 ≤ x ∧ x ≤ 255) → Calls Try.prog F #[.slice A ys.length c] w (TakePost ys w))
    {ad : Addr} {c k : Nat} {xs : List Int} {w : World} (hr : (Kd.int .u8).C w (some ad) xs.length xs) (hc : xs.length ≤ c) (hn : xs.length ≤ 4000000000000) (hx : ∀ x ∈ xs, 0 ≤ x ∧ x ≤ 255) (hk : k ≤ xs.length) :
    Calls Try.prog F #[.slice (some (ad.add k)) (xs.length - k) (c - k)] w (TakePost (xs.drop k) w) := by
  have := T (some (ad.add k)) (c - k) (xs.drop k) w (C_dropk hr k hk) (by rw [List.length_drop]; omega) (by rw [List.length_drop]; omega) (fun x h => hx x (List.mem_of_mem_drop h))
  rw [List.length_drop] at this
  exact this
theorem at_drop2 {F : FuncId} (T : ∀ (A : Option Addr) (c : Nat) (ys : List Int) (w : World), (Kd.int .u8).C w A ys.length ys → ys.length ≤ c → ys.length * 1 ≤ 140737488351232 → (∀ x ∈ ys, 0 ≤ x ∧ x ≤ 255) → Calls Try.prog F #[.slice A ys.length c] w (TakePost ys w))
    {ad : Addr} {k : Nat} {xs : List Int} {w : World} (hk : xs.length ≤ k) :
    Calls Try.prog F #[.slice (some ad) (xs.length - k) 0] w (TakePost (xs.drop k) w) := by
  have e : xs.drop k = [] := List.drop_eq_nil_of_le hk
  rw [e, show xs.length - k = ([] : List Int).length from by simp; omega]
  exact T (some ad) 0 [] w ⟨by simp, by decide, fun h => absurd h (by decide)⟩ (by simp) (by simp) (by simp)
/-- How a walk through frames stands. -/
def SI (xs : List Int) (k f : Nat) (bs : List (List Int)) : Prop :=
  (xs.drop k).length + 1 ≤ f ∧ scanI (xs.length + 1) xs = (bs ++ (scanI f (xs.drop k)).1, k + (scanI f (xs.drop k)).2.1, (scanI f (xs.drop k)).2.2)
theorem SI_on {xs b : List Int} {k f n : Nat} {q : Int} {bs : List (List Int)} (h : SI xs k f bs) (hT : takeI (xs.drop k) = (b, n, q)) (hq : q = 0) (hk : k ≤ xs.length) : 10 ≤ n ∧ k + n ≤ xs.length ∧ ∃ f', SI xs (k + n) f' (bs ++ [b]) := by
  have h1 := (scan_step xs bs k f h.1 h.2).1
  rw [hT] at h1
  obtain ⟨f', h2, h3⟩ := h1 hq
  have h4 := takeI_ok (xs.drop k) (by rw [hT]; exact hq)
  rw [hT, List.length_drop] at h4
  simp only at h4
  exact ⟨h4.1, by omega, f', h2, h3⟩
theorem SI_end {xs b : List Int} {k f n : Nat} {q : Int} {bs : List (List Int)} (h : SI xs k f bs) (hT : takeI (xs.drop k) = (b, n, q)) (hq : ¬ q = 0) : scanI (xs.length + 1) xs = (bs, k, if q = 6 ∨ q = 9 then 0 else q) := by
  have h1 := (scan_step xs bs k f h.1 h.2).2
  rw [hT] at h1
  exact h1 hq
theorem scan_done {xs : List Int} {w w' : World} {v : Value} {k : Nat} {q : Int} {bs : List (List Int)} (h : scanI (xs.length + 1) xs = (bs, k, q)) (hl : LR w w' v bs) (hw : Below w.heap.size w w') : ScanPost xs w (.returned (.tuple #[v, .int .i64 k, .int .i64 q])) w' := by
  unfold ScanPost
  rw [h]
  exact ⟨v, rfl, hl, hw⟩

set_option maxRecDepth 100000 in
set_option maxHeartbeats 1000000 in
theorem scan_calls (ad : Addr) (c : Nat) (xs : List Int) (w : World) (hr : (Kd.int .u8).C w (some ad) xs.length xs) (hc : xs.length ≤ c) (hn : xs.length ≤ 4000000000000) (hx : ∀ x ∈ xs, 0 ≤ x ∧ x ≤ 255) :
    Calls Try.prog 18 #[.slice (some ad) xs.length c] w (ScanPost xs w) := by
  have HR := Aside0.mk hr
  have HX := Aside0.mk hx
  clear hr hx
  go_enter Try.func18, Try.ntmps18
  go_wp2
  go_loopw [5, 6] (fun v i wr => ∃ (k f : Nat) (bs : List (List Int)), k ≤ xs.length ∧ i = .int .i64 k ∧ bs.length ≤ k ∧ Aside0 (LR w wr v bs) ∧ Aside0 (Below w.heap.size w wr) ∧ Aside0 (SI xs k f bs)) (fun _ i _ => xs.length - (intOf i).toNat)
  case atStart => exact ⟨0, xs.length + 1, [], by omega, rfl, by simp, ⟨LR_nil _ _⟩, ⟨Below.refl _ _⟩, ⟨by simp, by simp⟩⟩
  case round =>
    obtain ⟨k, f, bs, hk, rfl, hbk, HL, HB, HS⟩ := hrel
    obtain ⟨b, n, q, hT⟩ : ∃ b n q, takeI (xs.drop k) = (b, n, q) := ⟨_, _, _, rfl⟩
    have HT := Aside0.mk hT
    clear hT
    have HRr := Aside0.mk (Kd.C_below HR.out HB.out)
    go_wp2_with fail
    · refine (at_drop2 take_calls (by omega)).mono ?_
      intro e w2 hp
      have hT6 : takeI (xs.drop k) = ([], 0, 6) := by rw [List.drop_eq_nil_of_le (by omega)]; rfl
      obtain ⟨uA, uc, rfl, hu, hw⟩ := take_own hT6 hp
      have HL2 := Aside0.mk (LR_below HL.out hw)
      have HB2 := Aside0.mk (HB.out.trans (hw.mono HB.out.size))
      have HE := Aside0.mk (SI_end HS.out hT6 (by decide))
      clear hp hu hw HL HB HRr hT6
      go_wp2
      go_ret3
      exact scan_done (by rw [HE.out]; rfl) HL2.out HB2.out
    · refine (at_drop1 take_calls HRr.out (by omega) hn HX.out hk).mono ?_
      intro e w2 hp
      obtain ⟨uA, uc, rfl, hu, hw⟩ := take_own HT.out hp
      have HU := Aside0.mk (own_le hu HB.out.size)
      have HL2 := Aside0.mk (LR_below HL.out hw)
      have HB2 := Aside0.mk (HB.out.trans (hw.mono HB.out.size))
      clear hp hu hw HL HB HRr
      by_cases h0 : q = 0
      · obtain ⟨hn10, hkn, f', HS'⟩ := SI_on HS.out HT.out h0 hk
        have HS2 := Aside0.mk HS'
        clear HS'
        subst h0
        go_wp2_with (at_builtin; go_must (refine app_row w (by rfl) _ _ _ rfl Try.underlying37 slinfo _ bs rfl HL2.out HB2.out (.slice uA b.length uc) b HU.out rfl ?hb ?_); (case hb => omega); clear HL2 HB2; intro v4 w4 HL4 HB4)
        go_roundw
        case rel => exact ⟨k + n, f', bs ++ [b], by omega, by go_num, by simp; omega, HL4, HB4, HS2⟩
        case measure => simp [intOf]; omega
      · have HE := Aside0.mk (SI_end HS.out HT.out h0)
        have e0 : (q == 0) = false := by simpa using h0
        by_cases h6 : q = 6
        · subst h6
          go_wp2
          go_ret3
          exact scan_done (by rw [HE.out]; rfl) HL2.out HB2.out
        have e6 : (q == 6) = false := by simpa using h6
        by_cases h9 : q = 9
        · subst h9
          go_wp2
          go_ret3
          exact scan_done (by rw [HE.out]; rfl) HL2.out HB2.out
        have e9 : (q == 9) = false := by simpa using h9
        have HE2 : Aside0 (scanI (xs.length + 1) xs = (bs, k, q)) := ⟨by rw [HE.out, if_neg (by omega)]⟩
        clear HE h0 h6 h9
        go_wp2
        go_ret3
        exact scan_done HE2.out HL2.out HB2.out
end Go.Proofs.Ytfkghmalccpcbaa.Frame
