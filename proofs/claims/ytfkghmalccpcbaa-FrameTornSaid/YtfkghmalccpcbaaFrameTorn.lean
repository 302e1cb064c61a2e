/- The walk of FrameTorn. -/
import Derived.Test.YtfkghmalccpcbaaFrameJoin
import Derived.Deep.CutBlock
import Derived.Deep.DeepCutAuto
namespace Go.Proofs.Ytfkghmalccpcbaa.Frame
open Go Go.RowKit Go.Proofs.YtfkghmalccpcbaaW.PrintWords Go.Proofs.Ytfkghmalccpcbaa.Base Go.Proofs.Ytfkghmalccpcbaa.CrcMath Go.Proofs.Ytfkghmalccpcbaa.FrameMath
set_option linter.unusedVariables false
set_option linter.unusedSimpArgs false
/-- Where the frames of the first ones end. -/
def endAt (bs : List (List Int)) (k : Nat) : Nat := (frames (bs.take k)).length
def endsI (bs : List (List Int)) (k : Nat) : List Int := (List.range k).map fun j => (endAt bs (j + 1) : Int)
theorem intinfo : (Try.prog.info? 3).map (fun i => (i.zero, i.size, i.bytes)) = some (some (.int .i64 0), 1, 8) := by kernel_rfl
theorem endsI_length (bs : List (List Int)) (k : Nat) : (endsI bs k).length = k := by simp [endsI]
theorem endsI_snoc (bs : List (List Int)) (k : Nat) : endsI bs (k + 1) = endsI bs k ++ [(endAt bs (k + 1) : Int)] := by simp [endsI, List.range_succ]
theorem endsI_at (bs : List (List Int)) (k j : Nat) (h : j < k) : (endsI bs k).getD j 0 = (endAt bs (j + 1) : Int) := by
  simp [endsI, h]
theorem tmod_big (at_ : Int) (B : Nat) (h0 : 0 < B) (hB : B ≤ 1000000000) : ∃ k : Nat, wrap64 ((IntKind.u64.wrap at_).tmod (B : Int)) = (k : Int) ∧ k < B := by
  have h0 : 0 ≤ IntKind.u64.wrap at_ := by rw [IntKind.wrap_u64]; omega
  have h1 := Int.emod_nonneg (IntKind.u64.wrap at_) (show (B : Int) ≠ 0 by omega)
  have h2 := Int.emod_lt_of_pos (IntKind.u64.wrap at_) (show (0 : Int) < (B : Int) by omega)
  refine ⟨(IntKind.u64.wrap at_ % (B : Int)).toNat, ?_, by omega⟩
  rw [Int.tmod_eq_emod_of_nonneg h0]
  unfold wrap64
  omega
/-- What stands of the frames, of which a beginning stays, and noughts behind it. -/
def tornI (bs : List (List Int)) (N n z : Nat) : List Int := (frames (bs.take N)).take n ++ List.replicate z 0
theorem tornI_length (bs : List (List Int)) (N n z : Nat) (h : n ≤ endAt bs N) : (tornI bs N n z).length = n + z := by
  unfold endAt at h
  simp [tornI]
  omega
theorem tornI_more (bs : List (List Int)) (N n z : Nat) : tornI bs N n z ++ [0] = tornI bs N n (z + 1) := by
  unfold tornI
  rw [List.append_assoc, ← List.replicate_succ']
theorem torn_split (bs : List (List Int)) (N K n z : Nat) (hN : N ≤ bs.length) (hK : K ≤ N) (h1 : ∀ j, j < K → endAt bs (j + 1) ≤ n) (h2 : K < N → n < endAt bs (K + 1)) (h3 : n + z ≤ endAt bs N) (hb : ∀ b ∈ bs.take N, b.length ≤ 1048576) :
    ∃ rest, tornI bs N n z = frames (bs.take K) ++ rest ∧ ((takeI rest).2.2 = 6 ∨ (takeI rest).2.2 = 9) := by
  have hlK : endAt bs K ≤ n := by
    rcases Nat.eq_zero_or_pos K with h | h
    · subst h; simp [endAt, frames]
    · have := h1 (K - 1) (by omega)
      rwa [show K - 1 + 1 = K by omega] at this
  rcases Nat.lt_or_ge K N with h | h
  · have e : bs.take N = bs.take K ++ ([bs.getD K []] ++ (bs.take N).drop (K + 1)) := by
      rw [← List.append_assoc, ← rows_take (by omega)]
      have : bs.take (K + 1) = (bs.take N).take (K + 1) := by rw [List.take_take]; congr 1; omega
      rw [this, List.take_append_drop]
    have hf := h2 h
    unfold endAt at hf hlK
    rw [rows_take (by omega), frames_snoc, List.length_append] at hf
    have hbK : (bs.getD K []).length ≤ 1048576 := hb _ (by rw [e]; simp)
    refine ⟨(frame (bs.getD K [])).take (n - (frames (bs.take K)).length) ++ List.replicate z 0, ?_, takeI_torn _ hbK _ _ (by omega)⟩
    unfold tornI
    rw [e, frames_append, frames_append, show frames [bs.getD K []] = frame (bs.getD K []) by simp [frames]]
    rw [List.take_append, List.take_of_length_le hlK, List.take_append, List.append_assoc, List.append_assoc]
    rw [show n - (frames (bs.take K)).length - (frame (bs.getD K [])).length = 0 by omega, List.take_zero, List.nil_append]
  · obtain rfl : K = N := by omega
    unfold endAt at h3 hlK
    refine ⟨[], ?_, .inl rfl⟩
    unfold tornI
    rw [List.take_of_length_le (by omega), show z = 0 by omega]
    rfl
set_option maxRecDepth 100000 in
set_option maxHeartbeats 2000000 in
theorem torn (A : Option Addr) (c : Nat) (bs : List (List Int)) (cut noughts : Int) (w : World) (hx : kRows.C w A bs.length bs) (ok : bs.length * 24 ≤ 140737488351232 ∧ ∀ b ∈ bs, b.length * 1 ≤ 140737488351232 ∧ ∀ x ∈ b, 0 ≤ x ∧ x ≤ 255) :
    Calls Try.prog 7 #[.slice A bs.length c, .int .i64 cut, .int .i64 noughts] w fun e w' => e = .returned (.bool true) ∧ Below w.heap.size w w' := by
  have H := Hold.start (w := w) (R := fun x => Below w.heap.size w x ∧ kRows.C x A bs.length bs) (fun w' h => ⟨h, Kd.C_below hx h⟩)
  have OX := Aside0.mk ok
  obtain ⟨N, hN⟩ : ∃ N, N = min bs.length 20 := ⟨_, rfl⟩
  have hN1 : N ≤ bs.length := by omega
  have hN2 : N ≤ 20 := by omega
  have hN3 : bs.length ≤ N ∨ 20 ≤ N := by omega
  clear hx ok hN
  go_enter Try.func7, Try.ntmps7
  go_wp2_with fail
  refine (awake_calls w).mono ?_
  rintro e w1 ⟨rfl, hw⟩
  have H1 := H.step hw
  have HB1 := Aside0.mk hw
  clear hw
  go_upto_block 0 with fail
  go_cut [7, 8, 9, 10, 11] (fun v u _ _ _ wr => ∃ (VA : Option Addr) (vc : Nat) (UA : Option Addr) (uc : Nat), v = .slice VA (endAt bs N) vc ∧ u = .slice UA N uc ∧ endAt bs N ≤ vc ∧ endAt bs N ≤ 1114122 ∧ Aside0 ((Kd.int .u8).C wr VA (endAt bs N) (frames (bs.take N))) ∧ Aside0 ((Kd.int .i64).C wr UA N (endsI bs N)) ∧ Aside0 (∀ b ∈ bs.take N, b.length ≤ 1048576) ∧ Aside0 (Below w1.heap.size w1 wr))
  case first =>
    go_wp2_with fail
    go_loopw [7, 8, 9] (fun v u i wr => ∃ k : Nat, k ≤ N ∧ i = .int .i64 k ∧ Aside0 (wr.ownsRow w1.heap.size 5 1 v (endAt bs k) ((frames (bs.take k)).map (Value.int .u8))) ∧ Aside0 (wr.ownsRow w1.heap.size 3 1 u k ((endsI bs k).map (Value.int .i64))) ∧ Aside0 (∀ b ∈ bs.take k, b.length ≤ 1048576) ∧ endAt bs k ≤ 1114122 ∧ Aside0 (Below w1.heap.size w1 wr)) (fun _ _ i _ => N - (intOf i).toNat)
    case atStart => exact ⟨0, by omega, rfl, ⟨World.ownsRow_nil _ _ _ _⟩, ⟨World.ownsRow_nil _ _ _ _⟩, ⟨by simp⟩, by simp [endAt, frames], ⟨Below.refl _ _⟩⟩
    case round =>
      obtain ⟨k, hk, rfl, HO, HU, HS, hle, HB⟩ := hrel
      obtain ⟨VA, vc, rfl, ho, hVC, hvc⟩ := int_open HO.out (endAt bs k) rfl
      obtain ⟨UA, uc, rfl, hu, hUC, huc⟩ := int_open HU.out k (endsI_length bs k)
      have HO := Aside0.mk ho
      have HU := Aside0.mk hu
      have HVC := Aside0.mk hVC
      have HUC := Aside0.mk hUC
      clear hVC hUC ho hu
      by_cases hlt : k < N
      · have hk1 : decide ((k : Int) < (bs.length : Int)) = true := by simp; omega
        have hk2 : decide ((k : Int) < 20) = true := by simp; omega
        have H2 := H1.step HB.out
        obtain ⟨ad, B, d, rfl, hcell, hC⟩ := rows_at H2.out.2 k (by omega)
        have hbl2 := (OX.out.2 _ (rows_mem (bs := bs) (i := k) (by omega))).1
        have HT := Aside0.mk (rows_take (bs := bs) (i := k) (by omega))
        have hend : endAt bs (k + 1) = endAt bs k + (frame (bs.getD k [])).length := by unfold endAt; rw [HT.out, frames_snoc, List.length_append]
        have HE := Aside0.mk hend
        have HC := Aside0.mk hC
        clear hC hend
        revert hcell hbl2 HT HC HE
        generalize bs.getD k [] = b
        intro hcell hbl2 HT HE HC
        by_cases hb : 1048576 < b.length
        · go_wp2_with fail
          refine (pack_calls B d b wr HC.out (by omega)).mono ?_
          intro e w' hp
          obtain ⟨rfl, rfl⟩ := pack_full hb hp
          clear hp
          go_wp2
          go_ret
          exact ⟨rfl, H2.out.1⟩
        · have fl := frame_length b
          have hfl1 : (frame b).length ≤ 1048586 := by omega
          go_wp2_with fail
          refine (pack_calls B d b wr HC.out (by omega)).mono ?_
          intro e w2 hp
          obtain ⟨E, q, rfl, hq, hE, ho, hw⟩ := pack_fit hb hp
          have HB2 := Aside0.mk (HB.out.trans (hw.mono HB.out.size))
          have HO2 := Aside0.mk (pw_own_below HO.out hw)
          have HU2 := Aside0.mk (pw_own_below HU.out hw)
          have HE2 := Aside0.mk hE
          have H3 := H2.step hw
          clear hp ho hE hw fl
          by_cases h16 : 65536 < endAt bs k
          · have h16' : decide ((65536 : Int) < (endAt bs k : Int)) = true := by simp; omega
            go_wp2
            go_ret
            exact ⟨rfl, H3.out.1⟩
          · have h16' : decide ((65536 : Int) < (endAt bs k : Int)) = false := by simp; omega
            go_wp2_with (first | (at_builtin; refine app_ints2 w1 (by rfl) _ _ _ rfl 5 1 Try.underlying22 HelpByte.info (by decide) _ _ (frames (bs.take k)) rfl HO2.out HB2.out E (frame b).length q (frame b) rfl rfl HE2.out ?hb ?_; (case hb => omega); intro v4 w4 HO4 HB4 HR4; have HU4 := Aside0.mk (HR4.out _ _ _ _ _ _ (by decide) HU2.out); obtain ⟨V4, c4, rfl, ho4, -, -⟩ := int_open (xs := frames (bs.take (k + 1))) (by rw [HT.out, frames_snoc]; exact HO4.out) (endAt bs (k + 1)) rfl; have HO5 := Aside0.mk ho4; clear HO4 HO2 HU2 HR4 ho4) | (at_builtin; refine app_lit2 w1 (by rfl) _ _ _ rfl 3 8 Try.underlying41 intinfo (by decide) _ _ (endsI bs k) rfl HU4.out HB4.out (endAt bs (k + 1) : Nat) rfl ?hb ?_; (case hb => omega); intro v6 w6 HU6 HB6 HR6))
            go_roundw
            case rel =>
              refine ⟨k + 1, by omega, by go_num, ⟨HR6.out _ _ _ _ _ _ (by decide) HO5.out⟩, ?_, ?_, ?_, HB6⟩
              · rw [endsI_snoc]
                exact HU6
              · refine ⟨fun c hc => ?_⟩
                rw [HT.out] at hc
                rcases List.mem_append.1 hc with hc | hc
                · exact HS.out c hc
                · rw [List.mem_singleton.1 hc]
                  omega
              · have := HE.out
                omega
            case measure => simp [intOf]; omega
      · obtain rfl : k = N := by omega
        rcases Nat.lt_or_ge k bs.length with h | h
        all_goals
          go_wp2
          go_meet
          case rel => exact ⟨VA, vc, UA, uc, rfl, rfl, hvc, hle, HVC, HUC, HS, HB⟩
  case rest =>
    obtain ⟨VA, vc, UA, uc, rfl, rfl, hvc, hle, HVC, HUC, HS, HB⟩ := hcut
    revert HVC HUC HB
    generalize wc = wr
    intro HVC HUC HB
    have H2 := H1.step HB.out
    have HPB := Aside0.mk (frames_bytes (bs.take N) (fun b hb => (OX.out.2 b (List.mem_of_mem_take hb)).2))
    obtain ⟨n, hn1, hn2⟩ := tmod_big cut (endAt bs N + 1) (by omega) (by omega)
    obtain ⟨z0, hz1, hz2⟩ := tmod_big noughts 64 (by omega) (by omega)
    have hn1' : wrap64 ((IntKind.u64.wrap cut).tmod ((endAt bs N : Int) + 1)) = (n : Int) := by rw [← hn1]; congr 2
    have HN1 := Aside0.mk hn1'
    have HZ1 := Aside0.mk hz1
    clear hn1 hz1 hn1'
    go_upto_block 2 with fail
    rw [HN1.out]
    go_cut [13] (fun v wx => ∃ K : Nat, v = .int .i64 K ∧ K ≤ N ∧ Aside0 (∀ j, j < K → endAt bs (j + 1) ≤ n) ∧ Aside0 (K < N → n < endAt bs (K + 1)) ∧ wx = wr)
    case first =>
      go_wp2_with fail
      go_loop [13] (fun i => ∃ K : Nat, K ≤ N ∧ i = .int .i64 K ∧ Aside0 (∀ j, j < K → endAt bs (j + 1) ≤ n)) (fun i => N - (intOf i).toNat)
      case atStart => exact ⟨0, by omega, rfl, ⟨fun j hj => absurd hj (by omega)⟩⟩
      case round =>
        obtain ⟨K, hK, rfl, HJ⟩ := hrel
        by_cases hlt : K < N
        · obtain ⟨ad, x, rfl, hcell, hx⟩ := at_nat HUC.out K (by omega)
          have hx2 := hx.out
          rw [endsI_at bs N K hlt] at hx2
          subst hx2
          by_cases hle2 : endAt bs (K + 1) ≤ n
          · go_wp2
            go_round
            case rel => exact ⟨K + 1, by omega, by go_num, ⟨fun j hj => by
              rcases Nat.lt_or_ge j K with h | h
              · exact HJ.out j h
              · obtain rfl : j = K := by omega
                exact hle2⟩⟩
            case measure => simp [intOf]; omega
          · go_wp2
            go_meet
            case rel => exact ⟨K, rfl, by omega, HJ, ⟨fun _ => by omega⟩, rfl⟩
        · go_wp2
          go_meet
          case rel => exact ⟨K, rfl, by omega, HJ, ⟨fun h => absurd h hlt⟩, rfl⟩
    case rest =>
      obtain ⟨K, rfl, hK, HJ, HJ2, rfl⟩ := hcut
      obtain ⟨w4, rfl⟩ : ∃ w4 : World, w4 = wc := ⟨_, rfl⟩
      go_upto_region 17 with fail
      go_cut [7, 12, 14] (fun b7 b12 t wx => b7 = .slice VA (endAt bs N) vc ∧ b12 = .int .i64 n ∧ Aside0 (wx.ownsRow w4.heap.size 5 1 t n ((tornI bs N n 0).map (Value.int .u8))) ∧ Aside0 (Below w4.heap.size w4 wx))
      case first =>
        cases VA with
        | none =>
          have h0 : endAt bs N = 0 := none_int HVC.out rfl
          obtain rfl : n = 0 := by omega
          have HT0 : tornI bs N 0 0 = [] := by simp [tornI]
          go_wp2_with (at_builtin; refine app_ints w4 (by rfl) _ _ _ rfl 5 1 Try.underlying22 HelpByte.info (by decide) _ _ [] rfl (World.ownsRow_nil _ _ _ _) (Below.refl _ _) none 0 _ [] rfl rfl (C_nil _) ?hb ?_; (case hb => omega); intro v9 w9 HO9 HB9)
          go_meet
          case rel => exact ⟨by rw [h0], rfl, by rw [HT0]; exact HO9, HB9⟩
        | some va =>
          go_wp2_with (at_builtin; refine app_ints w4 (by rfl) _ _ _ rfl 5 1 Try.underlying22 HelpByte.info (by decide) _ _ [] rfl (World.ownsRow_nil _ _ _ _) (Below.refl _ _) (some va) n vc ((frames (bs.take N)).take n) rfl ?hm ?hC ?hb ?_; (case hm => rw [List.length_take]; exact Nat.min_eq_left (by show n ≤ endAt bs N; omega)); (case hC => exact C_take HVC.out n (by show n ≤ endAt bs N; omega)); (case hb => omega); intro v9 w9 HO9 HB9)
          go_meet
          case rel =>
            rw [show [] ++ (frames (bs.take N)).take n = tornI bs N n 0 by simp [tornI], Nat.zero_add] at HO9
            exact ⟨rfl, rfl, HO9, HB9⟩
      case rest =>
        obtain ⟨rfl, rfl, HO9, HB9⟩ := hcut
        obtain ⟨w5, rfl⟩ : ∃ w5 : World, w5 = wc := ⟨_, rfl⟩
        have hZ1' : wrap64 ((IntKind.u64.wrap noughts).tmod 64) = (z0 : Int) := HZ1.out
        have HZ := Aside0.mk hZ1'
        clear hZ1' HZ1
        go_upto_block 4 with fail
        rw [HZ.out]
        go_cut [14, 15] (fun t _ wx => ∃ z : Nat, n + z ≤ endAt bs N ∧ Aside0 (wx.ownsRow w4.heap.size 5 1 t (n + z) ((tornI bs N n z).map (Value.int .u8))) ∧ Aside0 (Below w4.heap.size w4 wx))
        case first =>
          go_wp2_with fail
          go_loopw [14, 15] (fun t i wx => ∃ z cN : Nat, n + z ≤ endAt bs N ∧ i = .int .i64 cN ∧ cN ≤ 64 ∧ Aside0 (wx.ownsRow w4.heap.size 5 1 t (n + z) ((tornI bs N n z).map (Value.int .u8))) ∧ Aside0 (Below w4.heap.size w4 wx)) (fun _ i _ => (intOf i).toNat)
          case atStart => exact ⟨0, z0, by omega, rfl, by omega, HO9, HB9⟩
          case round =>
            obtain ⟨z, cN, hz, rfl, hcN, HO, HW⟩ := hrel
            obtain ⟨TA, tc, rfl, ho, hTC, htc⟩ := int_open HO.out (n + z) (tornI_length bs N n z (by omega))
            have HO := Aside0.mk ho
            clear ho hTC
            by_cases h1 : 0 < cN
            · by_cases h2 : n + z < endAt bs N
              · go_wp2_with (at_builtin; refine app_lit w4 (by rfl) _ _ _ rfl 5 1 Try.underlying22 HelpByte.info (by decide) _ _ (tornI bs N n z) rfl HO.out HW.out 0 rfl ?hb ?_; (case hb => omega); intro v4 w4 HO4 HB4)
                go_roundw
                case rel => exact ⟨z + 1, cN - 1, by omega, by go_num, by omega, by rw [← tornI_more]; exact HO4, HB4⟩
                case measure => simp [intOf]; omega
              · go_wp2
                go_meet
                case rel => exact ⟨z, hz, HO, HW⟩
            · go_wp2
              go_meet
              case rel => exact ⟨z, hz, HO, HW⟩
        case rest =>
          obtain ⟨z, hz, HO, HW⟩ := hcut
          obtain ⟨TA, tc, rfl, ho, hTC, htc⟩ := int_open HO.out (n + z) (tornI_length bs N n z (by omega))
          have H9 := (H2.step HW.out).alsoC hTC
          have HUC9 := Aside0.mk (Kd.C_below HUC.out HW.out)
          obtain ⟨rest, hrest, hend⟩ := torn_split bs N K n z hN1 hK HJ.out HJ2.out hz HS.out
          have hsc := scan_all (bs.take K) rest (fun b hb => HS.out b (by rw [show bs.take K = (bs.take N).take K by rw [List.take_take]; congr 1; omega] at hb; exact List.mem_of_mem_take hb)) hend
          rw [← hrest] at hsc
          have HSC := Aside0.mk hsc
          have HTB : Aside0 (∀ x ∈ tornI bs N n z, 0 ≤ x ∧ x ≤ 255) := by
            refine ⟨fun x hx => ?_⟩
            unfold tornI at hx
            rcases List.mem_append.1 hx with hx | hx
            · exact HPB.out x (List.mem_of_mem_take hx)
            · rw [List.eq_of_mem_replicate hx]
              decide
          have HTL := Aside0.mk (tornI_length bs N n z (by omega))
          clear ho hTC hrest hend hsc HO HUC
          go_wp2_with fail
          refine (scan_any TA tc (n + z) (tornI bs N n z) _ H9.out.2 HTL.out.symm (by rw [HTL.out]; exact htc) (by rw [HTL.out]; omega) HTB.out).mono ?_
          intro e w6 hp
          unfold ScanPost at hp
          rw [HSC.out] at hp
          obtain ⟨v, rfl, hl, hw⟩ := hp
          obtain ⟨E, q, rfl, hE⟩ := LR_rows hl (by rw [List.length_take]; omega)
          rw [show (bs.take K).length = K by rw [List.length_take]; omega] at hE ⊢
          rw [show (frames (bs.take K)).length = endAt bs K from rfl]
          have H6 := (H9.step hw).alsoC hE
          have HUC6 := Aside0.mk (Kd.C_below HUC9.out hw)
          clear hl hw hE HUC9 H9
          have EX : Aside0 (∀ i, i < K → (bs.take K).getD i [] = bs.getD i []) := ⟨fun i hi => by
            rw [List.getD_eq_getElem?_getD, List.getD_eq_getElem?_getD, List.getElem?_take, if_pos hi]⟩
          have hKb : K ≤ bs.length := by omega
          clear HSC HTB HTL hz hn2 htc
          have hcase : (K = 0 ∧ endAt bs K = 0) ∨ ∃ j, K = j + 1 := by
            rcases Nat.eq_zero_or_pos K with h | h
            · exact .inl ⟨h, by rw [h]; simp [endAt, frames]⟩
            · exact .inr ⟨K - 1, by omega⟩
          rcases hcase with ⟨rfl, he0⟩ | ⟨j, rfl⟩
          · have he0' : (endAt bs 0 : Int) = 0 := by omega
            rw [he0']
            clear he0 he0'
            go_wp2
            go_loopw [19] (fun i wr => i = .int .i64 0 ∧ wr = w6) (fun i _ => 0)
            case atStart => exact ⟨rfl, rfl⟩
            case round =>
              obtain ⟨rfl, rfl⟩ := hrel
              go_wp2
              go_ret
              exact ⟨rfl, H6.out.1.1.1⟩
          · obtain ⟨ud, x, rfl, hcell, hx⟩ := at_nat HUC6.out j (by omega)
            have hx2 := hx.out
            rw [endsI_at bs N j (by omega)] at hx2
            subst hx2
            clear hx
            obtain ⟨KK, hKK⟩ : ∃ KK, KK = j + 1 := ⟨_, rfl⟩
            go_wp2
            rw [← hKK] at EX hKb H6 ⊢
            go_loopw [19] (fun i wr => ∃ (k r : Nat), k ≤ KK ∧ i = .int .i64 k ∧ wr = w6.drewN r) (fun i _ => KK - (intOf i).toNat)
            case atStart => exact ⟨0, 0, by omega, rfl, rfl⟩
            case round =>
              obtain ⟨k, r, hk, rfl, rfl⟩ := hrel
              by_cases hlt : k < KK
              · obtain ⟨ad, XA1, xc1, rfl, h1, hC1⟩ := rows_at H6.out.2 k (by omega)
                obtain ⟨bd, YA1, yc1, rfl, h2, hC2⟩ := rows_at H6.out.1.1.2 k (by omega)
                have HC1 := Aside0.mk hC1
                have HC2 := Aside0.mk hC2
                rw [EX.out k hlt] at h1 HC1
                have HE := Aside0.mk ((OX.out.2 _ (rows_mem (i := k) (by omega))).2)
                clear hC1 hC2
                revert h1 h2 HC1 HC2 HE
                generalize bs.getD k [] = b
                intro h1 h2 HC1 HC2 HE
                go_wp2
                go_quiet ((go_at_call 13; go_must (exact (bytes_calls XA1 YA1 xc1 yc1 b b _ (C_drawn HC1.out _) (C_drawn HC2.out _) HE.out HE.out (b := true) (by simp)).mono (fun _ _ ⟨he, hm⟩ => ⟨he, _, hm.symm⟩))))
                go_wp2
                go_roundw
                case rel => exact ⟨k + 1, _, by omega, by go_num, rfl⟩
                case measure => simp [intOf]; omega
              · obtain rfl : k = KK := by omega
                go_wp2
                go_ret
                exact ⟨rfl, pw_below_drewN H6.out.1.1.1 _⟩
end Go.Proofs.Ytfkghmalccpcbaa.Frame
