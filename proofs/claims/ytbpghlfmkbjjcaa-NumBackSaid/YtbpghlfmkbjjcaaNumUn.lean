/- Numbers out of a word: the contracts and the walks of NumUnpacks and NumBack. -/
import Derived.Test.YtbpghlfmkbjjcaaNumLaw
namespace Go.Proofs.Ytbpghlfmkbjjcaa.Num
open Go Go.RowKit Go.Proofs.YtbpghlfmkbjjcaaW.PrintWords Go.Proofs.Ytbpghlfmkbjjcaa.Base Go.Proofs.Ytbpghlfmkbjjcaa.NumMath
set_option linter.unusedVariables false
set_option linter.unusedSimpArgs false
/-- Which numbers a word is, and why it is none. -/
def unpackR (W : Nat) (bits : List Int) : List Int × Int :=
  if right bits = true then (if (unpackI W bits).2 = 0 then ((unpackI W bits).1, 0) else ([], 10)) else ([], 1)
def UnpackPost (W : Nat) (bits : List Int) (w : World) (e : Ending) (w' : World) : Prop :=
  ∃ v, e = .returned (.tuple #[v, .int .i64 (unpackR W bits).2]) ∧ w'.ownsRow w.heap.size 25 1 v (unpackR W bits).1.length ((unpackR W bits).1.map (Value.int .u64)) ∧ Below w.heap.size w w'
theorem unpack_none {W : Nat} {bits : List Int} {w w' : World} {q : Int} (h : unpackR W bits = ([], q)) (hw : Below w.heap.size w w') : UnpackPost W bits w (.returned (.tuple #[.slice none 0 0, .int .i64 q])) w' := by
  unfold UnpackPost
  rw [h]
  exact ⟨_, rfl, World.ownsRow_nil _ _ _ _, hw⟩
theorem unpack_out {W : Nat} {bits xs : List Int} {q : Int} {w w' : World} {e : Ending} (ht : unpackR W bits = (xs, q)) (h : UnpackPost W bits w e w') :
    ∃ A c, e = .returned (.tuple #[.slice A xs.length c, .int .i64 q]) ∧ (Kd.int .u64).C w' A xs.length xs ∧ Below w.heap.size w w' := by
  unfold UnpackPost at h
  rw [ht] at h
  obtain ⟨v, rfl, ho, hw⟩ := h
  obtain ⟨B, d, rfl, _, _, hB, _⟩ := int_reads ho
  exact ⟨B, d, rfl, hB, hw⟩
/-- A round of the program's loop: what is taken out of a word. -/
theorem take_low (r m : Nat) (hr : r < 18446744073709551616) (hm : m ≤ 64) : IntKind.u64.wrap ((r : Int) - IntKind.u64.wrap ((r : Int) / 2 ^ m * 2 ^ m)) = ((r % 2 ^ m : Nat) : Int) := by
  rw [show (r : Int) / 2 ^ m = ((r / 2 ^ m : Nat) : Int) by push_cast; rfl]
  have h1 : r / 2 ^ m * 2 ^ m ≤ r := Nat.div_mul_le_self r (2 ^ m)
  have h2 := Nat.mod_add_div r (2 ^ m)
  rw [Nat.mul_comm] at h2
  have e : ((r / 2 ^ m : Nat) : Int) * 2 ^ m = ((r / 2 ^ m * 2 ^ m : Nat) : Int) := by push_cast; rfl
  rw [e]
  generalize r / 2 ^ m * 2 ^ m = u at *
  generalize r % 2 ^ m = x at *
  rw [IntKind.wrap_u64, IntKind.wrap_u64]
  omega
set_option maxRecDepth 100000 in
set_option maxHeartbeats 1000000 in
theorem unpack_calls (W : Nat) (B : Option Addr) (d : Nat) (bits : List Int) (w : World) (hr : (Kd.int .i64).C w B bits.length bits) (hb : ∀ x ∈ bits, -9223372036854775808 ≤ x ∧ x ≤ 9223372036854775807) (hW : W < 18446744073709551616) :
    Calls Try.prog 23 #[.int .u64 W, .slice B bits.length d] w (UnpackPost W bits w) := by
  have HR := Aside0.mk hr
  have HB := Aside0.mk hb
  have HW := Aside0.mk hW
  clear hr hb hW
  cases hrt : right bits with
  | false =>
    have HRT := Aside0.mk hrt
    have E := Aside0.mk (show unpackR W bits = ([], 1) by unfold unpackR; rw [hrt, if_neg (by simp)])
    clear hrt
    go_enter Try.func23, Try.ntmps23
    go_wp2_with fail
    refine (right_calls B d bits w HR.out HB.out HRT.out).mono ?_
    rintro e w' ⟨rfl, rfl⟩
    go_wp2
    go_ret2
    exact unpack_none E.out (Below.refl _ _)
  | true =>
    have HRT := Aside0.mk hrt
    have E := Aside0.mk (show unpackR W bits = if (unpackI W bits).2 = 0 then ((unpackI W bits).1, 0) else ([], 10) by unfold unpackR; rw [hrt, if_pos rfl])
    have hr64 := Aside0.mk (right_split hrt)
    have hlen : bits.length ≤ 64 := hr64.out.1
    clear hrt
    go_enter Try.func23, Try.ntmps23
    go_wp2_with fail
    refine (right_calls B d bits w HR.out HB.out HRT.out).mono ?_
    rintro e w' ⟨rfl, rfl⟩
    go_wp2
    go_loopw [0, 6, 15] (fun s0 v i wr => ∃ (k a r : Nat) (out : List Int), k ≤ bits.length ∧ a ≤ 64 ∧ i = .int .i64 k ∧ s0 = .int .u64 r ∧ Aside0 (UI bits W k a r out) ∧ Aside0 (r < 18446744073709551616) ∧ Aside0 (wr.ownsRow w.heap.size 25 1 v k (out.map (Value.int .u64))) ∧ Hold w (fun x => (Kd.int .i64).C x B bits.length bits) wr) (fun _ _ i _ => bits.length - (intOf i).toNat)
    case atStart => exact ⟨0, 0, W, [], by omega, by omega, rfl, rfl, ⟨UI_zero bits W⟩, HW, ⟨World.ownsRow_nil _ _ _ _⟩, Hold.start (fun w' h => Kd.C_below HR.out h)⟩
    case round =>
      obtain ⟨k, a, r, out, hk, ha, rfl, rfl, HI, Hr, HO, H⟩ := hrel
      by_cases hlt : k < bits.length
      · obtain ⟨bd, n, rfl, hcell, hn⟩ := at_nat H.out k hlt
        have hnb := RI_at hr64.out.2 HI.out.1 hlt hn.out
        obtain ⟨m, rfl⟩ : ∃ m : Nat, n = m := ⟨n.toNat, by omega⟩
        have hm1 : 1 ≤ m := by omega
        have hm2 : a + m ≤ 64 := by omega
        have hm3 : m ≤ 64 := by omega
        clear hnb
        have hi2 := UI_step HI.out hr64.out.2 hlt hn.out
        rw [Int.toNat_natCast] at hi2
        have HI2 := Aside0.mk hi2
        clear hi2
        have HT := Aside0.mk (take_low r m Hr.out hm3)
        have HD : Aside0 (r / 2 ^ m < 18446744073709551616) := ⟨Nat.lt_of_le_of_lt (Nat.div_le_self _ _) Hr.out⟩
        by_cases h64 : m < 64
        · have hd : (r : Int) / 2 ^ m = ((r / 2 ^ m : Nat) : Int) := by push_cast; rfl
          have HDD := Aside0.mk hd
          clear hd
          go_wp2_with (at_builtin; refine app_lit w (by rfl) _ _ _ rfl 25 8 Try.underlying22 HelpU64.info (by decide) _ _ out rfl HO.out H.base _ rfl ?hb ?_; (case hb => omega); intro v4 w4 HO4 HB4)
          go_roundw
          case rel => exact ⟨k + 1, a + m, r / 2 ^ m, out ++ [((r % 2 ^ m : Nat) : Int)], by omega, by omega, rfl, by rw [HDD.out], HI2, HD, by rw [← HT.out]; exact HO4, ⟨HB4.out, H.keep⟩⟩
          case measure => simp [intOf]; omega
        · obtain rfl : m = 64 := by omega
          have hz : r / 2 ^ 64 = 0 := Nat.div_eq_of_lt (by have := Hr.out; omega)
          have ht0 : IntKind.u64.wrap ((r : Int) - IntKind.u64.wrap (0 * 2 ^ 64)) = ((r % 2 ^ 64 : Nat) : Int) := by
            rw [← HT.out]
            rw [show (r : Int) / 2 ^ 64 = ((r / 2 ^ 64 : Nat) : Int) by rw [Int.natCast_ediv, Int.natCast_pow]; rfl, hz]
            rfl
          have HT0 := Aside0.mk ht0
          have HZ := Aside0.mk hz
          clear ht0 hz
          go_wp2_with (at_builtin; refine app_lit w (by rfl) _ _ _ rfl 25 8 Try.underlying22 HelpU64.info (by decide) _ _ out rfl HO.out H.base _ rfl ?hb ?_; (case hb => omega); intro v4 w4 HO4 HB4)
          go_roundw
          case rel =>
            refine ⟨k + 1, a + 64, r / 2 ^ 64, out ++ [((r % 2 ^ 64 : Nat) : Int)], by omega, by omega, rfl, by rw [HZ.out]; rfl, HI2, HD, ?_, ⟨HB4.out, H.keep⟩⟩
            have HT1 : IntKind.u64.wrap (r : Int) = ((r % 2 ^ 64 : Nat) : Int) := by rw [IntKind.wrap_u64, Int.natCast_emod, Int.natCast_pow]; rfl
            rw [← HT1]
            exact HO4
          case measure => simp [intOf]; omega
      · have hU := UI_end HI.out (by omega)
        have HU := Aside0.mk hU
        clear hU
        by_cases h0 : r = 0
        · have E2 := Aside0.mk (show unpackR W bits = (out, 0) by rw [E.out, HU.out]; simp [h0])
          have hk2 : k = out.length := by have := HI.out.2.2.1; omega
          have HK := Aside0.mk hk2
          subst h0
          clear hk2
          go_wp2
          go_ret2
          unfold UnpackPost
          rw [E2.out]
          exact ⟨_, rfl, by rw [← HK.out]; exact HO.out, H.base⟩
        · have E2 := Aside0.mk (show unpackR W bits = ([], 10) by rw [E.out, HU.out]; simp [h0])
          have hr0 : ((r : Int) != 0) = true := by rw [bne_iff_ne]; omega
          clear h0
          go_wp2
          go_ret2
          exact unpack_none E2.out H.base
theorem bit_more (W a kk : Nat) (hW : W < 18446744073709551616) (hk : a + kk < 64) :
    Go.bits .or .u64 ((W / 2 ^ a % 2 ^ kk : Nat) : Int) (IntKind.u64.wrap (Go.bits .and .u64 ((W : Int) / 2 ^ (a + kk)) 1 * 2 ^ kk)) = ((W / 2 ^ a % 2 ^ (kk + 1) : Nat) : Int) := by
  rw [and_one W (by omega), or_u64 (W / 2 ^ a % 2 ^ kk) (W / 2 ^ (a + kk) % 2) kk (Nat.mod_lt _ (Nat.two_pow_pos kk)) ?_ (by omega)]
  · rw [Nat.mod_pow_succ, Nat.div_div_eq_div_mul, ← Nat.pow_add, Nat.mul_comm (2 ^ kk)]
  · exact fits_u64 (n := 1) (Nat.mod_lt _ (by decide)) kk (by omega)
theorem rest_zero {W a j : Nat} (h : W / 2 ^ a % 2 ^ j = 0) (hb : W / 2 ^ (a + j) % 2 = 0) : W / 2 ^ a % 2 ^ (j + 1) = 0 := by
  rw [Nat.mod_pow_succ, Nat.div_div_eq_div_mul, ← Nat.pow_add, hb, h]; omega
theorem rest_some {W a j : Nat} (hb : W / 2 ^ (a + j) % 2 = 1) : ¬ W / 2 ^ a = 0 := by
  intro h
  rw [Nat.pow_add, ← Nat.div_div_eq_div_mul, h, Nat.zero_div] at hb
  omega
theorem rest_all {W a : Nat} (hW : W < 18446744073709551616) (ha : a ≤ 64) (h : W / 2 ^ a % 2 ^ (64 - a) = 0) : W / 2 ^ a = 0 := by
  have : W / 2 ^ a < 2 ^ (64 - a) := by
    rw [Nat.div_lt_iff_lt_mul (Nat.two_pow_pos a), ← Nat.pow_add, show 64 - a + a = 64 by omega]
    exact hW
  rwa [Nat.mod_eq_of_lt this] at h
set_option maxRecDepth 100000 in
set_option maxHeartbeats 2000000 in
theorem refunpack_calls (W : Nat) (B : Option Addr) (d : Nat) (bits : List Int) (w : World) (hr : (Kd.int .i64).C w B bits.length bits) (hb : ∀ x ∈ bits, -9223372036854775808 ≤ x ∧ x ≤ 9223372036854775807) (hW : W < 18446744073709551616) :
    Calls Try.prog 24 #[.int .u64 W, .slice B bits.length d] w (UnpackPost W bits w) := by
  have HR := Aside0.mk hr
  have HB := Aside0.mk hb
  have HW := Aside0.mk hW
  clear hr hb hW
  cases hrt : right bits with
  | false =>
    have HRT := Aside0.mk hrt
    have E := Aside0.mk (show unpackR W bits = ([], 1) by unfold unpackR; rw [hrt, if_neg (by simp)])
    clear hrt
    go_enter Try.func24, Try.ntmps24
    go_wp2_with fail
    refine (refright_calls B d bits w HR.out HB.out HRT.out).mono ?_
    rintro e w' ⟨rfl, rfl⟩
    go_wp2
    go_ret2
    exact unpack_none E.out (Below.refl _ _)
  | true =>
    have HRT := Aside0.mk hrt
    have E := Aside0.mk (show unpackR W bits = if (unpackI W bits).2 = 0 then ((unpackI W bits).1, 0) else ([], 10) by unfold unpackR; rw [hrt, if_pos rfl])
    have hr64 := Aside0.mk (right_split hrt)
    have hlen : bits.length ≤ 64 := hr64.out.1
    clear hrt
    go_enter Try.func24, Try.ntmps24
    go_wp2_with fail
    refine (refright_calls B d bits w HR.out HB.out HRT.out).mono ?_
    rintro e w' ⟨rfl, rfl⟩
    go_wp2
    go_loopw [6, 7, 8] (fun v s7 i wr => ∃ (k a : Nat) (out : List Int), k ≤ bits.length ∧ a ≤ 64 ∧ i = .int .i64 k ∧ s7 = .int .i64 a ∧ Aside0 (UI bits W k a (W / 2 ^ a) out) ∧ Aside0 (wr.ownsRow w.heap.size 25 1 v k (out.map (Value.int .u64))) ∧ Hold w (fun x => (Kd.int .i64).C x B bits.length bits) wr) (fun _ _ i _ => bits.length - (intOf i).toNat)
    case atStart => exact ⟨0, 0, [], by omega, by omega, rfl, rfl, ⟨by simpa using UI_zero bits W⟩, ⟨World.ownsRow_nil _ _ _ _⟩, Hold.start (fun w' h => Kd.C_below HR.out h)⟩
    case round =>
      obtain ⟨k, a, out, hk, ha, rfl, rfl, HI, HO, H⟩ := hrel
      by_cases hlt : k < bits.length
      · obtain ⟨bd, n, rfl, hcell, hn⟩ := at_nat H.out k hlt
        have hnb := RI_at hr64.out.2 HI.out.1 hlt hn.out
        obtain ⟨m, rfl⟩ : ∃ m : Nat, n = m := ⟨n.toNat, by omega⟩
        have hm1 : 1 ≤ m := by omega
        have hm2 : a + m ≤ 64 := by omega
        have hm3 : m ≤ 64 := by omega
        clear hnb
        have hi2 := UI_step HI.out hr64.out.2 hlt hn.out
        rw [Int.toNat_natCast, Nat.div_div_eq_div_mul, ← Nat.pow_add] at hi2
        have HI2 := Aside0.mk hi2
        clear hi2
        go_wp2
        go_loop [9, 10] (fun v i => ∃ kk Y : Nat, kk ≤ m ∧ i = .int .i64 kk ∧ v = .int .u64 Y ∧ Aside0 (Y = W / 2 ^ a % 2 ^ kk)) (fun _ i => m - (intOf i).toNat)
        case atStart => exact ⟨0, 0, by omega, rfl, rfl, ⟨by rw [Nat.pow_zero, Nat.mod_one]⟩⟩
        case round =>
          obtain ⟨kk, Y, hkk, rfl, rfl, HY⟩ := hrel
          by_cases hlt2 : kk < m
          · have HM := Aside0.mk (bit_more W a kk HW.out (by omega))
            go_wp2
            go_round
            case rel => exact ⟨kk + 1, W / 2 ^ a % 2 ^ (kk + 1), by omega, rfl, by rw [HY.out, HM.out], ⟨rfl⟩⟩
            case measure => simp [intOf]; omega
          · obtain rfl : kk = m := by omega
            go_wp2_with (at_builtin; refine app_lit w (by rfl) _ _ _ rfl 25 8 Try.underlying22 HelpU64.info (by decide) _ _ out rfl HO.out H.base _ rfl ?hb ?_; (case hb => omega); intro v4 w4 HO4 HB4; obtain ⟨ad4, n4, e4, hcell4, hn4⟩ := at_nat (H.keep w4 HB4.out) k hlt; cases e4; obtain rfl : n4 = (kk : Int) := hn4.out.symm.trans hn.out)
            go_roundw
            case rel => exact ⟨k + 1, a + kk, out ++ [((W / 2 ^ a % 2 ^ kk : Nat) : Int)], by omega, by omega, rfl, by go_num, HI2, by rw [← HY.out]; exact HO4, ⟨HB4.out, H.keep⟩⟩
            case measure => simp [intOf]; omega
      · have hU := UI_end HI.out (by omega)
        have HU := Aside0.mk hU
        have hk2 : k = out.length := by have := HI.out.2.2.1; omega
        have HK := Aside0.mk hk2
        clear hU hk2
        go_wp2
        go_loop [11] (fun i => ∃ j : Nat, a + j ≤ 64 ∧ i = .int .i64 (a + j : Nat) ∧ Aside0 (W / 2 ^ a % 2 ^ j = 0)) (fun i => 64 - (intOf i).toNat)
        case atStart => exact ⟨0, by omega, rfl, ⟨by rw [Nat.pow_zero, Nat.mod_one]⟩⟩
        case round =>
          obtain ⟨j, hj, rfl, HJ⟩ := hrel
          by_cases hlt2 : a + j < 64
          · have han := and_one W (by have := HW.out; omega) (a + j)
            rcases Nat.mod_two_eq_zero_or_one (W / 2 ^ (a + j)) with hb | hb
            · rw [hb] at han
              have ht : (Go.bits .and .u64 ((W : Int) / 2 ^ (a + j)) 1 == 1) = false := by rw [han]; rfl
              have E3 := Aside0.mk (rest_zero HJ.out hb)
              clear han hb
              go_wp2
              go_round
              case rel => exact ⟨j + 1, by omega, rfl, E3⟩
              case measure => simp [intOf]; omega
            · rw [hb] at han
              have ht : (Go.bits .and .u64 ((W : Int) / 2 ^ (a + j)) 1 == 1) = true := by rw [han]; rfl
              have E2 := Aside0.mk (show unpackR W bits = ([], 10) by rw [E.out, HU.out]; simp [rest_some hb])
              clear han hb
              go_wp2
              go_ret2
              exact unpack_none E2.out H.base
          · obtain rfl : j = 64 - a := by omega
            have E2 := Aside0.mk (show unpackR W bits = (out, 0) by rw [E.out, HU.out]; simp [rest_all HW.out ha HJ.out])
            go_wp2
            go_ret2
            unfold UnpackPost
            rw [E2.out]
            exact ⟨_, rfl, by rw [← HK.out]; exact HO.out, H.base⟩
end Go.Proofs.Ytbpghlfmkbjjcaa.Num
