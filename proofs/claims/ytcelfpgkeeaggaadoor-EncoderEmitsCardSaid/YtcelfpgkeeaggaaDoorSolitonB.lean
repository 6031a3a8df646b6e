/- The contracts of the reference of package soliton, and of the laws' helpers. -/
import Derived.Test.YtcelfpgkeeaggaaDoorSoliton
namespace Go.Proofs.YtcelfpgkeeaggaaDoor.SolitonB
open Go Go.RowKit Go.Proofs.YtcelfpgkeeaggaaDoorW.PrintWords Go.Proofs.YtcelfpgkeeaggaaDoor.Base Go.Proofs.YtcelfpgkeeaggaaDoor.Soliton
set_option linter.unusedVariables false
set_option linter.unusedSimpArgs false

set_option maxHeartbeats 400000 in
theorem refPick_any (A : Option Addr) (c : Nat) (l : List Int) (d : Int) (w : World) (hC : (Kd.int .i64).C w A l.length l) (hf : fewI l) (hd0 : 0 ≤ d) (hd1 : d ≤ 18446744073709551615) :
    Calls Tryd.prog 37 #[.slice A l.length c, .int .u64 d] w fun e w' => e = .returned (.int .i64 (pickI l d)) ∧ w = w' := by
  have hm := C_max hC
  have HC := Aside0.mk hC
  have HF := Aside0.mk hf
  obtain ⟨hs0, hs1⟩ := fewI_sum' hf
  clear hC hf
  have HS := fun w' h => refSum_any A c l w' h HF.out
  have HSum := Aside0.mk HS
  clear HS
  by_cases hz : sumI l = 0
  · have HP : Aside0 (pickI l d = 0) := ⟨by rw [pickI, if_pos hz]⟩
    have HSum2 := HSum.out w HC.out
    rw [hz] at HSum2
    have HSum3 := Aside0.mk HSum2
    clear hz hs0 hs1 HSum HSum2
    go_enter Tryd.func37, Tryd.ntmps37
    go_wp2_with fail
    refine (HSum3.out).mono ?_
    rintro e w1 ⟨rfl, rfl⟩
    go_wp2
    go_ret
    exact ⟨by rw [HP.out]; rfl, rfl⟩
  · have HP : Aside0 (pickI l d = pickAt (l.drop 0) (d % sumI l) 0) := ⟨by rw [pickI, if_neg hz, List.drop_zero]⟩
    generalize hS : sumI l = S at *
    have hp : 0 < S := by omega
    have hlt1 : decide (S < 1) = false := decide_eq_false (by omega)
    clear hS hz
    have hx0 : 0 ≤ d % S := Int.emod_nonneg _ (by omega)
    have hx1 : d % S < S := Int.emod_lt_of_pos _ hp
    go_enter Tryd.func37, Tryd.ntmps37
    go_wp2_with fail
    refine (HSum.out w HC.out).mono ?_
    rintro e w1 ⟨rfl, rfl⟩
    clear HSum
    go_wp2
    generalize d % S = x0 at *
    go_loop [6, 7] (fun x i => ∃ (k : Nat) (y : Int), k ≤ l.length ∧ i = .int .i64 k ∧ x = .int .i64 y ∧ 0 ≤ y ∧ y < S ∧ Aside0 (pickI l d = pickAt (l.drop k) y k)) (fun _ i => l.length - (intOf i).toNat)
    case atStart => exact ⟨0, x0, Nat.zero_le _, rfl, rfl, hx0, hx1, HP⟩
    case round =>
      obtain ⟨k, y, hk, rfl, rfl, hy0, hy1, HK⟩ := hrel
      by_cases hlt : k < l.length
      · obtain ⟨ad, rfl, hc⟩ := at_i HC.out k hlt
        have hle := fewI_at HF.out k hlt
        have HY := Aside0.mk (pickAt_yes l k hlt y)
        have HN := Aside0.mk (pickAt_no l k hlt y)
        generalize hX : l[k] = X at hc hle HY HN
        clear hX
        by_cases hX0 : 0 ≤ X
        · have em : max X 0 = X := by omega
          rw [em] at HY HN
          clear em
          by_cases hyx : y < X
          · have hb : y - X < 0 := by omega
            go_wp2
            go_ret
            exact ⟨by rw [HK.out, HY.out hyx]; rfl, rfl⟩
          · have hb : ¬ y - X < 0 := by omega
            go_wp2
            go_round
            case rel => exact ⟨k + 1, y - X, by omega, by go_num, by go_num, by omega, by omega, ⟨by rw [HK.out, HN.out hyx]⟩⟩
            case measure => simp [intOf]; omega
        · have em : max X 0 = 0 := by omega
          rw [em] at HY HN
          clear em
          go_wp2
          go_round
          case rel => exact ⟨k + 1, y, by omega, by go_num, by go_num, by omega, by omega, ⟨by rw [HK.out, HN.out (by omega), Int.sub_zero]⟩⟩
          case measure => simp [intOf]; omega
      · have HE := Aside0.mk (pickAt_end l k (by omega) y)
        go_wp2
        go_ret
        exact ⟨by rw [HK.out, HE.out]; rfl, rfl⟩

theorem share_zero' (k s d : Nat) (hs : s = 0) : ((shareN k s d : Nat) : Int) = max ((baseN k d : Nat) : Int) 1 := by subst hs; exact share_zero k d
theorem bitLen_half : ∀ x, x ≤ 128 → 0 < x → Lib.bitLen x = Lib.bitLen (x / 2) + 1 := by decide +kernel

set_option maxHeartbeats 2000000 in
theorem refTable_any (k s : Nat) (w : World) (h1 : 1 ≤ k) (h2 : k ≤ 128) (h3 : s ≤ k) :
    Calls Tryd.prog 38 #[.int .i64 k, .int .i64 s] w fun e w' => ∃ v, e = .returned v ∧ Own w' w.heap.size 3 v (nums .i64 (tabN k s)) ∧ Below w.heap.size w w' := by
  have hlb := bitLen_le s
  have hpk := div_range (k : Int) (s : Int) (by omega)
  have b1 : decide ((k : Int) < 1) = false := decide_eq_false (by omega)
  have b2 : decide ((128 : Int) < (k : Int)) = false := decide_eq_false (by omega)
  have b3 : decide ((s : Int) < 0) = false := decide_eq_false (by omega)
  have b4 : decide (k < s) = false := decide_eq_false (by omega)
  go_enter Tryd.func38, Tryd.ntmps38
  go_wp2
  go_loop [5, 6] (fun b x => ∃ m y : Nat, b = .int .i64 m ∧ x = .int .i64 y ∧ y ≤ s ∧ Aside0 (m + Lib.bitLen y = Lib.bitLen s) ∧ m ≤ 64) (fun _ x => (intOf x).toNat)
  case atStart => exact ⟨0, s, rfl, rfl, Nat.le_refl _, ⟨by omega⟩, by omega⟩
  case round =>
    obtain ⟨m, y, rfl, rfl, hy, HM, hm⟩ := hrel
    by_cases hy0 : 0 < y
    · have HH := Aside0.mk (bitLen_half y (by omega) hy0)
      go_wp2
      go_round
      case rel =>
        have := HM.out
        rw [HH.out] at this
        exact ⟨m + 1, y / 2, by go_num, by go_num, by omega, ⟨by omega⟩, by omega⟩
      case measure => simp [intOf]; omega
    · have hmb : m = Lib.bitLen s := by
        have := HM.out
        have e : Lib.bitLen y = 0 := by rw [show y = 0 by omega]; rfl
        omega
      obtain rfl : y = 0 := by omega
      subst hmb
      clear HM hm
      go_wp2
      by_cases hs : s = 0
      · have HS0 := Aside0.mk hs
        have b5 : decide (0 < s) = false := decide_eq_false (by omega)
        have b6 : ¬ 0 < s := by omega
        clear hs hpk hlb
        go_loopw [7, 8] (fun v d wr => ∃ j : Nat, j ≤ k ∧ d = .int .i64 ((j : Int) + 1) ∧ Aside0 (wr.ownsRow w.heap.size 3 1 v ((tabN k s).take j).length (nums .i64 ((tabN k s).take j))) ∧ Aside0 (Below w.heap.size w wr))
          (fun _ d _ => k + 1 - (intOf d).toNat)
        case atStart => exact ⟨0, Nat.zero_le _, rfl, ⟨own_nil _ _ _ _⟩, ⟨Below.refl _ _⟩⟩
        case round =>
          obtain ⟨j, hj, rfl, HR, HG⟩ := hrel
          by_cases hlt : j < k
          · have htl : ((tabN k s).take j).length = j := by rw [List.length_take, tabN_length]; omega
            have HTL := Aside0.mk htl
            have hsz := HG.out.size
            clear htl
            obtain ⟨hq1, hq2⟩ := div_range 1048576 (k : Int) (by omega) (by omega)
            by_cases hj0 : j = 0
            · subst hj0
              have HE : Aside0 (((shareN k s (0 + 1) : Nat) : Int) = max (1048576 / (k : Int)) 1) := ⟨by rw [share_zero' k s _ HS0.out, baseN_one]⟩
              go_wp2_with (at_builtin; refine print_append_num (w0 := w) w.heap.size rfl (.tmp 80) (.tmp 83) 60 3 .i64 8 rfl Tryd.underlying60 info_int (by decide) _ ((tabN k s).take 0) (max (1048576 / (k : Int)) 1) rfl rfl HR.out HG.out hsz (by rw [HTL.out]; omega) ?_; intro v1 w1 ho1 hb1 _ _)
              have H1 := Aside0.mk ho1
              have H2 := Aside0.mk hb1
              clear ho1 hb1
              go_roundw
              case rel =>
                refine ⟨0 + 1, by omega, by go_num, ⟨?_⟩, H2⟩
                rw [tabN_take_succ k s 0 (by omega), HE.out]
                exact H1.out
              case measure => simp [intOf]; omega
            · obtain ⟨hm1, hm2⟩ := mul_pos_le (j + 1) j (by omega) (by omega) (by omega) (by omega)
              have ec0 : ((j + 1 : Nat) : Int) = (j : Int) + 1 := by omega
              rw [ec0] at hm1 hm2
              clear ec0
              obtain ⟨hq3, hq4⟩ := div_range 1048576 (((j : Int) + 1) * (j : Int)) (by omega) hm1
              have HE : Aside0 (((shareN k s (j + 1) : Nat) : Int) = max (1048576 / (((j : Int) + 1) * (j : Int))) 1) := ⟨by rw [share_zero' k s _ HS0.out, baseN_succ k j (by omega)]⟩
              go_wp2_with (at_builtin; refine print_append_num (w0 := w) w.heap.size rfl (.tmp 80) (.tmp 83) 60 3 .i64 8 rfl Tryd.underlying60 info_int (by decide) _ ((tabN k s).take j) (max (1048576 / (((j : Int) + 1) * (j : Int))) 1) rfl rfl HR.out HG.out hsz (by rw [HTL.out]; omega) ?_; intro v1 w1 ho1 hb1 _ _)
              have H1 := Aside0.mk ho1
              have H2 := Aside0.mk hb1
              clear ho1 hb1
              go_roundw
              case rel =>
                refine ⟨j + 1, by omega, by go_num, ⟨?_⟩, H2⟩
                rw [tabN_take_succ k s j (by omega), HE.out]
                exact H1.out
              case measure => simp [intOf]; omega
          · have H := HR.out
            rw [show j = k by omega, List.take_of_length_le (Nat.le_of_eq (tabN_length k s))] at H
            have H' := Aside0.mk (Own.of_row H)
            clear H
            go_wp2
            go_ret
            exact ⟨_, rfl, H'.out, HG.out⟩
      · have hs' : 0 < s := by omega
        obtain ⟨hp0, hp1⟩ := hpk (by omega)
        clear hpk
        have hbl : (1048576 * (s : Int)) * (Lib.bitLen s : Nat) ≤ 8589934592 ∧ 0 ≤ (1048576 * (s : Int)) * (Lib.bitLen s : Nat) := by
          have : s * Lib.bitLen s ≤ 128 * 64 := Nat.mul_le_mul (by omega) hlb
          have e : (1048576 * (s : Int)) * (Lib.bitLen s : Nat) = 1048576 * ((s * Lib.bitLen s : Nat) : Int) := by rw [Int.mul_assoc, Int.natCast_mul]
          rw [e]; omega
        have hbq := div_range ((1048576 * (s : Int)) * (Lib.bitLen s : Nat)) (k : Int) hbl.2 (by omega)
        obtain ⟨hb1, hb2⟩ := hbl
        obtain ⟨hb3, hb4⟩ := hbq
        obtain ⟨P, hP⟩ : ∃ P, P = (k : Int) / (s : Int) := ⟨_, rfl⟩
        have HP := Aside0.mk hP.symm
        clear hP
        go_loopw [7, 8] (fun v d wr => ∃ j : Nat, j ≤ k ∧ d = .int .i64 ((j : Int) + 1) ∧ Aside0 (wr.ownsRow w.heap.size 3 1 v ((tabN k s).take j).length (nums .i64 ((tabN k s).take j))) ∧ Aside0 (Below w.heap.size w wr))
          (fun _ d _ => k + 1 - (intOf d).toNat)
        case atStart => exact ⟨0, Nat.zero_le _, rfl, ⟨own_nil _ _ _ _⟩, ⟨Below.refl _ _⟩⟩
        case round =>
          obtain ⟨j, hj, rfl, HR, HG⟩ := hrel
          by_cases hlt : j < k
          · have htl : ((tabN k s).take j).length = j := by rw [List.length_take, tabN_length]; omega
            have HTL := Aside0.mk htl
            have hsz := HG.out.size
            clear htl
            obtain ⟨hq1, hq2⟩ := div_range 1048576 (k : Int) (by omega) (by omega)
            by_cases hj0 : j = 0
            · subst hj0
              obtain ⟨hq7, hq8⟩ := div_range (1048576 * (s : Int)) (k : Int) (by omega) (by omega)
              by_cases hd : 0 + 1 < k / s
              · obtain ⟨hm3, hm4⟩ := mul_pos_le k (0 + 1) (by omega) (by omega) (by omega) (by omega)
                obtain ⟨hq5, hq6⟩ := div_range (1048576 * (s : Int)) ((k : Int) * 1) (by omega) hm3
                have hd' : 1 < (k : Int) / (s : Int) := by omega
                have hd'' : ((1 : Int) == (k : Int) / (s : Int)) = false := beq_eq_false_iff_ne.2 (by omega)
                have HE : Aside0 (((shareN k s (0 + 1) : Nat) : Int) = max (1048576 / (k : Int) + 1048576 * (s : Int) / ((k : Int))) 1) := ⟨by rw [share_lt k s _ hs' hd, baseN_one]; simp⟩
                go_wp2_with (at_builtin; refine print_append_num (w0 := w) w.heap.size rfl (.tmp 80) (.tmp 83) 60 3 .i64 8 rfl Tryd.underlying60 info_int (by decide) _ ((tabN k s).take 0) (max (1048576 / (k : Int) + 1048576 * (s : Int) / ((k : Int))) 1) rfl rfl HR.out HG.out hsz (by rw [HTL.out]; omega) ?_; intro v1 w1 ho1 hb1 _ _)
                have H1 := Aside0.mk ho1
                have H2 := Aside0.mk hb1
                clear ho1 hb1
                go_roundw
                case rel =>
                  refine ⟨0 + 1, by omega, by go_num, ⟨?_⟩, H2⟩
                  rw [tabN_take_succ k s 0 (by omega), HE.out]
                  exact H1.out
                case measure => simp [intOf]; omega
              · by_cases hd2 : 0 + 1 = k / s
                · have hd' : ¬ 1 < (k : Int) / (s : Int) := by omega
                  have hd'' : ((1 : Int) == (k : Int) / (s : Int)) = true := beq_iff_eq.2 (by omega)
                  have HE : Aside0 (((shareN k s (0 + 1) : Nat) : Int) = max (1048576 / (k : Int) + 1048576 * (s : Int) * (Lib.bitLen s : Nat) / (k : Int)) 1) := ⟨by rw [share_eq k s _ hs' hd2, baseN_one]⟩
                  go_wp2_with (at_builtin; refine print_append_num (w0 := w) w.heap.size rfl (.tmp 80) (.tmp 83) 60 3 .i64 8 rfl Tryd.underlying60 info_int (by decide) _ ((tabN k s).take 0) (max (1048576 / (k : Int) + 1048576 * (s : Int) * (Lib.bitLen s : Nat) / (k : Int)) 1) rfl rfl HR.out HG.out hsz (by rw [HTL.out]; omega) ?_; intro v1 w1 ho1 hb1 _ _)
                  have H1 := Aside0.mk ho1
                  have H2 := Aside0.mk hb1
                  clear ho1 hb1
                  go_roundw
                  case rel =>
                    refine ⟨0 + 1, by omega, by go_num, ⟨?_⟩, H2⟩
                    rw [tabN_take_succ k s 0 (by omega), HE.out]
                    exact H1.out
                  case measure => simp [intOf]; omega
                · have hd' : ¬ 1 < (k : Int) / (s : Int) := by omega
                  have hd'' : ((1 : Int) == (k : Int) / (s : Int)) = false := beq_eq_false_iff_ne.2 (by omega)
                  have HE : Aside0 (((shareN k s (0 + 1) : Nat) : Int) = max (1048576 / (k : Int)) 1) := ⟨by rw [share_gt k s _ hs' hd hd2, baseN_one]⟩
                  go_wp2_with (at_builtin; refine print_append_num (w0 := w) w.heap.size rfl (.tmp 80) (.tmp 83) 60 3 .i64 8 rfl Tryd.underlying60 info_int (by decide) _ ((tabN k s).take 0) (max (1048576 / (k : Int)) 1) rfl rfl HR.out HG.out hsz (by rw [HTL.out]; omega) ?_; intro v1 w1 ho1 hb1 _ _)
                  have H1 := Aside0.mk ho1
                  have H2 := Aside0.mk hb1
                  clear ho1 hb1
                  go_roundw
                  case rel =>
                    refine ⟨0 + 1, by omega, by go_num, ⟨?_⟩, H2⟩
                    rw [tabN_take_succ k s 0 (by omega), HE.out]
                    exact H1.out
                  case measure => simp [intOf]; omega
            · obtain ⟨hm1, hm2⟩ := mul_pos_le (j + 1) j (by omega) (by omega) (by omega) (by omega)
              have ec0 : ((j + 1 : Nat) : Int) = (j : Int) + 1 := by omega
              rw [ec0] at hm1 hm2
              clear ec0
              obtain ⟨hq3, hq4⟩ := div_range 1048576 (((j : Int) + 1) * (j : Int)) (by omega) hm1
              obtain ⟨hq7, hq8⟩ := div_range (1048576 * (s : Int)) (k : Int) (by omega) (by omega)
              by_cases hd : j + 1 < k / s
              · obtain ⟨hm3, hm4⟩ := mul_pos_le k (j + 1) (by omega) (by omega) (by omega) (by omega)
                have ec : ((j + 1 : Nat) : Int) = (j : Int) + 1 := by omega
                rw [ec] at hm3 hm4
                clear ec
                obtain ⟨hq5, hq6⟩ := div_range (1048576 * (s : Int)) ((k : Int) * ((j : Int) + 1)) (by omega) hm3
                have hd' : ((j : Int) + 1) < (k : Int) / (s : Int) := by omega
                have hd'' : (((j : Int) + 1) == (k : Int) / (s : Int)) = false := beq_eq_false_iff_ne.2 (by omega)
                have HE : Aside0 (((shareN k s (j + 1) : Nat) : Int) = max (1048576 / (((j : Int) + 1) * (j : Int)) + 1048576 * (s : Int) / ((k : Int) * ((j : Int) + 1))) 1) := ⟨by rw [share_lt k s _ hs' hd, baseN_succ k j (by omega)]; simp⟩
                go_wp2_with (at_builtin; refine print_append_num (w0 := w) w.heap.size rfl (.tmp 80) (.tmp 83) 60 3 .i64 8 rfl Tryd.underlying60 info_int (by decide) _ ((tabN k s).take j) (max (1048576 / (((j : Int) + 1) * (j : Int)) + 1048576 * (s : Int) / ((k : Int) * ((j : Int) + 1))) 1) rfl rfl HR.out HG.out hsz (by rw [HTL.out]; omega) ?_; intro v1 w1 ho1 hb1 _ _)
                have H1 := Aside0.mk ho1
                have H2 := Aside0.mk hb1
                clear ho1 hb1
                go_roundw
                case rel =>
                  refine ⟨j + 1, by omega, by go_num, ⟨?_⟩, H2⟩
                  rw [tabN_take_succ k s j (by omega), HE.out]
                  exact H1.out
                case measure => simp [intOf]; omega
              · by_cases hd2 : j + 1 = k / s
                · have hd' : ¬ ((j : Int) + 1) < (k : Int) / (s : Int) := by omega
                  have hd'' : (((j : Int) + 1) == (k : Int) / (s : Int)) = true := beq_iff_eq.2 (by omega)
                  have HE : Aside0 (((shareN k s (j + 1) : Nat) : Int) = max (1048576 / (((j : Int) + 1) * (j : Int)) + 1048576 * (s : Int) * (Lib.bitLen s : Nat) / (k : Int)) 1) := ⟨by rw [share_eq k s _ hs' hd2, baseN_succ k j (by omega)]⟩
                  go_wp2_with (at_builtin; refine print_append_num (w0 := w) w.heap.size rfl (.tmp 80) (.tmp 83) 60 3 .i64 8 rfl Tryd.underlying60 info_int (by decide) _ ((tabN k s).take j) (max (1048576 / (((j : Int) + 1) * (j : Int)) + 1048576 * (s : Int) * (Lib.bitLen s : Nat) / (k : Int)) 1) rfl rfl HR.out HG.out hsz (by rw [HTL.out]; omega) ?_; intro v1 w1 ho1 hb1 _ _)
                  have H1 := Aside0.mk ho1
                  have H2 := Aside0.mk hb1
                  clear ho1 hb1
                  go_roundw
                  case rel =>
                    refine ⟨j + 1, by omega, by go_num, ⟨?_⟩, H2⟩
                    rw [tabN_take_succ k s j (by omega), HE.out]
                    exact H1.out
                  case measure => simp [intOf]; omega
                · have hd' : ¬ ((j : Int) + 1) < (k : Int) / (s : Int) := by omega
                  have hd'' : (((j : Int) + 1) == (k : Int) / (s : Int)) = false := beq_eq_false_iff_ne.2 (by omega)
                  have HE : Aside0 (((shareN k s (j + 1) : Nat) : Int) = max (1048576 / (((j : Int) + 1) * (j : Int))) 1) := ⟨by rw [share_gt k s _ hs' hd hd2, baseN_succ k j (by omega)]⟩
                  go_wp2_with (at_builtin; refine print_append_num (w0 := w) w.heap.size rfl (.tmp 80) (.tmp 83) 60 3 .i64 8 rfl Tryd.underlying60 info_int (by decide) _ ((tabN k s).take j) (max (1048576 / (((j : Int) + 1) * (j : Int))) 1) rfl rfl HR.out HG.out hsz (by rw [HTL.out]; omega) ?_; intro v1 w1 ho1 hb1 _ _)
                  have H1 := Aside0.mk ho1
                  have H2 := Aside0.mk hb1
                  clear ho1 hb1
                  go_roundw
                  case rel =>
                    refine ⟨j + 1, by omega, by go_num, ⟨?_⟩, H2⟩
                    rw [tabN_take_succ k s j (by omega), HE.out]
                    exact H1.out
                  case measure => simp [intOf]; omega
          · have H := HR.out
            rw [show j = k by omega, List.take_of_length_le (Nat.le_of_eq (tabN_length k s))] at H
            have H' := Aside0.mk (Own.of_row H)
            clear H
            go_wp2
            go_ret
            exact ⟨_, rfl, H'.out, HG.out⟩

end Go.Proofs.YtcelfpgkeeaggaaDoor.SolitonB
