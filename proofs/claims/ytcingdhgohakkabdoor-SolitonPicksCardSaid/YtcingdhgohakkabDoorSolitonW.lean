/- The walks of the five laws. -/
import Derived.Test.YtcingdhgohakkabDoorSolitonL
namespace Go.Proofs.YtcingdhgohakkabDoor.SolitonW
open Go Go.RowKit Go.Proofs.YtcingdhgohakkabDoorW.PrintWords Go.Proofs.YtcingdhgohakkabDoor.Base Go.Proofs.YtcingdhgohakkabDoor.Soliton Go.Proofs.YtcingdhgohakkabDoor.SolitonB Go.Proofs.YtcingdhgohakkabDoor.SolitonL
set_option linter.unusedVariables false
set_option linter.unusedSimpArgs false

theorem okT_nat {k s : Int} (h : okT k s) : ∃ k' s' : Nat, k = k' ∧ s = s' ∧ 1 ≤ k' ∧ k' ≤ 128 ∧ s' ≤ k' := by
  obtain ⟨h1, h2, h3, h4⟩ := h
  exact ⟨k.toNat, s.toNat, by omega, by omega, by omega, by omega, by omega⟩

set_option maxHeartbeats 400000 in
theorem SolitonTables (k s : Int) (w : World) (hD : DigOk w) :
    Calls Tryd.prog 3 #[.int .i64 k, .int .i64 s] w fun e w' => e = .returned (.bool true) ∧ Below w.heap.size w w' := by
  have HD := Aside0.mk hD
  clear hD
  by_cases h : okT k s
  · obtain ⟨k, s, rfl, rfl, h1, h2, h3⟩ := okT_nat h
    clear h
    go_enter Tryd.func3, Tryd.ntmps3
    go_wp2_with fail
    refine (Table_any k s w HD.out h1 h2 h3).mono ?_
    rintro e w1 ⟨v, rfl, hO, hb1⟩
    obtain ⟨Av, cv, rfl, _, hC⟩ := hO.C_int
    have HC := Aside0.mk hC
    have HB1 := Aside0.mk hb1
    clear hO hC hb1
    go_wp2_with fail
    refine (refTable_any k s w1 h1 h2 h3).mono ?_
    rintro e w2 ⟨v2, rfl, hO, hb2⟩
    obtain ⟨Av2, cv2, rfl, _, hC⟩ := hO.C_int
    have HC2 := Aside0.mk hC
    have HC1 := Aside0.mk (Kd.C_below HC.out hb2)
    have HB2 := Aside0.mk (bthn HB1.out (Nat.le_refl _) hb2)
    clear hO hC hb2
    go_wp2_with fail
    refine (Ints_any _ _ _ _ (tabN k s) (tabN k s) w2 HC1.out HC2.out).mono ?_
    rintro e w3 ⟨rfl, hb3⟩
    rw [decide_eq_true rfl]
    have HB3 := Aside0.mk (bthn HB2.out (Nat.le_refl _) hb3)
    clear hb3
    go_wp2_with fail
    refine (awake_any _ (HD.out.below HB3.out)).mono ?_
    rintro e w4 ⟨rfl, hb⟩
    have HBz := Aside0.mk (bthn HB3.out (Nat.le_refl _) hb)
    clear hb
    go_wp2
    go_ret
    exact ⟨rfl, HBz.out⟩
  · go_enter Tryd.func3, Tryd.ntmps3
    go_wp2_with fail
    refine (Table_no k s w h).mono ?_
    rintro e w1 ⟨rfl, rfl⟩
    go_wp2_with fail
    refine (refTable_no k s w h).mono ?_
    rintro e w1 ⟨rfl, rfl⟩
    clear h
    go_wp2_with fail
    refine (Ints_any none none 0 0 [] [] w ⟨rfl, by decide, fun h => absurd h (by decide)⟩ ⟨rfl, by decide, fun h => absurd h (by decide)⟩).mono ?_
    rintro e w3 ⟨rfl, hb3⟩
    rw [decide_eq_true rfl]
    have HB3 := Aside0.mk hb3
    clear hb3
    go_wp2_with fail
    refine (awake_any _ (HD.out.below HB3.out)).mono ?_
    rintro e w4 ⟨rfl, hb⟩
    have HBz := Aside0.mk (bthn HB3.out (Nat.le_refl _) hb)
    clear hb
    go_wp2
    go_ret
    exact ⟨rfl, HBz.out⟩

set_option maxHeartbeats 400000 in
theorem SolitonPicks (A : Option Addr) (c : Nat) (l : List Int) (d : Int) (w : World) (hD : DigOk w) (hC : (Kd.int .i64).C w A l.length l) (hd0 : 0 ≤ d) (hd1 : d ≤ 18446744073709551615) :
    Calls Tryd.prog 4 #[.slice A l.length c, .int .u64 d] w fun e w' => e = .returned (.bool true) ∧ Below w.heap.size w w' := by
  have HD := Aside0.mk hD
  have HC := Aside0.mk hC
  clear hD hC
  by_cases hf : fewI l
  · have HF := Aside0.mk hf
    clear hf
    go_enter Tryd.func4, Tryd.ntmps4
    go_wp2_with fail
    refine (few_yes A c l w HC.out HF.out).mono ?_
    rintro e w1 ⟨rfl, rfl⟩
    go_wp2_with fail
    refine (Sum_any A c l w HC.out HF.out).mono ?_
    rintro e w1 ⟨rfl, rfl⟩
    go_wp2_with fail
    refine (refSum_any A c l w HC.out HF.out).mono ?_
    rintro e w1 ⟨rfl, rfl⟩
    go_wp2_with fail
    refine (Pick_any A c l d w HC.out HF.out hd0 hd1).mono ?_
    rintro e w1 ⟨rfl, rfl⟩
    go_wp2_with fail
    refine (refPick_any A c l d w HC.out HF.out hd0 hd1).mono ?_
    rintro e w1 ⟨rfl, rfl⟩
    go_wp2_with fail
    refine (awake_any _ HD.out).mono ?_
    rintro e w4 ⟨rfl, hb⟩
    have HBz := Aside0.mk (hb)
    clear hb
    go_wp2
    go_ret
    exact ⟨rfl, HBz.out⟩
  · have HF := Aside0.mk hf
    clear hf
    go_enter Tryd.func4, Tryd.ntmps4
    go_wp2_with fail
    refine (few_no A c l w HC.out HF.out).mono ?_
    rintro e w1 ⟨rfl, rfl⟩
    go_wp2_with fail
    refine (awake_any _ HD.out).mono ?_
    rintro e w4 ⟨rfl, hb⟩
    have HBz := Aside0.mk (hb)
    clear hb
    go_wp2
    go_ret
    exact ⟨rfl, HBz.out⟩

set_option maxHeartbeats 400000 in
theorem SolitonTurns (A : Option Addr) (c : Nat) (l : List Int) (d : Int) (w : World) (hD : DigOk w) (hC : (Kd.int .i64).C w A l.length l) (hd0 : 0 ≤ d) (hd1 : d ≤ 4294967295) :
    Calls Tryd.prog 7 #[.slice A l.length c, .int .u32 d] w fun e w' => e = .returned (.bool true) ∧ Below w.heap.size w w' := by
  have HD := Aside0.mk hD
  have HC := Aside0.mk hC
  clear hD hC
  by_cases hf : fewI l
  · have HF := Aside0.mk hf
    obtain ⟨hs0, hs1⟩ := fewI_sum' hf
    have HT : Aside0 (pickI l (d + sumI l) = pickI l d) := ⟨by rw [pickI, pickI, Int.add_emod_right]⟩
    clear hf
    go_enter Tryd.func7, Tryd.ntmps7
    go_wp2_with fail
    refine (few_yes A c l w HC.out HF.out).mono ?_
    rintro e w1 ⟨rfl, rfl⟩
    go_wp2_with fail
    refine (Sum_any A c l w HC.out HF.out).mono ?_
    rintro e w1 ⟨rfl, rfl⟩
    go_wp2_with fail
    refine (Pick_any A c l d w HC.out HF.out hd0 (by omega)).mono ?_
    rintro e w1 ⟨rfl, rfl⟩
    go_wp2_with fail
    refine (Pick_any A c l (d + sumI l) w HC.out HF.out (by omega) (by omega)).mono ?_
    rintro e w1 ⟨rfl, rfl⟩
    rw [HT.out]
    go_wp2_with fail
    refine (awake_any _ HD.out).mono ?_
    rintro e w4 ⟨rfl, hb⟩
    have HBz := Aside0.mk (hb)
    clear hb
    go_wp2
    go_ret
    exact ⟨rfl, HBz.out⟩
  · have HF := Aside0.mk hf
    clear hf
    go_enter Tryd.func7, Tryd.ntmps7
    go_wp2_with fail
    refine (few_no A c l w HC.out HF.out).mono ?_
    rintro e w1 ⟨rfl, rfl⟩
    go_wp2_with fail
    refine (awake_any _ HD.out).mono ?_
    rintro e w4 ⟨rfl, hb⟩
    have HBz := Aside0.mk (hb)
    clear hb
    go_wp2
    go_ret
    exact ⟨rfl, HBz.out⟩

theorem ideal : ∀ k : Nat, k < 129 → 1 ≤ k → (1048576 : Int) - 2 * (k : Int) ≤ sumI (tabN k 0) ∧ sumI (tabN k 0) ≤ 1048576 + (k : Int) := by decide +kernel
set_option maxHeartbeats 400000 in
theorem SolitonIdeal (k : Int) (w : World) (hD : DigOk w) :
    Calls Tryd.prog 6 #[.int .i64 k] w fun e w' => e = .returned (.bool true) ∧ Below w.heap.size w w' := by
  have HD := Aside0.mk hD
  clear hD
  by_cases h : okT k 0
  · obtain ⟨k, s, rfl, hs, h1, h2, h3⟩ := okT_nat h
    obtain rfl : s = 0 := by omega
    clear h hs
    obtain ⟨i1, i2⟩ := ideal k (by omega) h1
    have hf := fewI_tab k 0 h1 h2 h3
    have HF := Aside0.mk hf
    obtain ⟨hs0, hs1⟩ := fewI_sum' hf
    clear hf
    go_enter Tryd.func6, Tryd.ntmps6
    go_wp2_with fail
    refine (Table_any k 0 w HD.out h1 h2 h3).mono ?_
    rintro e w1 ⟨v, rfl, hO, hb1⟩
    obtain ⟨Av, cv, rfl, _, hC⟩ := hO.C_int
    have HC := Aside0.mk hC
    have HB1 := Aside0.mk hb1
    clear hO hC hb1
    go_wp2_with fail
    refine (Sum_any _ _ (tabN k 0) w1 HC.out HF.out).mono ?_
    rintro e w2 ⟨rfl, rfl⟩
    generalize sumI (tabN k 0) = S at *
    go_wp2_with fail
    refine (awake_any _ (HD.out.below HB1.out)).mono ?_
    rintro e w4 ⟨rfl, hb⟩
    have HBz := Aside0.mk (bthn HB1.out (Nat.le_refl _) hb)
    clear hb
    go_wp2
    go_ret
    exact ⟨rfl, HBz.out⟩
  · unfold okT at h
    by_cases h1 : k < 1
    · clear h
      go_enter Tryd.func6, Tryd.ntmps6
      go_wp2_with fail
      refine (awake_any _ HD.out).mono ?_
      rintro e w4 ⟨rfl, hb⟩
      have HBz := Aside0.mk (hb)
      clear hb
      go_wp2
      go_ret
      exact ⟨rfl, HBz.out⟩
    · have h2 : 128 < k := by omega
      clear h
      go_enter Tryd.func6, Tryd.ntmps6
      go_wp2_with fail
      refine (awake_any _ HD.out).mono ?_
      rintro e w4 ⟨rfl, hb⟩
      have HBz := Aside0.mk (hb)
      clear hb
      go_wp2
      go_ret
      exact ⟨rfl, HBz.out⟩

theorem pickAt_at (l : List Int) (hl : ∀ x ∈ l, 1 ≤ x) (j : Nat) (hj : j < l.length) (r : Int) (h0 : 0 ≤ r) (h1 : r < l[j]) (i : Nat) : pickAt l (sumI (l.take j) + r) i = ((i + j + 1 : Nat) : Int) := by
  induction l generalizing j i with
  | nil => simp at hj
  | cons w l ih =>
    have hw := hl w (by simp)
    have hm : max w 0 = w := by omega
    cases j with
    | zero =>
      simp only [List.getElem_cons_zero] at h1
      rw [pickAt, hm, List.take_zero, show sumI [] = 0 from rfl, if_pos (by omega)]
    | succ j =>
      have hs : sumI ((w :: l).take (j + 1)) = w + sumI (l.take j) := by simp [sumI, hm]
      have h2 := sumI_nonneg (l.take j)
      rw [pickAt, hs, hm, if_neg (by omega), show w + sumI (l.take j) + r - w = sumI (l.take j) + r by omega]
      rw [ih (fun x hx => hl x (by simp [hx])) j (by simpa using hj) (by simpa using h1) (i + 1), show i + 1 + j + 1 = i + (j + 1) + 1 by omega]
theorem sumI_take_le (l : List Int) (j : Nat) (hj : j < l.length) : sumI (l.take j) + max l[j] 0 ≤ sumI l := by
  have h1 := sumI_snoc l j hj
  have h2 : sumI l = sumI (l.take (j + 1)) + sumI (l.drop (j + 1)) := by
    have : sumI l = sumI (l.take (j + 1) ++ l.drop (j + 1)) := by rw [List.take_append_drop]
    rw [this, sumI, List.map_append, List.sum_append]; rfl
  have := sumI_nonneg (l.drop (j + 1))
  omega
theorem pickI_at (l : List Int) (hl : ∀ x ∈ l, 1 ≤ x) (j : Nat) (hj : j < l.length) (r : Int) (h0 : 0 ≤ r) (h1 : r < l[j]) : pickI l (sumI (l.take j) + r) = (j : Int) + 1 := by
  have h2 := sumI_take_le l j hj
  have h3 := sumI_nonneg (l.take j)
  have h4 := hl _ (List.getElem_mem hj)
  rw [pickI, if_neg (by omega), Int.emod_eq_of_lt (by omega) (by omega), pickAt_at l hl j hj r h0 h1 0, Nat.zero_add]; rfl
theorem pickAt_range (l : List Int) (x : Int) (h0 : 0 ≤ x) (h1 : x < sumI l) (i : Nat) : (i : Int) + 1 ≤ pickAt l x i ∧ pickAt l x i ≤ (i : Int) + l.length := by
  induction l generalizing x i with
  | nil => simp [sumI] at h1; omega
  | cons w l ih =>
    rw [pickAt]
    split
    · simp; omega
    · have hs : sumI (w :: l) = max w 0 + sumI l := by simp [sumI]
      have := ih (x - max w 0) (by omega) (by omega) (i + 1)
      simp at this ⊢
      omega
theorem pickI_range (l : List Int) (d : Int) (h : 0 < sumI l) : 1 ≤ pickI l d ∧ pickI l d ≤ l.length := by
  rw [pickI, if_neg (by omega)]
  have := pickAt_range l (d % sumI l) (Int.emod_nonneg _ (by omega)) (Int.emod_lt_of_pos _ h) 0
  simpa using this
theorem tab_pos (k s : Nat) : ∀ x ∈ tabN k s, 1 ≤ x := by
  intro x hx
  simp only [tabN, List.mem_map, List.mem_range] at hx
  obtain ⟨i, hi, rfl⟩ := hx
  have : 1 ≤ shareN k s (i + 1) := by rw [shareN]; omega
  omega

set_option maxHeartbeats 1000000 in
theorem SolitonAll (k s d : Int) (w : World) (hD : DigOk w) (hd0 : 0 ≤ d) (hd1 : d ≤ 18446744073709551615) :
    Calls Tryd.prog 5 #[.int .i64 k, .int .i64 s, .int .u64 d] w fun e w' => e = .returned (.bool true) ∧ Below w.heap.size w w' := by
  have HD := Aside0.mk hD
  clear hD
  by_cases h : okT k s
  · obtain ⟨k, s, rfl, rfl, h1, h2, h3⟩ := okT_nat h
    clear h
    have HF := Aside0.mk (fewI_tab k s h1 h2 h3)
    have HL := Aside0.mk (tabN_length k s)
    have HP := Aside0.mk (tab_pos k s)
    have hkS := Aside0.mk (show 0 < sumI (tabN k s) from by
      have := sumI_take_le (tabN k s) 0 (by rw [tabN_length]; omega)
      have := tab_pos k s _ (List.getElem_mem (show 0 < (tabN k s).length by rw [tabN_length]; omega))
      have := sumI_nonneg ((tabN k s).take 0)
      omega)
    have b1 : decide ((k : Int) < 1) = false := decide_eq_false (by omega)
    have b2 : decide ((128 : Int) < (k : Int)) = false := decide_eq_false (by omega)
    have b3 : decide ((s : Int) < 0) = false := decide_eq_false (by omega)
    have b4 : decide (k < s) = false := decide_eq_false (by omega)
    go_enter Tryd.func5, Tryd.ntmps5
    go_wp2_with fail
    refine (Table_any k s w HD.out h1 h2 h3).mono ?_
    rintro e w1 ⟨v, rfl, hO, hb1⟩
    obtain ⟨A, c, rfl, _, hC⟩ := hO.C_int
    have HC := Aside0.mk hC
    have HB1 := Aside0.mk hb1
    clear hO hC hb1
    generalize tabN k s = l at *
    have hln : l.length ≤ 128 := by rw [HL.out]; omega
    go_wp2
    go_loop [8, 9] (fun x d => ∃ j : Nat, j ≤ l.length ∧ d = .int .i64 ((j : Int) + 1) ∧ x = .int .i64 (sumI (l.take j))) (fun _ d => l.length + 1 - (intOf d).toNat)
    case atStart => exact ⟨0, Nat.zero_le _, rfl, rfl⟩
    case round =>
      obtain ⟨j, hj, rfl, rfl⟩ := hrel
      by_cases hlt : j < l.length
      · obtain ⟨ad, rfl, hc⟩ := at_i HC.out j hlt
        have hp := HP.out _ (List.getElem_mem hlt)
        have hle := fewI_at HF.out j hlt
        obtain ⟨hs0, hs1⟩ := fewI_sum HF.out j
        have HS := Aside0.mk (sumI_snoc l j hlt)
        have HA := Aside0.mk (pickI_at l HP.out j hlt 0 (by omega) (by omega))
        have HZ := Aside0.mk (pickI_at l HP.out j hlt (l[j] - 1) (by omega) (by omega))
        generalize hX : l[j] = X at hc hp hle HS HZ
        have em : max X 0 = X := by omega
        rw [em] at HS
        rw [Int.add_zero] at HA
        clear hX em
        generalize hT : sumI (l.take j) = S at *
        clear hT
        go_wp2_with fail
        refine (Pick_any _ _ l S w1 HC.out HF.out (by omega) (by omega)).mono ?_
        rintro e w2 ⟨rfl, rfl⟩
        rw [HA.out]
        go_wp2_with fail
        refine (Pick_any _ _ l (S + X - 1) w1 HC.out HF.out (by omega) (by omega)).mono ?_
        rintro e w2 ⟨rfl, rfl⟩
        rw [show S + X - 1 = S + (X - 1) by omega, HZ.out]
        go_wp2
        go_round
        case rel => exact ⟨j + 1, by omega, by go_num, by rw [HS.out]⟩
        case measure => simp [intOf]; omega
      · have he : j = l.length := by omega
        have HE := Aside0.mk (List.take_of_length_le (show l.length ≤ j by omega))
        have h4 := pickI_range l d hkS.out
        rw [HL.out] at h4
        have HR := Aside0.mk h4
        clear he h4
        rw [HE.out]
        obtain ⟨hs0, hs1⟩ := fewI_sum' HF.out
        have hlk : ((l.length : Int) == (k : Int)) = true := beq_iff_eq.2 (by rw [HL.out])
        have hlk2 : (l.length == k) = true := beq_iff_eq.2 HL.out
        go_wp2_with fail
        refine (Pick_any _ _ l d w1 HC.out HF.out hd0 hd1).mono ?_
        rintro e w2 ⟨rfl, rfl⟩
        obtain ⟨hr1, hr2⟩ := HR.out
        generalize pickI l d = p at *
        go_wp2_with fail
        refine (Sum_any _ _ l w1 HC.out HF.out).mono ?_
        rintro e w2 ⟨rfl, rfl⟩
        go_wp2_with fail
        refine (awake_any _ (HD.out.below HB1.out)).mono ?_
        rintro e w4 ⟨rfl, hb⟩
        have HBz := Aside0.mk (bthn HB1.out (Nat.le_refl _) hb)
        clear hb
        go_wp2
        go_ret
        exact ⟨rfl, HBz.out⟩
  · have h' := h
    unfold okT at h'
    by_cases h1 : k < 1
    · clear h'
      go_enter Tryd.func5, Tryd.ntmps5
      go_wp2_with fail
      refine (Table_no k s w h).mono ?_
      rintro e w1 ⟨rfl, rfl⟩
      clear h
      go_wp2_with fail
      refine (awake_any _ HD.out).mono ?_
      rintro e w4 ⟨rfl, hb⟩
      have HBz := Aside0.mk (hb)
      clear hb
      go_wp2
      go_ret
      exact ⟨rfl, HBz.out⟩
    by_cases h2 : 128 < k
    · clear h'
      go_enter Tryd.func5, Tryd.ntmps5
      go_wp2_with fail
      refine (Table_no k s w h).mono ?_
      rintro e w1 ⟨rfl, rfl⟩
      clear h
      go_wp2_with fail
      refine (awake_any _ HD.out).mono ?_
      rintro e w4 ⟨rfl, hb⟩
      have HBz := Aside0.mk (hb)
      clear hb
      go_wp2
      go_ret
      exact ⟨rfl, HBz.out⟩
    by_cases h3 : s < 0
    · clear h'
      go_enter Tryd.func5, Tryd.ntmps5
      go_wp2_with fail
      refine (Table_no k s w h).mono ?_
      rintro e w1 ⟨rfl, rfl⟩
      clear h
      go_wp2_with fail
      refine (awake_any _ HD.out).mono ?_
      rintro e w4 ⟨rfl, hb⟩
      have HBz := Aside0.mk (hb)
      clear hb
      go_wp2
      go_ret
      exact ⟨rfl, HBz.out⟩
    · have h4 : k < s := by omega
      clear h'
      go_enter Tryd.func5, Tryd.ntmps5
      go_wp2_with fail
      refine (Table_no k s w h).mono ?_
      rintro e w1 ⟨rfl, rfl⟩
      clear h
      go_wp2_with fail
      refine (awake_any _ HD.out).mono ?_
      rintro e w4 ⟨rfl, hb⟩
      have HBz := Aside0.mk (hb)
      clear hb
      go_wp2
      go_ret
      exact ⟨rfl, HBz.out⟩

end Go.Proofs.YtcingdhgohakkabDoor.SolitonW
