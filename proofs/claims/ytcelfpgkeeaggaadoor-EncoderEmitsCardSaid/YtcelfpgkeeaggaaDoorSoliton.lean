/- The contracts of package soliton's functions, and of those of its reference. -/
import Derived.Test.YtcelfpgkeeaggaaDoorBase
import Derived.Test.YtcelfpgkeeaggaaDoorShelf
namespace Go.Proofs.YtcelfpgkeeaggaaDoor.Soliton
open Go Go.RowKit Go.Proofs.YtcelfpgkeeaggaaDoorW.PrintWords Go.Proofs.YtcelfpgkeeaggaaDoor.Base
set_option linter.unusedVariables false
set_option linter.unusedSimpArgs false

theorem info_int : (Tryd.prog.info? 3).map (fun i => (i.zero, i.size, i.bytes)) = some (some (.int .i64 0), 1, 8) := by kernel_rfl
/-- what the table of the program holds -/
def DigOk (w : World) : Prop := ∀ i, i < 10 → w.cell? ⟨0, i, none⟩ = some (.int .i64 (Lib.bitLen i : Nat))
theorem DigOk.below {w w' : World} (h : DigOk w) (hb : Below w.heap.size w w') : DigOk w' := fun i hi => pw_cell_below hb (h i hi)

set_option maxHeartbeats 400000 in
theorem length_any (n : Nat) (w : World) (hD : DigOk w) (hn : n ≤ 1000000) :
    Calls Tryd.prog 44 #[.int .i64 n] w fun e w' => e = .returned (.int .i64 (Lib.bitLen n : Nat)) ∧ w = w' := by
  by_cases h : n < 10
  · have hc := hD n h
    clear hD
    go_enter Tryd.func44, Tryd.ntmps44
    go_wp2
    go_ret
    exact ⟨rfl, rfl⟩
  · clear hD
    go_enter Tryd.func44, Tryd.ntmps44
    go_wp2_with fail
    refine (Tryd.bits_Len _ w (by omega) (by omega)).mono ?_
    rintro e w1 ⟨rfl, rfl⟩
    rw [Int.toNat_natCast]
    go_wp2
    go_ret
    exact ⟨rfl, rfl⟩

/-- a degree's share -/
def baseN (k d : Nat) : Nat := if d = 1 then 1048576 / k else 1048576 / (d * (d - 1))
def shareN (k s d : Nat) : Nat :=
  max (if s = 0 then baseN k d else if d < k / s then baseN k d + 1048576 * s / (k * d) else if d = k / s then baseN k d + 1048576 * s * Lib.bitLen s / k else baseN k d) 1
def tabN (k s : Nat) : List Int := (List.range k).map fun i => ((shareN k s (i + 1) : Nat) : Int)
theorem tabN_length (k s : Nat) : (tabN k s).length = k := by simp [tabN]
/-- the table filled from its head on -/
def tabF (k s j : Nat) : List Int := (tabN k s).take j ++ List.replicate (k - j) 0
theorem tabF_zero (k s : Nat) : tabF k s 0 = List.replicate k 0 := by simp [tabF]
theorem tabF_all (k s : Nat) : tabF k s k = tabN k s := by simp [tabF, List.take_of_length_le (Nat.le_of_eq (tabN_length k s))]
theorem tabF_length (k s j : Nat) (h : j ≤ k) : (tabF k s j).length = k := by simp [tabF, tabN_length]; omega
theorem tabN_take_succ (k s j : Nat) (h : j < k) : (tabN k s).take (j + 1) = (tabN k s).take j ++ [((shareN k s (j + 1) : Nat) : Int)] := by
  rw [List.take_succ_eq_append_getElem (by rw [tabN_length]; exact h)]
  simp [tabN]
theorem tabF_set (k s j : Nat) (h : j < k) : (tabF k s j).set j ((shareN k s (j + 1) : Nat) : Int) = tabF k s (j + 1) := by
  have h1 : ((tabN k s).take j).length = j := by simp [tabN_length]; omega
  rw [tabF, List.set_append, if_neg (by omega), h1, Nat.sub_self, tabF, tabN_take_succ k s j h, List.append_assoc]
  congr 1
  obtain ⟨d, hd⟩ : ∃ d, k - j = d + 1 := ⟨k - j - 1, by omega⟩
  rw [hd, show k - (j + 1) = d by omega, List.replicate_succ]
  rfl
theorem bitLen_le (s : Nat) : Lib.bitLen s ≤ 64 := by
  have : ∀ f x, Lib.bitLenAux f x ≤ f := by
    intro f
    induction f with
    | zero => intro x; simp [Lib.bitLenAux]
    | succ f ih =>
      intro x
      rw [Lib.bitLenAux]
      split
      · omega
      · have := ih (x / 2); omega
  exact this 64 s

theorem baseN_one (k : Nat) : ((baseN k 1 : Nat) : Int) = 1048576 / (k : Int) := by simp [baseN]
theorem baseN_succ (k j : Nat) (h : 0 < j) : ((baseN k (j + 1) : Nat) : Int) = 1048576 / (((j : Int) + 1) * (j : Int)) := by
  rw [baseN, if_neg (by omega), Nat.add_sub_cancel]; simp
theorem mul_pos_le (a b : Nat) (ha : 0 < a) (hb : 0 < b) (ha' : a ≤ 256) (hb' : b ≤ 256) : (0 : Int) < (a : Int) * (b : Int) ∧ (a : Int) * (b : Int) ≤ 65536 := by
  have h1 : 0 < a * b := Nat.mul_pos ha hb
  have h2 : a * b ≤ 256 * 256 := Nat.mul_le_mul ha' hb'
  rw [← Int.natCast_mul]
  omega
theorem div_range (x y : Int) (h0 : 0 ≤ x) (hy : 0 < y) : 0 ≤ x / y ∧ x / y ≤ x :=
  ⟨Int.ediv_nonneg h0 (by omega), Int.ediv_le_self _ h0⟩

theorem cast_max (a b : Nat) : ((max a b : Nat) : Int) = max (a : Int) (b : Int) := by omega
theorem share_zero (k d : Nat) : ((shareN k 0 d : Nat) : Int) = max ((baseN k d : Nat) : Int) 1 := by rw [shareN, if_pos rfl, cast_max]; rfl
theorem share_lt (k s d : Nat) (hs : 0 < s) (h : d < k / s) : ((shareN k s d : Nat) : Int) = max (((baseN k d : Nat) : Int) + 1048576 * (s : Int) / ((k : Int) * (d : Int))) 1 := by
  rw [shareN, if_neg (by omega), if_pos h, cast_max, Int.natCast_add, Int.natCast_ediv, Int.natCast_mul, Int.natCast_mul]; rfl
theorem share_eq (k s d : Nat) (hs : 0 < s) (h : d = k / s) : ((shareN k s d : Nat) : Int) = max (((baseN k d : Nat) : Int) + 1048576 * (s : Int) * (Lib.bitLen s : Nat) / (k : Int)) 1 := by
  rw [shareN, if_neg (by omega), if_neg (by omega), if_pos h, cast_max, Int.natCast_add, Int.natCast_ediv, Int.natCast_mul, Int.natCast_mul]; rfl
theorem share_gt (k s d : Nat) (hs : 0 < s) (h : ¬ d < k / s) (h' : ¬ d = k / s) : ((shareN k s d : Nat) : Int) = max ((baseN k d : Nat) : Int) 1 := by
  rw [shareN, if_neg (by omega), if_neg h, if_neg h', cast_max]; rfl

set_option maxHeartbeats 2000000 in
theorem Table_any (k s : Nat) (w : World) (hD : DigOk w) (h1 : 1 ≤ k) (h2 : k ≤ 128) (h3 : s ≤ k) :
    Calls Tryd.prog 21 #[.int .i64 k, .int .i64 s] w fun e w' => ∃ v, e = .returned v ∧ Own w' w.heap.size 3 v (nums .i64 (tabN k s)) ∧ Below w.heap.size w w' := by
  have HD := Aside0.mk hD
  clear hD
  have hmk := print_make (P := Tryd.prog) 60 3 .i64 8 Tryd.underlying60 info_int (by decide) k (by omega)
  have HO := Aside0.mk (Own.of_row (own_made w w.heap.size 3 .i64 k (Nat.le_refl _) (by omega)))
  have HB := Aside0.mk ((Below.refl w.heap.size w).alloc (Nat.le_refl _) (.cells (madeCells #[.int .i64 0] k) 3))
  have hlb := bitLen_le s
  have hpk := div_range (k : Int) (s : Int) (by omega)
  have b1 : decide ((k : Int) < 1) = false := decide_eq_false (by omega)
  have b2 : decide ((128 : Int) < (k : Int)) = false := decide_eq_false (by omega)
  have b3 : decide ((s : Int) < 0) = false := decide_eq_false (by omega)
  have b4 : decide (k < s) = false := decide_eq_false (by omega)
  by_cases hs : s = 0
  · subst hs
    clear hpk hlb
    go_enter Tryd.func21, Tryd.ntmps21
    go_wp2
    clear hmk
    generalize w.alloc _ = W at *
    go_loopw [34] (fun i wr => ∃ j : Nat, j ≤ k ∧ i = .int .i64 j ∧ Aside0 (Own wr w.heap.size 3 (.slice (some ⟨w.heap.size, 0, none⟩) k k) (nums .i64 (tabF k 0 j))) ∧ Aside0 (Below w.heap.size w wr))
      (fun i _ => k - (intOf i).toNat)
    case atStart => exact ⟨0, Nat.zero_le _, rfl, ⟨by rw [tabF_zero]; exact HO.out⟩, HB⟩
    case round =>
      obtain ⟨j, hj, rfl, HR, HG⟩ := hrel
      by_cases hlt : j < k
      · obtain ⟨g', cap', hv', hgb, _, _, hcell, hfr⟩ := HR.out.at_ j (by rw [nums_length, tabF_length _ _ _ hj]; omega)
        rw [nums_length, tabF_length _ _ _ hj] at hv'
        cases hv'
        obtain ⟨old, hold⟩ : ∃ old, old = (nums .i64 (tabF k 0 j))[j]'(by rw [nums_length, tabF_length _ _ _ hj]; omega) := ⟨_, rfl⟩
        rw [← hold] at hcell
        clear hold
        have hst := HR.out.set_ j (.int .i64 ((shareN k 0 (j + 1) : Nat) : Int))
        rw [show (nums .i64 (tabF k 0 j)).set j (.int .i64 ((shareN k 0 (j + 1) : Nat) : Int)) = nums .i64 (tabF k 0 (j + 1)) from by rw [← tabF_set k 0 j hlt]; simp [nums, List.map_set]] at hst
        have HST := Aside0.mk hst
        clear hst
        have hq0 := div_range 1048576 (k : Int) (by omega) (by omega)
        obtain ⟨hq1, hq2⟩ := hq0
        by_cases hj0 : j = 0
        · subst hj0
          have HE : Aside0 (((shareN k 0 (0 + 1) : Nat) : Int) = max (1048576 / (k : Int)) 1) := ⟨by rw [share_zero, baseN_one]⟩
          go_wp2
          go_roundw
          case rel =>
            refine ⟨0 + 1, by omega, by go_num, ?_⟩
            have := HST.out
            rw [HE.out] at this
            exact ⟨⟨this.1⟩, ⟨HG.out.setCell hgb _⟩⟩
          case measure => simp [intOf]; omega
        · obtain ⟨hm1, hm2⟩ := mul_pos_le (j + 1) j (by omega) (by omega) (by omega) (by omega)
          have ec : ((j + 1 : Nat) : Int) = (j : Int) + 1 := by omega
          rw [ec] at hm1 hm2
          clear ec
          obtain ⟨hq3, hq4⟩ := div_range 1048576 (((j : Int) + 1) * (j : Int)) (by omega) hm1
          have HE : Aside0 (((shareN k 0 (j + 1) : Nat) : Int) = max (1048576 / (((j : Int) + 1) * (j : Int))) 1) := ⟨by rw [share_zero, baseN_succ k j (by omega)]⟩
          go_wp2
          go_roundw
          case rel =>
            refine ⟨j + 1, by omega, by go_num, ?_⟩
            have := HST.out
            rw [HE.out] at this
            exact ⟨⟨this.1⟩, ⟨HG.out.setCell hgb _⟩⟩
          case measure => simp [intOf]; omega
      · have H := HR.out
        rw [show j = k by omega, tabF_all] at H
        have H' := Aside0.mk H
        clear H
        go_wp2
        go_ret
        exact ⟨_, rfl, H'.out, HG.out⟩
  · have hs' : 0 < s := by omega
    obtain ⟨hp0, hp1⟩ := hpk (by omega)
    clear hpk
    have hbl : (1048576 * (s : Int)) * (Lib.bitLen s : Nat) ≤ 8589934592 ∧ 0 ≤ (1048576 * (s : Int)) * (Lib.bitLen s : Nat) := by
      have : s * Lib.bitLen s ≤ 128 * 64 := Nat.mul_le_mul (by omega) hlb
      have e : (1048576 * (s : Int)) * (Lib.bitLen s : Nat) = 1048576 * ((s * Lib.bitLen s : Nat) : Int) := by rw [Int.mul_assoc, Int.natCast_mul]
      rw [e]; omega
    have hbq := div_range ((1048576 * (s : Int)) * (Lib.bitLen s : Nat)) (k : Int) hbl.2 (by omega)
    have hHD2 := HD
    obtain ⟨hb1, hb2⟩ := hbl
    obtain ⟨hb3, hb4⟩ := hbq
    go_enter Tryd.func21, Tryd.ntmps21
    go_wp2
    clear hmk
    generalize w.alloc _ = W at *
    generalize hP : (k : Int) / (s : Int) = P at *
    have HP := Aside0.mk hP
    clear hP
    go_loopw [34] (fun i wr => ∃ j : Nat, j ≤ k ∧ i = .int .i64 j ∧ Aside0 (Own wr w.heap.size 3 (.slice (some ⟨w.heap.size, 0, none⟩) k k) (nums .i64 (tabF k s j))) ∧ Aside0 (Below w.heap.size w wr))
      (fun i _ => k - (intOf i).toNat)
    case atStart => exact ⟨0, Nat.zero_le _, rfl, ⟨by rw [tabF_zero]; exact HO.out⟩, HB⟩
    case round =>
      obtain ⟨j, hj, rfl, HR, HG⟩ := hrel
      by_cases hlt : j < k
      · obtain ⟨g', cap', hv', hgb, _, _, hcell, hfr⟩ := HR.out.at_ j (by rw [nums_length, tabF_length _ _ _ hj]; omega)
        rw [nums_length, tabF_length _ _ _ hj] at hv'
        cases hv'
        obtain ⟨old, hold⟩ : ∃ old, old = (nums .i64 (tabF k s j))[j]'(by rw [nums_length, tabF_length _ _ _ hj]; omega) := ⟨_, rfl⟩
        rw [← hold] at hcell
        clear hold
        have hst := HR.out.set_ j (.int .i64 ((shareN k s (j + 1) : Nat) : Int))
        rw [show (nums .i64 (tabF k s j)).set j (.int .i64 ((shareN k s (j + 1) : Nat) : Int)) = nums .i64 (tabF k s (j + 1)) from by rw [← tabF_set k s j hlt]; simp [nums, List.map_set]] at hst
        have HST := Aside0.mk hst
        clear hst
        have hq0 := div_range 1048576 (k : Int) (by omega) (by omega)
        obtain ⟨hq1, hq2⟩ := hq0
        by_cases hj0 : j = 0
        · subst hj0
          obtain ⟨hq7, hq8⟩ := div_range (1048576 * (s : Int)) (k : Int) (by omega) (by omega)
          by_cases hd : 0 + 1 < k / s
          · obtain ⟨hm3, hm4⟩ := mul_pos_le k (0 + 1) (by omega) (by omega) (by omega) (by omega)
            obtain ⟨hq5, hq6⟩ := div_range (1048576 * (s : Int)) ((k : Int) * 1) (by omega) hm3
            have hd' : 1 < P := by have := HP.out; omega
            have HE : Aside0 (((shareN k s (0 + 1) : Nat) : Int) = max (1048576 / (k : Int) + 1048576 * (s : Int) / (k : Int)) 1) := ⟨by rw [share_lt k s _ hs' hd, baseN_one]; simp⟩
            go_wp2
            go_roundw
            case rel =>
              refine ⟨0 + 1, by omega, by go_num, ?_⟩
              have := HST.out
              rw [HE.out] at this
              exact ⟨⟨this.1⟩, ⟨HG.out.setCell hgb _⟩⟩
            case measure => simp [intOf]; omega
          · by_cases hd2 : 0 + 1 = k / s
            · obtain rfl : P = 1 := by have := HP.out; omega
              have HE : Aside0 (((shareN k s (0 + 1) : Nat) : Int) = max (1048576 / (k : Int) + 1048576 * (s : Int) * (Lib.bitLen s : Nat) / (k : Int)) 1) := ⟨by rw [share_eq k s _ hs' hd2, baseN_one]⟩
              clear hd hd2
              go_wp2_with (go_at_call 44; refine (length_any s _ (HD.out.below HG.out) (by omega)).mono ?_; rintro e w1 ⟨rfl, rfl⟩)
              go_roundw
              case rel =>
                refine ⟨0 + 1, by omega, by go_num, ?_⟩
                have := HST.out
                rw [HE.out] at this
                exact ⟨⟨this.1⟩, ⟨HG.out.setCell hgb _⟩⟩
              case measure => simp [intOf]; omega
            · have hd' : ((1 : Int) == P) = false := beq_eq_false_iff_ne.2 (by have := HP.out; omega)
              have hd'' : ¬ 1 < P := by have := HP.out; omega
              have HE : Aside0 (((shareN k s (0 + 1) : Nat) : Int) = max (1048576 / (k : Int)) 1) := ⟨by rw [share_gt k s _ hs' hd hd2, baseN_one]⟩
              go_wp2
              go_roundw
              case rel =>
                refine ⟨0 + 1, by omega, by go_num, ?_⟩
                have := HST.out
                rw [HE.out] at this
                exact ⟨⟨this.1⟩, ⟨HG.out.setCell hgb _⟩⟩
              case measure => simp [intOf]; omega
        · obtain ⟨hm1, hm2⟩ := mul_pos_le (j + 1) j (by omega) (by omega) (by omega) (by omega)
          have ec0 : ((j + 1 : Nat) : Int) = (j : Int) + 1 := by omega
          rw [ec0] at hm1 hm2
          clear ec0
          obtain ⟨hq3, hq4⟩ := div_range 1048576 (((j : Int) + 1) * (j : Int)) (by omega) hm1
          by_cases hd : j + 1 < k / s
          · obtain ⟨hm3, hm4⟩ := mul_pos_le k (j + 1) (by omega) (by omega) (by omega) (by omega)
            have ec : ((j + 1 : Nat) : Int) = (j : Int) + 1 := by omega
            rw [ec] at hm3 hm4
            clear ec
            obtain ⟨hq5, hq6⟩ := div_range (1048576 * (s : Int)) ((k : Int) * ((j : Int) + 1)) (by omega) hm3
            have hd' : ((j : Int) + 1) < P := by have := HP.out; omega
            have HE : Aside0 (((shareN k s (j + 1) : Nat) : Int) = max (1048576 / (((j : Int) + 1) * (j : Int)) + 1048576 * (s : Int) / ((k : Int) * ((j : Int) + 1))) 1) := ⟨by rw [share_lt k s _ hs' hd, baseN_succ k j (by omega)]; simp⟩
            go_wp2
            go_roundw
            case rel =>
              refine ⟨j + 1, by omega, by go_num, ?_⟩
              have := HST.out
              rw [HE.out] at this
              exact ⟨⟨this.1⟩, ⟨HG.out.setCell hgb _⟩⟩
            case measure => simp [intOf]; omega
          · by_cases hd2 : j + 1 = k / s
            · obtain rfl : P = ((j : Int) + 1) := by have := HP.out; omega
              have HE : Aside0 (((shareN k s (j + 1) : Nat) : Int) = max (1048576 / (((j : Int) + 1) * (j : Int)) + 1048576 * (s : Int) * (Lib.bitLen s : Nat) / (k : Int)) 1) := ⟨by rw [share_eq k s _ hs' hd2, baseN_succ k j (by omega)]⟩
              clear hd hd2
              go_wp2_with (go_at_call 44; refine (length_any s _ (HD.out.below HG.out) (by omega)).mono ?_; rintro e w1 ⟨rfl, rfl⟩)
              go_roundw
              case rel =>
                refine ⟨j + 1, by omega, by go_num, ?_⟩
                have := HST.out
                rw [HE.out] at this
                exact ⟨⟨this.1⟩, ⟨HG.out.setCell hgb _⟩⟩
              case measure => simp [intOf]; omega
            · have hd' : ((((j : Int) + 1) : Int) == P) = false := beq_eq_false_iff_ne.2 (by have := HP.out; omega)
              have hd'' : ¬ ((j : Int) + 1) < P := by have := HP.out; omega
              have HE : Aside0 (((shareN k s (j + 1) : Nat) : Int) = max (1048576 / (((j : Int) + 1) * (j : Int))) 1) := ⟨by rw [share_gt k s _ hs' hd hd2, baseN_succ k j (by omega)]⟩
              go_wp2
              go_roundw
              case rel =>
                refine ⟨j + 1, by omega, by go_num, ?_⟩
                have := HST.out
                rw [HE.out] at this
                exact ⟨⟨this.1⟩, ⟨HG.out.setCell hgb _⟩⟩
              case measure => simp [intOf]; omega
      · have H := HR.out
        rw [show j = k by omega, tabF_all] at H
        have H' := Aside0.mk H
        clear H
        go_wp2
        go_ret
        exact ⟨_, rfl, H'.out, HG.out⟩

def okT (k s : Int) : Prop := 1 ≤ k ∧ k ≤ 128 ∧ 0 ≤ s ∧ s ≤ k
set_option maxHeartbeats 1000000 in
theorem Table_no (k s : Int) (w : World) (h : ¬ okT k s) :
    Calls Tryd.prog 21 #[.int .i64 k, .int .i64 s] w fun e w' => e = .returned (.slice none 0 0) ∧ w = w' := by
  unfold okT at h
  by_cases h1 : k < 1
  · clear h
    go_enter Tryd.func21, Tryd.ntmps21
    go_wp2
    go_ret
    exact ⟨rfl, rfl⟩
  by_cases h2 : 128 < k
  · clear h
    go_enter Tryd.func21, Tryd.ntmps21
    go_wp2
    go_ret
    exact ⟨rfl, rfl⟩
  by_cases h3 : s < 0
  · clear h
    go_enter Tryd.func21, Tryd.ntmps21
    go_wp2
    go_ret
    exact ⟨rfl, rfl⟩
  · have h4 : k < s := by omega
    clear h
    go_enter Tryd.func21, Tryd.ntmps21
    go_wp2
    go_ret
    exact ⟨rfl, rfl⟩
set_option maxHeartbeats 1000000 in
theorem refTable_no (k s : Int) (w : World) (h : ¬ okT k s) :
    Calls Tryd.prog 38 #[.int .i64 k, .int .i64 s] w fun e w' => e = .returned (.slice none 0 0) ∧ w = w' := by
  unfold okT at h
  by_cases h1 : k < 1
  · clear h
    go_enter Tryd.func38, Tryd.ntmps38
    go_wp2
    go_ret
    exact ⟨rfl, rfl⟩
  by_cases h2 : 128 < k
  · clear h
    go_enter Tryd.func38, Tryd.ntmps38
    go_wp2
    go_ret
    exact ⟨rfl, rfl⟩
  by_cases h3 : s < 0
  · clear h
    go_enter Tryd.func38, Tryd.ntmps38
    go_wp2
    go_ret
    exact ⟨rfl, rfl⟩
  · have h4 : k < s := by omega
    clear h
    go_enter Tryd.func38, Tryd.ntmps38
    go_wp2
    go_ret
    exact ⟨rfl, rfl⟩

/-! ### sums and picks -/
def sumI (l : List Int) : Int := (l.map fun x => max x 0).sum
theorem sumI_nonneg (l : List Int) : 0 ≤ sumI l := by
  induction l with
  | nil => simp [sumI]
  | cons x l ih => simp only [sumI, List.map_cons, List.sum_cons] at ih ⊢; omega
theorem sumI_le (l : List Int) (h : ∀ x ∈ l, x ≤ 1125899906842624) : sumI l ≤ 1125899906842624 * (l.length : Int) := by
  induction l with
  | nil => simp [sumI]
  | cons x l ih =>
    have h1 := ih (fun y hy => h y (by simp [hy]))
    have h2 := h x (by simp)
    simp only [sumI, List.map_cons, List.sum_cons, List.length_cons] at h1 ⊢
    omega
theorem sumI_snoc (l : List Int) (k : Nat) (h : k < l.length) : sumI (l.take (k + 1)) = sumI (l.take k) + max l[k] 0 := by
  rw [List.take_succ_eq_append_getElem h, sumI, List.map_append, List.sum_append]; simp [sumI]
/-- the place at which the shares are in sum more than x -/
def pickAt : List Int → Int → Nat → Int
  | [], _, _ => 0
  | w :: l, x, i => if x < max w 0 then ((i + 1 : Nat) : Int) else pickAt l (x - max w 0) (i + 1)
def pickI (l : List Int) (d : Int) : Int := if sumI l = 0 then 0 else pickAt l (d % sumI l) 0
theorem drop_at {α : Type} (l : List α) (k : Nat) (h : k < l.length) : l.drop k = l[k] :: l.drop (k + 1) := List.drop_eq_getElem_cons h
theorem pickAt_yes (l : List Int) (k : Nat) (h : k < l.length) (x : Int) (hx : x < max l[k] 0) : pickAt (l.drop k) x k = (k : Int) + 1 := by
  rw [drop_at l k h, pickAt, if_pos hx]; omega
theorem pickAt_no (l : List Int) (k : Nat) (h : k < l.length) (x : Int) (hx : ¬ x < max l[k] 0) : pickAt (l.drop k) x k = pickAt (l.drop (k + 1)) (x - max l[k] 0) (k + 1) := by
  rw [drop_at l k h, pickAt, if_neg hx]
theorem pickAt_end (l : List Int) (k : Nat) (h : l.length ≤ k) (x : Int) : pickAt (l.drop k) x k = 0 := by
  rw [List.drop_eq_nil_of_le h]; rfl
def fewI (l : List Int) : Prop := l.length ≤ 1000 ∧ ∀ x ∈ l, x ≤ 1125899906842624
theorem fewI_sum {l : List Int} (h : fewI l) (k : Nat) : 0 ≤ sumI (l.take k) ∧ sumI (l.take k) ≤ 1125899906842624000 := by
  refine ⟨sumI_nonneg _, ?_⟩
  have := sumI_le (l.take k) (mem_take h.2)
  have h1 := h.1
  rw [List.length_take] at this
  omega
theorem fewI_sum' {l : List Int} (h : fewI l) : 0 ≤ sumI l ∧ sumI l ≤ 1125899906842624000 := by
  have := fewI_sum h l.length
  rwa [List.take_length] at this
theorem fewI_at {l : List Int} (h : fewI l) (k : Nat) (hk : k < l.length) : l[k] ≤ 1125899906842624 := h.2 _ (List.getElem_mem hk)

set_option maxHeartbeats 400000 in
theorem Sum_any (A : Option Addr) (c : Nat) (l : List Int) (w : World) (hC : (Kd.int .i64).C w A l.length l) (hf : fewI l) :
    Calls Tryd.prog 46 #[.slice A l.length c] w fun e w' => e = .returned (.int .i64 (sumI l)) ∧ w = w' := by
  have hm := C_max hC
  have HC := Aside0.mk hC
  have HF := Aside0.mk hf
  clear hC hf
  go_enter Tryd.func46, Tryd.ntmps46
  go_wp2
  go_loop [3, 8] (fun n i => ∃ k : Nat, k ≤ l.length ∧ i = .int .i64 k ∧ n = .int .i64 (sumI (l.take k))) (fun _ i => l.length - (intOf i).toNat)
  case atStart => exact ⟨0, Nat.zero_le _, rfl, rfl⟩
  case round =>
    obtain ⟨k, hk, rfl, rfl⟩ := hrel
    by_cases hlt : k < l.length
    · obtain ⟨ad, rfl, hc⟩ := at_i HC.out k hlt
      obtain ⟨hs0, hs1⟩ := fewI_sum HF.out k
      have hle := fewI_at HF.out k hlt
      have HS := Aside0.mk (sumI_snoc l k hlt)
      generalize hX : l[k] = X at hc hle
      have HX := Aside0.mk hX
      clear hX
      have hmx0 : 0 ≤ max X 0 := by omega
      have hmx1 : max X 0 ≤ 1125899906842624 := by omega
      go_wp2
      go_round
      case rel => exact ⟨k + 1, by omega, by go_num, by rw [HS.out, HX.out]⟩
      case measure => simp [intOf]; omega
    · have HE := Aside0.mk (List.take_of_length_le (show l.length ≤ k by omega))
      go_wp2
      go_ret
      exact ⟨by rw [HE.out]; rfl, rfl⟩
set_option maxHeartbeats 400000 in
theorem refSum_any (A : Option Addr) (c : Nat) (l : List Int) (w : World) (hC : (Kd.int .i64).C w A l.length l) (hf : fewI l) :
    Calls Tryd.prog 55 #[.slice A l.length c] w fun e w' => e = .returned (.int .i64 (sumI l)) ∧ w = w' := by
  have hm := C_max hC
  have HC := Aside0.mk hC
  have HF := Aside0.mk hf
  clear hC hf
  go_enter Tryd.func55, Tryd.ntmps55
  go_wp2
  go_loop [3, 4] (fun n i => ∃ k : Nat, k ≤ l.length ∧ i = .int .i64 k ∧ n = .int .i64 (sumI (l.take k))) (fun _ i => l.length - (intOf i).toNat)
  case atStart => exact ⟨0, Nat.zero_le _, rfl, rfl⟩
  case round =>
    obtain ⟨k, hk, rfl, rfl⟩ := hrel
    by_cases hlt : k < l.length
    · obtain ⟨ad, rfl, hc⟩ := at_i HC.out k hlt
      obtain ⟨hs0, hs1⟩ := fewI_sum HF.out k
      have hle := fewI_at HF.out k hlt
      have HS := Aside0.mk (sumI_snoc l k hlt)
      generalize hX : l[k] = X at hc hle
      have HX := Aside0.mk hX
      clear hX
      have hmx0 : 0 ≤ max X 0 := by omega
      have hmx1 : max X 0 ≤ 1125899906842624 := by omega
      go_wp2
      go_round
      case rel => exact ⟨k + 1, by omega, by go_num, by rw [HS.out, HX.out]⟩
      case measure => simp [intOf]; omega
    · have HE := Aside0.mk (List.take_of_length_le (show l.length ≤ k by omega))
      go_wp2
      go_ret
      exact ⟨by rw [HE.out]; rfl, rfl⟩

set_option maxHeartbeats 400000 in
theorem Pick_any (A : Option Addr) (c : Nat) (l : List Int) (d : Int) (w : World) (hC : (Kd.int .i64).C w A l.length l) (hf : fewI l) (hd0 : 0 ≤ d) (hd1 : d ≤ 18446744073709551615) :
    Calls Tryd.prog 24 #[.slice A l.length c, .int .u64 d] w fun e w' => e = .returned (.int .i64 (pickI l d)) ∧ w = w' := by
  have hm := C_max hC
  have HC := Aside0.mk hC
  have HF := Aside0.mk hf
  obtain ⟨hs0, hs1⟩ := fewI_sum' hf
  clear hC hf
  have HS := fun w' h => Sum_any A c l w' h HF.out
  have HSum := Aside0.mk HS
  clear HS
  by_cases hz : sumI l = 0
  · have HP : Aside0 (pickI l d = 0) := ⟨by rw [pickI, if_pos hz]⟩
    have HSum2 := HSum.out w HC.out
    rw [hz] at HSum2
    have HSum3 := Aside0.mk HSum2
    clear hz hs0 hs1 HSum HSum2
    go_enter Tryd.func24, Tryd.ntmps24
    go_wp2_with fail
    refine (HSum3.out).mono ?_
    rintro e w1 ⟨rfl, rfl⟩
    go_wp2
    go_ret
    exact ⟨by rw [HP.out]; rfl, rfl⟩
  · have HP : Aside0 (pickI l d = pickAt (l.drop 0) (d % sumI l) 0) := ⟨by rw [pickI, if_neg hz, List.drop_zero]⟩
    generalize hS : sumI l = S at *
    have hp : 0 < S := by omega
    clear hS hz
    have hx0 : 0 ≤ d % S := Int.emod_nonneg _ (by omega)
    have hx1 : d % S < S := Int.emod_lt_of_pos _ hp
    go_enter Tryd.func24, Tryd.ntmps24
    go_wp2_with fail
    refine (HSum.out w HC.out).mono ?_
    rintro e w1 ⟨rfl, rfl⟩
    clear HSum
    go_wp2
    go_outline
    generalize d % S = x0 at *
    go_loop [6, 20] (fun x i => ∃ (k : Nat) (y : Int), k ≤ l.length ∧ i = .int .i64 k ∧ x = .int .u64 y ∧ 0 ≤ y ∧ y < S ∧ Aside0 (pickI l d = pickAt (l.drop k) y k)) (fun _ i => l.length - (intOf i).toNat)
    case atStart => exact ⟨0, x0, Nat.zero_le _, rfl, rfl, hx0, hx1, HP⟩
    case round =>
      obtain ⟨k, y, hk, rfl, rfl, hy0, hy1, HK⟩ := hrel
      by_cases hlt : k < l.length
      · obtain ⟨ad, rfl, hc⟩ := at_i HC.out k hlt
        have hle := fewI_at HF.out k hlt
        have HY := Aside0.mk (pickAt_yes l k hlt y)
        have HN := Aside0.mk (pickAt_no l k hlt y)
        generalize hX : l[k] = X at hc hle HY HN
        clear hX
        by_cases hX0 : 0 ≤ X
        · have em : max X 0 = X := by omega
          rw [em] at HY HN
          clear em
          by_cases hyx : y < X
          · go_wp2
            go_ret
            exact ⟨by rw [HK.out, HY.out hyx]; rfl, rfl⟩
          · go_wp2
            go_round
            case rel => exact ⟨k + 1, y - X, by omega, by go_num, by go_num, by omega, by omega, ⟨by rw [HK.out, HN.out hyx]⟩⟩
            case measure => simp [intOf]; omega
        · have em : max X 0 = 0 := by omega
          rw [em] at HY HN
          clear em
          go_wp2
          go_round
          case rel => exact ⟨k + 1, y, by omega, by go_num, by go_num, by omega, by omega, ⟨by rw [HK.out, HN.out (by omega), Int.sub_zero]⟩⟩
          case measure => simp [intOf]; omega
      · have HE := Aside0.mk (pickAt_end l k (by omega) y)
        go_wp2
        go_ret
        exact ⟨by rw [HK.out, HE.out]; rfl, rfl⟩

end Go.Proofs.YtcelfpgkeeaggaaDoor.Soliton
