/- The laws' helpers and their walks. -/
import Derived.Test.YtcingdhgohakkabDoorSolitonB
namespace Go.Proofs.YtcingdhgohakkabDoor.SolitonL
open Go Go.RowKit Go.Proofs.YtcingdhgohakkabDoorW.PrintWords Go.Proofs.YtcingdhgohakkabDoor.Base Go.Proofs.YtcingdhgohakkabDoor.Soliton Go.Proofs.YtcingdhgohakkabDoor.SolitonB
set_option linter.unusedVariables false
set_option linter.unusedSimpArgs false

theorem ints_ne {a b : List Int} (k : Nat) (ha : k < a.length) (hb : k < b.length) (h : a[k] ≠ b[k]) : decide (a = b) = false := by
  apply decide_eq_false
  rintro rfl
  exact h rfl
set_option maxHeartbeats 400000 in
theorem Ints_any (A B : Option Addr) (ca cb : Nat) (a b : List Int) (w : World) (hA : (Kd.int .i64).C w A a.length a) (hB : (Kd.int .i64).C w B b.length b) :
    Calls Tryd.prog 8 #[.slice A a.length ca, .slice B b.length cb] w fun e w' => e = .returned (.bool (decide (a = b))) ∧ Below w.heap.size w w' := by
  have hm := C_max hA
  have hm2 := C_max hB
  have HA := Aside0.mk hA
  have HB := Aside0.mk hB
  clear hA hB
  by_cases hl : a.length = b.length
  · have HL := Aside0.mk hl
    have h1 : ((a.length : Int) != (b.length : Int)) = false := bne_eq_false_iff_eq.2 (by omega)
    have h2 : (a.length != b.length) = false := bne_eq_false_iff_eq.2 hl
    clear hl
    go_enter Tryd.func8, Tryd.ntmps8
    go_wp2
    go_loopw [5] (fun i wr => ∃ k : Nat, k ≤ a.length ∧ i = .int .i64 k ∧ Aside0 (∀ j (h1 : j < a.length) (h2 : j < b.length), j < k → a[j] = b[j]) ∧ Aside0 (Below w.heap.size w wr)) (fun i _ => a.length - (intOf i).toNat)
    case atStart => exact ⟨0, Nat.zero_le _, rfl, ⟨fun j _ _ h => by omega⟩, ⟨Below.refl _ _⟩⟩
    case round =>
      obtain ⟨k, hk, rfl, HP, HG⟩ := hrel
      by_cases hlt : k < a.length
      · have hlb : k < b.length := by have := HL.out; omega
        obtain ⟨ad, rfl, hc1⟩ := at_i (Kd.C_below HA.out HG.out) k hlt
        obtain ⟨bd, rfl, hc2⟩ := at_i (Kd.C_below HB.out HG.out) k hlb
        have q1 : (0 : Int) ≤ (k : Int) := by omega
        have q2 : (k : Int) < (a.length : Int) := by omega
        have q3 : (k : Int) < (b.length : Int) := by omega
        by_cases he : a[k] = b[k]
        · have HN : Aside0 (∀ j (h1 : j < a.length) (h2 : j < b.length), j < k + 1 → a[j] = b[j]) := ⟨fun j h1 h2 h => by
            by_cases e : j = k
            · subst e; exact he
            · exact HP.out j h1 h2 (by omega)⟩
          have hne : (a[k] != b[k]) = false := bne_eq_false_iff_eq.2 he
          clear he
          go_wp2
          go_quiet (fail)
          go_wp2
          go_roundw
          case rel => exact ⟨k + 1, by omega, by go_num, HN, ⟨pw_below_drewN HG.out _⟩⟩
          case measure => simp [intOf]; omega
        · have hne : (a[k] != b[k]) = true := bne_iff_ne.2 he
          have HE := Aside0.mk (ints_ne k hlt hlb he)
          clear he
          go_wp2
          go_quiet (fail)
          go_wp2
          go_ret
          exact ⟨by rw [HE.out]; rfl, pw_below_drewN HG.out _⟩
      · have HE : Aside0 (decide (a = b) = true) := ⟨decide_eq_true (List.ext_getElem HL.out (fun j h1 h2 => HP.out j h1 h2 (by omega)))⟩
        go_wp2
        go_ret
        exact ⟨by rw [HE.out]; rfl, HG.out⟩
  · have HE : Aside0 (decide (a = b) = false) := ⟨decide_eq_false (fun e => hl (by rw [e]))⟩
    have h1 : ((a.length : Int) != (b.length : Int)) = true := bne_iff_ne.2 (by omega)
    have h2 : (a.length != b.length) = true := bne_iff_ne.2 hl
    clear hl
    go_enter Tryd.func8, Tryd.ntmps8
    go_wp2
    go_ret
    exact ⟨by rw [HE.out]; rfl, Below.refl _ _⟩

set_option maxHeartbeats 400000 in
theorem few_yes (A : Option Addr) (c : Nat) (l : List Int) (w : World) (hC : (Kd.int .i64).C w A l.length l) (hf : fewI l) :
    Calls Tryd.prog 12 #[.slice A l.length c] w fun e w' => e = .returned (.bool true) ∧ w = w' := by
  have hm := C_max hC
  have HC := Aside0.mk hC
  have HF := Aside0.mk hf
  have h1 := hf.1
  clear hC hf
  go_enter Tryd.func12, Tryd.ntmps12
  go_wp2
  go_loop [3] (fun i => ∃ k : Nat, k ≤ l.length ∧ i = .int .i64 k) (fun i => l.length - (intOf i).toNat)
  case atStart => exact ⟨0, Nat.zero_le _, rfl⟩
  case round =>
    obtain ⟨k, hk, rfl⟩ := hrel
    by_cases hlt : k < l.length
    · obtain ⟨ad, rfl, hc⟩ := at_i HC.out k hlt
      have hle := fewI_at HF.out k hlt
      generalize hX : l[k] = X at hc hle
      clear hX
      go_wp2
      go_round
      case rel => exact ⟨k + 1, by omega, by go_num⟩
      case measure => simp [intOf]; omega
    · go_wp2
      go_ret
      exact ⟨rfl, rfl⟩
set_option maxHeartbeats 400000 in
theorem few_no (A : Option Addr) (c : Nat) (l : List Int) (w : World) (hC : (Kd.int .i64).C w A l.length l) (hf : ¬ fewI l) :
    Calls Tryd.prog 12 #[.slice A l.length c] w fun e w' => e = .returned (.bool false) ∧ w = w' := by
  have hm := C_max hC
  have HC := Aside0.mk hC
  have HF := Aside0.mk hf
  clear hC hf
  by_cases h1 : 1000 < l.length
  · go_enter Tryd.func12, Tryd.ntmps12
    go_wp2
    go_ret
    exact ⟨rfl, rfl⟩
  · go_enter Tryd.func12, Tryd.ntmps12
    go_wp2
    go_loop [3] (fun i => ∃ k : Nat, k ≤ l.length ∧ i = .int .i64 k ∧ Aside0 (∀ j (hj : j < l.length), j < k → l[j] ≤ 1125899906842624)) (fun i => l.length - (intOf i).toNat)
    case atStart => exact ⟨0, Nat.zero_le _, rfl, ⟨fun j _ h => by omega⟩⟩
    case round =>
      obtain ⟨k, hk, rfl, HP⟩ := hrel
      by_cases hlt : k < l.length
      · obtain ⟨ad, rfl, hc⟩ := at_i HC.out k hlt
        have HN : l[k] ≤ 1125899906842624 → Aside0 (∀ j (hj : j < l.length), j < k + 1 → l[j] ≤ 1125899906842624) := fun hle => ⟨fun j hj h => by
            by_cases e : j = k
            · subst e; exact hle
            · exact HP.out j hj (by omega)⟩
        have HN' := Aside0.mk HN
        clear HN
        generalize hX : l[k] = X at hc HN'
        clear hX
        by_cases hle : X ≤ 1125899906842624
        · have HQ := HN'.out hle
          go_wp2
          go_round
          case rel => exact ⟨k + 1, by omega, by go_num, HQ⟩
          case measure => simp [intOf]; omega
        · go_wp2
          go_ret
          exact ⟨rfl, rfl⟩
      · exact absurd (show fewI l from ⟨by omega, fun x hx => by obtain ⟨j, hj, rfl⟩ := List.getElem_of_mem hx; exact HP.out j hj (by omega)⟩) HF.out

theorem fewI_tab (k s : Nat) (h1 : 1 ≤ k) (h2 : k ≤ 128) (h3 : s ≤ k) : fewI (tabN k s) := by
  refine ⟨by rw [tabN_length]; omega, fun x hx => ?_⟩
  simp only [tabN, List.mem_map, List.mem_range] at hx
  obtain ⟨i, hi, rfl⟩ := hx
  have hb : baseN k (i + 1) ≤ 1048576 := by rw [baseN]; split <;> exact Nat.div_le_self _ _
  have h4 : 1048576 * s / (k * (i + 1)) ≤ 1048576 * s := Nat.div_le_self _ _
  have h5 : 1048576 * s * Lib.bitLen s / k ≤ 1048576 * s * Lib.bitLen s := Nat.div_le_self _ _
  have h6 : 1048576 * s * Lib.bitLen s ≤ 1048576 * 128 * 64 := Nat.mul_le_mul (Nat.mul_le_mul (Nat.le_refl _) (by omega)) (bitLen_le s)
  have : shareN k s (i + 1) ≤ 1125899906842624 := by
    rw [shareN]
    split
    · omega
    · split
      · omega
      · split <;> omega
  omega

theorem e1 : tabN 2 0 = [524288, 524288] := by decide +kernel
theorem e2 : pickI [3, 0, 2] 8 = 3 := by decide +kernel
theorem e3 : pickI [3, 0, 2] 2 = 1 := by decide +kernel
theorem e4 : sumI [3, -1, 2] = 5 := by decide +kernel
theorem e5 : pickI [] 1 = 0 := by decide +kernel
theorem few5 (l : List Int) (h : l.length ≤ 5) (h' : ∀ x ∈ l, x ≤ 1000) : fewI l := ⟨by omega, fun x hx => by have := h' x hx; omega⟩

set_option maxHeartbeats 400000 in
theorem awake_any (w : World) (hD : DigOk w) : Calls Tryd.prog 11 #[] w fun e w' => e = .returned (.bool true) ∧ Below w.heap.size w w' := by
  have HD := Aside0.mk hD
  clear hD
  go_enter Tryd.func11, Tryd.ntmps11
  go_wp2_with fail
  refine (Table_any 2 0 w HD.out (by decide) (by decide) (by decide)).mono ?_
  rintro e w1 ⟨v, rfl, hO, hb1⟩
  obtain ⟨Av, cv, rfl, _, hC⟩ := hO.C_int
  rw [e1] at hC
  rw [tabN_length]
  have HC := Aside0.mk hC
  have HB1 := Aside0.mk hb1
  clear hO hC hb1
  go_wp2_with fail
  generalize hW : w1.alloc _ = W1
  have HW1 := Aside0.mk (show Below w1.heap.size w1 W1 by rw [← hW]; exact (Below.refl _ _).alloc (Nat.le_refl _) _)
  have HCb := Aside0.mk (show (Kd.int .i64).C W1 (some ⟨w1.heap.size, 0, none⟩) 2 [524288, 524288] by rw [← hW]; exact C_litI [524288, 524288] (hp_new _ _ _ rfl) (by decide))
  clear hW
  refine (Ints_any _ _ _ _ [524288, 524288] [524288, 524288] W1 (Kd.C_below HC.out HW1.out) HCb.out).mono ?_
  rintro e w2 ⟨rfl, hb2⟩
  have HB2 := Aside0.mk (bthn (bthn HB1.out (Nat.le_refl _) HW1.out) (Nat.le_refl _) hb2)
  rw [decide_eq_true rfl]
  clear hb2 HC HCb HW1
  go_wp2_with fail
  generalize hW : w2.alloc _ = W3
  have HW3 := Aside0.mk (show Below w.heap.size w W3 by rw [← hW]; exact bal HB2.out (Nat.le_refl _) _)
  have HC3 := Aside0.mk (show (Kd.int .i64).C W3 (some ⟨w2.heap.size, 0, none⟩) 3 [3, 0, 2] by rw [← hW]; exact C_litI [3, 0, 2] (hp_new _ _ _ rfl) (by decide))
  clear hW
  refine (Pick_any _ _ [3, 0, 2] 8 W3 HC3.out (few5 _ (by decide) (by decide)) (by decide) (by decide)).mono ?_
  rintro e w3 ⟨rfl, rfl⟩
  rw [e2]
  go_wp2_with fail
  generalize hW : W3.alloc _ = W4
  have HW4 := Aside0.mk (show Below w.heap.size w W4 by rw [← hW]; exact bal HW3.out (Nat.le_refl _) _)
  have HC4 := Aside0.mk (show (Kd.int .i64).C W4 (some ⟨W3.heap.size, 0, none⟩) 3 [3, 0, 2] by rw [← hW]; exact C_litI [3, 0, 2] (hp_new _ _ _ rfl) (by decide))
  clear hW
  refine (Pick_any _ _ [3, 0, 2] 2 W4 HC4.out (few5 _ (by decide) (by decide)) (by decide) (by decide)).mono ?_
  rintro e w4 ⟨rfl, rfl⟩
  rw [e3]
  go_wp2_with fail
  generalize hW : W4.alloc _ = W5
  have HW5 := Aside0.mk (show Below w.heap.size w W5 by rw [← hW]; exact bal HW4.out (Nat.le_refl _) _)
  have HC5 := Aside0.mk (show (Kd.int .i64).C W5 (some ⟨W4.heap.size, 0, none⟩) 3 [3, -1, 2] by rw [← hW]; exact C_litI [3, -1, 2] (hp_new _ _ _ rfl) (by decide))
  clear hW
  refine (Sum_any _ _ [3, -1, 2] W5 HC5.out (few5 _ (by decide) (by decide))).mono ?_
  rintro e w5 ⟨rfl, rfl⟩
  rw [e4]
  go_wp2_with fail
  refine (Pick_any none 0 [] 1 W5 ⟨rfl, by decide, fun h => absurd h (by decide)⟩ (few5 _ (by decide) (by decide)) (by decide) (by decide)).mono ?_
  rintro e w6 ⟨rfl, rfl⟩
  rw [e5]
  go_wp2_with fail
  refine (Table_no 0 0 W5 (by unfold okT; omega)).mono ?_
  rintro e w7 ⟨rfl, rfl⟩
  go_wp2
  go_ret
  exact ⟨rfl, HW5.out⟩

end Go.Proofs.YtcingdhgohakkabDoor.SolitonL
