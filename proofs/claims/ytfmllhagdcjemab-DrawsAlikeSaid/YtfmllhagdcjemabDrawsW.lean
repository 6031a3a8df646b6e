/- The example of chapter 11; the walks of the laws DrawsNone, DrawsBelow. -/
import Derived.Test.YtfmllhagdcjemabDrawsF
import Derived.Test.YtfmllhagdcjemabInts
namespace Go.Proofs.Ytfmllhagdcjemab.DrawsW
open Go Go.RowKit Go.Proofs.YtfmllhagdcjemabW.PrintWords Go.Proofs.Ytfmllhagdcjemab.Base Go.Proofs.Ytfmllhagdcjemab.Draws Go.Proofs.Ytfmllhagdcjemab.DrawsP Go.Proofs.Ytfmllhagdcjemab.DrawsD Go.Proofs.Ytfmllhagdcjemab.DrawsE Go.Proofs.Ytfmllhagdcjemab.DrawsF
set_option linter.unusedVariables false
set_option linter.unusedSimpArgs false

theorem below_grown {B g : Nat} {w w1 w2 : World} (h : Below B w w1) (hB : B ≤ w1.heap.size) (hg : w1.grownBy w2 (some g)) (hbg : B ≤ g) : Below B w w2 := h.grown hg hB (fun k hk => by cases hk; exact hbg)
theorem ex1 : belowV [5, 1] 0 3 = 2 ∧ belowN 0 3 = 1 := by decide +kernel
theorem ex2 : resD [5, 1] 1 2 1 = [1] := by decide +kernel
theorem ex3 : encW (nextV [5, 1] 2) = .int .u64 15755400384260043839 := by
  rw [encW]; congr 1

set_option maxHeartbeats 800000 in
theorem awake_any (w : World) : Calls Try.prog 8 #[] w fun e w' => e = .returned (.bool true) ∧ Below w.heap.size w w' := by
  have e1 := ex1
  have e2 := ex2
  have e3 := ex3
  obtain ⟨l, hl⟩ : ∃ l : List UInt64, l = [5, 1] := ⟨_, rfl⟩
  have hll : l.length = 2 := by rw [hl]; rfl
  rw [← hl] at e1 e2 e3
  go_enter Try.func8, Try.ntmps8
  go_wp2_with fail
  generalize hW : w.alloc _ = W1
  have HW1 := Aside0.mk (show Below w.heap.size w W1 by rw [← hW]; exact (Below.refl _ _).alloc (Nat.le_refl _) _)
  have HCb := Aside0.mk (show Kw.C W1 (some ⟨w.heap.size, 0, none⟩) l.length l by rw [← hW, hl]; exact C_litW [5, 1] (hp_new _ _ _ rfl) (by decide))
  clear hW
  have hnew := New_any (some ⟨w.heap.size, 0, none⟩) 2 l W1 HCb.out (fun ad h => by cases h; rfl) (by omega)
  rw [hll] at hnew
  refine hnew.mono ?_
  rintro e w2 ⟨b, g, rfl, hbb, hD, hb2⟩
  have HD := Aside0.mk hD
  have HB2 := Aside0.mk (bthn HW1.out (Nat.le_refl _) hb2)
  have hwb : w.heap.size ≤ b := Nat.le_trans HW1.out.size hbb
  have hbg := hD.bg
  have hgl := hD.lt
  clear hD hb2 hnew HCb hbb
  go_wp2_with fail
  have hc := Below_any b g _ l 0 3 w2 HD.out (by omega) (by omega) (by omega)
  rw [e1.1, e1.2] at hc
  refine hc.mono ?_
  rintro e w3 ⟨rfl, hD3, hG3⟩
  have HD3 := Aside0.mk hD3
  have HB3 := Aside0.mk (below_grown HB2.out HB2.out.size hG3 (Nat.le_trans hwb hbg))
  clear hD3 hG3 hc HD HB2
  go_wp2_with fail
  have hc := Distinct_any b g _ l 1 2 1 1 w3 HD3.out (by omega) (by omega) (by omega) (by omega) (by decide)
  rw [e2] at hc
  refine hc.mono ?_
  rintro e w4 ⟨v4, rfl, hO4, hD4, hG4⟩
  obtain ⟨A4, c4, rfl, _, hC4⟩ := hO4.C_int
  have HD4 := Aside0.mk hD4
  have HC4 := Aside0.mk hC4
  have HB4 := Aside0.mk (below_grown HB3.out HB3.out.size hG4 (Nat.le_trans hwb hbg))
  clear hO4 hD4 hG4 hC4 hc HD3 HB3
  go_wp2_with fail
  generalize hW : w4.alloc _ = W5
  have HW5 := Aside0.mk (show Below w4.heap.size w4 W5 by rw [← hW]; exact (Below.refl _ _).alloc (Nat.le_refl _) _)
  have HC5 := Aside0.mk (show (Kd.int .i64).C W5 (some ⟨w4.heap.size, 0, none⟩) 1 [1] by rw [← hW]; exact C_litI [1] (hp_new _ _ _ rfl) (by decide))
  clear hW
  refine (Ints.Ints_any _ _ _ _ [1] [1] W5 (Kd.C_below HC4.out HW5.out) HC5.out).mono ?_
  rintro e w6 ⟨rfl, hb6⟩
  rw [decide_eq_true rfl]
  have HB6 := Aside0.mk (bthn (bthn HB4.out (Nat.le_refl _) HW5.out) (Nat.le_refl _) hb6)
  have HD6 := Aside0.mk ((HD4.out.below HW5.out).below hb6)
  clear hb6 HC4 HC5 HW5 HD4 HB4
  go_wp2_with fail
  refine (Used_any b g _ l 2 w6 HD6.out).mono ?_
  rintro e w7 ⟨rfl, rfl⟩
  go_wp2_with fail
  have hc := Next_any b g _ l 2 w6 HD6.out (by omega)
  rw [e3] at hc
  refine hc.mono ?_
  rintro e w7 ⟨rfl, hD7, hG7⟩
  have HB7 := Aside0.mk (below_grown HB6.out HB6.out.size hG7 (Nat.le_trans hwb hbg))
  clear hD7 hG7 hc
  go_wp2
  go_ret
  exact ⟨rfl, HB7.out⟩

theorem Next_nil (w : World) : Calls Try.prog 16 #[.pointer none] w fun e w' => e = .returned (.int .u64 0) ∧ w = w' := by
  go_enter Try.func16, Try.ntmps16
  go_wp2
  go_ret
  exact ⟨rfl, rfl⟩
theorem Below_nil (n : Int) (w : World) : Calls Try.prog 10 #[.pointer none, .int .i64 n] w fun e w' => e = .returned (.int .i64 0) ∧ w = w' := by
  go_enter Try.func10, Try.ntmps10
  go_wp2
  go_ret
  exact ⟨rfl, rfl⟩
theorem Distinct_nil (n k : Int) (w : World) : Calls Try.prog 13 #[.pointer none, .int .i64 n, .int .i64 k] w fun e w' => e = .returned (.slice none 0 0) ∧ w = w' := by
  go_enter Try.func13, Try.ntmps13
  go_wp2
  go_ret
  exact ⟨rfl, rfl⟩
theorem Used_nil (w : World) : Calls Try.prog 15 #[.pointer none] w fun e w' => e = .returned (.int .i64 0) ∧ w = w' := by
  go_enter Try.func15, Try.ntmps15
  go_wp2
  go_ret
  exact ⟨rfl, rfl⟩

set_option maxHeartbeats 400000 in
theorem DrawsNone (n k : Int) (w : World) :
    Calls Try.prog 7 #[.int .i64 n, .int .i64 k] w fun e w' => e = .returned (.bool true) ∧ Below w.heap.size w w' := by
  go_enter Try.func7, Try.ntmps7
  go_wp2_with fail
  refine (Next_nil w).mono ?_
  rintro e w1 ⟨rfl, rfl⟩
  go_wp2_with fail
  refine (Below_nil n w).mono ?_
  rintro e w1 ⟨rfl, rfl⟩
  go_wp2_with fail
  refine (Distinct_nil n k w).mono ?_
  rintro e w1 ⟨rfl, rfl⟩
  go_wp2_with fail
  refine (Used_nil w).mono ?_
  rintro e w1 ⟨rfl, rfl⟩
  go_wp2_with fail
  refine (awake_any w).mono ?_
  rintro e w1 ⟨rfl, hb⟩
  go_wp2
  go_ret
  exact ⟨rfl, hb⟩

set_option maxHeartbeats 400000 in
theorem DrawsBelow (A : Option Addr) (c : Nat) (l : List UInt64) (n : Int) (w : World) (hC : Kw.C w A l.length l) (hsp : ∀ ad, A = some ad → ad.spot = none) (hn0 : -9223372036854775808 ≤ n) (hn1 : n ≤ 9223372036854775807) :
    Calls Try.prog 5 #[.slice A l.length c, .int .i64 n] w fun e w' => e = .returned (.bool true) ∧ Below w.heap.size w w' := by
  have hm := C_max hC
  by_cases h3 : 1000 < l.length
  · go_enter Try.func5, Try.ntmps5
    go_wp2_with fail
    refine (awake_any w).mono ?_
    rintro e w2 ⟨rfl, hb⟩
    go_wp2
    go_ret
    exact ⟨rfl, hb⟩
  · have hnew := New_any A c l w hC hsp (by omega)
    clear hC
    go_enter Try.func5, Try.ntmps5
    go_wp2_with fail
    refine hnew.mono ?_
    rintro e w2 ⟨b, g, rfl, hbb, hD, hb2⟩
    have HD := Aside0.mk hD
    have HB2 := Aside0.mk hb2
    have hbg := hD.bg
    clear hD hb2 hnew
    have hc := Below_any b g _ l 0 n w2 HD.out (by omega) hn0 hn1
    by_cases hn : n < 1
    · rw [(belowV_no l 0 hn).1, (belowV_no l 0 hn).2] at hc
      go_wp2_with fail
      refine hc.mono ?_
      rintro e w3 ⟨rfl, hD3, hG3⟩
      have HD3 := Aside0.mk hD3
      have HB3 := Aside0.mk (below_grown HB2.out HB2.out.size hG3 (Nat.le_trans hbb hbg))
      clear hD3 hG3 hc HD HB2
      go_wp2_with fail
      refine (Used_any b g _ l 0 w3 HD3.out).mono ?_
      rintro e w7 ⟨rfl, rfl⟩
      go_wp2_with fail
      refine (awake_any w3).mono ?_
      rintro e w4 ⟨rfl, hb4⟩
      go_wp2
      go_ret
      exact ⟨rfl, bthn HB3.out (Nat.le_refl _) hb4⟩
    · obtain ⟨r0, r1⟩ := belowV_range l 0 hn
      rw [(belowV_yes l 0 hn).2] at hc
      generalize belowV l 0 n = X at *
      go_wp2_with fail
      refine hc.mono ?_
      rintro e w3 ⟨rfl, hD3, hG3⟩
      have HD3 := Aside0.mk hD3
      have HB3 := Aside0.mk (below_grown HB2.out HB2.out.size hG3 (Nat.le_trans hbb hbg))
      clear hD3 hG3 hc HD HB2
      go_wp2_with fail
      refine (Used_any b g _ l (0 + 1) w3 HD3.out).mono ?_
      rintro e w7 ⟨rfl, rfl⟩
      go_wp2_with fail
      refine (awake_any w3).mono ?_
      rintro e w4 ⟨rfl, hb4⟩
      go_wp2
      go_ret
      exact ⟨rfl, bthn HB3.out (Nat.le_refl _) hb4⟩

end Go.Proofs.Ytfmllhagdcjemab.DrawsW
