/- The example of chapter 9 and the walks of the laws. -/
import Derived.Test.YtfmllhagdcjemaaSplitL
namespace Go.Proofs.Ytfmllhagdcjemaa.SplitW
open Go Go.RowKit Go.Proofs.YtfmllhagdcjemaaW.PrintWords Go.Proofs.Ytfmllhagdcjemaa.Base Go.Proofs.Ytfmllhagdcjemaa.Split Go.Proofs.Ytfmllhagdcjemaa.SplitB Go.Proofs.Ytfmllhagdcjemaa.SplitR Go.Proofs.Ytfmllhagdcjemaa.SplitL
set_option linter.unusedVariables false
set_option linter.unusedSimpArgs false

def abc : ByteArray := ⟨#[97, 98, 99]⟩
def ab2 : List ByteArray := [⟨#[97, 98]⟩, ⟨#[99, 0]⟩]
theorem abc_blocks : blocksN abc 2 2 = ab2 := by decide +kernel
theorem abc_join : joinS ab2 = ⟨#[97, 98, 99, 0]⟩ := rfl
theorem ab2_str3 : strJ ab2 3 = abc ∧ errJ ab2 3 = 0 := by decide +kernel
theorem ab2_err5 : errJ ab2 5 = 1 := by decide +kernel

set_option maxHeartbeats 800000 in
theorem awake_any (w : World) : Calls Try.prog 10 #[] w fun e w' => e = .returned (.bool true) ∧ Below w.heap.size w w' := by
  go_enter Try.func10, Try.ntmps10
  go_wp2_with fail
  refine (Split_ok abc 2 2 w (by decide) (by decide) (by decide) (by decide) (by decide) (by decide) (by decide)).mono ?_
  rintro e w1 ⟨v, rfl, hO, hb1⟩
  rw [abc_blocks] at hO
  obtain ⟨Av, cv, rfl, hcv, hC⟩ := Own.C (enc := Value.string) (h1 := fun _ => rfl) hO
  have HC := Aside0.mk (show Kd.string.C w1 Av ab2.length ab2 from hC)
  have HB1 := Aside0.mk hb1
  clear hO hC hb1
  go_wp2_with fail
  refine (Join_any Av cv ab2 3 w1 HC.out hcv (by decide) (by decide)).mono ?_
  rintro e w2 ⟨rfl, hb2⟩
  rw [ab2_str3.1, ab2_str3.2]
  have HC2 := Aside0.mk (Kd.C_below HC.out hb2)
  have HB2 := Aside0.mk (bthn HB1.out (Nat.le_refl _) hb2)
  clear hb2 HC HB1
  go_wp2_with fail
  refine (Plan_at 0 5 1 0 w2 (by decide) (by decide) (by decide) (by decide) (by decide) (by decide)).mono ?_
  rintro e w3 ⟨rfl, rfl⟩
  go_wp2_with fail
  refine (Plan_at 8193 64 0 2 w2 (by decide) (by decide) (by decide) (by decide) (by decide) (by decide)).mono ?_
  rintro e w3 ⟨rfl, rfl⟩
  go_wp2_with fail
  refine (Join_any Av cv ab2 5 w2 HC2.out hcv (by decide) (by decide)).mono ?_
  rintro e w3 ⟨rfl, hb3⟩
  rw [ab2_err5]
  generalize strJ ab2 5 = SX
  have HC3 := Aside0.mk (Kd.C_below HC2.out hb3)
  have HB3 := Aside0.mk (bthn HB2.out (Nat.le_refl _) hb3)
  clear hb3 HC2 HB2
  have hcmp : abc.toList = [97, 98, 99] := by rw [ByteArray.toList_eq]; rfl
  go_wp2_with fail
  generalize hW : w3.alloc _ = W1
  have HW1 := Aside0.mk (show Below w3.heap.size w3 W1 by rw [← hW]; exact (Below.refl _ _).alloc (Nat.le_refl _) _)
  have HCb := Aside0.mk (show Kd.string.C W1 (some ⟨w3.heap.size, 0, none⟩) 2 ab2 by rw [← hW]; exact C_litS ab2 (hp_new _ _ _ rfl) (by decide))
  clear hW
  refine (Texts_any _ _ _ _ ab2 ab2 W1 (Kd.C_below HC3.out HW1.out) HCb.out).mono ?_
  rintro e w4 ⟨rfl, hb4⟩
  have HB4 := Aside0.mk (bthn (bthn HB3.out (Nat.le_refl _) HW1.out) (Nat.le_refl _) hb4)
  rw [decide_eq_true rfl]
  clear hb4 HCb HC3
  go_wp2
  go_ret
  exact ⟨rfl, HB4.out⟩

set_option maxHeartbeats 400000 in
theorem SplitPlans (n size : Int) (w : World) (hn0 : -9223372036854775808 ≤ n) (hn1 : n ≤ 9223372036854775807) (hs0 : -9223372036854775808 ≤ size) (hs1 : size ≤ 9223372036854775807) :
    Calls Try.prog 3 #[.int .i64 n, .int .i64 size] w fun e w' => e = .returned (.bool true) ∧ Below w.heap.size w w' := by
  have hp1 := Plan_any n size w hn0 hn1 hs0 hs1
  have hp2 := refPlan_any n size w hn0 hn1 hs0 hs1
  generalize planP n size = K at hp1 hp2
  generalize errP n size = E at hp1 hp2
  go_enter Try.func3, Try.ntmps3
  go_wp2_with fail
  refine hp1.mono ?_
  rintro e w1 ⟨rfl, rfl⟩
  go_wp2_with fail
  refine hp2.mono ?_
  rintro e w1 ⟨rfl, rfl⟩
  go_wp2_with fail
  refine (awake_any w).mono ?_
  rintro e w2 ⟨rfl, hb⟩
  go_wp2
  go_ret
  exact ⟨rfl, hb⟩

theorem C_nilS (w : World) : Kd.string.C w none 0 [] := ⟨rfl, by decide, fun h => absurd h (by decide)⟩
theorem size_nat {n size : Int} (h : errP n size = 0) : ∃ z : Nat, size = z ∧ 1 ≤ z ∧ z ≤ 64 := by
  obtain ⟨a, b, c, d⟩ := errP_zero h
  exact ⟨size.toNat, by omega, by omega, by omega⟩

set_option maxHeartbeats 400000 in
theorem SplitSplits (s : ByteArray) (size : Int) (w : World) (hs : s.size ≤ 140737488351232) (hs0 : -9223372036854775808 ≤ size) (hs1 : size ≤ 9223372036854775807) :
    Calls Try.prog 4 #[.string s, .int .i64 size] w fun e w' => e = .returned (.bool true) ∧ Below w.heap.size w w' := by
  by_cases hE : errP s.size size = 0
  · obtain ⟨z, rfl, hz1, hz2⟩ := size_nat hE
    obtain ⟨_, _, _, hd⟩ := errP_zero hE
    obtain ⟨hK1, hK2⟩ := planP_range hE
    obtain ⟨K, hK⟩ : ∃ K : Nat, planP s.size z = K := ⟨(planP s.size z).toNat, by omega⟩
    rw [hK] at hK1 hK2
    have h1 := Split_ok s z K w (by omega) hz1 hz2 (by omega) (by omega) hK hE
    have h2 := fun W => refSplit_ok s z K W (by omega) hz1 hz2 (by omega) (by omega) hK hE
    generalize blocksN s z K = L at h1 h2
    clear hE hK
    go_enter Try.func4, Try.ntmps4
    go_wp2_with fail
    refine h1.mono ?_
    rintro e w1 ⟨v, rfl, hO, hb1⟩
    obtain ⟨Av, cv, rfl, hcv, hC⟩ := Own.C (enc := Value.string) (h1 := fun _ => rfl) hO
    have HC := Aside0.mk (show Kd.string.C w1 Av L.length L from hC)
    have HB1 := Aside0.mk hb1
    clear hO hC hb1 h1
    go_wp2_with fail
    refine (h2 w1).mono ?_
    rintro e w2 ⟨v, rfl, hO, hb2⟩
    obtain ⟨Av2, cv2, rfl, hcv2, hC⟩ := Own.C (enc := Value.string) (h1 := fun _ => rfl) hO
    have HC2 := Aside0.mk (show Kd.string.C w2 Av2 L.length L from hC)
    have HC1 := Aside0.mk (Kd.C_below HC.out hb2)
    have HB2 := Aside0.mk (bthn HB1.out (Nat.le_refl _) hb2)
    clear hO hC hb2 h2 HC
    go_wp2_with fail
    refine (Texts_any _ _ _ _ L L w2 HC1.out HC2.out).mono ?_
    rintro e w3 ⟨rfl, hb3⟩
    rw [decide_eq_true rfl]
    have HB3 := Aside0.mk (bthn HB2.out (Nat.le_refl _) hb3)
    clear hb3
    go_wp2_with fail
    refine (awake_any w3).mono ?_
    rintro e w4 ⟨rfl, hb4⟩
    go_wp2
    go_ret
    exact ⟨rfl, bthn HB3.out (Nat.le_refl _) hb4⟩
  · have h1 := Split_no s size w (by omega) hs0 hs1 hE
    have h2 := refSplit_no s size w (by omega) hs0 hs1 hE
    generalize errP s.size size = E at h1 h2
    clear hE
    go_enter Try.func4, Try.ntmps4
    go_wp2_with fail
    refine h1.mono ?_
    rintro e w1 ⟨rfl, rfl⟩
    go_wp2_with fail
    refine h2.mono ?_
    rintro e w1 ⟨rfl, rfl⟩
    go_wp2_with fail
    refine (Texts_any none none 0 0 [] [] w (C_nilS w) (C_nilS w)).mono ?_
    rintro e w3 ⟨rfl, hb3⟩
    rw [decide_eq_true rfl]
    have HB3 := Aside0.mk hb3
    clear hb3
    go_wp2_with fail
    refine (awake_any w3).mono ?_
    rintro e w4 ⟨rfl, hb4⟩
    go_wp2
    go_ret
    exact ⟨rfl, bthn HB3.out (Nat.le_refl _) hb4⟩

end Go.Proofs.Ytfmllhagdcjemaa.SplitW
