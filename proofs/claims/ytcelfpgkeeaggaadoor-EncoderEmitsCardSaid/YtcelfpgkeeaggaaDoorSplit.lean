/- The contracts of package split's Plan and of its reference. -/
import Derived.Test.YtcelfpgkeeaggaaDoorBase
namespace Go.Proofs.YtcelfpgkeeaggaaDoor.Split
open Go Go.RowKit Go.Proofs.YtcelfpgkeeaggaaDoorW.PrintWords Go.Proofs.YtcelfpgkeeaggaaDoor.Base
set_option linter.unusedVariables false
set_option linter.unusedSimpArgs false

def errP (n size : Int) : Int := if n < 0 ∨ size < 1 ∨ 64 < size then 1 else if 128 * size < n then 2 else 0
def planP (n size : Int) : Int := if errP n size = 0 then max 1 ((n + size - 1) / size) else 0
theorem errP_arg {n size : Int} (h : n < 0 ∨ size < 1 ∨ 64 < size) : errP n size = 1 := by rw [errP, if_pos h]
theorem errP_size {n size : Int} (h : ¬ (n < 0 ∨ size < 1 ∨ 64 < size)) (h2 : 128 * size < n) : errP n size = 2 := by rw [errP, if_neg h, if_pos h2]
theorem errP_ok {n size : Int} (h : ¬ (n < 0 ∨ size < 1 ∨ 64 < size)) (h2 : ¬ 128 * size < n) : errP n size = 0 := by rw [errP, if_neg h, if_neg h2]
theorem errP_zero {n size : Int} (h : errP n size = 0) : 0 ≤ n ∧ 1 ≤ size ∧ size ≤ 64 ∧ n ≤ 128 * size := by
  by_cases h1 : n < 0 ∨ size < 1 ∨ 64 < size
  · rw [errP_arg h1] at h; omega
  · by_cases h2 : 128 * size < n
    · rw [errP_size h1 h2] at h; omega
    · omega
theorem planP_no {n size : Int} (h : errP n size ≠ 0) : planP n size = 0 := by rw [planP, if_neg h]
theorem planP_ok {n size : Int} (h : errP n size = 0) : planP n size = max 1 ((n + size - 1) / size) := by rw [planP, if_pos h]
theorem div_small (n size : Int) (h0 : 0 ≤ n) (h1 : 1 ≤ size) (h : n ≤ 128 * size) : 0 ≤ (n + size - 1) / size ∧ (n + size - 1) / size ≤ 128 := by
  refine ⟨Int.ediv_nonneg (by omega) (by omega), ?_⟩
  have := (Int.ediv_lt_iff_lt_mul (a := n + size - 1) (b := 129) (c := size) (by omega)).2 (by omega)
  omega
theorem planP_range {n size : Int} (h : errP n size = 0) : 1 ≤ planP n size ∧ planP n size ≤ 128 := by
  obtain ⟨a, b, c, d⟩ := errP_zero h
  have := div_small n size a b d
  rw [planP_ok h]; omega
/-- how many blocks: the least number that holds all -/
theorem planP_le {n size : Int} (h : errP n size = 0) : n ≤ planP n size * size := by
  obtain ⟨a, b, c, d⟩ := errP_zero h
  rw [planP_ok h]
  have h1 : (n + size - 1) / size ≤ max 1 ((n + size - 1) / size) := by omega
  have h2 : (n + size - 1) / size * size ≤ max 1 ((n + size - 1) / size) * size := Int.mul_le_mul_of_nonneg_right h1 (by omega)
  have h3 := Int.lt_ediv_add_one_mul_self (n + size - 1) (b := size) (by omega)
  rw [Int.add_mul] at h3
  omega
theorem planP_eq {n size : Int} (k : Nat) (h : errP n size = 0) (h1 : 1 ≤ k) (hl : n ≤ (k : Int) * size) (hg : k = 1 ∨ ((k - 1 : Nat) : Int) * size < n) : planP n size = k := by
  obtain ⟨a, b, c, d⟩ := errP_zero h
  rw [planP_ok h]
  have hle : (n + size - 1) / size ≤ k := by
    have := (Int.ediv_lt_iff_lt_mul (a := n + size - 1) (b := (k : Int) + 1) (c := size) (by omega)).2 (by rw [Int.add_mul]; omega)
    omega
  rcases hg with rfl | hg
  · have := (div_small n size a b d).1
    omega
  · have : (k : Int) ≤ (n + size - 1) / size := by
      refine (Int.le_ediv_iff_mul_le (by omega)).2 ?_
      have e : ((k - 1 : Nat) : Int) = (k : Int) - 1 := by omega
      rw [e, Int.sub_mul] at hg
      omega
    omega

set_option maxHeartbeats 400000 in
theorem Plan_any (n size : Int) (w : World) (hn0 : -9223372036854775808 ≤ n) (hn1 : n ≤ 9223372036854775807) (hs0 : -9223372036854775808 ≤ size) (hs1 : size ≤ 9223372036854775807) :
    Calls Tryd.prog 42 #[.int .i64 n, .int .i64 size] w fun e w' => e = .returned (.tuple #[.int .i64 (planP n size), .int .i64 (errP n size)]) ∧ w = w' := by
  by_cases h1 : n < 0 ∨ size < 1 ∨ 64 < size
  · have HE := Aside0.mk (errP_arg h1)
    have HP := Aside0.mk (planP_no (n := n) (size := size) (by rw [errP_arg h1]; omega))
    by_cases ha : n < 0
    · clear h1
      go_enter Tryd.func42, Tryd.ntmps42
      go_wp2
      go_ret2
      exact ⟨by rw [HE.out, HP.out]; rfl, rfl⟩
    · by_cases hb : size < 1
      · clear h1
        go_enter Tryd.func42, Tryd.ntmps42
        go_wp2
        go_ret2
        exact ⟨by rw [HE.out, HP.out]; rfl, rfl⟩
      · have hc : 64 < size := by omega
        clear h1
        go_enter Tryd.func42, Tryd.ntmps42
        go_wp2
        go_ret2
        exact ⟨by rw [HE.out, HP.out]; rfl, rfl⟩
  · have ha : ¬ n < 0 := by omega
    have hb : ¬ size < 1 := by omega
    have hc : ¬ 64 < size := by omega
    by_cases h2 : 128 * size < n
    · have HE := Aside0.mk (errP_size h1 h2)
      have HP := Aside0.mk (planP_no (n := n) (size := size) (by rw [errP_size h1 h2]; omega))
      clear h1
      go_enter Tryd.func42, Tryd.ntmps42
      go_wp2
      go_ret2
      exact ⟨by rw [HE.out, HP.out]; rfl, rfl⟩
    · have HE := Aside0.mk (errP_ok h1 h2)
      have HP := Aside0.mk (planP_ok (errP_ok h1 h2))
      obtain ⟨d0, d1⟩ := div_small n size (by omega) (by omega) (by omega)
      clear h1
      go_enter Tryd.func42, Tryd.ntmps42
      go_wp2
      all_goals go_ret2
      all_goals
        refine ⟨?_, rfl⟩
        rw [HE.out, HP.out]
        first
        | (rw [Int.max_eq_right (by omega)]; rfl)
        | (rw [Int.max_eq_left (by omega)]; rfl)

set_option maxHeartbeats 400000 in
theorem refPlan_any (n size : Int) (w : World) (hn0 : -9223372036854775808 ≤ n) (hn1 : n ≤ 9223372036854775807) (hs0 : -9223372036854775808 ≤ size) (hs1 : size ≤ 9223372036854775807) :
    Calls Tryd.prog 45 #[.int .i64 n, .int .i64 size] w fun e w' => e = .returned (.tuple #[.int .i64 (planP n size), .int .i64 (errP n size)]) ∧ w = w' := by
  by_cases h1 : n < 0 ∨ size < 1 ∨ 64 < size
  · have HE := Aside0.mk (errP_arg h1)
    have HP := Aside0.mk (planP_no (n := n) (size := size) (by rw [errP_arg h1]; omega))
    by_cases ha : n < 0
    · clear h1
      go_enter Tryd.func45, Tryd.ntmps45
      go_wp2
      go_ret2
      exact ⟨by rw [HE.out, HP.out]; rfl, rfl⟩
    · by_cases hb : size < 1
      · clear h1
        go_enter Tryd.func45, Tryd.ntmps45
        go_wp2
        go_ret2
        exact ⟨by rw [HE.out, HP.out]; rfl, rfl⟩
      · have hc : 64 < size := by omega
        clear h1
        go_enter Tryd.func45, Tryd.ntmps45
        go_wp2
        go_ret2
        exact ⟨by rw [HE.out, HP.out]; rfl, rfl⟩
  · have ha : ¬ n < 0 := by omega
    have hb : ¬ size < 1 := by omega
    have hc : ¬ 64 < size := by omega
    by_cases h2 : 128 * size < n
    · have HE := Aside0.mk (errP_size h1 h2)
      have HP := Aside0.mk (planP_no (n := n) (size := size) (by rw [errP_size h1 h2]; omega))
      clear h1
      have h3 : size * 128 < n := by omega
      go_enter Tryd.func45, Tryd.ntmps45
      go_wp2
      go_ret2
      exact ⟨by rw [HE.out, HP.out]; rfl, rfl⟩
    · have HZ := errP_ok h1 h2
      have HE := Aside0.mk HZ
      obtain ⟨K, hK⟩ : ∃ K : Int, K = planP n size := ⟨_, rfl⟩
      obtain ⟨hK1, hK2⟩ := planP_range HZ
      have HK := Aside0.mk hK
      have HL := Aside0.mk (fun k : Nat => planP_eq (n := n) (size := size) k HZ)
      have HD := Aside0.mk (planP_le HZ)
      rw [← hK] at hK1 hK2
      clear h1 HZ hK
      go_enter Tryd.func45, Tryd.ntmps45
      go_wp2
      go_loop [6] (fun i => ∃ k : Nat, 1 ≤ k ∧ k ≤ 128 ∧ i = .int .i64 k ∧ Aside0 (k = 1 ∨ ((k - 1 : Nat) : Int) * size < n)) (fun i => 200 - (intOf i).toNat)
      case atStart => exact ⟨1, Nat.le_refl _, by omega, rfl, ⟨.inl rfl⟩⟩
      case round =>
        obtain ⟨k, hk1, hk2, rfl, HR⟩ := hrel
        obtain ⟨p0, p1⟩ : 0 ≤ (k : Int) * size ∧ (k : Int) * size ≤ 8192 := by
          refine ⟨Int.mul_nonneg (by omega) (by omega), ?_⟩
          have h1 : (k : Int) * size ≤ 128 * size := Int.mul_le_mul_of_nonneg_right (by omega) (by omega)
          omega
        by_cases hlt : (k : Int) * size < n
        · have hk3 : k < 128 := by
            rcases Nat.lt_or_ge k 128 with h | h
            · exact h
            · obtain rfl : k = 128 := by omega
              omega
          have HN : Aside0 (k + 1 = 1 ∨ ((k + 1 - 1 : Nat) : Int) * size < n) := ⟨.inr hlt⟩
          go_wp2
          go_round
          case rel => exact ⟨k + 1, by omega, by omega, by go_num, HN⟩
          case measure => simp [intOf]; omega
        · have HW := Aside0.mk (HL.out k hk1 (by omega) HR.out)
          go_wp2
          go_ret2
          exact ⟨by rw [HE.out, HW.out]; rfl, rfl⟩

end Go.Proofs.YtcelfpgkeeaggaaDoor.Split
