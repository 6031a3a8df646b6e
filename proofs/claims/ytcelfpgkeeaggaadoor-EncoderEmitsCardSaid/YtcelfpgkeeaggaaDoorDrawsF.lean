/- The contract of the reference's Distinct. -/
import Derived.Test.YtcelfpgkeeaggaaDoorDrawsE
namespace Go.Proofs.YtcelfpgkeeaggaaDoor.DrawsF
open Go Go.RowKit Go.Proofs.YtcelfpgkeeaggaaDoorW.PrintWords Go.Proofs.YtcelfpgkeeaggaaDoor.Base Go.Proofs.YtcelfpgkeeaggaaDoor.Draws Go.Proofs.YtcelfpgkeeaggaaDoor.DrawsP Go.Proofs.YtcelfpgkeeaggaaDoor.DrawsD Go.Proofs.YtcelfpgkeeaggaaDoor.DrawsE
set_option linter.unusedVariables false
set_option linter.unusedSimpArgs false

set_option maxHeartbeats 400000 in
theorem refDistinct_no (b g : Nat) (T : TypeId) (l : List UInt64) (N : Nat) (n k : Int) (w : World) (h : ¬ okDst n) :
    Calls Tryd.prog 40 #[.pointer (some ⟨g, 0, none⟩), .int .i64 n, .int .i64 k] w fun e w' => e = .returned (.slice none 0 0) ∧ w = w' := by
  by_cases h1 : n < 0
  · clear h
    go_enter Tryd.func40, Tryd.ntmps40
    go_wp2
    go_ret
    exact ⟨rfl, rfl⟩
  · have h2 : 128 < n := by simp only [okDst] at h; omega
    clear h
    go_enter Tryd.func40, Tryd.ntmps40
    go_wp2
    go_ret
    exact ⟨rfl, rfl⟩

def cntD (l : List UInt64) (N n k a : Nat) : Nat := (leftD a (outD l N n k)).length
theorem cntD_zero (l : List UInt64) (N n k : Nat) : cntD l N n k 0 = 0 := rfl
theorem cntD_yes (l : List UInt64) (N n k a : Nat) (h : a ∈ outD l N n k) : cntD l N n k (a + 1) = cntD l N n k a := by
  rw [cntD, leftD_step, if_pos h, List.append_nil, cntD]
theorem cntD_no (l : List UInt64) (N n k a : Nat) (h : a ∉ outD l N n k) : cntD l N n k (a + 1) = cntD l N n k a + 1 := by
  rw [cntD, leftD_step, if_neg h, List.length_append, cntD]; rfl
theorem cntD_all (l : List UInt64) (N n k : Nat) (h : k ≤ n) : cntD l N n k n = n - k := leftD_length l N n k h
def inD (l : List UInt64) (N n k a : Nat) : Bool := decide (a ∈ outD l N n k)

set_option maxHeartbeats 1600000 in
theorem refDistinct_any (b g : Nat) (T : TypeId) (l : List UInt64) (N n K : Nat) (kk : Int) (w : World) (hD : Drw w b g T l N) (hN : N ≤ 549755813888) (hn : n ≤ 128) (hk0 : -9223372036854775808 ≤ kk) (hk1 : kk ≤ 9223372036854775807) (hK : min (max kk 0) (n : Int) = K) :
    Calls Tryd.prog 40 #[.pointer (some ⟨g, 0, none⟩), .int .i64 n, .int .i64 kk] w fun e w' => ∃ v, e = .returned v ∧ Own w' w.heap.size 3 v (nums .i64 (resD l N n K)) ∧ Drw w' b g T l (N + K) ∧ w.grownBy w' (some g) := by
  have hKn : K ≤ n := by omega
  have hKK : K < n → (K : Int) < kk → False := by omega
  have hlen := hD.len
  have hglt := hD.lt
  have hbg := hD.bg
  have hble := hD.ble
  have hlow : ∀ k : Nat, k < K → (k : Int) < kk := by intro k hk; omega
  have HD := Aside0.mk hD
  have HLow := Aside0.mk hlow
  have HKK := Aside0.mk hKK
  clear hD hK hlow hKK
  have hmk := print_make_of (P := Tryd.prog) 95 4 (.bool false) 1 Tryd.underlying95 info_bool rfl (by decide) n (by omega)
  have HO := Aside0.mk (Own.of_row (own_made_of (enc := Value.bool) (d := false) w w.heap.size 4 n (Nat.le_refl _) (by omega)))
  have HGW := Aside0.mk (World.grownBy_alloc w (.cells (madeCells #[.bool false] n) 4) (some g))
  have HD0 := Aside0.mk (HD.out.below ((Below.refl w.heap.size w).alloc (Nat.le_refl _) (.cells (madeCells #[.bool false] n) 4)))
  go_enter Tryd.func40, Tryd.ntmps40
  go_wp2
  clear hmk
  generalize w.alloc _ = W at *
  go_loopw [8] (fun i wr => ∃ k : Nat, k ≤ K ∧ i = .int .i64 k ∧ Aside0 (Own wr w.heap.size 4 (.slice (some ⟨w.heap.size, 0, none⟩) n n) (takenV l N n k)) ∧ Aside0 (Drw wr b g T l (N + k)) ∧ Aside0 (w.grownBy wr (some g)))
    (fun i _ => K - (intOf i).toNat)
  case atStart => exact ⟨0, Nat.zero_le _, rfl, ⟨by rw [takenV_zero]; simpa [encs] using HO.out⟩, HD0, HGW⟩
  case round =>
    obtain ⟨k, hk, rfl, HR, HDk, HG⟩ := hrel
    by_cases hlt : k < K
    · have hc1 := HLow.out k hlt
      have hc2 : (k : Int) < (n : Int) := by omega
      have hbl := refBelow_any b g T l (N + k) ((n : Int) - (k : Int)) wr HDk.out (by omega) (by omega) (by omega)
      rw [(belowV_yes l (N + k) (n := (n : Int) - (k : Int)) (by omega)).2, show (n : Int) - (k : Int) = ((n - k : Nat) : Int) by omega, belowV_j l N n k (by omega), show ((n - k : Nat) : Int) = (n : Int) - (k : Int) by omega] at hbl
      have HQ := Aside0.mk (jOf_lt l N n k (by omega))
      have HC := Aside0.mk (cntD_all l N n k (by omega))
      have HP := Aside0.mk (fun a h1 h2 h3 => scan_pick l N n k a h1 h2 h3)
      have HZ := Aside0.mk (cntD_zero l N n k)
      generalize jOf l N n k = q at *
      go_wp2_with fail
      refine hbl.mono ?_
      rintro e w1 ⟨rfl, hD1, hG1⟩
      have HR1 := Aside0.mk (HR.out.grown hG1 (HR.out.ne_small hglt))
      have HD1 := Aside0.mk hD1
      have HG1 := Aside0.mk (World.grownBy.trans HG.out hG1)
      clear hD1 hG1 hbl
      go_wp2
      go_loop [9, 10] (fun a i => ∃ x m : Nat, x ≤ n ∧ m ≤ 128 ∧ i = .int .i64 x ∧ a = .int .i64 m ∧ Aside0 (m + cntD l N n k x = q)) (fun _ i => n - (intOf i).toNat)
      case atStart => exact ⟨0, q, Nat.zero_le _, by have := HQ.out; omega, rfl, rfl, ⟨by rw [HZ.out]; rfl⟩⟩
      case round =>
        obtain ⟨x, m, hx, hm, rfl, rfl, HM⟩ := hrel
        by_cases hxn : x < n
        · obtain ⟨g', cap', hv', hgb, _, _, hcell, hfr⟩ := HR1.out.at_ x (by rw [takenV_length]; omega)
          rw [takenV_length] at hv'
          cases hv'
          rw [takenV_get] at hcell
          by_cases hin : x ∈ outD l N n k
          · rw [decide_eq_true hin] at hcell
            have HS := Aside0.mk (cntD_yes l N n k x hin)
            clear hin
            go_wp2
            go_round
            case rel => exact ⟨x + 1, m, by omega, hm, by go_num, rfl, ⟨by rw [HS.out]; exact HM.out⟩⟩
            case measure => simp [intOf]; omega
          · rw [decide_eq_false hin] at hcell
            by_cases hm0 : m = 0
            · subst hm0
              have HPX := Aside0.mk (HP.out x hxn hin (by have := HM.out; rw [Nat.zero_add] at this; exact this))
              have hst := HR1.out.set_ x (.bool true)
              rw [takenV_set l N n k x hxn HPX.out] at hst
              have HST := Aside0.mk hst
              clear hst hin
              go_wp2
              go_roundw
              case rel => exact ⟨k + 1, by omega, by go_num, ⟨HST.out.1⟩, ⟨HD1.out.other (fun k hk => by cases hk; exact ⟨hble, by omega⟩) HST.out.2⟩, ⟨grown_of_fresh HG1.out HST.out.2 (fun k hk => by cases hk; exact Nat.le_refl _)⟩⟩
              case measure => simp [intOf]; omega
            · have HS := Aside0.mk (cntD_no l N n k x hin)
              clear hin
              obtain ⟨m', rfl⟩ : ∃ m', m = m' + 1 := ⟨m - 1, by omega⟩
              have q0 : decide ((m' : Int) + 1 = 0) = false := decide_eq_false (by omega)
              have q1 : ((m' : Int) + 1 == 0) = false := beq_eq_false_iff_ne.2 (by omega)
              go_wp2
              go_round
              case rel => exact ⟨x + 1, m', by omega, by omega, by go_num, by go_num, ⟨by have := HM.out; rw [HS.out]; omega⟩⟩
              case measure => simp [intOf]; omega
        · obtain rfl : x = n := by omega
          exfalso
          have h1 := HM.out
          have h2 := HC.out
          have h3 := HQ.out
          omega
    · obtain rfl : k = K := by omega
      by_cases hq : (k : Int) < kk
      · have hkn : ¬ (k : Int) < (n : Int) := by
          intro h
          exact HKK.out (by omega) hq
        go_wp2
        go_loopw [11, 12] (fun v11 i wr => ∃ x : Nat, x ≤ n ∧ i = .int .i64 x ∧ Aside0 (wr.ownsRow w.heap.size 3 1 v11 (resP l N n k x).length (nums .i64 (resP l N n k x))) ∧ Aside0 (Own wr w.heap.size 4 (.slice (some ⟨w.heap.size, 0, none⟩) n n) (takenV l N n k)) ∧ Aside0 (Drw wr b g T l (N + k)) ∧ Aside0 (w.grownBy wr (some g)))
          (fun _ i _ => n - (intOf i).toNat)
        case atStart => exact ⟨0, Nat.zero_le _, rfl, ⟨by rw [resP_zero]; exact World.ownsRow_nil _ _ _ _⟩, HR, HDk, HG⟩
        case round =>
          obtain ⟨x, hx, rfl, HV, HR2, HD2, HG2⟩ := hrel
          by_cases hxn : x < n
          · obtain ⟨g', cap', hv', hgb, hgs, _, hcell, hfr⟩ := HR2.out.at_ x (by rw [takenV_length]; omega)
            rw [takenV_length] at hv'
            cases hv'
            rw [takenV_get] at hcell
            by_cases hin : x ∈ outD l N n k
            · rw [decide_eq_true hin] at hcell
              have HS := Aside0.mk (resP_yes l N n k x hin)
              clear hin
              have hs1 := HG2.out.size
              have hLL : ((resP l N n k x).length + 1) * 8 ≤ 140737488355328 := by have := resP_le l N n k x; omega
              have hlt11 : ∀ k, u11.ownBlock = some k → w.heap.size ≤ k := fun k hk => ((Own.of_row HV.out).lt k hk).1
              go_wp2_with (at_builtin; refine print_append_num (w0 := wr) w.heap.size rfl (.tmp 61) (.tmp 63) 60 3 .i64 8 rfl Tryd.underlying60 info_int (by decide) _ (resP l N n k x) (x : Int) rfl rfl HV.out (Below.refl _ _) hs1 hLL ?_; intro v2 w2 ho2 hb2 hg2 hat2)
              have HV3 : Aside0 (w2.ownsRow w.heap.size 3 1 v2 (resP l N n k (x + 1)).length (nums .i64 (resP l N n k (x + 1)))) := ⟨by rw [HS.out]; exact ho2⟩
              have HR3 := Aside0.mk (HR2.out.grown hg2 (HR2.out.type_ne (Own.of_row HV.out) (by decide)))
              have HD3 := Aside0.mk (HD2.out.other (fun k hk => ⟨Nat.le_trans hble (hlt11 k hk), by have := hlt11 k hk; omega⟩) hg2)
              have HG3 := Aside0.mk (grown_of_fresh HG2.out hg2 hlt11)
              clear ho2 hb2 hg2 hat2 hlt11 hcell hfr
              go_wp2
              go_roundw
              case rel => exact ⟨x + 1, by omega, by go_num, HV3, HR3, HD3, HG3⟩
              case measure => simp [intOf]; omega
            · rw [decide_eq_false hin] at hcell
              have HS := Aside0.mk (resP_no l N n k x hin)
              clear hin
              go_wp2
              go_roundw
              case rel => exact ⟨x + 1, by omega, by go_num, ⟨by rw [HS.out]; exact HV.out⟩, HR2, HD2, HG2⟩
              case measure => simp [intOf]; omega
          · obtain rfl : x = n := by omega
            go_wp2
            go_ret
            exact ⟨_, rfl, by have := Own.of_row HV.out; rwa [resP_all] at this, HD2.out, HG2.out⟩
      · skip
        go_wp2
        go_loopw [11, 12] (fun v11 i wr => ∃ x : Nat, x ≤ n ∧ i = .int .i64 x ∧ Aside0 (wr.ownsRow w.heap.size 3 1 v11 (resP l N n k x).length (nums .i64 (resP l N n k x))) ∧ Aside0 (Own wr w.heap.size 4 (.slice (some ⟨w.heap.size, 0, none⟩) n n) (takenV l N n k)) ∧ Aside0 (Drw wr b g T l (N + k)) ∧ Aside0 (w.grownBy wr (some g)))
          (fun _ i _ => n - (intOf i).toNat)
        case atStart => exact ⟨0, Nat.zero_le _, rfl, ⟨by rw [resP_zero]; exact World.ownsRow_nil _ _ _ _⟩, HR, HDk, HG⟩
        case round =>
          obtain ⟨x, hx, rfl, HV, HR2, HD2, HG2⟩ := hrel
          by_cases hxn : x < n
          · obtain ⟨g', cap', hv', hgb, hgs, _, hcell, hfr⟩ := HR2.out.at_ x (by rw [takenV_length]; omega)
            rw [takenV_length] at hv'
            cases hv'
            rw [takenV_get] at hcell
            by_cases hin : x ∈ outD l N n k
            · rw [decide_eq_true hin] at hcell
              have HS := Aside0.mk (resP_yes l N n k x hin)
              clear hin
              have hs1 := HG2.out.size
              have hLL : ((resP l N n k x).length + 1) * 8 ≤ 140737488355328 := by have := resP_le l N n k x; omega
              have hlt11 : ∀ k, u11.ownBlock = some k → w.heap.size ≤ k := fun k hk => ((Own.of_row HV.out).lt k hk).1
              go_wp2_with (at_builtin; refine print_append_num (w0 := wr) w.heap.size rfl (.tmp 61) (.tmp 63) 60 3 .i64 8 rfl Tryd.underlying60 info_int (by decide) _ (resP l N n k x) (x : Int) rfl rfl HV.out (Below.refl _ _) hs1 hLL ?_; intro v2 w2 ho2 hb2 hg2 hat2)
              have HV3 : Aside0 (w2.ownsRow w.heap.size 3 1 v2 (resP l N n k (x + 1)).length (nums .i64 (resP l N n k (x + 1)))) := ⟨by rw [HS.out]; exact ho2⟩
              have HR3 := Aside0.mk (HR2.out.grown hg2 (HR2.out.type_ne (Own.of_row HV.out) (by decide)))
              have HD3 := Aside0.mk (HD2.out.other (fun k hk => ⟨Nat.le_trans hble (hlt11 k hk), by have := hlt11 k hk; omega⟩) hg2)
              have HG3 := Aside0.mk (grown_of_fresh HG2.out hg2 hlt11)
              clear ho2 hb2 hg2 hat2 hlt11 hcell hfr
              go_wp2
              go_roundw
              case rel => exact ⟨x + 1, by omega, by go_num, HV3, HR3, HD3, HG3⟩
              case measure => simp [intOf]; omega
            · rw [decide_eq_false hin] at hcell
              have HS := Aside0.mk (resP_no l N n k x hin)
              clear hin
              go_wp2
              go_roundw
              case rel => exact ⟨x + 1, by omega, by go_num, ⟨by rw [HS.out]; exact HV.out⟩, HR2, HD2, HG2⟩
              case measure => simp [intOf]; omega
          · obtain rfl : x = n := by omega
            go_wp2
            go_ret
            exact ⟨_, rfl, by have := Own.of_row HV.out; rwa [resP_all] at this, HD2.out, HG2.out⟩

end Go.Proofs.YtcelfpgkeeaggaaDoor.DrawsF
