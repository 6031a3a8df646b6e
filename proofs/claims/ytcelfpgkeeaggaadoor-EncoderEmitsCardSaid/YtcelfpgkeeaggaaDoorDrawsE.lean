/- The contract of draws' Distinct. -/
import Derived.Test.YtcelfpgkeeaggaaDoorDrawsD
namespace Go.Proofs.YtcelfpgkeeaggaaDoor.DrawsE
open Go Go.RowKit Go.Proofs.YtcelfpgkeeaggaaDoorW.PrintWords Go.Proofs.YtcelfpgkeeaggaaDoor.Base Go.Proofs.YtcelfpgkeeaggaaDoor.Draws Go.Proofs.YtcelfpgkeeaggaaDoor.DrawsP Go.Proofs.YtcelfpgkeeaggaaDoor.DrawsD
set_option linter.unusedVariables false
set_option linter.unusedSimpArgs false

def leftI (l : List UInt64) (N n k : Nat) : List Int := (leftD n (outD l N n k)).map fun a : Nat => (a : Int)
def outI (l : List UInt64) (N n k : Nat) : List Int := (outD l N n k).map fun a : Nat => (a : Int)
def iotaI (n k : Nat) : List Int := (List.range k).map (fun a : Nat => (a : Int)) ++ List.replicate (n - k) 0
theorem leftI_length (l : List UInt64) (N n k : Nat) (h : k ≤ n) : (leftI l N n k).length = n - k := by rw [leftI, List.length_map, leftD_length l N n k h]
theorem leftI_succ (l : List UInt64) (N n k : Nat) (h : k < n) : leftI l N n (k + 1) = (leftI l N n k).eraseIdx (jOf l N n k) := by
  rw [leftI, leftD_succ l N n k h, leftI, List.eraseIdx_eq_take_drop_succ, List.eraseIdx_eq_take_drop_succ, List.map_append, List.map_take, List.map_drop]
theorem outI_length (l : List UInt64) (N n k : Nat) : (outI l N n k).length = k := by rw [outI, List.length_map, outD_length]
theorem outI_succ (l : List UInt64) (N n k : Nat) (h : k < n) : outI l N n (k + 1) = outI l N n k ++ [(leftI l N n k).getD (jOf l N n k) 0] := by
  rw [outI, outD, List.map_append, outI]
  congr 1
  have hj := jOf_lt l N n k h
  have hl := leftD_length l N n k (by omega)
  simp only [leftI, List.map_cons, List.map_nil, List.getD_eq_getElem?_getD, List.getElem?_map]
  rw [List.getElem?_eq_getElem (by omega)]; rfl
theorem iotaI_length (n k : Nat) (h : k ≤ n) : (iotaI n k).length = n := by simp [iotaI]; omega
theorem iotaI_zero (n : Nat) : iotaI n 0 = List.replicate n 0 := by simp [iotaI]
theorem iotaI_all (l : List UInt64) (N n : Nat) : iotaI n n = leftI l N n 0 := by simp [iotaI, leftI, outD, leftD_nil]
theorem iotaI_set (n k : Nat) (h : k < n) : (iotaI n k).set k (k : Int) = iotaI n (k + 1) := by
  rw [iotaI, iotaI, List.set_append_right _ _ (by simp), List.range_succ, List.map_append, List.append_assoc]
  congr 1
  obtain ⟨m, hm⟩ : ∃ m, n - k = m + 1 := ⟨n - k - 1, by omega⟩
  rw [hm, List.replicate_succ, show n - (k + 1) = m by omega]
  simp
theorem belowV_j (l : List UInt64) (N n k : Nat) (h : k < n) : belowV l (N + k) ((n - k : Nat) : Int) = ((jOf l N n k : Nat) : Int) := by
  rw [(belowV_yes l (N + k) (by omega)).1, jOf, Int.natCast_emod]
def okDst (n : Int) : Prop := 0 ≤ n ∧ n ≤ 128

set_option maxHeartbeats 400000 in
theorem Distinct_no (b g : Nat) (T : TypeId) (l : List UInt64) (N : Nat) (n k : Int) (w : World) (h : ¬ okDst n) :
    Calls Tryd.prog 27 #[.pointer (some ⟨g, 0, none⟩), .int .i64 n, .int .i64 k] w fun e w' => e = .returned (.slice none 0 0) ∧ w = w' := by
  by_cases h1 : n < 0
  · clear h
    go_enter Tryd.func27, Tryd.ntmps27
    go_wp2
    go_ret
    exact ⟨rfl, rfl⟩
  · have h2 : 128 < n := by simp only [okDst] at h; omega
    clear h
    go_enter Tryd.func27, Tryd.ntmps27
    go_wp2
    go_ret
    exact ⟨rfl, rfl⟩

set_option maxHeartbeats 4000000 in
theorem Distinct_any (b g : Nat) (T : TypeId) (l : List UInt64) (N n K : Nat) (kk : Int) (w : World) (hD : Drw w b g T l N) (hN : N ≤ 549755813888) (hn : n ≤ 128) (hk0 : -9223372036854775808 ≤ kk) (hk1 : kk ≤ 9223372036854775807) (hK : min (max kk 0) (n : Int) = K) :
    Calls Tryd.prog 27 #[.pointer (some ⟨g, 0, none⟩), .int .i64 n, .int .i64 kk] w fun e w' => ∃ v, e = .returned v ∧ Own w' w.heap.size 3 v (nums .i64 (resD l N n K)) ∧ Drw w' b g T l (N + K) ∧ w.grownBy w' (some g) := by
  have hKn : K ≤ n := by omega
  have hlen := hD.len
  have hglt := hD.lt
  have hbg := hD.bg
  have hble := hD.ble
  have HD := Aside0.mk hD
  have HK := Aside0.mk hK
  clear hD hK
  have hmk := print_make (P := Tryd.prog) 60 3 .i64 8 Tryd.underlying60 info_int (by decide) n (by omega)
  have HO := Aside0.mk (Own.of_row (own_made w w.heap.size 3 .i64 n (Nat.le_refl _) (by omega)))
  have HGW := Aside0.mk (World.grownBy_alloc w (.cells (madeCells #[.int .i64 0] n) 3) (some g))
  have HD0 := Aside0.mk (HD.out.below ((Below.refl w.heap.size w).alloc (Nat.le_refl _) (.cells (madeCells #[.int .i64 0] n) 3)))
  go_enter Tryd.func27, Tryd.ntmps27
  go_wp2
  clear hmk
  generalize w.alloc _ = W at *
  go_loopw [25] (fun i wr => ∃ j : Nat, j ≤ n ∧ i = .int .i64 j ∧ Aside0 (Own wr w.heap.size 3 (.slice (some ⟨w.heap.size, 0, none⟩) n n) (nums .i64 (iotaI n j))) ∧ Aside0 (Drw wr b g T l N) ∧ Aside0 (w.grownBy wr (some g)))
    (fun i _ => n - (intOf i).toNat)
  case atStart => exact ⟨0, Nat.zero_le _, rfl, ⟨by rw [iotaI_zero]; exact HO.out⟩, HD0, HGW⟩
  case round =>
    obtain ⟨j, hj, rfl, HR, HDr, HG⟩ := hrel
    by_cases hlt : j < n
    · obtain ⟨g', cap', hv', hgb, _, _, hcell, hfr⟩ := HR.out.at_ j (by rw [nums_length, iotaI_length _ _ hj]; omega)
      rw [nums_length, iotaI_length _ _ hj] at hv'
      cases hv'
      obtain ⟨old, hold⟩ : ∃ old, old = (nums .i64 (iotaI n j))[j]'(by rw [nums_length, iotaI_length _ _ hj]; omega) := ⟨_, rfl⟩
      rw [← hold] at hcell
      clear hold
      have hst := HR.out.set_ j (.int .i64 (j : Int))
      rw [show (nums .i64 (iotaI n j)).set j (.int .i64 (j : Int)) = nums .i64 (iotaI n (j + 1)) from by rw [← iotaI_set n j hlt]; simp [nums, List.map_set]] at hst
      have HST := Aside0.mk hst
      clear hst
      go_wp2
      go_roundw
      case rel => exact ⟨j + 1, by omega, by go_num, ⟨HST.out.1⟩, ⟨HDr.out.other (fun k hk => by cases hk; exact ⟨hble, by omega⟩) HST.out.2⟩, ⟨grown_of_fresh HG.out HST.out.2 (fun k hk => by cases hk; exact Nat.le_refl _)⟩⟩
      case measure => simp [intOf]; omega
    · obtain rfl : j = n := by omega
      have H := HR.out
      rw [iotaI_all l N j] at H
      have HL := Aside0.mk H
      clear H HR HO HD0 HGW HD
      have HX := HK.out
      go_wp2
      generalize min (max kk 0) (j : Int) = MM at *
      subst HX
      go_loopw [7, 9, 37] (fun v7 v9 i wr => ∃ k : Nat, k ≤ K ∧ i = .int .i64 k ∧ v7 = .slice (some ⟨w.heap.size, 0, none⟩) (leftI l N j k).length j ∧ Aside0 (Own wr w.heap.size 3 (.slice (some ⟨w.heap.size, 0, none⟩) (leftI l N j k).length j) (nums .i64 (leftI l N j k))) ∧
          Aside0 (wr.ownsRow w.heap.size 3 1 v9 (outI l N j k).length (nums .i64 (outI l N j k)) ∧ (v9.ownBlock = none ∨ v9.ownBlock ≠ some w.heap.size)) ∧ Aside0 (Drw wr b g T l (N + k)) ∧ Aside0 (w.grownBy wr (some g)))
        (fun _ _ i _ => K - (intOf i).toNat)
      case atStart => exact ⟨0, Nat.zero_le _, rfl, by rw [leftI_length _ _ _ _ (Nat.zero_le _)]; rfl, ⟨by rw [leftI_length _ _ _ _ (Nat.zero_le _)]; exact HL.out⟩, ⟨World.ownsRow_nil _ _ _ _, .inl rfl⟩, HDr, HG⟩
      case round =>
        obtain ⟨k, hk, rfl, rfl, HR, HV, HDk, HGk⟩ := hrel
        by_cases hlt : k < K
        · have hll := leftI_length l N j k (by omega)
          have hjj := jOf_lt l N j k (by omega)
          have hbl := Below_any b g T l (N + k) (((leftI l N j k).length : Nat) : Int) wr HDk.out (by omega) (by omega) (by omega)
          rw [(belowV_yes l (N + k) (n := (((leftI l N j k).length : Nat) : Int)) (by omega)).2] at hbl
          rw [show belowV l (N + k) (((leftI l N j k).length : Nat) : Int) = ((jOf l N j k : Nat) : Int) by rw [hll]; exact belowV_j l N j k (by omega)] at hbl
          have HLS := Aside0.mk (leftI_succ l N j k (by omega))
          have HOS := Aside0.mk (outI_succ l N j k (by omega))
          have HOL := Aside0.mk (outI_length l N j k)
          generalize jOf l N j k = q at *
          generalize leftI l N j k = L at *
          have hqL : q < L.length := by omega
          have hgd : L.getD q 0 = L[q] := by rw [List.getD_eq_getElem?_getD, List.getElem?_eq_getElem hqL]; rfl
          have HGD := Aside0.mk hgd
          have HLL := Aside0.mk hll
          clear hgd hll hjj
          go_wp2_with fail
          refine hbl.mono ?_
          rintro e w1 ⟨rfl, hD1, hG1⟩
          have hR1 : Own w1 w.heap.size 3 (.slice (some ⟨w.heap.size, 0, none⟩) L.length j) (nums .i64 L) := HR.out.grown hG1 (HR.out.ne_small hglt)
          have hV1 : w1.ownsRow w.heap.size 3 1 u9 (outI l N j k).length (nums .i64 (outI l N j k)) := HV.out.1.kept hG1 (Own.ne_small (Own.of_row HV.out.1) hglt)
          have HD1 := Aside0.mk hD1
          have HG1 := Aside0.mk (World.grownBy.trans HGk.out hG1)
          obtain ⟨g', cap', hv', hgb, hgs, _, hcell, hfr⟩ := hR1.at_ q (by rw [nums_length]; exact hqL)
          rw [nums_length] at hv'
          cases hv'
          rw [show (nums .i64 L)[q]'(by rw [nums_length]; exact hqL) = .int .i64 L[q] by simp [nums]] at hcell
          have HR1 := Aside0.mk hR1
          have HV1 := Aside0.mk hV1
          have hs1 : w.heap.size ≤ w1.heap.size := HG1.out.size
          have hLL : ((outI l N j k).length + 1) * 8 ≤ 140737488355328 := by rw [HOL.out]; omega
          clear hR1 hV1 hD1 hG1 hbl
          go_wp2_with (at_builtin; refine print_append_num (w0 := w1) w.heap.size rfl (.tmp 43) (.tmp 48) 60 3 .i64 8 rfl Tryd.underlying60 info_int (by decide) _ (outI l N j k) (L[q]) rfl rfl HV1.out (Below.refl _ _) hs1 hLL ?_; intro v2 w2 ho2 hb2 hg2 hat2)
          have hlt9 : ∀ k, u9.ownBlock = some k → w.heap.size ≤ k := fun k hk => ((Own.of_row HV.out.1).lt k hk).1
          have hne9 : (Value.slice (some ⟨w.heap.size, 0, none⟩) L.length j).ownBlock = none ∨ (Value.slice (some ⟨w.heap.size, 0, none⟩) L.length j).ownBlock ≠ u9.ownBlock := by
            right
            intro e
            rcases HV.out.2 with h | h
            · rw [h] at e; cases e
            · exact h e.symm
          have hR2 := HR1.out.grown hg2 hne9
          have HD2 := Aside0.mk (HD1.out.other (fun k hk => ⟨Nat.le_trans hble (hlt9 k hk), by have := hlt9 k hk; omega⟩) hg2)
          have HG2 := Aside0.mk (grown_of_fresh HG1.out hg2 hlt9)
          have hn2 : v2.ownBlock = none ∨ v2.ownBlock ≠ some w.heap.size := by
            rcases hat2 with h | ⟨b', hb', hbs⟩
            · rw [h]; exact HV.out.2
            · right; rw [hb']; intro e; injection e with e; omega
          have hdel := Delete_any w2 w.heap.size w.heap.size j L q hR2 hqL
          have HO2 := Aside0.mk ho2
          clear hR2 ho2 hb2 hg2 hat2 hne9 hlt9 hcell hfr
          have q1 : (q : Int) + 1 ≤ 9223372036854775807 := by have := HLL.out; omega
          have hw : wrap64 ((q : Int) + 1) = (q : Int) + 1 := by simp only [wrap64]; have := HLL.out; omega
          go_wp2_with fail
          first | rw [hw] | skip
          go_must (refine hdel.mono ?_)
          clear hw
          rintro e w3 ⟨rfl, hO3, hG3⟩
          have HR3 : Aside0 (Own w3 w.heap.size 3 (.slice (some ⟨w.heap.size, 0, none⟩) (leftI l N j (k + 1)).length j) (nums .i64 (leftI l N j (k + 1)))) := ⟨by rw [HLS.out]; exact hO3⟩
          have HV3 : Aside0 (w3.ownsRow w.heap.size 3 1 v2 (outI l N j (k + 1)).length (nums .i64 (outI l N j (k + 1))) ∧ (v2.ownBlock = none ∨ v2.ownBlock ≠ some w.heap.size)) := ⟨by rw [HOS.out, HGD.out]; exact HO2.out.kept hG3 hn2, hn2⟩
          have HD3 := Aside0.mk (HD2.out.other (fun k hk => by cases hk; exact ⟨hble, by omega⟩) hG3)
          have HG3 := Aside0.mk (grown_of_fresh HG2.out hG3 (fun k hk => by cases hk; exact Nat.le_refl _))
          have HLS' := Aside0.mk (congrArg List.length HLS.out)
          clear hO3 hG3 hdel
          go_wp2
          go_roundw
          case rel => exact ⟨k + 1, by omega, by go_num, by rw [HLS'.out], HR3, HV3, HD3, HG3⟩
          case measure => simp [intOf]; omega
        · obtain rfl : k = K := by omega
          have hsrt := Sort_any wr w.heap.size u9 (outI l N j k) (Own.of_row HV.out.1) (by rw [outI_length]; omega)
          rw [show (outI l N j k).mergeSort (fun x y => decide (x ≤ y)) = resD l N j k from sort_outD l N j k hKn] at hsrt
          go_wp2_with fail
          refine hsrt.mono ?_
          rintro e w3 ⟨rfl, hO3, hG3⟩
          have hlt9 : ∀ k, u9.ownBlock = some k → w.heap.size ≤ k := fun k hk => ((Own.of_row HV.out.1).lt k hk).1
          have HO3 := Aside0.mk hO3
          have HD3 := Aside0.mk (HDk.out.other (fun k hk => ⟨Nat.le_trans hble (hlt9 k hk), by have := hlt9 k hk; omega⟩) hG3)
          have HG3 := Aside0.mk (grown_of_fresh HGk.out hG3 hlt9)
          clear hO3 hG3 hsrt
          go_wp2
          go_ret
          exact ⟨_, rfl, HO3.out, HD3.out, HG3.out⟩

end Go.Proofs.YtcelfpgkeeaggaaDoor.DrawsE
