/- peel.Ripple and the reference's, the walks. No condition. -/
import Derived.Test.YtnfabflkajpkfaaDoorSetO
import Derived.Test.YtnfabflkajpkfaaDoorRipP
import Derived.Test.YtnfabflkajpkfaaDoorWordsP
import Derived.Test.YtnfabflkajpkfaaDoorInts
import Derived.Test.YtnfabflkajpkfaaDoorWith
namespace Go.Proofs.YtnfabflkajpkfaaDoor.RipW
open Go Go.RowKit Go.Proofs.YtnfabflkajpkfaaDoorW.PrintWords Go.Proofs.YtnfabflkajpkfaaDoor.Base Go.Proofs.YtnfabflkajpkfaaDoor.Bits Go.Proofs.YtnfabflkajpkfaaDoor.BitsN Go.Proofs.YtnfabflkajpkfaaDoor.Kinds Go.Proofs.YtnfabflkajpkfaaDoor.Words Go.Proofs.YtnfabflkajpkfaaDoor.WordsP Go.Proofs.YtnfabflkajpkfaaDoor.PeelP Go.Proofs.YtnfabflkajpkfaaDoor.Rows2 Go.Proofs.YtnfabflkajpkfaaDoor.SetO Go.Proofs.YtnfabflkajpkfaaDoor.RipP Go.Proofs.YtnfabflkajpkfaaDoor.With
set_option linter.unusedVariables false
set_option linter.unusedSimpArgs false

theorem info_int : (Tryd.prog.info? 3).map (fun i => (i.zero, i.size, i.bytes)) = some (some (.int .i64 0), 1, 8) := by kernel_rfl

set_option maxRecDepth 100000 in
set_option maxHeartbeats 2000000 in
theorem Ripple_any (A : Option Addr) (c : Nat) (K : List RowL) (B : Option Addr) (d : Nat) (rows : List RowL) (w : World) (hK : KRow.C w A K.length K) (hR : KRow.C w B rows.length rows) (hk : ∀ x ∈ K, x.vec.length ≤ 1000) (hr : ∀ x ∈ rows, x.vec.length ≤ 1000) (hn : rows.length ≤ 1000000) (hT : TzOk w) :
    Calls Tryd.prog 19 #[.slice A K.length c, .slice B rows.length d] w fun e w' =>
      ∃ A' c', e = .returned (.slice A' (ripI K rows rows.length).length c') ∧ (Kd.int .i64).C w' A' (ripI K rows rows.length).length (ripI K rows rows.length) ∧ Below w.heap.size w w' := by
  have hm := C_max hK
  have hm2 := C_max hR
  have HK := Aside0.mk hK
  have HR := Aside0.mk hR
  have HKL := Aside0.mk hk
  have HRL := Aside0.mk hr
  have HT := Aside0.mk hT
  clear hK hR hk hr hT
  go_enter Tryd.func19, Tryd.ntmps19
  go_wp2
  go_loopw [5, 13] (fun v y wo => ∃ j : Nat, y = .int .i64 j ∧ j ≤ rows.length ∧ Aside0 (wo.ownsRow w.heap.size 3 1 v (ripI K rows j).length (nums .i64 (ripI K rows j))) ∧ Aside0 (Below w.heap.size w wo)) (fun _ y _ => rows.length - (intOf y).toNat)
  case atStart => exact ⟨0, rfl, Nat.zero_le _, ⟨World.ownsRow_nil _ _ _ _⟩, ⟨Below.refl _ _⟩⟩
  case round =>
    obtain ⟨j, rfl, hj, HO, HB⟩ := hrel
    rename World => wo
    by_cases hlt : j < rows.length
    · obtain ⟨ad, A0, c0, rfl, hc1, hc2, hcc, hV⟩ := at_row (Kd.C_below HR.out HB.out) j hlt
      have hmem := HRL.out _ (List.getElem_mem hlt)
      have HY := Aside0.mk (And.intro (ripI_yes (K := K) hlt) (ripI_no (K := K) hlt))
      have HJ := Aside0.mk (show ((ripI K rows j).length + 1) * 8 ≤ 140737488355328 by have := ripI_length K rows j; omega)
      have HRN := Aside0.mk (fun L => ripV_length L (rows[j]).vec)
      generalize rows[j] = r at *
      have hal : Below wo.heap.size wo (wo.alloc (.cells #[.slice A0 r.vec.length c0, .string r.data] 36)) := (Below.refl _ _).alloc (Nat.le_refl _) _
      have HV0 := Aside0.mk (show Vst wo (wo.alloc (.cells #[.slice A0 r.vec.length c0, .string r.data] 36)) (.slice A0 r.vec.length c0) r.vec from .inl ⟨_, _, rfl, hcc, hV⟩)
      have HAL := Aside0.mk hal
      clear hal hV
      go_wp2
      go_loopw [8, 22] (fun s z wz => ∃ i : Nat, z = .int .i64 i ∧ i ≤ K.length ∧ Aside0 (Vst wo wz s (ripV (K.take i) r.vec)) ∧ Aside0 (Below wo.heap.size wo wz)) (fun _ z _ => K.length - (intOf z).toNat)
      case atStart => exact ⟨0, rfl, Nat.zero_le _, HV0, HAL⟩
      case round =>
        clear HV0 HAL hc1 hc2
        obtain ⟨i, rfl, hi, HV, HZ⟩ := hrel
        rename World => wz
        have HLN := Aside0.mk (show (ripV (K.take i) r.vec).length ≤ 1000 by rw [HRN.out]; exact hmem)
        by_cases hli : i < K.length
        · obtain ⟨kd, A1, c1, rfl, hd1, hd2, hdc, hV1⟩ := at_row (Kd.C_below HK.out (HB.out.trans (HZ.out.mono HB.out.size))) i hli
          have hmem1 := HKL.out _ (List.getElem_mem hli)
          have HS := Aside0.mk (ripV_succ hli r.vec)
          generalize K[i] = x at *
          generalize ripV (K.take i) r.vec = v at *
          obtain ⟨As, cs, rfl, hcs, hVs⟩ := HV.out.C HZ.out
          have hal : Below wz.heap.size wz (wz.alloc (.cells #[.slice A1 x.vec.length c1, .string x.data] 36)) := (Below.refl _ _).alloc (Nat.le_refl _) _
          have hcnt := Count_any A1 c1 x.vec _ (Kd.C_below hV1 hal) (by omega)
          have hfst := First_any A1 c1 x.vec _ (Kd.C_below hV1 hal) (by omega) ((HT.out.below (HB.out.trans (HZ.out.mono HB.out.size))).below hal)
          have HVL := Aside0.mk (HV.out.below hal)
          have HZL := Aside0.mk (HZ.out.trans (hal.mono HZ.out.size))
          by_cases hone : cntW x.vec = 1
          · obtain ⟨f, hf, hfl, _⟩ := cnt_one hone
            have HE := Aside0.mk (show ripS v x = setW v f false by rw [ripS, if_pos hone, hf]; rfl)
            have hset := SetG_any As cs v f false _ (Kd.C_below hVs hal) (by omega) (by have := HLN.out; omega)
            rw [hone] at hcnt
            rw [hf] at hfst
            have HCNT := Aside0.mk hcnt
            have HFST := Aside0.mk hfst
            have HSET := Aside0.mk hset
            clear hcnt hfst hset hal hV1 hVs hone hf
            go_upto_region 10 with (go_at_call 39; refine HCNT.out.mono ?_; rintro e w4 ⟨rfl, rfl⟩)
            clear HCNT
            go_wp2_with (first
              | (go_at_call 40; refine HFST.out.mono ?_; rintro e w4 ⟨rfl, rfl⟩)
              | (go_at_call 48; refine HSET.out.mono ?_; rintro e w5 ⟨v5, rfl, hO5, hb5⟩))
            have HV5 := Aside0.mk (show Vst wo w5 v5 (setW v f false) from .inr (hO5.lower HZL.out.size))
            have HZ5 := Aside0.mk (HZL.out.trans (hb5.mono HZL.out.size))
            clear hO5 hb5
            go_roundw
            case rel => exact ⟨i + 1, by go_num, by omega, ⟨by rw [HS.out, HE.out]; exact HV5.out⟩, HZ5⟩
            case measure => simp [intOf]; omega
          · have HE := Aside0.mk (show ripS v x = v by rw [ripS, if_neg hone])
            have hd := one_iff (cntW x.vec)
            rw [decide_eq_false hone] at hd
            have HCNT := Aside0.mk hcnt
            clear hcnt hfst hal hV1 hVs
            go_wp2_with (go_at_call 39; refine HCNT.out.mono ?_; rintro e w4 ⟨rfl, rfl⟩)
            go_roundw
            case rel => exact ⟨i + 1, by go_num, by omega, ⟨by rw [HS.out, HE.out]; exact HVL.out⟩, HZL⟩
            case measure => simp [intOf]; omega
        · obtain rfl : i = K.length := by omega
          rw [List.take_length] at HV HLN
          have HOZ := Aside0.mk (owns_below HO.out HZ.out)
          have HBZ := Aside0.mk (HB.out.trans (HZ.out.mono HB.out.size))
          obtain ⟨As, cs, rfl, hcs, hVs⟩ := HV.out.C HZ.out
          have hcnt := Count_any As cs _ wz hVs (by have := HLN.out; omega)
          clear hVs HO HV
          generalize hq : cntW (ripV K r.vec) = q at *
          have HQ := Aside0.mk hq
          have HCNT := Aside0.mk hcnt
          clear hcnt hq
          by_cases hone : q = 1
          · have HE := Aside0.mk (HY.out.1 hone)
            subst hone
            go_upto_region 13 with (go_at_call 39; refine HCNT.out.mono ?_; rintro e w4 ⟨rfl, rfl⟩)
            clear HCNT
            go_wp2_with (at_builtin; refine print_append_num (w0 := w) w.heap.size rfl (.tmp 39) (.tmp 41) 30 3 .i64 8 rfl Tryd.underlying30 info_int (by decide) _ (ripI K rows j) (j : Int) rfl rfl HOZ.out HBZ.out HBZ.out.size HJ.out ?_; intro v1 w1 ho1 hb1 _ _)
            have H1 := Aside0.mk ho1
            have H2 := Aside0.mk hb1
            clear ho1 hb1
            go_roundw
            case rel => exact ⟨j + 1, by go_num, by omega, ⟨by rw [HE.out]; exact H1.out⟩, H2⟩
            case measure => simp [intOf]; omega
          · have HE := Aside0.mk (HY.out.2 hone)
            have hd := one_iff q
            rw [decide_eq_false hone] at hd
            go_wp2_with (go_at_call 39; refine HCNT.out.mono ?_; rintro e w4 ⟨rfl, rfl⟩)
            go_roundw
            case rel => exact ⟨j + 1, by go_num, by omega, ⟨by rw [HE.out]; exact HOZ.out⟩, HBZ⟩
            case measure => simp [intOf]; omega
    · obtain rfl : j = rows.length := by omega
      obtain ⟨A', c', e', _, hC'⟩ := (Own.of_row HO.out).C_int
      subst e'
      have HC' := Aside0.mk hC'
      clear hC'
      go_wp2
      go_ret
      exact ⟨A', c', rfl, HC'.out, HB.out⟩

set_option maxRecDepth 100000 in
set_option maxHeartbeats 2000000 in
theorem refRipple_any (A : Option Addr) (c : Nat) (K : List RowL) (B : Option Addr) (d : Nat) (rows : List RowL) (w : World) (hK : KRow.C w A K.length K) (hR : KRow.C w B rows.length rows) (hk : ∀ x ∈ K, x.vec.length ≤ 1000) (hr : ∀ x ∈ rows, x.vec.length ≤ 1000) (hn : rows.length ≤ 1000000) :
    Calls Tryd.prog 20 #[.slice A K.length c, .slice B rows.length d] w fun e w' =>
      ∃ A' c', e = .returned (.slice A' (ripI K rows rows.length).length c') ∧ (Kd.int .i64).C w' A' (ripI K rows rows.length).length (ripI K rows rows.length) ∧ Below w.heap.size w w' := by
  have hm := C_max hK
  have hm2 := C_max hR
  have HK := Aside0.mk hK
  have HR := Aside0.mk hR
  have HKL := Aside0.mk hk
  have HRL := Aside0.mk hr
  clear hK hR hk hr
  go_enter Tryd.func20, Tryd.ntmps20
  go_wp2
  go_loopw [5, 6] (fun v y wo => ∃ j : Nat, y = .int .i64 j ∧ j ≤ rows.length ∧ Aside0 (wo.ownsRow w.heap.size 3 1 v (ripI K rows j).length (nums .i64 (ripI K rows j))) ∧ Aside0 (Below w.heap.size w wo)) (fun _ y _ => rows.length - (intOf y).toNat)
  case atStart => exact ⟨0, rfl, Nat.zero_le _, ⟨World.ownsRow_nil _ _ _ _⟩, ⟨Below.refl _ _⟩⟩
  case round =>
    obtain ⟨j, rfl, hj, HO, HB⟩ := hrel
    rename World => wo
    by_cases hlt : j < rows.length
    · obtain ⟨ad, A0, c0, rfl, hc1, hc2, hcc, hV⟩ := at_row (Kd.C_below HR.out HB.out) j hlt
      have hmem := HRL.out _ (List.getElem_mem hlt)
      have HY := Aside0.mk (And.intro (ripI_yes (K := K) hlt) (ripI_no (K := K) hlt))
      have HJ := Aside0.mk (show ((ripI K rows j).length + 1) * 8 ≤ 140737488355328 by have := ripI_length K rows j; omega)
      have HRN := Aside0.mk (fun L => ripV_length L (rows[j]).vec)
      generalize rows[j] = r at *
      have hal : Below wo.heap.size wo wo := Below.refl _ _
      have HV0 := Aside0.mk (show Vst wo wo (.slice A0 r.vec.length c0) r.vec from .inl ⟨_, _, rfl, hcc, hV⟩)
      have HAL := Aside0.mk hal
      clear hal hV
      go_wp2
      go_loopw [7, 8] (fun s z wz => ∃ i : Nat, z = .int .i64 i ∧ i ≤ K.length ∧ Aside0 (Vst wo wz s (ripV (K.take i) r.vec)) ∧ Aside0 (Below wo.heap.size wo wz)) (fun _ z _ => K.length - (intOf z).toNat)
      case atStart => exact ⟨0, rfl, Nat.zero_le _, HV0, HAL⟩
      case round =>
        clear HV0 HAL hc1 hc2
        obtain ⟨i, rfl, hi, HV, HZ⟩ := hrel
        rename World => wz
        have HLN := Aside0.mk (show (ripV (K.take i) r.vec).length ≤ 1000 by rw [HRN.out]; exact hmem)
        by_cases hli : i < K.length
        · obtain ⟨kd, A1, c1, rfl, hd1, hd2, hdc, hV1⟩ := at_row (Kd.C_below HK.out (HB.out.trans (HZ.out.mono HB.out.size))) i hli
          have hmem1 := HKL.out _ (List.getElem_mem hli)
          have HS := Aside0.mk (ripV_succ hli r.vec)
          generalize K[i] = x at *
          generalize ripV (K.take i) r.vec = v at *
          obtain ⟨As, cs, rfl, hcs, hVs⟩ := HV.out.C HZ.out
          have hal : Below wz.heap.size wz wz := Below.refl _ _
          have hcnt := refCount_any A1 c1 x.vec wz hV1 (by omega)
          have hfst := refFirst_any A1 c1 x.vec wz hV1 (by omega)
          have HVL := Aside0.mk (HV.out.below hal)
          have HZL := Aside0.mk (HZ.out.trans (hal.mono HZ.out.size))
          by_cases hone : cntW x.vec = 1
          · obtain ⟨f, hf, hfl, _⟩ := cnt_one hone
            have HE := Aside0.mk (show ripS v x = setW v f false by rw [ripS, if_pos hone, hf]; rfl)
            have hset := refSetG_any As cs v f false wz hVs (by omega) (by have := HLN.out; omega)
            rw [hone] at hcnt
            rw [hf] at hfst
            have HCNT := Aside0.mk hcnt
            have HFST := Aside0.mk hfst
            have HSET := Aside0.mk hset
            clear hcnt hfst hset hal hV1 hVs hone hf
            go_upto_region 10 with (go_at_call 23; refine HCNT.out.mono ?_; rintro e w4 ⟨rfl, rfl⟩)
            clear HCNT
            go_wp2_with (first
              | (go_at_call 22; refine HFST.out.mono ?_; rintro e w4 ⟨rfl, rfl⟩)
              | (go_at_call 49; refine HSET.out.mono ?_; rintro e w5 ⟨v5, rfl, hO5, hb5⟩))
            have HV5 := Aside0.mk (show Vst wo w5 v5 (setW v f false) from .inr (hO5.lower HZL.out.size))
            have HZ5 := Aside0.mk (HZL.out.trans (hb5.mono HZL.out.size))
            clear hO5 hb5
            go_roundw
            case rel => exact ⟨i + 1, by go_num, by omega, ⟨by rw [HS.out, HE.out]; exact HV5.out⟩, HZ5⟩
            case measure => simp [intOf]; omega
          · have HE := Aside0.mk (show ripS v x = v by rw [ripS, if_neg hone])
            have hd := one_iff (cntW x.vec)
            rw [decide_eq_false hone] at hd
            have HCNT := Aside0.mk hcnt
            clear hcnt hfst hal hV1 hVs
            go_wp2_with (go_at_call 23; refine HCNT.out.mono ?_; rintro e w4 ⟨rfl, rfl⟩)
            go_roundw
            case rel => exact ⟨i + 1, by go_num, by omega, ⟨by rw [HS.out, HE.out]; exact HVL.out⟩, HZL⟩
            case measure => simp [intOf]; omega
        · obtain rfl : i = K.length := by omega
          rw [List.take_length] at HV HLN
          have HOZ := Aside0.mk (owns_below HO.out HZ.out)
          have HBZ := Aside0.mk (HB.out.trans (HZ.out.mono HB.out.size))
          obtain ⟨As, cs, rfl, hcs, hVs⟩ := HV.out.C HZ.out
          have hcnt := refCount_any As cs _ wz hVs (by have := HLN.out; omega)
          clear hVs HO HV
          generalize hq : cntW (ripV K r.vec) = q at *
          have HQ := Aside0.mk hq
          have HCNT := Aside0.mk hcnt
          clear hcnt hq
          by_cases hone : q = 1
          · have HE := Aside0.mk (HY.out.1 hone)
            subst hone
            go_upto_region 12 with (go_at_call 23; refine HCNT.out.mono ?_; rintro e w4 ⟨rfl, rfl⟩)
            clear HCNT
            go_wp2_with (at_builtin; refine print_append_num (w0 := w) w.heap.size rfl (.tmp 44) (.tmp 46) 30 3 .i64 8 rfl Tryd.underlying30 info_int (by decide) _ (ripI K rows j) (j : Int) rfl rfl HOZ.out HBZ.out HBZ.out.size HJ.out ?_; intro v1 w1 ho1 hb1 _ _)
            have H1 := Aside0.mk ho1
            have H2 := Aside0.mk hb1
            clear ho1 hb1
            go_roundw
            case rel => exact ⟨j + 1, by go_num, by omega, ⟨by rw [HE.out]; exact H1.out⟩, H2⟩
            case measure => simp [intOf]; omega
          · have HE := Aside0.mk (HY.out.2 hone)
            have hd := one_iff q
            rw [decide_eq_false hone] at hd
            go_wp2_with (go_at_call 23; refine HCNT.out.mono ?_; rintro e w4 ⟨rfl, rfl⟩)
            go_roundw
            case rel => exact ⟨j + 1, by go_num, by omega, ⟨by rw [HE.out]; exact HOZ.out⟩, HBZ⟩
            case measure => simp [intOf]; omega
    · obtain rfl : j = rows.length := by omega
      obtain ⟨A', c', e', _, hC'⟩ := (Own.of_row HO.out).C_int
      subst e'
      have HC' := Aside0.mk hC'
      clear hC'
      go_wp2
      go_ret
      exact ⟨A', c', rfl, HC'.out, HB.out⟩

end Go.Proofs.YtnfabflkajpkfaaDoor.RipW
