/- peel.Peel, the walk. No condition. -/
import Derived.Test.YtnfabflkajpkfaaDoorPeelV
namespace Go.Proofs.YtnfabflkajpkfaaDoor.PeelW
open Go Go.RowKit Go.Maps Go.Proofs.YtnfabflkajpkfaaDoorW.PrintWords Go.Proofs.YtnfabflkajpkfaaDoor.Base Go.Proofs.YtnfabflkajpkfaaDoor.Bits Go.Proofs.YtnfabflkajpkfaaDoor.BitsN Go.Proofs.YtnfabflkajpkfaaDoor.Kinds Go.Proofs.YtnfabflkajpkfaaDoor.Words Go.Proofs.YtnfabflkajpkfaaDoor.WordsP Go.Proofs.YtnfabflkajpkfaaDoor.PeelP Go.Proofs.YtnfabflkajpkfaaDoor.Rows2 Go.Proofs.YtnfabflkajpkfaaDoor.MapR Go.Proofs.YtnfabflkajpkfaaDoor.MapS Go.Proofs.YtnfabflkajpkfaaDoor.KeysM Go.Proofs.YtnfabflkajpkfaaDoor.PeelQ Go.Proofs.YtnfabflkajpkfaaDoor.Valid Go.Proofs.YtnfabflkajpkfaaDoor.RowsA Go.Proofs.YtnfabflkajpkfaaDoor.Delete Go.Proofs.YtnfabflkajpkfaaDoor.PeelV
set_option linter.unusedVariables false
set_option linter.unusedSimpArgs false

theorem run_field0 (A : Option Addr) (n c : Nat) (d : ByteArray) (w : World) : (Instr.field 36 (.agg #[.slice A n c, .string d]) 0).run Tryd.prog w = .ok (.slice A n c) w := by
  simp [Instr.field, run_underlying Tryd.underlying36, part, Tryd.isAgg34, Tryd.sizeOf34, asAgg]

set_option maxRecDepth 100000 in
set_option maxHeartbeats 4000000 in
theorem Peel_any (A : Option Addr) (c : Nat) (rows : List RowL) (k : Int) (w : World) (hC : KRow.C w A rows.length rows) (h0 : -9223372036854775808 ≤ k) (h1 : k ≤ 9223372036854775807) (hn : rows.length ≤ 1000000) (hd : ∀ r ∈ rows, r.data.size ≤ 1000000) (hT : TzOk w) :
    Calls Tryd.prog 15 #[.int .i64 k, .slice A rows.length c] w fun e w' =>
      ∃ va vb, e = .returned (.tuple #[va, vb]) ∧ RowsV w w' w.heap.size va (knownL (validL k rows)) ∧ RowsV w w' w.heap.size vb (leftL (validL k rows)) ∧ Below w.heap.size w w' := by
  have hm := C_max hC
  have hrl : (validL k rows).length ≤ 1000000 := Nat.le_trans (List.length_filter_le _ _) hn
  have hrm := fun r hr => validL_len (k := k) (rows := rows) r hr
  have hM2 := sizeW_two k
  have hrd : ∀ r ∈ validL k rows, r.data.size ≤ 1000000 := fun r hr => hd r (mem_validL.1 hr).1
  have hbm : Below w.heap.size w (w.alloc (.map #[] 0)) := (Below.refl _ _).alloc (Nat.le_refl _) _
  have hval := fun w' (hb : Below w.heap.size w w') => ValidR_any A c rows k w' (Kd.C_below hC hb) h0 h1 (by omega)
  generalize hR : validL k rows = R at *
  generalize (sizeW k).toNat = M at *
  have HT := Aside0.mk hT
  have HVAL := Aside0.mk (hval _ hbm)
  have HBM := Aside0.mk hbm
  have HRM := Aside0.mk hrm
  have HRD := Aside0.mk hrd
  clear hT hC hval hbm hR hd hrm hrd
  have hmm := @run_makeMap Tryd.prog
  go_enter Tryd.func15, Tryd.ntmps15
  go_wp2_with (go_at_call 37; refine HVAL.out.mono ?_; rintro e w2 ⟨A2, c2, rfl, hc2, hC2, hb2⟩)
  have HF0 := Aside0.mk (show Fill w w2 w.heap.size A2 R 0 from ⟨.map [], mapKept (World.ownsMap_made w Tryd.prog 3 Rv) hb2, ((MRel.empty w _).move (grown_of_below hb2 none) (notW_none _)).congr (fun j => by simp), hC2, HBM.out.trans (hb2.mono (by simp))⟩)
  have HB2 := Aside0.mk (show w.heap.size + 1 ≤ w2.heap.size from by have := hb2.size; simpa using this)
  clear hb2 hC2 HVAL
  go_wp2
  go_loopw [28] (fun x wr => ∃ i : Nat, x = .int .i64 i ∧ i ≤ R.length ∧ Aside0 (Fill w wr w.heap.size A2 R i) ∧ Aside0 (w.heap.size + 1 ≤ wr.heap.size)) (fun x _ => R.length - (intOf x).toNat)
  case atStart => exact ⟨0, rfl, Nat.zero_le _, HF0, HB2⟩
  case round =>
    clear HF0 HB2
    obtain ⟨i, rfl, hi, HF, HZ⟩ := hrel
    by_cases hlt : i < R.length
    · obtain ⟨ad, A0, c0, rfl, hc1, hc2', hcc, hV⟩ := at_row HF.out.choose_spec.2.2.1 i hlt
      have hal : Below wr.heap.size wr (wr.alloc (.cells #[.slice A0 (R[i]).vec.length c0, .string (R[i]).data] 36)) := (Below.refl _ _).alloc (Nat.le_refl _) _
      have HAL := Aside0.mk hal
      have HFW := Aside0.mk (HF.out.below hal)
      have HCW := Aside0.mk (Kd.C_below hV hal)
      have HZW := Aside0.mk (Nat.le_trans HZ.out hal.size)
      have HV := Aside0.mk hV
      clear hV hal hmm
      go_upto_region 5 with fail
      generalize hW : wr.alloc (.cells #[.slice A0 (R[i]).vec.length c0, .string (R[i]).data] 36) = W at *
      have q0 : W.cell? ⟨wr.heap.size, 0, none⟩ = some (.slice A0 (R[i]).vec.length c0) := by rw [← hW]; simp
      have q1 : W.cell? ⟨wr.heap.size, 1, none⟩ = some (.string (R[i]).data) := by rw [← hW]; simp
      have hq : wr.heap.size < W.heap.size := by rw [← hW]; simp
      clear hW
      have hcl := CloneW_any A0 c0 (R[i]).vec W.drew (HCW.out) (by rw [HRM.out _ (List.getElem_mem hlt)]; omega)
      have HUP : Aside0 (∀ w5 s, Below W.heap.size W.drew w5 → Own w5 W.heap.size 45 s ((R[i]).vec.map encW) → ∃ w', (Instr.mapUpdate 47 (.map (some w.heap.size)) (.int .i64 i) (.agg #[s, .string (R[i]).data])).run Tryd.prog w5 = .ok () w' ∧ Fill w w' w.heap.size (some ad) R (i + 1) ∧ w.heap.size + 1 ≤ w'.heap.size) := ⟨fun w5 s hb hs => (HFW.out.below (show Below W.heap.size W w5 from (Below.refl W.heap.size W).drew.trans hb)).put (Nat.le_refl _) hlt (by omega) (hs.lower (by have := HZW.out; omega)) |>.imp fun w' h => ⟨h.1, h.2.1, Nat.le_trans HZW.out (Nat.le_trans hb.size h.2.2)⟩⟩
      have HCL := Aside0.mk hcl
      clear hcl
      go_region_law (first
        | (go_simp; go_at_call 38; go_must (refine HCL.out.mono ?_; rintro e w5 ⟨v5, rfl, hO5, hb5⟩; have y0 := (hb5.cell (p := ⟨wr.heap.size, 0, none⟩) hq).trans q0; have y1 := (hb5.cell (p := ⟨wr.heap.size, 1, none⟩) hq).trans q1; obtain ⟨w6, hup, hF6, hZ6⟩ := HUP.out w5 v5 hb5 hO5; obtain ⟨A5, c5, e5, _, _⟩ := hO5.Cw; subst e5)))
      all_goals
        have HF6 := Aside0.mk hF6
        clear hF6 y0 y1 hb5 hO5
        go_wp2
        go_roundw
        case rel => exact ⟨i + 1, by go_num, by omega, HF6, ⟨hZ6⟩⟩
        case measure => simp [intOf]; omega
    · obtain ⟨D0, k1, k2, _, k4⟩ := HF.out
      have hle : i = R.length := by omega
      have hbm2 : Below wr.heap.size wr (wr.alloc (.map #[] 0)) := (Below.refl _ _).alloc (Nat.le_refl _) _
      have HO0 := Aside0.mk (show OK w (wr.alloc (.map #[] 0)) wr.heap.size R D0 (fun j => if j < R.length then R[j]? else none) 0 from by
        refine ⟨?_, ⟨.map [], fun _ => none, World.ownsMap_made wr Tryd.prog 3 Rv, MRel.empty _ _, KInv.start⟩, LInv.start R, rfl, k4.trans (hbm2.mono k4.size)⟩
        rw [hle] at k2
        exact k2.move (grown_of_below hbm2 none) (notW_none _))
      have HL0 := Aside0.mk (show (wr.alloc (.map #[] 0)).ownsMap Tryd.prog 3 Rv w.heap.size R.length D0 from by
        rw [hle] at k1
        exact mapKept k1 hbm2)
      have HBK := Aside0.mk (show w.heap.size + 1 ≤ wr.heap.size from HZ.out)
      clear k1 k2 k4 hle hbm2 HF HZ
      go_wp2
      generalize hbk : wr.heap.size = bk at *
      go_loopw [] (fun wo => ∃ n DL mL, Aside0 (wo.ownsMap Tryd.prog 3 Rv w.heap.size R.length DL) ∧ Aside0 (OK w wo bk R DL mL n)) (fun wo => mapLen wo w.heap.size)
      case atStart => exact ⟨0, _, _, HL0, HO0⟩
      case round =>
        clear HO0 HL0
        obtain ⟨n, DL, mL, HL, HO⟩ := hrel
        rename World => wo
        go_wp2_with (first
          | (at_range; refine wpList_range_own _ rfl _ 47 rfl 3 36 kI Tryd.underlying47 Rv w.heap.size R.length DL rfl HL.out ?_; intro w3 hrg3 hg3 hs3))
        have HO3 := Aside0.mk (HO.out.move hg3 (notW_none _) (by simp) (fun k hk => by cases hk))
        have HR3 := Aside0.mk hrg3
        have HMS := Aside0.mk (mapLen_eq HL.out)
        have HF3 := Aside0.mk (Fnd.start mL (vis := fun i => Maps.has DL (kl i) = false) (fun i r hm hv => by rw [HO.out.1.has hm] at hv; cases hv))
        have HRL := Aside0.mk (show w.heap.size < wo.heap.size ∧ bk < wo.heap.size from ⟨HL.out.lt, HO.out.lt⟩)
        clear hrg3 hg3 HO HL
        go_wp2
        generalize hro : wo.heap.size = ro at *
        clear hro
        go_frame
        go_loopw [10] (fun z wq => ∃ left cnt zz, z = .int .i64 zz ∧ -1 ≤ zz ∧ zz ≤ 1000000 ∧ Aside0 (wq.ranges Tryd.prog 3 Rv w.heap.size ro R.length DL left cnt) ∧ Aside0 (OK w wq bk R DL mL n) ∧ Aside0 (Fnd mL (fun i => left (kl i) = false) zz)) (fun _ wq => wq.rangeLeft w.heap.size ro)
        case atStart => exact ⟨_, _, -1, rfl, by omega, by omega, HR3, HO3, HF3⟩
        case round =>
          clear HO3 HR3 HF3
          obtain ⟨left, cnt, zz, rfl, hz1, hz2, HRG, HO, HFd⟩ := hrel
          rename World => wq
          go_wp2_with (first
            | (at_next; refine wpList_next_ranges _ rfl _ rfl 3 kI Rv (fun x : Int => Value.int .i64 x) (fun cs : Array Value => Value.agg cs) invK invV w.heap.size ro R.length DL left cnt rfl HRG.out ?_ ?_))
          · intro _ hl0
            have hFA : Fnd mL (fun _ => True) zz := by
              have := HFd.out
              rwa [show (fun i => left (kl i) = false) = fun _ => True from by funext j; rw [hl0]; simp] at this
            rcases HO.out.2.2.1.found hFA with ⟨rfl, hnone⟩ | ⟨i0, rfl, hle, hmi⟩
            · have HLO := Aside0.mk HRG.out.owns
              obtain ⟨hq1, ⟨DK, mK, hq2, hq3, hq4⟩, hq5, hq6, hq7⟩ := HO.out
              have hn128 : n ≤ 128 := by rw [← hq6]; have := seqD_len HRM.out n; omega
              have hfin : seqD R n = finD R := finD_eq hn128 hnone
              have hks := hq4.keys (seqSorted HRM.out n)
              have HLM := Aside0.mk hq1
              have HKO := Aside0.mk hq2
              have HKM := Aside0.mk hq3
              have HKI := Aside0.mk hq4
              have HLI := Aside0.mk hq5
              have HBQ := Aside0.mk hq7
              have HFIN := Aside0.mk hfin
              have HKS := Aside0.mk hks
              have hsrt := SortedKeys_any bk n DK mK _ wq hq2 hq3 hks (by omega)
              have hlen1 : ((sortD (seqD R n)).map (·.1)).length = (sortD (seqD R n)).length := List.length_map ..
              rw [hlen1] at hsrt
              have HSRT := Aside0.mk hsrt
              clear HRG HFd hFA HO hq1 hq2 hq3 hq4 hq5 hq6 hq7 hfin hks hnone hsrt hlen1 hl0
              go_wp2_with (first
                | (go_at_call 44; refine (Keys_any (some bk) _).mono ?_; rintro e w5 ⟨rfl, rfl⟩)
                | (go_at_call 43; refine HSRT.out.mono ?_; rintro e w6 ⟨A6, c6, rfl, hC6, hb6⟩))
              have HB6 := Aside0.mk (HBQ.out.trans (hb6.mono HBQ.out.size))
              have HC6 := Aside0.mk hC6
              have HLO6 := Aside0.mk (mapKept HLO.out hb6)
              have HKO6 := Aside0.mk (mapKept HKO.out hb6)
              have HLM6 := Aside0.mk (HLM.out.move (grown_of_below hb6 none) (notW_none _))
              have HKM6 := Aside0.mk (HKM.out.move (grown_of_below hb6 none) (notW_none _))
              have hzr : ∀ w, (zeroValue 36).run Tryd.prog w = .ok (.agg #[.slice none 0 0, .string ⟨#[]⟩]) w := by
                intro w
                obtain ⟨i0, hi, hz0, hz1, hz2⟩ := rows_parts info_row
                simp [zeroValue, typeInfo, hi, hz0]
              have HZR := Aside0.mk hzr
              have hskl : (sortD (seqD R n)).length ≤ 128 := by rw [(sortD_perm _).length_eq]; have := seqD_len HRM.out n; omega
              clear hb6 hC6 hzr HLO HKO HLM HKM HBQ HSRT
              generalize hSK : sortD (seqD R n) = SK at *
              have HSK := Aside0.mk hSK
              clear hSK
              go_wp2
              go_loopw [17, 98] (fun v y wa => ∃ j : Nat, y = .int .i64 j ∧ j ≤ SK.length ∧ Aside0 (RowsV w wa w6.heap.size v ((SK.take j).map (·.2))) ∧ Aside0 (Below w6.heap.size w6 wa)) (fun _ y _ => SK.length - (intOf y).toNat)
              case atStart => exact ⟨0, rfl, Nat.zero_le _, ⟨by simpa using RowsV.nil _ _ _⟩, ⟨Below.refl _ _⟩⟩
              case round =>
                obtain ⟨j, rfl, hj, HRV, HBA⟩ := hrel
                rename World => wa
                by_cases hjl : j < SK.length
                · have hmem : (SK[j].1, SK[j].2) ∈ seqD R n := by
                    have h : SK[j] ∈ SK := List.getElem_mem hjl
                    exact (sortD_perm (seqD R n)).mem_iff.1 (by rw [HSK.out]; exact h)
                  have hmk := (HKI.out SK[j].1 SK[j].2).2 hmem
                  obtain ⟨s1, hlook, hvs⟩ := lookup_at (mapKept HKO6.out HBA.out) (HKM6.out.move (grown_of_below HBA.out none) (notW_none _)) Tryd.underlying47 (HZR.out _) (show Rv (.agg #[.slice none 0 0, .string ⟨#[]⟩]) = some (.held (.agg #[.slice none 0 0, .string ⟨#[]⟩]), []) from rfl) hmk
                  obtain ⟨ad6, rfl, hkc⟩ := at_i (Kd.C_below HC6.out HBA.out) j (by simpa using hjl)
                  have hke : (List.map (fun i : Nat => (i : Int)) (SK.map (·.1)))[j]'(by simpa using hjl) = ((SK[j].1 : Nat) : Int) := by simp
                  rw [hke] at hkc
                  obtain ⟨A1, c1, rfl, hcc1, hC1⟩ := hvs.C (HB6.out.trans (HBA.out.mono HB6.out.size))
                  have hal : Below wa.heap.size wa (wa.alloc (.cells #[.slice A1 (SK[j].2).vec.length c1, .string (SK[j].2).data] 36)) := (Below.refl _ _).alloc (Nat.le_refl _) _
                  have HRA := Aside0.mk (HRV.out.below hal)
                  have HVA := Aside0.mk (hvs.below hal)
                  have HGA := Aside0.mk (HBA.out.trans (hal.mono HBA.out.size))
                  have HSZ := Aside0.mk (Nat.le_trans HBA.out.size hal.size)
                  have HLN := Aside0.mk (show ((SK.take j).map (·.2)).length ≤ 1099511627776 by simp; omega)
                  have HTK := Aside0.mk (show (SK.take (j + 1)).map (·.2) = (SK.take j).map (·.2) ++ [SK[j].2] by rw [List.take_succ_eq_append_getElem hjl, List.map_append]; rfl)
                  clear hmem hmk hvs hke hC1 hal
                  go_wp2_with (first
                    | (at_builtin; refine wpList_append_rowV rfl _ _ rfl w6.heap.size _ _ rfl HRA.out _ SK[j].2 HVA.out wa.heap.size 1 rfl (by simp) (by simp) HGA.out HSZ.out HLN.out ?_; intro v' w' hR' hB' _ _))
                  have HR1 := Aside0.mk hR'
                  have HB1 := Aside0.mk hB'
                  clear hR' hB' hlook hkc
                  go_roundw
                  case rel => exact ⟨j + 1, by go_num, by omega, ⟨by rw [HTK.out]; exact HR1.out⟩, HB1⟩
                  case measure => simp [intOf]; omega
                · have HRK := Aside0.mk (show RowsV w wa w6.heap.size u17 (SK.map (·.2)) from by have := HRV.out; rwa [List.take_of_length_le (show SK.length ≤ j by omega)] at this)
                  have hlk := HLI.out.keys
                  have hLW := HLM6.out.move (grown_of_below HBA.out none) (notW_none _)
                  have hsrt := SortedKeys_any w.heap.size R.length DL mL _ wa (mapKept HLO6.out HBA.out) hLW hlk (by omega)
                  have HSRT := Aside0.mk hsrt
                  have HLW := Aside0.mk hLW
                  have HLK := Aside0.mk hlk
                  have HLOW := Aside0.mk (mapKept HLO6.out HBA.out)
                  have HBW := Aside0.mk (HB6.out.trans (HBA.out.mono HB6.out.size))
                  clear hlk hLW hsrt HRV
                  go_wp2_with (first
                    | (go_at_call 44; refine (Keys_any (some w.heap.size) _).mono ?_; rintro e w7 ⟨rfl, rfl⟩)
                    | (go_at_call 43; refine HSRT.out.mono ?_; rintro e w8 ⟨A8, c8, rfl, hC8, hb8⟩))
                  have HB8 := Aside0.mk (HBW.out.trans (hb8.mono HBW.out.size))
                  have HC8 := Aside0.mk hC8
                  have HLO8 := Aside0.mk (mapKept HLOW.out hb8)
                  have HLM8 := Aside0.mk (HLW.out.move (grown_of_below hb8 none) (notW_none _))
                  have HRK8 := Aside0.mk (HRK.out.below hb8)
                  have hLl : (leftI R mL).length ≤ R.length := Nat.le_trans (List.length_filter_le _ _) (by simp)
                  have hS6 := HB6.out.size
                  have HS68 := Aside0.mk (show w.heap.size ≤ w6.heap.size ∧ w.heap.size ≤ w8.heap.size from ⟨hS6, HB8.out.size⟩)
                  clear hb8 hC8 HLOW HLW HRK HBW HSRT hS6 HC6 HKO6 HLO6 HLM6 HKM6 HBA
                  generalize hLL : leftI R mL = L at *
                  have HLL := Aside0.mk hLL
                  clear hLL
                  go_wp2
                  go_loopw [18, 113] (fun v y wb => ∃ j : Nat, y = .int .i64 j ∧ j ≤ L.length ∧ Aside0 (RowsV w wb w8.heap.size v (leftR R (seqD R n) (L.take j))) ∧ Aside0 (Below w8.heap.size w8 wb)) (fun _ y _ => L.length - (intOf y).toNat)
                  case atStart => exact ⟨0, rfl, Nat.zero_le _, ⟨by simpa [leftR] using RowsV.nil _ _ _⟩, ⟨Below.refl _ _⟩⟩
                  case round =>
                    obtain ⟨j2, rfl, hj2, HRV, HBB⟩ := hrel
                    rename World => wb
                    by_cases hjl2 : j2 < L.length
                    · have hmL : mL L[j2] = some (red (seqD R n) (R.getD L[j2] zRow)) := by
                        have h : L[j2] ∈ leftI R mL := by rw [HLL.out]; exact List.getElem_mem hjl2
                        obtain ⟨r, hr⟩ := (HLK.out.2 _).1 (by rw [← HLL.out]; exact h)
                        rw [hr, (HLI.out.1 _ r hr).2]
                      have hri := (HLI.out.1 _ _ hmL).1
                      have hmemR : R.getD L[j2] zRow ∈ R := by rw [getD_at R zRow _ hri]; exact List.getElem_mem hri
                      have hrlen : (red (seqD R n) (R.getD L[j2] zRow)).vec.length ≤ 2 := by rw [red_len (seqD_good HRM.out n).1.1 (HRM.out _ hmemR)]; exact hM2
                      generalize hrr : red (seqD R n) (R.getD L[j2] zRow) = r2 at *
                      obtain ⟨s1, hlook, hvs⟩ := lookup_at (mapKept HLO8.out HBB.out) (HLM8.out.move (grown_of_below HBB.out none) (notW_none _)) Tryd.underlying47 (HZR.out _) (show Rv (.agg #[.slice none 0 0, .string ⟨#[]⟩]) = some (.held (.agg #[.slice none 0 0, .string ⟨#[]⟩]), []) from rfl) hmL
                      obtain ⟨ad8, rfl, hkc⟩ := at_i (Kd.C_below HC8.out HBB.out) j2 (by simpa using hjl2)
                      have hke : (List.map (fun i : Nat => (i : Int)) L)[j2]'(by simpa using hjl2) = ((L[j2] : Nat) : Int) := by simp
                      rw [hke] at hkc
                      obtain ⟨A1, c1, rfl, hcc1, hC1⟩ := hvs.C (HB8.out.trans (HBB.out.mono HB8.out.size))
                      have hcnt := Count_any A1 c1 r2.vec wb hC1 (by omega)
                      have HCNT := Aside0.mk hcnt
                      have hal : Below wb.heap.size wb (wb.alloc (.cells #[.slice A1 r2.vec.length c1, .string r2.data] 36)) := (Below.refl _ _).alloc (Nat.le_refl _) _
                      have HRA := Aside0.mk (HRV.out.below hal)
                      have HVA := Aside0.mk (hvs.below hal)
                      have HGA := Aside0.mk (HBB.out.trans (hal.mono HBB.out.size))
                      have HSZ := Aside0.mk (Nat.le_trans HBB.out.size hal.size)
                      have HLN := Aside0.mk (show (leftR R (seqD R n) (L.take j2)).length ≤ 1099511627776 from Nat.le_trans (List.length_filter_le _ _) (by simp; omega))
                      have HRR := Aside0.mk hrr
                      have hjL : j2 + 1 ≤ L.length := by omega
                      have hfd := fun w => run_field0 A1 r2.vec.length c1 r2.data w
                      clear hmL hmemR hvs hke hC1 hal hcnt hrr hri
                      generalize hqv : cntW r2.vec = qv at *
                      have HQV := Aside0.mk hqv
                      clear hqv
                      by_cases hgt : 1 < qv
                      · have hd : decide ((1 : Int) < (qv : Int)) = true := decide_eq_true (by omega)
                        have HY := Aside0.mk (leftR_yes (R := R) (D := seqD R n) hjl2 (by rw [HRR.out, HQV.out]; exact hgt))
                        go_wp2_with (first
                          | (go_at_call 39; refine HCNT.out.mono ?_; rintro e w5 ⟨rfl, rfl⟩)
                          | (at_builtin; refine wpList_append_rowV rfl _ _ rfl w8.heap.size _ _ rfl HRA.out _ r2 HVA.out wb.heap.size 1 rfl (by simp) (by simp) HGA.out HSZ.out HLN.out ?_; intro v' w' hR' hB' _ _))
                        have HR1 := Aside0.mk hR'
                        have HB1 := Aside0.mk hB'
                        clear hR' hB' hlook hkc
                        go_roundw
                        case rel => exact ⟨j2 + 1, by go_num, hjL, ⟨by rw [HY.out, HRR.out]; exact HR1.out⟩, HB1⟩
                        case measure => simp [intOf]; omega
                      · have hd : decide ((1 : Int) < (qv : Int)) = false := decide_eq_false (by omega)
                        have HY := Aside0.mk (leftR_no (R := R) (D := seqD R n) hjl2 (by rw [HRR.out, HQV.out]; exact hgt))
                        go_wp2_with (first
                          | (go_at_call 39; refine HCNT.out.mono ?_; rintro e w5 ⟨rfl, rfl⟩))
                        go_roundw
                        case rel => exact ⟨j2 + 1, by go_num, hjL, ⟨by rw [HY.out]; exact HRV.out⟩, HBB⟩
                        case measure => simp [intOf]; omega
                    · have HRB := Aside0.mk (show RowsV w wb w8.heap.size u18 (leftR R (seqD R n) L) from by have := HRV.out; rwa [List.take_of_length_le (show L.length ≤ j2 by omega)] at this)
                      go_wp2
                      refine bodyPost_ret (v := .tuple #[u17, u18]) (by simp [results, Tryd.results15, go_sem]) rfl ⟨_, _, rfl, ?_, ?_, HB8.out.trans (HBB.out.mono HB8.out.size)⟩
                      · rw [knownL, ← HFIN.out, HSK.out]
                        exact PeelV.RowsV.lower (HRK8.out.below HBB.out) HS68.out.1
                      · rw [leftL, ← HFIN.out, ← HLI.out.left, HLL.out]
                        exact PeelV.RowsV.lower HRB.out HS68.out.2
            · have hi0 := (leastN_some hle).1
              have HOW0 := HO
              have HL0 := Aside0.mk (HRG.out.owns)
              obtain ⟨zd, hzv, hzd⟩ : ∃ z : Value, (∀ w, (zeroValue 36).run Tryd.prog w = .ok z w) ∧ Rv z = some (.held z, []) := ⟨.agg #[.slice none 0 0, .string ⟨#[]⟩], by
                intro w
                obtain ⟨i0, hi, hz0, hz1, hz2⟩ := rows_parts info_row
                simp [zeroValue, typeInfo, hi, hz0], rfl⟩
              obtain ⟨s0, hlook, hvs0⟩ := lookup_at HL0.out HO.out.1 Tryd.underlying47 (hzv _) hzd hmi
              obtain ⟨u1, u2, u3, u4, u5⟩ := found_unit HRM.out (seqD_good HRM.out n).1 hle
              obtain ⟨⟨f, x⟩, hp⟩ : ∃ p, p = foundP R (seqD R n) i0 := ⟨_, rfl⟩
              have hpx : x = red (seqD R n) (R.getD i0 zRow) := by
                have := congrArg Prod.snd hp
                exact this
              rw [← hpx] at hlook hvs0
              obtain ⟨A0, c0, rfl, hcc0, hC0⟩ := hvs0.C HO.out.2.2.2.2
              have hal : Below wq.heap.size wq (wq.alloc (.cells #[.slice A0 x.vec.length c0, .string x.data] 36)) := (Below.refl _ _).alloc (Nat.le_refl _) _
              have hxl : x.vec.length = M := by have := u1.1; rw [← hp] at this; exact this
              have hfx : firstW x.vec = (f : Nat) := by have := u4; rw [← hp] at this; exact this
              have hf128 : f < 64 * M := by have := u3; rw [← hp] at this; exact this
              have hfst := First_any A0 c0 x.vec _ (Kd.C_below hC0 hal) (by omega) ((HT.out.below HO.out.2.2.2.2).below hal)
              rw [hfx] at hfst
              have hh := half (HO.out.below hal) (mapKept HL0.out hal) HRM.out hM2 (show w.heap.size ≠ bk by have := HBK.out; omega) (Nat.le_refl _) (by have := HBK.out; omega) hle hmi (by rw [← hpx]; exact hvs0.below hal) hrl
              rw [← hpx, ← hp] at hh
              obtain ⟨w6, w7, hrun6, hrun7, hL7, hM7, hK7, hB7, hz7, hV7, hs7, hcell7, hlen7⟩ := hh
              have y0 := hcell7 ⟨wq.heap.size, 0, none⟩ (.slice A0 x.vec.length c0) (by simp)
              have y1 := hcell7 ⟨wq.heap.size, 1, none⟩ (.string x.data) (by simp)
              have HLI := Aside0.mk HO.out.2.2.1
              have HP := Aside0.mk hp
              have HLE := Aside0.mk hle
              have HFX := Aside0.mk hfst
              have HM7 := Aside0.mk hM7
              have HK7 := Aside0.mk hK7
              have HB7 := Aside0.mk hB7
              have HV7 := Aside0.mk hV7
              have HS7 := Aside0.mk hs7
              have HLEN := Aside0.mk hlen7
              have HL7 := Aside0.mk hL7
              have HQ0 := Aside0.mk (show wq.heap.size < w7.heap.size by have := hal.size; simp at hz7; omega)
              have HBKQ := Aside0.mk (show w.heap.size < wq.heap.size ∧ bk < wq.heap.size from ⟨HL0.out.lt, HO.out.lt⟩)
              clear hp hle hfst hM7 hK7 hB7 hV7 hs7 hlen7 hal u1 u2 u3 u4 u5 hC0 hvs0 hzv hzd hFA HFd HRG HO HOW0 HL0 hmi hcell7 hpx hfx hz7 hL7 hxl
              have HX1 := Aside0.mk hlook
              have HX2 := Aside0.mk hrun6
              have HX3 := Aside0.mk hrun7
              have HX4 := Aside0.mk (And.intro y0 y1)
              clear hlook hrun6 hrun7 y0 y1
              go_upto_region 15 with fail
              have hlook := HX1.out
              go_upto_region 16 with fail
              have y0 := HX4.out.1
              have y1 := HX4.out.2
              have hrun6 := HX2.out
              have hrun7 := HX3.out
              go_wp2_with (first
                | (go_at_call 40; refine HFX.out.mono ?_; rintro e w5 ⟨rfl, rfl⟩)
                | (at_range; refine wpList_range_own _ rfl _ 47 rfl 3 36 kI Tryd.underlying47 Rv w.heap.size R.length _ rfl HL7.out ?_; intro w8 hrg8 hg8 hs8))
              have hb8 : Below w7.heap.size w7 w8 := (Below.refl _ _).grown hg8 (Nat.le_refl _) (fun k hk => by cases hk)
              have HOR := Aside0.mk (show OR w w8 bk R n (f, x) (.slice A0 x.vec.length c0) (DL.del (kl i0)) (struck mL i0) (Maps.has (DL.del (kl i0))) (Maps.size (DL.del (kl i0))) from OR.start HM7.out HK7.out HB7.out HV7.out hg8)
              have HR8 := Aside0.mk hrg8
              have HC8 := Aside0.mk (show w8.cell? ⟨wq.heap.size, 0, none⟩ = some (.slice A0 x.vec.length c0) ∧ w8.cell? ⟨wq.heap.size, 1, none⟩ = some (.string x.data) ∧ wq.heap.size < w8.heap.size from ⟨pw_cell_below hb8 y0, pw_cell_below hb8 y1, Nat.lt_of_lt_of_le HQ0.out hb8.size⟩)
              have HR7 := Aside0.mk (show w.heap.size < w7.heap.size ∧ bk < w7.heap.size ∧ wq.heap.size < w7.heap.size from ⟨by have := HQ0.out; have := HBKQ.out; omega, by have := HQ0.out; have := HBKQ.out; omega, HQ0.out⟩)
              clear hrg8 hg8 hb8 y0 y1 hrun6 hrun7 hlook HM7 HK7 HB7 HV7 HL7 HQ0 HX1 HX2 HX3 HX4 HFX
              generalize hr7 : w7.heap.size = rs at *
              generalize hbx : wq.heap.size = bx at *
              clear hr7 hbx
              go_frame
              go_loopw [] (fun wz => ∃ left cnt DLr, Aside0 (wz.ranges Tryd.prog 3 Rv w.heap.size rs R.length DLr left cnt) ∧ Aside0 (OR w wz bk R n (f, x) (.slice A0 x.vec.length c0) DLr (struck mL i0) left (Maps.size (DL.del (kl i0)))) ∧ Aside0 (wz.cell? ⟨bx, 0, none⟩ = some (.slice A0 x.vec.length c0) ∧ wz.cell? ⟨bx, 1, none⟩ = some (.string x.data) ∧ bx < wz.heap.size)) (fun wz => wz.rangeLeft w.heap.size rs)
              case atStart => exact ⟨_, _, _, HR8, HOR, HC8⟩
              case round =>
                clear HR8 HOR HC8
                obtain ⟨left, cnt, DLr, HRG, HOR, HCB⟩ := hrel
                rename World => wz
                go_wp2_with (first
                  | (at_next; refine wpList_next_ranges _ rfl _ rfl 3 kI Rv (fun x : Int => Value.int .i64 x) (fun cs : Array Value => Value.agg cs) invK invV w.heap.size rs R.length DLr left cnt rfl HRG.out ?_ ?_))
                · intro _ hl0
                  obtain ⟨m', hOK⟩ := OR.done HLE.out HRM.out HLI.out HLEN.out (by rw [← HP.out]; exact HOR.out) hl0
                  have HOK := Aside0.mk hOK
                  have HOWN := Aside0.mk HRG.out.owns
                  have HSZ := Aside0.mk (show Maps.size DLr = Maps.size (DL.del (kl i0)) from by
                    obtain ⟨_, _, _, _, _, e, _⟩ := HOR.out
                    exact e)
                  clear hOK HRG HOR HCB hl0
                  go_wp2
                  go_roundw
                  case rel => exact ⟨n + 1, DLr, m', HOWN, HOK⟩
                  case measure =>
                    rw [mapLen_eq HOWN.out, HSZ.out, HMS.out]
                    have := HS7.out
                    omega
                · intro x1 cs k' y ys w9 cnt9 hkx hlk hy hat hrg9 hlt9 hg9 hs9 hen
                  obtain ⟨mr, hmr, hmrj, hrest⟩ := HOR.out
                  obtain ⟨i1, r1, s1, rfl, rfl, hm1, rfl, hV1, hi1⟩ := entry_row (y := (y, ys)) hmr hkx hy hat
                  have hmm1 : struck mL i0 i1 = some r1 := by
                    have := hmrj i1
                    rw [hlk, hm1] at this
                    exact this.symm
                  have hmL1 : mL i1 = some r1 := by
                    unfold struck at hmm1
                    split at hmm1
                    · cases hmm1
                    · exact hmm1
                  obtain ⟨hri1, hr1⟩ := HLI.out.1 i1 r1 hmL1
                  have hmem1 : R.getD i1 zRow ∈ R := by rw [getD_at R zRow i1 hri1]; exact List.getElem_mem hri1
                  have hl1 : r1.vec.length ≤ 2 := by rw [hr1, red_len (seqD_good HRM.out n).1.1 (HRM.out _ hmem1)]; exact hM2
                  have hd1 : r1.data.size ≤ 1000000 := by rw [hr1]; exact red_size (seqD_size HRD.out n) (HRD.out _ hmem1)
                  have hxx : x = red (seqD R n) (R.getD i0 zRow) := congrArg Prod.snd HP.out
                  have hmem0 : R.getD i0 zRow ∈ R := by rw [getD_at R zRow i0 hi0]; exact List.getElem_mem hi0
                  have hlx : x.vec.length ≤ 2 := by rw [hxx, red_len (seqD_good HRM.out n).1.1 (HRM.out _ hmem0)]; exact hM2
                  have hdx : x.data.size ≤ 1000000 := by rw [hxx]; exact red_size (seqD_size HRD.out n) (HRD.out _ hmem0)
                  have HOR9 := Aside0.mk (HOR.out.move hg9 (notW_iter HRG.out) (fun e => by have := HR7.out.2.1; injection e; omega) (fun k hk => by cases hk; exact Nat.le_of_lt HR7.out.1))
                  have hV9 := hV1.move hg9 (notW_iter HRG.out)
                  have HLC := Aside0.mk (show cnt9 < wz.rangeLeft w.heap.size rs from by rw [HRG.out.left_eq]; exact hlt9)
                  have hcb0 := cell_apart hg9 HCB.out.1 (fun e => by have := HR7.out.2.2; injection e with e; simp at e; omega)
                  have hcb1 := cell_apart hg9 HCB.out.2.1 (fun e => by have := HR7.out.2.2; injection e with e; simp at e; omega)
                  have hcb2 : bx < w9.heap.size := by have := HCB.out.2.2; omega
                  obtain ⟨A1, c1, rfl, hcc1, hC1⟩ := hV9.C (by obtain ⟨_, _, _, _, e, _⟩ := HOR9.out; exact e)
                  have hal : Below w9.heap.size w9 (w9.alloc (.cells #[.slice A1 r1.vec.length c1, .string r1.data] 36)) := (Below.refl _ _).alloc (Nat.le_refl _) _
                  have hget := Get_any A1 c1 r1.vec f _ (Kd.C_below hC1 hal) (by omega)
                  have HORW := Aside0.mk (HOR9.out.below hal)
                  have HRW := Aside0.mk (hrg9.alloc (.cells #[.slice A1 r1.vec.length c1, .string r1.data] 36))
                  have HVW := Aside0.mk (hV9.below hal)
                  have HCW := Aside0.mk (show (w9.alloc (.cells #[.slice A1 r1.vec.length c1, .string r1.data] 36)).cell? ⟨bx, 0, none⟩ = some (.slice A0 x.vec.length c0) ∧ (w9.alloc (.cells #[.slice A1 r1.vec.length c1, .string r1.data] 36)).cell? ⟨bx, 1, none⟩ = some (.string x.data) ∧ bx < (w9.alloc (.cells #[.slice A1 r1.vec.length c1, .string r1.data] 36)).heap.size from ⟨pw_cell_below hal hcb0, pw_cell_below hal hcb1, Nat.lt_of_lt_of_le hcb2 hal.size⟩)
                  have HM1 := Aside0.mk hmm1
                  have HLK := Aside0.mk hlk
                  have HGET := Aside0.mk hget
                  clear hget hrg9 hal hV9 hV1 hC1 hcb0 hcb1 hm1 hmm1 hmL1 hr1 hmrj hmr hrest hat hy hkx hlk HOR HOR9 HRG HCB hxx hmem0 hmem1 hg9 hlt9
                  cases hgb : getB r1.vec f with
                  | false =>
                    have HGB := Aside0.mk hgb
                    rw [hgb] at HGET
                    clear hgb
                    go_wp2_with (first | (go_at_call 41; refine HGET.out.mono ?_; rintro e w5 ⟨rfl, rfl⟩))
                    go_roundw
                    case rel => exact ⟨_, _, _, HRW, ⟨HORW.out.stay hi1 HLK.out HM1.out HGB.out⟩, HCW⟩
                    case measure => rw [HRW.out.left_eq]; exact HLC.out
                  | true =>
                    have HGB := Aside0.mk hgb
                    rw [hgb] at HGET
                    clear hgb
                    have z0 : (w9.alloc (.cells #[.slice A1 r1.vec.length c1, .string r1.data] 36)).cell? ⟨w9.heap.size, 0, none⟩ = some (.slice A1 r1.vec.length c1) := by simp
                    have z1 : (w9.alloc (.cells #[.slice A1 r1.vec.length c1, .string r1.data] 36)).cell? ⟨w9.heap.size, 1, none⟩ = some (.string r1.data) := by simp
                    have HZ0 := Aside0.mk z0
                    have HZ1 := Aside0.mk z1
                    clear z0 z1
                    go_upto_region 23 with (first | (go_at_call 41; refine HGET.out.mono ?_; rintro e w5 ⟨rfl, rfl⟩))
                    clear HGET
                    generalize hW9 : w9.alloc (.cells #[.slice A1 r1.vec.length c1, .string r1.data] 36) = W9 at *
                    clear hW9
                    have z0 := HZ0.out
                    have z1 := HZ1.out
                    rw [hs9] at z0 z1
                    obtain ⟨z2, z3, z4⟩ := HCW.out
                    have hal : Below W9.heap.size W9 (W9.alloc (.cells #[.slice A1 r1.vec.length c1, .string r1.data, .slice A0 x.vec.length c0, .string x.data] 36)) := (Below.refl _ _).alloc (Nat.le_refl _) _
                    have hVx : Vst w W9 (.slice A0 x.vec.length c0) x.vec := by obtain ⟨_, _, _, _, _, _, e⟩ := HORW.out; exact e
                    have hBW : Below w.heap.size w W9 := by obtain ⟨_, _, _, _, e, _⟩ := HORW.out; exact e
                    have hrc := XorR.Row_any (some ⟨W9.heap.size, 0, none⟩) 2 [r1, x] _ (KRow_of (w0 := w) (rows := [r1, x]) (hBW.trans (hal.mono hBW.size)) (by simp) (fun m r hr => by
                      match m, hr with
                      | 0, hr =>
                        obtain rfl : r1 = r := by simpa using hr
                        exact ⟨_, by simp, by simp, HVW.out.below hal⟩
                      | 1, hr =>
                        obtain rfl : x = r := by simpa using hr
                        exact ⟨_, by simp, by simp, hVx.below hal⟩)) (fun r hr => by
                      simp only [List.mem_cons, List.not_mem_nil, or_false] at hr
                      rcases hr with rfl | rfl
                      · exact ⟨by omega, by omega⟩
                      · exact ⟨by omega, by omega⟩)
                    rw [rowX_two] at hrc
                    have hup : ∀ w' v, Below W9.heap.size W9 w' → Vst w w' v (rowX2 r1 x).vec → _ := fun w' v hb hv => (HORW.out.below hb).update (HRW.out.kept (grown_of_below hb none) (by simp) (by simp)) hi1 HLK.out HM1.out HGB.out hv (show w.heap.size ≠ bk by have := HBK.out; omega) (Nat.le_refl _) (by simp only [maxLen]; omega)
                    have HUP := Aside0.mk hup
                    have HRC := Aside0.mk hrc
                    have HAL := Aside0.mk hal
                    have HBW := Aside0.mk hBW
                    clear hup hrc hal hVx hBW HZ0 HZ1
                    go_wp2_with (first | (go_at_call 42; refine HRC.out.mono ?_; rintro e w11 ⟨v11, rfl, hO11, hb11⟩; obtain ⟨w12, hr12, hg12, hor12, hc12, hz12⟩ := HUP.out w11 v11 (HAL.out.trans (hb11.mono HAL.out.size)) (Vst.own (hO11.lower (Nat.le_trans HBW.out.size HAL.out.size)))))
                    have HB11 := Aside0.mk (HAL.out.trans (hb11.mono HAL.out.size))
                    have HG12 := Aside0.mk hg12
                    have HOR12 := Aside0.mk hor12
                    have HC12 := Aside0.mk (And.intro (hc12 _ _ (pw_cell_below HB11.out z2)) (And.intro (hc12 _ _ (pw_cell_below HB11.out z3)) (show bx < w12.heap.size from Nat.lt_of_lt_of_le z4 (Nat.le_trans HB11.out.size hz12))))
                    clear hb11 hO11 hg12 hor12 hc12 hr12 z0 z1 z2 z3
                    go_roundw
                    case rel => exact ⟨_, _, _, HG12, HOR12, HC12⟩
                    case measure => rw [HG12.out.left_eq]; exact HLC.out
          · intro x cs k' y ys w4 cnt4 hkx hlk hy hat hrg4 hlt4 hg4 hs4 hen
            obtain ⟨i0, r0, s0, rfl, rfl, hm0, rfl, hV0, hi0⟩ := entry_row (y := (y, ys)) HO.out.1 hkx hy hat
            have hri0 := (HO.out.2.2.1.1 i0 r0 hm0).1
            have HO4 := Aside0.mk (HO.out.move hg4 (notW_iter HRG.out) (fun e => by have := HRL.out.2; injection e; omega) (fun k hk => by cases hk; exact Nat.le_of_lt HRL.out.1))
            have HV4 := Aside0.mk (hV0.move hg4 (notW_iter HRG.out))
            have HR4 := Aside0.mk hrg4
            have HLC := Aside0.mk (show cnt4 < wq.rangeLeft w.heap.size ro from by rw [HRG.out.left_eq]; exact hlt4)
            have HF := HFd
            clear hrg4 hg4 hV0 hat hkx hy hlk HRG HO hlt4
            obtain ⟨A0, c0, rfl, hcc0, hC0⟩ := HV4.out.C HO4.out.2.2.2.2
            have hal : Below w4.heap.size w4 (w4.alloc (.cells #[.slice A0 r0.vec.length c0, .string r0.data] 36)) := (Below.refl _ _).alloc (Nat.le_refl _) _
            have hlen0 : r0.vec.length ≤ 17592186044416 := by
              obtain ⟨_, e⟩ := HO4.out.2.2.1.1 i0 r0 hm0
              rw [e, red_len (seqD_good HRM.out n).1.1 (HRM.out _ (by rw [getD_at R zRow i0 hri0]; exact List.getElem_mem hri0))]
              omega
            have hcnt := Count_any A0 c0 r0.vec _ (Kd.C_below hC0 hal) hlen0
            have HOW := Aside0.mk (HO4.out.below hal)
            have HRW := Aside0.mk (HR4.out.alloc (.cells #[.slice A0 r0.vec.length c0, .string r0.data] 36))
            have HM0 := Aside0.mk hm0
            clear HO4 HR4 HV4 hal hlen0 hC0 hm0
            generalize hqv : cntW r0.vec = qv at *
            have HQV := Aside0.mk hqv
            have HCNT := Aside0.mk hcnt
            clear hqv hcnt
            by_cases hc1 : qv = 1
            · have e1 : ((qv : Int) == 1) = true := by simp; omega
              by_cases hzn : zz < 0
              · have e2 : decide (zz < 0) = true := decide_eq_true hzn
                go_wp2_with (first | (go_at_call 39; refine HCNT.out.mono ?_; rintro e w5 ⟨rfl, rfl⟩))
                go_roundw
                case rel => exact ⟨_, _, (i0 : Int), rfl, by omega, by omega, HRW, HOW, ⟨HF.out.take HM0.out (fun j hj => vis_step hj) (HQV.out.trans hc1) (.inl hzn)⟩⟩
                case measure => rw [HRW.out.left_eq]; exact HLC.out
              · have e2 : decide (zz < 0) = false := decide_eq_false hzn
                by_cases hiz : (i0 : Int) < zz
                · have e3 : decide ((i0 : Int) < zz) = true := decide_eq_true hiz
                  go_wp2_with (first | (go_at_call 39; refine HCNT.out.mono ?_; rintro e w5 ⟨rfl, rfl⟩))
                  go_roundw
                  case rel => exact ⟨_, _, (i0 : Int), rfl, by omega, by omega, HRW, HOW, ⟨HF.out.take HM0.out (fun j hj => vis_step hj) (HQV.out.trans hc1) (.inr hiz)⟩⟩
                  case measure => rw [HRW.out.left_eq]; exact HLC.out
                · have e3 : decide ((i0 : Int) < zz) = false := decide_eq_false hiz
                  go_wp2_with (first | (go_at_call 39; refine HCNT.out.mono ?_; rintro e w5 ⟨rfl, rfl⟩))
                  go_roundw
                  case rel => exact ⟨_, _, zz, rfl, hz1, hz2, HRW, HOW, ⟨HF.out.stay HM0.out (fun j hj => vis_step hj) (fun _ => ⟨by omega, by omega⟩)⟩⟩
                  case measure => rw [HRW.out.left_eq]; exact HLC.out
            · have e1 : ((qv : Int) == 1) = false := beq_eq_false_iff_ne.2 (by omega)
              go_wp2_with (first | (go_at_call 39; refine HCNT.out.mono ?_; rintro e w5 ⟨rfl, rfl⟩))
              go_roundw
              case rel => exact ⟨_, _, zz, rfl, hz1, hz2, HRW, HOW, ⟨HF.out.stay HM0.out (fun j hj => vis_step hj) (fun h => absurd (HQV.out.symm.trans h) hc1)⟩⟩
              case measure => rw [HRW.out.left_eq]; exact HLC.out

end Go.Proofs.YtnfabflkajpkfaaDoor.PeelW
