/- The contracts of the functions on rows. -/
import Derived.Test.YtnfabflkajpkfaaDoorXorB
import Derived.Test.YtnfabflkajpkfaaDoorKinds
namespace Go.Proofs.YtnfabflkajpkfaaDoor.XorR
open Go Go.RowKit Go.Proofs.YtnfabflkajpkfaaDoorW.PrintWords Go.Proofs.YtnfabflkajpkfaaDoor.Base Go.Proofs.YtnfabflkajpkfaaDoor.Kinds
set_option linter.unusedVariables false
set_option linter.unusedSimpArgs false

set_option maxHeartbeats 400000 in
theorem Row_any (A : Option Addr) (c : Nat) (l : List RowL) (w : World) (hC : KRow.C w A l.length l) (hs : ∀ r ∈ l, r.data.size ≤ 281474976710656 ∧ r.vec.length ≤ 8796093022208) :
    Calls Tryd.prog 42 #[.slice A l.length c] w fun e w' => ∃ v, e = .returned (.agg #[v, .string (rowX l).data]) ∧ Own w' w.heap.size 45 v ((rowX l).vec.map encW) ∧ Below w.heap.size w w' := by
  have hm := C_max hC
  have HC := Aside0.mk hC
  have HS := Aside0.mk hs
  clear hC hs
  go_enter Tryd.func42, Tryd.ntmps42
  go_wp2
  go_loopw [3, 4, 9] (fun v b i wr => ∃ k : Nat, k ≤ l.length ∧ i = .int .i64 k ∧ Aside0 (Own wr (w.heap.size + 1) 45 v ((rowV l k).map encW)) ∧ Aside0 (Own wr (w.heap.size + 1) 5 b (nums .u8 (bytesOf (rowD l k)))) ∧ Aside0 (Below (w.heap.size + 1) (w.alloc (.cells #[.slice none 0 0, .string ⟨#[]⟩] 36)) wr))
    (fun _ _ i _ => l.length - (intOf i).toNat)
  case atStart => exact ⟨0, Nat.zero_le _, rfl, ⟨Own.nil _ _ _⟩, ⟨Own.nil _ _ _⟩, ⟨Below.refl _ _⟩⟩
  case round =>
    obtain ⟨k, hk, rfl, HV, HD, HG⟩ := hrel
    by_cases hlt : k < l.length
    · obtain ⟨ad, A0, c0, rfl, hc1, hc2, _, hV⟩ := at_row (Kd.C_below (Kd.C_below HC.out ((Below.refl _ _).alloc (Nat.le_refl _) _)) (HG.out.mono (by simp))) k hlt
      have hst := mem_at HS.out k hlt
      obtain ⟨Av, cv, hv, _, hVC⟩ := HV.out.Cw
      subst hv
      go_wp2
      generalize hW : wr.alloc (.cells #[.slice A0 l[k].vec.length c0, .string l[k].data] 36) = W
      have q1 : W.cell? ⟨wr.heap.size, 0, none⟩ = some (.slice A0 l[k].vec.length c0) := by rw [← hW]; simp
      have q2 : W.cell? ⟨wr.heap.size, 1, none⟩ = some (.string l[k].data) := by rw [← hW]; simp
      have hWz : W.heap.size = wr.heap.size + 1 := by rw [← hW]; simp
      have HVW := Aside0.mk (show Own W (w.heap.size + 1) 45 _ _ by rw [← hW]; exact HV.out.alloc _)
      have HDW := Aside0.mk (show Own W (w.heap.size + 1) 5 _ _ by rw [← hW]; exact HD.out.alloc _)
      have HBW := Aside0.mk (show Below wr.heap.size wr W by rw [← hW]; exact (Below.refl _ _).alloc (Nat.le_refl _) _)
      have hVW := HVW.out.Cw
      obtain ⟨Av', cv', hv, _, hVC⟩ := hVW
      have : Av = Av' := by injection hv
      subst this
      have hcA : Kw.C W.drew Av _ _ := hVC
      have hcB : Kw.C W.drew A0 _ _ := Kd.C_below hV HBW.out.drew
      have HZ : Aside0 (w.heap.size + 1 ≤ W.heap.size) := ⟨by have := HG.out.size; simp at this; omega⟩
      have hl1 : (rowV l k).length ≤ 8796093022208 := rowV_len l _ (fun r hr => (HS.out r hr).2) k hk
      have HA := Aside0.mk hcA
      have HB := Aside0.mk hcB
      have HQ := Aside0.mk (And.intro q1 q2)
      have HL := HD.out.lt
      have HX : Aside0 (some wr.heap.size ≠ u4.ownBlock) := ⟨fun h => by have := HL _ h.symm; omega⟩
      obtain ⟨hs1, hs2⟩ := hst
      have hl2 := Nat.le_trans hl1 (show 8796093022208 ≤ 17592186044416 by decide)
      have hs3 := Nat.le_trans hs2 (show 8796093022208 ≤ 17592186044416 by decide)
      clear hW hc1 hc2 hVC hv hcA hcB hV HL
      go_region_held3 (fun w' => w'.cell? ⟨wr.heap.size, 0, none⟩ = some (.slice A0 l[k].vec.length c0) ∧ w'.cell? ⟨wr.heap.size, 1, none⟩ = some (.string l[k].data))
        (first
          | go_keep
          | exact ⟨(hG1.cell (p := ⟨wr.heap.size, 0, none⟩) (by simp [hWz])).trans HQ.out.1, (hG1.cell (p := ⟨wr.heap.size, 1, none⟩) (by simp [hWz])).trans HQ.out.2⟩
          | exact ⟨cell_apart hG2 ((hG1.cell (p := ⟨wr.heap.size, 0, none⟩) (by simp [hWz])).trans HQ.out.1) HX.out, cell_apart hG2 ((hG1.cell (p := ⟨wr.heap.size, 1, none⟩) (by simp [hWz])).trans HQ.out.2) HX.out⟩)
        (first
          | (go_at_call 69; refine (Words.Xor_any _ _ _ _ _ _ _ HA.out HB.out hl2 hs3).mono ?_; rintro e w1 ⟨v1, rfl, hO1, hG1⟩)
          | (go_at_call 70; refine (Xor.intoS _ _ _ _ (w.heap.size + 1) (Nat.le_trans HZ.out hG1.size) hs1 ((HDW.out.drew).below hG1)).mono ?_; rintro e w2 ⟨b2, rfl, hO2, hG2⟩))
      have H1 := Aside0.mk (show Own w2 (w.heap.size + 1) 45 v1 ((rowV l (k + 1)).map encW) from by
        rw [rowV_succ l k hlt]
        exact (hO1.lower HZ.out).grown hG2 (by rcases hO1.type_ne ((HDW.out.drew).below hG1) (by decide) with h | h; exact .inl h; exact .inr h))
      have H2 := Aside0.mk (show Own w2 (w.heap.size + 1) 5 b2 (nums .u8 (bytesOf (rowD l (k + 1)))) from by
        rw [rowD_succ l k hlt]; exact hO2)
      have H3 := Aside0.mk (((HG.out.trans ((HBW.out.drew).mono (by have := HG.out.size; simpa using this))).trans (hG1.mono HZ.out)).grown hG2 (Nat.le_trans HZ.out hG1.size) HD.out.base_le)
      clear hO1 hO2 hG1 hG2 HA HB HQ HX q1 q2
      go_wp2
      go_roundw
      case rel => exact ⟨k + 1, by omega, by go_num, H1, H2, H3⟩
      case measure => simp [intOf]; omega
    · obtain rfl : k = l.length := by omega
      have hcs := Own.string (P := Tryd.prog) (src := 76) (dst := 9) Tryd.underlying76 Tryd.underlying5 Tryd.underlying9 HD.out
      rw [strOf_bytes] at hcs
      have k0 : wr.cell? ⟨w.heap.size, 0, none⟩ = some (.slice none 0 0) := (HG.out.cell (p := ⟨w.heap.size, 0, none⟩) (by simp)).trans (by simp)
      have k1 : wr.cell? ⟨w.heap.size, 1, none⟩ = some (.string ⟨#[]⟩) := (HG.out.cell (p := ⟨w.heap.size, 1, none⟩) (by simp)).trans (by simp)
      have f0 : wr.frozen? ⟨w.heap.size, 0, none⟩ = false := (HG.out.frozen (p := ⟨w.heap.size, 0, none⟩) (by simp)).trans (by simp)
      have f1 : wr.frozen? ⟨w.heap.size, 1, none⟩ = false := (HG.out.frozen (p := ⟨w.heap.size, 1, none⟩) (by simp)).trans (by simp)
      obtain ⟨Av, cv, hv, _, _⟩ := HV.out.Cw
      subst hv
      have s0 : ∀ x, (wr.setCell ⟨w.heap.size, 0, none⟩ x).cell? ⟨w.heap.size, 0, none⟩ = some x := fun x => World.cell?_setCell_same _ _ _ k0
      have s1 : ∀ x y, ((wr.setCell ⟨w.heap.size, 0, none⟩ x).setCell ⟨w.heap.size, 1, none⟩ y).cell? ⟨w.heap.size, 1, none⟩ = some y := fun x y => World.cell?_setCell_same _ _ _ (by rw [World.cell?_setCell_other _ _ _ _ (by simp)]; exact k1)
      go_wp2
      refine bodyPost_ret (v := .agg #[.slice Av (rowV l l.length).length cv, .string (rowD l l.length)]) (by simp [results, Tryd.results42, go_sem, s0, s1]) rfl ⟨_, rfl, ?_, ?_⟩
      · exact ((HV.out.setFar (p := ⟨w.heap.size, 0, none⟩) (by simp) _).setFar (p := ⟨w.heap.size, 1, none⟩) (by simp) _).lower (by simp)
      · exact (((((Below.refl _ _).alloc (Nat.le_refl _) _).trans (HG.out.mono (by simp))).setCell (Nat.le_refl _) _).setCell (Nat.le_refl _) _)


set_option maxHeartbeats 400000 in
theorem refRow_any (A : Option Addr) (c : Nat) (l : List RowL) (w : World) (hC : KRow.C w A l.length l) (hs : ∀ r ∈ l, r.data.size ≤ 281474976710656 ∧ r.vec.length ≤ 8796093022208) :
    Calls Tryd.prog 74 #[.slice A l.length c] w fun e w' => ∃ v, e = .returned (.agg #[v, .string (rowX l).data]) ∧ Own w' w.heap.size 45 v ((rowX l).vec.map encW) ∧ Below w.heap.size w w' := by
  have hm := C_max hC
  have HC := Aside0.mk hC
  have HS := Aside0.mk hs
  clear hC hs
  go_enter Tryd.func74, Tryd.ntmps74
  go_wp2
  generalize hW0 : (w.alloc (.cells #[.slice none 0 0, .string ⟨#[]⟩] 36)).alloc (.cells #[.slice none 0 0, .string ⟨#[]⟩] 36) = W0
  have HB0 : Aside0 (Below w.heap.size w W0) := ⟨by rw [← hW0]; exact ((Below.refl _ _).alloc (Nat.le_refl _) _).alloc (by simp) _⟩
  have k0 : W0.cell? ⟨w.heap.size, 0, none⟩ = some (.slice none 0 0) := by rw [← hW0]; simp
  have k1 : W0.cell? ⟨w.heap.size, 1, none⟩ = some (.string ⟨#[]⟩) := by rw [← hW0]; simp
  have j0 : W0.cell? ⟨w.heap.size + 1, 0, none⟩ = some (.slice none 0 0) := by rw [← hW0]; simp
  have j1 : W0.cell? ⟨w.heap.size + 1, 1, none⟩ = some (.string ⟨#[]⟩) := by rw [← hW0]; simp
  have q0 : W0.frozen? ⟨w.heap.size, 0, none⟩ = false := by rw [← hW0]; simp
  have q1 : W0.frozen? ⟨w.heap.size, 1, none⟩ = false := by rw [← hW0]; simp
  have f0 : W0.heap[w.heap.size + 1]? = some (.cells #[.slice none 0 0, .string ⟨#[]⟩] 36 (0, 0)) := by rw [← hW0]; have := heap_alloc_new (w.alloc (.cells #[.slice none 0 0, .string ⟨#[]⟩] 36)) (.cells #[.slice none 0 0, .string ⟨#[]⟩] 36); simpa using this
  have HB1 : Aside0 (Below (w.heap.size + 1) W0 W0) := ⟨Below.refl _ _⟩
  have HZ0 : W0.heap.size = w.heap.size + 2 := by rw [← hW0]; simp
  have HF0 := Aside0.mk f0
  clear hW0 f0
  go_loopw [4] (fun i wr => ∃ (k : Nat) (v : Value), k ≤ l.length ∧ i = .int .i64 k ∧ Aside0 (Own wr (w.heap.size + 2) 45 v ((rowV l k).map encW)) ∧ Aside0 (wr.heap[w.heap.size + 1]? = some (.cells #[v, .string (rowD l k)] 36 (0, 0))) ∧ Aside0 (Below (w.heap.size + 1) W0 wr))
    (fun i _ => l.length - (intOf i).toNat)
  case atStart => exact ⟨0, _, Nat.zero_le _, rfl, ⟨Own.nil _ _ _⟩, HF0, HB1⟩
  case round =>
    obtain ⟨k, v, hk, rfl, HV, HF, HG⟩ := hrel
    have hwz : Aside0 (w.heap.size + 2 ≤ wr.heap.size) := ⟨by have := HG.out.size; omega⟩
    obtain ⟨Av, cv, hv, _, hVC⟩ := HV.out.Cw
    subst hv
    have r0 : wr.cell? ⟨w.heap.size + 1, 0, none⟩ = some (.slice Av (rowV l k).length cv) := by rw [blk_cell HF.out]; rfl
    have r1 : wr.cell? ⟨w.heap.size + 1, 1, none⟩ = some (.string (rowD l k)) := by rw [blk_cell HF.out]; rfl
    have z0 : wr.frozen? ⟨w.heap.size + 1, 0, none⟩ = false := blk_frozen HF.out 0
    have z1 : wr.frozen? ⟨w.heap.size + 1, 1, none⟩ = false := blk_frozen HF.out 1
    by_cases hlt : k < l.length
    · have hWC : Kd.C KRow wr A l.length l := Kd.C_below HC.out (HB0.out.trans (HG.out.mono (by omega)))
      obtain ⟨ad, A0, c0, rfl, hc1, hc2, _, hV⟩ := at_row hWC k hlt
      have hst := mem_at HS.out k hlt
      obtain ⟨hs1, hs2⟩ := hst
      have hl1 : (rowV l k).length ≤ 17592186044416 := Nat.le_trans (rowV_len l _ (fun r hr => (HS.out r hr).2) k hk) (by decide)
      have hl2 := Nat.le_trans hs2 (show 8796093022208 ≤ 17592186044416 by decide)
      have HVC := Aside0.mk (show Kw.C wr.drew _ _ _ from hVC)
      have HV1 := Aside0.mk (show Kw.C wr.drew _ _ _ from hV)
      have HWC := Aside0.mk hWC
      clear hVC hV hWC
      go_upto_region 5 with fail
      go_cut [4] (fun i wx => i = .int .i64 k ∧ ∃ v : Value, Aside0 (Own wx (w.heap.size + 2) 45 v ((rowV l (k + 1)).map encW)) ∧ Aside0 (wx.heap[w.heap.size + 1]? = some (.cells #[v, .string (rowD l k)] 36 (0, 0))) ∧ Aside0 (Below (w.heap.size + 1) W0 wx))
      case first =>
        go_region_law (first | (go_simp; go_at_call 90; go_must (refine (Words.refXor_any _ _ _ _ _ _ _ HVC.out HV1.out hl1 hl2).mono ?_; rintro e w1 ⟨v1, rfl, hO1, hG1⟩); obtain ⟨A1, c1, hv1, _, hC1⟩ := hO1.Cw; subst hv1; have y0 := (hG1.cell (p := ⟨w.heap.size + 1, 0, none⟩) hwz.out).trans r0; have y1 := (hG1.frozen (p := ⟨w.heap.size + 1, 0, none⟩) hwz.out).trans z0))
        all_goals
          go_wp2_with fail
          go_meet
          refine ⟨rfl, .slice A1 (xorW (rowV l k) l[k].vec).length c1, ⟨?_⟩, ⟨?_⟩, ⟨?_⟩⟩
          · rw [rowV_succ l k hlt]
            exact (hO1.lower hwz.out).setFar (p := ⟨w.heap.size + 1, 0, none⟩) (by simp) _
          · have := blk_set ((hG1.block (w.heap.size + 1) hwz.out).trans HF.out) 0 (.slice A1 (xorW (rowV l k) l[k].vec).length c1)
            simpa using this
          · exact ((HG.out.drew.trans (hG1.mono (by have := hwz.out; simp; omega))).setCell (by simp) _)
      case rest =>
        obtain ⟨rfl, v2, HV2, HF2, HG2⟩ := hcut
        have hz2 : Aside0 (w.heap.size + 2 ≤ wc.heap.size) := ⟨by have := HG2.out.size; omega⟩
        have hWC2 : Kd.C KRow wc (some ad) l.length l := Kd.C_below HC.out (HB0.out.trans (HG2.out.mono (by omega)))
        obtain ⟨ad', A0', c0', he, hc1', hc2', _, hV'⟩ := at_row hWC2 k hlt
        cases he
        have r1' : wc.cell? ⟨w.heap.size + 1, 1, none⟩ = some (.string (rowD l k)) := by rw [blk_cell HF2.out]; rfl
        have z1' : wc.frozen? ⟨w.heap.size + 1, 1, none⟩ = false := blk_frozen HF2.out 1
        have hd1 : (rowD l k).size ≤ 9223372036854775807 := Nat.le_trans (rowD_size l _ (fun r hr => (HS.out r hr).1) k hk) (by decide)
        have hd2 := Nat.le_trans hs1 (show 281474976710656 ≤ 9223372036854775807 by decide)
        clear hWC2 hV' r0 r1 z0 z1 hc1 hc2
        go_wp2
        go_region_law (first | (go_simp; go_at_call 50; go_must (refine (Xor.refXor_any _ _ _ hd1 hd2).mono ?_; rintro e w1 ⟨rfl, hG1⟩); have y0 := (hG1.cell (p := ⟨w.heap.size + 1, 1, none⟩) hz2.out).trans r1'; have y1 := (hG1.frozen (p := ⟨w.heap.size + 1, 1, none⟩) hz2.out).trans z1'))
        all_goals
          go_wp2
          go_roundw
          case rel =>
            refine ⟨k + 1, v2, by omega, by go_num, ⟨?_⟩, ⟨?_⟩, ⟨?_⟩⟩
            · exact ((HV2.out.drew).below hG1).setFar (p := ⟨w.heap.size + 1, 1, none⟩) (by simp) _
            · have := blk_set ((hG1.block (w.heap.size + 1) hz2.out).trans HF2.out) 1 (.string (xorS (rowD l k) l[k].data))
              rw [rowD_succ l k hlt]
              simpa using this
            · exact ((HG2.out.drew.trans (hG1.mono (by have := hz2.out; simp; omega))).setCell (by simp) _)
          case measure => simp [intOf]; omega
    · obtain rfl : k = l.length := by omega
      have p0 : wr.cell? ⟨w.heap.size, 0, none⟩ = some (.slice none 0 0) := (HG.out.cell (p := ⟨w.heap.size, 0, none⟩) (by simp)).trans k0
      have p1 : wr.cell? ⟨w.heap.size, 1, none⟩ = some (.string ⟨#[]⟩) := (HG.out.cell (p := ⟨w.heap.size, 1, none⟩) (by simp)).trans k1
      have f0 : wr.frozen? ⟨w.heap.size, 0, none⟩ = false := (HG.out.frozen (p := ⟨w.heap.size, 0, none⟩) (by simp)).trans q0
      have f1 : wr.frozen? ⟨w.heap.size, 1, none⟩ = false := (HG.out.frozen (p := ⟨w.heap.size, 1, none⟩) (by simp)).trans q1
      have s0 : ∀ x, (wr.setCell ⟨w.heap.size, 0, none⟩ x).cell? ⟨w.heap.size, 0, none⟩ = some x := fun x => World.cell?_setCell_same _ _ _ p0
      have s1 : ∀ x y, ((wr.setCell ⟨w.heap.size, 0, none⟩ x).setCell ⟨w.heap.size, 1, none⟩ y).cell? ⟨w.heap.size, 1, none⟩ = some y := fun x y => World.cell?_setCell_same _ _ _ (by rw [World.cell?_setCell_other _ _ _ _ (by simp)]; exact p1)
      go_wp2
      refine bodyPost_ret (v := .agg #[.slice Av (rowV l l.length).length cv, .string (rowD l l.length)]) (by simp [results, Tryd.results74, go_sem, s0, s1]) rfl ⟨_, rfl, ?_, ?_⟩
      · exact ((HV.out.setFar (p := ⟨w.heap.size, 0, none⟩) (by simp) _).setFar (p := ⟨w.heap.size, 1, none⟩) (by simp) _).lower (by simp)
      · exact (((HB0.out.trans (HG.out.mono (by simp))).setCell (Nat.le_refl _) _).setCell (Nat.le_refl _) _)


def sameR (r s : RowL) : Bool := sameW r.vec s.vec && (r.data.toList == s.data.toList)

set_option maxHeartbeats 400000 in
theorem Same_any (A B : Option Addr) (ca cb : Nat) (r s : RowL) (w : World) (hA : Kw.C w A r.vec.length r.vec) (hB : Kw.C w B s.vec.length s.vec) (ha : r.vec.length ≤ 8796093022208) (hb : s.vec.length ≤ 8796093022208) :
    Calls Tryd.prog 47 #[.agg #[.slice A r.vec.length ca, .string r.data], .agg #[.slice B s.vec.length cb, .string s.data]] w fun e w' => e = .returned (.bool (sameR r s)) ∧ Below w.heap.size w w' := by
  obtain ⟨W, hW⟩ : ∃ W, W = (w.alloc (.cells #[.slice A r.vec.length ca, .string r.data] 36)).alloc (.cells #[.slice B s.vec.length cb, .string s.data] 36) := ⟨_, rfl⟩
  have HBW : Aside0 (Below w.heap.size w W) := ⟨by rw [hW]; exact ((Below.refl _ _).alloc (Nat.le_refl _) _).alloc (by simp) _⟩
  have HA := Aside0.mk (Kd.C_below hA HBW.out)
  have HB := Aside0.mk (Kd.C_below hB HBW.out)
  have c1 : W.cell? ⟨w.heap.size, 1, none⟩ = some (.string r.data) := by rw [hW]; simp
  have c2 : W.cell? ⟨w.heap.size + 1, 1, none⟩ = some (.string s.data) := by rw [hW]; simp
  have hz : W.heap.size = w.heap.size + 2 := by rw [hW]; simp
  have HW := Aside0.mk hW
  clear hA hB hW
  go_enter Tryd.func47, Tryd.ntmps47
  go_wp2_with fail
  rw [← HW.out]
  refine (Words.refSame_any A B ca cb r.vec s.vec W HA.out HB.out ha hb).mono ?_
  rintro e w1 ⟨rfl, hG1⟩
  have d1 := (hG1.cell (p := ⟨w.heap.size, 1, none⟩) (by simp [hz])).trans c1
  have d2 := (hG1.cell (p := ⟨w.heap.size + 1, 1, none⟩) (by simp [hz])).trans c2
  have HG1 := Aside0.mk (HBW.out.trans (hG1.mono (by omega)))
  clear hG1 c1 c2
  by_cases hs : sameW r.vec s.vec = true
  · have HE : Aside0 (sameR r s = (r.data.toList == s.data.toList)) := ⟨by rw [sameR, hs, Bool.true_and]⟩
    go_wp2
    go_ret
    exact ⟨by rw [HE.out]; rfl, HG1.out⟩
  · have HE : Aside0 (sameR r s = false) := ⟨by rw [sameR, Bool.eq_false_iff.2 hs, Bool.false_and]⟩
    have hs' := Bool.eq_false_iff.2 hs
    go_wp2
    go_ret
    exact ⟨by rw [HE.out]; rfl, HG1.out⟩


set_option maxHeartbeats 400000 in
theorem refHolds_any (A B : Option Addr) (c cb : Nat) (l : List ByteArray) (r : RowL) (w : World) (hC : Kd.string.C w A l.length l) (hB : Kw.C w B r.vec.length r.vec) (hs : ∀ s ∈ l, s.size ≤ 281474976710656) (hv : r.vec.length ≤ 8796093022208) (hd : r.data.size ≤ 281474976710656) :
    Calls Tryd.prog 21 #[.slice A l.length c, .agg #[.slice B r.vec.length cb, .string r.data]] w fun e w' => e = .returned (.bool (holdsB l r.vec r.data)) ∧ Below w.heap.size w w' := by
  have hm := C_max hC
  obtain ⟨W, hW⟩ : ∃ W, W = w.alloc (.cells #[.slice B r.vec.length cb, .string r.data] 36) := ⟨_, rfl⟩
  have HBW : Aside0 (Below w.heap.size w W) := ⟨by rw [hW]; exact (Below.refl _ _).alloc (Nat.le_refl _) _⟩
  have HC := Aside0.mk (Kd.C_below hC HBW.out)
  have HB := Aside0.mk (Kd.C_below hB HBW.out)
  have HS := Aside0.mk hs
  have c0 : W.cell? ⟨w.heap.size, 0, none⟩ = some (.slice B r.vec.length cb) := by rw [hW]; simp
  have c1 : W.cell? ⟨w.heap.size, 1, none⟩ = some (.string r.data) := by rw [hW]; simp
  have hz : W.heap.size = w.heap.size + 1 := by rw [hW]; simp
  have HW := Aside0.mk hW
  clear hC hB hW hs
  go_enter Tryd.func21, Tryd.ntmps21
  go_wp2
  rw [← HW.out]
  clear HW
  go_loop [5] (fun i => ∃ k : Nat, (k ≤ l.length ∨ k ≤ 64 * r.vec.length) ∧ l.length ≤ k ∧ i = .int .i64 k ∧ Aside0 (∀ j, l.length ≤ j → j < k → getB r.vec j = false)) (fun i => 64 * r.vec.length - (intOf i).toNat)
  case atStart => exact ⟨l.length, .inl (Nat.le_refl _), Nat.le_refl _, rfl, ⟨fun j h1 h2 => by omega⟩⟩
  case round =>
    obtain ⟨k, hk, hk2, rfl, HR⟩ := hrel
    by_cases hlt : k < 64 * r.vec.length
    · by_cases hb : getB r.vec k = true
      · have HN := Aside0.mk (holdsB_no_bit l r.vec r.data k hk2 hlt hb)
        go_wp2_with fail
        refine (Words.refGet_any _ _ r.vec k _ HB.out (by omega)).mono ?_
        rintro e w1 ⟨rfl, rfl⟩
        go_wp2
        go_ret
        exact ⟨by rw [HN.out]; rfl, HBW.out⟩
      · have hb' := Bool.eq_false_iff.2 hb
        go_wp2_with fail
        refine (Words.refGet_any _ _ r.vec k _ HB.out (by omega)).mono ?_
        rintro e w1 ⟨rfl, rfl⟩
        have HN : Aside0 (∀ j, l.length ≤ j → j < k + 1 → getB r.vec j = false) := ⟨fun j h1 h2 => by
          by_cases he : j = k
          · rw [he]; exact hb'
          · exact HR.out j h1 (by omega)⟩
        go_wp2
        go_round
        case rel => exact ⟨k + 1, .inr (by omega), by omega, by go_num, HN⟩
        case measure => simp [intOf]; omega
    · have HE := Aside0.mk (holdsB_bits l r.vec r.data (fun i h1 h2 => HR.out i h1 (by omega)))
      have HK : Aside0 (∀ w', Below W.heap.size W w' → w'.cell? ⟨w.heap.size, 0, none⟩ = some (.slice B r.vec.length cb) ∧ w'.cell? ⟨w.heap.size, 1, none⟩ = some (.string r.data)) := ⟨fun w' h => ⟨(h.cell (p := ⟨w.heap.size, 0, none⟩) (by simp [hz])).trans c0, (h.cell (p := ⟨w.heap.size, 1, none⟩) (by simp [hz])).trans c1⟩⟩
      have HCd := Aside0.mk (show Kd.string.C W.drew _ _ _ from HC.out)
      have HBd := Aside0.mk (show Kw.C W.drew _ _ _ from HB.out)
      have ho := size_ofN l r.vec _ HS.out l.length
      have ho1 : (ofS l r.vec).size ≤ 9223372036854775807 := Nat.le_trans ho (by decide)
      have hd1 := Nat.le_trans hd (show 281474976710656 ≤ 9223372036854775807 by decide)
      have hx1 : (xorS (ofS l r.vec) r.data).size ≤ 281474976710656 := by rw [size_xorS]; have : (ofS l r.vec).size ≤ 281474976710656 := ho; omega
      generalize hX : xorS (ofS l r.vec) r.data = X at *
      have HX := Aside0.mk hX
      clear hX
      go_wp2
      go_cut [6] (fun a wx => a = .string X ∧ Aside0 (Below W.heap.size W wx))
      case first =>
        go_region_law (first
          | (go_simp; go_at_call 51; go_must (refine (XorB.refOf_any _ _ _ _ _ _ _ HCd.out HBd.out HS.out).mono ?_; rintro e w1 ⟨rfl, hG1⟩); have hq := (HK.out _ ((Below.refl _ _).drew.trans hG1)).2)
          | (go_simp; go_at_call 50; go_must (refine (Xor.refXor_any _ _ _ ho1 hd1).mono ?_; rintro e w2 ⟨rfl, hG2⟩; rw [HX.out])))
        all_goals
          go_wp2_with fail
          go_meet
          exact ⟨rfl, ⟨((Below.refl _ _).drew.trans hG1).trans (hG2.mono hG1.size)⟩⟩
      case rest =>
        obtain ⟨rfl, HG'⟩ := hcut
        clear HK HCd HBd ho ho1 HR
        have HG2 := Aside0.mk (HBW.out.trans (HG'.out.mono (by omega)))
        go_wp2
        go_loop [7] (fun i => ∃ m : Nat, m ≤ X.size ∧ i = .int .i64 m ∧ Aside0 (∀ j, j < m → (bytesOf X).getD j 0 = 0)) (fun i => X.size - (intOf i).toNat)
        case atStart => exact ⟨0, Nat.zero_le _, rfl, ⟨fun j h => by omega⟩⟩
        case round =>
          obtain ⟨m, hm', rfl, HM⟩ := hrel
          by_cases hm2 : m < X.size
          · have HY := Aside0.mk (Xor.rd_byte X m hm2)
            by_cases hz0 : ((X[m]'hm2).toNat : Int) = 0
            · have HN : Aside0 (∀ j, j < m + 1 → (bytesOf X).getD j 0 = 0) := ⟨fun j h2 => by
                by_cases he : j = m
                · rw [he, HY.out]; exact hz0
                · exact HM.out j (by omega)⟩
              have hn : (((X[m]'hm2).toNat : Int) != 0) = false := bne_eq_false_iff_eq.2 hz0
              clear hz0
              go_wp2
              go_round
              case rel => exact ⟨m + 1, by omega, by go_num, HN⟩
              case measure => simp [intOf]; omega
            · have hn : (((X[m]'hm2).toNat : Int) != 0) = true := bne_iff_ne.2 hz0
              have HN := Aside0.mk (all0_no X m hm2 (by rw [HY.out]; exact hz0))
              go_wp2
              go_ret
              exact ⟨by rw [HE.out, HN.out]; rfl, HG2.out⟩
          · have HN := Aside0.mk (all0_yes X (fun j h => HM.out j (by omega)))
            go_wp2
            go_ret
            exact ⟨by rw [HE.out, HN.out]; rfl, HG2.out⟩

end Go.Proofs.YtnfabflkajpkfaaDoor.XorR
