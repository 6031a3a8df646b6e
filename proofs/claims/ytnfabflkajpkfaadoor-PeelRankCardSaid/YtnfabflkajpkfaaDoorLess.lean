/- The reference of peeling: a row without what is known. No condition. -/
import Derived.Test.YtnfabflkajpkfaaDoorPeelV
namespace Go.Proofs.YtnfabflkajpkfaaDoor.Less
open Go Go.RowKit Go.Proofs.YtnfabflkajpkfaaDoorW.PrintWords Go.Proofs.YtnfabflkajpkfaaDoor.Base Go.Proofs.YtnfabflkajpkfaaDoor.Bits Go.Proofs.YtnfabflkajpkfaaDoor.BitsN Go.Proofs.YtnfabflkajpkfaaDoor.Kinds Go.Proofs.YtnfabflkajpkfaaDoor.Words Go.Proofs.YtnfabflkajpkfaaDoor.WordsP Go.Proofs.YtnfabflkajpkfaaDoor.PeelP Go.Proofs.YtnfabflkajpkfaaDoor.Rows2 Go.Proofs.YtnfabflkajpkfaaDoor.Valid Go.Proofs.YtnfabflkajpkfaaDoor.RowsA Go.Proofs.YtnfabflkajpkfaaDoor.Delete Go.Proofs.YtnfabflkajpkfaaDoor.PeelV
set_option linter.unusedVariables false
set_option linter.unusedSimpArgs false

/-! ### plain -/
def lessS (r x : RowL) : RowL := if getB r.vec (firstW x.vec).toNat then rowX2 r x else r
def lessL (K : List RowL) (r : RowL) : RowL := K.foldl lessS r
theorem lessL_succ {K : List RowL} {i : Nat} (h : i < K.length) (r : RowL) : lessL (K.take (i + 1)) r = lessS (lessL (K.take i) r) K[i] := by
  rw [lessL, List.take_succ_eq_append_getElem h, List.foldl_append]; rfl
theorem lessS_bound {m n : Nat} {r x : RowL} (hr : r.vec.length ≤ m ∧ r.data.size ≤ n) (hx : x.vec.length ≤ m ∧ x.data.size ≤ n) : (lessS r x).vec.length ≤ m ∧ (lessS r x).data.size ≤ n := by
  unfold lessS
  split
  · refine ⟨?_, ?_⟩
    · show (xorW r.vec x.vec).length ≤ m
      rw [xorW_length]; omega
    · show (xorS r.data x.data).size ≤ n
      rw [size_xorS]; omega
  · exact hr
theorem lessL_bound {m n : Nat} {K : List RowL} {r : RowL} (hr : r.vec.length ≤ m ∧ r.data.size ≤ n) (hK : ∀ x ∈ K, x.vec.length ≤ m ∧ x.data.size ≤ n) : (lessL K r).vec.length ≤ m ∧ (lessL K r).data.size ≤ n := by
  induction K generalizing r with
  | nil => exact hr
  | cons x K ih => exact ih (lessS_bound hr (hK x (by simp))) (fun y hy => hK y (by simp [hy]))
theorem lessL_red {D : List (Nat × RowL)} (h : ∀ p ∈ D, firstW p.2.vec = (p.1 : Nat)) (r : RowL) : lessL (D.map (·.2)) r = red D r := by
  induction D generalizing r with
  | nil => rfl
  | cons p D ih =>
    show lessL (D.map (·.2)) (lessS r p.2) = red D (stepR r p)
    rw [ih (fun q hq => h q (by simp [hq]))]
    have : lessS r p.2 = stepR r p := by rw [lessS, stepR, h p (by simp)]; rfl
    rw [this]
theorem firstW_lt {v : List UInt64} {f : Nat} (h : firstW v = (f : Nat)) : f < 64 * v.length := by
  by_cases hc : cntW v = 0
  · rw [firstW_none hc] at h; omega
  · obtain ⟨i, e, _, _, hi⟩ := firstW_some hc
    omega

theorem grown_set (w : World) (p : Addr) (u : Value) : w.grownBy (w.setCell p u) (some p.block) := ⟨rfl, rfl, rfl, by simp, fun k _ hk => Below.heap_setCell _ _ _ _ (fun e => hk (by simp [e]))⟩
theorem _root_.Go.Proofs.YtnfabflkajpkfaaDoor.Rows2.Vst.set {w0 w : World} {s : Value} {v : List UInt64} (h : Vst w0 w s v) {p : Addr} {cs : Array Value} {t : TypeId} {fr : Nat × Nat} (hp : w.heap[p.block]? = some (.cells cs t fr)) (ht : t ≠ 45) (u : Value) : Vst w0 (w.setCell p u) s v :=
  h.move (grown_set w p u) (notW_typed hp ht)

set_option maxHeartbeats 1000000 in
theorem less_any (A : Option Addr) (c : Nat) (K : List RowL) (A0 : Option Addr) (c0 : Nat) (r : RowL) (w0 w : World) (hB00 : Below w0.heap.size w0 w) (hC : KRow.C w A K.length K) (hV : Vst w0 w (.slice A0 r.vec.length c0) r.vec)
    (hK : ∀ x ∈ K, x.vec.length ≤ 1000 ∧ x.data.size ≤ 1000000) (hr : r.vec.length ≤ 1000 ∧ r.data.size ≤ 1000000) (hf : ∀ x ∈ K, ∃ f : Nat, firstW x.vec = f) :
    Calls Tryd.prog 45 #[.slice A K.length c, .agg #[.slice A0 r.vec.length c0, .string r.data]] w fun e w' =>
      ∃ v, e = .returned (.agg #[v, .string (lessL K r).data]) ∧ Vst w0 w' v (lessL K r).vec ∧ Below w.heap.size w w' := by
  have hm := C_max hC
  have HC := Aside0.mk hC
  have HK := Aside0.mk hK
  have HR0 := Aside0.mk hr
  have HF := Aside0.mk hf
  have HV0 := Aside0.mk hV
  have HB00 := Aside0.mk hB00
  clear hC hK hr hf hV hB00
  go_enter Tryd.func45, Tryd.ntmps45
  go_wp2
  generalize hW0 : (w.alloc (.cells #[.slice A0 r.vec.length c0, .string r.data] 36)).alloc (.cells #[.slice none 0 0, .string ⟨#[]⟩] 36) = W0
  have HB0 : Aside0 (Below w.heap.size w W0) := ⟨by rw [← hW0]; exact ((Below.refl _ _).alloc (Nat.le_refl _) _).alloc (by simp) _⟩
  have HP0 : Aside0 (W0.heap[w.heap.size]? = some (.cells #[.slice A0 r.vec.length c0, .string r.data] 36 (0, 0))) := ⟨by rw [← hW0]; exact hp_old (hp_new _ _ _ rfl) _⟩
  have HQ0 : Aside0 (W0.heap[w.heap.size + 1]? = some (.cells #[.slice none 0 0, .string ⟨#[]⟩] 36 (0, 0))) := ⟨by rw [← hW0]; have := heap_alloc_new (w.alloc (.cells #[.slice A0 r.vec.length c0, .string r.data] 36)) (.cells #[.slice none 0 0, .string ⟨#[]⟩] 36); simpa using this⟩
  have HZ0 : Aside0 (w.heap.size + 2 ≤ W0.heap.size) := ⟨by rw [← hW0]; simp⟩
  have HV1 := Aside0.mk (HV0.out.below HB0.out)
  clear hW0
  go_loopw [5] (fun x wr => ∃ (i : Nat) (s : Value), x = .int .i64 i ∧ i ≤ K.length ∧ Aside0 (Vst w0 wr s (lessL (K.take i) r).vec) ∧ Aside0 (wr.heap[w.heap.size]? = some (.cells #[s, .string (lessL (K.take i) r).data] 36 (0, 0))) ∧ Aside0 (wr.heap[w.heap.size + 1]? = some (.cells #[.slice none 0 0, .string ⟨#[]⟩] 36 (0, 0))) ∧ Aside0 (Below w.heap.size w wr)) (fun x _ => K.length - (intOf x).toNat)
  case atStart => exact ⟨0, _, rfl, Nat.zero_le _, HV1, HP0, HQ0, HB0⟩
  case round =>
    clear HP0 HQ0 HB0 HZ0 HV1 HV0
    obtain ⟨i, s, rfl, hi, HV, HP, HQ, HB⟩ := hrel
    have hbd := lessL_bound (K := K.take i) HR0.out (fun x hx => HK.out x (List.mem_of_mem_take hx))
    by_cases hlt : i < K.length
    · have HS := Aside0.mk (lessL_succ hlt r)
      generalize hri : lessL (K.take i) r = ri at *
      clear hri
      obtain ⟨ad, A1, c1, rfl, hc1, hc2, hcc, hC1⟩ := at_row (Kd.C_below HC.out HB.out) i hlt
      have hmem := List.getElem_mem hlt
      obtain ⟨f, hf⟩ := HF.out _ hmem
      obtain ⟨As, cs, rfl, hcs, hCs⟩ := HV.out.C (HB00.out.trans (HB.out.mono HB00.out.size))
      have r0 : wr.cell? ⟨w.heap.size, 0, none⟩ = some (.slice As ri.vec.length cs) := by rw [blk_cell HP.out]; rfl
      have r1 : wr.cell? ⟨w.heap.size, 1, none⟩ = some (.string ri.data) := by rw [blk_cell HP.out]; rfl
      have hdr : Below wr.heap.size wr wr.drew := (Below.refl _ _).drew
      have hfst := refFirst_any A1 c1 (K[i]).vec wr.drew (Kd.C_below hC1 hdr) (by have := (HK.out _ hmem).1; omega)
      rw [hf] at hfst
      have hff := firstW_lt hf
      have hget := refGet_any As cs ri.vec f wr.drew (Kd.C_below hCs hdr) (by have := (HK.out _ hmem).1; omega)
      have HFST := Aside0.mk hfst
      have HGET := Aside0.mk hget
      have HE := Aside0.mk (show lessS ri K[i] = if getB ri.vec f then rowX2 ri K[i] else ri by rw [lessS, hf]; rfl)
      have HBK := Aside0.mk (HK.out _ hmem)
      have HC1 := Aside0.mk hC1
      have HCs := Aside0.mk hCs
      clear hfst hget hmem hC1 hCs hf hff
      cases hg : getB ri.vec f with
      | false =>
        rw [hg] at HGET HE
        clear hg
        have HVD := Aside0.mk (HV.out.below hdr)
        go_upto_region 4 with fail
        go_region_law (first
          | (go_simp; go_at_call 22; go_must (refine HFST.out.mono ?_; rintro e w1 ⟨rfl, rfl⟩))
          | (go_simp; go_at_call 24; go_must (refine HGET.out.mono ?_; rintro e w1 ⟨rfl, rfl⟩)))
        all_goals
          go_wp2
          go_roundw
          case rel => exact ⟨i + 1, _, by go_num, by omega, ⟨by rw [HS.out, HE.out]; exact HVD.out⟩, ⟨by rw [HS.out, HE.out]; exact HP.out⟩, HQ, ⟨HB.out.drew⟩⟩
          case measure => simp [intOf]; omega
      | true =>
        rw [hg] at HGET HE
        clear hg
        generalize hW4 : (wr.alloc (.cells #[.slice As ri.vec.length cs, .string ri.data, .slice A1 (K[i]).vec.length c1, .string (K[i]).data] 36)).drew.drew = W4
        have hal : Below wr.heap.size wr W4 := by rw [← hW4]; exact ((Below.refl _ _).alloc (Nat.le_refl _) _).drew.drew
        have hC14 : Kw.C W4 A1 (K[i]).vec.length (K[i]).vec := Kd.C_below HC1.out hal
        have hCs4 : Kw.C W4 As ri.vec.length ri.vec := Kd.C_below HCs.out hal
        have h4 : W4.heap[wr.heap.size]? = some (.cells #[.slice As ri.vec.length cs, .string ri.data, .slice A1 (K[i]).vec.length c1, .string (K[i]).data] 36 (0, 0)) := by rw [← hW4]; exact hp_new _ _ _ rfl
        have hrc := XorR.refRow_any (some ⟨wr.heap.size, 0, none⟩) 2 [ri, K[i]] W4 (KRow_of (w0 := W4) (rows := [ri, K[i]]) (Below.refl _ _) (by simp) (fun m r hr => by
          match m, hr with
          | 0, hr =>
            obtain rfl : ri = r := by simpa using hr
            exact ⟨_, by rw [blk_cell h4]; rfl, by rw [blk_cell h4]; rfl, .inl ⟨_, _, rfl, hcs, hCs4⟩⟩
          | 1, hr =>
            obtain rfl : K[i] = r := by simpa using hr
            exact ⟨_, by rw [blk_cell h4]; rfl, by rw [blk_cell h4]; rfl, .inl ⟨_, _, rfl, hcc, hC14⟩⟩)) (fun r hr => by
          simp only [List.mem_cons, List.not_mem_nil, or_false] at hr
          rcases hr with rfl | rfl
          · exact ⟨by omega, by omega⟩
          · exact ⟨by have := HBK.out; omega, by have := HBK.out; omega⟩)
        rw [rowX_two] at hrc
        have HRC := Aside0.mk hrc
        have HAL := Aside0.mk hal
        have HP4 := Aside0.mk (blk_below HP.out hal)
        have HQ4 := Aside0.mk (blk_below HQ.out hal)
        have HW4 := Aside0.mk hW4
        clear hrc hal hW4 h4
        go_upto_region 4 with fail
        go_region_law (first
          | (go_simp; go_at_call 22; go_must (refine HFST.out.mono ?_; rintro e w1 ⟨rfl, rfl⟩))
          | (go_simp; go_at_call 24; go_must (refine HGET.out.mono ?_; rintro e w1 ⟨rfl, rfl⟩)))
        all_goals
          go_upto_region 5 with fail
          go_region_law (first
            | (go_simp; go_at_call 74; rw [HW4.out]; go_must (refine HRC.out.mono ?_; rintro e w5 ⟨v5, rfl, hO5, hb5⟩; have hP5 := blk_below HP4.out hb5; have y0 : w5.cell? ⟨w.heap.size, 0, none⟩ = some (.slice As ri.vec.length cs) := (by simp [blk_cell hP5]); have y1 : w5.cell? ⟨w.heap.size, 1, none⟩ = some (.string ri.data) := (by simp [blk_cell hP5]); have z0 := blk_frozen hP5 0; have z1 := blk_frozen hP5 1; have HO5 := Aside0.mk hO5; obtain ⟨A5, c5, e5, _, _⟩ := hO5.Cw; subst e5)))
          all_goals
            go_wp2
            go_roundw
            case rel =>
              have hz : w.heap.size < W4.heap.size := blk_lt HP4.out
              refine ⟨i + 1, .slice A5 (rowX2 ri K[i]).vec.length c5, by go_num, by omega, ⟨?_⟩, ⟨?_⟩, ⟨?_⟩, ⟨?_⟩⟩
              rotate_left
              · have := blk_set (blk_set hP5 0 (.slice A5 (rowX2 ri K[i]).vec.length c5)) 1 (.string (rowX2 ri K[i]).data)
                rw [HS.out, HE.out, if_pos rfl]
                simpa using this
              · exact blk_far (blk_far (blk_below HQ4.out hb5) (by simp) _) (by simp) _
              · exact ((HB.out.trans ((HAL.out.trans (hb5.mono HAL.out.size)).mono HB.out.size)).setCell (Nat.le_refl _) _).setCell (Nat.le_refl _) _
              · rw [HS.out, HE.out, if_pos rfl]
                exact .inr (((HO5.out.setFar (p := ⟨w.heap.size, 0, none⟩) hz _).setFar (p := ⟨w.heap.size, 1, none⟩) hz _).lower (Nat.le_trans HB00.out.size (Nat.le_of_lt hz)))
            case measure => simp [intOf]; omega
    · obtain rfl : i = K.length := by omega
      rw [List.take_length] at hbd HV HP
      obtain ⟨As, cs, rfl, hcs, hCs⟩ := HV.out.C (HB00.out.trans (HB.out.mono HB00.out.size))
      have r0 : wr.cell? ⟨w.heap.size, 0, none⟩ = some (.slice As (lessL K r).vec.length cs) := by simp [blk_cell HP.out]
      have r1 : wr.cell? ⟨w.heap.size, 1, none⟩ = some (.string (lessL K r).data) := by simp [blk_cell HP.out]
      have p0 : wr.cell? ⟨w.heap.size + 1, 0, none⟩ = some (.slice none 0 0) := by simp [blk_cell HQ.out]
      have p1 : wr.cell? ⟨w.heap.size + 1, 1, none⟩ = some (.string ⟨#[]⟩) := by simp [blk_cell HQ.out]
      have f0 := blk_frozen HQ.out 0
      have f1 := blk_frozen HQ.out 1
      have s0 : ∀ x, (wr.setCell ⟨w.heap.size + 1, 0, none⟩ x).cell? ⟨w.heap.size + 1, 0, none⟩ = some x := fun x => World.cell?_setCell_same _ _ _ p0
      have s1 : ∀ x y, ((wr.setCell ⟨w.heap.size + 1, 0, none⟩ x).setCell ⟨w.heap.size + 1, 1, none⟩ y).cell? ⟨w.heap.size + 1, 1, none⟩ = some y := fun x y => World.cell?_setCell_same _ _ _ (by rw [World.cell?_setCell_other _ _ _ _ (by simp)]; exact p1)
      have HVF := Aside0.mk (show Vst w0 ((wr.setCell ⟨w.heap.size + 1, 0, none⟩ (.slice As (lessL K r).vec.length cs)).setCell ⟨w.heap.size + 1, 1, none⟩ (.string (lessL K r).data)) (.slice As (lessL K r).vec.length cs) (lessL K r).vec from by
        have hq := blk_set HQ.out 0 (.slice As (lessL K r).vec.length cs)
        exact (HV.out.set HQ.out (by decide) _).set hq (by decide) _)
      have HBF := Aside0.mk ((HB.out.setCell (p := ⟨w.heap.size + 1, 0, none⟩) (Nat.le_succ _) (.slice As (lessL K r).vec.length cs)).setCell (p := ⟨w.heap.size + 1, 1, none⟩) (Nat.le_succ _) (.string (lessL K r).data))
      go_wp2
      refine bodyPost_ret (v := .agg #[.slice As (lessL K r).vec.length cs, .string (lessL K r).data]) (by simp [results, Tryd.results45, go_sem, s0, s1]) rfl ⟨_, rfl, HVF.out, HBF.out⟩

end Go.Proofs.YtnfabflkajpkfaaDoor.Less
