/- The walk of the law DrawsAlike. -/
import Derived.Test.YtfmllhagdcjemabDrawsW
namespace Go.Proofs.Ytfmllhagdcjemab.DrawsT
open Go Go.RowKit Go.Proofs.YtfmllhagdcjemabW.PrintWords Go.Proofs.Ytfmllhagdcjemab.Base Go.Proofs.Ytfmllhagdcjemab.Draws Go.Proofs.Ytfmllhagdcjemab.DrawsP Go.Proofs.Ytfmllhagdcjemab.DrawsD Go.Proofs.Ytfmllhagdcjemab.DrawsE Go.Proofs.Ytfmllhagdcjemab.DrawsF Go.Proofs.Ytfmllhagdcjemab.DrawsW
set_option linter.unusedVariables false
set_option linter.unusedSimpArgs false

theorem C_mkW {w : World} {ad : Addr} {xs : List UInt64} (h : ∀ j (hj : j < xs.length), w.cell? (ad.add j) = some (.int .u64 ((xs[j]).toNat : Int))) (hm : xs.length ≤ 9223372036854775807) : Kw.C w (some ad) xs.length xs := by
  refine ⟨rfl, hm, fun hn => ⟨ad, rfl, fun j p hj => ⟨[encW p], rfl, rfl, fun i u hu => ?_⟩⟩⟩
  obtain ⟨hj', rfl⟩ := List.getElem?_eq_some_iff.1 hj
  cases i with
  | zero =>
    have hu' : encW xs[j] = u := by simpa using hu
    show w.cell? (ad.add (j * 1 + 0)) = _
    rw [Nat.mul_one, Nat.add_zero, h j hj', ← hu']; rfl
  | succ i => simp at hu
theorem add_block (ad : Addr) (j : Nat) : (ad.add j).block = ad.block := by unfold Addr.add; split <;> rfl
/-- what is written to other draws' block leaves these draws, wherever that block lies: a row of draws has no cell that a block of draws has -/
theorem rebase {w w' : World} {b g b1 g1 : Nat} {T T1 : TypeId} {l l1 : List UInt64} {N N1 : Nat} (h : Drw w b g T l N) (h1 : Drw w b1 g1 T1 l1 N1) (hne : g ≠ g1) (hw : w.grownBy w' (some g1)) : Drw w' b g T l N := by
  have hlt := h.lt
  have hble := h.ble
  have hlen := h.len
  obtain ⟨wc, A, c, e1, e2, e3, e4, e5⟩ := h
  obtain ⟨_, A1, c1, _, _, _, _, k5⟩ := h1
  have hsz : b ≤ w'.heap.size := Nat.le_trans hble hw.size
  have hext : ∀ k, k < b → (w'.heap.extract 0 b)[k]? = w'.heap[k]? := by
    intro k hk
    rw [Array.getElem?_extract]
    simp
    omega
  refine ⟨{ w' with heap := w'.heap.extract 0 b }, A, c, by simp; omega, ?_, e3, ⟨rfl, rfl, rfl, by simp; omega, fun k hk => (hext k hk).symm⟩, (hw.block g hlt (fun e => hne (by injection e))).trans e5⟩
  rcases Nat.eq_zero_or_pos l.length with h0 | hpos
  · refine ⟨rfl, hlen, fun hn => absurd hn (by omega)⟩
  · obtain ⟨ad, rfl, _⟩ := at_w e2 0 hpos
    refine C_mkW (fun j hj => ?_) hlen
    obtain ⟨ad', he, hcell⟩ := at_w e2 j hj
    cases he
    have hblk : (ad.add j).block < b := by
      rcases Nat.lt_or_ge (ad.add j).block wc.heap.size with h | h
      · omega
      · rw [World.cell?, Array.getElem?_eq_none h] at hcell; cases hcell
    have hcw : w.cell? (ad.add j) = some (.int .u64 ((l[j]).toNat : Int)) := (e4.cell hblk).trans hcell
    have hg1 : (ad.add j).block ≠ g1 := by
      intro e
      have hsp := World.cell?_spot hcw
      generalize ad.add j = q at hcw e hsp
      obtain ⟨bk, off, sp⟩ := q
      have e' : bk = g1 := e
      have hs' : sp = none := hsp
      subst e' hs'
      rw [cell_of_row w _ off _ _ _ k5] at hcw
      rcases off with _ | _ | off
      · simp at hcw
      · simp at hcw
      · simp at hcw
    have hcw' := hw.cell hcw (fun e => hg1 (by injection e))
    rw [← hcw']
    unfold World.cell?
    rw [hext _ hblk]

theorem next_left (l m : List UInt64) (k : Nat) (h : k < l.length) : ((nextV (l ++ m) k).toNat : Int) = ((l[k]).toNat : Int) := by
  rw [nextV_in (l ++ m) k (by simp; omega), List.getElem_append_left h]
theorem next_right (l m : List UInt64) (k : Nat) (h : k < m.length) : ((nextV (l ++ m) (l.length + k)).toNat : Int) = ((m[k]).toNat : Int) := by
  rw [nextV_in (l ++ m) (l.length + k) (by simp; omega), List.getElem_append_right (by omega)]
  simp
theorem encV {v : UInt64} {V : Int} (h : (v.toNat : Int) = V) : encW v = .int .u64 V := by rw [← h]; rfl
theorem below_grown2 {B g : Nat} {w w1 w2 : World} (h : Below B w w1) (hB : B ≤ w1.heap.size) (hg : w1.grownBy w2 (some g)) (hbg : B ≤ g) : Below B w w2 := h.grown hg hB (fun k hk => by cases hk; exact hbg)
theorem map_toNat_append (l m : List UInt64) : (l.map fun x => (x.toNat : Int)) ++ (m.map fun x => (x.toNat : Int)) = (l ++ m).map fun x => (x.toNat : Int) := by simp

set_option maxHeartbeats 1600000 in
theorem DrawsAlike (A B : Option Addr) (c cb : Nat) (l m : List UInt64) (w : World) (hC : Kw.C w A l.length l) (hB : Kw.C w B m.length m) (hsp : ∀ ad, A = some ad → ad.spot = none) :
    Calls Try.prog 6 #[.slice A l.length c, .slice B m.length cb] w fun e w' => e = .returned (.bool true) ∧ Below w.heap.size w w' := by
  have hm := C_max hC
  have hm2 := C_max hB
  by_cases h3 : 300 < l.length
  · go_enter Try.func6, Try.ntmps6
    go_wp2_with fail
    refine (awake_any w).mono ?_
    rintro e w2 ⟨rfl, hb⟩
    go_wp2
    go_ret
    exact ⟨rfl, hb⟩
  · by_cases h5 : 300 < m.length
    · go_enter Try.func6, Try.ntmps6
      go_wp2_with fail
      refine (awake_any w).mono ?_
      rintro e w2 ⟨rfl, hb⟩
      go_wp2
      go_ret
      exact ⟨rfl, hb⟩
    · have hnew := New_any A c l w hC hsp (by omega)
      have HC := Aside0.mk hC
      have HBk := Aside0.mk hB
      clear hC hB
      go_enter Try.func6, Try.ntmps6
      go_wp2_with fail
      refine hnew.mono ?_
      rintro e w2 ⟨b, g, rfl, hbb, hD, hb2⟩
      have hbg := hD.bg
      have hgl := hD.lt
      have HD2 := Aside0.mk hD
      have HB2 := Aside0.mk hb2
      have HC2 := Aside0.mk (readsW (Kd.C_below HC.out hb2))
      clear hD hb2 hnew
      go_wp2_with (first
        | (at_builtin; (refine print_append_row (w0 := w2) w2.heap.size rfl (.const (.slice none 0 0)) (.tmp 21) 22 37 .u64 8 rfl Try.underlying22 info_u64 (by decide) (.slice none 0 0) [] (l.map fun x => (x.toNat : Int)) A l.length c rfl rfl (World.ownsRow_nil _ _ _ _) HC2.out (Below.refl _ _) (Nat.le_refl _) (by simp only [List.length_nil]; omega) ?_; intro v3 w3 ho3 hb3 _ _))
        | (at_builtin; (refine print_append_row (w0 := w2) w2.heap.size rfl (.tmp 22) (.tmp 23) 22 37 .u64 8 rfl Try.underlying22 info_u64 (by decide) v3 (l.map fun x => (x.toNat : Int)) (m.map fun x => (x.toNat : Int)) B m.length cb rfl rfl (by simpa using ho3) (readsW (Kd.C_below HBk.out (bthn HB2.out (Nat.le_refl _) hb3))) hb3 hb3.size (by simp only [List.length_map]; omega) ?_; intro v4 w4 ho4 hb4 _ _)))
      rw [map_toNat_append, numsW] at ho4
      have hO4 : Own w4 w2.heap.size 37 v4 ((l ++ m).map encW) := Own.of_row ho4
      have hsp4 : ∀ ad n c, v4 = .slice (some ad) n c → ad.spot = none := by
        intro ad n c hv
        rcases hO4 with ⟨h, _⟩ | ⟨g', cap', cur', fr', h, _⟩
        · rw [h] at hv; cases hv
        · rw [h] at hv; cases hv; rfl
      obtain ⟨A4, c4, rfl, _, hC4⟩ := hO4.Cw
      have hnew := New_any A4 c4 (l ++ m) w4 hC4 (fun ad h => hsp4 ad _ _ (by rw [h])) (by simp; omega)
      have hb24 : Below w2.heap.size w2 w4 := hb4
      have HD4 := Aside0.mk (HD2.out.below hb24)
      have HB4 := Aside0.mk (bthn HB2.out (Nat.le_refl _) hb24)
      have hs24 := hb24.size
      clear ho3 hb3 ho4 hb4 hb24 hO4 hsp4 hC4 HC2 HD2
      refine hnew.mono ?_
      rintro e w5 ⟨b2, g2, rfl, hbb2, hE, hb5⟩
      have hbg2 := hE.bg
      have HE5 := Aside0.mk hE
      have HD5 := Aside0.mk (HD4.out.below hb5)
      have HB5 := Aside0.mk (bthn HB4.out (Nat.le_refl _) hb5)
      have hgg : g < g2 := by omega
      have hw4 := HB4.out.size
      clear hE hb5 hnew HD4
      go_wp2_with fail
      go_loopw [7] (fun i wr => ∃ k : Nat, k ≤ l.length ∧ i = .int .i64 k ∧ Aside0 (Drw wr b g 48 l k) ∧ Aside0 (Drw wr b2 g2 48 (l ++ m) k) ∧ Aside0 (Below w.heap.size w wr)) (fun i _ => l.length - (intOf i).toNat)
      case atStart => exact ⟨0, Nat.zero_le _, rfl, HD5, HE5, HB5⟩
      case round =>
        obtain ⟨k, hk, rfl, HD, HE, HG⟩ := hrel
        by_cases hlt : k < l.length
        · have hn1 := Next_any b g _ l k wr HD.out (by omega)
          have hn2 := fun w' (hE : Drw w' b2 g2 48 (l ++ m) k) => Next_any b2 g2 _ (l ++ m) k w' hE (by omega)
          rw [encV (show ((nextV l k).toNat : Int) = ((l[k]).toNat : Int) by rw [nextV_in l k hlt])] at hn1
          rw [encV (next_left l m k hlt)] at hn2
          obtain ⟨ad, hA, _⟩ := at_w HC.out k hlt
          have HCA := Aside0.mk (fun w' (hb : Below w.heap.size w w') => at_w (Kd.C_below HC.out hb) k hlt)
          generalize ((l[k]).toNat : Int) = V at hn1 hn2 HCA
          go_wp2_with fail
          refine hn1.mono ?_
          rintro e w6 ⟨rfl, hD6, hG6⟩
          have HE6 := Aside0.mk (rebase HE.out HD.out (by omega) hG6)
          have HD6 := Aside0.mk hD6
          have HB6 := Aside0.mk (below_grown2 HG.out HG.out.size hG6 (Nat.le_trans hbb hbg))
          obtain ⟨ad', hA', hcell⟩ := HCA.out w6 HB6.out
          subst hA
          cases hA'
          have hvv : (V != V) = false := bne_eq_false_iff_eq.2 rfl
          clear hD6 hG6 hn1
          go_wp2_with fail
          refine (hn2 w6 HE6.out).mono ?_
          rintro e w7 ⟨rfl, hE7, hG7⟩
          have HE7 := Aside0.mk hE7
          have HD7 := Aside0.mk (HD6.out.grown (by omega) (by omega) hG7)
          have HB7 := Aside0.mk (below_grown2 HB6.out HB6.out.size hG7 (by omega))
          clear hE7 hG7 hn2 hcell
          go_wp2
          go_roundw
          case rel => exact ⟨k + 1, by omega, by go_num, HD7, HE7, HB7⟩
          case measure => simp [intOf]; omega
        · obtain rfl : k = l.length := by omega
          go_wp2
          go_loopw [9] (fun i wr => ∃ k : Nat, k ≤ m.length ∧ i = .int .i64 k ∧ Aside0 (Drw wr b g 48 l l.length) ∧ Aside0 (Drw wr b2 g2 48 (l ++ m) (l.length + k)) ∧ Aside0 (Below w.heap.size w wr)) (fun i _ => m.length - (intOf i).toNat)
          case atStart => exact ⟨0, Nat.zero_le _, rfl, HD, HE, HG⟩
          case round =>
            obtain ⟨k, hk, rfl, HD, HE, HG⟩ := hrel
            by_cases hlt : k < m.length
            · have hn2 := Next_any b2 g2 _ (l ++ m) (l.length + k) wr.drew (HE.out.drewN 1) (by omega)
              rw [encV (next_right l m k hlt)] at hn2
              obtain ⟨ad, rfl, hcell⟩ := at_w (Kd.C_below HBk.out HG.out) k hlt
              have HCA := Aside0.mk (fun w' (hb : Below w.heap.size w w') => at_w (Kd.C_below HBk.out hb) k hlt)
              generalize ((m[k]).toNat : Int) = V at hn2 HCA hcell
              have hvv : (V != V) = false := bne_eq_false_iff_eq.2 rfl
              go_wp2_with fail
              go_region_law (first
                | (go_simp; go_at_call 16; go_must (refine hn2.mono ?_; rintro e w7 ⟨rfl, hE7, hG7⟩; have HB7 := Aside0.mk (below_grown2 HG.out.drew HG.out.size hG7 (by omega)); obtain ⟨ad', hA', hcell7⟩ := HCA.out w7 HB7.out; cases hA')))
              all_goals go_wp2
              all_goals go_roundw
              all_goals first
                | (case rel => exact ⟨k + 1, by omega, by go_num, ⟨(HD.out.drewN 1).grown (by omega) (by omega) hG7⟩, ⟨hE7⟩, HB7⟩)
                | (simp [intOf]; omega)
            · obtain rfl : k = m.length := by omega
              go_wp2_with fail
              refine (Used_any b g _ l l.length wr HD.out).mono ?_
              rintro e w7 ⟨rfl, rfl⟩
              go_wp2_with fail
              refine (Used_any b2 g2 _ (l ++ m) (l.length + m.length) wr HE.out).mono ?_
              rintro e w7 ⟨rfl, rfl⟩
              have q1 : ((l.length + m.length : Nat) : Int) = (l.length : Int) + (m.length : Int) := by omega
              go_wp2_with fail
              refine (awake_any wr).mono ?_
              rintro e w4 ⟨rfl, hb4⟩
              go_wp2
              go_ret
              exact ⟨rfl, bthn HG.out (Nat.le_refl _) hb4⟩

end Go.Proofs.Ytfmllhagdcjemab.DrawsT
