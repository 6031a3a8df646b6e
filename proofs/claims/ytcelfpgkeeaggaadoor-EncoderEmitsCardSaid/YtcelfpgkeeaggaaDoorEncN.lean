/- The walk of the law EncoderEmits. -/
import Derived.Test.YtcelfpgkeeaggaaDoorEncM
namespace Go.Proofs.YtcelfpgkeeaggaaDoor.EncN
open Go Go.RowKit Go.Proofs.YtcelfpgkeeaggaaDoorW.PrintWords Go.Proofs.YtcelfpgkeeaggaaDoor.Base Go.Proofs.YtcelfpgkeeaggaaDoor.Bits Go.Proofs.YtcelfpgkeeaggaaDoor.WordsS Go.Proofs.YtcelfpgkeeaggaaDoor.Split Go.Proofs.YtcelfpgkeeaggaaDoor.SplitB Go.Proofs.YtcelfpgkeeaggaaDoor.SplitL Go.Proofs.YtcelfpgkeeaggaaDoor.Soliton Go.Proofs.YtcelfpgkeeaggaaDoor.Draws Go.Proofs.YtcelfpgkeeaggaaDoor.DrawsP Go.Proofs.YtcelfpgkeeaggaaDoor.Enc Go.Proofs.YtcelfpgkeeaggaaDoor.EncE Go.Proofs.YtcelfpgkeeaggaaDoor.EncR Go.Proofs.YtcelfpgkeeaggaaDoor.EncW Go.Proofs.YtcelfpgkeeaggaaDoor.EncL Go.Proofs.YtcelfpgkeeaggaaDoor.Pkt Go.Proofs.YtcelfpgkeeaggaaDoor.Open
set_option linter.unusedVariables false
set_option linter.unusedSimpArgs false

theorem argRel_some {h b n b' h' : Nat} (H : EncE.ArgRel (.pointer (some ⟨h, 0, none⟩)) b h n b' h') : b' = b ∧ h' = h := by
  rcases H with ⟨_, e1, e2⟩ | ⟨e, _⟩
  · exact ⟨e1, e2⟩
  · cases e
theorem emitV_len (l : List UInt64) (N K sp : Nat) (hK : K ≤ 128) : (emitV l N K sp).length ≤ 8796093022208 := by rw [emitV, setsN_length, List.length_replicate]; unfold sizeN; omega

set_option maxHeartbeats 4000000 in
theorem EncoderEmits (id size spread n : Int) (s : ByteArray) (A : Option Addr) (c : Nat) (l : List UInt64) (w : World) (hC : Kw.C w A l.length l) (hsp : ∀ ad, A = some ad → ad.spot = none) (hD : DigOk w) (hs : s.size ≤ 9223372036854775807) (hi0 : -9223372036854775808 ≤ id) (hi1 : id ≤ 9223372036854775807) (hs0 : -9223372036854775808 ≤ size) (hs1 : size ≤ 9223372036854775807) (hp0 : -9223372036854775808 ≤ spread) (hp1 : spread ≤ 9223372036854775807) (hn0 : -9223372036854775808 ≤ n) (hn1 : n ≤ 9223372036854775807) :
    Calls Tryd.prog 6 #[.agg #[.int .i64 id, .int .i64 size, .int .i64 spread, .string s], .slice A l.length c, .int .i64 n] w fun e w' => e = .returned (.bool true) ∧ Below w.heap.size w w' := by
  have HD := Aside0.mk hD
  have hm := C_max hC
  have HC := Aside0.mk hC
  clear hD hC
  by_cases hq : 300 < l.length ∨ 20 < n
  · have haw := fun W hb => awake_any W (HD.out.below hb)
    have HB0 := Aside0.mk (fun o => (Below.refl w.heap.size w).alloc (Nat.le_refl _) o)
    by_cases hq1 : 300 < l.length
    · clear hq
      go_enter Tryd.func6, Tryd.ntmps6
      go_wp2_with fail
      refine (haw _ (HB0.out _)).mono ?_
      rintro e w1 ⟨rfl, hB1⟩
      have HB1 := Aside0.mk (bthn (HB0.out _) (Nat.le_refl _) hB1)
      clear hB1
      go_wp2
      go_ret
      exact ⟨rfl, HB1.out⟩
    · have hq2 : 20 < n := by omega
      clear hq
      go_enter Tryd.func6, Tryd.ntmps6
      go_wp2_with fail
      refine (haw _ (HB0.out _)).mono ?_
      rintro e w1 ⟨rfl, hB1⟩
      have HB1 := Aside0.mk (bthn (HB0.out _) (Nat.le_refl _) hB1)
      clear hB1
      go_wp2
      go_ret
      exact ⟨rfl, HB1.out⟩
  · have hq1 : ¬ 300 < l.length := by omega
    have hq2 : ¬ 20 < n := by omega
    clear hq
    by_cases hE : errN id s.size size spread = 0
    · obtain ⟨h1, h2, h3, h4⟩ := made_ok hE
      obtain ⟨n0, n1, n2, n3⟩ := errP_zero h4
      obtain ⟨z, rfl⟩ := Int.eq_ofNat_of_zero_le (show 0 ≤ size by omega)
      obtain ⟨k1, k2⟩ := planP_range h4
      obtain ⟨K, hK⟩ := Int.eq_ofNat_of_zero_le (show 0 ≤ planP s.size z by omega)
      rw [hK] at k1 k2
      obtain ⟨sp, hspr⟩ := Int.eq_ofNat_of_zero_le (show 0 ≤ min spread (K : Int) by omega)
      have hn := fun W hD => New_ok id s spread z K sp W hD h1 h2 h3 hp1 (by omega) (by omega) (by omega) (by omega) (by omega) hK h4 hspr
      have hr := fun W => refNew_ok id s spread z K sp W h1 h2 h3 hp1 (by omega) (by omega) (by omega) (by omega) (by omega) hK h4 hspr
      have hsK : sp ≤ K := by omega
      clear hE hK hspr h4
      go_enter Tryd.func6, Tryd.ntmps6
      go_wp2_with fail
      generalize hW0 : w.alloc _ = W0
      have HB0 := Aside0.mk (show Below w.heap.size w W0 by rw [← hW0]; exact (Below.refl _ _).alloc (Nat.le_refl _) _)
      have HX0 := Aside0.mk (show W0.heap[w.heap.size]? = some (.cells #[.int .i64 id, .int .i64 z, .int .i64 spread, .string s] 23 (0, 0)) by rw [← hW0]; exact heap_alloc_new _ _)
      have hz0 : w.heap.size < W0.heap.size := by rw [← hW0]; simp
      clear hW0
      refine (hn W0 (HD.out.below HB0.out)).mono ?_
      rintro e w1 ⟨bs, g, rfl, hbs, hS, hB1⟩
      have hx1 := (hB1.block _ hz0).trans HX0.out
      have x0 := blk_cell hx1 0
      have x1 := blk_cell hx1 1
      have x2 := blk_cell hx1 2
      have x3 := blk_cell hx1 3
      simp at x0 x1 x2 x3
      have HS1 := Aside0.mk hS
      have HB1 := Aside0.mk (bthn HB0.out (Nat.le_refl _) hB1)
      clear hS hB1 hn hx1 HB0 HX0
      go_wp2_with fail
      refine (hr w1).mono ?_
      rintro e w2 ⟨ga, c2, rfl, hC2, hB2⟩
      have HS2 := Aside0.mk (HS1.out.below hB2)
      have HB2 := Aside0.mk (bthn HB1.out (Nat.le_refl _) hB2)
      have HC2 := Aside0.mk hC2
      clear hC2 hB2 hr x0 x1 x2 x3 HS1 HB1
      unfold sC
      go_wp2_with fail
      generalize hW3 : w2.alloc _ = W3
      obtain ⟨q, hq⟩ : ∃ q, q = w2.heap.size := ⟨_, rfl⟩
      have HB3 := Aside0.mk (show Below w2.heap.size w2 W3 by rw [← hW3]; exact (Below.refl _ _).alloc (Nat.le_refl _) _)
      have HQ3 := Aside0.mk (show W3.heap[q]? = some (.cells (sC id s.size z sp (.slice (some ⟨ga, 0, none⟩) K c2)) 30 (0, 0)) by rw [← hW3, hq]; exact heap_alloc_new _ _)
      have hz3 : q < W3.heap.size := by rw [← hW3, hq]; simp
      have hqw1 : q ≤ w2.heap.size := Nat.le_of_eq hq
      have hqw2 : w2.heap.size ≤ q := Nat.le_of_eq hq.symm
      rw [← hq]
      clear hW3 hq
      have hnew := DrawsD.New_any A c l W3 (Kd.C_below HC.out (bthn HB2.out (Nat.le_refl _) HB3.out)) hsp (by omega)
      refine hnew.mono ?_
      rintro e w4 ⟨b, h, rfl, hbb, hD4, hB4⟩
      have hbg := hD4.bg
      have hhl := hD4.lt
      have HBw := Aside0.mk (bthn (bthn HB2.out (Nat.le_refl _) HB3.out) (Nat.le_refl _) hB4)
      have hz24 := HB2.out.size
      have hz34 := hB4.size
      have hz23 := HB3.out.size
      have hgl := HS2.out.lt
      have hsb := HS2.out.ble
      have HE5 : Aside0 (Drw (w4.alloc (.cells #[.slice A l.length c, .int .i64 0] 53)) w.heap.size w4.heap.size 53 l 0) := ⟨w, A, c, rfl, HC.out, HBw.out.size, HBw.out.alloc HBw.out.size _, heap_alloc_new _ _⟩
      have HD5 : Aside0 (Drw (w4.alloc (.cells #[.slice A l.length c, .int .i64 0] 53)) b h 76 l 0) := ⟨hD4.below ((Below.refl _ _).alloc (Nat.le_refl _) _)⟩
      have HB5 : Aside0 (Below w2.heap.size w2 (w4.alloc (.cells #[.slice A l.length c, .int .i64 0] 53))) := ⟨(bthn HB3.out (Nat.le_refl _) hB4).alloc (by omega) _⟩
      have HQ5 : Aside0 ((w4.alloc (.cells #[.slice A l.length c, .int .i64 0] 53)).heap[q]? = some (.cells (sC id s.size z sp (.slice (some ⟨ga, 0, none⟩) K c2)) 30 (0, 0))) := ⟨hp_old ((hB4.block q hz3).trans HQ3.out) _⟩
      have HS5 : Aside0 (SrcE (w4.alloc (.cells #[.slice A l.length c, .int .i64 0] 53)) bs g id s z K sp) := ⟨HS2.out.below HB5.out⟩
      clear hD4 hB4 hnew HQ3
      go_wp2_with fail
      have hz5 : w4.heap.size < (w4.alloc (.cells #[.slice A l.length c, .int .i64 0] 53)).heap.size := by simp
      generalize w4.alloc _ = W5 at *
      obtain ⟨p, hp⟩ : ∃ p, p = w4.heap.size := ⟨_, rfl⟩
      rw [← hp] at HE5 hz5 hhl ⊢
      have hpz : w4.heap.size ≤ p := Nat.le_of_eq hp.symm
      clear hp
      go_loopw [13] (fun i wr => ∃ k N : Nat, k ≤ 20 ∧ N ≤ 129 * k ∧ i = .int .i64 k ∧ Aside0 (Drw wr b h 76 l N) ∧ Aside0 (Drw wr w.heap.size p 53 l N) ∧ Aside0 (SrcE wr bs g id s z K sp) ∧ Aside0 (wr.heap[q]? = some (.cells (sC id s.size z sp (.slice (some ⟨ga, 0, none⟩) K c2)) 30 (0, 0))) ∧ Aside0 (Below w2.heap.size w2 wr)) (fun i _ => 21 - (intOf i).toNat)
      case atStart => exact ⟨0, 0, Nat.zero_le _, Nat.zero_le _, rfl, HD5, HE5, HS5, HQ5, HB5⟩
      case round =>
        obtain ⟨k, N, hk, hN, rfl, HDk, HEk, HSk, HQk, HGk⟩ := hrel
        by_cases hlt : (k : Int) < n
        · have hkk : k < 20 := by omega
          obtain ⟨V, hV⟩ : ∃ V, V = emitV l N K sp := ⟨_, rfl⟩
          obtain ⟨X, hX⟩ : ∃ X, X = ofS (blocksN s z K) V := ⟨_, rfl⟩
          obtain ⟨M, hM⟩ : ∃ M, M = N + 1 + cntE l N K sp := ⟨_, rfl⟩
          have hMN : M ≤ N + 129 := by have := cntE_le l N K sp; omega
          have hem := Emit_core (.pointer (some ⟨h, 0, none⟩)) bs g b h id s z K sp l N wr.drew (HSk.out.drewN 1) (.inl ⟨rfl, HDk.out.drewN 1, by omega, by omega⟩) (by omega) (by omega) (by omega) hsK (by omega)
          have hre := fun W hB hDr => refEmit_any w.heap.size p id s z K sp ga c2 l N w2 W HC2.out hB (by omega) hDr (by omega) (by omega) (by omega) hsK (by omega)
          have hVl := emitV_len l N K sp (by omega)
          rw [← hV, ← hX, ← hM] at hem
          rw [← hV, ← hX, ← hM] at hre
          rw [← hV] at hVl
          have hsm := fun W A B ca cb hA hB => Same_same id s.size K z 0 A B ca cb V V X W hA hB hVl hVl (sameW_refl V)
          unfold pkC at hem hre hsm
          have HSM := Aside0.mk hsm
          have HRE := Aside0.mk hre
          have hwz := HGk.out.size
          have hwp := HEk.out.lt
          have hwh := HDk.out.lt
          have y0 : wr.cell? ⟨q, 0, none⟩ = some (.int .i64 id) := by rw [cell_of_row _ _ 0 _ _ _ HQk.out]; rfl
          have y1 : wr.cell? ⟨q, 1, none⟩ = some (.int .i64 s.size) := by rw [cell_of_row _ _ 1 _ _ _ HQk.out]; rfl
          have y2 : wr.cell? ⟨q, 2, none⟩ = some (.int .i64 z) := by rw [cell_of_row _ _ 2 _ _ _ HQk.out]; rfl
          have y3 : wr.cell? ⟨q, 3, none⟩ = some (.int .i64 sp) := by rw [cell_of_row _ _ 3 _ _ _ HQk.out]; rfl
          have y4 : wr.cell? ⟨q, 4, none⟩ = some (.slice (some ⟨ga, 0, none⟩) K c2) := by rw [cell_of_row _ _ 4 _ _ _ HQk.out]; rfl
          have HY := Aside0.mk (show wr.drew.cell? ⟨q, 0, none⟩ = some (.int .i64 id) ∧ wr.drew.cell? ⟨q, 1, none⟩ = some (.int .i64 s.size) ∧ wr.drew.cell? ⟨q, 2, none⟩ = some (.int .i64 z) ∧ wr.drew.cell? ⟨q, 3, none⟩ = some (.int .i64 sp) ∧ wr.drew.cell? ⟨q, 4, none⟩ = some (.slice (some ⟨ga, 0, none⟩) K c2) from ⟨y0, y1, y2, y3, y4⟩)
          have HNE := Aside0.mk (show some q ≠ some h ∧ some q ≠ some p from ⟨fun e => by injection e; omega, fun e => by injection e; omega⟩)
          have hnm : ((M : Int) != (M : Int)) = false := bne_eq_false_iff_eq.2 rfl
          have hub := fun W hDr => Used_any b h 76 l M W hDr
          have HUB := Aside0.mk hub
          clear hsm hre hV hX hM hub
          go_upto_region 11 with fail
          go_region_law (first
              | (go_simp; go_at_call 13; go_must (refine hem.mono ?_; rintro e w3 ⟨v3, b', h', rfl, hO3, hD3, hG3, hA3⟩; obtain ⟨rfl, rfl⟩ := argRel_some hA3; obtain ⟨A3, c3, rfl, _, hC3⟩ := hO3.Cw); have z0 := cell_apart hG3 HY.out.1 HNE.out.1; have z1 := cell_apart hG3 HY.out.2.1 HNE.out.1; have z2 := cell_apart hG3 HY.out.2.2.1 HNE.out.1; have z3 := cell_apart hG3 HY.out.2.2.2.1 HNE.out.1; have z4 := cell_apart hG3 HY.out.2.2.2.2 HNE.out.1)
              | (go_simp; go_at_call 18; refine (HRE.out _ ((HGk.out.drew).grown hG3 (by simpa using hwz) (fun k hk => by cases hk; omega)) ((HEk.out.drewN 1).other (fun k hk => by cases hk; omega) hG3)).mono ?_; rintro e w6 ⟨v6, rfl, hO6, hE6, hG6⟩; obtain ⟨A6, c6, rfl, _, hC6⟩ := hO6.Cw; have hO36 := hO3.grown hG6 (hO3.ne_small hwp); obtain ⟨A36, c36, hv36, _, hC36⟩ := hO36.Cw; cases hv36)
              | (go_simp; go_at_call 17; refine (HSM.out _ _ _ _ _ hC36 hC6).mono ?_; rintro e w7 ⟨rfl, hB7⟩; have hE7 := hE6.below hB7; obtain ⟨_, _, _, _, _, _, _, hq7⟩ := hE7; have k1 := blk_cell hq7 1; simp at k1)
              | (go_simp; go_at_call 19; refine (HUB.out _ ((hD3.other (fun k hk => by cases hk; omega) hG6).below hB7)).mono ?_; rintro e w8 ⟨rfl, rfl⟩))
          all_goals
            have HD9 := Aside0.mk ((hD3.other (row := some p) (fun k hk => by cases hk; omega) hG6).below hB7)
            have HE9 := Aside0.mk (hE6.below hB7)
            have HS9 := Aside0.mk ((((HSk.out.drewN 1).other (fun k hk => by cases hk; omega) hG3).other (fun k hk => by cases hk; omega) hG6).below hB7)
            have HQ9 := Aside0.mk ((hB7.block q (by have := hG3.size; have := hG6.size; simp at *; omega)).trans ((hG6.block q (by have := hG3.size; simp at *; omega) HNE.out.2).trans ((hG3.block q (by simp; omega) HNE.out.1).trans HQk.out)))
            have HB9 := Aside0.mk (bthn (((HGk.out.drew).grown hG3 (by simpa using hwz) (fun k hk => by cases hk; omega)).grown hG6 (by have := hG3.size; simp at *; omega) (fun k hk => by cases hk; omega)) (Nat.le_refl _) hB7)
            clear hO3 hD3 hG3 hA3 hC3 hO6 hE6 hG6 hC6 hO36 hC36 hB7
            go_wp2
            go_roundw
            case rel => exact ⟨k + 1, M, by omega, by omega, by go_num, HD9, HE9, HS9, HQ9, HB9⟩
            case measure => simp [intOf]; omega
        · have hB := bthn HB2.out (Nat.le_refl _) HGk.out
          have HB := Aside0.mk hB
          clear hB
          go_wp2_with fail
          refine (awake_any _ (HD.out.below HB.out)).mono ?_
          rintro e w4 ⟨rfl, hB4⟩
          have HB4 := Aside0.mk (bthn HB.out (Nat.le_refl _) hB4)
          clear hB4
          go_wp2
          go_ret
          exact ⟨rfl, HB4.out⟩
    · obtain ⟨E, hEE⟩ : ∃ E, errN id s.size size spread = E := ⟨_, rfl⟩
      have hn := fun W => New_no id s size spread W hs hi0 hi1 hs0 hs1 hp0 hp1 hE
      have hr := fun W => refNew_no id s size spread W hs hi0 hi1 hs0 hs1 hp0 hp1 hE
      rw [hEE] at hn hr hE
      have hb1 : (E != 0) = true := bne_iff_ne.2 hE
      have hb2 : decide (E = 0) = false := decide_eq_false hE
      clear hEE
      go_enter Tryd.func6, Tryd.ntmps6
      go_wp2_with fail
      generalize hW0 : w.alloc _ = W0
      have HB0 := Aside0.mk (show Below w.heap.size w W0 by rw [← hW0]; exact (Below.refl _ _).alloc (Nat.le_refl _) _)
      have hx0 := (show W0.heap[w.heap.size]? = some (.cells #[.int .i64 id, .int .i64 size, .int .i64 spread, .string s] 23 (0, 0)) by rw [← hW0]; exact heap_alloc_new _ _)
      have x0 := blk_cell hx0 0
      have x1 := blk_cell hx0 1
      have x2 := blk_cell hx0 2
      have x3 := blk_cell hx0 3
      simp at x0 x1 x2 x3
      clear hW0 hx0
      refine (hn W0).mono ?_
      rintro e w1 ⟨rfl, rfl⟩
      go_wp2_with fail
      refine (hr W0).mono ?_
      rintro e w2 ⟨rfl, hB2⟩
      have HB2 := Aside0.mk (bthn HB0.out (Nat.le_refl _) hB2)
      clear hB2 hr hn x0 x1 x2 x3 HB0
      unfold sC
      go_wp2_with fail
      generalize hW3 : w2.alloc _ = W3
      have HB3 := Aside0.mk (bthn HB2.out (Nat.le_refl _) (show Below w2.heap.size w2 W3 by rw [← hW3]; exact (Below.refl _ _).alloc (Nat.le_refl _) _))
      clear hW3
      refine (awake_any _ (HD.out.below HB3.out)).mono ?_
      rintro e w4 ⟨rfl, hB4⟩
      have HB4 := Aside0.mk (bthn HB3.out (Nat.le_refl _) hB4)
      clear hB4
      go_wp2
      go_ret
      exact ⟨rfl, HB4.out⟩

end Go.Proofs.YtcelfpgkeeaggaaDoor.EncN
