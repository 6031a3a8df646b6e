/- The walk of the law EncoderUnits. -/
import Derived.Test.YtcelfpgkeeaggaaDoorEncL
namespace Go.Proofs.YtcelfpgkeeaggaaDoor.EncM
open Go Go.RowKit Go.Proofs.YtcelfpgkeeaggaaDoorW.PrintWords Go.Proofs.YtcelfpgkeeaggaaDoor.Base Go.Proofs.YtcelfpgkeeaggaaDoor.Bits Go.Proofs.YtcelfpgkeeaggaaDoor.WordsS Go.Proofs.YtcelfpgkeeaggaaDoor.Split Go.Proofs.YtcelfpgkeeaggaaDoor.SplitB Go.Proofs.YtcelfpgkeeaggaaDoor.SplitL Go.Proofs.YtcelfpgkeeaggaaDoor.Soliton Go.Proofs.YtcelfpgkeeaggaaDoor.Draws Go.Proofs.YtcelfpgkeeaggaaDoor.DrawsP Go.Proofs.YtcelfpgkeeaggaaDoor.Enc Go.Proofs.YtcelfpgkeeaggaaDoor.EncE Go.Proofs.YtcelfpgkeeaggaaDoor.EncR Go.Proofs.YtcelfpgkeeaggaaDoor.EncW Go.Proofs.YtcelfpgkeeaggaaDoor.EncL Go.Proofs.YtcelfpgkeeaggaaDoor.Pkt Go.Proofs.YtcelfpgkeeaggaaDoor.Open
set_option linter.unusedVariables false
set_option linter.unusedSimpArgs false

set_option maxHeartbeats 2000000 in
theorem EncoderUnits (id size spread att : Int) (s : ByteArray) (w : World) (hD : DigOk w) (hs : s.size ≤ 9223372036854775807) (hi0 : -9223372036854775808 ≤ id) (hi1 : id ≤ 9223372036854775807) (hs0 : -9223372036854775808 ≤ size) (hs1 : size ≤ 9223372036854775807) (hp0 : -9223372036854775808 ≤ spread) (hp1 : spread ≤ 9223372036854775807) (ha0 : -9223372036854775808 ≤ att) (ha1 : att ≤ 9223372036854775807) :
    Calls Tryd.prog 4 #[.agg #[.int .i64 id, .int .i64 size, .int .i64 spread, .string s], .int .i64 att] w fun e w' => e = .returned (.bool true) ∧ Below w.heap.size w w' := by
  have HD := Aside0.mk hD
  clear hD
  by_cases hE : errN id s.size size spread = 0
  · obtain ⟨h1, h2, h3, h4⟩ := made_ok hE
    obtain ⟨n0, n1, n2, n3⟩ := errP_zero h4
    obtain ⟨z, rfl⟩ := Int.eq_ofNat_of_zero_le (show 0 ≤ size by omega)
    obtain ⟨k1, k2⟩ := planP_range h4
    obtain ⟨K, hK⟩ := Int.eq_ofNat_of_zero_le (show 0 ≤ planP s.size z by omega)
    rw [hK] at k1 k2
    obtain ⟨sp, hsp⟩ := Int.eq_ofNat_of_zero_le (show 0 ≤ min spread (K : Int) by omega)
    have hn := fun W hD => New_ok id s spread z K sp W hD h1 h2 h3 hp1 (by omega) (by omega) (by omega) (by omega) (by omega) hK h4 hsp
    have hr := fun W => refNew_ok id s spread z K sp W h1 h2 h3 hp1 (by omega) (by omega) (by omega) (by omega) (by omega) hK h4 hsp
    have hsK : sp ≤ K := by omega
    clear hE hK hsp h4
    have hu0 : 0 ≤ IntKind.u64.wrap att := by simp [IntKind.wrap, IntKind.bits, IntKind.signed]; omega
    have hu1 : IntKind.u64.wrap att < 18446744073709551616 := by simp [IntKind.wrap, IntKind.bits, IntKind.signed]; omega
    obtain ⟨i, hmod⟩ := Int.eq_ofNat_of_zero_le (Int.emod_nonneg (IntKind.u64.wrap att) (show (K : Int) ≠ 0 by omega))
    have hmod : IntKind.u64.wrap att % (K : Int) = (i : Int) := hmod
    have hiK : (i : Int) < K := by rw [← hmod]; exact Int.emod_lt_of_pos _ (by omega)
    have hmul : (K : Int) ≤ 18446744073709551615 := by omega
    have hkw : IntKind.u64.wrap (K : Int) = (K : Int) := by simp [IntKind.wrap, IntKind.bits, IntKind.signed]; omega
    go_enter Tryd.func4, Tryd.ntmps4
    go_wp2_with fail
    generalize hW0 : w.alloc _ = W0
    have HB0 := Aside0.mk (show Below w.heap.size w W0 by rw [← hW0]; exact (Below.refl _ _).alloc (Nat.le_refl _) _)
    have HX0 := Aside0.mk (show W0.heap[w.heap.size]? = some (.cells #[.int .i64 id, .int .i64 z, .int .i64 spread, .string s] 23 (0, 0)) by rw [← hW0]; exact heap_alloc_new _ _)
    have hz0 : w.heap.size < W0.heap.size := by rw [← hW0]; simp
    clear hW0
    refine (hn W0 (HD.out.below HB0.out)).mono ?_
    rintro e w1 ⟨bs, g, rfl, hbs, hS, hB1⟩
    have hx1 := (hB1.block _ hz0).trans HX0.out
    have x0 := blk_cell hx1 0
    have x1 := blk_cell hx1 1
    have x2 := blk_cell hx1 2
    have x3 := blk_cell hx1 3
    simp at x0 x1 x2 x3
    have HS1 := Aside0.mk hS
    have HB1 := Aside0.mk (bthn HB0.out (Nat.le_refl _) hB1)
    clear hS hB1 hn hx1 HB0 HX0
    go_wp2_with fail
    refine (hr w1).mono ?_
    rintro e w2 ⟨ga, c, rfl, hC2, hB2⟩
    have HS2 := Aside0.mk (HS1.out.below hB2)
    have HB2 := Aside0.mk (bthn HB1.out (Nat.le_refl _) hB2)
    have HC2 := Aside0.mk hC2
    clear hC2 hB2 hr x0 x1 x2 x3 HS1 HB1
    unfold sC
    go_wp2_with fail
    generalize hW3 : w2.alloc _ = W3
    obtain ⟨q, hq⟩ : ∃ q, q = w2.heap.size := ⟨_, rfl⟩
    have HB3 := Aside0.mk (show Below w2.heap.size w2 W3 by rw [← hW3]; exact (Below.refl _ _).alloc (Nat.le_refl _) _)
    have y4 : W3.cell? ⟨q, 4, none⟩ = some (.slice (some ⟨ga, 0, none⟩) K c) := by rw [← hW3, hq]; simp
    have hz3 : q < W3.heap.size := by rw [← hW3, hq]; simp
    have HZ3 := Aside0.mk (show W3.heap.size = q + 1 by rw [← hW3, hq]; simp)
    rw [← hq]
    clear hW3 hq
    obtain ⟨u, hu⟩ : ∃ u : UInt64, u = UInt64.ofNat i := ⟨_, rfl⟩
    have hui : u.toNat = i := by rw [hu]; exact UInt64.toNat_ofNat_of_lt' (by show i < 18446744073709551616; omega)
    obtain ⟨l, hl⟩ : ∃ l : List UInt64, l = [0, u] := ⟨_, rfl⟩
    have hll : l.length = 2 := by rw [hl]; rfl
    have HL := Aside0.mk hl
    generalize hW : W3.alloc _ = W4
    have HW4 := Aside0.mk (show Below W3.heap.size W3 W4 by rw [← hW]; exact (Below.refl _ _).alloc (Nat.le_refl _) _)
    have hC4 : Kw.C W4 (some ⟨q + 1, 0, none⟩) l.length l := by
      rw [← hW, hl]
      refine C_litW (e := 38) (fr := (0, 0)) [0, u] (hp_new _ _ _ HZ3.out.symm |>.trans ?_) (by simp)
      simp [encW, hui]
    have hnew := DrawsD.New_any (some ⟨q + 1, 0, none⟩) 2 l W4 hC4 (fun ad h => by cases h; rfl) (by omega)
    rw [hll] at hnew
    clear hW hl hC4 hu
    refine hnew.mono ?_
    rintro e w5 ⟨b, h, rfl, hbb, hDr, hB5⟩
    have HDr := Aside0.mk hDr
    have HB5 := Aside0.mk (bthn HW4.out (Nat.le_refl _) hB5)
    have HB25 := Aside0.mk (bthn HB3.out (Nat.le_refl _) HB5.out)
    have HS5 := Aside0.mk (HS2.out.below HB25.out)
    have hgl := HS2.out.lt
    have hsb := HS2.out.ble
    have hbg := hDr.bg
    have hw34 := HW4.out.size
    have hw23 := HB3.out.size
    have hhl := hDr.lt
    clear hDr hB5 hnew
    have hem := Emit_core (.pointer (some ⟨h, 0, none⟩)) bs g b h id s z K sp l 0 w5 HS5.out (.inl ⟨rfl, HDr.out, by omega, by omega⟩) (by decide) (by omega) (by omega) hsK (by omega)
    rw [HL.out, emit_unit u K sp i (by omega) (by omega) hui (by omega), of_unit s z K i (by omega)] at hem
    have hvl : (setW (List.replicate (sizeN K) 0) i true).length ≤ 8796093022208 := by rw [setW_length, List.length_replicate]; unfold sizeN; omega
    have hun := fun W => refUnit_any K i W (by omega) (by omega)
    have hsm := fun W A B ca cb hA hB => Words.refSame_any A B ca cb (setW (List.replicate (sizeN K) 0) i true) (setW (List.replicate (sizeN K) 0) i true) W hA hB hvl hvl
    rw [sameW_refl] at hsm
    have HSM := Aside0.mk hsm
    clear hsm
    generalize setW (List.replicate (sizeN K) 0) i true = V at *
    go_wp2_with fail
    refine hem.mono ?_
    rintro e w6 ⟨v, b', h', rfl, hO6, hD6, hG6, hA6⟩
    have hh : h' = h := by rcases hA6 with ⟨_, _, e⟩ | ⟨e, _⟩; exact e; cases e
    subst hh
    obtain ⟨A6, c6, rfl, _, hC6⟩ := hO6.Cw
    have HC6 := Aside0.mk hC6
    have HB6 := Aside0.mk (below_grown HB2.out (by have := HB2.out.size; omega) (show w2.grownBy w6 (some h') from ((grown_of_below HB25.out _).trans hG6)) (by have := HB2.out.size; omega))
    have hB26 : Below w2.heap.size w2 w6 := below_grown HB25.out HB25.out.size hG6 (by omega)
    have hz6 := hG6.size
    have y46 := cell_apart hG6 (pw_cell_below HB5.out y4) (show some q ≠ some h' from fun e => by injection e; omega)
    have HB26 := Aside0.mk hB26
    clear hO6 hD6 hG6 hA6 hC6 hem y4 hB26
    unfold pkC
    go_upto_region 8 with fail
    generalize hW : w6.alloc _ = W7
    obtain ⟨p, hp⟩ : ∃ p, p = w6.heap.size := ⟨_, rfl⟩
    have hB7 : Below w6.heap.size w6 W7 := by rw [← hW]; exact (Below.refl _ _).alloc (Nat.le_refl _) _
    have p5 : W7.cell? ⟨p, 5, none⟩ = some (.slice A6 V.length c6) := by rw [← hW, hp]; simp
    have p6 : W7.cell? ⟨p, 6, none⟩ = some (.string (blockN s z i)) := by rw [← hW, hp]; simp
    have y47 := pw_cell_below hB7 y46
    have hzp : p < W7.heap.size := by rw [← hW, hp]; simp
    have HB7 := Aside0.mk hB7
    rw [← hp]
    have hCb : Kd.string.C W7 (some ⟨ga, 0, none⟩) (blocksN s z K).length (blocksN s z K) := by rw [blocksN_length]; exact Kd.C_below HC2.out (bthn HB26.out (Nat.le_refl _) hB7)
    obtain ⟨ad, had, hcell⟩ := at_str hCb i (by rw [blocksN_length]; omega)
    cases had
    rw [show (blocksN s z K)[i]'(by rw [blocksN_length]; omega) = blockN s z i by simp [blocksN], add_plain] at hcell
    clear hW hp hCb hB7 y46
    have HQ := Aside0.mk (show W7.drew.cell? ⟨p, 5, none⟩ = some (.slice A6 V.length c6) ∧ W7.drew.cell? ⟨p, 6, none⟩ = some (.string (blockN s z i)) ∧ W7.drew.cell? ⟨q, 4, none⟩ = some (.slice (some ⟨ga, 0, none⟩) K c) ∧ W7.drew.cell? ⟨ga, i, none⟩ = some (.string (blockN s z i)) from ⟨p5, p6, y47, hcell⟩)
    have hdr : Below W7.heap.size W7 W7.drew := (Below.refl _ _).drew
    have HDR := Aside0.mk hdr
    have HKK := Aside0.mk hkw
    clear hdr
    have hi0 : (0 : Int) ≤ (i : Int) := by omega
    go_region_held3 (fun w' => w'.cell? ⟨p, 5, none⟩ = some (.slice A6 V.length c6) ∧ w'.cell? ⟨p, 6, none⟩ = some (.string (blockN s z i)) ∧ w'.cell? ⟨q, 4, none⟩ = some (.slice (some ⟨ga, 0, none⟩) K c) ∧ w'.cell? ⟨ga, i, none⟩ = some (.string (blockN s z i)))
      (first
        | go_keep
        | with_reducible exact ⟨pw_cell_below hB8 HQ.out.1, pw_cell_below hB8 HQ.out.2.1, pw_cell_below hB8 HQ.out.2.2.1, pw_cell_below hB8 HQ.out.2.2.2⟩
        | with_reducible exact ⟨pw_cell_below hB9 (pw_cell_below hB8 HQ.out.1), pw_cell_below hB9 (pw_cell_below hB8 HQ.out.2.1), pw_cell_below hB9 (pw_cell_below hB8 HQ.out.2.2.1), pw_cell_below hB9 (pw_cell_below hB8 HQ.out.2.2.2)⟩
        | with_reducible exact ⟨pw_cell_below hB10 (pw_cell_below hB9 (pw_cell_below hB8 HQ.out.1)), pw_cell_below hB10 (pw_cell_below hB9 (pw_cell_below hB8 HQ.out.2.1)), pw_cell_below hB10 (pw_cell_below hB9 (pw_cell_below hB8 HQ.out.2.2.1)), pw_cell_below hB10 (pw_cell_below hB9 (pw_cell_below hB8 HQ.out.2.2.2))⟩)
      (first
        | (go_at_call 16; refine (hun _).mono ?_; rintro e w8 ⟨v8, rfl, hO8, hB8⟩; obtain ⟨A8, c8, rfl, _, hC8⟩ := hO8.Cw)
        | (go_at_call 15; refine (HSM.out _ _ _ _ _ (Kd.C_below HC6.out (bthn HB7.out (Nat.le_refl _) (HDR.out.trans hB8))) hC8).mono ?_; rintro e w9 ⟨rfl, hB9⟩)
        | (go_at_call 12; refine (awake_any _ (HD.out.below (bthn (bthn (bthn HB6.out (by have := HB6.out.size; omega) HB7.out) (by have := HB6.out.size; omega) (HDR.out.trans hB8)) (by have := HB6.out.size; omega) hB9))).mono ?_; rintro e w10 ⟨rfl, hB10⟩))
    all_goals
      go_wp2_with fail
      go_ret
      exact ⟨rfl, bthn (bthn (bthn (bthn HB6.out (by have := HB6.out.size; omega) HB7.out) (by have := HB6.out.size; omega) (HDR.out.trans hB8)) (by have := HB6.out.size; omega) hB9) (by have := HB6.out.size; omega) hB10⟩
  · obtain ⟨E, hEE⟩ : ∃ E, errN id s.size size spread = E := ⟨_, rfl⟩
    have hn := fun W => New_no id s size spread W hs hi0 hi1 hs0 hs1 hp0 hp1 hE
    have hr := fun W => refNew_no id s size spread W hs hi0 hi1 hs0 hs1 hp0 hp1 hE
    rw [hEE] at hn hr hE
    have hb1 : (E != 0) = true := bne_iff_ne.2 hE
    have hb2 : decide (E = 0) = false := decide_eq_false hE
    clear hEE
    go_enter Tryd.func4, Tryd.ntmps4
    go_wp2_with fail
    generalize hW0 : w.alloc _ = W0
    have HB0 := Aside0.mk (show Below w.heap.size w W0 by rw [← hW0]; exact (Below.refl _ _).alloc (Nat.le_refl _) _)
    have hx0 := (show W0.heap[w.heap.size]? = some (.cells #[.int .i64 id, .int .i64 size, .int .i64 spread, .string s] 23 (0, 0)) by rw [← hW0]; exact heap_alloc_new _ _)
    have x0 := blk_cell hx0 0
    have x1 := blk_cell hx0 1
    have x2 := blk_cell hx0 2
    have x3 := blk_cell hx0 3
    simp at x0 x1 x2 x3
    clear hW0 hx0
    refine (hn W0).mono ?_
    rintro e w1 ⟨rfl, rfl⟩
    go_wp2_with fail
    refine (hr W0).mono ?_
    rintro e w2 ⟨rfl, hB2⟩
    have HB2 := Aside0.mk (bthn HB0.out (Nat.le_refl _) hB2)
    clear hB2 hr hn x0 x1 x2 x3 HB0
    unfold sC
    go_wp2_with fail
    generalize hW3 : w2.alloc _ = W3
    have HB3 := Aside0.mk (bthn HB2.out (Nat.le_refl _) (show Below w2.heap.size w2 W3 by rw [← hW3]; exact (Below.refl _ _).alloc (Nat.le_refl _) _))
    clear hW3
    refine (awake_any _ (HD.out.below HB3.out)).mono ?_
    rintro e w4 ⟨rfl, hB4⟩
    have HB4 := Aside0.mk (bthn HB3.out (Nat.le_refl _) hB4)
    clear hB4
    go_wp2
    go_ret
    exact ⟨rfl, HB4.out⟩

end Go.Proofs.YtcelfpgkeeaggaaDoor.EncM
