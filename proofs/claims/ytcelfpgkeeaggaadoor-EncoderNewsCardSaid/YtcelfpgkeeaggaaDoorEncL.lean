/- The walks of the laws EncoderNews, EncoderUnits, EncoderNone. -/
import Derived.Test.YtcelfpgkeeaggaaDoorEncW
import Derived.Test.YtcelfpgkeeaggaaDoorOpen
namespace Go.Proofs.YtcelfpgkeeaggaaDoor.EncL
open Go Go.RowKit Go.Proofs.YtcelfpgkeeaggaaDoorW.PrintWords Go.Proofs.YtcelfpgkeeaggaaDoor.Base Go.Proofs.YtcelfpgkeeaggaaDoor.Bits Go.Proofs.YtcelfpgkeeaggaaDoor.WordsS Go.Proofs.YtcelfpgkeeaggaaDoor.Split Go.Proofs.YtcelfpgkeeaggaaDoor.SplitB Go.Proofs.YtcelfpgkeeaggaaDoor.SplitL Go.Proofs.YtcelfpgkeeaggaaDoor.Soliton Go.Proofs.YtcelfpgkeeaggaaDoor.Draws Go.Proofs.YtcelfpgkeeaggaaDoor.DrawsP Go.Proofs.YtcelfpgkeeaggaaDoor.Enc Go.Proofs.YtcelfpgkeeaggaaDoor.EncE Go.Proofs.YtcelfpgkeeaggaaDoor.EncR Go.Proofs.YtcelfpgkeeaggaaDoor.EncW Go.Proofs.YtcelfpgkeeaggaaDoor.Pkt Go.Proofs.YtcelfpgkeeaggaaDoor.Open
set_option linter.unusedVariables false
set_option linter.unusedSimpArgs false

def KMade : Kd (I64 × I64 × I64 × Str) := Kd.pair KI (Kd.pair KI (Kd.pair KI KS))
theorem opens_made : Opens Tryd.prog KMade 23 :=
  opens_struct Tryd.underlying23 (by kernel_rfl) (OF.cons rfl (by kernel_rfl) (opens_i64 Tryd.underlying3) (OF.cons rfl (by kernel_rfl) (opens_i64 Tryd.underlying3) (OF.cons rfl (by kernel_rfl) (opens_i64 Tryd.underlying3) (OF.one rfl (by kernel_rfl) (opens_str Tryd.underlying9)))))
theorem KMade_arr {w : World} {a : I64 × I64 × I64 × Str} {cs : Array Value} (h : KMade.K w a cs.toList) : cs = #[.int .i64 a.1.val, .int .i64 a.2.1.val, .int .i64 a.2.2.1.val, .string a.2.2.2.val] := by
  obtain ⟨c0, r0, e0, h0, c1, r1, e1, h1, c2, r2, e2, h2, h3⟩ := h
  have e4 : c0 = [Value.int .i64 a.1.val] := h0
  have e5 : c1 = [Value.int .i64 a.2.1.val] := h1
  have e6 : c2 = [Value.int .i64 a.2.2.1.val] := h2
  have e7 : r2 = [Value.string a.2.2.2.val] := h3
  apply Array.toList_inj.1
  rw [e0, e1, e2, e4, e5, e6, e7]; rfl
theorem C_empty {w : World} : Kd.string.C w none ([] : List ByteArray).length [] := ⟨rfl, by decide, fun h => absurd h (by decide)⟩
theorem Texts_same (A B : Option Addr) (ca cb : Nat) (L : List ByteArray) (w : World) (hA : Kd.string.C w A L.length L) (hB : Kd.string.C w B L.length L) :
    Calls Tryd.prog 9 #[.slice A L.length ca, .slice B L.length cb] w fun e w' => e = .returned (.bool true) ∧ Below w.heap.size w w' := by
  refine (Texts_any A B ca cb L L w hA hB).mono ?_
  rintro e w' ⟨rfl, hb⟩
  exact ⟨by rw [decide_eq_true rfl], hb⟩

set_option maxHeartbeats 2000000 in
theorem EncoderNews (id size spread : Int) (s : ByteArray) (w : World) (hD : DigOk w) (hs : s.size ≤ 9223372036854775807) (hi0 : -9223372036854775808 ≤ id) (hi1 : id ≤ 9223372036854775807) (hs0 : -9223372036854775808 ≤ size) (hs1 : size ≤ 9223372036854775807) (hp0 : -9223372036854775808 ≤ spread) (hp1 : spread ≤ 9223372036854775807) :
    Calls Tryd.prog 3 #[.agg #[.int .i64 id, .int .i64 size, .int .i64 spread, .string s]] w fun e w' => e = .returned (.bool true) ∧ Below w.heap.size w w' := by
  have HD := Aside0.mk hD
  clear hD
  by_cases hE : errN id s.size size spread = 0
  · obtain ⟨h1, h2, h3, h4⟩ := made_ok hE
    obtain ⟨n0, n1, n2, n3⟩ := errP_zero h4
    obtain ⟨z, rfl⟩ := Int.eq_ofNat_of_zero_le (show 0 ≤ size by omega)
    obtain ⟨k1, k2⟩ := planP_range h4
    obtain ⟨K, hK⟩ := Int.eq_ofNat_of_zero_le (show 0 ≤ planP s.size z by omega)
    rw [hK] at k1 k2
    obtain ⟨sp, hsp⟩ := Int.eq_ofNat_of_zero_le (show 0 ≤ min spread (K : Int) by omega)
    have hn := fun W hD => New_ok id s spread z K sp W hD h1 h2 h3 hp1 (by omega) (by omega) (by omega) (by omega) (by omega) hK h4 hsp
    have hr := fun W => refNew_ok id s spread z K sp W h1 h2 h3 hp1 (by omega) (by omega) (by omega) (by omega) (by omega) hK h4 hsp
    clear hE hK hsp h4
    go_enter Tryd.func3, Tryd.ntmps3
    go_wp2_with fail
    generalize hW0 : w.alloc _ = W0
    have HB0 := Aside0.mk (show Below w.heap.size w W0 by rw [← hW0]; exact (Below.refl _ _).alloc (Nat.le_refl _) _)
    have HX0 := Aside0.mk (show W0.heap[w.heap.size]? = some (.cells #[.int .i64 id, .int .i64 z, .int .i64 spread, .string s] 23 (0, 0)) by rw [← hW0]; exact heap_alloc_new _ _)
    have hz0 : w.heap.size < W0.heap.size := by rw [← hW0]; simp
    clear hW0
    refine (hn W0 (HD.out.below HB0.out)).mono ?_
    rintro e w1 ⟨bs, g, rfl, hbs, hS, hB1⟩
    have hx1 := (hB1.block _ hz0).trans HX0.out
    have x0 := blk_cell hx1 0
    have x1 := blk_cell hx1 1
    have x2 := blk_cell hx1 2
    have x3 := blk_cell hx1 3
    simp at x0 x1 x2 x3
    have HS1 := Aside0.mk hS
    have HB1 := Aside0.mk (bthn HB0.out (Nat.le_refl _) hB1)
    clear hS hB1 hn hx1 HB0 HX0
    go_wp2_with fail
    refine (hr w1).mono ?_
    rintro e w2 ⟨ga, c, rfl, hC2, hB2⟩
    have HS2 := Aside0.mk (HS1.out.below hB2)
    have HB2 := Aside0.mk (bthn HB1.out (Nat.le_refl _) hB2)
    have HC2 := Aside0.mk hC2
    clear hC2 hB2 hr x0 x1 x2 x3 HS1 HB1
    unfold sC
    go_wp2_with fail
    generalize hW3 : w2.alloc _ = W3
    have HB3 := Aside0.mk (show Below w2.heap.size w2 W3 by rw [← hW3]; exact (Below.refl _ _).alloc (Nat.le_refl _) _)
    have y4 : W3.cell? ⟨w2.heap.size, 4, none⟩ = some (.slice (some ⟨ga, 0, none⟩) K c) := by rw [← hW3]; simp
    have hz3 : w2.heap.size < W3.heap.size := by rw [← hW3]; simp
    clear hW3
    have hbl := Blocks_any bs g id s z K sp W3.drew ((HS2.out.below HB3.out).drewN 1) (by omega) (by omega)
    have hka := fun W hb => K_any bs g id s z K sp W ((HS2.out.below HB3.out).below hb) (by omega) (by omega)
    have htx := fun W A cA hA hb => Texts_same A (some ⟨ga, 0, none⟩) cA c (blocksN s z K) W hA (by rw [blocksN_length]; exact Kd.C_below HC2.out (bthn HB3.out (Nat.le_refl _) hb))
    rw [blocksN_length] at htx
    have haw := fun W hb => awake_any W (((HD.out.below HB2.out).below HB3.out).below hb)
    have hdr : Below W3.heap.size W3 W3.drew := (Below.refl _ _).drew
    have HDR := Aside0.mk hdr
    clear hdr
    have HY := Aside0.mk (show W3.drew.cell? ⟨w2.heap.size, 4, none⟩ = some (.slice (some ⟨ga, 0, none⟩) K c) from y4)
    go_region_held3 (fun w' => w'.cell? ⟨w2.heap.size, 4, none⟩ = some (.slice (some ⟨ga, 0, none⟩) K c))
      (first
        | go_keep
        | with_reducible exact pw_cell_below hB4 HY.out
        | with_reducible exact pw_cell_below hB5 (pw_cell_below hB4 HY.out)
        | with_reducible exact pw_cell_below hB6 (pw_cell_below hB5 (pw_cell_below hB4 HY.out))
        | with_reducible exact pw_cell_below hB7 (pw_cell_below hB6 (pw_cell_below hB5 (pw_cell_below hB4 HY.out))))
      (first
        | (go_at_call 10; refine hbl.mono ?_; rintro e w4 ⟨v4, rfl, hO4, hB4⟩; obtain ⟨A4, c4, rfl, _, hC4⟩ := Own.C (enc := Value.string) (h1 := fun _ => rfl) hO4; rw [blocksN_length] at hC4 ⊢)
        | (go_at_call 9; refine (htx _ A4 c4 hC4 (HDR.out.trans hB4)).mono ?_; rintro e w5 ⟨rfl, hB5⟩)
        | (go_at_call 11; refine (hka _ (bthn (HDR.out.trans hB4) (Nat.le_refl _) hB5)).mono ?_; rintro e w6 ⟨rfl, hB6⟩)
        | (go_at_call 12; refine (haw _ (bthn (bthn (HDR.out.trans hB4) (Nat.le_refl _) hB5) (Nat.le_refl _) hB6)).mono ?_; rintro e w7 ⟨rfl, hB7⟩))
    all_goals
      go_wp2_with fail
      go_ret
      exact ⟨rfl, bthn (bthn HB2.out (Nat.le_refl _) HB3.out) (Nat.le_refl _) (bthn (bthn (bthn (HDR.out.trans hB4) (Nat.le_refl _) hB5) (Nat.le_refl _) hB6) (Nat.le_refl _) hB7)⟩
  · obtain ⟨E, hEE⟩ : ∃ E, errN id s.size size spread = E := ⟨_, rfl⟩
    have hn := fun W => New_no id s size spread W hs hi0 hi1 hs0 hs1 hp0 hp1 hE
    have hr := fun W => refNew_no id s size spread W hs hi0 hi1 hs0 hs1 hp0 hp1 hE
    rw [hEE] at hn hr hE
    have hb1 : (E != 0) = true := bne_iff_ne.2 hE
    have hb2 : decide (E = 0) = false := decide_eq_false hE
    clear hEE
    go_enter Tryd.func3, Tryd.ntmps3
    go_wp2_with fail
    generalize hW0 : w.alloc _ = W0
    have HB0 := Aside0.mk (show Below w.heap.size w W0 by rw [← hW0]; exact (Below.refl _ _).alloc (Nat.le_refl _) _)
    have hx0 := (show W0.heap[w.heap.size]? = some (.cells #[.int .i64 id, .int .i64 size, .int .i64 spread, .string s] 23 (0, 0)) by rw [← hW0]; exact heap_alloc_new _ _)
    have x0 := blk_cell hx0 0
    have x1 := blk_cell hx0 1
    have x2 := blk_cell hx0 2
    have x3 := blk_cell hx0 3
    simp at x0 x1 x2 x3
    clear hW0 hx0
    refine (hn W0).mono ?_
    rintro e w1 ⟨rfl, rfl⟩
    go_wp2_with fail
    refine (hr W0).mono ?_
    rintro e w2 ⟨rfl, hB2⟩
    have HB2 := Aside0.mk (bthn HB0.out (Nat.le_refl _) hB2)
    clear hB2 hr hn x0 x1 x2 x3 HB0
    unfold sC
    go_wp2_with fail
    generalize hW3 : w2.alloc _ = W3
    have HB3 := Aside0.mk (show Below w2.heap.size w2 W3 by rw [← hW3]; exact (Below.refl _ _).alloc (Nat.le_refl _) _)
    have y4 : W3.cell? ⟨w2.heap.size, 4, none⟩ = some (.slice none 0 0) := by rw [← hW3]; simp
    clear hW3
    have hbl := fun W => Blocks_nil W
    have hka := fun W => K_nil W
    have htx := fun W => Texts_same none none 0 0 [] W C_empty C_empty
    have hdr : Below W3.heap.size W3 W3.drew := (Below.refl _ _).drew
    have HDR := Aside0.mk hdr
    have haw := fun W hb => awake_any W (((HD.out.below HB2.out).below HB3.out).below hb)
    clear hdr
    have HY := Aside0.mk (show W3.drew.cell? ⟨w2.heap.size, 4, none⟩ = some (.slice none 0 0) from y4)
    go_region_held3 (fun w' => w'.cell? ⟨w2.heap.size, 4, none⟩ = some (.slice none 0 0))
      (first
        | go_keep
        | with_reducible exact pw_cell_below hB5 HY.out
        | with_reducible exact pw_cell_below hB7 (pw_cell_below hB5 HY.out))
      (first
        | (go_at_call 10; refine (hbl _).mono ?_; rintro e w4 ⟨rfl, rfl⟩)
        | (go_at_call 9; refine (htx _).mono ?_; rintro e w5 ⟨rfl, hB5⟩)
        | (go_at_call 11; refine (hka _).mono ?_; rintro e w6 ⟨rfl, rfl⟩)
        | (go_at_call 12; refine (haw _ (HDR.out.trans hB5)).mono ?_; rintro e w7 ⟨rfl, hB7⟩))
    all_goals
      go_wp2_with fail
      go_ret
      exact ⟨rfl, bthn (bthn HB2.out (Nat.le_refl _) HB3.out) (Nat.le_refl _) (bthn (HDR.out.trans hB5) (Nat.le_refl _) hB7)⟩

end Go.Proofs.YtcelfpgkeeaggaaDoor.EncL
