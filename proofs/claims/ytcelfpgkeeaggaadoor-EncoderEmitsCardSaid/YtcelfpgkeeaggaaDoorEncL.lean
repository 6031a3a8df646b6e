/- The walks of the laws EncoderNews, EncoderUnits, EncoderNone. -/
import Derived.Test.YtcelfpgkeeaggaaDoorEncW
import Derived.Test.YtcelfpgkeeaggaaDoorOpen
namespace Go.Proofs.YtcelfpgkeeaggaaDoor.EncL
open Go Go.RowKit Go.Proofs.YtcelfpgkeeaggaaDoorW.PrintWords Go.Proofs.YtcelfpgkeeaggaaDoor.Base Go.Proofs.YtcelfpgkeeaggaaDoor.Bits Go.Proofs.YtcelfpgkeeaggaaDoor.WordsS Go.Proofs.YtcelfpgkeeaggaaDoor.Split Go.Proofs.YtcelfpgkeeaggaaDoor.SplitB Go.Proofs.YtcelfpgkeeaggaaDoor.SplitL Go.Proofs.YtcelfpgkeeaggaaDoor.Soliton Go.Proofs.YtcelfpgkeeaggaaDoor.Draws Go.Proofs.YtcelfpgkeeaggaaDoor.DrawsP Go.Proofs.YtcelfpgkeeaggaaDoor.Enc Go.Proofs.YtcelfpgkeeaggaaDoor.EncE Go.Proofs.YtcelfpgkeeaggaaDoor.EncR Go.Proofs.YtcelfpgkeeaggaaDoor.EncW Go.Proofs.YtcelfpgkeeaggaaDoor.Pkt Go.Proofs.YtcelfpgkeeaggaaDoor.Open
set_option linter.unusedVariables false
set_option linter.unusedSimpArgs false

def KMade : Kd (I64 × I64 × I64 × Str) := Kd.pair KI (Kd.pair KI (Kd.pair KI KS))
theorem opens_made : Opens Tryd.prog KMade 23 :=
  opens_struct Tryd.underlying23 (by kernel_rfl) (OF.cons rfl (by kernel_rfl) (opens_i64 Tryd.underlying3) (OF.cons rfl (by kernel_rfl) (opens_i64 Tryd.underlying3) (OF.cons rfl (by kernel_rfl) (opens_i64 Tryd.underlying3) (OF.one rfl (by kernel_rfl) (opens_str Tryd.underlying9)))))
theorem KMade_arr {w : World} {a : I64 × I64 × I64 × Str} {cs : Array Value} (h : KMade.K w a cs.toList) : cs = #[.int .i64 a.1.val, .int .i64 a.2.1.val, .int .i64 a.2.2.1.val, .string a.2.2.2.val] := by
  obtain ⟨c0, r0, e0, h0, c1, r1, e1, h1, c2, r2, e2, h2, h3⟩ := h
  have e4 : c0 = [Value.int .i64 a.1.val] := h0
  have e5 : c1 = [Value.int .i64 a.2.1.val] := h1
  have e6 : c2 = [Value.int .i64 a.2.2.1.val] := h2
  have e7 : r2 = [Value.string a.2.2.2.val] := h3
  apply Array.toList_inj.1
  rw [e0, e1, e2, e4, e5, e6, e7]; rfl
theorem C_empty {w : World} : Kd.string.C w none ([] : List ByteArray).length [] := ⟨rfl, by decide, fun h => absurd h (by decide)⟩
theorem Texts_same (A B : Option Addr) (ca cb : Nat) (L : List ByteArray) (w : World) (hA : Kd.string.C w A L.length L) (hB : Kd.string.C w B L.length L) :
    Calls Tryd.prog 9 #[.slice A L.length ca, .slice B L.length cb] w fun e w' => e = .returned (.bool true) ∧ Below w.heap.size w w' := by
  refine (Texts_any A B ca cb L L w hA hB).mono ?_
  rintro e w' ⟨rfl, hb⟩
  exact ⟨by rw [decide_eq_true rfl], hb⟩

set_option maxHeartbeats 2000000 in
theorem EncoderNews (id size spread : Int) (s : ByteArray) (w : World) (hD : DigOk w) (hs : s.size ≤ 9223372036854775807) (hi0 : -9223372036854775808 ≤ id) (hi1 : id ≤ 9223372036854775807) (hs0 : -9223372036854775808 ≤ size) (hs1 : size ≤ 9223372036854775807) (hp0 : -9223372036854775808 ≤ spread) (hp1 : spread ≤ 9223372036854775807) :
    Calls Tryd.prog 3 #[.agg #[.int .i64 id, .int .i64 size, .int .i64 spread, .string s]] w fun e w' => e = .returned (.bool true) ∧ Below w.heap.size w w' := by
  have HD := Aside0.mk hD
  clear hD
  by_cases hE : errN id s.size size spread = 0
  · obtain ⟨h1, h2, h3, h4⟩ := made_ok hE
    obtain ⟨n0, n1, n2, n3⟩ := errP_zero h4
    obtain ⟨z, rfl⟩ := Int.eq_ofNat_of_zero_le (show 0 ≤ size by omega)
    obtain ⟨k1, k2⟩ := planP_range h4
    obtain ⟨K, hK⟩ := Int.eq_ofNat_of_zero_le (show 0 ≤ planP s.size z by omega)
    rw [hK] at k1 k2
    obtain ⟨sp, hsp⟩ := Int.eq_ofNat_of_zero_le (show 0 ≤ min spread (K : Int) by omega)
    have hn := fun W hD => New_ok id s spread z K sp W hD h1 h2 h3 hp1 (by omega) (by omega) (by omega) (by omega) (by omega) hK h4 hsp
    have hr := fun W => refNew_ok id s spread z K sp W h1 h2 h3 hp1 (by omega) (by omega) (by omega) (by omega) (by omega) hK h4 hsp
    clear hE hK hsp h4
    go_enter Tryd.func3, Tryd.ntmps3
    go_wp2_with fail
    generalize hW0 : w.alloc _ = W0
    have HB0 := Aside0.mk (show Below w.heap.size w W0 by rw [← hW0]; exact (Below.refl _ _).alloc (Nat.le_refl _) _)
    have HX0 := Aside0.mk (show W0.heap[w.heap.size]? = some (.cells #[.int .i64 id, .int .i64 z, .int .i64 spread, .string s] 23 (0, 0)) by rw [← hW0]; exact heap_alloc_new _ _)
    have hz0 : w.heap.size < W0.heap.size := by rw [← hW0]; simp
    clear hW0
    refine (hn W0 (HD.out.below HB0.out)).mono ?_
    rintro e w1 ⟨bs, g, rfl, hbs, hS, hB1⟩
    have hx1 := (hB1.block _ hz0).trans HX0.out
    have x0 := blk_cell hx1 0
    have x1 := blk_cell hx1 1
    have x2 := blk_cell hx1 2
    have x3 := blk_cell hx1 3
    simp at x0 x1 x2 x3
    have HS1 := Aside0.mk hS
    have HB1 := Aside0.mk (bthn HB0.out (Nat.le_refl _) hB1)
    clear hS hB1 hn hx1 HB0 HX0
    go_wp2_with fail
    refine (hr w1).mono ?_
    rintro e w2 ⟨ga, c, rfl, hC2, hB2⟩
    have HS2 := Aside0.mk (HS1.out.below hB2)
    have HB2 := Aside0.mk (bthn HB1.out (Nat.le_refl _) hB2)
    have HC2 := Aside0.mk hC2
    clear hC2 hB2 hr x0 x1 x2 x3 HS1 HB1
    unfold sC
    go_wp2_with fail
    generalize hW3 : w2.alloc _ = W3
    have HB3 := Aside0.mk (show Below w2.heap.size w2 W3 by rw [← hW3]; exact (Below.refl _ _).alloc (Nat.le_refl _) _)
    have y4 : W3.cell? ⟨w2.heap.size, 4, none⟩ = some (.slice (some ⟨ga, 0, none⟩) K c) := by rw [← hW3]; simp
    have hz3 : w2.heap.size < W3.heap.size := by rw [← hW3]; simp
    clear hW3
    have hbl := Blocks_any bs g id s z K sp W3.drew ((HS2.out.below HB3.out).drewN 1) (by omega) (by omega)
    have hka := fun W hb => K_any bs g id s z K sp W ((HS2.out.below HB3.out).below hb) (by omega) (by omega)
    have htx := fun W A cA hA hb => Texts_same A (some ⟨ga, 0, none⟩) cA c (blocksN s z K) W hA (by rw [blocksN_length]; exact Kd.C_below HC2.out (bthn HB3.out (Nat.le_refl _) hb))
    rw [blocksN_length] at htx
    have haw := fun W hb => awake_any W (((HD.out.below HB2.out).below HB3.out).below hb)
    have hdr : Below W3.heap.size W3 W3.drew := (Below.refl _ _).drew
    have HDR := Aside0.mk hdr
    clear hdr
    have HY := Aside0.mk (show W3.drew.cell? ⟨w2.heap.size, 4, none⟩ = some (.slice (some ⟨ga, 0, none⟩) K c) from y4)
    go_region_held3 (fun w' => w'.cell? ⟨w2.heap.size, 4, none⟩ = some (.slice (some ⟨ga, 0, none⟩) K c))
      (first
        | go_keep
        | with_reducible exact pw_cell_below hB4 HY.out
        | with_reducible exact pw_cell_below hB5 (pw_cell_below hB4 HY.out)
        | with_reducible exact pw_cell_below hB6 (pw_cell_below hB5 (pw_cell_below hB4 HY.out))
        | with_reducible exact pw_cell_below hB7 (pw_cell_below hB6 (pw_cell_below hB5 (pw_cell_below hB4 HY.out))))
      (first
        | (go_at_call 10; refine hbl.mono ?_; rintro e w4 ⟨v4, rfl, hO4, hB4⟩; obtain ⟨A4, c4, rfl, _, hC4⟩ := Own.C (enc := Value.string) (h1 := fun _ => rfl) hO4; rw [blocksN_length] at hC4 ⊢)
        | (go_at_call 9; refine (htx _ A4 c4 hC4 (HDR.out.trans hB4)).mono ?_; rintro e w5 ⟨rfl, hB5⟩)
        | (go_at_call 11; refine (hka _ (bthn (HDR.out.trans hB4) (Nat.le_refl _) hB5)).mono ?_; rintro e w6 ⟨rfl, hB6⟩)
        | (go_at_call 12; refine (haw _ (bthn (bthn (HDR.out.trans hB4) (Nat.le_refl _) hB5) (Nat.le_refl _) hB6)).mono ?_; rintro e w7 ⟨rfl, hB7⟩))
    all_goals
      go_wp2_with fail
      go_ret
      exact ⟨rfl, bthn (bthn HB2.out (Nat.le_refl _) HB3.out) (Nat.le_refl _) (bthn (bthn (bthn (HDR.out.trans hB4) (Nat.le_refl _) hB5) (Nat.le_refl _) hB6) (Nat.le_refl _) hB7)⟩
  · obtain ⟨E, hEE⟩ : ∃ E, errN id s.size size spread = E := ⟨_, rfl⟩
    have hn := fun W => New_no id s size spread W hs hi0 hi1 hs0 hs1 hp0 hp1 hE
    have hr := fun W => refNew_no id s size spread W hs hi0 hi1 hs0 hs1 hp0 hp1 hE
    rw [hEE] at hn hr hE
    have hb1 : (E != 0) = true := bne_iff_ne.2 hE
    have hb2 : decide (E = 0) = false := decide_eq_false hE
    clear hEE
    go_enter Tryd.func3, Tryd.ntmps3
    go_wp2_with fail
    generalize hW0 : w.alloc _ = W0
    have HB0 := Aside0.mk (show Below w.heap.size w W0 by rw [← hW0]; exact (Below.refl _ _).alloc (Nat.le_refl _) _)
    have hx0 := (show W0.heap[w.heap.size]? = some (.cells #[.int .i64 id, .int .i64 size, .int .i64 spread, .string s] 23 (0, 0)) by rw [← hW0]; exact heap_alloc_new _ _)
    have x0 := blk_cell hx0 0
    have x1 := blk_cell hx0 1
    have x2 := blk_cell hx0 2
    have x3 := blk_cell hx0 3
    simp at x0 x1 x2 x3
    clear hW0 hx0
    refine (hn W0).mono ?_
    rintro e w1 ⟨rfl, rfl⟩
    go_wp2_with fail
    refine (hr W0).mono ?_
    rintro e w2 ⟨rfl, hB2⟩
    have HB2 := Aside0.mk (bthn HB0.out (Nat.le_refl _) hB2)
    clear hB2 hr hn x0 x1 x2 x3 HB0
    unfold sC
    go_wp2_with fail
    generalize hW3 : w2.alloc _ = W3
    have HB3 := Aside0.mk (show Below w2.heap.size w2 W3 by rw [← hW3]; exact (Below.refl _ _).alloc (Nat.le_refl _) _)
    have y4 : W3.cell? ⟨w2.heap.size, 4, none⟩ = some (.slice none 0 0) := by rw [← hW3]; simp
    clear hW3
    have hbl := fun W => Blocks_nil W
    have hka := fun W => K_nil W
    have htx := fun W => Texts_same none none 0 0 [] W C_empty C_empty
    have hdr : Below W3.heap.size W3 W3.drew := (Below.refl _ _).drew
    have HDR := Aside0.mk hdr
    have haw := fun W hb => awake_any W (((HD.out.below HB2.out).below HB3.out).below hb)
    clear hdr
    have HY := Aside0.mk (show W3.drew.cell? ⟨w2.heap.size, 4, none⟩ = some (.slice none 0 0) from y4)
    go_region_held3 (fun w' => w'.cell? ⟨w2.heap.size, 4, none⟩ = some (.slice none 0 0))
      (first
        | go_keep
        | with_reducible exact pw_cell_below hB5 HY.out
        | with_reducible exact pw_cell_below hB7 (pw_cell_below hB5 HY.out))
      (first
        | (go_at_call 10; refine (hbl _).mono ?_; rintro e w4 ⟨rfl, rfl⟩)
        | (go_at_call 9; refine (htx _).mono ?_; rintro e w5 ⟨rfl, hB5⟩)
        | (go_at_call 11; refine (hka _).mono ?_; rintro e w6 ⟨rfl, rfl⟩)
        | (go_at_call 12; refine (haw _ (HDR.out.trans hB5)).mono ?_; rintro e w7 ⟨rfl, hB7⟩))
    all_goals
      go_wp2_with fail
      go_ret
      exact ⟨rfl, bthn (bthn HB2.out (Nat.le_refl _) HB3.out) (Nat.le_refl _) (bthn (HDR.out.trans hB5) (Nat.le_refl _) hB7)⟩

/-! ### the plain law of the units -/
theorem deg_unit (u : UInt64) (K sp : Nat) (h1 : 1 ≤ K) : degI [0, u] 0 K sp = 1 := by
  have h := SolitonW.pickI_at (tabN K sp) (SolitonW.tab_pos K sp) 0 (by rw [tabN_length]; omega) 0 (by omega) (by have := SolitonW.tab_pos K sp _ (List.getElem_mem (show 0 < (tabN K sp).length by rw [tabN_length]; omega)); omega)
  have h0 : ((nextV [0, u] 0).toNat : Int) = 0 := by rw [nextV_in [0, u] 0 (by simp)]; rfl
  rw [degI, h0]
  simpa [sumI] using h
theorem filter_one (K i : Nat) (hi : i < K) : (List.range K).filter (fun a => decide (a ∈ [i])) = [i] := by
  induction K with
  | zero => omega
  | succ K ih =>
    rw [List.range_succ, List.filter_append]
    by_cases e : i = K
    · subst e
      have : (List.range i).filter (fun a => decide (a ∈ [i])) = [] := by
        rw [List.filter_eq_nil_iff]
        intro a ha
        have := List.mem_range.1 ha
        simp; omega
      rw [this]; simp
    · rw [ih (by omega)]
      have : K ≠ i := Ne.symm e
      simp [this]
theorem res_unit (u : UInt64) (K sp i : Nat) (h1 : 1 ≤ K) (hu : u.toNat = i) (hi : i < K) : cntE [0, u] 0 K sp = 1 ∧ resE [0, u] 0 K sp = [(i : Int)] := by
  have hc : cntE [0, u] 0 K sp = 1 := by rw [cntE, deg_unit u K sp h1]; omega
  refine ⟨hc, ?_⟩
  have ho : outD [0, u] (0 + 1) K 1 = [i] := by
    have hj : jOf [0, u] (0 + 1) K 0 = i := by
      rw [jOf, nextV_in [0, u] (0 + 1 + 0) (by simp)]
      show u.toNat % (K - 0) = i
      rw [hu, Nat.sub_zero, Nat.mod_eq_of_lt hi]
    rw [outD, hj, outD, leftD_nil]
    simp [List.getD_eq_getElem?_getD, hi]
  rw [resE, hc, resD, ho]
  rw [filter_one K i hi]; rfl
theorem ofN_unit (l : List ByteArray) (M i : Nat) (hM : i / 64 < M) (k : Nat) (hk : k ≤ l.length) (h : i < l.length) : ofN l (setW (List.replicate M 0) i true) k = if i < k then l[i] else emptyS := by
  induction k with
  | zero => simp [ofN]
  | succ k ih =>
    have hb : getB (setW (List.replicate M 0) i true) k = decide (k = i) := by
      rw [getB_setW _ _ _ _ (by rw [List.length_replicate]; exact hM)]
      have hz : getB (List.replicate M 0) k = false := by
        rw [getB_tb, List.getD_eq_getElem?_getD, List.getElem?_replicate]
        by_cases hh : k / 64 < M <;> simp [hh, tb_zero]
      by_cases e : k = i
      · simp [e]
      · simp [e, hz]
    by_cases e : k = i
    · subst e
      rw [ofN_yes l _ k (by omega) (by rw [hb]; simp), ih (by omega), if_neg (by omega), if_pos (by omega), empty_xorS]
    · rw [ofN_no l _ k (by rw [hb]; simp [e]), ih (by omega)]
      by_cases h2 : i < k
      · rw [if_pos h2, if_pos (by omega)]
      · rw [if_neg h2, if_neg (by omega)]
theorem emit_unit (u : UInt64) (K sp i : Nat) (h1 : 1 ≤ K) (hK : K ≤ 128) (hu : u.toNat = i) (hi : i < K) : emitV [0, u] 0 K sp = setW (List.replicate (sizeN K) 0) i true := by
  obtain ⟨_, h⟩ := res_unit u K sp i h1 hu hi
  rw [emitV, h]; rfl
theorem of_unit (s : ByteArray) (z K i : Nat) (hi : i < K) : ofS (blocksN s z K) (setW (List.replicate (sizeN K) 0) i true) = blockN s z i := by
  rw [ofS, blocksN_length]
  have := ofN_unit (blocksN s z K) (sizeN K) i (by unfold sizeN; omega) K (by rw [blocksN_length]; exact Nat.le_refl _) (by rw [blocksN_length]; exact hi)
  rw [this, if_pos hi]; simp [blocksN]

set_option maxHeartbeats 2000000 in
theorem EncoderNone (id size spread : Int) (s : ByteArray) (w : World) (hD : DigOk w) (hs : s.size ≤ 9223372036854775807) (hi0 : -9223372036854775808 ≤ id) (hi1 : id ≤ 9223372036854775807) (hs0 : -9223372036854775808 ≤ size) (hs1 : size ≤ 9223372036854775807) (hp0 : -9223372036854775808 ≤ spread) (hp1 : spread ≤ 9223372036854775807) :
    Calls Tryd.prog 5 #[.agg #[.int .i64 id, .int .i64 size, .int .i64 spread, .string s]] w fun e w' => e = .returned (.bool true) ∧ Below w.heap.size w w' := by
  have HD := Aside0.mk hD
  clear hD
  have hC0 : ∀ W : World, Kw.C W none ([] : List UInt64).length [] := fun W => ⟨rfl, by decide, fun h => absurd h (by decide)⟩
  have HC0 := Aside0.mk hC0
  have hnew := fun W => DrawsD.New_any none 0 [] W (HC0.out W) (fun ad h => by cases h) (by decide)
  have hsame := fun W => Same_same 0 0 0 0 0 none none 0 0 [] [] ⟨#[]⟩ W (HC0.out W) (HC0.out W) (by decide) (by decide) (by decide +kernel)
  have hem := fun arg W => Emit_none arg W
  unfold pkC at hsame hem
  clear hC0
  go_enter Tryd.func5, Tryd.ntmps5
  go_wp2_with fail
  generalize hW0 : w.alloc _ = W0
  have HB0 := Aside0.mk (show Below w.heap.size w W0 by rw [← hW0]; exact (Below.refl _ _).alloc (Nat.le_refl _) _)
  have HX0 := Aside0.mk (show W0.heap[w.heap.size]? = some (.cells #[.int .i64 id, .int .i64 size, .int .i64 spread, .string s] 23 (0, 0)) by rw [← hW0]; exact heap_alloc_new _ _)
  have hz0 : w.heap.size < W0.heap.size := by rw [← hW0]; simp
  clear hW0
  refine (hnew W0).mono ?_
  rintro e w1 ⟨b1, h1, rfl, _, _, hB1⟩
  go_wp2_with fail
  refine (hem _ w1).mono ?_
  rintro e w2 ⟨rfl, hB2⟩
  go_wp2_with fail
  refine (hsame w2).mono ?_
  rintro e w3 ⟨rfl, hB3⟩
  have HB3 := Aside0.mk (bthn (bthn hB1 (Nat.le_refl _) hB2) (Nat.le_refl _) hB3)
  clear hB1 hB2 hB3
  go_wp2_with fail
  refine (Blocks_nil w3).mono ?_
  rintro e w4 ⟨rfl, rfl⟩
  go_wp2_with fail
  refine (K_nil w3).mono ?_
  rintro e w4 ⟨rfl, rfl⟩
  have hx1 := (HB3.out.block _ hz0).trans HX0.out
  have x0 := blk_cell hx1 0
  have x1 := blk_cell hx1 1
  have x2 := blk_cell hx1 2
  have x3 := blk_cell hx1 3
  simp at x0 x1 x2 x3
  have HB4 := Aside0.mk (bthn HB0.out (Nat.le_refl _) HB3.out)
  clear hx1 HX0 HB3 HB0 hsame
  by_cases hE : errN id s.size size spread = 0
  · obtain ⟨h1, h2, h3, h4⟩ := made_ok hE
    obtain ⟨n0, n1, n2, n3⟩ := errP_zero h4
    obtain ⟨z, rfl⟩ := Int.eq_ofNat_of_zero_le (show 0 ≤ size by omega)
    obtain ⟨k1, k2⟩ := planP_range h4
    obtain ⟨K, hK⟩ := Int.eq_ofNat_of_zero_le (show 0 ≤ planP s.size z by omega)
    rw [hK] at k1 k2
    obtain ⟨sp, hsp⟩ := Int.eq_ofNat_of_zero_le (show 0 ≤ min spread (K : Int) by omega)
    have hn := New_ok id s spread z K sp w3 (HD.out.below HB4.out) h1 h2 h3 hp1 (by omega) (by omega) (by omega) (by omega) (by omega) hK h4 hsp
    have hsK : sp ≤ K := by omega
    clear hE hK hsp h4
    go_wp2_with fail
    refine hn.mono ?_
    rintro e w5 ⟨bs, g, rfl, hbs, hS, hB5⟩
    have HS5 := Aside0.mk hS
    have HB5 := Aside0.mk (bthn HB4.out (Nat.le_refl _) hB5)
    clear hS hB5 hn
    go_wp2_with fail
    refine (Emit_core (.pointer none) bs g 0 0 id s z K sp [] 0 w5 HS5.out (.inr ⟨rfl, rfl, rfl⟩) (by decide) (by omega) (by omega) hsK (by omega)).mono ?_
    rintro e w6 ⟨v6, b6, h6, rfl, hO6, hD6, hG6, hA6⟩
    have hh6 : w5.heap.size ≤ h6 := by rcases hA6 with ⟨e, _⟩ | ⟨_, e⟩; cases e; exact e
    have hB6 : Below w5.heap.size w5 w6 := (Below.refl _ _).grown hG6 (Nat.le_refl _) (fun k hk => by cases hk; exact hh6)
    obtain ⟨A6, c6, rfl, _, hC6⟩ := hO6.Cw
    have HO6 := Aside0.mk hO6
    have HB6 := Aside0.mk hB6
    clear hO6 hD6 hG6 hA6 hC6 hB6
    go_wp2_with fail
    refine (hnew w6).mono ?_
    rintro e w7 ⟨b7, h7, rfl, hb7, hD7, hB7⟩
    have HD7 := Aside0.mk hD7
    have hl7 := hD7.bg
    have HB7 := Aside0.mk (bthn HB6.out (Nat.le_refl _) hB7)
    have HO7 := Aside0.mk (HO6.out.below hB7)
    have hgl := HS5.out.lt
    have hbl := HS5.out.ble
    have hz6 := HB6.out.size
    have hz7 := hB7.size
    have hlt7 := HD7.out.lt
    clear hD7 hB7
    go_wp2_with fail
    refine (Emit_core (.pointer (some ⟨h7, 0, none⟩)) bs g b7 h7 id s z K sp [] 0 w7 (HS5.out.below HB7.out) (.inl ⟨rfl, HD7.out, by omega, by omega⟩) (by decide) (by omega) (by omega) hsK (by omega)).mono ?_
    rintro e w8 ⟨v8, b8, h8, rfl, hO8, hD8, hG8, hA8⟩
    have hh8 : h8 = h7 := by rcases hA8 with ⟨_, _, e⟩ | ⟨e, _⟩; exact e; cases e
    subst hh8
    obtain ⟨A8, c8, rfl, _, hC8⟩ := hO8.Cw
    have hO68 := HO7.out.grown hG8 (.inr (fun e => by have := (HO6.out.lt h8 e).2; omega))
    obtain ⟨A', c', hv', _, hC68⟩ := hO68.Cw
    cases hv'
    have hB8 : Below w.heap.size w w8 := (bthn HB5.out (Nat.le_refl _) HB7.out).grown hG8 (by have := HB5.out.size; omega) (fun k hk => by cases hk; have := HB5.out.size; omega)
    have HB8 := Aside0.mk hB8
    have hlen : (emitV [] 0 K sp).length ≤ 8796093022208 := by rw [emitV, setsN_length, List.length_replicate]; unfold sizeN; omega
    have hsm := Same_same id s.size K z 0 A6 A8 c6 c8 (emitV [] 0 K sp) (emitV [] 0 K sp) (ofS (blocksN s z K) (emitV [] 0 K sp)) w8 hC68 hC8 hlen hlen (sameW_refl _)
    clear hO8 hD8 hG8 hA8 hC8 hO68 hC68 hB8
    go_wp2_with fail
    refine hsm.mono ?_
    rintro e w9 ⟨rfl, hB9⟩
    have HB9 := Aside0.mk (bthn HB8.out (Nat.le_refl _) hB9)
    clear hB9 hsm
    go_wp2_with fail
    refine (awake_any _ (HD.out.below HB9.out)).mono ?_
    rintro e w10 ⟨rfl, hB10⟩
    have HB10 := Aside0.mk (bthn HB9.out (Nat.le_refl _) hB10)
    clear hB10
    go_wp2
    go_ret
    exact ⟨rfl, HB10.out⟩
  · obtain ⟨E, hEE⟩ : ∃ E, errN id s.size size spread = E := ⟨_, rfl⟩
    have hn := fun W => New_no id s size spread W hs hi0 hi1 hs0 hs1 hp0 hp1 hE
    rw [hEE] at hn hE
    have hb1 : (E != 0) = true := bne_iff_ne.2 hE
    have hb2 : decide (E = 0) = false := decide_eq_false hE
    clear hEE
    go_wp2_with fail
    refine (hn w3).mono ?_
    rintro e w5 ⟨rfl, rfl⟩
    go_wp2_with fail
    refine (awake_any _ (HD.out.below HB4.out)).mono ?_
    rintro e w10 ⟨rfl, hB10⟩
    have HB10 := Aside0.mk (bthn HB4.out (Nat.le_refl _) hB10)
    clear hB10
    go_wp2
    go_ret
    exact ⟨rfl, HB10.out⟩

end Go.Proofs.YtcelfpgkeeaggaaDoor.EncL
