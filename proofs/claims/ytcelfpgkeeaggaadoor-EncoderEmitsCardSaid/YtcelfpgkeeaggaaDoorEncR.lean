/- The contracts of the encoder's reference. -/
import Derived.Test.YtcelfpgkeeaggaaDoorEncE
namespace Go.Proofs.YtcelfpgkeeaggaaDoor.EncR
open Go Go.RowKit Go.Proofs.YtcelfpgkeeaggaaDoorW.PrintWords Go.Proofs.YtcelfpgkeeaggaaDoor.Base Go.Proofs.YtcelfpgkeeaggaaDoor.Bits Go.Proofs.YtcelfpgkeeaggaaDoor.WordsS Go.Proofs.YtcelfpgkeeaggaaDoor.Split Go.Proofs.YtcelfpgkeeaggaaDoor.SplitB Go.Proofs.YtcelfpgkeeaggaaDoor.SplitR Go.Proofs.YtcelfpgkeeaggaaDoor.Soliton Go.Proofs.YtcelfpgkeeaggaaDoor.SolitonB Go.Proofs.YtcelfpgkeeaggaaDoor.Draws Go.Proofs.YtcelfpgkeeaggaaDoor.DrawsP Go.Proofs.YtcelfpgkeeaggaaDoor.DrawsE Go.Proofs.YtcelfpgkeeaggaaDoor.DrawsF Go.Proofs.YtcelfpgkeeaggaaDoor.Enc Go.Proofs.YtcelfpgkeeaggaaDoor.EncE Go.Proofs.YtcelfpgkeeaggaaDoor.Pkt
set_option linter.unusedVariables false
set_option linter.unusedSimpArgs false

/-- the reference's source -/
def sC (id len z sp : Int) (v : Value) : Array Value := #[.int .i64 id, .int .i64 len, .int .i64 z, .int .i64 sp, v]
set_option maxHeartbeats 400000 in
theorem refNew_no (id : Int) (s : ByteArray) (size spread : Int) (w : World) (hs : s.size ≤ 9223372036854775807) (hi0 : -9223372036854775808 ≤ id) (hi1 : id ≤ 9223372036854775807) (hs0 : -9223372036854775808 ≤ size) (hs1 : size ≤ 9223372036854775807) (hp0 : -9223372036854775808 ≤ spread) (hp1 : spread ≤ 9223372036854775807) (hE : errN id s.size size spread ≠ 0) :
    Calls Tryd.prog 8 #[.int .i64 id, .string s, .int .i64 size, .int .i64 spread] w fun e w' => e = .returned (.tuple #[.agg (sC 0 0 0 0 (.slice none 0 0)), .int .i64 (errN id s.size size spread)]) ∧ Below w.heap.size w w' := by
  have HB0 := Aside0.mk (fun o => (Below.refl w.heap.size w).alloc (Nat.le_refl _) o)
  by_cases ha : id < 0
  · have HE := Aside0.mk (errN_arg (n := s.size) (size := size) (spread := spread) (.inl ha))
    clear hE
    go_enter Tryd.func8, Tryd.ntmps8
    go_wp2
    exact bodyPost_ret (v := .tuple #[.agg (sC 0 0 0 0 (.slice none 0 0)), .int .i64 1]) (by simp [results, Tryd.results8, go_sem, sC]) rfl ⟨by rw [HE.out], HB0.out _⟩
  · by_cases hb : 4294967295 < id
    · have HE := Aside0.mk (errN_arg (id := id) (n := s.size) (size := size) (spread := spread) (.inr (.inl (by omega))))
      clear hE
      go_enter Tryd.func8, Tryd.ntmps8
      go_wp2
      exact bodyPost_ret (v := .tuple #[.agg (sC 0 0 0 0 (.slice none 0 0)), .int .i64 1]) (by simp [results, Tryd.results8, go_sem, sC]) rfl ⟨by rw [HE.out], HB0.out _⟩
    · by_cases hc : spread < 0
      · have HE := Aside0.mk (errN_arg (id := id) (n := s.size) (size := size) (spread := spread) (.inr (.inr hc)))
        clear hE
        go_enter Tryd.func8, Tryd.ntmps8
        go_wp2
        exact bodyPost_ret (v := .tuple #[.agg (sC 0 0 0 0 (.slice none 0 0)), .int .i64 1]) (by simp [results, Tryd.results8, go_sem, sC]) rfl ⟨by rw [HE.out], HB0.out _⟩
      · have he := errN_split (id := id) (n := s.size) (size := size) (spread := spread) (by omega)
        rw [he] at hE
        obtain ⟨E, hEE⟩ : ∃ E, errP s.size size = E := ⟨_, rfl⟩
        have hsp := fun w => refSplit_no s size w hs hs0 hs1 hE
        rw [hEE] at hsp hE
        have HE := Aside0.mk (he.trans hEE)
        have hbn : (E != 0) = true := bne_iff_ne.2 hE
        clear he hEE
        go_enter Tryd.func8, Tryd.ntmps8
        go_wp2_with (go_at_call 22; go_must (refine (hsp _).mono ?_; rintro e w1 ⟨rfl, rfl⟩))
        exact bodyPost_ret (v := .tuple #[.agg (sC 0 0 0 0 (.slice none 0 0)), .int .i64 E]) (by simp [results, Tryd.results8, go_sem, sC]) rfl ⟨by rw [HE.out], HB0.out _⟩

set_option maxHeartbeats 400000 in
theorem refNew_ok (id : Int) (s : ByteArray) (spread : Int) (z K sp : Nat) (w : World) (hi0 : 0 ≤ id) (hi1 : id ≤ 4294967295) (hp0 : 0 ≤ spread) (hp1 : spread ≤ 9223372036854775807) (hs : s.size ≤ 8192) (hz1 : 1 ≤ z) (hz2 : z ≤ 64) (hK1 : 1 ≤ K) (hK : K ≤ 128) (hP : planP s.size z = K) (hE : errP s.size z = 0) (hsp : min spread (K : Int) = sp) :
    Calls Tryd.prog 8 #[.int .i64 id, .string s, .int .i64 z, .int .i64 spread] w fun e w' => ∃ ga c, e = .returned (.tuple #[.agg (sC id s.size z sp (.slice (some ⟨ga, 0, none⟩) K c)), .int .i64 0]) ∧ Kd.string.C w' (some ⟨ga, 0, none⟩) K (blocksN s z K) ∧ Below w.heap.size w w' := by
  have hspl := fun W => refSplit_ok s z K W hs hz1 hz2 hK1 hK hP hE
  have HS := Aside0.mk hsp
  clear hP hE hsp
  have hB0 := (Below.refl w.heap.size w).alloc (Nat.le_refl _) (.cells (sC 0 0 0 0 (.slice none 0 0)) 30)
  have HB0 := Aside0.mk hB0
  have HH0 : Aside0 ((w.alloc (.cells (sC 0 0 0 0 (.slice none 0 0)) 30)).heap[w.heap.size]? = some (.cells (sC 0 0 0 0 (.slice none 0 0)) 30 (0, 0))) := ⟨heap_alloc_new _ _⟩
  go_enter Tryd.func8, Tryd.ntmps8
  go_wp2_with fail
  refine (hspl _).mono ?_
  rintro e w1 ⟨v, rfl, hO, hB1⟩
  obtain ⟨ga, c, rfl, hc⟩ := own_some hO (by rw [List.length_map, blocksN_length]; omega)
  rw [List.length_map, blocksN_length] at hO hc ⊢
  obtain ⟨A', c', hv, _, hC⟩ := Own.C (enc := Value.string) (h1 := fun _ => rfl) hO
  rw [blocksN_length] at hv hC
  cases hv
  have HH1 := Aside0.mk ((hB1.block w.heap.size (by simp)).trans HH0.out)
  have HB1 := Aside0.mk (bthn HB0.out (Nat.le_refl _) hB1)
  have HC := Aside0.mk hC
  have HO := Aside0.mk hO
  clear hO hB1 hC hspl HB0 HH0 hB0
  have hX := HS.out
  generalize hMM : min spread (K : Int) = MM at *
  subst hX
  have hz1 := HB1.out.size
  go_wp2_with (first
    | (refine wpList_store_row rfl 30 (.tmp 8) (.tmp 42) rfl w.heap.size (sC id s.size z sp (.slice (some ⟨ga, 0, none⟩) K c)) (by rfl) (by simp [go_sem, sC, hMM]) 30 _ HH1.out (by kernel_rfl) rfl (by simp [sC, Value.oneCell']) ?_))
  have HH2 := setRow_heap _ _ _ (sC id s.size z sp (.slice (some ⟨ga, 0, none⟩) K c)) _ _ HH1.out
  have hg2 : w1.grownBy (w1.setRow w.heap.size (sC id s.size z sp (.slice (some ⟨ga, 0, none⟩) K c))) (some w.heap.size) := ⟨rfl, rfl, rfl, by simp, fun k _ hk => setRow_other _ _ k _ (fun e => hk (by rw [e]))⟩
  have hO2 := HO.out.grown hg2 (HO.out.ne_small (by simp))
  obtain ⟨A', c', hv, _, hC2⟩ := Own.C (enc := Value.string) (h1 := fun _ => rfl) hO2
  rw [blocksN_length] at hv hC2
  cases hv
  have HB2 := Aside0.mk (below_setRow HB1.out (Nat.le_refl _) (sC id s.size z sp (.slice (some ⟨ga, 0, none⟩) K c)))
  have HC2 := Aside0.mk hC2
  clear hO2 hC2 hg2 HC
  generalize w1.setRow w.heap.size _ = W2 at *
  have d0 : W2.cell? ⟨w.heap.size, 0, none⟩ = some (.int .i64 id) := by rw [cell_of_row _ _ 0 _ _ _ HH2]; rfl
  have d1 : W2.cell? ⟨w.heap.size, 1, none⟩ = some (.int .i64 s.size) := by rw [cell_of_row _ _ 1 _ _ _ HH2]; rfl
  have d2 : W2.cell? ⟨w.heap.size, 2, none⟩ = some (.int .i64 z) := by rw [cell_of_row _ _ 2 _ _ _ HH2]; rfl
  have d3 : W2.cell? ⟨w.heap.size, 3, none⟩ = some (.int .i64 sp) := by rw [cell_of_row _ _ 3 _ _ _ HH2]; rfl
  have d4 : W2.cell? ⟨w.heap.size, 4, none⟩ = some (.slice (some ⟨ga, 0, none⟩) K c) := by rw [cell_of_row _ _ 4 _ _ _ HH2]; rfl
  exact bodyPost_ret (v := .tuple #[.agg (sC id s.size z sp (.slice (some ⟨ga, 0, none⟩) K c)), .int .i64 0]) (by simp [results, Tryd.results8, go_sem, sC, d0, d1, d2, d3, d4]) rfl ⟨ga, c, rfl, HC2.out, HB2.out⟩

theorem set7_grown (w : World) (p : Nat) (a0 a1 a2 a3 a4 a5 a6 : Value) : w.grownBy (((((((w.setCell ⟨p, 0, none⟩ a0).setCell ⟨p, 1, none⟩ a1).setCell ⟨p, 2, none⟩ a2).setCell ⟨p, 3, none⟩ a3).setCell ⟨p, 4, none⟩ a4).setCell ⟨p, 5, none⟩ a5).setCell ⟨p, 6, none⟩ a6) (some p) := by
  have h : ∀ (w : World) (i : Nat) (u : Value), w.grownBy (w.setCell ⟨p, i, none⟩ u) (some p) := fun w i u => ⟨rfl, rfl, rfl, by simp, fun k _ hk => Below.heap_setCell _ _ _ _ (fun e => hk (by simp [e]))⟩
  exact ((((((h w 0 a0).trans (h _ 1 a1)).trans (h _ 2 a2)).trans (h _ 3 a3)).trans (h _ 4 a4)).trans (h _ 5 a5)).trans (h _ 6 a6)
theorem set7_heap {w : World} {p : Nat} {T : TypeId} {c0 c1 c2 c3 c4 c5 c6 : Value} (h : w.heap[p]? = some (.cells #[c0, c1, c2, c3, c4, c5, c6] T (0, 0))) (a0 a1 a2 a3 a4 a5 a6 : Value) : (((((((w.setCell ⟨p, 0, none⟩ a0).setCell ⟨p, 1, none⟩ a1).setCell ⟨p, 2, none⟩ a2).setCell ⟨p, 3, none⟩ a3).setCell ⟨p, 4, none⟩ a4).setCell ⟨p, 5, none⟩ a5).setCell ⟨p, 6, none⟩ a6).heap[p]? = some (.cells #[a0, a1, a2, a3, a4, a5, a6] T (0, 0)) := by
  have := blk_set (blk_set (blk_set (blk_set (blk_set (blk_set (blk_set h 0 a0) 1 a1) 2 a2) 3 a3) 4 a4) 5 a5) 6 a6
  simpa using this

set_option maxHeartbeats 1000000 in
theorem refEmit_any (b h : Nat) (id : Int) (s : ByteArray) (z K sp ga c : Nat) (l : List UInt64) (N : Nat) (w0 w : World) (hC : Kd.string.C w0 (some ⟨ga, 0, none⟩) K (blocksN s z K)) (hB0 : Below w0.heap.size w0 w) (h0h : w0.heap.size ≤ h) (hD : Drw w b h 53 l N)
    (hN : N ≤ 1099511627) (hK : K ≤ 128) (hK1 : 1 ≤ K) (hsK : sp ≤ K) (hz64 : z ≤ 281474976710656) :
    Calls Tryd.prog 18 #[.agg (sC id s.size z sp (.slice (some ⟨ga, 0, none⟩) K c)), .pointer (some ⟨h, 0, none⟩)] w fun e w' => ∃ v, e = .returned (.agg (pkC id s.size K z 0 v (ofS (blocksN s z K) (emitV l N K sp)))) ∧ Own w' w.heap.size 38 v ((emitV l N K sp).map encW) ∧ Drw w' b h 53 l (N + 1 + cntE l N K sp) ∧ w.grownBy w' (some h) := by
  have hhl : h < w.heap.size := hD.lt
  have hbd := hD.bg
  have HD := Aside0.mk hD
  have HC := Aside0.mk hC
  have HB0 := Aside0.mk hB0
  have hdg := deg_range l N K sp hK1
  clear hC hD hB0
  go_enter Tryd.func18, Tryd.ntmps18
  go_upto_region 1 with fail
  generalize hW2 : (w.alloc _).alloc _ = W2
  obtain ⟨r, hr⟩ : ∃ r, r = w.heap.size := ⟨_, rfl⟩
  obtain ⟨p, hp⟩ : ∃ p, p = w.heap.size + 1 := ⟨_, rfl⟩
  have HX2 : Aside0 (W2.heap[r]? = some (.cells (sC id s.size z sp (.slice (some ⟨ga, 0, none⟩) K c)) 30 (0, 0))) := ⟨by rw [← hW2, hr]; exact heap_alloc2_old _ _ _⟩
  have HP2 : Aside0 (W2.heap[p]? = some (.cells (pkC 0 0 0 0 0 (.slice none 0 0) ⟨#[]⟩) 43 (0, 0))) := ⟨by rw [← hW2, hp]; exact heap_alloc2_new _ _ _⟩
  have HB2 : Aside0 (Below w.heap.size w W2) := ⟨by rw [← hW2]; exact ((Below.refl _ _).alloc (Nat.le_refl _) _).alloc (by simp) _⟩
  have hz2 : W2.heap.size = p + 1 := by rw [← hW2, hp]; simp
  have hrp : r + 1 ≤ p := by omega
  have hhr : h < r := by omega
  have hrw1 : r ≤ w.heap.size := by omega
  have hrw2 : w.heap.size ≤ r := by omega
  have hpw : p ≤ w.heap.size + 1 := by omega
  rw [← hp, ← hr]
  have HD2 := Aside0.mk (HD.out.below HB2.out)
  clear hW2 hr hp HD
  have x3 : W2.cell? ⟨r, 3, none⟩ = some (.int .i64 sp) := by rw [cell_of_row _ _ 3 _ _ _ HX2.out]; rfl
  have x4 : W2.cell? ⟨r, 4, none⟩ = some (.slice (some ⟨ga, 0, none⟩) K c) := by rw [cell_of_row _ _ 4 _ _ _ HX2.out]; rfl
  go_wp2_with fail
  refine (refTable_any K sp W2 hK1 hK hsK).mono ?_
  rintro e w3 ⟨v3, rfl, hO3, hB3⟩
  obtain ⟨A3, c3, rfl, _, hC3⟩ := hO3.C_int
  have HD3 := HD2.out.below hB3
  have hnx := refNext_any b h 53 l N w3 HD3 (by omega)
  rw [show encW (nextV l N) = .int .u64 ((nextV l N).toNat : Int) from rfl] at hnx
  have hV := (nextV l N).toNat_lt
  have HDg : Aside0 (pickI (tabN K sp) ((nextV l N).toNat : Int) = degI l N K sp) := ⟨rfl⟩
  generalize (nextV l N).toNat = V at *
  have HB3 := Aside0.mk hB3
  have HC3 := Aside0.mk hC3
  have HO3 := Aside0.mk hO3
  clear hB3 hC3 hO3 HD3 x3 x4
  go_wp2_with fail
  refine hnx.mono ?_
  rintro e w4 ⟨rfl, hD4, hG4⟩
  have hC4 : (Kd.int .i64).C w4 A3 (tabN K sp).length (tabN K sp) := by
    have := (HO3.out.grown hG4 (HO3.out.ne_small (by omega))).C_int
    obtain ⟨A', c', hv, _, hC⟩ := this
    cases hv
    exact hC
  have hpk := refPick_any A3 c3 (tabN K sp) (V : Int) w4 hC4 (SolitonL.fewI_tab K sp hK1 hK hsK) (by omega) (by omega)
  rw [HDg.out] at hpk
  have HB4 : Aside0 (W2.grownBy w4 (some h)) := ⟨(grown_of_below HB3.out _).trans hG4⟩
  have HD4 := Aside0.mk hD4
  obtain ⟨hd0, hd1⟩ := hdg
  have hkk : Aside0 (min (max (degI l N K sp) 0) (K : Int) = cntE l N K sp) := ⟨by unfold cntE; omega⟩
  clear hC4 hG4 hD4 hnx HB3 HC3 HO3
  go_wp2_with fail
  refine hpk.mono ?_
  rintro e w5 ⟨rfl, rfl⟩
  clear hpk HDg
  have hdst := refDistinct_any b h 53 l (N + 1) K (cntE l N K sp) (degI l N K sp) w4 HD4.out (by omega) hK (by omega) (by omega) hkk.out
  have hrs : resD l (N + 1) K (cntE l N K sp) = resE l N K sp := rfl
  rw [hrs] at hdst
  have hLr := fun x hx => resE_range l N K sp x hx
  have hLl : (resE l N K sp).length ≤ 128 := by rcases resE_length l N K sp with hh | hh <;> omega
  have HE : Aside0 (setsN (List.replicate (sizeN K) 0) (resE l N K sp) (resE l N K sp).length = emitV l N K sp) := ⟨rfl⟩
  have hvl := fun k => setsN_length (List.replicate (sizeN K) 0) (resE l N K sp) k
  simp only [List.length_replicate] at hvl
  clear hrs
  generalize resE l N K sp = L at *
  have HLr := Aside0.mk hLr
  have HVl := Aside0.mk hvl
  clear hLr hvl
  go_wp2_with fail
  refine hdst.mono ?_
  rintro e w5 ⟨v5, rfl, hO5, hD5, hG5⟩
  obtain ⟨A5, c5, rfl, hc5, hC5⟩ := hO5.C_int
  have HB5 : Aside0 (W2.grownBy w5 (some h)) := ⟨HB4.out.trans hG5⟩
  have HD5 := Aside0.mk hD5
  have HC5 := Aside0.mk hC5
  have hsz := sizeW_nat K hK1 hK
  have hs := fun W => refSize_any (K : Int) W (by omega) (by omega)
  rw [hsz] at hs
  have hM2 : sizeN K ≤ 2 := by unfold sizeN; omega
  have hM1 : 1 ≤ sizeN K := by unfold sizeN; omega
  have hM3 : ∀ i : Nat, i < K → i / 64 < sizeN K := by intro i hi; unfold sizeN; omega
  have HM3 := Aside0.mk hM3
  have hmk := print_make (P := Tryd.prog) 39 38 .u64 8 Tryd.underlying39 Words.info_u64 (by decide) (sizeN K) (by omega)
  have HO := Own.of_row (own_made w5 w5.heap.size 38 .u64 (sizeN K) (Nat.le_refl _) (by omega))
  rw [nums_zeros] at HO
  have HO := Aside0.mk HO
  have HB6 : Aside0 (Below w5.heap.size w5 (w5.alloc (.cells (madeCells #[.int .u64 0] (sizeN K)) 38))) := ⟨(Below.refl _ _).alloc (Nat.le_refl _) _⟩
  have hz5 : p + 1 ≤ w5.heap.size := by have := HB5.out.size; omega
  clear hsz hM3 hO5 hD5 hG5 hC5 hdst hkk HB4 HD4 HD2
  go_wp2_with (go_at_call 33; refine (hs _).mono ?_; rintro e w2 ⟨rfl, rfl⟩)
  clear hs hmk
  go_loopw [8, 9] (fun v i wr => ∃ k : Nat, k ≤ L.length ∧ i = .int .i64 k ∧ Aside0 (Own wr w5.heap.size 38 v ((setsN (List.replicate (sizeN K) 0) L k).map encW)) ∧ Aside0 (Below w5.heap.size w5 wr))
    (fun _ i _ => L.length - (intOf i).toNat)
  case atStart => exact ⟨0, Nat.zero_le _, rfl, HO, HB6⟩
  case round =>
    obtain ⟨k, hk, rfl, HV, HG⟩ := hrel
    obtain ⟨Av, cv, rfl, _, hVC⟩ := HV.out.Cw
    by_cases hlt : k < L.length
    · obtain ⟨ad, rfl, hcell⟩ := at_i (Kd.C_below HC5.out HG.out) k hlt
      obtain ⟨hi0, hi1⟩ := HLr.out _ (List.getElem_mem hlt)
      have hgd : L.getD k 0 = L[k] := by rw [List.getD_eq_getElem?_getD, List.getElem?_eq_getElem hlt]; rfl
      obtain ⟨i, hi⟩ := Int.eq_ofNat_of_zero_le hi0
      rw [hi] at hcell hi1 hgd
      have HS : Aside0 (setsN (List.replicate (sizeN K) 0) L (k + 1) = setW (setsN (List.replicate (sizeN K) 0) L k) i true) := ⟨by rw [setsN, hgd]; rfl⟩
      have hst := refSet_any Av cv _ i true wr hVC (by rw [HVl.out]; exact HM3.out i (by omega)) (by rw [HVl.out]; omega)
      clear hgd hi hVC hi0
      go_wp2_with fail
      refine hst.mono ?_
      rintro e w6 ⟨v6, rfl, hO6, hB6⟩
      have HO6 : Aside0 (Own w6 w5.heap.size 38 v6 ((setsN (List.replicate (sizeN K) 0) L (k + 1)).map encW)) := ⟨by rw [HS.out]; exact hO6.lower HG.out.size⟩
      have HG6 := Aside0.mk (bthn HG.out (Nat.le_refl _) hB6)
      clear hO6 hB6 hst
      go_wp2
      go_roundw
      case rel => exact ⟨k + 1, by omega, by go_num, HO6, HG6⟩
      case measure => simp [intOf]; omega
    · obtain rfl : k = L.length := by omega
      have HX6 := Aside0.mk ((HG.out.block r (by omega)).trans ((HB5.out.block r (by omega) (fun e => by injection e; omega)).trans HX2.out))
      have HP6 := Aside0.mk ((HG.out.block p (by omega)).trans ((HB5.out.block p (by omega) (fun e => by injection e; omega)).trans HP2.out))
      have hgr6 : w.grownBy wr (some h) := ((grown_of_below HB2.out _).trans HB5.out).trans (grown_of_below HG.out _)
      have HG6 := Aside0.mk hgr6
      have hB06 : Below w0.heap.size w0 wr := HB0.out.grown hgr6 (by have := HB0.out.size; omega) (fun k hk => by cases hk; exact h0h)
      have hC6 : Kd.string.C wr.drew (some ⟨ga, 0, none⟩) (blocksN s z K).length (blocksN s z K) := by rw [blocksN_length]; exact Kd.C_below HC.out hB06.drew
      have hof := XorB.refOf_any (some ⟨ga, 0, none⟩) Av c cv (blocksN s z K) (setsN (List.replicate (sizeN K) 0) L L.length) wr.drew hC6 hVC (fun s' hs' => by
        obtain ⟨j, hj, rfl⟩ := List.getElem_of_mem hs'
        rw [show (blocksN s z K)[j] = blockN s z j by simp [blocksN], SplitR.blockN_size]; exact hz64)
      rw [blocksN_length] at hof
      rw [HE.out] at hof HV ⊢
      have y0 : wr.cell? ⟨r, 0, none⟩ = some (.int .i64 id) := by rw [cell_of_row _ _ 0 _ _ _ HX6.out]; rfl
      have y1 : wr.cell? ⟨r, 1, none⟩ = some (.int .i64 s.size) := by rw [cell_of_row _ _ 1 _ _ _ HX6.out]; rfl
      have y2 : wr.cell? ⟨r, 2, none⟩ = some (.int .i64 z) := by rw [cell_of_row _ _ 2 _ _ _ HX6.out]; rfl
      have y4 : wr.cell? ⟨r, 4, none⟩ = some (.slice (some ⟨ga, 0, none⟩) K c) := by rw [cell_of_row _ _ 4 _ _ _ HX6.out]; rfl
      have hzr : p + 1 ≤ wr.heap.size := Nat.le_trans hz5 HG.out.size
      have HV6 := Aside0.mk (HV.out.lower (show w.heap.size + 2 ≤ w5.heap.size by omega))
      have HD6 := Aside0.mk (HD5.out.below HG.out)
      clear hC6 hVC hgr6 hB06 HV HG
      go_upto_region 9 with fail
      have hrp1 : r ≠ p := by omega
      have hrp2 : p ≠ r := by omega
      have HY : Aside0 (wr.drew.cell? ⟨r, 0, none⟩ = some (.int .i64 id) ∧ wr.drew.cell? ⟨r, 1, none⟩ = some (.int .i64 s.size) ∧ wr.drew.cell? ⟨r, 2, none⟩ = some (.int .i64 z) ∧ wr.drew.cell? ⟨r, 4, none⟩ = some (.slice (some ⟨ga, 0, none⟩) K c)) := ⟨⟨y0, y1, y2, y4⟩⟩
      go_region_held3 (fun w' => w'.cell? ⟨r, 0, none⟩ = some (.int .i64 id) ∧ w'.cell? ⟨r, 1, none⟩ = some (.int .i64 s.size) ∧ w'.cell? ⟨r, 2, none⟩ = some (.int .i64 z) ∧ w'.cell? ⟨r, 4, none⟩ = some (.slice (some ⟨ga, 0, none⟩) K c))
        (first
          | go_keep
          | with_reducible exact ⟨pw_cell_below HB7.out HY.out.1, pw_cell_below HB7.out HY.out.2.1, pw_cell_below HB7.out HY.out.2.2.1, pw_cell_below HB7.out HY.out.2.2.2⟩)
        (first
          | (go_at_call 41; refine hof.mono ?_; rintro e w7 ⟨rfl, hB7⟩; have HPn := (hB7.block p hzr).trans HP6.out; have p0 := blk_cell HPn 0; have p1 := blk_cell HPn 1; have p2 := blk_cell HPn 2; have p3 := blk_cell HPn 3; have p4 := blk_cell HPn 4; have p5 := blk_cell HPn 5; have p6 := blk_cell HPn 6; have f0 := blk_frozen HPn 0; have f1 := blk_frozen HPn 1; have f2 := blk_frozen HPn 2; have f3 := blk_frozen HPn 3; have f4 := blk_frozen HPn 4; have f5 := blk_frozen HPn 5; have f6 := blk_frozen HPn 6; simp [pkC] at p0 p1 p2 p3 p4 p5 p6; have HPN := Aside0.mk HPn; have HB7 := Aside0.mk hB7; clear HPn hB7))
      all_goals
        have hgx := set7_grown w7 p (.int .i64 id) (.int .i64 s.size) (.int .i64 K) (.int .i64 z) (.int .i64 0) (.slice Av (emitV l N K sp).length cv) (.string (ofS (blocksN s z K) (emitV l N K sp)))
        have hhx := set7_heap HPN.out (.int .i64 id) (.int .i64 s.size) (.int .i64 K) (.int .i64 z) (.int .i64 0) (.slice Av (emitV l N K sp).length cv) (.string (ofS (blocksN s z K) (emitV l N K sp)))
        clear p0 p1 p2 p3 p4 p5 p6 f0 f1 f2 f3 f4 f5 f6
        generalize ((((((w7.setCell ⟨p, 0, none⟩ (.int .i64 id)).setCell ⟨p, 1, none⟩ (.int .i64 s.size)).setCell ⟨p, 2, none⟩ (.int .i64 K)).setCell ⟨p, 3, none⟩ (.int .i64 z)).setCell ⟨p, 4, none⟩ (.int .i64 0)).setCell ⟨p, 5, none⟩ (.slice Av (emitV l N K sp).length cv)).setCell ⟨p, 6, none⟩ (.string (ofS (blocksN s z K) (emitV l N K sp))) = W8 at *
        have HPp := Aside0.mk hhx
        have hg8 := hgx
        have HV8 := Aside0.mk (((HV6.out.drew).below HB7.out).grown hg8 (((HV6.out.drew).below HB7.out).ne_small (by omega)))
        have HD8 := Aside0.mk (((HD6.out.drewN 1).below HB7.out).other (fun k hk => by cases hk; omega) hg8)
        have HG8 := Aside0.mk (grown_of_fresh ((grown_drew HG6.out).trans (grown_of_below HB7.out _)) hg8 (fun k hk => by cases hk; omega))
        clear hg8 hhx hgx
        go_wp2_with fail
        refine bodyPost_ret (results_cell_row (fn := Tryd.f18) (p := 4) (ty := 43) rfl _ _ p 43 _ (0, 0) _ rfl HPp.out Tryd.underlying43 rfl (by kernel_rfl)) rfl ?_
        exact ⟨_, rfl, HV8.out.lower (by omega), HD8.out, HG8.out⟩

end Go.Proofs.YtcelfpgkeeaggaaDoor.EncR
