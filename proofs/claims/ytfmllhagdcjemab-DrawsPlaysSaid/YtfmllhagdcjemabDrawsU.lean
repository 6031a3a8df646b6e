/- The walk of the law DrawsPlays. -/
import Derived.Test.YtfmllhagdcjemabDrawsW
import Derived.Test.YtfmllhagdcjemabOpen
namespace Go.Proofs.Ytfmllhagdcjemab.DrawsU
open Go Go.RowKit Go.Proofs.YtfmllhagdcjemabW.PrintWords Go.Proofs.Ytfmllhagdcjemab.Base Go.Proofs.Ytfmllhagdcjemab.Open Go.Proofs.Ytfmllhagdcjemab.Draws Go.Proofs.Ytfmllhagdcjemab.DrawsP Go.Proofs.Ytfmllhagdcjemab.DrawsD Go.Proofs.Ytfmllhagdcjemab.DrawsE Go.Proofs.Ytfmllhagdcjemab.DrawsF Go.Proofs.Ytfmllhagdcjemab.DrawsW
set_option linter.unusedVariables false
set_option linter.unusedSimpArgs false

def KAsk : Kd (I64 × I64) := Kd.pair KI KI
theorem opens_ask : Opens Try.prog KAsk 31 :=
  opens_struct2 Try.underlying31 (by kernel_rfl) rfl rfl (by kernel_rfl) (by kernel_rfl) (opens_i64 Try.underlying3) (opens_i64 Try.underlying3)
theorem at_ask {w : World} {A : Option Addr} {n : Nat} {xs : List (I64 × I64)} (h : KAsk.C w A n xs) (k : Nat) (hk : k < xs.length) :
    ∃ ad, A = some ad ∧ w.cell? (ad.add (k * 2)) = some (.int .i64 (xs[k]).1.val) ∧ w.cell? ⟨(ad.add (k * 2)).block, (ad.add (k * 2)).off + 1, none⟩ = some (.int .i64 (xs[k]).2.val) := by
  obtain ⟨ad, e, hc⟩ := h.2.2 (by have := h.1; omega)
  obtain ⟨c, _, hK, hcell⟩ := hc k _ (List.getElem?_eq_getElem hk)
  obtain ⟨_, _, rfl, h0, h1⟩ := hK
  have e0 : _ = [Value.int .i64 (xs[k]).1.val] := h0
  have e1 : _ = [Value.int .i64 (xs[k]).2.val] := h1
  subst e0 e1
  exact ⟨ad, e, hcell 0 _ rfl, by rw [← add_field _ _ 1 (by omega)]; exact hcell 1 _ rfl⟩

theorem Ints_same (A B : Option Addr) (ca cb : Nat) (L : List Int) (w : World) (hA : (Kd.int .i64).C w A L.length L) (hB : (Kd.int .i64).C w B L.length L) :
    Calls Try.prog 12 #[.slice A L.length ca, .slice B L.length cb] w fun e w' => e = .returned (.bool true) ∧ Below w.heap.size w w' := by
  refine (Ints.Ints_any A B ca cb L L w hA hB).mono ?_
  rintro e w' ⟨rfl, hb⟩
  exact ⟨by rw [decide_eq_true rfl], hb⟩
theorem moveC {w1 w2 : World} {base h c : Nat} {A : Option Addr} {L : List Int} (hO : Own w1 base 3 (.slice A L.length c) (nums .i64 L)) (hG : w1.grownBy w2 (some h)) (hh : h < base) : (Kd.int .i64).C w2 A L.length L := by
  obtain ⟨A7, c7, hv7, hc7, hC7⟩ := (hO.grown hG (hO.ne_small hh)).C_int
  cases hv7
  exact hC7

set_option maxHeartbeats 1600000 in
theorem DrawsPlays (A B : Option Addr) (c cb : Nat) (l : List UInt64) (asks : List (I64 × I64)) (w : World) (hC : Kw.C w A l.length l) (hB : KAsk.C w B asks.length asks) (hsp : ∀ ad, A = some ad → ad.spot = none) :
    Calls Try.prog 3 #[.slice A l.length c, .slice B asks.length cb] w fun e w' => e = .returned (.bool true) ∧ Below w.heap.size w w' := by
  have hm := C_max hC
  have hm2 := C_max hB
  by_cases h3 : 1000 < l.length
  · go_enter Try.func3, Try.ntmps3
    go_wp2_with fail
    refine (awake_any w).mono ?_
    rintro e w2 ⟨rfl, hb⟩
    go_wp2
    go_ret
    exact ⟨rfl, hb⟩
  · by_cases h5 : 50 < asks.length
    · go_enter Try.func3, Try.ntmps3
      go_wp2_with fail
      refine (awake_any w).mono ?_
      rintro e w2 ⟨rfl, hb⟩
      go_wp2
      go_ret
      exact ⟨rfl, hb⟩
    · have hnew := New_any A c l w hC hsp (by omega)
      have HC := Aside0.mk hC
      have HBk := Aside0.mk hB
      clear hC hB
      go_enter Try.func3, Try.ntmps3
      go_wp2_with fail
      refine hnew.mono ?_
      rintro e w2 ⟨b, g, rfl, hbb, hD, hb2⟩
      have hbg := hD.bg
      have hgl := hD.lt
      have HD2 : Aside0 (Drw (w2.alloc (.cells #[.slice A l.length c, .int .i64 0] 29)) b g 48 l 0) := ⟨hD.below ((Below.refl _ _).alloc (Nat.le_refl _) _)⟩
      have HE2 : Aside0 (Drw (w2.alloc (.cells #[.slice A l.length c, .int .i64 0] 29)) w.heap.size w2.heap.size 29 l 0) := ⟨w, A, c, rfl, HC.out, hb2.size, hb2.alloc hb2.size _, heap_alloc_new _ _⟩
      have HB2 : Aside0 (Below w.heap.size w (w2.alloc (.cells #[.slice A l.length c, .int .i64 0] 29))) := ⟨hb2.alloc hb2.size _⟩
      have hw2 := hb2.size
      clear hD hb2 hnew
      go_wp2_with fail
      generalize w2.alloc _ = W2 at *
      obtain ⟨h, hh⟩ : ∃ h, h = w2.heap.size := ⟨_, rfl⟩
      rw [← hh] at HE2 hgl hw2 ⊢
      clear hh
      go_loopw [7] (fun i wr => ∃ k Nk : Nat, k ≤ asks.length ∧ Nk ≤ 128 * k ∧ i = .int .i64 k ∧ Aside0 (Drw wr b g 48 l Nk) ∧ Aside0 (Drw wr w.heap.size h 29 l Nk) ∧ Aside0 (Below w.heap.size w wr)) (fun i _ => asks.length - (intOf i).toNat)
      case atStart => exact ⟨0, 0, Nat.zero_le _, Nat.zero_le _, rfl, HD2, HE2, HB2⟩
      case round =>
        obtain ⟨k, Nk, hk, hNk, rfl, HD, HE, HG⟩ := hrel
        by_cases hlt : k < asks.length
        · obtain ⟨ad, rfl, ha1, ha2⟩ := at_ask (Kd.C_below HBk.out HG.out) k hlt
          obtain ⟨an, han⟩ : ∃ an, an = (asks[k]).1.val := ⟨_, rfl⟩
          obtain ⟨ak, hak⟩ : ∃ ak, ak = (asks[k]).2.val := ⟨_, rfl⟩
          have hn0 : -9223372036854775808 ≤ an ∧ an ≤ 9223372036854775807 := by rw [han]; exact (asks[k]).1.property
          have hk0 : -9223372036854775808 ≤ ak ∧ ak ≤ 9223372036854775807 := by rw [hak]; exact (asks[k]).2.property
          rw [← han] at ha1
          rw [← hak] at ha2
          clear han hak
          obtain ⟨hn0, hn1⟩ := hn0
          obtain ⟨hk0, hk1⟩ := hk0
          go_upto_region 9 with fail
          obtain ⟨W4, hW4⟩ : ∃ W4, W4 = wr.alloc (.cells #[.int .i64 an, .int .i64 ak] 31) := ⟨_, rfl⟩
          rw [← hW4]
          have hB4 : Below wr.heap.size wr W4 := by rw [hW4]; exact (Below.refl _ _).alloc (Nat.le_refl _) _
          have hbl : W4.heap[wr.heap.size]? = some (.cells #[.int .i64 an, .int .i64 ak] 31 (0, 0)) := by rw [hW4]; exact heap_alloc_new _ _
          have hz4 : wr.heap.size < W4.heap.size := by rw [hW4]; simp
          obtain ⟨x, hx⟩ : ∃ x, x = wr.heap.size := ⟨_, rfl⟩
          have hgx : g < x := by rw [hx]; exact HD.out.lt
          have hhx : h < x := by rw [hx]; exact HE.out.lt
          have hD4 := HD.out.below hB4
          have hE4 := HE.out.below hB4
          have hG4 := bthn HG.out (Nat.le_refl _) hB4
          rw [← hx] at hbl hz4 ⊢
          have HD4 := Aside0.mk hD4
          have HE4 := Aside0.mk hE4
          have HG4 := Aside0.mk hG4
          have HBL := Aside0.mk hbl
          clear hW4 hB4 hx hD4 hE4 hG4 HD HE HG ha1 ha2
          have c0 : W4.cell? ⟨x, 0, none⟩ = some (.int .i64 an) := by rw [cell_of_row W4 x 0 _ _ _ hbl]; rfl
          have c1 : W4.cell? ⟨x, 1, none⟩ = some (.int .i64 ak) := by rw [cell_of_row W4 x 1 _ _ _ hbl]; rfl
          clear hbl
          by_cases hneg : ak < 0
          · have d0 : decide (ak < 0) = true := decide_eq_true hneg
            go_upto_region 10 with fail
            go_cut [44] (fun v wx => v = .bool false ∧ ∃ M : Nat, M ≤ Nk + 128 ∧ Aside0 (Drw wx b g 48 l M) ∧ Aside0 (Drw wx w.heap.size h 29 l M) ∧ Aside0 (Below w.heap.size w wx))
            case first =>
              have hb1 := Below_any b g _ l Nk an W4.drew (HD4.out.drewN 1) (by omega) hn0 hn1
              have hb2 := fun w' (hE : Drw w' w.heap.size h 29 l Nk) => refBelow_any w.heap.size h _ l Nk an w' hE (by omega) hn0 hn1
              have hNb : belowN Nk an ≤ Nk + 1 := by rw [belowN]; split <;> omega
              generalize belowV l Nk an = V at hb1 hb2
              generalize belowN Nk an = M at hb1 hb2 hNb
              have hne : (V != V) = false := bne_eq_false_iff_eq.2 rfl
              go_region_law (first
                | (go_simp; go_at_call 10; go_must (refine hb1.mono ?_; rintro e w5 ⟨rfl, hD5, hG5⟩; have hE5 := (HE4.out.drewN 1).grown (Nat.le_trans hbb hbg) (by omega) hG5; have hbl5 := (hG5.block x hz4 (fun e => by injection e; omega)).trans HBL.out; have c5 := cell_of_row w5 x 0 _ _ _ hbl5; have c5' : w5.cell? ⟨x, 0, none⟩ = some (.int .i64 an) := c5))
                | (go_simp; go_at_call 11; go_must (refine (hb2 _ hE5).mono ?_; rintro e w6 ⟨rfl, hE6, hG6⟩)))
              all_goals
                go_wp2_with fail
                go_meet
                exact ⟨rfl, M, by omega, ⟨hD5.grown (by have := hD5.ble; have := hD5.bg; omega) (by omega) hG6⟩, ⟨hE6⟩, ⟨below_grown (below_grown (HG4.out.drew) HG4.out.size hG5 (Nat.le_trans hbb hbg)) (Nat.le_trans HG4.out.size hG5.size) hG6 hw2⟩⟩
            case rest =>
              obtain ⟨rfl, M, hM, HD7, HE7, HG7⟩ := hcut
              have hu := Used_any b g _ l M wc.drew (HD7.out.drewN 1)
              obtain ⟨wq, Aq, cq, _, _, _, _, hq5⟩ := HE7.out
              have k1 : wc.cell? ⟨h, 1, none⟩ = some (.int .i64 M) := by rw [cell_of_row wc h 1 _ _ _ hq5]; rfl
              clear hq5
              have hnm : ((M : Int) != (M : Int)) = false := bne_eq_false_iff_eq.2 rfl
              go_upto_region 14 with fail
              go_region_law (first
                | (go_simp; go_at_call 15; go_must (refine hu.mono ?_; rintro e w8 ⟨rfl, rfl⟩)))
              all_goals go_wp2
              all_goals go_roundw
              all_goals first
                | (case rel => exact ⟨k + 1, M, by omega, by omega, by go_num, ⟨HD7.out.drewN 1⟩, ⟨HE7.out.drewN 1⟩, ⟨HG7.out.drew⟩⟩)
                | (simp [intOf]; omega)
          · have d0 : decide (ak < 0) = false := decide_eq_false hneg
            go_upto_region 12 with fail
            go_cut [58] (fun v wx => v = .bool false ∧ ∃ M : Nat, M ≤ Nk + 128 ∧ Aside0 (Drw wx b g 48 l M) ∧ Aside0 (Drw wx w.heap.size h 29 l M) ∧ Aside0 (Below w.heap.size w wx))
            case first =>
              by_cases hok : okDst an
              · obtain ⟨n, rfl⟩ := Int.eq_ofNat_of_zero_le hok.1
                have hn : n ≤ 128 := by have := hok.2; omega
                obtain ⟨K, hK⟩ : ∃ K : Nat, min (max ak 0) (n : Int) = K := ⟨(min (max ak 0) (n : Int)).toNat, by omega⟩
                have hKn : K ≤ 128 := by omega
                obtain ⟨L, hb1, hb2⟩ : ∃ L : List Int, (Calls Try.prog 13 #[.pointer (some ⟨g, 0, none⟩), .int .i64 n, .int .i64 ak] W4.drew fun e w' => ∃ A5 c5, e = .returned (.slice A5 L.length c5) ∧ Own w' W4.heap.size 3 (.slice A5 L.length c5) (nums .i64 L) ∧ Drw w' b g 48 l (Nk + K) ∧ W4.drew.grownBy w' (some g)) ∧
                    ∀ w', Drw w' w.heap.size h 29 l Nk → Calls Try.prog 14 #[.pointer (some ⟨h, 0, none⟩), .int .i64 n, .int .i64 ak] w' fun e w6 => ∃ A6 c6, e = .returned (.slice A6 L.length c6) ∧ (Kd.int .i64).C w6 A6 L.length L ∧ Drw w6 w.heap.size h 29 l (Nk + K) ∧ w'.grownBy w6 (some h) := by
                  refine ⟨resD l Nk n K, (Distinct_any b g _ l Nk n K ak W4.drew (HD4.out.drewN 1) (by omega) hn hk0 hk1 hK).mono ?_, fun w' hE => (refDistinct_any w.heap.size h _ l Nk n K ak w' hE (by omega) hn hk0 hk1 hK).mono ?_⟩
                  · rintro e w5 ⟨v5, rfl, hO5, hD5, hG5⟩
                    obtain ⟨A5, c5, rfl, hc5, hC5⟩ := hO5.C_int
                    exact ⟨A5, c5, rfl, hO5, hD5, hG5⟩
                  · rintro e w5 ⟨v5, rfl, hO5, hD5, hG5⟩
                    obtain ⟨A5, c5, rfl, hc5, hC5⟩ := hO5.C_int
                    exact ⟨A5, c5, rfl, hC5, hD5, hG5⟩
                have hX1 : some x ≠ some g := fun e => by injection e; omega
                have hX2 : some x ≠ some h := fun e => by injection e; omega
                have HX := Aside0.mk (And.intro hX1 hX2)
                have HQ := Aside0.mk (And.intro c0 c1)
                have hhs : h < W4.heap.size := Nat.lt_trans hhx hz4
                have hgh : h ≠ g := by omega
                have hwg : w.heap.size ≤ g := Nat.le_trans hbb hbg
                clear hK hok c0 c1 hX1 hX2
                have c0 := HQ.out.1
                have c1 := HQ.out.2
                go_region_held3 (fun w' => w'.cell? ⟨x, 0, none⟩ = some (.int .i64 n) ∧ w'.cell? ⟨x, 1, none⟩ = some (.int .i64 ak))
                  (first
                    | go_keep
                    | exact ⟨cell_apart hG5 HQ.out.1 HX.out.1, cell_apart hG5 HQ.out.2 HX.out.1⟩
                    | exact ⟨cell_apart hG6 (cell_apart hG5 HQ.out.1 HX.out.1) HX.out.2, cell_apart hG6 (cell_apart hG5 HQ.out.2 HX.out.1) HX.out.2⟩
                    | exact ⟨pw_cell_below hb7 (cell_apart hG6 (cell_apart hG5 HQ.out.1 HX.out.1) HX.out.2), pw_cell_below hb7 (cell_apart hG6 (cell_apart hG5 HQ.out.2 HX.out.1) HX.out.2)⟩)
                  (first
                    | (go_at_call 13; refine hb1.mono ?_; rintro e w5 ⟨A5, c5, rfl, hO5, hD5, hG5⟩)
                    | (go_at_call 14; refine (hb2 _ ((HE4.out.drewN 1).grown hwg hgh hG5)).mono ?_; rintro e w6 ⟨A6, c6, rfl, hC6, hE6, hG6⟩)
                    | (go_at_call 12; refine (Ints_same _ _ _ _ L _ (moveC hO5 hG6 hhs) hC6).mono ?_; rintro e w7 ⟨rfl, hb7⟩))
                all_goals
                  go_wp2_with fail
                  go_meet
                  exact ⟨rfl, Nk + K, by omega, ⟨(hD5.grown (by have := hD5.ble; have := hD5.bg; omega) (by omega) hG6).below hb7⟩, ⟨hE6.below hb7⟩, ⟨bthn (below_grown (below_grown (HG4.out.drew) HG4.out.size hG5 (Nat.le_trans hbb hbg)) (Nat.le_trans HG4.out.size hG5.size) hG6 hw2) (Nat.le_refl _) hb7⟩⟩
              · have hb1 := fun W => Distinct_no b g 48 l Nk an ak W hok
                have hb2 := fun W => refDistinct_no h h 29 l Nk an ak W hok
                go_region_held3 (fun w' => w'.cell? ⟨x, 0, none⟩ = some (.int .i64 an) ∧ w'.cell? ⟨x, 1, none⟩ = some (.int .i64 ak))
                  (first
                    | go_keep
                    | exact ⟨pw_cell_below hb7 c0, pw_cell_below hb7 c1⟩)
                  (first
                    | (go_at_call 13; refine (hb1 _).mono ?_; rintro e w5 ⟨rfl, rfl⟩)
                    | (go_at_call 14; refine (hb2 _).mono ?_; rintro e w6 ⟨rfl, rfl⟩)
                    | (go_at_call 12; refine (Ints.Ints_any none none 0 0 [] [] _ ⟨rfl, by decide, fun h => absurd h (by decide)⟩ ⟨rfl, by decide, fun h => absurd h (by decide)⟩).mono ?_; rintro e w7 ⟨rfl, hb7⟩))
                all_goals
                  have hdt : decide (([] : List Int) = []) = true := decide_eq_true rfl
                  go_wp2_with fail
                  go_meet
                  exact ⟨rfl, Nk, by omega, ⟨(HD4.out.drewN 1).below hb7⟩, ⟨(HE4.out.drewN 1).below hb7⟩, ⟨bthn HG4.out.drew (Nat.le_refl _) hb7⟩⟩
            case rest =>
              obtain ⟨rfl, M, hM, HD7, HE7, HG7⟩ := hcut
              have hu := Used_any b g _ l M wc.drew (HD7.out.drewN 1)
              obtain ⟨wq, Aq, cq, _, _, _, _, hq5⟩ := HE7.out
              have k1 : wc.cell? ⟨h, 1, none⟩ = some (.int .i64 M) := by rw [cell_of_row wc h 1 _ _ _ hq5]; rfl
              clear hq5
              have hnm : ((M : Int) != (M : Int)) = false := bne_eq_false_iff_eq.2 rfl
              go_upto_region 14 with fail
              go_region_law (first
                | (go_simp; go_at_call 15; go_must (refine hu.mono ?_; rintro e w8 ⟨rfl, rfl⟩)))
              all_goals go_wp2
              all_goals go_roundw
              all_goals first
                | (case rel => exact ⟨k + 1, M, by omega, by omega, by go_num, ⟨HD7.out.drewN 1⟩, ⟨HE7.out.drewN 1⟩, ⟨HG7.out.drew⟩⟩)
                | (simp [intOf]; omega)
        · obtain rfl : k = asks.length := by omega
          have hn1 := Next_any b g _ l Nk wr HD.out (by omega)
          have hn2 := fun w' hE => refNext_any w.heap.size h 29 l Nk w' hE (by omega)
          rw [show encW (nextV l Nk) = .int .u64 ((nextV l Nk).toNat : Int) from rfl] at hn1 hn2
          generalize (nextV l Nk).toNat = V at hn1 hn2
          go_wp2_with fail
          refine hn1.mono ?_
          rintro e w3 ⟨rfl, hD3, hG3⟩
          have HE3 := Aside0.mk (HE.out.grown (Nat.le_trans hbb hbg) (by omega) hG3)
          have HB3 := Aside0.mk (below_grown HG.out HG.out.size hG3 (Nat.le_trans hbb hbg))
          clear hD3 hG3 hn1
          go_wp2_with fail
          refine (hn2 w3 HE3.out).mono ?_
          rintro e w4 ⟨rfl, hE4, hG4⟩
          have HB4 := Aside0.mk (below_grown HB3.out HB3.out.size hG4 hw2)
          clear hE4 hG4 hn2
          go_wp2_with fail
          refine (awake_any w4).mono ?_
          rintro e w5 ⟨rfl, hb5⟩
          go_wp2
          go_ret
          exact ⟨rfl, bthn HB4.out (Nat.le_refl _) hb5⟩

end Go.Proofs.Ytfmllhagdcjemab.DrawsU
