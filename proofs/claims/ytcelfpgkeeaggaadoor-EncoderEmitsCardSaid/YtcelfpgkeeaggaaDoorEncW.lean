/- The example of chapter 12. -/
import Derived.Test.YtcelfpgkeeaggaaDoorEncR
import Derived.Test.YtcelfpgkeeaggaaDoorSplitL
namespace Go.Proofs.YtcelfpgkeeaggaaDoor.EncW
open Go Go.RowKit Go.Proofs.YtcelfpgkeeaggaaDoorW.PrintWords Go.Proofs.YtcelfpgkeeaggaaDoor.Base Go.Proofs.YtcelfpgkeeaggaaDoor.Bits Go.Proofs.YtcelfpgkeeaggaaDoor.WordsS Go.Proofs.YtcelfpgkeeaggaaDoor.Split Go.Proofs.YtcelfpgkeeaggaaDoor.SplitB Go.Proofs.YtcelfpgkeeaggaaDoor.Soliton Go.Proofs.YtcelfpgkeeaggaaDoor.Draws Go.Proofs.YtcelfpgkeeaggaaDoor.DrawsP Go.Proofs.YtcelfpgkeeaggaaDoor.Enc Go.Proofs.YtcelfpgkeeaggaaDoor.EncE Go.Proofs.YtcelfpgkeeaggaaDoor.EncR Go.Proofs.YtcelfpgkeeaggaaDoor.Pkt
set_option linter.unusedVariables false
set_option linter.unusedSimpArgs false

theorem below_grown {B g : Nat} {w w1 w2 : World} (h : Below B w w1) (hB : B ≤ w1.heap.size) (hg : w1.grownBy w2 (some g)) (hbg : B ≤ g) : Below B w w2 := h.grown hg hB (fun k hk => by cases hk; exact hbg)
theorem ex1 : emitV [0, 2] 0 3 0 = [4] := by decide +kernel
theorem ex2 : ofS (blocksN ⟨#[97, 98, 99]⟩ 1 3) [4] = ⟨#[99]⟩ := by decide +kernel
theorem ex3 : sameW [4] [4] = true := by decide +kernel
theorem ex4 : planP 3 1 = 3 := by decide +kernel
theorem ex5 : errP 3 1 = 0 := by decide +kernel

set_option maxHeartbeats 1600000 in
theorem awake_any (w : World) (hD : DigOk w) : Calls Tryd.prog 12 #[] w fun e w' => e = .returned (.bool true) ∧ Below w.heap.size w w' := by
  have HD := Aside0.mk hD
  have hn := New_ok 7 ⟨#[97, 98, 99]⟩ 0 1 3 0 w hD (by decide) (by decide) (by decide) (by decide) (by decide) (by decide) (by decide) (by decide) (by decide) ex4 ex5 (by decide)
  clear hD
  go_enter Tryd.func12, Tryd.ntmps12
  go_wp2_with fail
  refine hn.mono ?_
  rintro e w1 ⟨bs, g, rfl, hbs, hS, hB1⟩
  have HS1 := Aside0.mk hS
  have HB1 := Aside0.mk hB1
  clear hS hB1 hn
  go_wp2_with fail
  refine (New_no (-1) ⟨#[97, 98, 99]⟩ 1 0 w1 (by decide) (by decide) (by decide) (by decide) (by decide) (by decide) (by decide) (by decide +kernel)).mono ?_
  rintro e w2 ⟨rfl, rfl⟩
  rw [show errN (-1) ((⟨#[97, 98, 99]⟩ : ByteArray).size : Nat) 1 0 = 1 from by decide +kernel]
  obtain ⟨l, hl⟩ : ∃ l : List UInt64, l = [0, 2] := ⟨_, rfl⟩
  have hll : l.length = 2 := by rw [hl]; rfl
  have HL := Aside0.mk hl
  go_wp2_with fail
  generalize hW : w1.alloc _ = W2
  have HW2 := Aside0.mk (show Below w1.heap.size w1 W2 by rw [← hW]; exact (Below.refl _ _).alloc (Nat.le_refl _) _)
  have hC2 : Kw.C W2 (some ⟨w1.heap.size, 0, none⟩) l.length l := by rw [← hW, hl]; exact C_litW [0, 2] (hp_new _ _ _ rfl) (by decide)
  have hnew := DrawsD.New_any (some ⟨w1.heap.size, 0, none⟩) 2 l W2 hC2 (fun ad h => by cases h; rfl) (by omega)
  rw [hll] at hnew
  clear hW hl hC2
  refine hnew.mono ?_
  rintro e w3 ⟨b, h, rfl, hbb, hDr, hB3⟩
  have HDr := Aside0.mk hDr
  have HB3 := Aside0.mk (bthn HW2.out (Nat.le_refl _) hB3)
  have HS3 := Aside0.mk (HS1.out.below HB3.out)
  have hgl := HS1.out.lt
  have hsb := HS1.out.ble
  have hbg := hDr.bg
  have hw12 := HW2.out.size
  clear hDr hB3 hnew
  have hem := Emit_core (.pointer (some ⟨h, 0, none⟩)) bs g b h 7 ⟨#[97, 98, 99]⟩ 1 3 0 l 0 w3 HS3.out (.inl ⟨rfl, HDr.out, by omega, by omega⟩) (by decide) (by decide) (by decide) (by decide) (by decide)
  rw [HL.out, ex1, ex2] at hem
  go_wp2_with fail
  refine hem.mono ?_
  rintro e w4 ⟨v, b', h', rfl, hO4, hD4, hG4, hA4⟩
  have hh : h' = h := by rcases hA4 with ⟨_, _, e⟩ | ⟨e, _⟩; exact e; cases e
  subst hh
  obtain ⟨A4, c4, rfl, _, hC4⟩ := hO4.Cw
  have HC4 := Aside0.mk hC4
  have HS4 := Aside0.mk (HS3.out.other (fun k hk => by cases hk; omega) hG4)
  have HB4 := Aside0.mk (below_grown (bthn HB1.out (Nat.le_refl _) HB3.out) (by have := HB1.out.size; have := HB3.out.size; omega) hG4 (by have := HB1.out.size; omega))
  clear hO4 hD4 hG4 hA4 hC4 hem HS3 HDr
  unfold pkC
  go_wp2_with fail
  generalize hW : w4.alloc _ = W5
  have HW5 := Aside0.mk (show Below w4.heap.size w4 W5 by rw [← hW]; exact (Below.refl _ _).alloc (Nat.le_refl _) _)
  have hp : W5.heap[w4.heap.size]? = some (.cells #[.int .i64 7, .int .i64 ((⟨#[97, 98, 99]⟩ : ByteArray).size : Nat), .int .i64 (3 : Nat), .int .i64 (1 : Nat), .int .i64 0, .slice A4 1 c4, .string ⟨#[99]⟩] 43 (0, 0)) := by rw [← hW]; exact heap_alloc_new _ _
  have HP := Aside0.mk hp
  have hz5 : w4.heap.size < W5.heap.size := by rw [← hW]; simp
  clear hW hp
  refine (K_any bs g 7 ⟨#[97, 98, 99]⟩ 1 3 0 W5 (HS4.out.below HW5.out) (by decide) (by decide)).mono ?_
  rintro e w6 ⟨rfl, hB6⟩
  have HB6 := Aside0.mk (bthn HW5.out (Nat.le_refl _) hB6)
  have HP6 := Aside0.mk ((hB6.block _ hz5).trans HP.out)
  have hz6 := Nat.lt_of_lt_of_le hz5 hB6.size
  clear hB6
  go_wp2_with fail
  refine (Blocks_any bs g 7 ⟨#[97, 98, 99]⟩ 1 3 0 w6 (HS4.out.below HB6.out) (by decide) (by decide)).mono ?_
  rintro e w7 ⟨v7, rfl, hO7, hB7⟩
  obtain ⟨A7, c7, rfl, _⟩ := hO7.slice
  rw [List.length_map, blocksN_length]
  have HB7 := Aside0.mk (bthn HB6.out (Nat.le_refl _) hB7)
  have HP7 := (hB7.block _ hz6).trans HP6.out
  have p0 := blk_cell HP7 0
  have p1 := blk_cell HP7 1
  have p2 := blk_cell HP7 2
  have p3 := blk_cell HP7 3
  have p4 := blk_cell HP7 4
  have p5 := blk_cell HP7 5
  have p6 := blk_cell HP7 6
  simp at p0 p1 p2 p3 p4 p5 p6
  clear hB7 hO7 HP7
  go_wp2_with fail
  generalize hW : w7.alloc _ = W8
  have HB8 := Aside0.mk (show Below w4.heap.size w4 W8 by rw [← hW]; exact bal HB7.out (Nat.le_refl _) _)
  have HC8 := Aside0.mk (show Kw.C W8 (some ⟨w7.heap.size, 0, none⟩) 1 [4] by rw [← hW]; exact C_one _ _ _ _ rfl)
  clear hW p0 p1 p2 p3 p4 p5 p6
  refine (Words.refSame_any A4 (some ⟨w7.heap.size, 0, none⟩) c4 1 [4] [4] W8 (Kd.C_below HC4.out HB8.out) HC8.out (by decide) (by decide)).mono ?_
  rintro e w9 ⟨rfl, hB9⟩
  rw [ex3]
  have HB9 := Aside0.mk (bthn HB4.out (by have := HB4.out.size; omega) (bthn HB8.out (Nat.le_refl _) hB9))
  clear hB9
  go_wp2
  go_ret
  exact ⟨rfl, HB9.out⟩

/-- what a source is made of -/
theorem made_ok {id size spread : Int} {n : Nat} (h : errN id n size spread = 0) : 0 ≤ id ∧ id ≤ 4294967295 ∧ 0 ≤ spread ∧ errP n size = 0 := by
  by_cases hh : id < 0 ∨ 4294967295 < id ∨ spread < 0
  · rw [errN_arg hh] at h; omega
  · rw [errN_split hh] at h; omega

end Go.Proofs.YtcelfpgkeeaggaaDoor.EncW
