/- The contracts of package encoder's New, Blocks, K. -/
import Derived.Test.YtcelfpgkeeaggaaDoorWordsS
import Derived.Test.YtcelfpgkeeaggaaDoorXorB
import Derived.Test.YtcelfpgkeeaggaaDoorSplitR
import Derived.Test.YtcelfpgkeeaggaaDoorSolitonB
import Derived.Test.YtcelfpgkeeaggaaDoorDrawsF
import Derived.Laws.Tables
namespace Go.Proofs.YtcelfpgkeeaggaaDoor.Enc
open Go Go.RowKit Go.Proofs.YtcelfpgkeeaggaaDoorW.PrintWords Go.Proofs.YtcelfpgkeeaggaaDoor.Base Go.Proofs.YtcelfpgkeeaggaaDoor.Bits Go.Proofs.YtcelfpgkeeaggaaDoor.Split Go.Proofs.YtcelfpgkeeaggaaDoor.SplitB Go.Proofs.YtcelfpgkeeaggaaDoor.Soliton
set_option linter.unusedVariables false
set_option linter.unusedSimpArgs false

def errN (id : Int) (n size spread : Int) : Int := if id < 0 ∨ 4294967295 < id ∨ spread < 0 then 1 else errP n size
theorem errN_arg {id n size spread : Int} (h : id < 0 ∨ 4294967295 < id ∨ spread < 0) : errN id n size spread = 1 := by rw [errN, if_pos h]
theorem errN_split {id n size spread : Int} (h : ¬ (id < 0 ∨ 4294967295 < id ∨ spread < 0)) : errN id n size spread = errP n size := by rw [errN, if_neg h]
/-- a source: its head, its blocks and shares, which lie below -/
def SrcE (w : World) (b g : Nat) (id : Int) (s : ByteArray) (z K sp : Nat) : Prop :=
  ∃ wc ga gb c d, wc.heap.size = b ∧ Kd.string.C wc (some ⟨ga, 0, none⟩) K (blocksN s z K) ∧ K ≤ c ∧ (Kd.int .i64).C wc (some ⟨gb, 0, none⟩) K (tabN K sp) ∧ b ≤ g ∧ Below b wc w ∧
    w.heap[g]? = some (.cells #[.int .i64 id, .int .i64 s.size, .int .i64 K, .int .i64 z, .int .i64 0, .slice none 0 0, .string ⟨#[]⟩, .slice (some ⟨ga, 0, none⟩) K c, .slice (some ⟨gb, 0, none⟩) K d] 63 (0, 0))
section
variable {w w' : World} {b g : Nat} {id : Int} {s : ByteArray} {z K sp : Nat}
theorem SrcE.lt (h : SrcE w b g id s z K sp) : g < w.heap.size := by
  obtain ⟨wc, ga, gb, c, d, h1, h2, h3, h4, h5, h6, h7⟩ := h
  exact (Array.getElem?_eq_some_iff.1 h7).1
theorem SrcE.bg (h : SrcE w b g id s z K sp) : b ≤ g := by
  obtain ⟨wc, ga, gb, c, d, h1, h2, h3, h4, h5, h6, h7⟩ := h
  exact h5
theorem SrcE.ble (h : SrcE w b g id s z K sp) : b ≤ w.heap.size := Nat.le_trans h.bg (Nat.le_of_lt h.lt)
theorem SrcE.other (h : SrcE w b g id s z K sp) {row : Option Nat} (hr : ∀ k, row = some k → b ≤ k ∧ k ≠ g) (hw : w.grownBy w' row) : SrcE w' b g id s z K sp := by
  have hg := h.lt
  have hbl := h.ble
  obtain ⟨wc, ga, gb, c, d, h1, h2, h3, h4, h5, h6, h7⟩ := h
  exact ⟨wc, ga, gb, c, d, h1, h2, h3, h4, h5, h6.grown hw hbl (fun k hk => (hr k hk).1), (hw.block g hg (fun e => (hr g e.symm).2 rfl)).trans h7⟩
theorem SrcE.below (h : SrcE w b g id s z K sp) (hb : Below w.heap.size w w') : SrcE w' b g id s z K sp := by
  have hg := h.lt
  have hbl := h.ble
  obtain ⟨wc, ga, gb, c, d, h1, h2, h3, h4, h5, h6, h7⟩ := h
  exact ⟨wc, ga, gb, c, d, h1, h2, h3, h4, h5, h6.trans (hb.mono hbl), (hb.block g hg).trans h7⟩
theorem SrcE.drewN (h : SrcE w b g id s z K sp) (n : Nat) : SrcE (w.drewN n) b g id s z K sp := h.below (pw_below_drewN (Below.refl _ _) n)
end

theorem own_some {w : World} {base : Nat} {e : TypeId} {v : Value} {cs : List Value} (h : Own w base e v cs) (hn : 0 < cs.length) : ∃ g c, v = .slice (some ⟨g, 0, none⟩) cs.length c ∧ cs.length ≤ c := by
  obtain ⟨g, cap, hv, _, _, hc, _, _⟩ := h.at_ 0 hn
  exact ⟨g, cap, hv, hc⟩

set_option maxHeartbeats 400000 in
theorem New_no (id : Int) (s : ByteArray) (size spread : Int) (w : World) (hs : s.size ≤ 9223372036854775807) (hi0 : -9223372036854775808 ≤ id) (hi1 : id ≤ 9223372036854775807) (hs0 : -9223372036854775808 ≤ size) (hs1 : size ≤ 9223372036854775807) (hp0 : -9223372036854775808 ≤ spread) (hp1 : spread ≤ 9223372036854775807) (hE : errN id s.size size spread ≠ 0) :
    Calls Tryd.prog 7 #[.int .i64 id, .string s, .int .i64 size, .int .i64 spread] w fun e w' => e = .returned (.tuple #[.pointer none, .int .i64 (errN id s.size size spread)]) ∧ w = w' := by
  by_cases ha : id < 0
  · have HE := Aside0.mk (errN_arg (n := s.size) (size := size) (spread := spread) (.inl ha))
    clear hE
    go_enter Tryd.func7, Tryd.ntmps7
    go_wp2
    go_ret2
    exact ⟨by rw [HE.out]; rfl, rfl⟩
  · by_cases hb : 4294967296 ≤ id
    · have HE := Aside0.mk (errN_arg (id := id) (n := s.size) (size := size) (spread := spread) (.inr (.inl (by omega))))
      clear hE
      go_enter Tryd.func7, Tryd.ntmps7
      go_wp2
      go_ret2
      exact ⟨by rw [HE.out]; rfl, rfl⟩
    · by_cases hc : spread < 0
      · have HE := Aside0.mk (errN_arg (id := id) (n := s.size) (size := size) (spread := spread) (.inr (.inr hc)))
        clear hE
        go_enter Tryd.func7, Tryd.ntmps7
        go_wp2
        go_ret2
        exact ⟨by rw [HE.out]; rfl, rfl⟩
      · have he := errN_split (id := id) (n := s.size) (size := size) (spread := spread) (by omega)
        rw [he] at hE
        obtain ⟨E, hEE⟩ : ∃ E, errP s.size size = E := ⟨_, rfl⟩
        have hsp := Split_no s size w hs hs0 hs1 hE
        rw [hEE] at hsp hE
        have HE := Aside0.mk (he.trans hEE)
        have hbn : (E != 0) = true := bne_iff_ne.2 hE
        clear he hEE
        go_enter Tryd.func7, Tryd.ntmps7
        go_wp2_with (go_at_call 20; go_must (refine hsp.mono ?_; rintro e w1 ⟨rfl, rfl⟩))
        go_ret2
        exact ⟨by rw [HE.out]; rfl, rfl⟩

set_option maxHeartbeats 400000 in
theorem New_ok (id : Int) (s : ByteArray) (spread : Int) (z K sp : Nat) (w : World) (hD : DigOk w) (hi0 : 0 ≤ id) (hi1 : id ≤ 4294967295) (hp0 : 0 ≤ spread) (hp1 : spread ≤ 9223372036854775807) (hs : s.size ≤ 8192) (hz1 : 1 ≤ z) (hz2 : z ≤ 64) (hK1 : 1 ≤ K) (hK : K ≤ 128) (hP : planP s.size z = K) (hE : errP s.size z = 0) (hsp : min spread (K : Int) = sp) :
    Calls Tryd.prog 7 #[.int .i64 id, .string s, .int .i64 z, .int .i64 spread] w fun e w' => ∃ b g, e = .returned (.tuple #[.pointer (some ⟨g, 0, none⟩), .int .i64 0]) ∧ w.heap.size ≤ b ∧ SrcE w' b g id s z K sp ∧ Below w.heap.size w w' := by
  have hspl := Split_ok s z K w hs hz1 hz2 hK1 hK hP hE
  have HD := Aside0.mk hD
  have HS := Aside0.mk hsp
  have hsK : sp ≤ K := by omega
  clear hD hP hE hsp
  go_enter Tryd.func7, Tryd.ntmps7
  go_wp2_with fail
  refine hspl.mono ?_
  rintro e w1 ⟨v, rfl, hO, hB1⟩
  obtain ⟨ga, c, rfl, hc⟩ := own_some hO (by rw [List.length_map, blocksN_length]; omega)
  rw [List.length_map, blocksN_length] at hO hc ⊢
  obtain ⟨A', c', hv, _, hC⟩ := Own.C (enc := Value.string) (h1 := fun _ => rfl) hO
  rw [blocksN_length] at hv hC
  cases hv
  have HB1 := Aside0.mk hB1
  have HC := Aside0.mk hC
  clear hO hB1 hC hspl
  go_wp2_with fail
  have hX := HS.out
  generalize min spread (K : Int) = MM at *
  subst hX
  refine (Table_any K sp w1 (HD.out.below HB1.out) hK1 hK hsK).mono ?_
  rintro e w2 ⟨v2, rfl, hO2, hB2⟩
  obtain ⟨gb, d, rfl, hd⟩ := own_some hO2 (by rw [nums_length, tabN_length]; omega)
  rw [nums_length, tabN_length] at hO2 hd ⊢
  obtain ⟨A', c', hv, _, hC2⟩ := hO2.C_int
  rw [tabN_length] at hv hC2
  cases hv
  have HB2 := Aside0.mk (bthn HB1.out (Nat.le_refl _) hB2)
  have HCs := Aside0.mk (Kd.C_below HC.out hB2)
  have HC2 := Aside0.mk hC2
  clear hO2 hB2 hC2
  go_wp2
  go_ret2
  exact ⟨w2.heap.size, w2.heap.size, rfl, HB2.out.size, ⟨w2, ga, gb, c, d, rfl, HCs.out, hc, HC2.out, Nat.le_refl _, (Below.refl _ _).alloc (Nat.le_refl _) _, heap_alloc_new _ _⟩, HB2.out.alloc HB2.out.size _⟩

set_option maxHeartbeats 400000 in
theorem Blocks_any (b g : Nat) (id : Int) (s : ByteArray) (z K sp : Nat) (w : World) (hS : SrcE w b g id s z K sp) (hK : K ≤ 128) (hK1 : 1 ≤ K) :
    Calls Tryd.prog 10 #[.pointer (some ⟨g, 0, none⟩)] w fun e w' => ∃ v', e = .returned v' ∧ Own w' w.heap.size 9 v' ((blocksN s z K).map .string) ∧ Below w.heap.size w w' := by
  obtain ⟨wc, ga, gb, c, d, h1, h2, h3, h4, h5, h6, h7⟩ := hS
  have c7 : w.cell? ⟨g, 7, none⟩ = some (.slice (some ⟨ga, 0, none⟩) K c) := by rw [cell_of_row w g 7 _ _ _ h7]; rfl
  have hC : Kd.string.C w (some ⟨ga, 0, none⟩) K (blocksN s z K) := Kd.C_below h2 (by rw [h1]; exact h6)
  obtain ⟨i0, hi, hz0, hz1, hz2⟩ := info_parts info_str
  have hcl : Calls Tryd.prog 23 #[.slice (some ⟨ga, 0, none⟩) K c] w fun e w' => ∃ v', e = .returned v' ∧ Own w' w.heap.size 9 v' ((blocksN s z K).map .string) ∧ Below w.heap.size w w' := by
    refine (Go.Proofs.Tryd.slices_Clone_f23 i0 (.string ⟨#[]⟩) 1 16 hi hz0 hz1 hz2 rfl (by omega) (fun w => by rw [Tryd.sizeOf9]) ga 0 K c ((blocksN s z K).map .string) w (by simp [blocksN_length]) (by simp only [maxLen]; omega) (by omega) (fun j u hu => ?_) (fun u hu => ?_)).mono ?_
    · rw [List.getElem?_map] at hu
      obtain ⟨x, hx, rfl⟩ := Option.map_eq_some_iff.1 hu
      obtain ⟨hj, rfl⟩ := List.getElem?_eq_some_iff.1 hx
      have hC' : Kd.string.C w (some ⟨ga, 0, none⟩) (blocksN s z K).length (blocksN s z K) := by rw [blocksN_length]; exact hC
      obtain ⟨ad, he, hcell⟩ := at_str hC' j hj
      cases he
      simpa [add_plain] using hcell
    · obtain ⟨x, _, rfl⟩ := List.mem_map.1 hu; rfl
    · rintro e w' ⟨v', rfl, ho, _, hb⟩
      exact ⟨v', rfl, Own.of_row (by simpa [blocksN_length] using ho), hb⟩
  clear h1 h2 h3 h4 h5 h6 h7 hC hi hz0 hz1 hz2
  go_enter Tryd.func10, Tryd.ntmps10
  go_wp2_with fail
  refine hcl.mono ?_
  rintro e w1 ⟨v, rfl, hO, hB⟩
  have HO := Aside0.mk hO
  have HB := Aside0.mk hB
  clear hO hB hcl
  go_wp2
  go_ret
  exact ⟨_, rfl, HO.out, HB.out⟩
theorem Blocks_nil (w : World) : Calls Tryd.prog 10 #[.pointer none] w fun e w' => e = .returned (.slice none 0 0) ∧ w = w' := by
  go_enter Tryd.func10, Tryd.ntmps10
  go_wp2
  go_ret
  exact ⟨rfl, rfl⟩
theorem K_any (b g : Nat) (id : Int) (s : ByteArray) (z K sp : Nat) (w : World) (hS : SrcE w b g id s z K sp) (hK : K ≤ 128) (hK1 : 1 ≤ K) :
    Calls Tryd.prog 11 #[.pointer (some ⟨g, 0, none⟩)] w fun e w' => e = .returned (.int .i64 K) ∧ Below w.heap.size w w' := by
  have hb := Blocks_any b g id s z K sp w hS hK hK1
  clear hS
  go_enter Tryd.func11, Tryd.ntmps11
  go_wp2_with fail
  refine hb.mono ?_
  rintro e w1 ⟨v, rfl, hO, hB⟩
  obtain ⟨A, c, rfl, _⟩ := hO.slice
  rw [List.length_map, blocksN_length]
  have HB := Aside0.mk hB
  clear hO hB hb
  go_wp2
  go_ret
  exact ⟨rfl, HB.out⟩
theorem K_nil (w : World) : Calls Tryd.prog 11 #[.pointer none] w fun e w' => e = .returned (.int .i64 0) ∧ w = w' := by
  have hb := Blocks_nil w
  go_enter Tryd.func11, Tryd.ntmps11
  go_wp2_with fail
  refine hb.mono ?_
  rintro e w1 ⟨rfl, rfl⟩
  go_wp2
  go_ret
  exact ⟨rfl, rfl⟩

end Go.Proofs.YtcelfpgkeeaggaaDoor.Enc
