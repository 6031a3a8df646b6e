/- The contracts of slices.Delete and slices.Sort over rows of the call's own, of New, of Distinct. -/
import Derived.Test.YtcelfpgkeeaggaaDoorDrawsP
import Derived.Test.YtcelfpgkeeaggaaDoorOwnZ
import Derived.Test.YtcelfpgkeeaggaaDoorShelf
namespace Go.Proofs.YtcelfpgkeeaggaaDoor.DrawsD
open Go Go.RowKit Go.Proofs.YtcelfpgkeeaggaaDoorW.PrintWords Go.Proofs.YtcelfpgkeeaggaaDoor.Base Go.Proofs.YtcelfpgkeeaggaaDoor.Draws Go.Proofs.YtcelfpgkeeaggaaDoor.DrawsP Go.Proofs.YtcelfpgkeeaggaaDoor.OwnZ
set_option linter.unusedVariables false
set_option linter.unusedSimpArgs false

theorem info_int : (Tryd.prog.info? 3).map (fun i => (i.zero, i.size, i.bytes)) = some (some (.int .i64 0), 1, 8) := by kernel_rfl
theorem info_u64 : (Tryd.prog.info? 38).map (fun i => (i.zero, i.size, i.bytes)) = some (some (.int .u64 0), 1, 8) := by kernel_rfl
theorem info_bool : (Tryd.prog.info? 4).map (fun i => (i.zero, i.size, i.bytes)) = some (some (.bool false), 1, 1) := by kernel_rfl

/-! ### library functions over a row of the call's own -/
theorem Delete_any (w : World) (base g cap : Nat) (zs : List Int) (j : Nat) (HO : Own w base 3 (.slice (some ⟨g, 0, none⟩) zs.length cap) (nums .i64 zs)) (hj : j < zs.length) :
    Calls Tryd.prog 49 #[.slice (some ⟨g, 0, none⟩) zs.length cap, .int .i64 j, .int .i64 ((j : Int) + 1)] w fun e w' => e = .returned (.slice (some ⟨g, 0, none⟩) (zs.eraseIdx j).length cap) ∧ Own w' base 3 (.slice (some ⟨g, 0, none⟩) (zs.eraseIdx j).length cap) (nums .i64 (zs.eraseIdx j)) ∧ w.grownBy w' (some g) := by
  have hl : (zs.eraseIdx j).length = zs.length - 1 := List.length_eraseIdx_of_lt hj
  have HO' := HO
  rcases HO with ⟨h, _⟩ | ⟨g', cap', cur, fr, hv, hb, hg, h1, h2, h3, h4, h5⟩
  · cases h
  · rw [nums_length] at hv h1 h4
    cases hv
    have hc : ∀ i, i < zs.length → w.cell? ⟨g, 0 + i, none⟩ = some (.int .i64 (zs.getD i 0)) := by
      intro i hi
      obtain ⟨g', cap', hv', _, _, _, hcell, _⟩ := HO'.at_ i (by rw [nums_length]; exact hi)
      rw [nums_length] at hv'
      cases hv'
      rw [Nat.zero_add, hcell]
      simp [nums, List.getD_eq_getElem?_getD, List.getElem?_eq_getElem hi]
    have hf : ∀ i, i < zs.length → w.frozen? ⟨g, 0 + i, none⟩ = false := by
      intro i hi
      rw [Nat.zero_add]; exact frozen_fr hg (cap := cap) (by omega) h5
    have hcall := Go.Proofs.Tryd.slices_Delete_int_cells g 0 zs.length cap j (j + 1) zs w (Nat.le_refl _) h1 (by simpa [maxLen] using h2) (by omega) (by omega) hc hf
    rw [show (((j + 1 : Nat)) : Int) = (j : Int) + 1 by omega] at hcall
    refine hcall.mono ?_
    rintro e w' ⟨rfl, q, rfl⟩
    have e1 : j + 1 - j = 1 := by omega
    rw [e1, List.take_length]
    generalize hn : (zs.take j ++ zs.drop (j + 1) ++ List.replicate 1 0).map (Value.int .i64) = news
    have hnl : news.length = zs.length := by rw [← hn]; simp; omega
    obtain ⟨cur', k3, k4, k5⟩ := setCells_row_fr news 0 (w.drewN q) cur hg (by omega)
    obtain ⟨s1, s2, s3, s4⟩ := setCells_same g news 0 (w.drewN q)
    refine ⟨by rw [hl], .inr ⟨g, cap, cur', fr, by rw [nums_length], hb, k3, by rw [nums_length]; omega, h2, by omega, ?_, h5⟩,
      ⟨s1, s2, s3, by rw [s4]; exact Nat.le_refl _, fun k _ hk => setCells_far news _ k (fun e => hk (by simp [e]))⟩⟩
    rw [nums_length, k5, List.take_zero, List.nil_append, ← hn, hl, List.eraseIdx_eq_take_drop_succ]
    have e2 : (nums .i64 (zs.take j ++ zs.drop (j + 1))).length = zs.length - 1 := by rw [nums_length]; simp; omega
    rw [List.map_append, List.append_assoc]
    show List.take _ (nums .i64 (zs.take j ++ zs.drop (j + 1)) ++ _) = _
    rw [← e2]; exact List.take_left

theorem putCells_zero (cur : Array Value) (d : List Int) (h : d.length ≤ cur.size) : (Sort.putCells (Value.int .i64) 0 d.toArray cur).toList.take d.length = nums .i64 d ∧ (Sort.putCells (Value.int .i64) 0 d.toArray cur).size = cur.size := by
  refine ⟨?_, by simp [Sort.putCells]⟩
  apply List.ext_getElem
  · simp [Sort.putCells, nums]; omega
  · intro i h1 h2
    have hi : i < d.length := by simpa [nums] using h2
    simp [Sort.putCells, nums, hi]
theorem Sort_any (w : World) (base : Nat) (v : Value) (zs : List Int) (HO : Own w base 3 v (nums .i64 zs)) (hsz : zs.length < 4611686018427387904) :
    Calls Tryd.prog 50 #[v] w fun e w' => e = .returned (.tuple #[]) ∧ Own w' base 3 v (nums .i64 (zs.mergeSort fun x y => decide (x ≤ y))) ∧ w.grownBy w' v.ownBlock := by
  have hml : (zs.mergeSort fun x y => decide (x ≤ y)).length = zs.length := List.length_mergeSort _
  have HO' := HO
  rcases HO with ⟨rfl, h⟩ | ⟨g, cap, cur, fr, rfl, hb, hg, h1, h2, h3, h4, h5⟩
  · have hz : zs = [] := by simpa [nums] using h
    subst hz
    refine (Go.Proofs.Tryd.slices_Sort_int_none none 0 w).mono ?_
    rintro e w' ⟨rfl, rfl⟩
    exact ⟨rfl, by simpa [nums] using Own.nil w' base 3, ⟨rfl, rfl, rfl, Nat.le_refl _, fun _ _ _ => rfl⟩⟩
  · rw [nums_length] at h1 h4 ⊢
    have hH : Sort.Holds (Value.int .i64) w g 0 zs.toArray := by
      intro i hi
      have hi' : i < zs.length := by simpa using hi
      obtain ⟨g', cap', hv', _, _, _, hcell, hfr⟩ := HO'.at_ i (by rw [nums_length]; exact hi')
      rw [nums_length] at hv'
      cases hv'
      rw [Nat.zero_add]
      refine ⟨?_, hfr⟩
      rw [hcell]
      simp [nums, hi']
    have hblk : g < w.heap.size := (Array.getElem?_eq_some_iff.1 hg).1
    refine (Go.Proofs.Tryd.slices_Sort_int g 0 cap zs w hH hblk hsz).mono ?_
    rintro e w' ⟨rfl, n, os, rfl⟩
    rw [← hml] at h1 h4 ⊢
    generalize (zs.mergeSort fun x y => decide (x ≤ y)) = d at *
    obtain ⟨p1, p2⟩ := putCells_zero cur d (by omega)
    have hsame : ∀ k, k < w.heap.size → (Sort.grow (Sort.putRow (Value.int .i64) (Sort.ahead w n) g 0 d.toArray) os).heap[k]? = (Sort.putRow (Value.int .i64) (Sort.ahead w n) g 0 d.toArray).heap[k]? := by
      intro k hk
      show (_ ++ os)[k]? = _
      rw [Array.getElem?_append_left (by simpa [Sort.ahead] using hk)]
    refine ⟨rfl, .inr ⟨g, cap, Sort.putCells (Value.int .i64) 0 d.toArray cur, fr, by rw [nums_length], hb, ?_, by rw [nums_length]; exact h1, h2, by rw [p2]; exact h3, by rw [nums_length]; exact p1, h5⟩, ?_⟩
    · rw [hsame g hblk]
      simp only [Sort.putRow, Sort.mapBlock, Sort.ahead, Array.getElem?_modify, if_true, hg, Option.map_some, Sort.onCells]
    · refine ⟨rfl, rfl, rfl, ?_, fun k hk hne => ?_⟩
      · show _ ≤ (_ ++ os).size
        rw [Array.size_append]
        have : (Sort.putRow (Value.int .i64) (Sort.ahead w n) g 0 d.toArray).heap.size = w.heap.size := by simp [Sort.ahead]
        omega
      · rw [hsame k hk]
        have hgk : ¬ g = k := fun e => hne (by simp [Value.ownBlock, e])
        simp [Sort.putRow, Sort.mapBlock, Sort.ahead, Array.getElem?_modify, hgk]

/-! ### New -/
theorem New_any (A : Option Addr) (c : Nat) (l : List UInt64) (w : World) (hC : Kw.C w A l.length l) (hsp : ∀ ad, A = some ad → ad.spot = none) (hl : l.length ≤ 1099511627776) :
    Calls Tryd.prog 14 #[.slice A l.length c] w fun e w' => ∃ b g, e = .returned (.pointer (some ⟨g, 0, none⟩)) ∧ w.heap.size ≤ b ∧ Drw w' b g 76 l 0 ∧ Below w.heap.size w w' := by
  obtain ⟨i0, hi, hz0, hz1, hz2⟩ := info_parts info_u64
  have hcl : Calls Tryd.prog 30 #[.slice A l.length c] w fun e w' => ∃ v', e = .returned v' ∧ Own w' w.heap.size 38 v' (l.map encW) ∧ Below w.heap.size w w' := by
    cases A with
    | none =>
      have h0 : l.length = 0 := by
        rcases Nat.eq_zero_or_pos l.length with h | h
        · exact h
        · obtain ⟨ad, h', _⟩ := at_w hC 0 h; cases h'
      have hnil : l = [] := List.eq_nil_of_length_eq_zero h0
      subst hnil
      refine (Go.Proofs.Tryd.slices_Clone_nil_f30 0 c w).mono ?_
      rintro e w' ⟨rfl, rfl⟩
      exact ⟨_, rfl, Own.nil _ _ _, Below.refl _ _⟩
    | some ad =>
      obtain ⟨bk, off, sp⟩ := ad
      have hs := hsp _ rfl
      simp only at hs
      subst hs
      have hadd : ∀ j, (⟨bk, off, none⟩ : Addr).add j = ⟨bk, off + j, none⟩ := by
        intro j; unfold Addr.add; split <;> simp_all
      refine (Go.Proofs.Tryd.slices_Clone_f30 i0 (.int .u64 0) 1 8 hi hz0 hz1 hz2 rfl (by omega) (fun w => by rw [Tryd.sizeOf38]) bk off l.length c (l.map encW) w (by simp) (by simp only [maxLen]; omega) (by omega) (fun j u hu => ?_) (fun u hu => ?_)).mono ?_
      · rw [List.getElem?_map] at hu
        obtain ⟨x, hx, rfl⟩ := Option.map_eq_some_iff.1 hu
        obtain ⟨hj, rfl⟩ := List.getElem?_eq_some_iff.1 hx
        obtain ⟨ad, he, hcell⟩ := at_w hC j hj
        cases he
        rw [← hadd]; exact hcell
      · obtain ⟨x, _, rfl⟩ := List.mem_map.1 hu; rfl
      · rintro e w' ⟨v', rfl, ho, _, hb⟩
        exact ⟨v', rfl, Own.of_row ho, hb⟩
  clear hC
  go_enter Tryd.func14, Tryd.ntmps14
  go_wp2_with fail
  refine hcl.mono ?_
  rintro e w1 ⟨v, rfl, hO, hb1⟩
  obtain ⟨Av, cv, rfl, hcv, hC1⟩ := hO.Cw
  have HC := Aside0.mk hC1
  have HB := Aside0.mk hb1
  clear hO hC1 hb1 hcl
  go_wp2
  go_ret
  refine ⟨w1.heap.size, w1.heap.size, rfl, HB.out.size, ⟨w1, Av, cv, rfl, HC.out, Nat.le_refl _, (Below.refl _ _).alloc (Nat.le_refl _) _, heap_alloc_new _ _⟩, HB.out.alloc HB.out.size _⟩

end Go.Proofs.YtcelfpgkeeaggaaDoor.DrawsD
