/- The contracts of words' Size, Set, and of the reference's Size, Set, Unit. -/
import Derived.Test.YtnfabflkajpkfaaDoorWords
import Derived.Test.YtnfabflkajpkfaaDoorBits
namespace Go.Proofs.YtnfabflkajpkfaaDoor.WordsS
open Go Go.RowKit Go.Proofs.YtnfabflkajpkfaaDoorW.PrintWords Go.Proofs.YtnfabflkajpkfaaDoor.Base Go.Proofs.YtnfabflkajpkfaaDoor.Bits Go.Proofs.YtnfabflkajpkfaaDoor.Words
set_option linter.unusedVariables false
set_option linter.unusedSimpArgs false

theorem sizeW_no {k : Int} (h : k < 1 ∨ 128 < k) : sizeW k = 0 := by rw [sizeW, if_pos h]
theorem sizeW_yes {k : Int} (h : ¬ (k < 1 ∨ 128 < k)) : sizeW k = (k + 63) / 64 := by rw [sizeW, if_neg h]
set_option maxHeartbeats 400000 in
theorem Size_any (k : Int) (w : World) (h0 : -9223372036854775808 ≤ k) (h1 : k ≤ 9223372036854775807) :
    Calls Tryd.prog 78 #[.int .i64 k] w fun e w' => e = .returned (.int .i64 (sizeW k)) ∧ w = w' := by
  by_cases ha : k < 1
  · have HE := Aside0.mk (sizeW_no (k := k) (.inl ha))
    go_enter Tryd.func78, Tryd.ntmps78
    go_wp2
    go_ret
    exact ⟨by rw [HE.out]; rfl, rfl⟩
  · by_cases hb : 128 < k
    · have HE := Aside0.mk (sizeW_no (k := k) (.inr hb))
      go_enter Tryd.func78, Tryd.ntmps78
      go_wp2
      go_ret
      exact ⟨by rw [HE.out]; rfl, rfl⟩
    · have HE := Aside0.mk (sizeW_yes (k := k) (by omega))
      go_enter Tryd.func78, Tryd.ntmps78
      go_wp2
      go_ret
      exact ⟨by rw [HE.out]; rfl, rfl⟩

set_option maxHeartbeats 400000 in
theorem refSize_any (k : Int) (w : World) (h0 : -9223372036854775808 ≤ k) (h1 : k ≤ 9223372036854775807) :
    Calls Tryd.prog 55 #[.int .i64 k] w fun e w' => e = .returned (.int .i64 (sizeW k)) ∧ w = w' := by
  by_cases ha : k < 1
  · have HE := Aside0.mk (sizeW_no (k := k) (.inl ha))
    go_enter Tryd.func55, Tryd.ntmps55
    go_wp2
    go_ret
    exact ⟨by rw [HE.out]; rfl, rfl⟩
  · by_cases hb : 128 < k
    · have HE := Aside0.mk (sizeW_no (k := k) (.inr hb))
      go_enter Tryd.func55, Tryd.ntmps55
      go_wp2
      go_ret
      exact ⟨by rw [HE.out]; rfl, rfl⟩
    · have HE := Aside0.mk (sizeW_yes (k := k) (by omega))
      go_enter Tryd.func55, Tryd.ntmps55
      go_wp2
      go_loop [3] (fun i => ∃ n : Nat, n ≤ 2 ∧ i = .int .i64 n ∧ (n = 0 ∨ 64 * (n : Int) - 64 < k)) (fun i => 200 - (intOf i).toNat)
      case atStart => exact ⟨0, by omega, rfl, .inl rfl⟩
      case round =>
        obtain ⟨n, hn, rfl, hq⟩ := hrel
        by_cases hlt : 64 * (n : Int) < k
        · go_wp2
          go_round
          case rel => exact ⟨n + 1, by omega, by go_num, .inr (by omega)⟩
          case measure => simp [intOf]; omega
        · have HN := Aside0.mk (show (n : Int) = (k + 63) / 64 by omega)
          go_wp2
          go_ret
          exact ⟨by rw [HE.out, HN.out]; rfl, rfl⟩

theorem own_same (v : List UInt64) : v ++ List.replicate ((0 : Int).toNat - v.length) 0 = v := by simp
theorem wrap_bit (i : Nat) : IntKind.u64.wrap (2 ^ (i % 64)) = ((bitW (i % 64)).toNat : Int) := by
  rw [← bitW_int _ (Nat.mod_lt _ (by decide)), Bits.wrap_u64]
theorem cell_word (v : List UInt64) (j : Nat) (h : j < v.length) (h' : j < (v.map encW).length) : (v.map encW)[j]'h' = .int .u64 ((v[j]).toNat : Int) := by simp [encW]
theorem set_off (v : List UInt64) (i : Nat) (h : i / 64 < v.length) : (v.map encW).set (i / 64) (.int .u64 (bits .andNot .u64 ((v[i / 64]).toNat : Int) ((bitW (i % 64)).toNat : Int))) = (setW v i false).map encW := by
  rw [andNot_u64, setW, List.map_set, List.getD_eq_getElem?_getD, List.getElem?_eq_getElem h]; rfl
theorem set_on (v : List UInt64) (i : Nat) (h : i / 64 < v.length) (u : Value) : ((v.map encW).set (i / 64) u).set (i / 64) (.int .u64 (bits .or .u64 (bits .andNot .u64 ((v[i / 64]).toNat : Int) ((bitW (i % 64)).toNat : Int)) ((bitW (i % 64)).toNat : Int))) = (setW v i true).map encW := by
  rw [andNot_u64, or_u64, or_andNot, setW, List.map_set, List.set_set, List.getD_eq_getElem?_getD, List.getElem?_eq_getElem h]; rfl
set_option maxHeartbeats 400000 in
theorem Set_any (A : Option Addr) (c : Nat) (v : List UInt64) (i : Nat) (on : Bool) (w : World) (hC : Kw.C w A v.length v) (hi : i / 64 < v.length) (hv : v.length ≤ 17592186044416) :
    Calls Tryd.prog 48 #[.slice A v.length c, .int .i64 i, .bool on] w fun e w' => ∃ v', e = .returned v' ∧ Own w' w.heap.size 45 v' ((setW v i on).map encW) ∧ Below w.heap.size w w' := by
  have hm := C_max hC
  have h2 : (i : Int) / 64 < v.length := by omega
  have h3 : (i : Int) ≤ 9223372036854775807 := by omega
  have HC := Aside0.mk hC
  clear hC
  cases on
  all_goals
    go_enter Tryd.func48, Tryd.ntmps48
    go_wp2_with fail
    refine (own_any A c v 0 _ HC.out (by omega) (by omega) hv).mono ?_
    rintro e w1 ⟨v1, rfl, hO1, hG1⟩
    rw [own_same] at hO1
    obtain ⟨g', cap', rfl, hgb, hlt, _, hcell, hfr⟩ := hO1.at_ (i / 64) (by rw [List.length_map]; exact hi)
    rw [cell_word v _ hi] at hcell
    rw [List.length_map] at hO1 ⊢
    have hst := hO1.set_ (i / 64) (.int .u64 (bits .andNot .u64 ((v[i / 64]).toNat : Int) ((bitW (i % 64)).toNat : Int)))
    have hst2 := hst.1.set_ (i / 64) (.int .u64 (bits .or .u64 (bits .andNot .u64 ((v[i / 64]).toNat : Int) ((bitW (i % 64)).toNat : Int)) ((bitW (i % 64)).toNat : Int)))
    rw [set_on v i hi] at hst2
    rw [set_off v i hi] at hst
    have HS := Aside0.mk hst
    have HS2 := Aside0.mk hst2
    have HG := Aside0.mk (hG1.setCell (p := ⟨g', i / 64, none⟩) hgb (.int .u64 (bits .andNot .u64 ((v[i / 64]).toNat : Int) ((bitW (i % 64)).toNat : Int))))
    have hwb := wrap_bit i
    clear hst hst2 hO1 hG1
    go_wp2
    go_ret
    first
    | exact ⟨_, rfl, HS2.out.1, HG.out.setCell hgb _⟩
    | exact ⟨_, rfl, HS.out.1, HG.out⟩

theorem set_xor (v : List UInt64) (i : Nat) (on : Bool) (h : i / 64 < v.length) (hg : getB v i = !on) : (v.map encW).set (i / 64) (.int .u64 (bits .xor .u64 ((v[i / 64]).toNat : Int) ((bitW (i % 64)).toNat : Int))) = (setW v i on).map encW := by
  rw [xor_u64, setW, List.map_set, List.getD_eq_getElem?_getD, List.getElem?_eq_getElem h]
  rw [getB_in v i h] at hg
  cases on
  · rw [xor_off _ _ (Nat.mod_lt _ (by decide)) (by simpa [tb] using hg)]; rfl
  · rw [xor_on _ _ (Nat.mod_lt _ (by decide)) (by simpa [tb] using hg)]; rfl
set_option maxHeartbeats 400000 in
theorem refSet_any (A : Option Addr) (c : Nat) (v : List UInt64) (i : Nat) (on : Bool) (w : World) (hC : Kw.C w A v.length v) (hi : i / 64 < v.length) (hv : v.length ≤ 17592186044416) :
    Calls Tryd.prog 49 #[.slice A v.length c, .int .i64 i, .bool on] w fun e w' => ∃ v', e = .returned v' ∧ Own w' w.heap.size 45 v' ((setW v i on).map encW) ∧ Below w.heap.size w w' := by
  have hm := C_max hC
  have h2 : (i : Int) / 64 < v.length := by omega
  have h3 : (i : Int) ≤ 9223372036854775807 := by omega
  obtain ⟨B, hB⟩ : ∃ B, getB v i = B := ⟨_, rfl⟩
  have hget : ∀ w1, Below w.heap.size w w1 → Calls Tryd.prog 24 #[.slice A v.length c, .int .i64 i] w1 fun e w' => e = .returned (.bool B) ∧ w1 = w' := by
    intro w1 hb
    have := refGet_any A c v i w1 (Kd.C_below hC hb) (by omega)
    rw [hB] at this
    exact this
  have HC := Aside0.mk hC
  have HB := Aside0.mk hB
  have HGet := Aside0.mk hget
  clear hC hB hget
  cases B <;> cases on
  all_goals
    go_enter Tryd.func49, Tryd.ntmps49
    go_wp2_with (at_builtin; refine print_append_row (w0 := w) w.heap.size rfl _ _ 34 45 .u64 8 rfl Tryd.underlying34 info_u64 (by decide) (.slice none 0 0) [] (v.map fun x => (x.toNat : Int)) A v.length c rfl rfl (World.ownsRow_nil _ _ _ _) (readsW HC.out) (Below.refl _ _) (Nat.le_refl _) (by simp; omega) ?_; intro v1 w1 hown hB1 _ _)
    rw [List.nil_append, numsW] at hown
    have hO1 := Own.of_row hown
    obtain ⟨g', cap', rfl, hgb, hlt, _, hcell, hfr⟩ := hO1.at_ (i / 64) (by rw [List.length_map]; exact hi)
    rw [cell_word v _ hi] at hcell
    rw [List.length_map] at hO1 ⊢
    have hst := hO1.set_ (i / 64) (.int .u64 (bits .xor .u64 ((v[i / 64]).toNat : Int) ((bitW (i % 64)).toNat : Int)))
    have HS := Aside0.mk hst
    have HG := Aside0.mk hB1
    have HO := Aside0.mk hO1
    have hwb := wrap_bit i
    have hgt := HGet.out w1 HG.out
    clear hst hO1 hB1 hown
    go_wp2_with (go_at_call 24; refine hgt.mono ?_; rintro e w2 ⟨rfl, rfl⟩)
    go_ret
    first
    | exact ⟨_, rfl, by rw [setW_same v i _ HB.out]; exact HO.out, HG.out⟩
    | exact ⟨_, rfl, by (first | rw [← set_xor v i true hi HB.out] | rw [← set_xor v i false hi HB.out]); exact HS.out.1, HG.out.setCell hgb _⟩

set_option maxHeartbeats 400000 in
theorem refUnit_any (k i : Nat) (w : World) (h1 : i < k) (h2 : k ≤ 128) :
    Calls Tryd.prog 59 #[.int .i64 k, .int .i64 i] w fun e w' => ∃ v', e = .returned v' ∧ Own w' w.heap.size 45 v' ((setW (List.replicate (sizeN k) 0) i true).map encW) ∧ Below w.heap.size w w' := by
  have hsz := sizeW_nat k (by omega) h2
  have hs := fun w => refSize_any (k : Int) w (by omega) (by omega)
  rw [hsz] at hs
  have hs1 : 1 ≤ sizeN k := by unfold sizeN; omega
  have hs2 : i / 64 < sizeN k := by unfold sizeN; omega
  have hs3 : sizeN k ≤ 2 := by unfold sizeN; omega
  clear hsz
  generalize sizeN k = M at *
  have hmk := print_make (P := Tryd.prog) 34 45 .u64 8 Tryd.underlying34 info_u64 (by decide) M (by omega)
  have HO0 := Own.of_row (own_made w w.heap.size 45 .u64 M (Nat.le_refl _) (by omega))
  rw [nums_zeros] at HO0
  have hCz := HO0.C (enc := encW) (h1 := fun _ => rfl)
  obtain ⟨A, c, hv, hc, hC⟩ := hCz
  have hst := refSet_any A c (List.replicate M 0) i true _ hC (by rw [List.length_replicate]; exact hs2) (by rw [List.length_replicate]; omega)
  rw [List.length_replicate] at hv hst
  cases hv
  have HST := Aside0.mk hst
  have HB := Aside0.mk ((Below.refl w.heap.size w).alloc (Nat.le_refl _) (.cells (madeCells #[.int .u64 0] M) 45))
  have q0 : ((M : Int) == 0) = false := beq_eq_false_iff_ne.2 (by omega)
  have q1 : decide ((M : Int) = 0) = false := decide_eq_false (by omega)
  clear hC HO0 hst
  go_enter Tryd.func59, Tryd.ntmps59
  go_wp2_with (go_at_call 55; refine (hs _).mono ?_; rintro e w2 ⟨rfl, rfl⟩)
  refine HST.out.mono ?_
  rintro e w3 ⟨v', rfl, hO, hb⟩
  have HO := Aside0.mk hO
  have HB3 := Aside0.mk hb
  clear hO hb
  go_wp2
  go_ret
  exact ⟨_, rfl, HO.out.lower (by simp), bthn HB.out (Nat.le_refl _) HB3.out⟩

end Go.Proofs.YtnfabflkajpkfaaDoor.WordsS
