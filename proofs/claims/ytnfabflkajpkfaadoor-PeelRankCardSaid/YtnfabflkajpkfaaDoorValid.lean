/- Rows that are: slices.Clone, the closure of peel.Valid. No condition. -/
import Derived.Test.YtnfabflkajpkfaaDoorWordsP
import Derived.Test.YtnfabflkajpkfaaDoorRows2
import Derived.Maps.AppendAt
namespace Go.Proofs.YtnfabflkajpkfaaDoor.Valid
open Go Go.RowKit Go.Proofs.YtnfabflkajpkfaaDoorW.PrintWords Go.Proofs.YtnfabflkajpkfaaDoor.Base Go.Proofs.YtnfabflkajpkfaaDoor.Kinds Go.Proofs.YtnfabflkajpkfaaDoor.Words Go.Proofs.YtnfabflkajpkfaaDoor.PeelP Go.Proofs.YtnfabflkajpkfaaDoor.Rows2 Go.Proofs.YtnfabflkajpkfaaDoor.WordsP
set_option linter.unusedVariables false
set_option linter.unusedSimpArgs false

def cloneLen : Nat := 1099511627776
set_option maxHeartbeats 400000 in
theorem CloneW_any (A : Option Addr) (c : Nat) (v : List UInt64) (w : World) (hC : Kw.C w A v.length v) (hv : v.length ≤ 17592186044416) :
    Calls Tryd.prog 38 #[.slice A v.length c] w fun e w' => ∃ v', e = .returned v' ∧ Own w' w.heap.size 45 v' (v.map encW) ∧ Below w.heap.size w w' := by
  have hm := C_max hC
  have hq : ∀ (w : World) (a : Option Addr) (n c n' c' : Nat), (binOp .eql 34 (.slice a n c) (.slice none n' c')).run Tryd.prog w = .ok (.bool a.isNone) w := fun w a n c n' c' => Lib.run_eql_slice_nil w _ _ a n c n' c' Tryd.underlying34
  cases A with
  | none =>
    have hl : v = [] := by
      cases v with
      | nil => rfl
      | cons x v => obtain ⟨ad, e, _⟩ := at_w hC 0 (by simp); cases e
    subst hl
    go_enter Tryd.func38, Tryd.ntmps38
    go_wp2
    go_ret
    exact ⟨_, rfl, Own.nil _ _ _, Below.refl _ _⟩
  | some ad =>
    have HC := Aside0.mk hC
    have hown0 := World.ownsRow_made (e := 45) (size := 1) w #[] 0 (Nat.le_refl _) (Nat.zero_le _) (by simp)
    clear hC
    go_enter Tryd.func38, Tryd.ntmps38
    go_wp2_with (at_builtin; refine print_append_row (w0 := w) w.heap.size rfl _ _ 34 45 .u64 8 rfl Tryd.underlying34 info_u64 (by decide) _ [] (v.map fun x => (x.toNat : Int)) (some ad) v.length c rfl rfl hown0 (readsW (Kd.C_below HC.out ((Below.refl _ _).alloc (Nat.le_refl _) _))) ((Below.refl _ _).alloc (Nat.le_refl _) _) (by simp) (by simp; omega) ?_; intro v1 w1 hown hB1 _ _)
    rw [List.nil_append, numsW] at hown
    go_ret
    exact ⟨_, rfl, Own.of_row hown, hB1⟩

/-- the cells of rows that are read -/
theorem rows_cells {w0 w : World} {A : Option Addr} {n : Nat} {rows : List RowL} (h : KRow.C w0 A n rows) (hb : Below w0.heap.size w0 w) (hn : rows ≠ []) :
    ∃ ad ss, A = some ad ∧ ss.length = rows.length ∧ (∀ j u, (flatR ss rows)[j]? = some u → w.cell? (ad.add j) = some u) ∧ ∀ i (hi : i < rows.length), ∃ s, ss[i]? = some s ∧ Vst w0 w s (rows[i]).vec := by
  obtain ⟨hl, _, hx⟩ := h
  have hpos : 0 < n := by
    rw [← hl]
    cases rows with
    | nil => exact absurd rfl hn
    | cons r l => simp
  obtain ⟨ad, rfl, hc⟩ := hx hpos
  have hrow : ∀ i : Nat, ∃ s : Value, ∀ hi : i < rows.length, w.cell? (ad.add (i * 2)) = some s ∧ w.cell? (ad.add (i * 2 + 1)) = some (.string (rows[i]).data) ∧ Vst w0 w s (rows[i]).vec := by
    intro i
    by_cases hi : i < rows.length
    · obtain ⟨cs, _, hK, hcell⟩ := hc i _ (List.getElem?_eq_getElem hi)
      obtain ⟨A0, c0, rfl, l0, g0⟩ := KRow_open hK
      exact ⟨.slice A0 (rows[i]).vec.length c0, fun _ => ⟨pw_cell_below hb (hcell 0 _ rfl), pw_cell_below hb (hcell 1 _ rfl), .inl ⟨A0, c0, rfl, l0, g0⟩⟩⟩
    · exact ⟨.bool false, fun h => absurd h hi⟩
  obtain ⟨f, hf⟩ := Classical.axiomOfChoice hrow
  have hss : ((List.range rows.length).map f).length = rows.length := by simp
  have hat : ∀ i, i < rows.length → ((List.range rows.length).map f)[i]? = some (f i) := fun i hi => by simp [hi]
  refine ⟨ad, (List.range rows.length).map f, rfl, hss, fun j u hj => ?_, fun i hi => ⟨_, hat i hi, (hf i hi).2.2⟩⟩
  have hjl : j < rows.length * 2 := by
    have := (List.getElem?_eq_some_iff.1 hj).1
    rwa [flatR_length _ rows hss] at this
  obtain ⟨f1, f2⟩ := flatR_at _ rows (j / 2) hss (by omega)
  obtain ⟨g1, g2, _⟩ := hf (j / 2) (by omega)
  rcases Nat.mod_two_eq_zero_or_one j with h0 | h0
  · rw [show j / 2 * 2 = j by omega] at f1 g1
    rw [f1, hat _ (by omega)] at hj
    rw [← Option.some.inj hj]; exact g1
  · rw [show j / 2 * 2 + 1 = j by omega] at f2 g2
    rw [f2] at hj
    rw [← Option.some.inj hj]; exact g2

theorem info_row : (Tryd.prog.info? 36).map (fun i => (i.zero, i.size, i.bytes)) = some (some (.agg #[.slice none 0 0, .string ⟨#[]⟩]), 2, 40) := by kernel_rfl
theorem rows_parts {z : Value} {size bytes : Nat} (h : (Tryd.prog.info? 36).map (fun i => (i.zero, i.size, i.bytes)) = some (some z, size, bytes)) : ∃ i, Tryd.prog.info? 36 = some i ∧ i.zero = some z ∧ i.size = size ∧ i.bytes = bytes := by
  obtain ⟨i, hi, hz⟩ := Option.map_eq_some_iff.1 h
  simp only [Prod.mk.injEq] at hz
  exact ⟨i, hi, hz.1, hz.2.1, hz.2.2⟩

set_option maxHeartbeats 400000 in
theorem CloneR_any (A : Option Addr) (c : Nat) (rows : List RowL) (w : World) (hC : KRow.C w A rows.length rows) (hv : rows.length ≤ 1099511627776) :
    Calls Tryd.prog 64 #[.slice A rows.length c] w fun e w' => ∃ v', e = .returned v' ∧ RowsV w w' w.heap.size v' rows ∧ Below w.heap.size w w' := by
  have hm := C_max hC
  have hq : ∀ (w : World) (a : Option Addr) (n c n' c' : Nat), (binOp .eql 22 (.slice a n c) (.slice none n' c')).run Tryd.prog w = .ok (.bool a.isNone) w := fun w a n c n' c' => Lib.run_eql_slice_nil w _ _ a n c n' c' Tryd.underlying22
  obtain ⟨i0, hi, hz0, hz1, hz2⟩ := rows_parts info_row
  cases A with
  | none =>
    have hl : rows = [] := by
      cases rows with
      | nil => rfl
      | cons x v => obtain ⟨ad, A0, c0, e, _⟩ := at_row hC 0 (by simp); cases e
    subst hl
    go_enter Tryd.func64, Tryd.ntmps64
    go_wp2
    go_ret
    exact ⟨_, rfl, RowsV.nil _ _ _, Below.refl _ _⟩
  | some ad =>
    obtain ⟨ss, hss, hcells, hvs⟩ : ∃ ss : List Value, ss.length = rows.length ∧ (∀ j u, (flatR ss rows)[j]? = some u → w.cell? (ad.add j) = some u) ∧ ∀ i (hi : i < rows.length), ∃ s, ss[i]? = some s ∧ Vst w w s (rows[i]).vec := by
      by_cases hn : rows = []
      · subst hn
        exact ⟨[], rfl, fun j u h => by simp [flatR] at h, fun i hi => by simp at hi⟩
      · obtain ⟨ad', ss, e, h1, h2, h3⟩ := rows_cells hC (Below.refl _ _) hn
        cases e
        exact ⟨ss, h1, h2, h3⟩
    have HC := Aside0.mk hcells
    have HV := Aside0.mk hvs
    have hown0 := World.ownsRow_made (e := 36) (size := 2) w #[] 0 (Nat.le_refl _) (Nat.zero_le _) (by simp)
    have h1c : ∀ u ∈ flatR ss rows, u.oneCell' = true := flatR_one ss rows (fun s hs => by
      obtain ⟨i, hi, e⟩ := List.getElem_of_mem hs
      obtain ⟨s', e', hv'⟩ := hvs i (by omega)
      rw [List.getElem?_eq_getElem hi, e] at e'
      cases e'
      exact hv'.one)
    have H1 := Aside0.mk h1c
    have m1 : 0 + rows.length ≤ maxLen := by simp only [maxLen]; omega
    have m2 : (0 + rows.length) * 40 ≤ 140737488355328 := by omega
    have m3 : w.heap.size ≤ (w.alloc (.cells #[] 36)).heap.size := by simp
    have hnews : ∀ j u, (flatR ss rows)[j]? = some u → (w.alloc (.cells #[] 36)).cell? (ad.add j) = some u := fun j u hj => Lib.cell?_alloc_some _ (HC.out j u hj)
    have HN := Aside0.mk hnews
    have HH := Aside0.mk hown0
    clear hC hcells hvs h1c hnews hown0
    go_enter Tryd.func64, Tryd.ntmps64
    go_wp2_with (at_builtin; refine wpList_append_own_at _ rfl _ _ 22 rfl w.heap.size 36 i0 _ 2 40 Tryd.underlying22 hi hz0 hz1 hz2 rfl (by decide) _ 0 [] rfl HH.out ad rows.length c (flatR ss rows) rfl (flatR_length ss rows hss) HN.out H1.out m1 m2 m3 ?_; intro v1 w1 hown hgr _ hob)
    rw [List.nil_append, Nat.zero_add] at hown
    have hbel : Below w.heap.size w w1 := ((Below.refl w.heap.size w).alloc (Nat.le_refl _) _).grown hgr (by simp) (fun k hk => by cases hk; exact Nat.le_refl _)
    go_ret
    exact ⟨_, rfl, ⟨ss, hss, hown, fun i hi => by
      obtain ⟨s, e, hv'⟩ := HV.out i hi
      exact ⟨s, e, hv'.below hbel⟩⟩, hbel⟩

/-! ### the closure of peel.Valid -/
/-- the closure's box -/
def Box (w : World) (base p : Nat) (k : Int) : Prop := p < base ∧ base ≤ w.heap.size ∧ w.cell? ⟨p, 0, none⟩ = some (.int .i64 k)
theorem Box.below {w w' : World} {base p : Nat} {k : Int} (h : Box w base p k) (hb : Below base w w') : Box w' base p k := ⟨h.1, Nat.le_trans h.2.1 hb.size, (hb.cell (p := ⟨p, 0, none⟩) h.1).trans h.2.2⟩

set_option maxHeartbeats 400000 in
theorem Valid1_any (A : Option Addr) (c : Nat) (r : RowL) (p base : Nat) (k : Int) (w : World) (hC : Kw.C w A r.vec.length r.vec) (hB : Box w base p k) (h0 : -9223372036854775808 ≤ k) (h1 : k ≤ 9223372036854775807) :
    Calls Tryd.prog 65 #[.agg #[.slice A r.vec.length c, .string r.data], .pointer (some ⟨p, 0, none⟩)] w fun e w' => e = .returned (.bool (!validW k r.vec)) ∧ Below w.heap.size w w' := by
  have hm := C_max hC
  have hp : p < w.heap.size := Nat.lt_of_lt_of_le hB.1 hB.2.1
  have hcell := hB.2.2
  have hb := (Below.refl w.heap.size w).alloc (Nat.le_refl _) (.cells #[.slice A r.vec.length c, .string r.data] 36)
  have q1 := (hb.cell (p := ⟨p, 0, none⟩) hp).trans hcell
  have hv := Valid_any A c r.vec k _ (Kd.C_below hC hb) h0 h1
  have HB := Aside0.mk hb
  have HV := Aside0.mk hv
  clear hC hb hv hB
  go_enter Tryd.func65, Tryd.ntmps65
  go_wp2_with (go_at_call 66; refine HV.out.mono ?_; rintro e w1 ⟨rfl, rfl⟩)
  go_ret
  exact ⟨rfl, HB.out⟩

set_option maxHeartbeats 400000 in
theorem IndexFunc_any (A : Option Addr) (c : Nat) (rows : List RowL) (p base : Nat) (k : Int) (w : World) (hC : KRow.C w A rows.length rows) (hB : Box w base p k) (h0 : -9223372036854775808 ≤ k) (h1 : k ≤ 9223372036854775807) :
    Calls Tryd.prog 86 #[.slice A rows.length c, .func (.func 65) #[] #[.pointer (some ⟨p, 0, none⟩)]] w fun e w' =>
      ∃ z : Int, e = .returned (.int .i64 z) ∧ ((z = -1 ∧ ∀ j (hj : j < rows.length), validW k (rows[j]).vec = true) ∨
        ∃ i : Nat, ∃ hi : i < rows.length, z = i ∧ validW k (rows[i]).vec = false ∧ ∀ j (hj : j < rows.length), j < i → validW k (rows[j]).vec = true) ∧ Below w.heap.size w w' := by
  have hm := C_max hC
  have HC := Aside0.mk hC
  have HX := Aside0.mk hB
  clear hC hB
  go_enter Tryd.func86, Tryd.ntmps86
  go_wp2
  go_loopw [8] (fun i wr => ∃ n : Nat, n ≤ rows.length ∧ i = .int .i64 n ∧ Aside0 (∀ j (hj : j < rows.length), j < n → validW k (rows[j]).vec = true) ∧ Aside0 (Below w.heap.size w wr)) (fun i _ => rows.length - (intOf i).toNat)
  case atStart => exact ⟨0, Nat.zero_le _, rfl, ⟨fun j _ hj => by omega⟩, ⟨Below.refl _ _⟩⟩
  case round =>
    obtain ⟨n, hn, rfl, HI, HG⟩ := hrel
    by_cases hlt : n < rows.length
    · obtain ⟨ad, A0, c0, rfl, hc1, hc2, _, hV⟩ := at_row (Kd.C_below HC.out HG.out) n hlt
      have hv := Valid1_any A0 c0 rows[n] p base k _ hV (HX.out.below (HG.out.mono HX.out.2.1)) h0 h1
      cases hb : validW k (rows[n]).vec with
      | true =>
        rw [hb] at hv
        have HV := Aside0.mk hv
        have HE := Aside0.mk hb
        clear hv hV hb
        go_wp2_with (go_at_call 65; refine HV.out.mono ?_; rintro e w1 ⟨rfl, hb1⟩)
        have HB1 := Aside0.mk (HG.out.trans (hb1.mono HG.out.size))
        clear hb1
        go_roundw
        case rel =>
          refine ⟨n + 1, by omega, by go_num, ⟨fun j hj hjn => ?_⟩, HB1⟩
          by_cases h : j < n
          · exact HI.out j hj h
          · have : j = n := by omega
            subst this
            exact HE.out
        case measure => simp [intOf]; omega
      | false =>
        rw [hb] at hv
        have HV := Aside0.mk hv
        have HE := Aside0.mk hb
        clear hv hV hb
        go_wp2_with (go_at_call 65; refine HV.out.mono ?_; rintro e w1 ⟨rfl, hb1⟩)
        have HB1 := Aside0.mk (HG.out.trans (hb1.mono HG.out.size))
        clear hb1
        go_ret
        exact ⟨n, rfl, .inr ⟨n, hlt, rfl, HE.out, HI.out⟩, HB1.out⟩
    · go_wp2
      go_ret
      exact ⟨-1, rfl, .inl ⟨rfl, fun j hj => HI.out j hj (by omega)⟩, HG.out⟩

end Go.Proofs.YtnfabflkajpkfaaDoor.Valid
