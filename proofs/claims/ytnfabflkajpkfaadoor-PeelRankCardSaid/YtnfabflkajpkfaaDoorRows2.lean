/- Rows in memory: a slice of words that stays, a list of rows that the call itself has made. No condition. -/
import Derived.Test.YtnfabflkajpkfaaDoorKinds
namespace Go.Proofs.YtnfabflkajpkfaaDoor.Rows2
open Go Go.RowKit Go.Proofs.YtnfabflkajpkfaaDoorW.PrintWords Go.Proofs.YtnfabflkajpkfaaDoor.Base Go.Proofs.YtnfabflkajpkfaaDoor.Kinds
set_option linter.unusedVariables false
set_option linter.unusedSimpArgs false

/-- a slice of words: it was there in w0, and nothing of w0 has turned; or it is one of the call's own, by its type apart from what is written -/
def Vst (w0 w : World) (s : Value) (v : List UInt64) : Prop :=
  (∃ A c, s = .slice A v.length c ∧ v.length ≤ c ∧ Kw.C w0 A v.length v) ∨ Own w w0.heap.size 45 s (v.map encW)
section
variable {w0 w w' : World} {s : Value} {v : List UInt64}
theorem Vst.C (h : Vst w0 w s v) (hb : Below w0.heap.size w0 w) : ∃ A c, s = .slice A v.length c ∧ v.length ≤ c ∧ Kw.C w A v.length v := by
  rcases h with ⟨A, c, e, hc, hC⟩ | h
  · exact ⟨A, c, e, hc, Kd.C_below hC hb⟩
  · exact h.Cw
theorem Vst.one (h : Vst w0 w s v) : s.oneCell' = true := by
  rcases h with ⟨A, c, e, hc, hC⟩ | ⟨rfl, _⟩ | ⟨g, cap, cur, fr, rfl, _⟩
  · rw [e]; rfl
  · rfl
  · rfl
/-- what may be written: blocks of another type, or such that are no row of words -/
def notW (w : World) (row : Option Nat) : Prop := ∀ g, row = some g → ∀ cs fr, w.heap[g]? ≠ some (.cells cs 45 fr)
theorem notW_none (w : World) : notW w none := fun g h => by cases h
theorem notW_typed {g : Nat} {cs : Array Value} {t : TypeId} {fr : Nat × Nat} (h : w.heap[g]? = some (.cells cs t fr)) (ht : t ≠ 45) : notW w (some g) := by
  intro g' e cs' fr' h'
  cases e
  rw [h] at h'
  injection h' with h'
  injection h' with _ h2
  exact ht h2
theorem notW_map {g : Nat} {es : Array MapEntry} {k : Nat} (h : w.heap[g]? = some (.map es k)) : notW w (some g) := by
  intro g' e cs' fr' h'
  cases e
  rw [h] at h'
  cases h'
theorem notW_own {base : Nat} {e : TypeId} {x : Value} {cs : List Value} (h : Own w base e x cs) (he : e ≠ 45) : notW w x.ownBlock := by
  intro g hg cs' fr' h'
  rcases h with ⟨rfl, _⟩ | ⟨g1, cap, cur, fr, rfl, _, hh, _⟩
  · simp [Value.ownBlock] at hg
  · have : g1 = g := by simpa [Value.ownBlock] using hg
    subst this
    rw [hh] at h'
    injection h' with h'
    injection h' with _ h2
    exact he h2
theorem Vst.move (h : Vst w0 w s v) {row : Option Nat} (hw : w.grownBy w' row) (hn : notW w row) : Vst w0 w' s v := by
  rcases h with h | h
  · exact .inl h
  · refine .inr (h.grown hw ?_)
    cases hv : s.ownBlock with
    | none => exact .inl rfl
    | some g =>
      refine .inr fun e => ?_
      rcases h with ⟨h1, _⟩ | ⟨g1, cap, cur, fr, h1, _, hh, _⟩
      · rw [h1] at hv; simp [Value.ownBlock] at hv
      · rw [h1] at hv
        have : g1 = g := by simpa [Value.ownBlock] using hv
        subst this
        exact hn g1 e.symm cur fr hh
theorem Vst.below (h : Vst w0 w s v) (hb : Below w.heap.size w w') : Vst w0 w' s v := h.move (row := none) (grown_of_below hb _) (notW_none _)
theorem Vst.alloc (h : Vst w0 w s v) (o : Obj) : Vst w0 (w.alloc o) s v := h.below ((Below.refl _ _).alloc (Nat.le_refl _) _)
theorem Vst.drew (h : Vst w0 w s v) : Vst w0 w.drew s v := h.below (Below.refl _ _).drew
theorem Vst.own (h : Own w w0.heap.size 45 s (v.map encW)) : Vst w0 w s v := .inr h
end

/-- the cells of rows -/
def flatR : List Value → List RowL → List Value
  | s :: ss, r :: rs => s :: .string r.data :: flatR ss rs
  | _, _ => []
theorem flatR_length : ∀ (ss : List Value) (rs : List RowL), ss.length = rs.length → (flatR ss rs).length = rs.length * 2
  | [], [], _ => rfl
  | s :: ss, r :: rs, h => by
    simp only [flatR, List.length_cons]
    rw [flatR_length ss rs (by simpa using h)]; omega
theorem flatR_at : ∀ (ss : List Value) (rs : List RowL) (i : Nat) (h : ss.length = rs.length) (hi : i < rs.length), (flatR ss rs)[i * 2]? = ss[i]? ∧ (flatR ss rs)[i * 2 + 1]? = some (.string (rs[i]).data)
  | [], [], i, _, hi => by simp at hi
  | s :: ss, r :: rs, 0, h, hi => by simp [flatR]
  | s :: ss, r :: rs, i + 1, h, hi => by
    have := flatR_at ss rs i (by simpa using h) (by simpa using hi)
    simp only [flatR, show (i + 1) * 2 = i * 2 + 1 + 1 by omega, List.getElem?_cons_succ, List.getElem_cons_succ]
    exact this
theorem flatR_snoc : ∀ (ss : List Value) (rs : List RowL) (s : Value) (r : RowL), ss.length = rs.length → flatR (ss ++ [s]) (rs ++ [r]) = flatR ss rs ++ [s, .string r.data]
  | [], [], s, r, _ => rfl
  | a :: ss, b :: rs, s, r, h => by
    simp only [List.cons_append, flatR]
    rw [flatR_snoc ss rs s r (by simpa using h)]
theorem flatR_one : ∀ (ss : List Value) (rs : List RowL), (∀ s ∈ ss, s.oneCell' = true) → ∀ u ∈ flatR ss rs, u.oneCell' = true
  | [], _, _, u, hu => by simp [flatR] at hu
  | s :: ss, [], _, u, hu => by simp [flatR] at hu
  | s :: ss, r :: rs, h, u, hu => by
    simp only [flatR, List.mem_cons] at hu
    rcases hu with rfl | rfl | hu
    · exact h _ (by simp)
    · rfl
    · exact flatR_one ss rs (fun x hx => h x (by simp [hx])) u hu

/-- a list of rows of the call's own -/
def RowsV (w0 w : World) (base : Nat) (v : Value) (rs : List RowL) : Prop :=
  ∃ ss, ss.length = rs.length ∧ w.ownsRow base 36 2 v rs.length (flatR ss rs) ∧ ∀ i (hi : i < rs.length), ∃ s, ss[i]? = some s ∧ Vst w0 w s (rs[i]).vec
section
variable {w0 w w' : World} {base : Nat} {v : Value} {rs : List RowL}
theorem RowsV.nil (w0 w : World) (base : Nat) : RowsV w0 w base (.slice none 0 0) [] := ⟨[], rfl, World.ownsRow_nil _ _ _ _, fun i hi => by simp at hi⟩
theorem ownsRow_grown {e : TypeId} {size n : Nat} {cs : List Value} (h : w.ownsRow base e size v n cs) {row : Option Nat} (hw : w.grownBy w' row) (hne : v.ownBlock = none ∨ v.ownBlock ≠ row) : w'.ownsRow base e size v n cs := by
  obtain ⟨hl, h⟩ := h
  refine ⟨hl, ?_⟩
  rcases h with h | ⟨g, cap, cur, rfl, hg, hh, r⟩
  · exact .inl h
  · refine .inr ⟨g, cap, cur, rfl, hg, (hw.block g (Array.getElem?_eq_some_iff.1 hh).1 (fun e => ?_)).trans hh, r⟩
    rcases hne with h0 | h0
    · simp [Value.ownBlock] at h0
    · exact h0 (by simp [Value.ownBlock, e])
theorem RowsV.move (h : RowsV w0 w base v rs) {row : Option Nat} (hw : w.grownBy w' row) (hn : notW w row) (hne : v.ownBlock = none ∨ v.ownBlock ≠ row) : RowsV w0 w' base v rs := by
  obtain ⟨ss, h1, h2, h3⟩ := h
  exact ⟨ss, h1, ownsRow_grown h2 hw hne, fun i hi => by
    obtain ⟨s, hs, hv⟩ := h3 i hi
    exact ⟨s, hs, hv.move hw hn⟩⟩
theorem RowsV.below (h : RowsV w0 w base v rs) (hb : Below w.heap.size w w') : RowsV w0 w' base v rs := by
  refine h.move (row := none) (grown_of_below hb _) (notW_none _) ?_
  cases v.ownBlock <;> simp
theorem RowsV.form (h : RowsV w0 w base v rs) : ∃ A c, v = .slice A rs.length c ∧ rs.length ≤ c := by
  obtain ⟨ss, h1, h2, h3⟩ := h
  rcases h2.2 with ⟨rfl, hx⟩ | ⟨g, cap, cur, rfl, _, _, hc, _⟩
  · have : rs.length = 0 := hx
    rw [this]; exact ⟨none, 0, rfl, Nat.le_refl _⟩
  · exact ⟨_, _, rfl, hc⟩
/-- read as rows -/
theorem RowsV.C (h : RowsV w0 w base v rs) (hb : Below w0.heap.size w0 w) : ∃ A c, v = .slice A rs.length c ∧ rs.length ≤ c ∧ KRow.C w A rs.length rs := by
  obtain ⟨ss, h1, h2, h3⟩ := h
  have hfl := flatR_length ss rs h1
  rcases h2.2 with ⟨rfl, hx⟩ | ⟨g, cap, cur, rfl, _, hh, hc, hm, hsz, htk⟩
  · have : rs = [] := List.eq_nil_of_length_eq_zero hx
    subst this
    exact ⟨none, 0, rfl, Nat.le_refl _, rfl, by decide, fun h => absurd h (by decide)⟩
  · refine ⟨_, _, rfl, hc, rfl, by simp only [maxLen] at hm; omega, fun hn => ⟨_, rfl, fun i r hi => ?_⟩⟩
    obtain ⟨hil, hir⟩ := List.getElem?_eq_some_iff.1 hi
    obtain ⟨s, hs, hv⟩ := h3 i hil
    obtain ⟨f1, f2⟩ := flatR_at ss rs i h1 hil
    obtain ⟨A, c, rfl, hcc, hC⟩ := hv.C hb
    rw [hir] at f2 hC hcc
    rw [hir] at hs
    refine ⟨[.slice A r.vec.length c, .string r.data], rfl, KRow_mk hcc hC, fun j u hj => ?_⟩
    have hcell : ∀ m x, (flatR ss rs)[m]? = some x → w.cell? ⟨g, m, none⟩ = some x := by
      intro m x hmx
      have hml := (List.getElem?_eq_some_iff.1 hmx).1
      rw [cell_of_row w g m cur _ _ hh]
      rw [← htk, List.getElem?_take] at hmx
      split at hmx
      · simpa using hmx
      · cases hmx
    have hadd : ∀ m, (⟨g, 0, none⟩ : Addr).add m = ⟨g, m, none⟩ := fun m => by unfold Addr.add; split <;> simp_all
    have hsz2 : KRow.sz = 2 := rfl
    match j, hj with
    | 0, hj =>
      have hu : u = .slice A r.vec.length c := by simpa using hj.symm
      rw [hsz2, hadd, hu]
      exact hcell _ _ (by rw [Nat.add_zero, f1]; exact hs)
    | 1, hj =>
      have hu : u = .string r.data := by simpa using hj.symm
      rw [hsz2, hadd, hu]
      exact hcell _ _ f2
/-- one more -/
theorem RowsV.snoc {v' s : Value} {r : RowL} (h : RowsV w0 w base v rs) (hw : w.grownBy w' v.ownBlock) (hs : Vst w0 w s r.vec)
    (ho : ∀ ss, ss.length = rs.length → w.ownsRow base 36 2 v rs.length (flatR ss rs) → w'.ownsRow base 36 2 v' (rs.length + 1) (flatR ss rs ++ [s, .string r.data])) : RowsV w0 w' base v' (rs ++ [r]) := by
  obtain ⟨ss, h1, h2, h3⟩ := h
  have hnw : notW w v.ownBlock := by
    intro g hg cs' fr' h'
    rcases h2.2 with ⟨rfl, _⟩ | ⟨g1, cap, cur, rfl, _, hh, _⟩
    · simp [Value.ownBlock] at hg
    · have : g1 = g := by simpa [Value.ownBlock] using hg
      subst this
      rw [hh] at h'
      injection h' with h'
      injection h' with _ h2
      exact absurd h2 (by decide)
  refine ⟨ss ++ [s], by simp [h1], ?_, fun i hi => ?_⟩
  · rw [flatR_snoc ss rs s r h1, List.length_append]; exact ho ss h1 h2
  · by_cases hl : i < rs.length
    · obtain ⟨s', hs', hv⟩ := h3 i hl
      refine ⟨s', by rw [List.getElem?_append_left (by omega)]; exact hs', ?_⟩
      rw [List.getElem_append_left hl]; exact hv.move hw hnw
    · have : i = rs.length := by simp at hi; omega
      subst this
      refine ⟨s, by rw [← h1]; simp, ?_⟩
      rw [List.getElem_append_right (Nat.le_refl _)]
      simpa using hs.move hw hnw
end

end Go.Proofs.YtnfabflkajpkfaaDoor.Rows2
