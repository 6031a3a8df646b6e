/- append of rows onto rows of the call's own. No condition. -/
import Derived.Test.YtnfabflkajpkfaaDoorRowsA
namespace Go.Proofs.YtnfabflkajpkfaaDoor.RowsB
open Go Go.RowKit Go.Proofs.YtnfabflkajpkfaaDoorW.PrintWords Go.Proofs.YtnfabflkajpkfaaDoor.Base Go.Proofs.YtnfabflkajpkfaaDoor.Kinds Go.Proofs.YtnfabflkajpkfaaDoor.Rows2 Go.Proofs.YtnfabflkajpkfaaDoor.Valid Go.Proofs.YtnfabflkajpkfaaDoor.RowsA
set_option linter.unusedVariables false
set_option linter.unusedSimpArgs false

theorem flatR_append : ∀ (ss : List Value) (rs : List RowL) (ts : List Value) (qs : List RowL), ss.length = rs.length → flatR (ss ++ ts) (rs ++ qs) = flatR ss rs ++ flatR ts qs
  | [], [], ts, qs, _ => rfl
  | a :: ss, b :: rs, ts, qs, h => by
    simp only [List.cons_append, flatR]
    rw [flatR_append ss rs ts qs (by simpa using h)]
theorem rows_notW {w0 w : World} {base : Nat} {v : Value} {rs : List RowL} (h : RowsV w0 w base v rs) : notW w v.ownBlock := by
  obtain ⟨ss, h1, h2, h3⟩ := h
  intro g hg cs' fr' h'
  rcases h2.2 with ⟨rfl, _⟩ | ⟨g1, cap, cur, rfl, _, hh, _⟩
  · simp [Value.ownBlock] at hg
  · have : g1 = g := by simpa [Value.ownBlock] using hg
    subst this
    rw [hh] at h'
    injection h' with h'
    injection h' with _ h2
    exact absurd h2 (by decide)
theorem wpList_append_rowsV {ops : Array Oper} {rest : List Oper} {o : Oper} {a : Act} {Q : Exit → Act → World → Prop} {w0 w1 W : World} (hgd : o.guard = none) (s x : Operand)
    (ho : o.op = .call { callee := .builtin .append, args := #[s, x], argTypes := #[22, 22] })
    (base : Nat) (v : Value) (rs : List RowL) (hs : a.eval s = v) (hR : RowsV w0 W base v rs) (A : Option Addr) (c : Nat) (qs : List RowL) (hx : a.eval x = .slice A qs.length c)
    (hq : KRow.C w0 A qs.length qs) (hb0 : Below w0.heap.size w0 W) (hB : Below base w1 W) (hbase : base ≤ W.heap.size) (hl : rs.length + qs.length ≤ 1099511627776)
    (h : ∀ v' w', RowsV w0 w' base v' (rs ++ qs) → Below base w1 w' → wpList Tryd.prog ops Q rest (a.put o.dst v') w') :
    wpList Tryd.prog ops Q (o :: rest) a W := by
  obtain ⟨i0, hi, hz0, hz1, hz2⟩ := rows_parts info_row
  have hR' := hR
  obtain ⟨ss, e1, e2, e3⟩ := hR'
  have ht := Tryd.underlying22
  have hrun : ∃ v1 w1, (Builtin.append_ #[22, 22] o.type #[v, .slice A qs.length c]).run Tryd.prog W = .ok v1 w1 ∧ RowsV w0 w1 base v1 (rs ++ qs) ∧ W.grownBy w1 v.ownBlock := by
    rcases A with _ | ad
    · have h0 : qs = [] := by
        by_cases h0 : qs = []
        · exact h0
        · obtain ⟨ad, _, e, _⟩ := rows_cells hq (Below.refl _ _) h0
          cases e
      subst h0
      refine ⟨v, W, ?_, by simpa using hR, World.grownBy.refl W _⟩
      rcases e2.2 with ⟨rfl, hn⟩ | ⟨g, cap, cur, rfl, _, _, hnc, _⟩
      · simp [Builtin.append_, run_underlying ht, sizeOf, typeInfo, hi, Builtin.lenOf, Builtin.firstCells]
      · simp [Builtin.append_, run_underlying ht, sizeOf, typeInfo, hi, Builtin.lenOf, Builtin.firstCells, hnc, storeCells]
    · obtain ⟨ts, f1, f2, f3⟩ : ∃ ts : List Value, ts.length = qs.length ∧ (∀ j u, (flatR ts qs)[j]? = some u → W.cell? (ad.add j) = some u) ∧ ∀ i (hi : i < qs.length), ∃ s, ts[i]? = some s ∧ Vst w0 W s (qs[i]).vec := by
        by_cases h0 : qs = []
        · subst h0; exact ⟨[], rfl, by simp [flatR], by simp⟩
        · obtain ⟨ad', ts, e, f1, f2, f3⟩ := rows_cells hq hb0 h0
          cases e
          exact ⟨ts, f1, f2, f3⟩
      have hone : ∀ s ∈ ts, s.oneCell' = true := fun s hs => by
        obtain ⟨i, hi, rfl⟩ := List.getElem_of_mem hs
        obtain ⟨s', hs', hv⟩ := f3 i (by omega)
        rw [List.getElem?_eq_getElem hi] at hs'
        cases hs'
        exact hv.one
      obtain ⟨v1, w2, hr, k1, k2, _, _⟩ := run_append_own_at (P := Tryd.prog) W base 22 o.type 36 i0 _ 2 40 ht hi hz0 hz1 hz2 rfl (by decide) v rs.length (flatR ss rs) e2 ad qs.length c (flatR ts qs) (flatR_length ts qs f1) f2 (flatR_one ts qs hone) (by simp only [maxLen]; omega) (by omega) hbase
      refine ⟨v1, w2, hr, ⟨ss ++ ts, by simp [e1, f1], ?_, fun i hi => ?_⟩, k2⟩
      · rw [flatR_append ss rs ts qs e1, List.length_append]; exact k1
      · have hnw := rows_notW hR
        by_cases hil : i < rs.length
        · obtain ⟨s', hs', hv⟩ := e3 i hil
          refine ⟨s', by rw [List.getElem?_append_left (by omega)]; exact hs', ?_⟩
          rw [List.getElem_append_left hil]; exact hv.move k2 hnw
        · have hil2 : i - rs.length < qs.length := by rw [List.length_append] at hi; omega
          obtain ⟨s', hs', hv⟩ := f3 (i - rs.length) hil2
          refine ⟨s', by rw [List.getElem?_append_right (by omega), e1]; exact hs', ?_⟩
          rw [List.getElem_append_right (by omega)]; exact hv.move k2 hnw
  obtain ⟨v1, w2, hr, hown, hg⟩ := hrun
  refine wpList_plain hgd fun K hK => ?_
  unfold Oper.wp execOp
  simp only [ho, resolve, invoke, builtin, Sem.run_bind, Sem.run_pure, Result.andThen_ok, List.map_toArray, List.map_cons, List.map_nil, hs, hx, hr]
  exact hK _ _ (h v1 w2 hown (grown_base hR hB hbase hg))

end Go.Proofs.YtnfabflkajpkfaaDoor.RowsB
