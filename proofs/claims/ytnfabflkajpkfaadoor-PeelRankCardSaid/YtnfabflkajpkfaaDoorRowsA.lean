/- append of one row onto rows of the call's own. No condition. -/
import Derived.Test.YtnfabflkajpkfaaDoorValid
namespace Go.Proofs.YtnfabflkajpkfaaDoor.RowsA
open Go Go.RowKit Go.Proofs.YtnfabflkajpkfaaDoorW.PrintWords Go.Proofs.YtnfabflkajpkfaaDoor.Base Go.Proofs.YtnfabflkajpkfaaDoor.Kinds Go.Proofs.YtnfabflkajpkfaaDoor.Rows2 Go.Proofs.YtnfabflkajpkfaaDoor.Valid
set_option linter.unusedVariables false
set_option linter.unusedSimpArgs false

theorem grown_base {w0 W w1 : World} {base : Nat} {v : Value} {rs : List RowL} {w00 : World} (hR : RowsV w00 W base v rs) (hB : Below base w0 W) (hbase : base ≤ W.heap.size) (hg : W.grownBy w1 v.ownBlock) : Below base w0 w1 := by
  refine hB.grown hg hbase fun k hk => ?_
  obtain ⟨ss, e1, e2, e3⟩ := hR
  rcases e2.2 with ⟨rfl, _⟩ | ⟨g, cap, cur, rfl, hg, _⟩
  · simp [Value.ownBlock] at hk
  · have : g = k := by simpa [Value.ownBlock] using hk
    subst this; exact hg
theorem wpList_append_rowV {ops : Array Oper} {rest : List Oper} {o : Oper} {a : Act} {Q : Exit → Act → World → Prop} {w0 w1 W : World} (hgd : o.guard = none) (s x : Operand)
    (ho : o.op = .call { callee := .builtin .append, args := #[s, x], argTypes := #[22, 22] })
    (base : Nat) (v : Value) (rs : List RowL) (hs : a.eval s = v) (hR : RowsV w0 W base v rs) (sv : Value) (r : RowL) (hsv : Vst w0 W sv r.vec)
    (g c : Nat) (hx : a.eval x = .slice (some ⟨g, 0, none⟩) 1 c) (hc0 : W.cell? ⟨g, 0, none⟩ = some sv) (hc1 : W.cell? ⟨g, 1, none⟩ = some (.string r.data))
    (hB : Below base w1 W) (hbase : base ≤ W.heap.size) (hl : rs.length ≤ 1099511627776)
    (h : ∀ v' w', RowsV w0 w' base v' (rs ++ [r]) → Below base w1 w' → W.grownBy w' v.ownBlock → (v'.ownBlock = v.ownBlock ∨ v'.ownBlock = some W.heap.size) → wpList Tryd.prog ops Q rest (a.put o.dst v') w') :
    wpList Tryd.prog ops Q (o :: rest) a W := by
  obtain ⟨i0, hi, hz0, hz1, hz2⟩ := rows_parts info_row
  have hR' := hR
  obtain ⟨ss, e1, e2, e3⟩ := hR'
  have hadd : ∀ m, (⟨g, 0, none⟩ : Addr).add m = ⟨g, m, none⟩ := fun m => by unfold Addr.add; split <;> simp_all
  refine wpList_append_own_at W hgd s x 22 ho base 36 i0 _ 2 40 Tryd.underlying22 hi hz0 hz1 hz2 rfl (by decide) v rs.length (flatR ss rs) hs e2 ⟨g, 0, none⟩ 1 c [sv, .string r.data] hx rfl (fun j u hj => ?_) (fun u hu => ?_) (by simp only [maxLen]; omega) (by omega) hbase fun v' w' k1 k2 k3 k4 => ?_
  · rw [hadd]
    match j, hj with
    | 0, hj => have hu : u = sv := by simpa using hj.symm
               rw [hu]; exact hc0
    | 1, hj => have hu : u = .string r.data := by simpa using hj.symm
               rw [hu]; exact hc1
  · simp only [List.mem_cons, List.not_mem_nil, or_false] at hu
    rcases hu with rfl | rfl
    · exact hsv.one
    · rfl
  · refine h v' w' (hR.snoc k2 hsv fun ss' e1' e2' => ?_) (grown_base hR hB hbase k2) k2 k4
    have hfe : flatR ss' rs = flatR ss rs := by
      rcases e2.2 with ⟨_, hx0⟩ | ⟨g1, cap1, cur1, hv1, _, hh1, _, _, _, ht1⟩
      · have : rs = [] := List.eq_nil_of_length_eq_zero hx0
        subst this
        have a1 : ss = [] := List.eq_nil_of_length_eq_zero e1
        have a2 : ss' = [] := List.eq_nil_of_length_eq_zero e1'
        rw [a1, a2]
      · rcases e2'.2 with ⟨hv2, _⟩ | ⟨g2, cap2, cur2, hv2, _, hh2, _, _, _, ht2⟩
        · rw [hv1] at hv2; cases hv2
        · have hgg : g1 = g2 := slice_block (hv1.symm.trans hv2)
          subst hgg
          have hh2 : cur1 = cur2 := by
            have := Option.some.inj (hh1.symm.trans hh2)
            cases this; rfl
          exact ht2.symm.trans ((congrArg (fun c : Array Value => c.toList.take (rs.length * 2)) hh2.symm).trans ht1)
    have k1' := k1
    rw [← hfe] at k1'
    exact k1'

end Go.Proofs.YtnfabflkajpkfaaDoor.RowsA
