/- Lists of rows of words in memory. No condition. -/
import Derived.Test.YtnfabflkajpkfaaDoorRows2
import Derived.Test.YtnfabflkajpkfaaDoorRowsA
import Derived.Test.YtnfabflkajpkfaaDoorSpan
namespace Go.Proofs.YtnfabflkajpkfaaDoor.Wss
open Go Go.RowKit Go.Proofs.YtnfabflkajpkfaaDoorW.PrintWords Go.Proofs.YtnfabflkajpkfaaDoor.Base Go.Proofs.YtnfabflkajpkfaaDoor.Kinds Go.Proofs.YtnfabflkajpkfaaDoor.Rows2 Go.Proofs.YtnfabflkajpkfaaDoor.Valid Go.Proofs.YtnfabflkajpkfaaDoor.RowsA Go.Proofs.YtnfabflkajpkfaaDoor.Span
set_option linter.unusedVariables false
set_option linter.unusedSimpArgs false

def KW : Kd Wd := Kd.slice 45 Kw
theorem KW_open {w : World} {r : Wd} {cs : List Value} (h : KW.K w r cs) : ∃ A c, cs = [.slice A r.length c] ∧ r.length ≤ c ∧ Kw.C w A r.length r := by
  obtain ⟨A, c, rfl, l0, g0⟩ := h
  exact ⟨A, c, rfl, l0, g0⟩
theorem KW_mk {w : World} {r : Wd} {A : Option Addr} {c : Nat} (l0 : r.length ≤ c) (g0 : Kw.C w A r.length r) : KW.K w r [.slice A r.length c] := ⟨A, c, rfl, l0, g0⟩
theorem at_v {w : World} {A : Option Addr} {n : Nat} {xs : List Wd} (h : KW.C w A n xs) (k : Nat) (hk : k < xs.length) :
    ∃ ad A0 c0, A = some ad ∧ w.cell? (ad.add k) = some (.slice A0 (xs[k]).length c0) ∧ (xs[k]).length ≤ c0 ∧ Kw.C w A0 (xs[k]).length xs[k] := by
  obtain ⟨ad, e, hc⟩ := h.2.2 (by have := h.1; omega)
  obtain ⟨c, _, hK, hcell⟩ := hc k _ (List.getElem?_eq_getElem hk)
  obtain ⟨A0, c0, rfl, l0, g0⟩ := KW_open hK
  refine ⟨ad, A0, c0, e, ?_, l0, g0⟩
  have := hcell 0 _ rfl
  rwa [show KW.sz = 1 from rfl, Nat.mul_one, Nat.add_zero] at this

/-- a list of rows of words of the call's own -/
def WsV (w0 w : World) (base : Nat) (v : Value) (l : List Wd) : Prop :=
  ∃ ss, ss.length = l.length ∧ w.ownsRow base 34 1 v l.length ss ∧ ∀ i (hi : i < l.length), ∃ s, ss[i]? = some s ∧ Vst w0 w s l[i]
section
variable {w0 w w' : World} {base : Nat} {v : Value} {rs : List Wd}
theorem WsV.nil (w0 w : World) (base : Nat) : WsV w0 w base (.slice none 0 0) [] := ⟨[], rfl, World.ownsRow_nil _ _ _ _, fun i hi => by simp at hi⟩
theorem WsV.move (h : WsV w0 w base v rs) {row : Option Nat} (hw : w.grownBy w' row) (hn : notW w row) (hne : v.ownBlock = none ∨ v.ownBlock ≠ row) : WsV w0 w' base v rs := by
  obtain ⟨ss, h1, h2, h3⟩ := h
  exact ⟨ss, h1, ownsRow_grown h2 hw hne, fun i hi => by
    obtain ⟨s, hs, hv⟩ := h3 i hi
    exact ⟨s, hs, hv.move hw hn⟩⟩
theorem WsV.below (h : WsV w0 w base v rs) (hb : Below w.heap.size w w') : WsV w0 w' base v rs := by
  refine h.move (row := none) (grown_of_below hb _) (notW_none _) ?_
  cases v.ownBlock <;> simp
/-- read as rows of words -/
theorem WsV.C (h : WsV w0 w base v rs) (hb : Below w0.heap.size w0 w) : ∃ A c, v = .slice A rs.length c ∧ rs.length ≤ c ∧ KW.C w A rs.length rs := by
  obtain ⟨ss, h1, h2, h3⟩ := h
  rcases h2.2 with ⟨rfl, hx⟩ | ⟨g, cap, cur, rfl, _, hh, hc, hm, hsz, htk⟩
  · have : rs = [] := List.eq_nil_of_length_eq_zero hx
    subst this
    exact ⟨none, 0, rfl, Nat.le_refl _, rfl, by decide, fun h => absurd h (by decide)⟩
  · refine ⟨_, _, rfl, hc, rfl, by simp only [maxLen] at hm; omega, fun hn => ⟨_, rfl, fun i r hi => ?_⟩⟩
    obtain ⟨hil, hir⟩ := List.getElem?_eq_some_iff.1 hi
    obtain ⟨s, hs, hv⟩ := h3 i hil
    obtain ⟨A, c, rfl, hcc, hC⟩ := hv.C hb
    rw [hir] at hC hcc hs
    refine ⟨[.slice A r.length c], rfl, KW_mk hcc hC, fun j u hj => ?_⟩
    have hcell : ∀ m x, ss[m]? = some x → w.cell? ⟨g, m, none⟩ = some x := by
      intro m x hmx
      rw [cell_of_row w g m cur _ _ hh]
      rw [← htk, List.getElem?_take] at hmx
      split at hmx
      · simpa using hmx
      · cases hmx
    have hadd : ∀ m, (⟨g, 0, none⟩ : Addr).add m = ⟨g, m, none⟩ := fun m => by unfold Addr.add; split <;> simp_all
    match j, hj with
    | 0, hj =>
      have hu : u = .slice A r.length c := by simpa using hj.symm
      rw [show KW.sz = 1 from rfl, hadd, hu, Nat.mul_one, Nat.add_zero]
      exact hcell _ _ hs
theorem WsV.apart (h : WsV w0 w base v rs) : Rows2.notW w v.ownBlock := by
  obtain ⟨ss, h1, h2, h3⟩ := h
  intro g hg cs' fr' h'
  rcases h2.2 with ⟨rfl, _⟩ | ⟨g1, cap, cur, rfl, _, hh, _⟩
  · simp [Value.ownBlock] at hg
  · have : g1 = g := by simpa [Value.ownBlock] using hg
    subst this
    rw [hh] at h'
    injection h' with h'
    injection h' with _ h2
    exact absurd h2 (by decide)
/-- one more -/
theorem WsV.snoc {v' s : Value} {r : Wd} (h : WsV w0 w base v rs) (hw : w.grownBy w' v.ownBlock) (hs : Vst w0 w s r)
    (ho : ∀ ss, ss.length = rs.length → w.ownsRow base 34 1 v rs.length ss → w'.ownsRow base 34 1 v' (rs.length + 1) (ss ++ [s])) : WsV w0 w' base v' (rs ++ [r]) := by
  obtain ⟨ss, h1, h2, h3⟩ := h
  have hnw : notW w v.ownBlock := by
    intro g hg cs' fr' h'
    rcases h2.2 with ⟨rfl, _⟩ | ⟨g1, cap, cur, rfl, _, hh, _⟩
    · simp [Value.ownBlock] at hg
    · have : g1 = g := by simpa [Value.ownBlock] using hg
      subst this
      rw [hh] at h'
      injection h' with h'
      injection h' with _ h2
      exact absurd h2 (by decide)
  refine ⟨ss ++ [s], by simp [h1], ?_, fun i hi => ?_⟩
  · rw [List.length_append]; exact ho ss h1 h2
  · by_cases hl : i < rs.length
    · obtain ⟨s', hs', hv⟩ := h3 i hl
      refine ⟨s', by rw [List.getElem?_append_left (by omega)]; exact hs', ?_⟩
      rw [List.getElem_append_left hl]; exact hv.move hw hnw
    · have : i = rs.length := by simp at hi; omega
      subst this
      refine ⟨s, by rw [← h1]; simp, ?_⟩
      rw [List.getElem_append_right (Nat.le_refl _)]
      simpa using hs.move hw hnw
theorem WsV.lower {base' : Nat} (h : WsV w0 w base v rs) (hb : base' ≤ base) : WsV w0 w base' v rs := by
  obtain ⟨ss, e1, ⟨e2, e3⟩, e4⟩ := h
  refine ⟨ss, e1, ⟨e2, ?_⟩, e4⟩
  rcases e3 with h | ⟨g, cap, cur, h1, h2, h3⟩
  · exact .inl h
  · exact .inr ⟨g, cap, cur, h1, Nat.le_trans hb h2, h3⟩
end
theorem info_ws : (Tryd.prog.info? 34).map (fun i => (i.zero, i.size, i.bytes)) = some (some (.slice none 0 0), 1, 24) := by kernel_rfl
theorem ws_parts : ∃ i, Tryd.prog.info? 34 = some i ∧ i.zero = some (.slice none 0 0) ∧ i.size = 1 ∧ i.bytes = 24 := by
  have h := info_ws
  cases hi : Tryd.prog.info? 34 with
  | none => rw [hi] at h; cases h
  | some i =>
    rw [hi] at h
    simp only [Option.map_some, Option.some.injEq, Prod.mk.injEq] at h
    exact ⟨i, rfl, h.1, h.2.1, h.2.2⟩
theorem grownW_base {w0 W w1 w00 : World} {base : Nat} {v : Value} {rs : List Wd} (hR : WsV w00 W base v rs) (hB : Below base w0 W) (hbase : base ≤ W.heap.size) (hg : W.grownBy w1 v.ownBlock) : Below base w0 w1 := by
  refine hB.grown hg hbase fun k hk => ?_
  obtain ⟨ss, e1, e2, e3⟩ := hR
  rcases e2.2 with ⟨rfl, _⟩ | ⟨g, cap, cur, rfl, hg, _⟩
  · simp [Value.ownBlock] at hk
  · have : g = k := by simpa [Value.ownBlock] using hk
    subst this; exact hg
theorem wpList_append_wsV {ops : Array Oper} {rest : List Oper} {o : Oper} {a : Act} {Q : Exit → Act → World → Prop} {w0 w1 W : World} (hgd : o.guard = none) (s x : Operand)
    (ho : o.op = .call { callee := .builtin .append, args := #[s, x], argTypes := #[62, 62] })
    (base : Nat) (v : Value) (rs : List Wd) (hs : a.eval s = v) (hR : WsV w0 W base v rs) (sv : Value) (r : Wd) (hsv : Vst w0 W sv r)
    (g c : Nat) (hx : a.eval x = .slice (some ⟨g, 0, none⟩) 1 c) (hc0 : W.cell? ⟨g, 0, none⟩ = some sv)
    (hB : Below base w1 W) (hbase : base ≤ W.heap.size) (hl : rs.length ≤ 1099511627776)
    (h : ∀ v' w', WsV w0 w' base v' (rs ++ [r]) → Below base w1 w' → W.grownBy w' v.ownBlock → wpList Tryd.prog ops Q rest (a.put o.dst v') w') :
    wpList Tryd.prog ops Q (o :: rest) a W := by
  obtain ⟨i0, hi, hz0, hz1, hz2⟩ := ws_parts
  have hR' := hR
  obtain ⟨ss, e1, e2, e3⟩ := hR'
  have hadd : ∀ m, (⟨g, 0, none⟩ : Addr).add m = ⟨g, m, none⟩ := fun m => by unfold Addr.add; split <;> simp_all
  refine wpList_append_own_at W hgd s x 62 ho base 34 i0 _ 1 24 Tryd.underlying62 hi hz0 hz1 hz2 rfl (by decide) v rs.length ss hs e2 ⟨g, 0, none⟩ 1 c [sv] hx rfl (fun j u hj => ?_) (fun u hu => ?_) (by simp only [maxLen]; omega) (by omega) hbase fun v' w' k1 k2 k3 k4 => ?_
  · rw [hadd]
    match j, hj with
    | 0, hj => have hu : u = sv := by simpa using hj.symm
               rw [hu]; exact hc0
  · simp only [List.mem_cons, List.not_mem_nil, or_false] at hu
    subst hu
    exact hsv.one
  · refine h v' w' (hR.snoc k2 hsv fun ss' e1' e2' => ?_) (grownW_base hR hB hbase k2) k2
    have hfe : ss' = ss := by
      rcases e2.2 with ⟨_, hx0⟩ | ⟨g1, cap1, cur1, hv1, _, hh1, _, _, _, ht1⟩
      · have : rs = [] := List.eq_nil_of_length_eq_zero hx0
        subst this
        have a1 : ss = [] := List.eq_nil_of_length_eq_zero e1
        have a2 : ss' = [] := List.eq_nil_of_length_eq_zero e1'
        rw [a1, a2]
      · rcases e2'.2 with ⟨hv2, _⟩ | ⟨g2, cap2, cur2, hv2, _, hh2, _, _, _, ht2⟩
        · rw [hv1] at hv2; cases hv2
        · have hgg : g1 = g2 := slice_block (hv1.symm.trans hv2)
          subst hgg
          have hh2 : cur1 = cur2 := by
            have := Option.some.inj (hh1.symm.trans hh2)
            cases this; rfl
          exact ht2.symm.trans ((congrArg (fun c : Array Value => c.toList.take (rs.length * 1)) hh2.symm).trans ht1)
    rw [hfe]; exact k1
/-- a block of one row of words, freshly made -/
theorem fresh_ws {w0 w1 wr : World} {base : Nat} {v : Value} {o : List Wd} {s : Value} {x : Wd} (hR : WsV w0 wr base v o) (hV : Vst w0 wr s x) (hB : Below base w1 wr) (hb : base ≤ wr.heap.size) :
    WsV w0 (wr.alloc (.cells #[s] 34)) base v o ∧ Vst w0 (wr.alloc (.cells #[s] 34)) s x ∧ Below base w1 (wr.alloc (.cells #[s] 34)) ∧ base ≤ (wr.alloc (.cells #[s] 34)).heap.size ∧ (wr.alloc (.cells #[s] 34)).cell? ⟨wr.heap.size, 0, none⟩ = some s := by
  have hal : Below wr.heap.size wr (wr.alloc (.cells #[s] 34)) := (Below.refl _ _).alloc (Nat.le_refl _) _
  have hn := hp_new wr (.cells #[s] 34) wr.heap.size rfl
  exact ⟨hR.below hal, hV.below hal, hB.trans (hal.mono hb), Nat.le_trans hb hal.size, by simp [blk_cell hn]⟩

end Go.Proofs.YtnfabflkajpkfaaDoor.Wss
