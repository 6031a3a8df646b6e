/- peel.Peel: the maps, step by step. No condition. -/
import Derived.Test.YtnfabflkajpkfaaDoorPeelQ
import Derived.Test.YtnfabflkajpkfaaDoorDelete
import Derived.Test.YtnfabflkajpkfaaDoorXorR
import Derived.Carry
namespace Go.Proofs.YtnfabflkajpkfaaDoor.PeelV
open Go Go.RowKit Go.Maps Go.Proofs.YtnfabflkajpkfaaDoorW.PrintWords Go.Proofs.YtnfabflkajpkfaaDoor.Base Go.Proofs.YtnfabflkajpkfaaDoor.Bits Go.Proofs.YtnfabflkajpkfaaDoor.BitsN Go.Proofs.YtnfabflkajpkfaaDoor.Kinds Go.Proofs.YtnfabflkajpkfaaDoor.Words Go.Proofs.YtnfabflkajpkfaaDoor.WordsP Go.Proofs.YtnfabflkajpkfaaDoor.PeelP Go.Proofs.YtnfabflkajpkfaaDoor.Rows2 Go.Proofs.YtnfabflkajpkfaaDoor.MapR Go.Proofs.YtnfabflkajpkfaaDoor.MapS Go.Proofs.YtnfabflkajpkfaaDoor.KeysM Go.Proofs.YtnfabflkajpkfaaDoor.PeelQ Go.Proofs.YtnfabflkajpkfaaDoor.Valid Go.Proofs.YtnfabflkajpkfaaDoor.RowsA Go.Proofs.YtnfabflkajpkfaaDoor.Delete
set_option linter.unusedVariables false
set_option linter.unusedSimpArgs false

/-- block b holds no cells -/
def IsMapB (w : World) (b : Nat) : Prop := ∃ es k, w.heap[b]? = some (.map es k)
theorem mapB_of {w : World} {b n : Nat} {D : DataW Value} (h : w.ownsMap Tryd.prog 3 Rv b n D) : IsMapB w b := by
  obtain ⟨es, clock, hb, _⟩ := h
  exact ⟨es, clock, hb⟩
theorem IsMapB.notW {w : World} {b : Nat} (h : IsMapB w b) : notW w (some b) := by
  obtain ⟨es, k, h⟩ := h
  exact notW_map h
theorem cell_turn {w w' : World} {b : Nat} {p : Addr} {u : Value} (hm : IsMapB w b) (hg : w.grownBy w' (some b)) (h : w.cell? p = some u) : w'.cell? p = some u := by
  obtain ⟨es, k, hb⟩ := hm
  have hlt : p.block < w.heap.size := by
    rcases Nat.lt_or_ge p.block w.heap.size with h' | h'
    · exact h'
    · simp [World.cell?, Array.getElem?_eq_none h'] at h
  have hne : p.block ≠ b := by
    intro e
    rw [← e] at hb
    simp [World.cell?, hb] at h
  have hk := hg.block p.block hlt (fun e => hne (by injection e))
  rw [← h]
  simp only [World.cell?, hk]
theorem Kw_turn {w w' : World} {b : Nat} {A : Option Addr} {n : Nat} {v : List UInt64} (hm : IsMapB w b) (hg : w.grownBy w' (some b)) (h : Kw.C w A n v) : Kw.C w' A n v := by
  obtain ⟨h1, h2, h3⟩ := h
  refine ⟨h1, h2, fun hn => ?_⟩
  obtain ⟨ad, e, hc⟩ := h3 hn
  refine ⟨ad, e, fun j p hj => ?_⟩
  obtain ⟨c, hl, hK, hcell⟩ := hc j p hj
  exact ⟨c, hl, hK, fun i u hi => cell_turn hm hg (hcell i u hi)⟩
theorem KRow_turn {w w' : World} {b : Nat} {A : Option Addr} {n : Nat} {rows : List RowL} (hm : IsMapB w b) (hg : w.grownBy w' (some b)) (h : KRow.C w A n rows) : KRow.C w' A n rows := by
  obtain ⟨h1, h2, h3⟩ := h
  refine ⟨h1, h2, fun hn => ?_⟩
  obtain ⟨ad, e, hc⟩ := h3 hn
  refine ⟨ad, e, fun j p hj => ?_⟩
  obtain ⟨c, hl, hK, hcell⟩ := hc j p hj
  obtain ⟨A0, c0, rfl, l0, g0⟩ := KRow_open hK
  exact ⟨_, hl, KRow_mk l0 (Kw_turn hm hg g0), fun i u hi => cell_turn hm hg (hcell i u hi)⟩

/-- the first map, half filled -/
def Fill (w0 w : World) (bl : Nat) (A2 : Option Addr) (R : List RowL) (i : Nat) : Prop :=
  ∃ D, w.ownsMap Tryd.prog 3 Rv bl i D ∧ MRel w0 w D (fun j => if j < i then R[j]? else none) ∧ KRow.C w A2 R.length R ∧ Below w0.heap.size w0 w
theorem grown_of_below' {w0 w w' : World} {b : Nat} (h : Below w0.heap.size w0 w) (hg : w.grownBy w' (some b)) (hb : w0.heap.size ≤ b) : Below w0.heap.size w0 w' := h.grown hg h.size (fun k hk => by cases hk; exact hb)
theorem mapKept {w w' : World} {b n : Nat} {D : DataW Value} (h : w.ownsMap Tryd.prog 3 Rv b n D) (hb : Below w.heap.size w w') : w'.ownsMap Tryd.prog 3 Rv b n D := h.kept (grown_of_below hb none) (by simp)
theorem Fill.below {w0 w w' : World} {bl : Nat} {A2 : Option Addr} {R : List RowL} {i : Nat} (h : Fill w0 w bl A2 R i) (hb : Below w.heap.size w w') : Fill w0 w' bl A2 R i := by
  obtain ⟨D, h1, h2, h3, h4⟩ := h
  exact ⟨D, mapKept h1 hb, h2.move (grown_of_below hb none) (notW_none _), Kd.C_below h3 hb, h4.trans (hb.mono h4.size)⟩
/-- one row more -/
theorem Fill.put {w0 w : World} {bl : Nat} {A2 : Option Addr} {R : List RowL} {i : Nat} (h : Fill w0 w bl A2 R i) (hbl : w0.heap.size ≤ bl) (hi : i < R.length) (hR : R.length ≤ 1099511627776) {s : Value} (hs : Own w w0.heap.size 45 s ((R[i]).vec.map encW)) :
    ∃ w', (Instr.mapUpdate 47 (.map (some bl)) (.int .i64 i) (.agg #[s, .string (R[i]).data])).run Tryd.prog w = .ok () w' ∧ Fill w0 w' bl A2 R (i + 1) ∧ w.heap.size ≤ w'.heap.size := by
  obtain ⟨D, h1, h2, h3, h4⟩ := h
  have hm := mapB_of h1
  obtain ⟨w', hrun, k1, k2⟩ := h1.update kI Tryd.underlying47 (by simp only [maxLen]; omega) (keyN i (by omega)) (show Rv (.agg #[s, .string (R[i]).data]) = some (.held (.agg #[s, .string (R[i]).data]), []) from rfl)
  refine ⟨w', hrun, ⟨_, k1, ?_, KRow_turn hm k2 h3, grown_of_below' h4 k2 hbl⟩, k2.size⟩
  refine ((h2.move k2 hm.notW).put (by omega) ((Vst.own hs).move k2 hm.notW)).congr fun j => ?_
  show (if j = i then some R[i] else if j < i then R[j]? else none) = if j < i + 1 then R[j]? else none
  by_cases e : j = i
  · subst e
    rw [if_pos rfl, if_pos (by omega), List.getElem?_eq_getElem hi]
  · rw [if_neg e]
    by_cases e2 : j < i
    · rw [if_pos e2, if_pos (by omega)]
    · rw [if_neg e2, if_neg (by omega)]

/-! ### the outer loop -/
/-- what is known, what is left: all but the map of what is left -/
def OK (w0 w : World) (bk : Nat) (R : List RowL) (DL : DataW Value) (mL : Nat → Option RowL) (n : Nat) : Prop :=
  MRel w0 w DL mL ∧ (∃ DK mK, w.ownsMap Tryd.prog 3 Rv bk n DK ∧ MRel w0 w DK mK ∧ KInv (seqD R n) mK) ∧ LInv R (seqD R n) mL ∧ (seqD R n).length = n ∧ Below w0.heap.size w0 w
theorem OK.move {w0 w w' : World} {bk : Nat} {R : List RowL} {DL : DataW Value} {mL : Nat → Option RowL} {n : Nat} {row : Option Nat} (h : OK w0 w bk R DL mL n) (hg : w.grownBy w' row) (hn : notW w row) (hne : some bk ≠ row) (hr : ∀ k, row = some k → w0.heap.size ≤ k) : OK w0 w' bk R DL mL n := by
  obtain ⟨h1, ⟨DK, mK, h2, h3, h4⟩, h5, h6, h7⟩ := h
  exact ⟨h1.move hg hn, ⟨DK, mK, h2.kept hg hne, h3.move hg hn, h4⟩, h5, h6, h7.grown hg h7.size hr⟩
theorem OK.below {w0 w w' : World} {bk : Nat} {R : List RowL} {DL : DataW Value} {mL : Nat → Option RowL} {n : Nat} (h : OK w0 w bk R DL mL n) (hb : Below w.heap.size w w') : OK w0 w' bk R DL mL n :=
  h.move (grown_of_below hb none) (notW_none _) (by simp) (fun k hk => by cases hk)
theorem OK.lt {w0 w : World} {bk : Nat} {R : List RowL} {DL : DataW Value} {mL : Nat → Option RowL} {n : Nat} (h : OK w0 w bk R DL mL n) : bk < w.heap.size := by
  obtain ⟨h1, ⟨DK, mK, h2, h3, h4⟩, h5, h6, h7⟩ := h
  exact h2.lt
theorem notW_iter {w : World} {b r n cnt : Nat} {D : DataW Value} {left : Lit → Bool} (h : w.ranges Tryd.prog 3 Rv b r n D left cnt) : notW w (some r) := by
  obtain ⟨es, clock, since, seen, c0, _, _, _, _, hr, _⟩ := h
  intro g e cs fr h'
  cases e
  rw [hr] at h'
  cases h'
theorem invK (key : Value) (k' : Lit) (h : keyOf Tryd.prog 3 key = some k') : ∃ x : Int, key = .int .i64 x := by
  obtain ⟨x, rfl, _⟩ := Maps.keyOf_i64 Tryd.underlying3 h
  exact ⟨x, rfl⟩
theorem invV (v : Value) (y : DataW Value × List MemPlace) (h : Rv v = some y) : ∃ cs, v = .agg cs := by
  cases v with
  | agg cs => exact ⟨cs, rfl⟩
  | _ => cases h
/-- the entry that comes -/
theorem entry_row {w0 w : World} {D : DataW Value} {m : Nat → Option RowL} {x : Int} {cs : Array Value} {k' : Lit} {y : DataW Value × List MemPlace} (hM : MRel w0 w D m) (hk : keyOf Tryd.prog 3 (.int .i64 x) = some k') (hy : Rv (.agg cs) = some y) (hat : ∀ zd, D.atKey k' zd = y.1) :
    ∃ (i : Nat) (r : RowL) (s : Value), x = i ∧ k' = kl i ∧ m i = some r ∧ cs = #[s, .string r.data] ∧ Vst w0 w s r.vec ∧ i ≤ 9223372036854775807 := by
  have hhas : Maps.has D k' = true := has_true_of_atKey hat
  obtain ⟨i, r, rfl, hm⟩ := hM.2.2 k' hhas
  obtain ⟨hi, s, h1, h2⟩ := hM.2.1 i r hm
  obtain ⟨x', e1, e2, _⟩ := Maps.keyOf_i64 Tryd.underlying3 hk
  have ex : x = x' := encZ_inj e1
  have ei : (i : Int) = x' := by simpa [kl] using e2
  have hy1 : y = (.held (.agg cs), []) := by simpa [Rv] using hy.symm
  have := (h1 .nil).symm.trans (hat .nil)
  rw [hy1] at this
  have hcs : cs = #[s, .string r.data] := by
    simp only [DataW.held.injEq, Value.agg.injEq] at this
    exact this.symm
  exact ⟨i, r, s, by rw [ex, ei], rfl, hm, hcs, h2, hi⟩

/-! ### a row found -/
def Known (w0 w : World) (bk : Nat) (R : List RowL) (n : Nat) : Prop := ∃ DK mK, w.ownsMap Tryd.prog 3 Rv bk n DK ∧ MRel w0 w DK mK ∧ KInv (seqD R n) mK
theorem Known.move {w0 w w' : World} {bk : Nat} {R : List RowL} {n : Nat} {row : Option Nat} (h : Known w0 w bk R n) (hg : w.grownBy w' row) (hn : notW w row) (hne : some bk ≠ row) : Known w0 w' bk R n := by
  obtain ⟨DK, mK, h2, h3, h4⟩ := h
  exact ⟨DK, mK, h2.kept hg hne, h3.move hg hn, h4⟩
def struck (m : Nat → Option RowL) (i : Nat) : Nat → Option RowL := fun j => if j = i then none else m j
theorem seqD_succ {R : List RowL} {n i : Nat} (h : leastN R (seqD R n) = some i) : seqD R (n + 1) = seqD R n ++ [foundP R (seqD R n) i] := by rw [seqD, stepD, h]
theorem half {w0 W : World} {bl bk : Nat} {R : List RowL} {DL : DataW Value} {mL : Nat → Option RowL} {n M i0 : Nat} {s : Value} (hO : OK w0 W bk R DL mL n) (hL : W.ownsMap Tryd.prog 3 Rv bl R.length DL) (hr : ∀ r ∈ R, r.vec.length = M) (hM : M ≤ 2) (hne : bl ≠ bk) (hb1 : w0.heap.size ≤ bl) (hb2 : w0.heap.size ≤ bk)
    (hl : leastN R (seqD R n) = some i0) (hm0 : mL i0 = some (red (seqD R n) (R.getD i0 zRow))) (hs : Vst w0 W s (red (seqD R n) (R.getD i0 zRow)).vec) (hR : R.length ≤ 1000000) :
    ∃ w6 w7, (Instr.mapUpdate 47 (.map (some bk)) (.int .i64 ((foundP R (seqD R n) i0).1 : Nat)) (.agg #[s, .string (red (seqD R n) (R.getD i0 zRow)).data])).run Tryd.prog W = .ok () w6 ∧
      (Builtin.delete_ #[47, 3] 0 #[.map (some bl), .int .i64 i0]).run Tryd.prog w6 = .ok (.tuple #[]) w7 ∧
      w7.ownsMap Tryd.prog 3 Rv bl R.length (DL.del (kl i0)) ∧ MRel w0 w7 (DL.del (kl i0)) (struck mL i0) ∧ Known w0 w7 bk R (n + 1) ∧ Below w0.heap.size w0 w7 ∧ W.heap.size ≤ w7.heap.size ∧ Vst w0 w7 s (red (seqD R n) (R.getD i0 zRow)).vec ∧
      Maps.size (DL.del (kl i0)) + 1 = Maps.size DL ∧ (∀ q u, W.cell? q = some u → w7.cell? q = some u) ∧ (seqD R (n + 1)).length = n + 1 := by
  obtain ⟨h1, ⟨DK, mK, h2, h3, h4⟩, h5, h6, h7⟩ := hO
  obtain ⟨u1, u2, u3, u4, u5⟩ := found_unit hr (seqD_good hr n).1 hl
  have hi0 := (leastN_some hl).1
  have hn : n ≤ 128 := by rw [← h6]; have := seqD_len hr n; omega
  have hmk := mapB_of h2
  obtain ⟨w6, hrun6, k1, k2⟩ := h2.update kI Tryd.underlying47 (by simp only [maxLen]; omega) (keyN (foundP R (seqD R n) i0).1 (by omega)) (show Rv (.agg #[s, .string (red (seqD R n) (R.getD i0 zRow)).data]) = some (.held (.agg #[s, .string (red (seqD R n) (R.getD i0 zRow)).data]), []) from rfl)
  have hL6 := hL.kept k2 (fun e => hne (by injection e))
  obtain ⟨w7, hrun7, k3, k4⟩ := hL6.drop kI Tryd.underlying47 (keyN i0 (by omega)) 0
  have hml := mapB_of hL6
  have k4' := k4.grown
  have hf128 : (foundP R (seqD R n) i0).1 ≤ 9223372036854775807 := by omega
  have hsz := size_del (D := DL) (k := kl i0) (by
    obtain ⟨es, e, hp, _⟩ := hL.canon kI
    exact ⟨es, e, apart_of_rising hp⟩)
  rw [h1.has hm0] at hsz
  refine ⟨w6, w7, hrun6, hrun7, k3, ((h1.move k2 hmk.notW).move k4' hml.notW).del i0, ⟨_, _, k1.kept k4' (fun e => hne (Option.some.inj e).symm), ((h3.move k2 hmk.notW).put hf128 (show Vst w0 w6 s (foundP R (seqD R n) i0).2.vec from hs.move k2 hmk.notW)).move k4' hml.notW, ?_⟩, (h7.grown k2 h7.size (fun k hk => by cases hk; exact hb2)).grown k4' (Nat.le_trans h7.size k2.size) (fun k hk => by cases hk; exact hb1), Nat.le_trans k2.size k4'.size, (hs.move k2 hmk.notW).move k4' hml.notW, by simpa using hsz, fun q u hq => cell_turn hml k4' (cell_turn hmk k2 hq), ?_⟩
  · rw [seqD_succ hl]
    exact h4.step u2
  · rw [seqD_succ hl, List.length_append, h6]; rfl
/-- the rows that are left, while the one found is xored into them -/
def OR (w0 w : World) (bk : Nat) (R : List RowL) (n : Nat) (p : Nat × RowL) (s : Value) (DLr : DataW Value) (m1 : Nat → Option RowL) (left : Lit → Bool) (ms : Nat) : Prop :=
  ∃ mr, MRel w0 w DLr mr ∧ (∀ j, mr j = if left (kl j) then m1 j else (m1 j).map fun r => stepR r p) ∧ Known w0 w bk R (n + 1) ∧ Below w0.heap.size w0 w ∧ Maps.size DLr = ms ∧ Vst w0 w s p.2.vec
theorem OR.start {w0 w w' : World} {bk : Nat} {R : List RowL} {n : Nat} {p : Nat × RowL} {s : Value} {D1 : DataW Value} {m1 : Nat → Option RowL} (hM : MRel w0 w D1 m1) (hK : Known w0 w bk R (n + 1)) (hB : Below w0.heap.size w0 w) (hV : Vst w0 w s p.2.vec) (hg : w.grownBy w' none) : OR w0 w' bk R n p s D1 m1 (Maps.has D1) (Maps.size D1) := by
  refine ⟨m1, hM.move hg (notW_none _), fun j => ?_, hK.move hg (notW_none _) (by simp), hB.grown hg hB.size (fun k hk => by cases hk), rfl, hV.move hg (notW_none _)⟩
  cases hh : Maps.has D1 (kl j) with
  | true => rfl
  | false =>
    cases hm : m1 j with
    | none => rfl
    | some r => rw [hM.has hm] at hh; cases hh
theorem OR.move {w0 w w' : World} {bk : Nat} {R : List RowL} {n : Nat} {p : Nat × RowL} {s : Value} {DLr : DataW Value} {m1 : Nat → Option RowL} {left : Lit → Bool} {ms : Nat} {row : Option Nat} (h : OR w0 w bk R n p s DLr m1 left ms) (hg : w.grownBy w' row) (hn : notW w row) (hne : some bk ≠ row) (hr : ∀ k, row = some k → w0.heap.size ≤ k) : OR w0 w' bk R n p s DLr m1 left ms := by
  obtain ⟨mr, h1, h2, h3, h4, h5, h6⟩ := h
  exact ⟨mr, h1.move hg hn, h2, h3.move hg hn hne, h4.grown hg h4.size hr, h5, h6.move hg hn⟩
theorem OR.below {w0 w w' : World} {bk : Nat} {R : List RowL} {n : Nat} {p : Nat × RowL} {s : Value} {DLr : DataW Value} {m1 : Nat → Option RowL} {left : Lit → Bool} {ms : Nat} (h : OR w0 w bk R n p s DLr m1 left ms) (hb : Below w.heap.size w w') : OR w0 w' bk R n p s DLr m1 left ms :=
  h.move (grown_of_below hb none) (notW_none _) (by simp) (fun k hk => by cases hk)
theorem left_step {left : Lit → Bool} {i j : Nat} (h : j ≠ i) : (left (kl j) && !(kl j).sameKey (kl i)) = left (kl j) := by
  rw [sameKey_ne (fun e => h (kl_inj e))]; simp
theorem left_self {left : Lit → Bool} {i : Nat} (hi : i ≤ 9223372036854775807) : (left (kl i) && !(kl i).sameKey (kl i)) = false := by
  rw [WideAt.sameKey_self (kl_key i hi)]; simp
theorem OR.stay {w0 w : World} {bk : Nat} {R : List RowL} {n : Nat} {p : Nat × RowL} {s : Value} {DLr : DataW Value} {m1 : Nat → Option RowL} {left : Lit → Bool} {ms i : Nat} {r : RowL} (h : OR w0 w bk R n p s DLr m1 left ms) (hi : i ≤ 9223372036854775807) (hlk : left (kl i) = true) (hm : m1 i = some r) (hg : getB r.vec p.1 = false) :
    OR w0 w bk R n p s DLr m1 (fun z => left z && !z.sameKey (kl i)) ms := by
  obtain ⟨mr, h1, h2, h3, h4, h5, h6⟩ := h
  refine ⟨mr, h1, fun j => ?_, h3, h4, h5, h6⟩
  rw [h2 j]
  by_cases e : j = i
  · subst e
    show _ = if (left (kl j) && !(kl j).sameKey (kl j)) = true then _ else _
    rw [left_self hi, hlk, hm]
    simp [stepR, hg]
  · show _ = if (left (kl j) && !(kl j).sameKey (kl i)) = true then _ else _
    rw [left_step e]
theorem OR.put {w0 w w' : World} {bk bl N : Nat} {R : List RowL} {n : Nat} {p : Nat × RowL} {s s' : Value} {DLr : DataW Value} {m1 : Nat → Option RowL} {left : Lit → Bool} {ms i : Nat} {r : RowL} (h : OR w0 w bk R n p s DLr m1 left ms) (hL : w.ownsMap Tryd.prog 3 Rv bl N DLr) (hi : i ≤ 9223372036854775807) (hlk : left (kl i) = true) (hm : m1 i = some r) (hg : getB r.vec p.1 = true)
    (hs' : Vst w0 w s' (rowX2 r p.2).vec) (hgr : w.grownBy w' (some bl)) (hne : bl ≠ bk) (hb1 : w0.heap.size ≤ bl) :
    OR w0 w' bk R n p s (DLr.put (kl i) (.held (.agg #[s', .string (rowX2 r p.2).data]))) m1 (fun z => left z && !z.sameKey (kl i)) ms := by
  obtain ⟨mr, h1, h2, h3, h4, h5, h6⟩ := h
  have hB := mapB_of hL
  have hhas : Maps.has DLr (kl i) = true := h1.has (r := r) (by rw [h2 i, hlk, hm]; rfl)
  refine ⟨_, (h1.move hgr hB.notW).put hi (hs'.move hgr hB.notW), fun j => ?_, h3.move hgr hB.notW (fun e => hne (by injection e with e; exact e.symm)), h4.grown hgr h4.size (fun k hk => by cases hk; exact hb1), ?_, h6.move hgr hB.notW⟩
  · show (if j = i then some (rowX2 r p.2) else mr j) = if (left (kl j) && !(kl j).sameKey (kl i)) = true then _ else _
    by_cases e : j = i
    · subst e
      rw [left_self hi, if_pos rfl, hm]
      simp [stepR, hg]
    · rw [if_neg e, left_step e, h2 j]
  · rw [size_put (by
      obtain ⟨es, e, hp, _⟩ := hL.canon kI
      exact ⟨es, e, apart_of_rising hp⟩), hhas, if_pos rfl]
    exact h5
theorem OR.update {w0 W : World} {bk bl rs N cnt : Nat} {R : List RowL} {n : Nat} {p : Nat × RowL} {s s' : Value} {DLr : DataW Value} {m1 : Nat → Option RowL} {left : Lit → Bool} {ms i : Nat} {r : RowL} (h : OR w0 W bk R n p s DLr m1 left ms) (hRG : W.ranges Tryd.prog 3 Rv bl rs N DLr (fun z => left z && !z.sameKey (kl i)) cnt) (hi : i ≤ 9223372036854775807) (hlk : left (kl i) = true) (hm : m1 i = some r) (hg : getB r.vec p.1 = true)
    (hs' : Vst w0 W s' (rowX2 r p.2).vec) (hne : bl ≠ bk) (hb1 : w0.heap.size ≤ bl) (hN : N < maxLen) :
    ∃ w', (Instr.mapUpdate 47 (.map (some bl)) (.int .i64 i) (.agg #[s', .string (rowX2 r p.2).data])).run Tryd.prog W = .ok () w' ∧
      w'.ranges Tryd.prog 3 Rv bl rs N (DLr.put (kl i) (.held (.agg #[s', .string (rowX2 r p.2).data]))) (fun z => left z && !z.sameKey (kl i)) cnt ∧
      OR w0 w' bk R n p s (DLr.put (kl i) (.held (.agg #[s', .string (rowX2 r p.2).data]))) m1 (fun z => left z && !z.sameKey (kl i)) ms ∧ (∀ q u, W.cell? q = some u → w'.cell? q = some u) ∧ W.heap.size ≤ w'.heap.size := by
  have hhas : Maps.has DLr (kl i) = true := by
    obtain ⟨mr, h1, h2, _⟩ := h
    exact h1.has (r := r) (by rw [h2 i, hlk, hm]; rfl)
  obtain ⟨w', hrun, k1, k2⟩ := ranges_put hRG kI Tryd.underlying47 (keyN i hi) (show Rv (.agg #[s', .string (rowX2 r p.2).data]) = some (.held (.agg #[s', .string (rowX2 r p.2).data]), []) from rfl) hhas hN
  exact ⟨w', hrun, k1, h.put hRG.owns hi hlk hm hg hs' k2 hne hb1, fun q u hq => cell_turn (mapB_of hRG.owns) k2 hq, k2.size⟩
theorem RowsV.lower {w0 w : World} {base base' : Nat} {v : Value} {rs : List RowL} (h : RowsV w0 w base v rs) (hb : base' ≤ base) : RowsV w0 w base' v rs := by
  obtain ⟨ss, e1, ⟨e2, e3⟩, e4⟩ := h
  refine ⟨ss, e1, ⟨e2, ?_⟩, e4⟩
  rcases e3 with h | ⟨g, cap, cur, h1, h2, h3⟩
  · exact .inl h
  · exact .inr ⟨g, cap, cur, h1, Nat.le_trans hb h2, h3⟩
theorem leftR_yes {R : List RowL} {D : List (Nat × RowL)} {L : List Nat} {j : Nat} (h : j < L.length) (hc : 1 < cntW (red D (R.getD L[j] zRow)).vec) : leftR R D (L.take (j + 1)) = leftR R D (L.take j) ++ [red D (R.getD L[j] zRow)] := by
  rw [leftR, leftR, List.take_succ_eq_append_getElem h, List.map_append, List.filter_append]
  have hd : decide (1 < cntW (red D (R.getD L[j] zRow)).vec) = true := decide_eq_true hc
  rw [List.map_singleton, List.filter_cons, hd]
  simp
theorem leftR_no {R : List RowL} {D : List (Nat × RowL)} {L : List Nat} {j : Nat} (h : j < L.length) (hc : ¬ 1 < cntW (red D (R.getD L[j] zRow)).vec) : leftR R D (L.take (j + 1)) = leftR R D (L.take j) := by
  rw [leftR, leftR, List.take_succ_eq_append_getElem h, List.map_append, List.filter_append]
  have hd : decide (1 < cntW (red D (R.getD L[j] zRow)).vec) = false := decide_eq_false hc
  rw [List.map_singleton, List.filter_cons, hd]
  simp
theorem OR.done {w0 w : World} {bk M : Nat} {R : List RowL} {n i : Nat} {s : Value} {DLr : DataW Value} {mL : Nat → Option RowL} {left : Lit → Bool} {ms : Nat} (hl : leastN R (seqD R n) = some i) (hr : ∀ r ∈ R, r.vec.length = M) (hLI : LInv R (seqD R n) mL) (hlen : (seqD R (n + 1)).length = n + 1)
    (h : OR w0 w bk R n (foundP R (seqD R n) i) s DLr (struck mL i) left ms) (hleft : ∀ z, left z = false) : ∃ m', OK w0 w bk R DLr m' (n + 1) := by
  obtain ⟨mr, h1, h2, h3, h4, h5, h6⟩ := h
  refine ⟨_, h1, h3, ?_, hlen, h4⟩
  rw [seqD_succ hl]
  have := hLI.step hr (seqD_good hr n).1 hl
  have e : mr = fun j => if j = i then none else (mL j).map fun r => stepR r (foundP R (seqD R n) i) := by
    funext j
    rw [h2 j, hleft]
    show (struck mL i j).map _ = _
    unfold struck
    by_cases e : j = i
    · rw [if_pos e, if_pos e]; rfl
    · rw [if_neg e, if_neg e]
  rw [e]; exact this


end Go.Proofs.YtnfabflkajpkfaaDoor.PeelV
