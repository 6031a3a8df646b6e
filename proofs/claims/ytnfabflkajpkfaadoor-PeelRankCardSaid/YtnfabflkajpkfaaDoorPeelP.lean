/- Peeling, plain: what is found, row by row; the order in which known rows are xored does not matter. Over any program. No condition. -/
import Derived.Test.YtnfabflkajpkfaaDoorKinds
import Derived.Test.YtnfabflkajpkfaaDoorBitsN
namespace Go.Proofs.YtnfabflkajpkfaaDoor.PeelP
open Go Go.RowKit Go.Proofs.YtnfabflkajpkfaaDoorW.PrintWords Go.Proofs.YtnfabflkajpkfaaDoor.Base Go.Proofs.YtnfabflkajpkfaaDoor.Bits Go.Proofs.YtnfabflkajpkfaaDoor.BitsN Go.Proofs.YtnfabflkajpkfaaDoor.Kinds
set_option linter.unusedVariables false
set_option linter.unusedSimpArgs false

/-! ### rows that may be -/
def validW (k : Int) (v : List UInt64) : Bool := decide (1 ≤ k) && decide (k ≤ 128) && decide ((v.length : Int) = sizeW k) && (List.range (64 * v.length)).all fun i => decide ((i : Int) < k) || !getB v i
theorem validW_iff {k : Int} {v : List UInt64} : validW k v = true ↔ 1 ≤ k ∧ k ≤ 128 ∧ (v.length : Int) = sizeW k ∧ ∀ i : Nat, k ≤ i → getB v i = false := by
  simp only [validW, Bool.and_eq_true, decide_eq_true_eq, List.all_eq_true, List.mem_range, Bool.or_eq_true, Bool.not_eq_true']
  constructor
  · rintro ⟨⟨⟨h1, h2⟩, h3⟩, h4⟩
    refine ⟨h1, h2, h3, fun i hi => ?_⟩
    by_cases hl : i < 64 * v.length
    · rcases h4 i hl with h | h
      · omega
      · exact h
    · exact getB_far v i (by omega)
  · rintro ⟨h1, h2, h3, h4⟩
    refine ⟨⟨⟨h1, h2⟩, h3⟩, fun i _ => ?_⟩
    by_cases hk : (i : Int) < k
    · exact .inl hk
    · exact .inr (h4 i (by omega))
def validL (k : Int) (rows : List RowL) : List RowL := rows.filter fun r => validW k r.vec
theorem mem_validL {k : Int} {rows : List RowL} {r : RowL} : r ∈ validL k rows ↔ r ∈ rows ∧ validW k r.vec = true := by simp [validL]

/-! ### one row over another -/
def rowX2 (r x : RowL) : RowL := ⟨xorW r.vec x.vec, xorS r.data x.data⟩
theorem RowL_ext {a b : RowL} (h1 : a.vec = b.vec) (h2 : a.data = b.data) : a = b := by cases a; cases b; simp at h1 h2; simp [h1, h2]
theorem rowX_two (r x : RowL) : rowX [r, x] = rowX2 r x := by
  apply RowL_ext
  · show xorW (xorW [] r.vec) x.vec = _
    rw [nil_xorW]; rfl
  · show xorS (xorS emptyS r.data) x.data = _
    rw [empty_xorS]; rfl
theorem xorW_swap (a b c : List UInt64) : xorW (xorW a b) c = xorW (xorW a c) b := by
  apply getW_ext
  · rw [xorW_length, xorW_length, xorW_length, xorW_length]; omega
  · intro i
    rw [getB_xorW, getB_xorW, getB_xorW, getB_xorW]
    cases getB a i <;> cases getB b i <;> cases getB c i <;> rfl
theorem xorS_swap (a b c : ByteArray) : xorS (xorS a b) c = xorS (xorS a c) b := by
  apply ext_byteS
  · rw [size_xorS, size_xorS, size_xorS, size_xorS]; omega
  · intro j
    rw [byteS_xorS, byteS_xorS, byteS_xorS, byteS_xorS, UInt8.xor_assoc, UInt8.xor_assoc, UInt8.xor_comm (byteS b j)]
theorem rowX2_swap (a b c : RowL) : rowX2 (rowX2 a b) c = rowX2 (rowX2 a c) b := RowL_ext (xorW_swap _ _ _) (xorS_swap _ _ _)

/-! ### a row without what is known -/
def stepR (r : RowL) (p : Nat × RowL) : RowL := if getB r.vec p.1 then rowX2 r p.2 else r
def red (D : List (Nat × RowL)) (r : RowL) : RowL := D.foldl stepR r
/-- a row of one bit -/
def IsU (M : Nat) (p : Nat × RowL) : Prop := p.2.vec.length = M ∧ ∀ i, getB p.2.vec i = decide (i = p.1)
def GoodD (M : Nat) (D : List (Nat × RowL)) : Prop := (∀ p ∈ D, IsU M p) ∧ (D.map (·.1)).Nodup
theorem stepR_bit {M : Nat} {p : Nat × RowL} (hp : IsU M p) (r : RowL) (i : Nat) : getB (stepR r p).vec i = (getB r.vec i && !decide (i = p.1)) := by
  unfold stepR
  cases hg : getB r.vec p.1 with
  | true =>
    rw [if_pos rfl]
    show getB (xorW r.vec p.2.vec) i = _
    rw [getB_xorW, hp.2 i]
    by_cases e : i = p.1
    · subst e; simp [hg]
    · simp [e]
  | false =>
    rw [if_neg (by simp)]
    by_cases e : i = p.1
    · subst e; simp [hg]
    · simp [e]
theorem stepR_len {M : Nat} {p : Nat × RowL} (hp : IsU M p) {r : RowL} (hr : r.vec.length = M) : (stepR r p).vec.length = M := by
  unfold stepR
  split
  · show (xorW r.vec p.2.vec).length = M
    rw [xorW_length, hp.1, hr]; omega
  · exact hr
theorem stepR_comm {M : Nat} {p q : Nat × RowL} (hp : IsU M p) (hq : IsU M q) (hne : p = q ∨ p.1 ≠ q.1) (r : RowL) : stepR (stepR r p) q = stepR (stepR r q) p := by
  rcases hne with rfl | hne
  · rfl
  · have h1 : getB (stepR r p).vec q.1 = getB r.vec q.1 := by rw [stepR_bit hp]; simp [Ne.symm hne]
    have h2 : getB (stepR r q).vec p.1 = getB r.vec p.1 := by rw [stepR_bit hq]; simp [hne]
    rw [stepR, h1, show stepR (stepR r q) p = if getB r.vec p.1 then rowX2 (stepR r q) p.2 else stepR r q by rw [← h2]; rfl]
    unfold stepR
    cases getB r.vec p.1 <;> cases getB r.vec q.1 <;> simp
    exact rowX2_swap _ _ _
theorem red_bit {M : Nat} {D : List (Nat × RowL)} (hD : ∀ p ∈ D, IsU M p) (r : RowL) (i : Nat) : getB (red D r).vec i = (getB r.vec i && !decide (i ∈ D.map (·.1))) := by
  induction D generalizing r with
  | nil => simp [red]
  | cons p D ih =>
    have : red (p :: D) r = red D (stepR r p) := rfl
    rw [this, ih (fun q hq => hD q (by simp [hq])), stepR_bit (hD p (by simp)), List.map_cons]
    by_cases e : i = p.1
    · subst e; simp
    · have h2 : (i == p.1) = false := beq_eq_false_iff_ne.2 e
      simp [e, List.mem_cons, h2]
theorem red_len {M : Nat} {D : List (Nat × RowL)} (hD : ∀ p ∈ D, IsU M p) {r : RowL} (hr : r.vec.length = M) : (red D r).vec.length = M := by
  induction D generalizing r with
  | nil => exact hr
  | cons p D ih => exact ih (fun q hq => hD q (by simp [hq])) (stepR_len (hD p (by simp)) hr)
theorem red_snoc (D : List (Nat × RowL)) (p : Nat × RowL) (r : RowL) : red (D ++ [p]) r = stepR (red D r) p := by simp [red]
theorem nodup_inj {D : List (Nat × RowL)} (h : (D.map (·.1)).Nodup) {p q : Nat × RowL} (hp : p ∈ D) (hq : q ∈ D) : p = q ∨ p.1 ≠ q.1 := by
  induction D with
  | nil => cases hp
  | cons a D ih =>
    rw [List.map_cons, List.nodup_cons] at h
    have hm : ∀ x ∈ D, x.1 ≠ a.1 := fun x hx e => h.1 (by rw [← e]; exact List.mem_map.2 ⟨x, hx, rfl⟩)
    rcases List.mem_cons.1 hp with rfl | hp' <;> rcases List.mem_cons.1 hq with rfl | hq'
    · exact .inl rfl
    · exact .inr (Ne.symm (hm q hq'))
    · exact .inr (hm p hp')
    · exact ih h.2 hp' hq'
theorem red_perm {M : Nat} {D D' : List (Nat × RowL)} (hD : GoodD M D) (hp : D.Perm D') (r : RowL) : red D r = red D' r :=
  hp.foldl_eq' (fun p h1 q h2 z => stepR_comm (hD.1 p h1) (hD.1 q h2) (nodup_inj hD.2 h1 h2) z) r

/-! ### the rows that are found, one by one -/
def cntR (D : List (Nat × RowL)) (r : RowL) : Nat := cntW (red D r).vec
def leastN (rows : List RowL) (D : List (Nat × RowL)) : Option Nat := (List.range rows.length).find? fun i => decide (cntR D (rows.getD i zRow) = 1)
def foundP (rows : List RowL) (D : List (Nat × RowL)) (i : Nat) : Nat × RowL := ((firstW (red D (rows.getD i zRow)).vec).toNat, red D (rows.getD i zRow))
def stepD (rows : List RowL) (D : List (Nat × RowL)) : List (Nat × RowL) := match leastN rows D with | none => D | some i => D ++ [foundP rows D i]
def seqD (rows : List RowL) : Nat → List (Nat × RowL)
  | 0 => []
  | n + 1 => stepD rows (seqD rows n)
theorem leastN_some {rows : List RowL} {D : List (Nat × RowL)} {i : Nat} (h : leastN rows D = some i) : i < rows.length ∧ cntR D (rows.getD i zRow) = 1 ∧ ∀ j, j < i → cntR D (rows.getD j zRow) ≠ 1 := by
  have h' := List.find?_eq_some_iff_getElem.1 h
  obtain ⟨h1, n, hn, hi, hlt⟩ := h'
  simp at hi
  subst hi
  refine ⟨by simpa using hn, by simpa using h1, fun j hj => ?_⟩
  have := hlt j hj
  simpa using this
theorem leastN_none {rows : List RowL} {D : List (Nat × RowL)} (h : leastN rows D = none) : ∀ j, j < rows.length → cntR D (rows.getD j zRow) ≠ 1 := by
  intro j hj
  have := List.find?_eq_none.1 h j (List.mem_range.2 hj)
  simpa using this
theorem leastN_eq {rows : List RowL} {D : List (Nat × RowL)} {i : Nat} (h0 : i < rows.length) (h1 : cntR D (rows.getD i zRow) = 1) (h2 : ∀ j, j < i → cntR D (rows.getD j zRow) ≠ 1) : leastN rows D = some i := by
  rw [leastN, List.find?_eq_some_iff_getElem]
  refine ⟨by simpa using h1, i, by simpa using h0, by simp, fun j hj => ?_⟩
  simpa using h2 j hj
theorem leastN_eq_none {rows : List RowL} {D : List (Nat × RowL)} (h : ∀ j, j < rows.length → cntR D (rows.getD j zRow) ≠ 1) : leastN rows D = none := by
  rw [leastN, List.find?_eq_none]
  intro j hj
  simpa using h j (List.mem_range.1 hj)
theorem found_unit {M : Nat} {rows : List RowL} {D : List (Nat × RowL)} (hr : ∀ r ∈ rows, r.vec.length = M) (hD : GoodD M D) {i : Nat} (h : leastN rows D = some i) : IsU M (foundP rows D i) ∧ (foundP rows D i).1 ∉ D.map (·.1) ∧ (foundP rows D i).1 < 64 * M ∧ firstW (foundP rows D i).2.vec = ((foundP rows D i).1 : Nat) ∧ getB (rows.getD i zRow).vec (foundP rows D i).1 = true := by
  obtain ⟨h0, h1, _⟩ := leastN_some h
  have hmem : rows.getD i zRow ∈ rows := by rw [getD_at rows zRow i h0]; exact List.getElem_mem h0
  obtain ⟨f, e, hf, hb⟩ := cnt_one h1
  have hlen := red_len hD.1 (hr _ hmem)
  have e1 : (foundP rows D i).1 = f := by rw [foundP, e]; rfl
  have e2 : (foundP rows D i).2 = red D (rows.getD i zRow) := rfl
  have hbf : getB (red D (rows.getD i zRow)).vec f = true := by rw [hb f]; simp
  rw [red_bit hD.1] at hbf
  simp only [Bool.and_eq_true, Bool.not_eq_true', decide_eq_false_iff_not] at hbf
  rw [e1]
  refine ⟨⟨hlen, fun j => by rw [e1]; exact hb j⟩, hbf.2, by rw [hlen] at hf; exact hf, e, hbf.1⟩
theorem seqD_good {M : Nat} {rows : List RowL} (hr : ∀ r ∈ rows, r.vec.length = M) (n : Nat) : GoodD M (seqD rows n) ∧ ∀ p ∈ seqD rows n, p.1 < 64 * M ∧ firstW p.2.vec = (p.1 : Nat) := by
  induction n with
  | zero => exact ⟨⟨by simp [seqD], by simp [seqD]⟩, by simp [seqD]⟩
  | succ n ih =>
    obtain ⟨ih1, ih2⟩ := ih
    rw [seqD, stepD]
    cases hl : leastN rows (seqD rows n) with
    | none => exact ⟨ih1, ih2⟩
    | some i =>
      obtain ⟨u1, u2, u3, u4, _⟩ := found_unit hr ih1 hl
      refine ⟨⟨fun p hp => ?_, ?_⟩, fun p hp => ?_⟩
      · rcases List.mem_append.1 hp with h | h
        · exact ih1.1 p h
        · rw [List.mem_singleton.1 h]; exact u1
      · rw [List.map_append, List.nodup_append]
        refine ⟨ih1.2, by simp, fun a ha b hb => ?_⟩
        simp at hb
        subst hb
        intro e
        exact u2 (e ▸ ha)
      · rcases List.mem_append.1 hp with h | h
        · exact ih2 p h
        · rw [List.mem_singleton.1 h]; exact ⟨u3, u4⟩
theorem seqD_stop {rows : List RowL} {n : Nat} (h : leastN rows (seqD rows n) = none) (m : Nat) (hm : n ≤ m) : seqD rows m = seqD rows n := by
  induction m with
  | zero => rw [Nat.le_zero.1 hm]
  | succ m ih =>
    rcases Nat.lt_or_ge n (m + 1) with h1 | h1
    · have := ih (by omega)
      rw [seqD, this, stepD, h]
    · rw [show n = m + 1 by omega]
theorem seqD_length {rows : List RowL} (n : Nat) : (seqD rows n).length ≤ n := by
  induction n with
  | zero => simp [seqD]
  | succ n ih =>
    rw [seqD, stepD]
    split
    · omega
    · simp; omega
/-- where both end -/
def finD (rows : List RowL) : List (Nat × RowL) := seqD rows 128
theorem finD_eq {rows : List RowL} {n : Nat} (hn : n ≤ 128) (h : leastN rows (seqD rows n) = none) : seqD rows n = finD rows := (seqD_stop h 128 hn).symm

/-! ### the rows found, by rising bits -/
def insP (p : Nat × RowL) : List (Nat × RowL) → List (Nat × RowL)
  | [] => [p]
  | q :: l => if q.1 > p.1 then p :: q :: l else q :: insP p l
theorem insP_perm (p : Nat × RowL) (l : List (Nat × RowL)) : (insP p l).Perm (p :: l) := by
  induction l with
  | nil => exact List.Perm.refl _
  | cons q l ih =>
    rw [insP]
    split
    · exact List.Perm.refl _
    · exact (ih.cons q).trans (List.Perm.swap p q l)
theorem insP_sorted {p : Nat × RowL} {l : List (Nat × RowL)} (hs : l.Pairwise (fun a b => a.1 < b.1)) (hn : p.1 ∉ l.map (·.1)) : (insP p l).Pairwise (fun a b => a.1 < b.1) := by
  induction l with
  | nil => simp [insP]
  | cons q l ih =>
    obtain ⟨h1, h2⟩ := List.pairwise_cons.1 hs
    simp only [List.map_cons, List.mem_cons, not_or] at hn
    rw [insP]
    split
    · rename_i hgt
      refine List.pairwise_cons.2 ⟨fun a ha => ?_, hs⟩
      rcases List.mem_cons.1 ha with rfl | ha
      · exact hgt
      · exact Nat.lt_trans hgt (h1 a ha)
    · rename_i hgt
      refine List.pairwise_cons.2 ⟨fun a ha => ?_, ih h2 hn.2⟩
      rcases List.mem_cons.1 ((insP_perm p l).mem_iff.1 ha) with rfl | ha
      · omega
      · exact h1 a ha
def sortD (D : List (Nat × RowL)) : List (Nat × RowL) := D.foldl (fun l p => insP p l) []
theorem sortD_snoc (D : List (Nat × RowL)) (p : Nat × RowL) : sortD (D ++ [p]) = insP p (sortD D) := by simp [sortD]
theorem sortD_perm (D : List (Nat × RowL)) : (sortD D).Perm D := by
  have key : ∀ (D : List (Nat × RowL)) (l : List (Nat × RowL)), (D.foldl (fun l p => insP p l) l).Perm (l ++ D) := by
    intro D
    induction D with
    | nil => intro l; simp
    | cons p D ih =>
      intro l
      refine (ih _).trans ?_
      have h1 : (insP p l ++ D).Perm ((p :: l) ++ D) := (insP_perm p l).append_right D
      exact h1.trans (List.perm_middle.symm)
  have := key D []
  rwa [List.nil_append] at this
theorem seqSorted {M : Nat} {rows : List RowL} (hr : ∀ r ∈ rows, r.vec.length = M) (n : Nat) : (sortD (seqD rows n)).Pairwise (fun a b => a.1 < b.1) := by
  induction n with
  | zero => simp [seqD, sortD]
  | succ n ih =>
    rw [seqD, stepD]
    cases hl : leastN rows (seqD rows n) with
    | none => exact ih
    | some i =>
      obtain ⟨_, u2, _⟩ := found_unit hr (seqD_good hr n).1 hl
      show (sortD (seqD rows n ++ [foundP rows (seqD rows n) i])).Pairwise _
      rw [sortD_snoc]
      refine insP_sorted ih (fun h => u2 ?_)
      obtain ⟨q, hq, e⟩ := List.mem_map.1 h
      exact List.mem_map.2 ⟨q, (sortD_perm _).mem_iff.1 hq, e⟩
/-- rising numbers below a bound are no more than it -/
theorem rising_length {l : List (Nat × RowL)} (hs : l.Pairwise (fun a b => a.1 < b.1)) {B : Nat} (hb : ∀ p ∈ l, p.1 < B) : l.length ≤ B := by
  have key : ∀ (l : List (Nat × RowL)) (a : Nat), l.Pairwise (fun a b => a.1 < b.1) → (∀ p ∈ l, a ≤ p.1 ∧ p.1 < B) → l ≠ [] → l.length + a ≤ B := by
    intro l
    induction l with
    | nil => intro a _ _ h; exact absurd rfl h
    | cons p l ih =>
      intro a hs hb _
      obtain ⟨h1, h2⟩ := List.pairwise_cons.1 hs
      obtain ⟨hp1, hp2⟩ := hb p (by simp)
      by_cases hl : l = []
      · subst hl; simp; omega
      · have := ih (p.1 + 1) h2 (fun q hq => ⟨h1 q hq, (hb q (by simp [hq])).2⟩) hl
        simp; omega
  by_cases hl : l = []
  · subst hl; simp
  · have := key l 0 hs (fun p hp => ⟨Nat.zero_le _, hb p hp⟩) hl
    omega
/-- what both programs answer -/
def knownL (rows : List RowL) : List RowL := (sortD (finD rows)).map (·.2)
def leftL (rows : List RowL) : List RowL := (rows.map (red (finD rows))).filter fun r => decide (1 < cntW r.vec)

end Go.Proofs.YtnfabflkajpkfaaDoor.PeelP
