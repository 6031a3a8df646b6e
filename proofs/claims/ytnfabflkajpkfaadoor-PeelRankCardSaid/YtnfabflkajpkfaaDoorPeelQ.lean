/- Peeling by maps: what the maps hold, round by round; plain. No condition. -/
import Derived.Test.YtnfabflkajpkfaaDoorPeelP
import Derived.Test.YtnfabflkajpkfaaDoorMapS
import Derived.Test.YtnfabflkajpkfaaDoorKeysM
namespace Go.Proofs.YtnfabflkajpkfaaDoor.PeelQ
open Go Go.RowKit Go.Maps Go.Proofs.YtnfabflkajpkfaaDoorW.PrintWords Go.Proofs.YtnfabflkajpkfaaDoor.Base Go.Proofs.YtnfabflkajpkfaaDoor.Bits Go.Proofs.YtnfabflkajpkfaaDoor.BitsN Go.Proofs.YtnfabflkajpkfaaDoor.Kinds Go.Proofs.YtnfabflkajpkfaaDoor.PeelP Go.Proofs.YtnfabflkajpkfaaDoor.MapS Go.Proofs.YtnfabflkajpkfaaDoor.KeysM Go.Proofs.YtnfabflkajpkfaaDoor.Rows2
set_option linter.unusedVariables false
set_option linter.unusedSimpArgs false

/-! ### how many entries a map has, off the world -/
def mapLen (w : World) (b : Nat) : Nat := match w.heap[b]? with | some (.map es _) => es.size | _ => 0
theorem mapLen_eq {w : World} {b n : Nat} {D : DataW Value} (h : w.ownsMap Tryd.prog 3 Rv b n D) : mapLen w b = Maps.size D := by
  obtain ⟨es, clock, hb, _, hs, rfl⟩ := h
  simp only [mapLen, hb]
  show es.size = ((es.toList.map _).foldr DataW.insert []).length
  rw [length_sorted, List.length_map]; simp

/-! ### the least row of one bit -/
def Fnd (m : Nat → Option RowL) (vis : Nat → Prop) (z : Int) : Prop :=
  (z = -1 ∧ ∀ i r, m i = some r → vis i → cntW r.vec ≠ 1) ∨ ∃ i r, z = ((i : Nat) : Int) ∧ m i = some r ∧ cntW r.vec = 1 ∧ ∀ j s, m j = some s → vis j → cntW s.vec = 1 → i ≤ j
theorem Fnd.start (m : Nat → Option RowL) {vis : Nat → Prop} (h : ∀ i r, m i = some r → ¬ vis i) : Fnd m vis (-1) := .inl ⟨rfl, fun i r hm hv => absurd hv (h i r hm)⟩
theorem Fnd.stay {m : Nat → Option RowL} {vis vis' : Nat → Prop} {z : Int} {i0 : Nat} {r0 : RowL} (h : Fnd m vis z) (hm : m i0 = some r0) (hv : ∀ i, vis' i → vis i ∨ i = i0) (hn : cntW r0.vec = 1 → ¬ z < 0 ∧ ¬ (i0 : Int) < z) : Fnd m vis' z := by
  rcases h with ⟨rfl, h⟩ | ⟨i, r, rfl, h1, h2, h3⟩
  · refine .inl ⟨rfl, fun j s hs hvj => ?_⟩
    rcases hv j hvj with h' | rfl
    · exact h j s hs h'
    · rw [hm] at hs; cases hs
      intro hc; have := (hn hc).1; omega
  · refine .inr ⟨i, r, rfl, h1, h2, fun j s hs hvj hc => ?_⟩
    rcases hv j hvj with h' | rfl
    · exact h3 j s hs h' hc
    · rw [hm] at hs; cases hs
      have := (hn hc).2; omega
theorem Fnd.take {m : Nat → Option RowL} {vis vis' : Nat → Prop} {z : Int} {i0 : Nat} {r0 : RowL} (h : Fnd m vis z) (hm : m i0 = some r0) (hv : ∀ i, vis' i → vis i ∨ i = i0) (hc : cntW r0.vec = 1) (hz : z < 0 ∨ (i0 : Int) < z) : Fnd m vis' i0 := by
  refine .inr ⟨i0, r0, rfl, hm, hc, fun j s hs hvj hcj => ?_⟩
  rcases hv j hvj with h' | rfl
  · rcases h with ⟨rfl, h⟩ | ⟨i, r, rfl, h1, h2, h3⟩
    · exact absurd hcj (h j s hs h')
    · have := h3 j s hs h' hcj
      omega
  · exact Nat.le_refl _
theorem vis_step {left : Lit → Bool} {i0 : Nat} {i : Nat} (h : (left (kl i) && !(kl i).sameKey (kl i0)) = false) : left (kl i) = false ∨ i = i0 := by
  cases hl : left (kl i) with
  | false => exact .inl rfl
  | true =>
    rw [hl] at h
    have : (kl i).sameKey (kl i0) = true := by simpa using h
    exact .inr (kl_inj (WideAt.sameKey_eq this))

/-! ### the rows that are left -/
def LInv (R : List RowL) (D : List (Nat × RowL)) (m : Nat → Option RowL) : Prop :=
  (∀ i r, m i = some r → i < R.length ∧ r = red D (R.getD i zRow)) ∧ ∀ i, i < R.length → m i = none → cntR D (R.getD i zRow) = 0
theorem LInv.start (R : List RowL) : LInv R [] fun i => if i < R.length then R[i]? else none := by
  refine ⟨fun i r h => ?_, fun i hi h => ?_⟩
  · have h : (if i < R.length then R[i]? else none) = some r := h
    split at h
    · rename_i hi
      refine ⟨hi, ?_⟩
      rw [getD_at R zRow i hi]
      rw [List.getElem?_eq_getElem hi] at h
      exact (Option.some.inj h).symm
    · cases h
  · have h : (if i < R.length then R[i]? else none) = none := h
    rw [if_pos hi, List.getElem?_eq_getElem hi] at h
    cases h
theorem LInv.found {R : List RowL} {D : List (Nat × RowL)} {m : Nat → Option RowL} {z : Int} (h : LInv R D m) (hF : Fnd m (fun _ => True) z) :
    (z = -1 ∧ leastN R D = none) ∨ ∃ i : Nat, z = i ∧ leastN R D = some i ∧ m i = some (red D (R.getD i zRow)) := by
  rcases hF with ⟨rfl, hF⟩ | ⟨i, r, rfl, h1, h2, h3⟩
  · refine .inl ⟨rfl, leastN_eq_none fun j hj hc => ?_⟩
    cases hm : m j with
    | none => rw [h.2 j hj hm] at hc; cases hc
    | some s =>
      obtain ⟨_, rfl⟩ := h.1 j s hm
      exact hF j _ hm trivial hc
  · obtain ⟨hi, rfl⟩ := h.1 i r h1
    refine .inr ⟨i, rfl, leastN_eq hi h2 fun j hj hc => ?_, h1⟩
    cases hm : m j with
    | none => rw [h.2 j (by omega) hm] at hc; cases hc
    | some s =>
      obtain ⟨_, rfl⟩ := h.1 j s hm
      have := h3 j _ hm trivial hc
      omega
theorem cnt_zero_of {v : List UInt64} (h : ∀ i, getB v i = false) : cntW v = 0 := cnt_zero_iff.2 h
theorem LInv.step {M : Nat} {R : List RowL} {D : List (Nat × RowL)} {m : Nat → Option RowL} {i : Nat} (h : LInv R D m) (hr : ∀ r ∈ R, r.vec.length = M) (hD : GoodD M D) (hl : leastN R D = some i) :
    LInv R (D ++ [foundP R D i]) fun j => if j = i then none else (m j).map fun r => stepR r (foundP R D i) := by
  obtain ⟨u1, u2, u3, u4, u5⟩ := found_unit hr hD hl
  refine ⟨fun j s hs => ?_, fun j hj hs => ?_⟩
  · have hs : (if j = i then none else (m j).map fun r => stepR r (foundP R D i)) = some s := hs
    split at hs
    · cases hs
    · obtain ⟨r, hm, rfl⟩ := Option.map_eq_some_iff.1 hs
      obtain ⟨hj, rfl⟩ := h.1 j r hm
      exact ⟨hj, by rw [red_snoc]⟩
  · have hs : (if j = i then none else (m j).map fun r => stepR r (foundP R D i)) = none := hs
    rw [cntR, red_snoc]
    refine cnt_zero_of fun b => ?_
    rw [stepR_bit u1]
    split at hs
    · rename_i e
      subst e
      have : getB (red D (R.getD j zRow)).vec b = decide (b = (foundP R D j).1) := u1.2 b
      rw [this]
      cases decide (b = (foundP R D j).1) <;> rfl
    · have hm : m j = none := by simpa using hs
      have := cnt_zero_iff.1 (h.2 j hj hm) b
      rw [this]; rfl

/-! ### the rows that are known -/
def KInv (D : List (Nat × RowL)) (m : Nat → Option RowL) : Prop := ∀ f x, m f = some x ↔ (f, x) ∈ D
theorem KInv.start : KInv [] fun _ => none := fun f x => by simp
theorem KInv.step {D : List (Nat × RowL)} {m : Nat → Option RowL} {p : Nat × RowL} (h : KInv D m) (hp : p.1 ∉ D.map (·.1)) : KInv (D ++ [p]) fun j => if j = p.1 then some p.2 else m j := by
  intro f x
  show (if f = p.1 then some p.2 else m f) = some x ↔ _
  rw [List.mem_append, List.mem_singleton]
  by_cases e : f = p.1
  · rw [if_pos e]
    constructor
    · intro hx; cases hx; right; cases p; simp at e; simp [e]
    · rintro (hx | hx)
      · exact absurd (List.mem_map.2 ⟨_, hx, e⟩) hp
      · rw [← hx]
  · rw [if_neg e, h f x]
    constructor
    · exact .inl
    · rintro (hx | hx)
      · exact hx
      · exact absurd (by rw [← hx]) e
theorem KInv.keys {D : List (Nat × RowL)} {m : Nat → Option RowL} (h : KInv D m) (hs : (sortD D).Pairwise (fun a b => a.1 < b.1)) : Keyset ((sortD D).map (·.1)) m := by
  refine ⟨List.pairwise_map.2 hs, fun f => ?_⟩
  rw [List.mem_map]
  constructor
  · rintro ⟨p, hp, rfl⟩
    exact ⟨p.2, (h p.1 p.2).2 ((sortD_perm D).mem_iff.1 hp)⟩
  · rintro ⟨r, hr⟩
    exact ⟨(f, r), (sortD_perm D).mem_iff.2 ((h f r).1 hr), rfl⟩
/-- the numbers of the rows that are left -/
def leftI (R : List RowL) (m : Nat → Option RowL) : List Nat := (List.range R.length).filter fun i => (m i).isSome
theorem LInv.keys {R : List RowL} {D : List (Nat × RowL)} {m : Nat → Option RowL} (h : LInv R D m) : Keyset (leftI R m) m := by
  refine ⟨List.Pairwise.filter _ List.pairwise_lt_range, fun i => ?_⟩
  simp only [leftI, List.mem_filter, List.mem_range, Option.isSome_iff_exists]
  constructor
  · exact fun h => h.2
  · rintro ⟨r, hr⟩
    exact ⟨(h.1 i r hr).1, r, hr⟩
/-- what is left, out of the numbers -/
def leftR (R : List RowL) (D : List (Nat × RowL)) (l : List Nat) : List RowL := (l.map fun i => red D (R.getD i zRow)).filter fun r => decide (1 < cntW r.vec)
theorem filter_sub {α : Type} (p q : α → Bool) : ∀ l : List α, (∀ x ∈ l, q x = true → p x = true) → (l.filter p).filter q = l.filter q
  | [], _ => rfl
  | x :: l, h => by
    have ih := filter_sub p q l fun y hy => h y (by simp [hy])
    rw [List.filter_cons, List.filter_cons (p := q)]
    cases hq : q x with
    | true => rw [h x (by simp) hq, if_pos rfl, List.filter_cons, hq, if_pos rfl, if_pos rfl, ih]
    | false =>
      cases hp : p x with
      | true => rw [if_pos rfl, List.filter_cons, hq, ih]
      | false => simpa using ih
theorem range_map_getD (R : List RowL) (f : RowL → RowL) : (List.range R.length).map (fun i => f (R.getD i zRow)) = R.map f := by
  apply List.ext_getElem (by simp)
  intro i h1 h2
  rw [List.getElem_map, List.getElem_map, List.getElem_range, getD_at R zRow i (by simpa using h2)]
theorem LInv.left {R : List RowL} {D : List (Nat × RowL)} {m : Nat → Option RowL} (h : LInv R D m) : leftR R D (leftI R m) = (R.map (red D)).filter fun r => decide (1 < cntW r.vec) := by
  rw [leftR, List.filter_map, leftI, filter_sub, ← range_map_getD, List.filter_map]
  intro i hi hq
  simp only [Function.comp_apply, decide_eq_true_eq] at hq
  cases hm : m i with
  | some r => rfl
  | none =>
    have := h.2 i (List.mem_range.1 hi) hm
    rw [cntR] at this
    omega

/-! ### bounds -/
theorem stepR_size {K : Nat} {r : RowL} {p : Nat × RowL} (hr : r.data.size ≤ K) (hp : p.2.data.size ≤ K) : (stepR r p).data.size ≤ K := by
  unfold stepR
  split
  · show (xorS r.data p.2.data).size ≤ K
    rw [size_xorS]; omega
  · exact hr
theorem red_size {K : Nat} {D : List (Nat × RowL)} (hD : ∀ p ∈ D, p.2.data.size ≤ K) {r : RowL} (hr : r.data.size ≤ K) : (red D r).data.size ≤ K := by
  induction D generalizing r with
  | nil => exact hr
  | cons p D ih => exact ih (fun q hq => hD q (by simp [hq])) (stepR_size hr (hD p (by simp)))
theorem seqD_size {K : Nat} {R : List RowL} (hR : ∀ r ∈ R, r.data.size ≤ K) (n : Nat) : ∀ p ∈ seqD R n, p.2.data.size ≤ K := by
  induction n with
  | zero => simp [seqD]
  | succ n ih =>
    rw [seqD, stepD]
    cases hl : leastN R (seqD R n) with
    | none => exact ih
    | some i =>
      intro p hp
      rcases List.mem_append.1 hp with h | h
      · exact ih p h
      · rw [List.mem_singleton.1 h]
        refine red_size ih ?_
        have hi := (leastN_some hl).1
        rw [getD_at R zRow i hi]
        exact hR _ (List.getElem_mem hi)
theorem seqD_len {M : Nat} {R : List RowL} (hr : ∀ r ∈ R, r.vec.length = M) (n : Nat) : (seqD R n).length ≤ 64 * M := by
  have h1 := rising_length (seqSorted hr n) (B := 64 * M) fun p hp => ((seqD_good hr n).2 p ((sortD_perm _).mem_iff.1 hp)).1
  rw [(sortD_perm _).length_eq] at h1
  exact h1
/-- rows that are, of one length -/
theorem validL_len {k : Int} {rows : List RowL} : ∀ r ∈ validL k rows, r.vec.length = (sizeW k).toNat := by
  intro r hr
  have := (validW_iff.1 (mem_validL.1 hr).2).2.2.1
  omega
theorem sizeW_two (k : Int) : (sizeW k).toNat ≤ 2 := by
  unfold sizeW
  split
  · simp
  · omega

end Go.Proofs.YtnfabflkajpkfaaDoor.PeelQ
