/- How many bits of a row are set, which is the lowest; plain laws. Over any program. No condition. -/
import Derived.Test.YtnfabflkajpkfaaDoorBits
namespace Go.Proofs.YtnfabflkajpkfaaDoor.BitsN
open Go Go.RowKit Go.Proofs.YtnfabflkajpkfaaDoorW.PrintWords Go.Proofs.YtnfabflkajpkfaaDoor.Base Go.Proofs.YtnfabflkajpkfaaDoor.Bits
set_option linter.unusedVariables false
set_option linter.unusedSimpArgs false

theorem filter_map' {α β : Type} (f : α → β) (p : β → Bool) (l : List α) : (l.map f).filter p = (l.filter (fun x => p (f x))).map f := by
  induction l with
  | nil => rfl
  | cons x l ih => by_cases h : p (f x) <;> simp [h, ih]
theorem range_add (a b : Nat) : List.range (a + b) = List.range a ++ (List.range b).map (fun i => a + i) := by
  induction b with
  | zero => simp
  | succ b ih => rw [← Nat.add_assoc, List.range_succ, ih, List.range_succ, List.map_append, List.append_assoc]; rfl
theorem pc_count (j n : Nat) (h : n < 2 ^ j) : pc n = ((List.range j).filter (fun i => n.testBit i)).length := by
  induction j generalizing n with
  | zero =>
    obtain rfl : n = 0 := by simpa using h
    rw [pc_zero]; rfl
  | succ j ih =>
    have e : List.range (j + 1) = 0 :: (List.range j).map (fun i => i + 1) := List.range_succ_eq_map
    have ht : ∀ i, n.testBit (i + 1) = (n / 2).testBit i := fun i => Nat.testBit_succ n i
    have hr : ((List.range j).filter (fun i => n.testBit (i + 1))).length = pc (n / 2) := by
      rw [ih (n / 2) (by rw [Nat.pow_succ] at h; omega)]
      congr 1
      exact List.filter_congr fun i _ => ht i
    rw [e, List.filter_cons, filter_map']
    rcases Nat.eq_zero_or_pos n with rfl | h0
    · rw [pc_zero]; simp [Nat.zero_testBit]; rw [List.filter_eq_nil_iff.2 (by simp)]; rfl
    · rw [pc_pos n h0, ← hr]
      have h2 : n.testBit 0 = decide (n % 2 = 1) := Nat.testBit_zero n
      rw [h2]
      by_cases h1 : n % 2 = 1
      · rw [decide_eq_true h1, if_pos rfl, h1]; simp; omega
      · rw [decide_eq_false h1, if_neg (by simp), show n % 2 = 0 by omega]; simp
theorem getB_cons_lo (x : UInt64) (v : List UInt64) (i : Nat) (h : i < 64) : getB (x :: v) i = x.toNat.testBit i := by
  rw [getB, show i / 64 = 0 by omega, show i % 64 = i by omega]; rfl
theorem getB_cons_hi (x : UInt64) (v : List UInt64) (i : Nat) : getB (x :: v) (64 + i) = getB v i := by
  rw [getB, getB, show (64 + i) / 64 = i / 64 + 1 by omega, show (64 + i) % 64 = i % 64 by omega]; rfl
/-- the places of the bits that are set -/
def bitsL (v : List UInt64) : List Nat := (List.range (64 * v.length)).filter (getB v)
theorem cnt_bits (v : List UInt64) : cntW v = (bitsL v).length := by
  induction v with
  | nil => rfl
  | cons x v ih =>
    have e : 64 * (x :: v).length = 64 + 64 * v.length := by simp; omega
    rw [bitsL, e, range_add, List.filter_append, List.length_append, filter_map', List.length_map]
    have h1 : (List.range 64).filter (getB (x :: v)) = (List.range 64).filter (fun i => x.toNat.testBit i) :=
      List.filter_congr fun i hi => getB_cons_lo x v i (List.mem_range.1 hi)
    have h2 : (List.range (64 * v.length)).filter (fun i => getB (x :: v) (64 + i)) = bitsL v := List.filter_congr fun i _ => getB_cons_hi x v i
    rw [h1, h2, ← ih, ← pc_count 64 x.toNat x.toNat_lt]
    simp [cntW]
theorem mem_bitsL {v : List UInt64} {i : Nat} : i ∈ bitsL v ↔ getB v i = true := by
  simp only [bitsL, List.mem_filter, List.mem_range]
  constructor
  · exact fun h => h.2
  · intro h
    refine ⟨?_, h⟩
    rcases Nat.lt_or_ge i (64 * v.length) with h2 | h2
    · exact h2
    · rw [getB_far v i h2] at h; cases h
theorem bitsL_sorted (v : List UInt64) : (bitsL v).Pairwise (· < ·) := List.Pairwise.filter _ List.pairwise_lt_range
/-- the lowest bit; none: -1 -/
def firstW (v : List UInt64) : Int := match bitsL v with | [] => -1 | i :: _ => (i : Int)
theorem firstW_none {v : List UInt64} (h : cntW v = 0) : firstW v = -1 := by
  rw [cnt_bits] at h
  rw [firstW, List.eq_nil_of_length_eq_zero h]
theorem firstW_some {v : List UInt64} (h : cntW v ≠ 0) : ∃ i : Nat, firstW v = i ∧ getB v i = true ∧ (∀ j, j < i → getB v j = false) ∧ i < 64 * v.length := by
  rw [cnt_bits] at h
  have hm := fun i => mem_bitsL (v := v) (i := i)
  have hs := bitsL_sorted v
  cases hb : bitsL v with
  | nil => rw [hb] at h; simp at h
  | cons i l =>
    rw [hb] at hm hs
    refine ⟨i, by rw [firstW, hb], (hm i).1 (by simp), fun j hj => ?_, ?_⟩
    · cases hg : getB v j with
      | false => rfl
      | true =>
        rcases List.mem_cons.1 ((hm j).2 hg) with rfl | hjl
        · omega
        · have := (List.pairwise_cons.1 hs).1 j hjl; omega
    · have : i ∈ bitsL v := by rw [hb]; simp
      exact List.mem_range.1 (List.mem_filter.1 this).1
theorem firstW_eq {v : List UInt64} {i : Nat} (h : getB v i = true) (hl : ∀ j, j < i → getB v j = false) : firstW v = i := by
  have hc : cntW v ≠ 0 := by
    rw [cnt_bits]
    intro e
    have := (mem_bitsL (v := v) (i := i)).2 h
    rw [List.eq_nil_of_length_eq_zero e] at this
    cases this
  obtain ⟨k, e, h1, h2, _⟩ := firstW_some hc
  rw [e]
  rcases Nat.lt_trichotomy k i with h3 | h3 | h3
  · rw [hl k h3] at h1; cases h1
  · rw [h3]
  · rw [h2 i h3] at h; cases h
theorem cnt_one {v : List UInt64} (h : cntW v = 1) : ∃ f : Nat, firstW v = f ∧ f < 64 * v.length ∧ ∀ i, getB v i = decide (i = f) := by
  obtain ⟨f, e, h1, h2, h3⟩ := firstW_some (by rw [h]; omega)
  refine ⟨f, e, h3, fun i => ?_⟩
  rw [cnt_bits] at h
  have hm := fun i => mem_bitsL (v := v) (i := i)
  cases hb : bitsL v with
  | nil => rw [hb] at h; simp at h
  | cons a l =>
    rw [hb] at h hm
    obtain rfl : l = [] := by simpa using h
    have hf : f = a := by simpa using (hm f).2 h1
    subst hf
    cases hg : getB v i with
    | false =>
      symm
      apply decide_eq_false
      rintro rfl
      rw [h1] at hg; cases hg
    | true => simpa using (hm i).2 hg
theorem cnt_unit {v : List UInt64} {f : Nat} (h : ∀ i, getB v i = decide (i = f)) : cntW v = 1 := by
  rw [cnt_bits]
  have hs := bitsL_sorted v
  have hm : ∀ i, i ∈ bitsL v ↔ i = f := fun i => by rw [mem_bitsL, h i]; simp
  cases hb : bitsL v with
  | nil => rw [hb] at hm; exact absurd ((hm f).2 rfl) (by simp)
  | cons a l =>
    rw [hb] at hm hs
    have ha := (hm a).1 (by simp)
    cases l with
    | nil => rfl
    | cons c l =>
      have hc := (hm c).1 (by simp)
      have := (List.pairwise_cons.1 hs).1 c (by simp)
      omega
theorem cnt_zero_iff {v : List UInt64} : cntW v = 0 ↔ ∀ i, getB v i = false := by
  rw [cnt_bits]
  constructor
  · intro h i
    cases hg : getB v i with
    | false => rfl
    | true =>
      have := mem_bitsL.2 hg
      rw [List.eq_nil_of_length_eq_zero h] at this
      cases this
  · intro h
    have : bitsL v = [] := by
      rw [bitsL, List.filter_eq_nil_iff]
      intro a _
      rw [h a]; simp
    rw [this]; rfl

end Go.Proofs.YtnfabflkajpkfaaDoor.BitsN
