/- The walks of the five laws. -/
import Derived.Test.YtcelfpgkeeaggaaDoorSolitonL
namespace Go.Proofs.YtcelfpgkeeaggaaDoor.SolitonW
open Go Go.RowKit Go.Proofs.YtcelfpgkeeaggaaDoorW.PrintWords Go.Proofs.YtcelfpgkeeaggaaDoor.Base Go.Proofs.YtcelfpgkeeaggaaDoor.Soliton Go.Proofs.YtcelfpgkeeaggaaDoor.SolitonB Go.Proofs.YtcelfpgkeeaggaaDoor.SolitonL
set_option linter.unusedVariables false
set_option linter.unusedSimpArgs false

theorem okT_nat {k s : Int} (h : okT k s) : ∃ k' s' : Nat, k = k' ∧ s = s' ∧ 1 ≤ k' ∧ k' ≤ 128 ∧ s' ≤ k' := by
  obtain ⟨h1, h2, h3, h4⟩ := h
  exact ⟨k.toNat, s.toNat, by omega, by omega, by omega, by omega, by omega⟩

theorem ideal : ∀ k : Nat, k < 129 → 1 ≤ k → (1048576 : Int) - 2 * (k : Int) ≤ sumI (tabN k 0) ∧ sumI (tabN k 0) ≤ 1048576 + (k : Int) := by decide +kernel
theorem pickAt_at (l : List Int) (hl : ∀ x ∈ l, 1 ≤ x) (j : Nat) (hj : j < l.length) (r : Int) (h0 : 0 ≤ r) (h1 : r < l[j]) (i : Nat) : pickAt l (sumI (l.take j) + r) i = ((i + j + 1 : Nat) : Int) := by
  induction l generalizing j i with
  | nil => simp at hj
  | cons w l ih =>
    have hw := hl w (by simp)
    have hm : max w 0 = w := by omega
    cases j with
    | zero =>
      simp only [List.getElem_cons_zero] at h1
      rw [pickAt, hm, List.take_zero, show sumI [] = 0 from rfl, if_pos (by omega)]
    | succ j =>
      have hs : sumI ((w :: l).take (j + 1)) = w + sumI (l.take j) := by simp [sumI, hm]
      have h2 := sumI_nonneg (l.take j)
      rw [pickAt, hs, hm, if_neg (by omega), show w + sumI (l.take j) + r - w = sumI (l.take j) + r by omega]
      rw [ih (fun x hx => hl x (by simp [hx])) j (by simpa using hj) (by simpa using h1) (i + 1), show i + 1 + j + 1 = i + (j + 1) + 1 by omega]
theorem sumI_take_le (l : List Int) (j : Nat) (hj : j < l.length) : sumI (l.take j) + max l[j] 0 ≤ sumI l := by
  have h1 := sumI_snoc l j hj
  have h2 : sumI l = sumI (l.take (j + 1)) + sumI (l.drop (j + 1)) := by
    have : sumI l = sumI (l.take (j + 1) ++ l.drop (j + 1)) := by rw [List.take_append_drop]
    rw [this, sumI, List.map_append, List.sum_append]; rfl
  have := sumI_nonneg (l.drop (j + 1))
  omega
theorem pickI_at (l : List Int) (hl : ∀ x ∈ l, 1 ≤ x) (j : Nat) (hj : j < l.length) (r : Int) (h0 : 0 ≤ r) (h1 : r < l[j]) : pickI l (sumI (l.take j) + r) = (j : Int) + 1 := by
  have h2 := sumI_take_le l j hj
  have h3 := sumI_nonneg (l.take j)
  have h4 := hl _ (List.getElem_mem hj)
  rw [pickI, if_neg (by omega), Int.emod_eq_of_lt (by omega) (by omega), pickAt_at l hl j hj r h0 h1 0, Nat.zero_add]; rfl
theorem pickAt_range (l : List Int) (x : Int) (h0 : 0 ≤ x) (h1 : x < sumI l) (i : Nat) : (i : Int) + 1 ≤ pickAt l x i ∧ pickAt l x i ≤ (i : Int) + l.length := by
  induction l generalizing x i with
  | nil => simp [sumI] at h1; omega
  | cons w l ih =>
    rw [pickAt]
    split
    · simp; omega
    · have hs : sumI (w :: l) = max w 0 + sumI l := by simp [sumI]
      have := ih (x - max w 0) (by omega) (by omega) (i + 1)
      simp at this ⊢
      omega
theorem pickI_range (l : List Int) (d : Int) (h : 0 < sumI l) : 1 ≤ pickI l d ∧ pickI l d ≤ l.length := by
  rw [pickI, if_neg (by omega)]
  have := pickAt_range l (d % sumI l) (Int.emod_nonneg _ (by omega)) (Int.emod_lt_of_pos _ h) 0
  simpa using this
theorem tab_pos (k s : Nat) : ∀ x ∈ tabN k s, 1 ≤ x := by
  intro x hx
  simp only [tabN, List.mem_map, List.mem_range] at hx
  obtain ⟨i, hi, rfl⟩ := hx
  have : 1 ≤ shareN k s (i + 1) := by rw [shareN]; omega
  omega

end Go.Proofs.YtcelfpgkeeaggaaDoor.SolitonW
