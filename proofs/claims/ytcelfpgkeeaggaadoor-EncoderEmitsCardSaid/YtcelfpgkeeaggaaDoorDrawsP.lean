/- What Distinct picks: plain lists, no program in sight. -/
import Derived.Test.YtcelfpgkeeaggaaDoorDraws
namespace Go.Proofs.YtcelfpgkeeaggaaDoor.DrawsP
open Go Go.RowKit Go.Proofs.YtcelfpgkeeaggaaDoor.Base Go.Proofs.YtcelfpgkeeaggaaDoor.Draws
set_option linter.unusedVariables false

def leftD (n : Nat) (out : List Nat) : List Nat := (List.range n).filter (fun a => !decide (a ∈ out))
def jOf (l : List UInt64) (N n k : Nat) : Nat := (nextV l (N + k)).toNat % (n - k)
def outD (l : List UInt64) (N n : Nat) : Nat → List Nat
  | 0 => []
  | k + 1 => outD l N n k ++ [(leftD n (outD l N n k)).getD (jOf l N n k) 0]
def resD (l : List UInt64) (N n K : Nat) : List Int := ((List.range n).filter (fun a => decide (a ∈ outD l N n K))).map fun a : Nat => (a : Int)

theorem nodup_leftD (n : Nat) (out : List Nat) : (leftD n out).Nodup := List.Pairwise.filter _ List.nodup_range
theorem leftD_nil (n : Nat) : leftD n [] = List.range n := by simp [leftD]
theorem mem_leftD {n : Nat} {out : List Nat} {a : Nat} : a ∈ leftD n out ↔ a < n ∧ a ∉ out := by simp [leftD]
theorem eraseIdx_nodup {L : List Nat} (hL : L.Nodup) (j : Nat) (hj : j < L.length) : L.eraseIdx j = L.filter (fun a => !decide (a = L[j])) := by
  induction L generalizing j with
  | nil => simp at hj
  | cons x r ih =>
    rw [List.nodup_cons] at hL
    cases j with
    | zero =>
      have : r.filter (fun a => !decide (a = x)) = r := by
        rw [List.filter_eq_self]
        intro a ha
        have : a ≠ x := fun e => hL.1 (e ▸ ha)
        simp [this]
      simp [this]
    | succ j =>
      simp only [List.length_cons] at hj
      have h2 := ih hL.2 j (by omega)
      have hx : ¬ x = r[j] := fun e => hL.1 (e ▸ List.getElem_mem _)
      simp only [List.eraseIdx_cons_succ, List.getElem_cons_succ, h2, List.filter_cons]
      simp [hx]
theorem leftD_snoc (n : Nat) (out : List Nat) (j : Nat) (hj : j < (leftD n out).length) : leftD n (out ++ [(leftD n out).getD j 0]) = (leftD n out).eraseIdx j := by
  rw [eraseIdx_nodup (nodup_leftD n out) j hj, List.getD_eq_getElem?_getD, List.getElem?_eq_getElem hj]
  generalize (leftD n out)[j] = x
  simp only [Option.getD_some, leftD, List.filter_filter]
  congr 1
  funext a
  by_cases h1 : a ∈ out <;> by_cases h2 : a = x <;> simp [h1, h2]
theorem jOf_lt (l : List UInt64) (N n k : Nat) (h : k < n) : jOf l N n k < n - k := Nat.mod_lt _ (by omega)
theorem leftD_length (l : List UInt64) (N n k : Nat) (h : k ≤ n) : (leftD n (outD l N n k)).length = n - k := by
  induction k with
  | zero => simp [outD, leftD_nil]
  | succ k ih =>
    have hl := ih (by omega)
    have hj := jOf_lt l N n k (by omega)
    rw [outD, leftD_snoc n _ _ (by omega), List.length_eraseIdx_of_lt (by omega)]
    omega
theorem leftD_succ (l : List UInt64) (N n k : Nat) (h : k < n) : leftD n (outD l N n (k + 1)) = (leftD n (outD l N n k)).eraseIdx (jOf l N n k) := by
  have hl := leftD_length l N n k (by omega)
  have hj := jOf_lt l N n k h
  rw [outD, leftD_snoc n _ _ (by omega)]
theorem outD_length (l : List UInt64) (N n k : Nat) : (outD l N n k).length = k := by
  induction k with
  | zero => rfl
  | succ k ih => rw [outD, List.length_append, ih]; rfl
theorem outD_good (l : List UInt64) (N n k : Nat) (h : k ≤ n) : (outD l N n k).Nodup ∧ ∀ a ∈ outD l N n k, a < n := by
  induction k with
  | zero => exact ⟨List.nodup_nil, fun a ha => by simp [outD] at ha⟩
  | succ k ih =>
    obtain ⟨h1, h2⟩ := ih (by omega)
    have hl := leftD_length l N n k (by omega)
    have hj := jOf_lt l N n k (by omega)
    have hm : (leftD n (outD l N n k)).getD (jOf l N n k) 0 ∈ leftD n (outD l N n k) := by
      rw [List.getD_eq_getElem?_getD, List.getElem?_eq_getElem (by omega)]; exact List.getElem_mem _
    rw [mem_leftD] at hm
    rw [outD]
    constructor
    · rw [List.nodup_append]
      refine ⟨h1, List.nodup_cons.2 ⟨by simp, List.nodup_nil⟩, fun a ha b hb => ?_⟩
      rw [List.mem_singleton] at hb
      subst hb
      exact fun e => hm.2 (e ▸ ha)
    · intro a ha
      rw [List.mem_append, List.mem_singleton] at ha
      rcases ha with ha | rfl
      · exact h2 a ha
      · exact hm.1
theorem resD_sorted (l : List UInt64) (N n K : Nat) : (resD l N n K).Pairwise (· < ·) := by
  rw [resD, List.pairwise_map]
  exact (List.Pairwise.filter _ List.pairwise_lt_range).imp (fun h => by omega)
theorem sort_outD (l : List UInt64) (N n K : Nat) (h : K ≤ n) : ((outD l N n K).map fun a : Nat => (a : Int)).mergeSort (fun x y => decide (x ≤ y)) = resD l N n K := by
  obtain ⟨h1, h2⟩ := outD_good l N n K h
  have hp : (outD l N n K).Perm ((List.range n).filter (fun a => decide (a ∈ outD l N n K))) := by
    refine (List.perm_ext_iff_of_nodup h1 (List.Pairwise.filter _ List.nodup_range)).2 fun a => ?_
    simp only [List.mem_filter, List.mem_range, decide_eq_true_eq]
    exact ⟨fun ha => ⟨h2 a ha, ha⟩, fun ha => ha.2⟩
  have hq := (List.mergeSort_perm ((outD l N n K).map fun a : Nat => (a : Int)) (fun x y => decide (x ≤ y))).trans (hp.map fun a : Nat => (a : Int))
  refine List.Perm.eq_of_pairwise (le := fun x y : Int => x ≤ y) (fun a b _ _ h1 h2 => by omega) ?_ ((resD_sorted l N n K).imp (fun h => by omega)) hq
  have := List.pairwise_mergeSort (le := fun x y : Int => decide (x ≤ y)) (fun a b c h1 h2 => by simp at *; omega) (fun a b => by simp; omega) ((outD l N n K).map fun a : Nat => (a : Int))
  exact this.imp (fun h => by simpa using h)
theorem resD_length (l : List UInt64) (N n K : Nat) (h : K ≤ n) : (resD l N n K).length = K := by
  rw [← sort_outD l N n K h, List.length_mergeSort, List.length_map, outD_length]
theorem resD_range (l : List UInt64) (N n K : Nat) (x : Int) (hx : x ∈ resD l N n K) : 0 ≤ x ∧ x < n := by
  rw [resD, List.mem_map] at hx
  obtain ⟨a, ha, rfl⟩ := hx
  simp only [List.mem_filter, List.mem_range] at ha
  omega

/-! the reference's scan -/
theorem leftD_step (a : Nat) (out : List Nat) : leftD (a + 1) out = leftD a out ++ (if a ∈ out then [] else [a]) := by
  rw [leftD, List.range_succ, List.filter_append, leftD]
  congr 1
  by_cases h : a ∈ out <;> simp [h]
theorem scan_hit (n a : Nat) (out : List Nat) (ha : a < n) (hp : a ∉ out) : (leftD n out)[(leftD a out).length]? = some a := by
  obtain ⟨m, rfl⟩ : ∃ m, n = a + 1 + m := ⟨n - a - 1, by omega⟩
  clear ha
  induction m with
  | zero => rw [Nat.add_zero, leftD_step, if_neg hp, List.getElem?_append_right (Nat.le_refl _), Nat.sub_self]; rfl
  | succ m ih =>
    rw [← Nat.add_assoc, leftD_step, List.getElem?_append_left ((List.getElem?_eq_some_iff.1 ih).1)]
    exact ih
theorem scan_pick (l : List UInt64) (N n k a : Nat) (ha : a < n) (hp : a ∉ outD l N n k) (hj : (leftD a (outD l N n k)).length = jOf l N n k) : outD l N n (k + 1) = outD l N n k ++ [a] := by
  have := scan_hit n a (outD l N n k) ha hp
  rw [hj] at this
  rw [outD, List.getD_eq_getElem?_getD, this]; rfl
def takenV (l : List UInt64) (N n k : Nat) : List Value := (List.range n).map fun a => Value.bool (decide (a ∈ outD l N n k))
theorem takenV_length (l : List UInt64) (N n k : Nat) : (takenV l N n k).length = n := by simp [takenV]
theorem takenV_zero (l : List UInt64) (N n : Nat) : takenV l N n 0 = List.replicate n (Value.bool false) := by
  rw [takenV, outD]
  apply List.ext_getElem (by simp)
  intro i h1 h2
  simp
theorem takenV_get (l : List UInt64) (N n k a : Nat) (h : a < (takenV l N n k).length) : (takenV l N n k)[a] = Value.bool (decide (a ∈ outD l N n k)) := by simp [takenV]
theorem takenV_set (l : List UInt64) (N n k a : Nat) (ha : a < n) (ho : outD l N n (k + 1) = outD l N n k ++ [a]) : (takenV l N n k).set a (Value.bool true) = takenV l N n (k + 1) := by
  apply List.ext_getElem (by simp [takenV])
  intro i h1 h2
  rw [List.getElem_set, takenV_get, takenV_get, ho]
  by_cases h : a = i
  · subst h; simp
  · rw [if_neg h]; simp [List.mem_append, show i ≠ a from fun e => h e.symm]
def resP (l : List UInt64) (N n K a : Nat) : List Int := ((List.range a).filter (fun x => decide (x ∈ outD l N n K))).map fun x : Nat => (x : Int)
theorem resP_zero (l : List UInt64) (N n K : Nat) : resP l N n K 0 = [] := rfl
theorem resP_all (l : List UInt64) (N n K : Nat) : resP l N n K n = resD l N n K := rfl
theorem resP_yes (l : List UInt64) (N n K a : Nat) (h : a ∈ outD l N n K) : resP l N n K (a + 1) = resP l N n K a ++ [(a : Int)] := by
  rw [resP, List.range_succ, List.filter_append, List.map_append, resP]; simp [h]
theorem resP_no (l : List UInt64) (N n K a : Nat) (h : a ∉ outD l N n K) : resP l N n K (a + 1) = resP l N n K a := by
  rw [resP, List.range_succ, List.filter_append, List.map_append, resP]; simp [h]
theorem resP_le (l : List UInt64) (N n K a : Nat) : (resP l N n K a).length ≤ a := by
  rw [resP, List.length_map]
  exact Nat.le_trans (List.length_filter_le _ _) (by simp)

end Go.Proofs.YtcelfpgkeeaggaaDoor.DrawsP
