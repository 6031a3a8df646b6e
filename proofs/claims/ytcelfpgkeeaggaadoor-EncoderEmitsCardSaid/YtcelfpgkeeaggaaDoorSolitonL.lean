/- The laws' helpers and their walks. -/
import Derived.Test.YtcelfpgkeeaggaaDoorSolitonB
namespace Go.Proofs.YtcelfpgkeeaggaaDoor.SolitonL
open Go Go.RowKit Go.Proofs.YtcelfpgkeeaggaaDoorW.PrintWords Go.Proofs.YtcelfpgkeeaggaaDoor.Base Go.Proofs.YtcelfpgkeeaggaaDoor.Soliton Go.Proofs.YtcelfpgkeeaggaaDoor.SolitonB
set_option linter.unusedVariables false
set_option linter.unusedSimpArgs false

theorem ints_ne {a b : List Int} (k : Nat) (ha : k < a.length) (hb : k < b.length) (h : a[k] ≠ b[k]) : decide (a = b) = false := by
  apply decide_eq_false
  rintro rfl
  exact h rfl
theorem fewI_tab (k s : Nat) (h1 : 1 ≤ k) (h2 : k ≤ 128) (h3 : s ≤ k) : fewI (tabN k s) := by
  refine ⟨by rw [tabN_length]; omega, fun x hx => ?_⟩
  simp only [tabN, List.mem_map, List.mem_range] at hx
  obtain ⟨i, hi, rfl⟩ := hx
  have hb : baseN k (i + 1) ≤ 1048576 := by rw [baseN]; split <;> exact Nat.div_le_self _ _
  have h4 : 1048576 * s / (k * (i + 1)) ≤ 1048576 * s := Nat.div_le_self _ _
  have h5 : 1048576 * s * Lib.bitLen s / k ≤ 1048576 * s * Lib.bitLen s := Nat.div_le_self _ _
  have h6 : 1048576 * s * Lib.bitLen s ≤ 1048576 * 128 * 64 := Nat.mul_le_mul (Nat.mul_le_mul (Nat.le_refl _) (by omega)) (bitLen_le s)
  have : shareN k s (i + 1) ≤ 1125899906842624 := by
    rw [shareN]
    split
    · omega
    · split
      · omega
      · split <;> omega
  omega

theorem e1 : tabN 2 0 = [524288, 524288] := by decide +kernel
theorem e2 : pickI [3, 0, 2] 8 = 3 := by decide +kernel
theorem e3 : pickI [3, 0, 2] 2 = 1 := by decide +kernel
theorem e4 : sumI [3, -1, 2] = 5 := by decide +kernel
theorem e5 : pickI [] 1 = 0 := by decide +kernel
theorem few5 (l : List Int) (h : l.length ≤ 5) (h' : ∀ x ∈ l, x ≤ 1000) : fewI l := ⟨by omega, fun x hx => by have := h' x hx; omega⟩

end Go.Proofs.YtcelfpgkeeaggaaDoor.SolitonL
