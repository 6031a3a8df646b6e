/- The contracts of the functions on rows. -/
import Derived.Test.YtcelfpgkeeaggaaDoorXorB
import Derived.Test.YtcelfpgkeeaggaaDoorKinds
namespace Go.Proofs.YtcelfpgkeeaggaaDoor.XorR
open Go Go.RowKit Go.Proofs.YtcelfpgkeeaggaaDoorW.PrintWords Go.Proofs.YtcelfpgkeeaggaaDoor.Base Go.Proofs.YtcelfpgkeeaggaaDoor.Kinds
set_option linter.unusedVariables false
set_option linter.unusedSimpArgs false

def sameR (r s : RowL) : Bool := sameW r.vec s.vec && (r.data.toList == s.data.toList)

set_option maxHeartbeats 400000 in
theorem Same_any (A B : Option Addr) (ca cb : Nat) (r s : RowL) (w : World) (hA : Kw.C w A r.vec.length r.vec) (hB : Kw.C w B s.vec.length s.vec) (ha : r.vec.length ≤ 8796093022208) (hb : s.vec.length ≤ 8796093022208) :
    Calls Tryd.prog 36 #[.agg #[.slice A r.vec.length ca, .string r.data], .agg #[.slice B s.vec.length cb, .string s.data]] w fun e w' => e = .returned (.bool (sameR r s)) ∧ Below w.heap.size w w' := by
  obtain ⟨W, hW⟩ : ∃ W, W = (w.alloc (.cells #[.slice A r.vec.length ca, .string r.data] 41)).alloc (.cells #[.slice B s.vec.length cb, .string s.data] 41) := ⟨_, rfl⟩
  have HBW : Aside0 (Below w.heap.size w W) := ⟨by rw [hW]; exact ((Below.refl _ _).alloc (Nat.le_refl _) _).alloc (by simp) _⟩
  have HA := Aside0.mk (Kd.C_below hA HBW.out)
  have HB := Aside0.mk (Kd.C_below hB HBW.out)
  have c1 : W.cell? ⟨w.heap.size, 1, none⟩ = some (.string r.data) := by rw [hW]; simp
  have c2 : W.cell? ⟨w.heap.size + 1, 1, none⟩ = some (.string s.data) := by rw [hW]; simp
  have hz : W.heap.size = w.heap.size + 2 := by rw [hW]; simp
  have HW := Aside0.mk hW
  clear hA hB hW
  go_enter Tryd.func36, Tryd.ntmps36
  go_wp2_with fail
  rw [← HW.out]
  refine (Words.refSame_any A B ca cb r.vec s.vec W HA.out HB.out ha hb).mono ?_
  rintro e w1 ⟨rfl, hG1⟩
  have d1 := (hG1.cell (p := ⟨w.heap.size, 1, none⟩) (by simp [hz])).trans c1
  have d2 := (hG1.cell (p := ⟨w.heap.size + 1, 1, none⟩) (by simp [hz])).trans c2
  have HG1 := Aside0.mk (HBW.out.trans (hG1.mono (by omega)))
  clear hG1 c1 c2
  by_cases hs : sameW r.vec s.vec = true
  · have HE : Aside0 (sameR r s = (r.data.toList == s.data.toList)) := ⟨by rw [sameR, hs, Bool.true_and]⟩
    go_wp2
    go_ret
    exact ⟨by rw [HE.out]; rfl, HG1.out⟩
  · have HE : Aside0 (sameR r s = false) := ⟨by rw [sameR, Bool.eq_false_iff.2 hs, Bool.false_and]⟩
    have hs' := Bool.eq_false_iff.2 hs
    go_wp2
    go_ret
    exact ⟨by rw [HE.out]; rfl, HG1.out⟩


end Go.Proofs.YtcelfpgkeeaggaaDoor.XorR
