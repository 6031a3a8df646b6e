/- words.Set and the reference's, at any bit. No condition. -/
import Derived.Test.YtnfabflkajpkfaaDoorWordsS
namespace Go.Proofs.YtnfabflkajpkfaaDoor.SetO
open Go Go.RowKit Go.Proofs.YtnfabflkajpkfaaDoorW.PrintWords Go.Proofs.YtnfabflkajpkfaaDoor.Base Go.Proofs.YtnfabflkajpkfaaDoor.Bits Go.Proofs.YtnfabflkajpkfaaDoor.Words Go.Proofs.YtnfabflkajpkfaaDoor.WordsS
set_option linter.unusedVariables false
set_option linter.unusedSimpArgs false

theorem setW_far {v : List UInt64} {i : Nat} (h : ¬ i / 64 < v.length) (on : Bool) : setW v i on = v := by
  rw [setW]; exact List.set_eq_of_length_le (by omega)
set_option maxHeartbeats 400000 in
theorem SetG_any (A : Option Addr) (c : Nat) (v : List UInt64) (i : Nat) (on : Bool) (w : World) (hC : Kw.C w A v.length v) (hi : i ≤ 9223372036854775807) (hv : v.length ≤ 17592186044416) :
    Calls Tryd.prog 48 #[.slice A v.length c, .int .i64 i, .bool on] w fun e w' => ∃ v', e = .returned v' ∧ Own w' w.heap.size 45 v' ((setW v i on).map encW) ∧ Below w.heap.size w w' := by
  by_cases hlt : i / 64 < v.length
  · exact Set_any A c v i on w hC hlt hv
  · rw [setW_far hlt]
    have hm := C_max hC
    have h2 : ¬ (i : Int) / 64 < v.length := by omega
    have HC := Aside0.mk hC
    clear hC hlt
    go_enter Tryd.func48, Tryd.ntmps48
    go_wp2_with fail
    refine (own_any A c v 0 _ HC.out (by omega) (by omega) hv).mono ?_
    rintro e w1 ⟨v1, rfl, hO1, hG1⟩
    rw [own_same] at hO1
    have HO := Aside0.mk hO1
    have HG := Aside0.mk hG1
    clear hO1 hG1
    go_wp2
    go_ret
    exact ⟨_, rfl, HO.out, HG.out⟩
set_option maxHeartbeats 400000 in
theorem refSetG_any (A : Option Addr) (c : Nat) (v : List UInt64) (i : Nat) (on : Bool) (w : World) (hC : Kw.C w A v.length v) (hi : i ≤ 9223372036854775807) (hv : v.length ≤ 17592186044416) :
    Calls Tryd.prog 49 #[.slice A v.length c, .int .i64 i, .bool on] w fun e w' => ∃ v', e = .returned v' ∧ Own w' w.heap.size 45 v' ((setW v i on).map encW) ∧ Below w.heap.size w w' := by
  by_cases hlt : i / 64 < v.length
  · exact refSet_any A c v i on w hC hlt hv
  · rw [setW_far hlt]
    have hm := C_max hC
    have h2 : ¬ (i : Int) / 64 < v.length := by omega
    have HC := Aside0.mk hC
    clear hC hlt
    go_enter Tryd.func49, Tryd.ntmps49
    go_wp2_with (at_builtin; refine print_append_row (w0 := w) w.heap.size rfl _ _ 34 45 .u64 8 rfl Tryd.underlying34 info_u64 (by decide) (.slice none 0 0) [] (v.map fun x => (x.toNat : Int)) A v.length c rfl rfl (World.ownsRow_nil _ _ _ _) (readsW HC.out) (Below.refl _ _) (Nat.le_refl _) (by simp; omega) ?_; intro v1 w1 hown hB1 _ _)
    rw [List.nil_append, numsW] at hown
    have HO := Aside0.mk (Own.of_row hown)
    have HG := Aside0.mk hB1
    clear hown hB1
    go_wp2
    go_ret
    exact ⟨_, rfl, HO.out, HG.out⟩

end Go.Proofs.YtnfabflkajpkfaaDoor.SetO
