/- The comparison of rows, one by one: rows that are alike. No condition. -/
import Derived.Test.YtnfabflkajpkfaaDoorXorR
import Derived.Test.YtnfabflkajpkfaaDoorInts
namespace Go.Proofs.YtnfabflkajpkfaaDoor.AllR
open Go Go.RowKit Go.Proofs.YtnfabflkajpkfaaDoorW.PrintWords Go.Proofs.YtnfabflkajpkfaaDoor.Base Go.Proofs.YtnfabflkajpkfaaDoor.Kinds Go.Proofs.YtnfabflkajpkfaaDoor.XorR
set_option linter.unusedVariables false
set_option linter.unusedSimpArgs false

theorem sameR_self (r : RowL) : sameR r r = true := by
  rw [sameR, Bool.and_eq_true]
  exact ⟨sameW_refl _, by simp⟩

set_option maxHeartbeats 1000000 in
theorem All_same (A B : Option Addr) (ca cb : Nat) (l : List RowL) (w : World) (hA : KRow.C w A l.length l) (hB : KRow.C w B l.length l) (hl : ∀ r ∈ l, r.vec.length ≤ 1000000) :
    Calls Tryd.prog 17 #[.slice A l.length ca, .slice B l.length cb] w fun e w' => e = .returned (.bool true) ∧ Below w.heap.size w w' := by
  have hm := C_max hA
  have HA := Aside0.mk hA
  have HB := Aside0.mk hB
  have HL := Aside0.mk hl
  have h1 : ((l.length : Int) != (l.length : Int)) = false := bne_eq_false_iff_eq.2 rfl
  clear hA hB hl
  go_enter Tryd.func17, Tryd.ntmps17
  go_wp2
  go_loopw [5] (fun i wr => ∃ k : Nat, k ≤ l.length ∧ i = .int .i64 k ∧ Aside0 (Below w.heap.size w wr)) (fun i _ => l.length - (intOf i).toNat)
  case atStart => exact ⟨0, Nat.zero_le _, rfl, ⟨Below.refl _ _⟩⟩
  case round =>
    obtain ⟨k, hk, rfl, HG⟩ := hrel
    by_cases hlt : k < l.length
    · obtain ⟨ad, A0, c0, rfl, hc1, hc2, _, hV⟩ := at_row (Kd.C_below HA.out HG.out) k hlt
      obtain ⟨bd, B0, d0, rfl, hd1, hd2, _, hU⟩ := at_row (Kd.C_below HB.out HG.out) k hlt
      have hx := HL.out _ (List.getElem_mem hlt)
      have HSM := Aside0.mk (sameR_self l[k])
      have hsm := Same_any A0 B0 c0 d0 l[k] l[k] wr.drew (show Kw.C wr _ _ _ from hV) (show Kw.C wr _ _ _ from hU) (by omega) (by omega)
      rw [HSM.out] at hsm
      have HS := Aside0.mk hsm
      have q2 : (k : Int) < (l.length : Int) := by omega
      clear hV hU hsm hx
      go_upto_region 6 with fail
      go_cut [26] (fun s wx => s = .bool false ∧ Aside0 (Below w.heap.size w wx))
      case first =>
        go_region_law (first
          | (go_simp; go_at_call 47; go_must (refine HS.out.mono ?_; rintro e w1 ⟨rfl, hG1⟩)))
        all_goals
          go_wp2_with fail
          go_meet
          refine ⟨by first | rfl | (simp; done), ⟨?_⟩⟩
          exact bthn HG.out.drew (Nat.le_refl _) hG1
      case rest =>
        obtain ⟨rfl, HG1⟩ := hcut
        go_wp2
        go_roundw
        case rel => exact ⟨k + 1, by omega, by go_num, HG1⟩
        case measure => simp [intOf]; omega
    · go_wp2
      go_ret
      exact ⟨rfl, HG.out⟩

end Go.Proofs.YtnfabflkajpkfaaDoor.AllR
