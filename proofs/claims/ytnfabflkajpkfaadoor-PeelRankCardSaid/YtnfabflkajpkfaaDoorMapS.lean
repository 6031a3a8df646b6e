/- Maps from whole numbers to rows: what they hold, as a function. No condition. -/
import Derived.Test.YtnfabflkajpkfaaDoorMapR
import Derived.Test.YtnfabflkajpkfaaDoorRows2
namespace Go.Proofs.YtnfabflkajpkfaaDoor.MapS
open Go Go.RowKit Go.Maps Go.ChangeMaps Go.WideShapes Go.Proofs.YtnfabflkajpkfaaDoorW.PrintWords Go.Proofs.YtnfabflkajpkfaaDoor.Base Go.Proofs.YtnfabflkajpkfaaDoor.Kinds Go.Proofs.YtnfabflkajpkfaaDoor.MapR Go.Proofs.YtnfabflkajpkfaaDoor.Rows2
set_option linter.unusedVariables false
set_option linter.unusedSimpArgs false

/-- an element: the struct itself -/
def Rv (v : Value) : Option (DataW Value × List MemPlace) := match v with | .agg cs => some (.held (.agg cs), []) | _ => none
theorem kI : Keyed Tryd.prog 3 := int_keyed Tryd.underlying3
def kl (i : Nat) : Lit := .int .i64 i
theorem kl_inj {i j : Nat} (h : kl i = kl j) : i = j := by
  simp only [kl, Lit.int.injEq, true_and] at h; omega
theorem wfN (i : Nat) (h : i ≤ 9223372036854775807) : (Lit.int .i64 (i : Int)).wf = true := by
  simp [Lit.wf, IntKind.min, IntKind.max, IntKind.bits, IntKind.signed]; omega
theorem keyN (i : Nat) (h : i ≤ 9223372036854775807) : keyOf Tryd.prog 3 (.int .i64 i) = some (kl i) := keyOf_int_mk Tryd.underlying3 (wfN i h)
theorem kl_key (i : Nat) (h : i ≤ 9223372036854775807) : WideAt.IsKeyLit (kl i) := kI.key (keyN i h)
/-- the map holds just the rows of m -/
def MRel (w0 w : World) (D : DataW Value) (m : Nat → Option RowL) : Prop :=
  IsMap D ∧ (∀ i r, m i = some r → i ≤ 9223372036854775807 ∧ ∃ s, (∀ z, D.atKey (kl i) z = .held (.agg #[s, .string r.data])) ∧ Vst w0 w s r.vec) ∧ ∀ k, Maps.has D k = true → ∃ i r, k = kl i ∧ m i = some r
section
variable {w0 w w' : World} {D : DataW Value} {m : Nat → Option RowL}
theorem MRel.empty (w0 w : World) : MRel w0 w (.map []) fun _ => none := ⟨isMap_empty, fun i r h => by (cases h), fun k h => by simp [Maps.has] at h⟩
theorem MRel.move (h : MRel w0 w D m) {row : Option Nat} (hw : w.grownBy w' row) (hn : notW w row) : MRel w0 w' D m :=
  ⟨h.1, fun i r hm => by
    obtain ⟨hi, s, h1, h2⟩ := h.2.1 i r hm
    exact ⟨hi, s, h1, h2.move hw hn⟩, h.2.2⟩
theorem MRel.has (h : MRel w0 w D m) {i : Nat} {r : RowL} (hm : m i = some r) : Maps.has D (kl i) = true := by
  obtain ⟨_, s, h1, _⟩ := h.2.1 i r hm
  exact has_true_of_atKey h1
theorem MRel.put (h : MRel w0 w D m) {i : Nat} (hi : i ≤ 9223372036854775807) {s : Value} {r : RowL} (hs : Vst w0 w s r.vec) : MRel w0 w (D.put (kl i) (.held (.agg #[s, .string r.data]))) fun j => if j = i then some r else m j := by
  refine ⟨h.1.put _ _, fun j r' hm => ?_, fun k hk => ?_⟩
  · have hm : (if j = i then some r else m j) = some r' := hm
    by_cases e : j = i
    · subst e
      rw [if_pos rfl] at hm
      cases hm
      exact ⟨hi, s, fun z => atKey_put_same h.1 (kl_key j hi) _ z, hs⟩
    · rw [if_neg e] at hm
      obtain ⟨hj, s', h1, h2⟩ := h.2.1 j r' hm
      exact ⟨hj, s', fun z => by rw [atKey_put_other (fun e' => e (kl_inj e'))]; exact h1 z, h2⟩
  · by_cases e : k = kl i
    · exact ⟨i, r, e, show (if i = i then some r else m i) = some r from if_pos rfl⟩
    · rw [has_put_other e] at hk
      obtain ⟨j, r', e1, hm⟩ := h.2.2 k hk
      refine ⟨j, r', e1, ?_⟩
      show (if j = i then some r else m j) = some r'
      rw [if_neg (fun e' => e (by rw [e1, e']))]; exact hm
theorem MRel.del (h : MRel w0 w D m) (i : Nat) : MRel w0 w (D.del (kl i)) fun j => if j = i then none else m j := by
  refine ⟨h.1.del _, fun j r' hm => ?_, fun k hk => ?_⟩
  · have hm : (if j = i then none else m j) = some r' := hm
    by_cases e : j = i
    · rw [if_pos e] at hm; cases hm
    · rw [if_neg e] at hm
      obtain ⟨hj, s', h1, h2⟩ := h.2.1 j r' hm
      exact ⟨hj, s', fun z => by rw [atKey_del_other (fun e' => e (kl_inj e'))]; exact h1 z, h2⟩
  · by_cases e : k = kl i
    · rw [e, has_del_same] at hk; cases hk
    · rw [has_del_other e] at hk
      obtain ⟨j, r', e1, hm⟩ := h.2.2 k hk
      refine ⟨j, r', e1, ?_⟩
      show (if j = i then none else m j) = some r'
      rw [if_neg (fun e' => e (by rw [e1, e']))]; exact hm
theorem MRel.congr (h : MRel w0 w D m) {m' : Nat → Option RowL} (e : ∀ i, m i = m' i) : MRel w0 w D m' := by
  have : m = m' := funext e
  rw [← this]; exact h
end

/-- m[i], a key that is there -/
theorem lookup_at {w0 w : World} {t e : TypeId} {b n : Nat} {D : DataW Value} {m : Nat → Option RowL} {i : Nat} {r : RowL} {z : Value} (h : w.ownsMap Tryd.prog 3 Rv b n D) (hM : MRel w0 w D m) (ht : Tryd.prog.underlying t = some (.map 3 e))
    (hz : (zeroValue e).run Tryd.prog w = .ok z w) {zd : DataW Value × List MemPlace} (hzd : Rv z = some zd) (hm : m i = some r) :
    ∃ s, (Instr.lookup t (.map (some b)) (.int .i64 i) false).run Tryd.prog w = .ok (.agg #[s, .string r.data]) w ∧ Vst w0 w s r.vec := by
  obtain ⟨hi, s, h1, h2⟩ := hM.2.1 i r hm
  obtain ⟨v, ps, hrun, hv⟩ := h.lookup kI ht hz hzd (keyN i hi)
  rw [h1] at hv
  cases v with
  | agg cs =>
    simp only [Rv, Option.some.injEq, Prod.mk.injEq, DataW.held.injEq] at hv
    obtain ⟨e1, _⟩ := hv
    rw [e1] at hrun
    exact ⟨s, hrun, h2⟩
  | _ => simp [Rv] at hv

end Go.Proofs.YtnfabflkajpkfaaDoor.MapS
