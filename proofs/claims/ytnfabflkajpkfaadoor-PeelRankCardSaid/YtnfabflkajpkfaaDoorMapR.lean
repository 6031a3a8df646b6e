/- Maps from whole numbers to structs that the call itself has made: what they hold; a store at a key that is there while a range goes on. No condition. -/
import Derived.Test.YtnfabflkajpkfaaDoorKinds
import Derived.Maps.RangeWalk
import Derived.Maps.Views
namespace Go.Proofs.YtnfabflkajpkfaaDoor.MapR
open Go Go.RowKit Go.Maps Go.ChangeMaps Go.MapKept Go.WideShapes Go.Proofs.YtnfabflkajpkfaaDoorW.PrintWords Go.Proofs.YtnfabflkajpkfaaDoor.Base Go.Proofs.YtnfabflkajpkfaaDoor.Kinds
open Go.WideElems (Fit rd rg pl rd_key rd_val rg_of other_key)
set_option linter.unusedVariables false
set_option linter.unusedSimpArgs false

section
variable {H : Type} {P : Program} {k : TypeId} {R : Value → Option (DataW H × List MemPlace)} {w : World} {b r n : Nat} {D : DataW H} {left : Lit → Bool} {cnt : Nat}
theorem modify_born {es : Array MapEntry} {j : Nat} {e0 : MapEntry} {key val : Value} (h2 : es.toList[j]? = some e0) :
    (es.modify j (fun e' => { e' with key := key, val := val })).toList.map MapEntry.born = es.toList.map MapEntry.born := by
  rw [Array.toList_modify, modify_eq_set _ _ _ _ h2, List.map_set]
  apply List.ext_getElem (by simp)
  intro i h1 h3
  rw [List.getElem_set]
  split
  · rename_i e
    subst e
    obtain ⟨hj, he⟩ := List.getElem?_eq_some_iff.1 h2
    simp [he]
  · rfl
theorem filter_length_map {α β : Type} (f : α → β) (p : β → Bool) (l : List α) : (l.filter fun x => p (f x)).length = ((l.map f).filter p).length := by
  induction l with
  | nil => rfl
  | cons x l ih => by_cases h : p (f x) <;> simp [h, ih]
/-- a store at a key that is there, while a range goes on: who is left stays as it was -/
theorem ranges_put {t e : TypeId} (h : w.ranges P k R b r n D left cnt) (K : Keyed P k) (ht : P.underlying t = some (.map k e)) {key val : Value} {kl : Lit} {d : DataW H} {ps : List MemPlace}
    (hkey : keyOf P k key = some kl) (hv : R val = some (d, ps)) (hhas : Maps.has D kl = true) (hmax : n < maxLen) :
    ∃ w', (Instr.mapUpdate t (.map (some b)) key val).run P w = .ok () w' ∧ w'.ranges P k R b r n (D.put kl d) left cnt ∧ w.grownBy w' (some b) := by
  have hne := h.ne
  obtain ⟨es, clock, since, seen, c0, hb, F, hs, rfl, hr, hold, hcnt, hl1, hl2, hsc, hsk⟩ := h
  obtain ⟨es', clock', hrun, F', hput, _, _, hwho⟩ := Maps.fit_store (R' := R) K ht hb F (Nat.lt_of_le_of_lt hs hmax) (fun _ _ _ _ hz => hz) hkey hv
  rcases K.find w hkey es.toList F.keys with ⟨h1, h2⟩ | ⟨j, e0, h1, h2, h3⟩
  · exfalso
    obtain ⟨p, hp, hpk⟩ := List.any_eq_true.1 hhas
    obtain ⟨x, hx, rfl⟩ := List.mem_map.1 (mem_sorted.1 hp)
    obtain ⟨y, hy⟩ := F.reads x hx
    refine h2 x hx (K.inj ?_ hkey)
    have e1 := WideAt.sameKey_eq hpk
    rw [rg_of hy] at e1
    rw [← e1]; exact rd_key hy
  · have hj : es[j]? = some e0 := by simpa using h2
    have hrun2 : (Instr.mapUpdate t (.map (some b)) key val).run P w = .ok () (setBlock w b (.map (es.modify j (fun e' => { e' with key := key, val := val })) clock)) := by
      simp [Instr.mapUpdate, run_underlying ht, MapKept.run_getObj_map hb, K.check w false hkey, h1, hj, h3, K.stays w hkey, MapKept.run_setObj_map _ hb, Result.andThen, setBlock]
    have hw : setBlock w b (.map es' clock') = setBlock w b (.map (es.modify j (fun e' => { e' with key := key, val := val })) clock) := by
      have := hrun.symm.trans hrun2
      injection this
    have hob := congrArg (fun W : World => W.heap[b]?) hw
    simp only [heap_setBlock_same hb] at hob
    injection hob with hob
    injection hob with he hc
    have hborn : es'.toList.map MapEntry.born = es.toList.map MapEntry.born := by rw [he]; exact modify_born h2
    have hsz : es'.size = es.size := by have := congrArg List.length hborn; simpa using this
    have hkeys : ∀ x' ∈ es'.toList, ∃ x ∈ es.toList, x.born = x'.born ∧ (rg P k R x).1 = (rg P k R x').1 := by
      intro x' hx'
      rw [he, Array.toList_modify, modify_eq_set _ _ _ _ h2] at hx'
      obtain ⟨i, hi, ex⟩ := List.getElem_of_mem hx'
      rw [List.getElem_set] at ex
      split at ex
      · refine ⟨e0, List.mem_of_getElem? h2, by rw [← ex], ?_⟩
        obtain ⟨y, hy⟩ := F.reads e0 (List.mem_of_getElem? h2)
        obtain ⟨y', hy'⟩ := F'.reads x' (by rw [he, Array.toList_modify, modify_eq_set _ _ _ _ h2]; exact hx')
        rw [rg_of hy, rg_of hy']
        have k1 := rd_key hy
        have k2 := rd_key hy'
        rw [← ex] at k2
        rw [h3] at k1
        exact Option.some.inj (k1.symm.trans k2)
      · exact ⟨x', by rw [← ex]; exact List.getElem_mem _, rfl, rfl⟩
    have hkeys2 : ∀ x ∈ es.toList, ∃ x' ∈ es'.toList, (rg P k R x').1 = (rg P k R x).1 := by
      intro x hx
      obtain ⟨i, hi, ex⟩ := List.getElem_of_mem hx
      rw [he, Array.toList_modify, modify_eq_set _ _ _ _ h2]
      by_cases e : j = i
      · subst e
        refine ⟨_, List.getElem_mem (show j < (es.toList.set j { e0 with key := key, val := val }).length by simpa using hi), ?_⟩
        rw [List.getElem_set_self]
        obtain ⟨hj', he0⟩ := List.getElem?_eq_some_iff.1 h2
        have hxe : x = e0 := by rw [← ex, ← he0]
        subst hxe
        obtain ⟨y, hy⟩ := F.reads x hx
        obtain ⟨y', hy'⟩ := F'.reads { x with key := key, val := val } (by
          rw [he, Array.toList_modify, modify_eq_set _ _ _ _ h2]
          exact List.mem_iff_getElem.2 ⟨j, by simpa using hi, by rw [List.getElem_set_self]⟩)
        rw [rg_of hy, rg_of hy']
        have k1 := rd_key hy
        have k2 := rd_key hy'
        rw [h3] at k1
        exact Option.some.inj (k2.symm.trans k1)
      · exact ⟨x, List.mem_iff_getElem.2 ⟨i, by simpa using hi, by rw [List.getElem_set_ne e]; exact ex⟩, rfl⟩
    refine ⟨_, hrun, ⟨es', clock', since, seen, c0, heap_setBlock_same hb _, F', by omega, by rw [DataW.put_eq, hput], (heap_setBlock_other hb _ hne).trans hr, ?_, ?_, ?_, ?_, hsc, by omega⟩, ⟨rfl, rfl, rfl, by simp [setBlock], fun i _ hi => heap_setBlock_other hb _ (fun e => hi (by rw [e]))⟩⟩
    · intro x' hx'
      obtain ⟨x, hx, e1, _⟩ := hkeys x' hx'
      rw [← e1]; exact hold x hx
    · rw [← hcnt]
      have ef : ∀ a : Array MapEntry, (leftOf a seen).size = (a.toList.filter fun e => !seen.contains e.born).length := fun a => by
        unfold leftOf
        rw [← Array.toList_filter, Array.length_toList]
      rw [ef, ef, filter_length_map MapEntry.born (fun m => !seen.contains m), filter_length_map MapEntry.born (fun m => !seen.contains m), hborn]
    · intro x' hx'
      obtain ⟨x, hx, e1, e2⟩ := hkeys x' hx'
      rw [← e1, ← e2]; exact hl1 x hx
    · intro kl' hkl'
      obtain ⟨x, hx, e1⟩ := hl2 kl' hkl'
      obtain ⟨x', hx', e2⟩ := hkeys2 x hx
      exact ⟨x', hx', e2.trans e1⟩
end

end Go.Proofs.YtnfabflkajpkfaaDoor.MapR
