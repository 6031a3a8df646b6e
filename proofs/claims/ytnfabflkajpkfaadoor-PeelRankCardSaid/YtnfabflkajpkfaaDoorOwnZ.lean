/- append of zeros behind a row of the call's own (the mark of a conversion let in); no condition. -/
import Derived.Test.YtnfabflkajpkfaaDoorBase
import Derived.Test.YtnfabflkajpkfaaDoorWZeros
import Derived.Lib.AppendZerosOnto
namespace Go.Proofs.YtnfabflkajpkfaaDoor.OwnZ
open Go Go.RowKit Go.Proofs.YtnfabflkajpkfaaDoorW.PrintWords Go.Proofs.YtnfabflkajpkfaaDoor.Base
set_option linter.unusedVariables false
set_option linter.unusedSimpArgs false

theorem setCells_row_fr {g : Nat} {e : TypeId} {fr : Nat × Nat} : ∀ (vs : List Value) (o : Nat) (w : World) (cur : Array Value), w.heap[g]? = some (.cells cur e fr) → o + vs.length ≤ cur.size →
    ∃ cur', (w.setCells g o vs).heap[g]? = some (.cells cur' e fr) ∧ cur'.size = cur.size ∧ cur'.toList = cur.toList.take o ++ vs ++ cur.toList.drop (o + vs.length)
  | [], o, w, cur, h, _ => ⟨cur, h, rfl, by simp⟩
  | v :: r, o, w, cur, h, hl => by
    have h2 := heap_setCell_fr w g o cur e fr v h
    simp only [List.length_cons] at hl
    obtain ⟨cur', h3, h4, h5⟩ := setCells_row_fr r (o + 1) (w.setCell ⟨g, o, none⟩ v) _ h2 (by simp; omega)
    refine ⟨cur', h3, by rw [h4]; simp, ?_⟩
    rw [h5, Array.toList_setIfInBounds]
    have ho : o < cur.toList.length := by rw [Array.length_toList]; omega
    have e1 : (cur.toList.set o v).take (o + 1) = cur.toList.take o ++ [v] := by
      rw [List.take_succ_eq_append_getElem (by simpa using ho), List.take_set_of_le (Nat.le_refl o)]
      simp
    have e2 : (cur.toList.set o v).drop (o + 1 + r.length) = cur.toList.drop (o + (v :: r).length) := by
      rw [List.drop_set_of_lt (by omega), List.length_cons]; congr 1; omega
    rw [e1, e2]; simp
theorem zeroCells_one (z : Value) (m : Nat) (hz : z.cells = #[z]) : (Builtin.zeroCells z.cells m).toList = List.replicate m z := by
  rw [hz]
  apply List.ext_getElem
  · simp [Builtin.zeroCells]
  · intro i h1 h2
    simp [Builtin.zeroCells, Nat.mod_one]
theorem Own_append_zeros {P : Program} (w : World) (base : Nat) (t ti ty e : TypeId) (z : Value) (bytes : Nat) (ht : P.underlying t = some (.slice e)) {k : IntKind} (hti : P.underlying ti = some (.int k))
    (hinfo : (P.info? e).map (fun i => (i.zero, i.size, i.bytes)) = some (some z, 1, bytes)) (hzc : z.cells = #[z]) (hz1 : z.oneCell' = true) (hb0 : 0 < bytes)
    (v : Value) (cs : List Value) (HO : Own w base e v cs) (kx : IntKind) (m : Nat) (hbytes : (cs.length + m) * bytes ≤ 140737488355328) (hbase : base ≤ w.heap.size) :
    ∃ v' w', (Builtin.append_ #[t, ti] ty #[v, .int kx m]).run P w = .ok v' w' ∧ Own w' base e v' (cs ++ List.replicate m z) ∧ w.grownBy w' v.ownBlock := by
  obtain ⟨i, hi, hzz⟩ := Option.map_eq_some_iff.1 hinfo
  simp only [Prod.mk.injEq] at hzz
  obtain ⟨hz, hsize, hby⟩ := hzz
  have hzs : z.cells.size = 1 := by rw [hzc]; rfl
  rcases HO with ⟨rfl, rfl⟩ | ⟨g, cap, cur, fr, rfl, hb, hg, h1, h2, h3, h4, h5⟩
  · obtain ⟨v', w', hr, ho, hgr, _⟩ := run_append_zeros (P := P) w base t ti ty e i z 1 bytes ht hti hi hz hsize hby hzs (by omega) hb0 (.slice none 0 0) 0 [] (World.ownsRow_nil _ _ _ _) kx m
      (by rw [zeroCells_one z m hzc]; intro u hu; rw [(List.mem_replicate.1 hu).2]; exact hz1) (by simpa using hbytes) hbase
    rw [zeroCells_one z m hzc] at ho
    refine ⟨v', w', hr, Own.of_row (n := 0 + m) ho, hgr⟩
  · have hle : cs.length + m ≤ 140737488355328 := Nat.le_trans (Nat.le_mul_of_pos_right _ hb0) hbytes
    have hmb : m * bytes ≤ 140737488355328 := Nat.le_trans (Nat.mul_le_mul_right _ (Nat.le_add_left m cs.length)) hbytes
    have hw : IntKind.i64.wrap (m : Int) = m := by rw [IntKind.wrap_i64]; omega
    have hw0 : IntKind.i64.wrap 0 = 0 := by rw [IntKind.wrap_i64]; rfl
    have hneg : ¬ ((m : Int) < 0) := by omega
    have hbig : ¬ (281474976710656 < (m : Int) * (i.bytes : Int)) := by
      rw [hby, ← Int.natCast_mul]
      omega
    by_cases hroom : cs.length + m ≤ cap
    · have hfit : cs.length + (List.replicate m z).length ≤ cur.size := by rw [List.length_replicate]; omega
      obtain ⟨cur', k3, k4, k5⟩ := setCells_row_fr (List.replicate m z) cs.length w cur hg hfit
      obtain ⟨s1, s2, s3, s4⟩ := setCells_same g (List.replicate m z) cs.length w
      have hst := run_storeCells_cells (P := P) g cs.length (List.replicate m z) 0 w (fun j hj => by rw [List.length_replicate] at hj; rw [cell_of_row w g _ cur e fr hg]; simp; omega) (fun j hj => by rw [List.length_replicate] at hj; exact frozen_fr hg (cap := cap) (by omega) h5) (fun u hu => by rw [(List.mem_replicate.1 hu).2]; exact hz1)
      simp only [Nat.add_zero] at hst
      refine ⟨.slice (some ⟨g, 0, none⟩) (cs.length + m) cap, w.setCells g cs.length (List.replicate m z), ?_, .inr ⟨g, cap, cur', fr, by simp, hb, k3, by simpa using hroom, h2, by rw [k4, h3], ?_, h5⟩,
        ⟨s1, s2, s3, by rw [s4]; exact Nat.le_refl _, fun k _ hk => setCells_far (List.replicate m z) _ k (fun e => hk (by simp [Value.ownBlock, e]))⟩⟩
      · by_cases hm : m = 0
        · subst hm
          simp only [List.replicate_zero] at hst ⊢
          simp [Builtin.append_, run_underlying ht, run_underlying hti, sizeOf, typeInfo, hi, hsize, asInt, asIntOf, hw0, h1, add_plain, hst]
        · have hmz : ¬ (m * i.size = 0) := Nat.mul_ne_zero hm (by omega)
          have hna : Builtin.zeroCells z.cells m = (List.replicate m z).toArray := by rw [← zeroCells_one z m hzc]
          simp [Builtin.append_, run_underlying ht, run_underlying hti, sizeOf, typeInfo, zeroValue, hi, hz, asInt, asIntOf, hw, hneg, hbig, hroom, hmz, hna, hsize, add_plain, hst, hm]
      · rw [k5, h4, List.length_append, ← List.length_append]
        exact List.take_left
    · have hfo : (Builtin.firstCells i.size cs.length (.slice (some ⟨g, 0, none⟩) cs.length cap)).run P w.drew = .ok cs.toArray w.drew :=
        run_firstCells_some (P := P) w.drew i.size cs.length _ cs.length cap cs (by rw [hsize]; omega) (fun j u hu => by
          have hj := (List.getElem?_eq_some_iff.1 hu).1
          have : (cur.toList.take cs.length)[j]? = cs[j]? := by rw [h4]
          rw [List.getElem?_take, if_pos hj, hu] at this
          rw [add_plain]
          show w.cell? _ = _
          rw [cell_of_row w g _ cur e fr hg]
          simpa using this)
      have hfit := growslice_fits (by omega : cap < cs.length + m) hbytes
      have hr := Lib.run_append_grow_zeros (P := P) w t ti ty e i z kx k ht hti hi hz (some ⟨g, 0, none⟩) cs.length cap cs hfo m (by omega) (by omega) (by omega) (by omega) (by omega) (by rw [hby]; omega)
      refine ⟨_, _, hr, .inr ⟨w.heap.size, grownCap w (cs.length + m) cap e, _, (0, 0), by simp, hbase, heap_alloc_new w.drew _, by simpa using grownCap_ge w (cs.length + m) cap e, grownCap_le_maxLen w (cs.length + m) cap e (by simp only [maxLen]; omega), ?_, ?_, .inl rfl⟩, ⟨rfl, rfl, rfl, by simp, fun k hk _ => heap_alloc_old w.drew _ hk⟩⟩
      · have hge := grownCap_ge w (cs.length + m) cap e
        simp only [Array.size_append, List.size_toArray, size_zeroCells, hzs]
        omega
      · have hna := zeroCells_one z m hzc
        simp only [Array.toList_append, List.append_assoc, hna]
        rw [← List.append_assoc, List.length_append, List.length_replicate]
        have : cs.length + m = (cs ++ List.replicate m z).length := by simp
        rw [this]
        exact List.take_left

end Go.Proofs.YtnfabflkajpkfaaDoor.OwnZ
