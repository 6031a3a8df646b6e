/- The reference of peeling: known rows and one more, by rising blocks. No condition. -/
import Derived.Test.YtnfabflkajpkfaaDoorLess
import Derived.BigQuiet
namespace Go.Proofs.YtnfabflkajpkfaaDoor.With
open Go Go.RowKit Go.Proofs.YtnfabflkajpkfaaDoorW.PrintWords Go.Proofs.YtnfabflkajpkfaaDoor.Base Go.Proofs.YtnfabflkajpkfaaDoor.Bits Go.Proofs.YtnfabflkajpkfaaDoor.BitsN Go.Proofs.YtnfabflkajpkfaaDoor.Kinds Go.Proofs.YtnfabflkajpkfaaDoor.Words Go.Proofs.YtnfabflkajpkfaaDoor.WordsP Go.Proofs.YtnfabflkajpkfaaDoor.PeelP Go.Proofs.YtnfabflkajpkfaaDoor.Rows2 Go.Proofs.YtnfabflkajpkfaaDoor.Valid Go.Proofs.YtnfabflkajpkfaaDoor.RowsA Go.Proofs.YtnfabflkajpkfaaDoor.Delete Go.Proofs.YtnfabflkajpkfaaDoor.PeelV Go.Proofs.YtnfabflkajpkfaaDoor.Less
set_option linter.unusedVariables false
set_option linter.unusedSimpArgs false

/-! ### plain -/
def insR (r : RowL) : List RowL → List RowL
  | [] => [r]
  | x :: K => if firstW x.vec > firstW r.vec then r :: x :: K else x :: insR r K
theorem insR_insP {p : Nat × RowL} {l : List (Nat × RowL)} (hp : firstW p.2.vec = (p.1 : Nat)) (hl : ∀ q ∈ l, firstW q.2.vec = (q.1 : Nat)) : insR p.2 (l.map (·.2)) = (insP p l).map (·.2) := by
  induction l with
  | nil => rfl
  | cons q l ih =>
    rw [List.map_cons, insR, insP, hp, hl q (by simp)]
    by_cases h : q.1 > p.1
    · rw [if_pos (by omega), if_pos h]; rfl
    · rw [if_neg (by omega), if_neg h, ih (fun z hz => hl z (by simp [hz]))]; rfl
/-- half way: what is out, and is it placed -/
def withS (r : RowL) (s : List RowL × Bool) (x : RowL) : List RowL × Bool := if s.2 = false ∧ firstW x.vec > firstW r.vec then (s.1 ++ [r] ++ [x], true) else (s.1 ++ [x], s.2)
def withL (r : RowL) (K : List RowL) : List RowL × Bool := K.foldl (withS r) ([], false)
theorem withL_succ {r : RowL} {K : List RowL} {i : Nat} (h : i < K.length) : withL r (K.take (i + 1)) = withS r (withL r (K.take i)) K[i] := by
  rw [withL, List.take_succ_eq_append_getElem h, List.foldl_append]; rfl
theorem with_placed (r : RowL) (K : List RowL) (o : List RowL) : K.foldl (withS r) (o, true) = (o ++ K, true) := by
  induction K generalizing o with
  | nil => simp
  | cons x K ih =>
    have : withS r (o, true) x = (o ++ [x], true) := by simp [withS]
    rw [List.foldl_cons, this, ih]; simp
theorem with_open (r : RowL) (K : List RowL) (o : List RowL) : (if (K.foldl (withS r) (o, false)).2 then (K.foldl (withS r) (o, false)).1 else (K.foldl (withS r) (o, false)).1 ++ [r]) = o ++ insR r K := by
  induction K generalizing o with
  | nil => simp [insR]
  | cons x K ih =>
    rw [List.foldl_cons, insR]
    by_cases h : firstW x.vec > firstW r.vec
    · have : withS r (o, false) x = (o ++ [r] ++ [x], true) := by simp [withS, h]
      rw [this, with_placed, if_pos h]; simp
    · have : withS r (o, false) x = (o ++ [x], false) := by simp [withS, h]
      rw [this, ih, if_neg h]; simp
theorem withL_done (r : RowL) (K : List RowL) : (if (withL r K).2 then (withL r K).1 else (withL r K).1 ++ [r]) = insR r K := by
  have := with_open r K []
  rw [List.nil_append] at this
  exact this
theorem withL_length (r : RowL) (K : List RowL) : (withL r K).1.length ≤ K.length + 1 := by
  have key : ∀ (K : List RowL) (s : List RowL × Bool), (K.foldl (withS r) s).1.length + (if s.2 then 1 else 0) ≤ s.1.length + K.length + 1 := by
    intro K
    induction K with
    | nil => intro s; simp; split <;> omega
    | cons x K ih =>
      intro s
      rw [List.foldl_cons]
      have h := ih (withS r s x)
      obtain ⟨o, p⟩ := s
      cases p with
      | true =>
        have e : withS r (o, true) x = (o ++ [x], true) := by simp [withS]
        rw [e] at h ⊢
        simp at h ⊢; omega
      | false =>
        by_cases hg : firstW x.vec > firstW r.vec
        · have e : withS r (o, false) x = (o ++ [r] ++ [x], true) := by simp [withS, hg]
          rw [e] at h ⊢
          simp at h ⊢; omega
        · have e : withS r (o, false) x = (o ++ [x], false) := by simp [withS, hg]
          rw [e] at h ⊢
          simp at h ⊢; omega
  have := key K ([], false)
  simp at this
  have h2 : (withL r K).1.length ≤ (K.foldl (withS r) ([], false)).1.length := Nat.le_refl _
  omega

/-- a block of one row, freshly made: what an append of it asks -/
theorem fresh_row {w0 w1 wr : World} {base : Nat} {v : Value} {o : List RowL} {s : Value} {x : RowL} (hR : RowsV w0 wr base v o) (hV : Vst w0 wr s x.vec) (hB : Below base w1 wr) (hb : base ≤ wr.heap.size) :
    RowsV w0 (wr.alloc (.cells #[s, .string x.data] 36)) base v o ∧ Vst w0 (wr.alloc (.cells #[s, .string x.data] 36)) s x.vec ∧ Below base w1 (wr.alloc (.cells #[s, .string x.data] 36)) ∧ base ≤ (wr.alloc (.cells #[s, .string x.data] 36)).heap.size ∧ (wr.alloc (.cells #[s, .string x.data] 36)).cell? ⟨wr.heap.size, 0, none⟩ = some s ∧ (wr.alloc (.cells #[s, .string x.data] 36)).cell? ⟨wr.heap.size, 1, none⟩ = some (.string x.data) := by
  have hal : Below wr.heap.size wr (wr.alloc (.cells #[s, .string x.data] 36)) := (Below.refl _ _).alloc (Nat.le_refl _) _
  have hn := hp_new wr (.cells #[s, .string x.data] 36) wr.heap.size rfl
  exact ⟨hR.below hal, hV.below hal, hB.trans (hal.mono hb), Nat.le_trans hb hal.size, by simp [blk_cell hn], by simp [blk_cell hn]⟩
theorem below_drewN (w : World) (n : Nat) : Below w.heap.size w (w.drewN n) := ⟨rfl, (Below.refl w.heap.size w).tape, rfl, Nat.le_refl _, fun _ _ => rfl⟩
theorem fresh_rowN {w0 w1 wr : World} {base : Nat} {v : Value} {o : List RowL} {s : Value} {x : RowL} (n : Nat) (hR : RowsV w0 wr base v o) (hV : Vst w0 wr s x.vec) (hB : Below base w1 wr) (hb : base ≤ wr.heap.size) :
    RowsV w0 ((wr.drewN n).alloc (.cells #[s, .string x.data] 36)) base v o ∧ Vst w0 ((wr.drewN n).alloc (.cells #[s, .string x.data] 36)) s x.vec ∧ Below base w1 ((wr.drewN n).alloc (.cells #[s, .string x.data] 36)) ∧ base ≤ ((wr.drewN n).alloc (.cells #[s, .string x.data] 36)).heap.size ∧ ((wr.drewN n).alloc (.cells #[s, .string x.data] 36)).cell? ⟨wr.heap.size, 0, none⟩ = some s ∧ ((wr.drewN n).alloc (.cells #[s, .string x.data] 36)).cell? ⟨wr.heap.size, 1, none⟩ = some (.string x.data) :=
  fresh_row (wr := wr.drewN n) (hR.below (below_drewN wr n)) (hV.below (below_drewN wr n)) (hB.trans ((below_drewN wr n).mono hb)) hb

set_option maxRecDepth 100000 in
set_option maxHeartbeats 2000000 in
theorem with_any (A : Option Addr) (c : Nat) (K : List RowL) (A0 : Option Addr) (c0 : Nat) (r : RowL) (w : World) (hC : KRow.C w A K.length K) (hc0 : r.vec.length ≤ c0) (hV : Kw.C w A0 r.vec.length r.vec)
    (hK : ∀ x ∈ K, x.vec.length ≤ 1000) (hr : r.vec.length ≤ 1000) (hl : K.length ≤ 1000000) :
    Calls Tryd.prog 46 #[.slice A K.length c, .agg #[.slice A0 r.vec.length c0, .string r.data]] w fun e w' =>
      ∃ v, e = .returned v ∧ RowsV w w' w.heap.size v (insR r K) ∧ Below w.heap.size w w' := by
  have hm := C_max hC
  have HC := Aside0.mk hC
  have HK := Aside0.mk hK
  have HRL := Aside0.mk hr
  have HV := Aside0.mk hV
  clear hC hK hr hV
  go_enter Tryd.func46, Tryd.ntmps46
  go_wp2
  generalize hW0 : w.alloc (.cells #[.slice A0 r.vec.length c0, .string r.data] 36) = W0
  have HB0 : Aside0 (Below w.heap.size w W0) := ⟨by rw [← hW0]; exact (Below.refl _ _).alloc (Nat.le_refl _) _⟩
  have HP0 : Aside0 (W0.heap[w.heap.size]? = some (.cells #[.slice A0 r.vec.length c0, .string r.data] 36 (0, 0))) := ⟨by rw [← hW0]; exact hp_new _ _ _ rfl⟩
  have HZ0 : Aside0 (w.heap.size + 1 = W0.heap.size) := ⟨by rw [← hW0]; simp⟩
  clear hW0
  go_loopw [5, 6, 7] (fun v pl x wr => ∃ i : Nat, x = .int .i64 i ∧ i ≤ K.length ∧ pl = .bool (withL r (K.take i)).2 ∧ Aside0 (RowsV w wr (w.heap.size + 1) v (withL r (K.take i)).1) ∧ Aside0 (Below (w.heap.size + 1) W0 wr)) (fun _ _ x _ => K.length - (intOf x).toNat)
  case atStart => exact ⟨0, rfl, Nat.zero_le _, rfl, ⟨RowsV.nil _ _ _⟩, ⟨Below.refl _ _⟩⟩
  case round =>
    obtain ⟨i, rfl, hi, rfl, HR, HB⟩ := hrel
    have HL1 := Aside0.mk (withL_length r (K.take i))
    have HVr := Aside0.mk (show Vst w wr (.slice A0 r.vec.length c0) r.vec from .inl ⟨_, _, rfl, hc0, HV.out⟩)
    have q0 : wr.cell? ⟨w.heap.size, 0, none⟩ = some (.slice A0 r.vec.length c0) := by simp [blk_cell ((HB.out.block w.heap.size (Nat.lt_succ_self _)).trans HP0.out)]
    have q1 : wr.cell? ⟨w.heap.size, 1, none⟩ = some (.string r.data) := by simp [blk_cell ((HB.out.block w.heap.size (Nat.lt_succ_self _)).trans HP0.out)]
    have HSZ := Aside0.mk (show w.heap.size + 1 ≤ wr.heap.size from by have := HB.out.size; have := HZ0.out; omega)
    by_cases hlt : i < K.length
    · have HS := Aside0.mk (withL_succ (r := r) hlt)
      have hLt : (K.take i).length ≤ 1000000 := by simp; omega
      have hbw : Below w.heap.size w wr := HB0.out.trans (HB.out.mono (Nat.le_succ _))
      obtain ⟨ad, A1, c1, rfl, hd1, hd2, hcc, hCk⟩ := at_row HC.out i hlt
      have hc1 := pw_cell_below hbw hd1
      have hc2 := pw_cell_below hbw hd2
      have hmem := List.getElem_mem hlt
      have hfk : Kw.C wr A1 (K[i]).vec.length (K[i]).vec ∧ (K[i]).vec.length ≤ 17592186044416 := ⟨Kd.C_below hCk hbw, by have := HK.out _ hmem; omega⟩
      have hfr : Kw.C wr A0 r.vec.length r.vec ∧ r.vec.length ≤ 17592186044416 := ⟨Kd.C_below HV.out hbw, by have := HRL.out; omega⟩
      have HF := Aside0.mk (show ∀ n A c (v : List UInt64), Kw.C wr A v.length v ∧ v.length ≤ 17592186044416 → Calls Tryd.prog 22 #[.slice A v.length c] (wr.drewN n) fun e w' => e = .returned (.int .i64 (firstW v)) ∧ w' = wr.drewN n from fun n A c v h => (refFirst_any A c v (wr.drewN n) (show Kw.C wr _ _ _ from h.1) h.2).mono fun _ _ h => ⟨h.1, h.2.symm⟩)
      have HD := Aside0.mk (show ∀ w', Below w.heap.size w w' → w'.cell? (ad.add (i * 2)) = some (.slice A1 (K[i]).vec.length c1) ∧ w'.cell? ⟨(ad.add (i * 2)).block, (ad.add (i * 2)).off + 1, none⟩ = some (.string (K[i]).data) from fun w' h => ⟨pw_cell_below h hd1, pw_cell_below h hd2⟩)
      have HVK := Aside0.mk (show ∀ w', Vst w w' (.slice A1 (K[i]).vec.length c1) (K[i]).vec from fun w' => .inl ⟨_, _, rfl, hcc, hCk⟩)
      have HLN := Aside0.mk (show (withL r (K.take i)).1.length ≤ 1099511627776 ∧ ((withL r (K.take i)).1 ++ [r]).length ≤ 1099511627776 from by
        have := HL1.out
        rw [List.length_append]
        simp only [List.length_take, List.length_singleton] at this ⊢
        omega)
      clear hCk hmem hd1 hd2
      generalize withL r (K.take i) = st at *
      obtain ⟨o, p⟩ := st
      generalize K[i] = x at *
      cases p with
      | true =>
        have HE := Aside0.mk (show withS r (o, true) x = (o ++ [x], true) by simp [withS])
        go_upto_region 6 with fail
        go_quiet (fail)
        clear HF hfk hfr
        have FR := Aside0.mk (fresh_rowN nq HR.out (HVK.out _) HB.out HSZ.out)
        go_upto_region 9 with fail
        go_wp2_with (first | (at_builtin; refine wpList_append_rowV rfl _ _ rfl (w.heap.size + 1) _ _ rfl FR.out.1 _ x FR.out.2.1 wr.heap.size 1 rfl FR.out.2.2.2.2.1 FR.out.2.2.2.2.2 FR.out.2.2.1 FR.out.2.2.2.1 HLN.out.1 ?_; intro v' w' hR' hB' _ _))
        have HR2 := Aside0.mk hR'
        have HB2 := Aside0.mk hB'
        clear hR' hB'
        go_roundw
        case rel => exact ⟨i + 1, by go_num, by omega, by rw [HS.out, HE.out], ⟨by rw [HS.out, HE.out]; exact HR2.out⟩, HB2⟩
        case measure => simp [intOf]; omega
      | false =>
        by_cases hgt : firstW r.vec < firstW x.vec
        · have HE := Aside0.mk (show withS r (o, false) x = (o ++ [r] ++ [x], true) by simp [withS, hgt])
          have hgd : decide (firstW r.vec < firstW x.vec) = true := decide_eq_true hgt
          go_upto_region 6 with fail
          go_quiet ((go_at_call 22; exact Calls.quiet_of_same (HF.out _ _ _ _ (by assumption))))
          clear HF hfk hfr
          have FR := Aside0.mk (fresh_rowN (x := r) nq HR.out HVr.out HB.out HSZ.out)
          go_upto_region 7 with fail
          go_upto_region 9 with (first | (at_builtin; refine wpList_append_rowV rfl _ _ rfl (w.heap.size + 1) _ _ rfl FR.out.1 _ r FR.out.2.1 wr.heap.size 1 rfl FR.out.2.2.2.2.1 FR.out.2.2.2.2.2 FR.out.2.2.1 FR.out.2.2.2.1 HLN.out.1 ?_; intro v' w' hR' hB' _ _))
          clear FR
          have HR1 := Aside0.mk hR'
          have HB1 := Aside0.mk hB'
          have hbw' : Below w.heap.size w w' := HB0.out.trans (hB'.mono (Nat.le_succ _))
          obtain ⟨hc1', hc2'⟩ := HD.out w' hbw'
          have FR := Aside0.mk (fresh_row HR1.out (HVK.out _) HB1.out (Nat.le_trans (Nat.le_of_eq HZ0.out) HB1.out.size))
          rename World => w'
          clear hR' hB' hbw'
          generalize hwz : w' = wz at *
          go_wp2_with (first | (at_builtin; refine wpList_append_rowV rfl _ _ rfl (w.heap.size + 1) _ _ rfl FR.out.1 _ x FR.out.2.1 wz.heap.size 1 rfl FR.out.2.2.2.2.1 FR.out.2.2.2.2.2 FR.out.2.2.1 FR.out.2.2.2.1 HLN.out.2 ?_; intro v' w' hR' hB' _ _))
          have HR2 := Aside0.mk hR'
          have HB2 := Aside0.mk hB'
          clear hR' hB'
          go_roundw
          case rel => exact ⟨i + 1, by go_num, by omega, by rw [HS.out, HE.out], ⟨by rw [HS.out, HE.out]; exact HR2.out⟩, HB2⟩
          case measure => simp [intOf]; omega
        · have HE := Aside0.mk (show withS r (o, false) x = (o ++ [x], false) by simp [withS, hgt])
          have hgd : decide (firstW r.vec < firstW x.vec) = false := decide_eq_false hgt
          go_upto_region 6 with fail
          go_quiet ((go_at_call 22; exact Calls.quiet_of_same (HF.out _ _ _ _ (by assumption))))
          clear HF hfk hfr
          have FR := Aside0.mk (fresh_rowN nq HR.out (HVK.out _) HB.out HSZ.out)
          go_upto_region 9 with fail
          go_wp2_with (first | (at_builtin; refine wpList_append_rowV rfl _ _ rfl (w.heap.size + 1) _ _ rfl FR.out.1 _ x FR.out.2.1 wr.heap.size 1 rfl FR.out.2.2.2.2.1 FR.out.2.2.2.2.2 FR.out.2.2.1 FR.out.2.2.2.1 HLN.out.1 ?_; intro v' w' hR' hB' _ _))
          have HR2 := Aside0.mk hR'
          have HB2 := Aside0.mk hB'
          clear hR' hB'
          go_roundw
          case rel => exact ⟨i + 1, by go_num, by omega, by rw [HS.out, HE.out], ⟨by rw [HS.out, HE.out]; exact HR2.out⟩, HB2⟩
          case measure => simp [intOf]; omega
    · obtain rfl : i = K.length := by omega
      have HDN := Aside0.mk (withL_done r K)
      rw [List.take_length] at HL1 HR ⊢
      have HLN := Aside0.mk (show (withL r K).1.length ≤ 1099511627776 from by
        have := HL1.out
        omega)
      generalize withL r K = st at *
      obtain ⟨o, p⟩ := st
      cases p with
      | true =>
        have HE := Aside0.mk (show o = insR r K from HDN.out)
        go_wp2
        go_ret
        exact ⟨_, rfl, RowsV.lower (by rw [← HE.out]; exact HR.out) (Nat.le_succ _), HB0.out.trans (HB.out.mono (Nat.le_succ _))⟩
      | false =>
        have HE := Aside0.mk (show o ++ [r] = insR r K from HDN.out)
        have FR := Aside0.mk (fresh_row (x := r) HR.out HVr.out HB.out HSZ.out)
        go_wp2_with (first | (at_builtin; refine wpList_append_rowV rfl _ _ rfl (w.heap.size + 1) _ _ rfl FR.out.1 _ r FR.out.2.1 wr.heap.size 1 rfl FR.out.2.2.2.2.1 FR.out.2.2.2.2.2 FR.out.2.2.1 FR.out.2.2.2.1 HLN.out ?_; intro v' w' hR' hB' _ _))
        have HR2 := Aside0.mk hR'
        have HB2 := Aside0.mk hB'
        clear hR' hB'
        go_ret
        exact ⟨_, rfl, RowsV.lower (by rw [← HE.out]; exact HR2.out) (Nat.le_succ _), HB0.out.trans (HB2.out.mono (Nat.le_succ _))⟩

end Go.Proofs.YtnfabflkajpkfaaDoor.With
