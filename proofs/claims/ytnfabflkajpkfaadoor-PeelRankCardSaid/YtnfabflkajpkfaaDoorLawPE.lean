/- What is known and what is left at the end of peeling: plain, and the walk of the law. Condition: the table is laid. -/
import Derived.Test.YtnfabflkajpkfaaDoorLawPT
namespace Go.Proofs.YtnfabflkajpkfaaDoor.LawPE
open Go Go.RowKit Go.Proofs.YtnfabflkajpkfaaDoorW.PrintWords Go.Proofs.YtnfabflkajpkfaaDoor.Base Go.Proofs.YtnfabflkajpkfaaDoor.Bits Go.Proofs.YtnfabflkajpkfaaDoor.BitsN Go.Proofs.YtnfabflkajpkfaaDoor.Kinds Go.Proofs.YtnfabflkajpkfaaDoor.Words Go.Proofs.YtnfabflkajpkfaaDoor.WordsP Go.Proofs.YtnfabflkajpkfaaDoor.PeelP Go.Proofs.YtnfabflkajpkfaaDoor.PeelQ Go.Proofs.YtnfabflkajpkfaaDoor.PeelV Go.Proofs.YtnfabflkajpkfaaDoor.RipP Go.Proofs.YtnfabflkajpkfaaDoor.Rows2 Go.Proofs.YtnfabflkajpkfaaDoor.XorL Go.Proofs.YtnfabflkajpkfaaDoor.XorR Go.Proofs.YtnfabflkajpkfaaDoor.LawP Go.Proofs.YtnfabflkajpkfaaDoor.LawPT
set_option linter.unusedVariables false
set_option linter.unusedSimpArgs false

theorem fin_none {M : Nat} {R : List RowL} (hr : ∀ r ∈ R, r.vec.length = M) (hM : M ≤ 2) : leastN R (finD R) = none := by
  cases h : leastN R (finD R) with
  | none => rfl
  | some i0 =>
    exfalso
    have hne : ∀ n, n ≤ 128 → ∃ i, leastN R (seqD R n) = some i := by
      intro n hn
      cases hl : leastN R (seqD R n) with
      | some i => exact ⟨i, rfl⟩
      | none => rw [← finD_eq hn hl, hl] at h; cases h
    have hlen : ∀ n, n ≤ 129 → (seqD R n).length = n := by
      intro n
      induction n with
      | zero => intro _; rfl
      | succ n ih =>
        intro hn
        obtain ⟨i, hi⟩ := hne n (by omega)
        rw [seqD_succ hi, List.length_append, ih (by omega)]; rfl
    have h1 := seqD_len hr 129
    rw [hlen 129 (Nat.le_refl _)] at h1
    omega
theorem seqD_one (R : List RowL) (n : Nat) : ∀ p ∈ seqD R n, cntW p.2.vec = 1 := by
  induction n with
  | zero => simp [seqD]
  | succ n ih =>
    rw [seqD, stepD]
    cases hl : leastN R (seqD R n) with
    | none => exact ih
    | some i =>
      intro p hp
      rcases List.mem_append.1 hp with h | h
      · exact ih p h
      · rw [List.mem_singleton.1 h]
        exact (leastN_some hl).2.1
/-- the block of the i-th known row -/
def fk (R : List RowL) (i : Nat) : Nat := ((sortD (finD R)).getD i (0, zRow)).1
theorem ends_known {M : Nat} {R : List RowL} (hr : ∀ r ∈ R, r.vec.length = M) (hM : M ≤ 2) {i : Nat} (h : i < (knownL R).length) :
    firstW ((knownL R)[i]).vec = (fk R i : Nat) ∧ cntW ((knownL R)[i]).vec = 1 ∧ fk R i < 128 ∧ (∀ r ∈ leftL R, getB r.vec (fk R i) = false) ∧ ∀ j, j < i → fk R j < fk R i := by
  have hl : i < (sortD (finD R)).length := by rw [knownL, List.length_map] at h; exact h
  have hmem : (sortD (finD R))[i] ∈ finD R := (sortD_perm _).mem_iff.1 (List.getElem_mem hl)
  have hg := seqD_good hr 128
  have e : (knownL R)[i] = ((sortD (finD R))[i]).2 := by simp [knownL]
  have ef : fk R i = ((sortD (finD R))[i]).1 := by rw [fk, getD_at _ _ i hl]
  have hf := hg.2 _ hmem
  rw [e, ef]
  refine ⟨hf.2, seqD_one R 128 _ hmem, by omega, fun r hrl => ?_, fun j hj => ?_⟩
  · obtain ⟨s, hs, rfl, _⟩ := LawPT.mem_left hrl
    show getB (red (seqD R 128) s).vec _ = false
    rw [red_bit hg.1.1]
    have : (sortD (finD R))[i].1 ∈ (seqD R 128).map (·.1) := List.mem_map.2 ⟨_, hmem, rfl⟩
    rw [decide_eq_true this, Bool.not_true, Bool.and_false]
  · have hjl : j < (sortD (finD R)).length := Nat.lt_trans hj hl
    rw [fk, getD_at (sortD (finD R)) (0, zRow) j hjl]
    exact List.pairwise_iff_getElem.1 (seqSorted hr 128) j i hjl hl hj
theorem getB_setOff (v : List UInt64) (i j : Nat) : getB (setW v i false) j = (getB v j && !decide (j = i)) := by
  by_cases h : i / 64 < v.length
  · rw [getB_setW v i j false h]
    by_cases e : j = i
    · rw [if_pos e]; simp [e]
    · rw [if_neg e]; simp [e]
  · rw [Bits.setW_far v i false (by omega)]
    by_cases e : j = i
    · subst e
      rw [getB_far v j (by omega)]; rfl
    · simp [e]
theorem ripV_bits {D : List (Nat × RowL)} (h1 : ∀ p ∈ D, cntW p.2.vec = 1 ∧ firstW p.2.vec = (p.1 : Nat)) (v : List UInt64) (b : Nat) : getB (ripV (D.map (·.2)) v) b = (getB v b && !decide (b ∈ D.map (·.1))) := by
  induction D generalizing v with
  | nil => simp [ripV]
  | cons p D ih =>
    have e : ripV ((p :: D).map (·.2)) v = ripV (D.map (·.2)) (ripS v p.2) := rfl
    obtain ⟨c1, c2⟩ := h1 p (by simp)
    rw [e, ih (fun q hq => h1 q (by simp [hq])), ripS, if_pos c1, c2, show ((p.1 : Nat) : Int).toNat = p.1 from rfl, getB_setOff]
    rw [List.map_cons]
    by_cases hb : b = p.1
    · subst hb; simp
    · simp only [List.mem_cons, hb, false_or, decide_false, Bool.not_false, Bool.and_true]
theorem rip_red {M : Nat} {R : List RowL} (hr : ∀ r ∈ R, r.vec.length = M) {r : RowL} (hm : r ∈ R) : ripV (knownL R) r.vec = (red (finD R) r).vec := by
  have hg := seqD_good hr 128
  have hs : ∀ p ∈ sortD (finD R), p ∈ seqD R 128 := fun p hp => (sortD_perm _).mem_iff.1 hp
  apply getW_ext
  · rw [ripV_length, hr r hm, finD, red_len hg.1.1 (hr r hm)]
  · intro b
    rw [knownL, ripV_bits (fun p hp => ⟨seqD_one R 128 p (hs p hp), (hg.2 p (hs p hp)).2⟩), finD, red_bit hg.1.1]
    have : b ∈ (sortD (seqD R 128)).map (·.1) ↔ b ∈ (seqD R 128).map (·.1) := ((sortD_perm (seqD R 128)).map (·.1)).mem_iff
    simp only [decide_eq_decide.2 this]
theorem rip_none {M : Nat} {R : List RowL} (hr : ∀ r ∈ R, r.vec.length = M) (hM : M ≤ 2) : ripI (knownL R) R R.length = [] := by
  rw [ripI, List.map_eq_nil_iff, List.filter_eq_nil_iff]
  intro i hi
  have hlt := List.mem_range.1 hi
  have hmem : R.getD i zRow ∈ R := by rw [getD_at R zRow i hlt]; exact List.getElem_mem hlt
  rw [rip_red hr hmem]
  have := leastN_none (fin_none hr hM) i hlt
  simpa [cntR] using this

set_option maxRecDepth 100000 in
set_option maxHeartbeats 2000000 in
theorem PeelEnds (k : Int) (A : Option Addr) (c : Nat) (rows : List RowL) (w : World) (h0 : -9223372036854775808 ≤ k) (h1 : k ≤ 9223372036854775807) (hC : KRow.C w A rows.length rows) (hT : TzOk w) :
    Calls Tryd.prog 6 #[.int .i64 k, .slice A rows.length c] w fun e w' => e = .returned (.bool true) ∧ Below w.heap.size w w' := by
  have hm := C_max hC
  have hz := rowsI_zero rows
  have HF := Aside0.mk (Few_any A c rows w hC)
  have HC := Aside0.mk hC
  have HT := Aside0.mk hT
  clear hC hT
  cases hB : rowsB rows with
  | false =>
    rw [hB] at hz
    have hz : (rowsI rows == 0) = true := hz
    generalize rowsI rows = q at *
    go_enter Tryd.func6, Tryd.ntmps6
    go_wp2_with (first
      | (go_at_call 13; refine HF.out.mono ?_; rintro e w1 ⟨rfl, rfl⟩)
      | (go_at_call 14; refine (awake13_any _ HT.out).mono ?_; rintro e w2 ⟨rfl, hb2⟩))
    go_ret
    exact ⟨rfl, hb2⟩
  | true =>
    obtain ⟨hR1, hR2⟩ := rowsB_yes hB
    rw [hB] at hz
    have hz : (rowsI rows == 0) = false := hz
    generalize rowsI rows = q at *
    clear hB
    by_cases h100 : 100 < rows.length
    · go_enter Tryd.func6, Tryd.ntmps6
      go_wp2_with (first
        | (go_at_call 13; refine HF.out.mono ?_; rintro e w1 ⟨rfl, rfl⟩)
        | (go_at_call 14; refine (awake13_any _ HT.out).mono ?_; rintro e w2 ⟨rfl, hb2⟩))
      go_ret
      exact ⟨rfl, hb2⟩
    · have hd : ∀ r ∈ rows, r.data.size ≤ 1000000 := fun r hr => by have := (hR2 r hr).2; omega
      have hpl := PeelW.Peel_any A c rows k w HC.out h0 h1 (by omega) hd HT.out
      have hvl := fun w' (hb : Below w.heap.size w w') => Delete.refValidR_any A c rows k w' (Kd.C_below HC.out hb) h0 h1 (by omega)
      have hrm := fun r hr => validL_len (k := k) (rows := rows) r hr
      have hM := PeelQ.sizeW_two k
      have hRl : (validL k rows).length ≤ 1000000 := Nat.le_trans (List.length_filter_le _ _) (by omega)
      have hkl := fun r hr => knownL_len (k := k) (rows := rows) r hr
      have hll := fun r hr => leftL_len (k := k) (rows := rows) r hr
      generalize validL k rows = R at *
      generalize (sizeW k).toNat = M at *
      have hek := fun i h => ends_known (i := i) hrm hM h
      have hlc : ∀ r ∈ leftL R, 1 < cntW r.vec := fun r hr => by obtain ⟨_, _, _, h⟩ := LawPT.mem_left hr; exact h
      have hrn := rip_none hrm hM
      have hK1 : ∀ x ∈ knownL R, x.vec.length ≤ 1000 := fun x hx => by rw [hkl x hx]; omega
      have hL1 : ∀ x ∈ leftL R, x.vec.length ≤ 1000 := fun x hx => by rw [hll x hx]; omega
      have hR1000 : ∀ x ∈ R, x.vec.length ≤ 1000 := fun x hx => by rw [hrm x hx]; omega
      generalize fk R = F at *
      generalize knownL R = KL at *
      generalize leftL R = LL at *
      have HPL := Aside0.mk hpl
      have HVL := Aside0.mk hvl
      have HEK := Aside0.mk hek
      have HLC := Aside0.mk hlc
      have HRN := Aside0.mk hrn
      have HK1 := Aside0.mk hK1
      have HL1 := Aside0.mk hL1
      have HR1 := Aside0.mk hR1000
      clear hpl hvl hrm hM hkl hll hek hlc hrn hK1 hL1 hR1000 hd hR2 hR1
      go_enter Tryd.func6, Tryd.ntmps6
      go_wp2_with (first
        | (go_at_call 13; refine HF.out.mono ?_; rintro e w1 ⟨rfl, rfl⟩)
        | (go_at_call 15; refine HPL.out.mono ?_; rintro e w2 ⟨va, vb, rfl, hRa, hRb, hb2⟩; obtain ⟨Aa, ca, rfl, hca, hCa⟩ := hRa.C hb2; obtain ⟨Ab, cb, rfl, hcb, hCb⟩ := hRb.C hb2))
      have HCA := Aside0.mk hCa
      have HCB := Aside0.mk hCb
      have HB2 := Aside0.mk hb2
      have hma := C_max hCa
      have hmb := C_max hCb
      clear hCa hCb hb2 hRa hRb HPL HF
      go_loopw [7, 8] (fun x y wa => ∃ i : Nat, x = .int .i64 i ∧ i ≤ KL.length ∧ wa = w2) (fun x _ _ => KL.length - (intOf x).toNat)
      case atStart => exact ⟨0, rfl, Nat.zero_le _, rfl⟩
      case round =>
        obtain ⟨i, rfl, hi, rfl⟩ := hrel
        by_cases hli : i < KL.length
        · obtain ⟨kd, A0, c0, rfl, hd1, hd2, _, hV⟩ := at_row HCA.out i hli
          obtain ⟨e1, e2, e3, e4, e5⟩ := HEK.out i hli
          have hmem := HK1.out _ (List.getElem_mem hli)
          have hfst := refFirst_any A0 c0 (KL[i]).vec wr hV (by omega)
          have hcnt := refCount_any A0 c0 (KL[i]).vec wr hV (by omega)
          rw [e1] at hfst
          rw [e2] at hcnt
          have HFST := Aside0.mk hfst
          have HCNT := Aside0.mk hcnt
          have HLB := Aside0.mk e4
          have HLT := Aside0.mk e5
          clear hfst hcnt e1 e2 e4 e5 hmem hV
          generalize hfi : F i = f at *
          have HFI := Aside0.mk hfi
          clear hfi
          go_upto_region 8 with (go_at_call 22; with_reducible refine HFST.out.mono ?_; rintro e w5 ⟨rfl, rfl⟩)
          clear HFST
          go_cut [7, 8, 59] (fun x y z wx => x = .int .i64 i ∧ y = .int .i64 f ∧ z = .bool false ∧ wx = wr)
          case first =>
            by_cases hz0 : i = 0
            · have hgd : decide ((0 : Int) < (i : Int)) = false := decide_eq_false (by omega)
              have hgn : ¬ (0 : Int) < (i : Int) := by omega
              clear hz0
              go_wp2_with (go_at_call 23; with_reducible refine HCNT.out.mono ?_; rintro e w5 ⟨rfl, rfl⟩)
              go_meet
              exact ⟨rfl, rfl, rfl, rfl⟩
            · have hgd : decide ((0 : Int) < (i : Int)) = true := decide_eq_true (by omega)
              have hgn : (0 : Int) < (i : Int) := by omega
              have hi1 : i - 1 < KL.length := by omega
              obtain ⟨kd', A1, c1, e', hp1, hp2, _, hV1⟩ := at_row HCA.out (i - 1) hi1
              cases e'
              have hfst := refFirst_any A1 c1 (KL[i - 1]).vec wr hV1 (by have := HK1.out _ (List.getElem_mem hi1); omega)
              rw [(HEK.out (i - 1) hi1).1] at hfst
              have hlt' := HLT.out (i - 1) (by omega)
              have hlf : F (i - 1) < f := hlt'
              have hld : decide ((f : Int) ≤ ((F (i - 1) : Nat) : Int)) = false := decide_eq_false (by omega)
              have hx0 : (0 : Int) ≤ (i : Int) - 1 := by omega
              have hx1 : (i : Int) - 1 < (KL.length : Int) := by omega
              have hx2 : ((i : Int) - 1).toNat = i - 1 := by omega
              have HFS := Aside0.mk hfst
              clear hfst hV1 hlt'
              go_wp2_with (first
                | (go_at_call 23; with_reducible refine HCNT.out.mono ?_; rintro e w5 ⟨rfl, rfl⟩)
                | (go_at_call 22; refine HFS.out.mono ?_; rintro e w5 ⟨rfl, rfl⟩))
              go_meet
              exact ⟨rfl, rfl, by rw [decide_eq_false (show ¬ f ≤ F (i - 1) by omega)], rfl⟩
          case rest =>
            obtain ⟨rfl, rfl, rfl, rfl⟩ := hcut
            clear hd1 hd2
            go_wp2
            go_loopw [9] (fun x wb => ∃ j : Nat, x = .int .i64 j ∧ j ≤ LL.length ∧ wb = wc) (fun x _ => LL.length - (intOf x).toNat)
            case atStart => exact ⟨0, rfl, Nat.zero_le _, rfl⟩
            case round =>
              obtain ⟨j, rfl, hj, rfl⟩ := hrel
              by_cases hlj : j < LL.length
              · obtain ⟨ld, A1, c1, rfl, hp1, hp2, _, hV1⟩ := at_row HCB.out j hlj
                have hmem := List.getElem_mem hlj
                have hget := refGet_any A1 c1 (LL[j]).vec f wr hV1 (by omega)
                rw [HLB.out _ hmem] at hget
                have HG := Aside0.mk hget
                clear hget hV1 hmem
                go_wp2_with (go_at_call 24; refine HG.out.mono ?_; rintro e w5 ⟨rfl, rfl⟩)
                go_roundw
                case rel => exact ⟨j + 1, by go_num, by omega, trivial⟩
                case measure => simp [intOf]; omega
              · go_wp2
                go_roundw
                case rel => exact ⟨i + 1, by go_num, by omega, trivial⟩
                case measure => simp [intOf]; omega
        · go_wp2
          go_loopw [10] (fun x wb => ∃ j : Nat, x = .int .i64 j ∧ j ≤ LL.length ∧ wb = wr) (fun x _ => LL.length - (intOf x).toNat)
          case atStart => exact ⟨0, rfl, Nat.zero_le _, rfl⟩
          case round =>
            obtain ⟨j, rfl, hj, rfl⟩ := hrel
            by_cases hlj : j < LL.length
            · obtain ⟨ld, A1, c1, rfl, hp1, hp2, _, hV1⟩ := at_row HCB.out j hlj
              have hmem := List.getElem_mem hlj
              have hcnt := refCount_any A1 c1 (LL[j]).vec wr hV1 (by have := HL1.out _ hmem; omega)
              have hgt := HLC.out _ hmem
              generalize cntW (LL[j]).vec = g at *
              have hdl : decide ((g : Int) < 2) = false := decide_eq_false (by omega)
              have HG := Aside0.mk hcnt
              clear hcnt hV1 hmem
              go_wp2_with (go_at_call 23; refine HG.out.mono ?_; rintro e w5 ⟨rfl, rfl⟩)
              go_roundw
              case rel => exact ⟨j + 1, by go_num, by omega, trivial⟩
              case measure => simp [intOf]; omega
            · have HV2 := Aside0.mk (HVL.out _ HB2.out)
              clear HVL HEK HLC
              go_wp2_with (first
                | (go_at_call 25; refine HV2.out.mono ?_; rintro e w5 ⟨v5, rfl, hR5, hb5⟩; obtain ⟨A5, c5, rfl, hc5, hC5⟩ := hR5.C hb5)
                | (go_at_call 19; refine (RipW.Ripple_any _ _ KL _ _ R w5 (Kd.C_below HCA.out hb5) hC5 HK1.out HR1.out hRl (HT.out.below (bthn HB2.out (Nat.le_refl _) hb5))).mono ?_; rintro e w6 ⟨A6, c6, rfl, hC6, hb6⟩; rw [HRN.out])
                | (go_at_call 14; refine (awake13_any _ (HT.out.below (bthn HB2.out (Nat.le_refl _) (bthn hb5 (Nat.le_refl _) hb6)))).mono ?_; rintro e w7 ⟨rfl, hb7⟩))
              go_ret
              exact ⟨rfl, bthn HB2.out (Nat.le_refl _) (bthn hb5 (Nat.le_refl _) (bthn hb6 (Nat.le_refl _) hb7))⟩

end Go.Proofs.YtnfabflkajpkfaaDoor.LawPE
