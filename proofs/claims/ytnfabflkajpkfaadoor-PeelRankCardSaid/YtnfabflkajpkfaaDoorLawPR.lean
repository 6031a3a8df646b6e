/- Peeling changes no rank: plain, and the walk of the law. Condition: the table is laid. -/
import Derived.Test.YtnfabflkajpkfaaDoorLawPE
import Derived.Test.YtnfabflkajpkfaaDoorEch3B
import Derived.Test.YtnfabflkajpkfaaDoorRowsB
namespace Go.Proofs.YtnfabflkajpkfaaDoor.LawPR
open Go Go.RowKit Go.Proofs.YtnfabflkajpkfaaDoorW.PrintWords Go.Proofs.YtnfabflkajpkfaaDoor.Base Go.Proofs.YtnfabflkajpkfaaDoor.Bits Go.Proofs.YtnfabflkajpkfaaDoor.BitsN Go.Proofs.YtnfabflkajpkfaaDoor.Kinds Go.Proofs.YtnfabflkajpkfaaDoor.Words Go.Proofs.YtnfabflkajpkfaaDoor.WordsP Go.Proofs.YtnfabflkajpkfaaDoor.PeelP Go.Proofs.YtnfabflkajpkfaaDoor.PeelQ Go.Proofs.YtnfabflkajpkfaaDoor.Rows2 Go.Proofs.YtnfabflkajpkfaaDoor.XorL Go.Proofs.YtnfabflkajpkfaaDoor.LawP Go.Proofs.YtnfabflkajpkfaaDoor.Span Go.Proofs.YtnfabflkajpkfaaDoor.Wss Go.Proofs.YtnfabflkajpkfaaDoor.Ech3 Go.Proofs.YtnfabflkajpkfaaDoor.RowsB
set_option linter.unusedVariables false
set_option linter.unusedSimpArgs false

abbrev vecs (rows : List RowL) : List Wd := rows.map (·.vec)
theorem sp_red {L : List Wd} {D : List (Nat × RowL)} (hD : ∀ p ∈ D, Sp L (getB p.2.vec)) {r : RowL} (h : Sp L (getB r.vec)) : Sp L (getB (red D r).vec) := by
  induction D generalizing r with
  | nil => exact h
  | cons p D ih =>
    refine ih (fun q hq => hD q (by simp [hq])) ?_
    unfold stepR
    split
    · exact Sp.xorW h (hD p (by simp))
    · exact h
theorem sp_seqD (R : List RowL) (n : Nat) : ∀ p ∈ seqD R n, Sp (vecs R) (getB p.2.vec) := by
  induction n with
  | zero => simp [seqD]
  | succ n ih =>
    rw [seqD, stepD]
    cases hl : leastN R (seqD R n) with
    | none => exact ih
    | some i =>
      intro p hp
      rcases List.mem_append.1 hp with h | h
      · exact ih p h
      · rw [List.mem_singleton.1 h]
        refine sp_red ih ?_
        have hi := (leastN_some hl).1
        rw [getD_at R zRow i hi]
        exact Sp.mem (List.mem_map.2 ⟨_, List.getElem_mem hi, rfl⟩)
/-- a row is what red leaves of it and what red took -/
theorem sp_back {L : List Wd} {D : List (Nat × RowL)} (hD : ∀ p ∈ D, Sp L (getB p.2.vec)) {r : RowL} (h : Sp L (getB (red D r).vec)) : Sp L (getB r.vec) := by
  induction D generalizing r with
  | nil => exact h
  | cons p D ih =>
    have h1 : Sp L (getB (stepR r p).vec) := ih (fun q hq => hD q (by simp [hq])) h
    unfold stepR at h1
    split at h1
    · exact (h1.xor (hD p (by simp))).cast fun i => by
        show getB r.vec i = (getB (xorW r.vec p.2.vec) i ^^ getB p.2.vec i)
        rw [getB_xorW]; cases getB r.vec i <;> cases getB p.2.vec i <;> rfl
    · exact h1
theorem peel_same {M : Nat} {R : List RowL} (hr : ∀ r ∈ R, r.vec.length = M) (hM : M ≤ 2) : Same (vecs (knownL R ++ leftL R)) (vecs R) := by
  have hk : ∀ p ∈ finD R, Sp (vecs (knownL R ++ leftL R)) (getB p.2.vec) := fun p hp => by
    refine Sp.mem (List.mem_map.2 ⟨p.2, List.mem_append.2 (.inl ?_), rfl⟩)
    exact List.mem_map.2 ⟨p, (sortD_perm _).mem_iff.2 hp, rfl⟩
  refine Same.of (fun v hv => ?_) (fun v hv => ?_)
  · obtain ⟨x, hx, rfl⟩ := List.mem_map.1 hv
    rcases List.mem_append.1 hx with hx | hx
    · obtain ⟨f, hf⟩ := LawPT.mem_known hx
      exact sp_seqD R 128 _ hf
    · obtain ⟨s, hs, rfl, _⟩ := LawPT.mem_left hx
      exact sp_red (sp_seqD R 128) (Sp.mem (List.mem_map.2 ⟨s, hs, rfl⟩))
  · obtain ⟨x, hx, rfl⟩ := List.mem_map.1 hv
    refine sp_back hk ?_
    by_cases hc : 1 < cntW (red (finD R) x).vec
    · refine Sp.mem (List.mem_map.2 ⟨_, List.mem_append.2 (.inr ?_), rfl⟩)
      exact List.mem_filter.2 ⟨List.mem_map.2 ⟨x, hx, rfl⟩, decide_eq_true hc⟩
    · obtain ⟨i, hi, rfl⟩ := List.getElem_of_mem hx
      have h1 := leastN_none (LawPE.fin_none hr hM) i hi
      rw [getD_at R zRow i hi] at h1
      have h1 : cntW (red (finD R) R[i]).vec ≠ 1 := h1
      have h0 : cntW (red (finD R) R[i]).vec = 0 := by omega
      exact Sp.zero.cast fun j => cnt_zero_iff.1 h0 j
theorem peel_rank {M : Nat} {R : List RowL} (hr : ∀ r ∈ R, r.vec.length = M) (hM : M ≤ 2) : (basisL (vecs (knownL R ++ leftL R))).length = (basisL (vecs R)).length := rank_same (peel_same hr hM)

set_option maxRecDepth 100000 in
set_option maxHeartbeats 2000000 in
theorem PeelRank (k : Int) (A : Option Addr) (c : Nat) (rows : List RowL) (w : World) (h0 : -9223372036854775808 ≤ k) (h1 : k ≤ 9223372036854775807) (hC : KRow.C w A rows.length rows) (hT : TzOk w) :
    Calls Tryd.prog 7 #[.int .i64 k, .slice A rows.length c] w fun e w' => e = .returned (.bool true) ∧ Below w.heap.size w w' := by
  have hm := C_max hC
  have hz := rowsI_zero rows
  have HF := Aside0.mk (Few_any A c rows w hC)
  have HC := Aside0.mk hC
  have HT := Aside0.mk hT
  clear hC hT
  cases hB : rowsB rows with
  | false =>
    rw [hB] at hz
    have hz : (rowsI rows == 0) = true := hz
    generalize rowsI rows = q at *
    go_enter Tryd.func7, Tryd.ntmps7
    go_wp2_with (first
      | (go_at_call 13; refine HF.out.mono ?_; rintro e w1 ⟨rfl, rfl⟩)
      | (go_at_call 14; refine (awake13_any _ HT.out).mono ?_; rintro e w2 ⟨rfl, hb2⟩))
    go_ret
    exact ⟨rfl, hb2⟩
  | true =>
    obtain ⟨hR1, hR2⟩ := rowsB_yes hB
    rw [hB] at hz
    have hz : (rowsI rows == 0) = false := hz
    generalize rowsI rows = q at *
    clear hB
    by_cases h100 : 100 < rows.length
    · go_enter Tryd.func7, Tryd.ntmps7
      go_wp2_with (first
        | (go_at_call 13; refine HF.out.mono ?_; rintro e w1 ⟨rfl, rfl⟩)
        | (go_at_call 14; refine (awake13_any _ HT.out).mono ?_; rintro e w2 ⟨rfl, hb2⟩))
      go_ret
      exact ⟨rfl, hb2⟩
    · have hd : ∀ r ∈ rows, r.data.size ≤ 1000000 := fun r hr => by have := (hR2 r hr).2; omega
      have hpl := PeelW.Peel_any A c rows k w HC.out h0 h1 (by omega) hd HT.out
      have hvl := fun w' (hb : Below w.heap.size w w') => Delete.refValidR_any A c rows k w' (Kd.C_below HC.out hb) h0 h1 (by omega)
      have hrm := fun r hr => validL_len (k := k) (rows := rows) r hr
      have hM := PeelQ.sizeW_two k
      have hRl : (validL k rows).length ≤ 100 := Nat.le_trans (List.length_filter_le _ _) (by omega)
      have hkl := fun r hr => knownL_len (k := k) (rows := rows) r hr
      have hll := fun r hr => leftL_len (k := k) (rows := rows) r hr
      generalize validL k rows = R at *
      generalize (sizeW k).toNat = M at *
      have hrk := peel_rank hrm hM
      have hkn : (knownL R).length ≤ 128 := by
        have := seqD_len hrm 128
        rw [knownL, List.length_map, (sortD_perm _).length_eq]
        show (seqD R 128).length ≤ 128
        omega
      have hln : (leftL R).length ≤ 100 := Nat.le_trans (List.length_filter_le _ _) (by simp; omega)
      have hKL : ∀ x ∈ knownL R ++ leftL R, x.vec.length ≤ 1000 := fun x hx => by
        rcases List.mem_append.1 hx with h | h
        · rw [hkl x h]; omega
        · rw [hll x h]; omega
      have hR1000 : ∀ x ∈ R, x.vec.length ≤ 1000 := fun x hx => by rw [hrm x hx]; omega
      generalize knownL R = KL at *
      generalize leftL R = LL at *
      have hln2 : (KL ++ LL).length ≤ 1000000 := by rw [List.length_append]; omega
      generalize hLE : KL ++ LL = L at *
      have HLE := Aside0.mk hLE
      clear hLE
      have HPL := Aside0.mk hpl
      have HVL := Aside0.mk hvl
      have HRK := Aside0.mk hrk
      have HKL := Aside0.mk hKL
      have HR1 := Aside0.mk hR1000
      clear hpl hvl hrm hM hkl hll hrk hKL hR1000 hd hR2 hR1
      go_enter Tryd.func7, Tryd.ntmps7
      go_upto_region 4 with (first
        | (go_at_call 13; refine HF.out.mono ?_; rintro e w1 ⟨rfl, rfl⟩)
        | (go_at_call 15; refine HPL.out.mono ?_; rintro e w2 ⟨va, vb, rfl, hRa, hRb, hb2⟩; obtain ⟨Aa, ca, rfl, hca, hCa⟩ := hRa.C hb2; obtain ⟨Ab, cb, rfl, hcb, hCb⟩ := hRb.C hb2))
      have HCA := Aside0.mk hCa
      have HCB := Aside0.mk hCb
      have HB2 := Aside0.mk hb2
      clear hCa hCb hb2 hRa hRb HPL HF
      go_wp2_with (first
        | (at_builtin; refine wpList_append_rowsV (w0 := w2) rfl _ _ rfl w2.heap.size _ [] rfl (RowsV.nil _ _ _) Aa ca KL rfl HCA.out (Below.refl _ _) (Below.refl _ _) (Nat.le_refl _) (by simp; omega) ?_; intro v3 w3 hR3 hb3)
        | (at_builtin; refine wpList_append_rowsV (w0 := w2) rfl _ _ rfl w2.heap.size _ ([] ++ KL) rfl hR3 Ab cb LL rfl HCB.out hb3 hb3 hb3.size (by simp; omega) ?_; intro v4 w4 hR4 hb4; rw [List.nil_append, HLE.out] at hR4; obtain ⟨A4, c4, e4, _, hC4⟩ := hR4.C hb4; subst e4)
        | (go_at_call 26; with_reducible refine (Ech3B.rank_any A4 c4 L w4 hC4 HKL.out hln2).mono ?_; rintro e w5 ⟨rfl, hb5⟩; have hB5 := bthn HB2.out (Nat.le_refl _) (bthn hb4 (Nat.le_refl _) hb5))
        | (go_at_call 25; refine (HVL.out _ hB5).mono ?_; rintro e w6 ⟨v6, rfl, hR6, hb6⟩; obtain ⟨A6, c6, e6, _, hC6⟩ := hR6.C hb6; subst e6)
        | (go_at_call 26; with_reducible refine (Ech3B.rank_any A6 c6 R w6 hC6 HR1.out (by omega)).mono ?_; rintro e w7 ⟨rfl, hb7⟩; rw [← HRK.out]; have hB7 := bthn hB5 (Nat.le_refl _) (bthn hb6 (Nat.le_refl _) hb7))
        | (go_at_call 14; refine (awake13_any _ (HT.out.below hB7)).mono ?_; rintro e w8 ⟨rfl, hb8⟩))
      go_ret
      exact ⟨rfl, bthn hB7 (Nat.le_refl _) hb8⟩

end Go.Proofs.YtnfabflkajpkfaaDoor.LawPR
