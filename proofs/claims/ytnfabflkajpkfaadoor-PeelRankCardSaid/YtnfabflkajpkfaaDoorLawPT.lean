/- Of rows that are true of blocks what is known, and what is left, is true of them: plain, and the walk of the law. Condition: the table is laid. -/
import Derived.Test.YtnfabflkajpkfaaDoorLawP
namespace Go.Proofs.YtnfabflkajpkfaaDoor.LawPT
open Go Go.RowKit Go.Proofs.YtnfabflkajpkfaaDoorW.PrintWords Go.Proofs.YtnfabflkajpkfaaDoor.Base Go.Proofs.YtnfabflkajpkfaaDoor.Bits Go.Proofs.YtnfabflkajpkfaaDoor.BitsN Go.Proofs.YtnfabflkajpkfaaDoor.Kinds Go.Proofs.YtnfabflkajpkfaaDoor.Words Go.Proofs.YtnfabflkajpkfaaDoor.WordsP Go.Proofs.YtnfabflkajpkfaaDoor.PeelP Go.Proofs.YtnfabflkajpkfaaDoor.PeelQ Go.Proofs.YtnfabflkajpkfaaDoor.Rows2 Go.Proofs.YtnfabflkajpkfaaDoor.XorL Go.Proofs.YtnfabflkajpkfaaDoor.XorR Go.Proofs.YtnfabflkajpkfaaDoor.LawP
set_option linter.unusedVariables false
set_option linter.unusedSimpArgs false

def Holds (l : List ByteArray) (r : RowL) : Prop := holdsB l r.vec r.data = true
theorem holds_two {l : List ByteArray} {r x : RowL} (h1 : Holds l r) (h2 : Holds l x) : Holds l (rowX2 r x) := by
  rw [← rowX_two]
  exact holds_rowX l [r, x] (fun y hy => by
    simp only [List.mem_cons, List.not_mem_nil, or_false] at hy
    rcases hy with rfl | rfl
    · exact h1
    · exact h2)
theorem holds_red {l : List ByteArray} {D : List (Nat × RowL)} (hD : ∀ p ∈ D, Holds l p.2) {r : RowL} (h : Holds l r) : Holds l (red D r) := by
  induction D generalizing r with
  | nil => exact h
  | cons p D ih =>
    refine ih (fun q hq => hD q (by simp [hq])) ?_
    unfold stepR
    split
    · exact holds_two h (hD p (by simp))
    · exact h
theorem holds_seqD {l : List ByteArray} {R : List RowL} (hR : ∀ r ∈ R, Holds l r) (n : Nat) : ∀ p ∈ seqD R n, Holds l p.2 := by
  induction n with
  | zero => simp [seqD]
  | succ n ih =>
    rw [seqD, stepD]
    cases hl : leastN R (seqD R n) with
    | none => exact ih
    | some i =>
      intro p hp
      rcases List.mem_append.1 hp with h | h
      · exact ih p h
      · rw [List.mem_singleton.1 h]
        refine holds_red ih ?_
        have hi := (leastN_some hl).1
        rw [getD_at R zRow i hi]
        exact hR _ (List.getElem_mem hi)
theorem mem_known {R : List RowL} {r : RowL} (h : r ∈ knownL R) : ∃ f, (f, r) ∈ finD R := PeelR.mem_knL (R := R) (n := 128) h
theorem mem_left {R : List RowL} {r : RowL} (h : r ∈ leftL R) : ∃ s ∈ R, r = red (finD R) s ∧ 1 < cntW r.vec := by
  obtain ⟨hr1, hc⟩ := List.mem_filter.1 h
  obtain ⟨s, hs, rfl⟩ := List.mem_map.1 hr1
  exact ⟨s, hs, rfl, by simpa using hc⟩
theorem holds_known {l : List ByteArray} {R : List RowL} (hR : ∀ r ∈ R, Holds l r) : ∀ r ∈ knownL R, Holds l r := fun r hr => by
  obtain ⟨f, hf⟩ := mem_known hr
  exact holds_seqD hR 128 _ hf
theorem holds_left {l : List ByteArray} {R : List RowL} (hR : ∀ r ∈ R, Holds l r) : ∀ r ∈ leftL R, Holds l r := fun r hr => by
  obtain ⟨s, hs, rfl, _⟩ := mem_left hr
  exact holds_red (holds_seqD hR 128) (hR s hs)
theorem known_size {R : List RowL} {K : Nat} (hR : ∀ r ∈ R, r.data.size ≤ K) : ∀ r ∈ knownL R, r.data.size ≤ K := fun r hr => by
  obtain ⟨f, hf⟩ := mem_known hr
  exact seqD_size hR 128 _ hf
theorem left_size {R : List RowL} {K : Nat} (hR : ∀ r ∈ R, r.data.size ≤ K) : ∀ r ∈ leftL R, r.data.size ≤ K := fun r hr => by
  obtain ⟨s, hs, rfl, _⟩ := mem_left hr
  exact red_size (seqD_size hR 128) (hR s hs)

set_option maxRecDepth 100000 in
set_option maxHeartbeats 2000000 in
theorem PeelTrue (A : Option Addr) (c : Nat) (l : List ByteArray) (B : Option Addr) (d : Nat) (rows : List RowL) (w : World) (hL : Kd.string.C w A l.length l) (hR : KRow.C w B rows.length rows) (hT : TzOk w) :
    Calls Tryd.prog 5 #[.slice A l.length c, .slice B rows.length d] w fun e w' => e = .returned (.bool true) ∧ Below w.heap.size w w' := by
  have hm := C_max hL
  have hm2 := C_max hR
  have hy := rowsI_zero rows
  have hfr := Few_any B d rows w hR
  have HL := Aside0.mk hL
  have HR := Aside0.mk hR
  have HT := Aside0.mk hT
  have HF := Aside0.mk hfr
  clear hL hR hT hfr
  cases hB2 : rowsB rows with
  | false =>
    rw [hB2] at hy
    have hy : (rowsI rows == 0) = true := hy
    generalize rowsI rows = q at *
    clear hB2
    go_enter Tryd.func5, Tryd.ntmps5
    go_wp2_with (first
      | (go_at_call 13; with_reducible refine HF.out.mono ?_; rintro e w1 ⟨rfl, rfl⟩)
      | (go_at_call 14; refine (awake13_any _ HT.out).mono ?_; rintro e w6 ⟨rfl, hb6⟩))
    go_ret
    exact ⟨rfl, hb6⟩
  | true =>
    obtain ⟨_, hRs⟩ := rowsB_yes hB2
    rw [hB2] at hy
    have hy : (rowsI rows == 0) = false := hy
    generalize rowsI rows = q at *
    clear hB2
    by_cases h1 : 100 < rows.length ∨ (rows.length ≤ 100 ∧ 100 < l.length)
    · clear hRs
      rcases h1 with h1 | ⟨h1, h2⟩
      all_goals
        go_enter Tryd.func5, Tryd.ntmps5
        go_wp2_with (first
          | (go_at_call 13; with_reducible refine HF.out.mono ?_; rintro e w1 ⟨rfl, rfl⟩)
          | (go_at_call 14; refine (awake13_any _ HT.out).mono ?_; rintro e w6 ⟨rfl, hb6⟩))
        go_ret
        exact ⟨rfl, hb6⟩
    · have h100 : ¬ 100 < rows.length := by omega
      have h200 : ¬ 100 < l.length := by omega
      have hrs := fun r hr => (hRs r hr).2
      have hrv : ∀ r ∈ rows, r.vec.length ≤ 10 := fun r hr => (hRs r hr).1
      have hpl := fun w' (hb : Below w.heap.size w w') => PeelW.Peel_any B d rows (l.length : Nat) w' (Kd.C_below HR.out hb) (by omega) (by omega) (by omega) (fun r hr => by have := hrs r hr; omega) (HT.out.below hb)
      have hvd : ∀ r ∈ validL (l.length : Nat) rows, r.data.size ≤ 1000 := fun r hr => hrs r (mem_validL.1 hr).1
      have HRS := Aside0.mk hrs
      have HRV := Aside0.mk hrv
      have HVD := Aside0.mk hvd
      have HPL := Aside0.mk hpl
      clear h1 hRs hrs hrv hvd hpl
      go_enter Tryd.func5, Tryd.ntmps5
      go_wp2_with (go_at_call 13; with_reducible refine HF.out.mono ?_; rintro e w1 ⟨rfl, rfl⟩)
      clear HF
      go_loopw [5] (fun x wr => ∃ i : Nat, x = .int .i64 i ∧ i ≤ l.length ∧ Aside0 (∀ j (hj : j < l.length), j < i → (l[j]).size ≤ 100) ∧ wr = w) (fun x _ => l.length - (intOf x).toNat)
      case atStart => exact ⟨0, rfl, Nat.zero_le _, ⟨fun j _ h => by omega⟩, rfl⟩
      case round =>
        obtain ⟨i, rfl, hi, HS, rfl⟩ := hrel
        by_cases hlt : i < l.length
        · obtain ⟨ad, rfl, hcell⟩ := at_str HL.out i hlt
          by_cases hb : 100 < (l[i]).size
          · go_wp2_with (go_at_call 14; refine (awake13_any _ HT.out).mono ?_; rintro e w6 ⟨rfl, hb6⟩)
            go_ret
            exact ⟨rfl, hb6⟩
          · have HN : Aside0 (∀ j (hj : j < l.length), j < i + 1 → (l[j]).size ≤ 100) := ⟨fun j hj h => by
              by_cases he : j = i
              · subst he; omega
              · exact HS.out j hj (by omega)⟩
            go_wp2
            go_roundw
            case rel => exact ⟨i + 1, by go_num, by omega, HN, trivial⟩
            case measure => simp [intOf]; omega
        · have HS : Aside0 (∀ s ∈ l, s.size ≤ 281474976710656) := ⟨fun s hs => by
            obtain ⟨j, hj, rfl⟩ := List.getElem_of_mem hs
            have := HS.out j hj (by omega)
            omega⟩
          go_wp2
          go_loopw [6] (fun x wq => ∃ j : Nat, x = .int .i64 j ∧ j ≤ rows.length ∧ Aside0 (∀ m (hj : m < rows.length), m < j → LawPT.Holds l rows[m]) ∧ Aside0 (Below wr.heap.size wr wq)) (fun x _ => rows.length - (intOf x).toNat)
          case atStart => exact ⟨0, rfl, Nat.zero_le _, ⟨fun j _ h => by omega⟩, ⟨Below.refl _ _⟩⟩
          case round =>
            obtain ⟨j, rfl, hj, HH, HB⟩ := hrel
            rename World => wq
            by_cases hlj : j < rows.length
            · obtain ⟨bd, B0, d0, rfl, hd1, hd2, _, hV⟩ := at_row (Kd.C_below HR.out HB.out) j hlj
              have hmem := List.getElem_mem hlj
              have hh := refHolds_any A B0 c d0 l rows[j] wq (Kd.C_below HL.out HB.out) hV HS.out (by have := HRV.out _ hmem; omega) (by have := HRS.out _ hmem; omega)
              cases hq : holdsB l (rows[j]).vec (rows[j]).data with
              | false =>
                rw [hq] at hh
                have HHH := Aside0.mk hh
                clear hh hV hmem hq
                go_wp2_with (first
                  | (go_at_call 21; refine HHH.out.mono ?_; rintro e w5 ⟨rfl, hb5⟩)
                  | (go_at_call 14; refine (awake13_any _ (HT.out.below (bthn HB.out (Nat.le_refl _) hb5))).mono ?_; rintro e w6 ⟨rfl, hb6⟩))
                go_ret
                exact ⟨rfl, bthn (bthn HB.out (Nat.le_refl _) hb5) (Nat.le_refl _) hb6⟩
              | true =>
                rw [hq] at hh
                have HHH := Aside0.mk hh
                have HN : Aside0 (∀ m (hj : m < rows.length), m < j + 1 → LawPT.Holds l rows[m]) := ⟨fun m hm h => by
                  by_cases he : m = j
                  · subst he; exact hq
                  · exact HH.out m hm (by omega)⟩
                clear hh hV hmem hq
                go_wp2_with (first
                  | (go_at_call 21; refine HHH.out.mono ?_; rintro e w5 ⟨rfl, hb5⟩))
                go_roundw
                case rel => exact ⟨j + 1, by go_num, by omega, HN, ⟨bthn HB.out (Nat.le_refl _) hb5⟩⟩
                case measure => simp [intOf]; omega
            · have hall : ∀ r ∈ validL (l.length : Nat) rows, LawPT.Holds l r := fun r hr => by
                obtain ⟨m, hm, rfl⟩ := List.getElem_of_mem (mem_validL.1 hr).1
                exact HH.out m hm (by omega)
              have hkn := holds_known hall
              have hle := holds_left hall
              have h2 := PeelQ.sizeW_two (l.length : Nat)
              have hks : ∀ r ∈ knownL (validL (l.length : Nat) rows), r.vec.length ≤ 8796093022208 ∧ r.data.size ≤ 281474976710656 := fun r hr => ⟨by rw [knownL_len r hr]; omega, by have := known_size HVD.out r hr; omega⟩
              have hls : ∀ r ∈ leftL (validL (l.length : Nat) rows), r.vec.length ≤ 8796093022208 ∧ r.data.size ≤ 281474976710656 := fun r hr => ⟨by rw [leftL_len r hr]; omega, by have := left_size HVD.out r hr; omega⟩
              have hpl := HPL.out wq HB.out
              generalize knownL (validL (l.length : Nat) rows) = KL at *
              generalize leftL (validL (l.length : Nat) rows) = LL at *
              have HP := Aside0.mk hpl
              have HKN := Aside0.mk hkn
              have HLE := Aside0.mk hle
              have HKS := Aside0.mk hks
              have HLS := Aside0.mk hls
              clear hall hkn hle h2 hks hls hpl HPL HH
              go_wp2_with (go_at_call 15; refine HP.out.mono ?_; rintro e w2 ⟨va, vb, rfl, hRa, hRb, hb2⟩; obtain ⟨Aa, ca, rfl, hca, hCa⟩ := hRa.C hb2; obtain ⟨Ab, cb, rfl, hcb, hCb⟩ := hRb.C hb2)
              have HCA := Aside0.mk hCa
              have HCB := Aside0.mk hCb
              have HB2 := Aside0.mk (bthn HB.out (Nat.le_refl _) hb2)
              have hma := C_max hCa
              have hmb := C_max hCb
              clear hCa hCb hb2 hRa hRb HP HB
              go_wp2
              go_loopw [9] (fun x wa => ∃ j : Nat, x = .int .i64 j ∧ j ≤ KL.length ∧ Aside0 (Below w2.heap.size w2 wa)) (fun x _ => KL.length - (intOf x).toNat)
              case atStart => exact ⟨0, rfl, Nat.zero_le _, ⟨Below.refl _ _⟩⟩
              case round =>
                obtain ⟨j2, rfl, hj2, HBA⟩ := hrel
                rename World => wa
                by_cases hl2 : j2 < KL.length
                · obtain ⟨kd, A0, c0, rfl, hd1, hd2, _, hV⟩ := at_row (Kd.C_below HCA.out HBA.out) j2 hl2
                  have hmem := List.getElem_mem hl2
                  have hh := refHolds_any A A0 c c0 l KL[j2] wa (Kd.C_below HL.out (bthn HB2.out (Nat.le_refl _) HBA.out)) hV HS.out (HKS.out _ hmem).1 (HKS.out _ hmem).2
                  rw [show holdsB l (KL[j2]).vec (KL[j2]).data = true from HKN.out _ hmem] at hh
                  have HHH := Aside0.mk hh
                  clear hh hV hmem
                  go_wp2_with (first
                    | (go_at_call 21; refine HHH.out.mono ?_; rintro e w5 ⟨rfl, hb5⟩))
                  go_roundw
                  case rel => exact ⟨j2 + 1, by go_num, by omega, ⟨bthn HBA.out (Nat.le_refl _) hb5⟩⟩
                  case measure => simp [intOf]; omega
                · go_wp2
                  go_loopw [10] (fun x wb => ∃ j : Nat, x = .int .i64 j ∧ j ≤ LL.length ∧ Aside0 (Below w2.heap.size w2 wb)) (fun x _ => LL.length - (intOf x).toNat)
                  case atStart => exact ⟨0, rfl, Nat.zero_le _, HBA⟩
                  case round =>
                    obtain ⟨j3, rfl, hj3, HBB⟩ := hrel
                    rename World => wb
                    by_cases hl3 : j3 < LL.length
                    · obtain ⟨kd, A0, c0, rfl, hd1, hd2, _, hV⟩ := at_row (Kd.C_below HCB.out HBB.out) j3 hl3
                      have hmem := List.getElem_mem hl3
                      have hh := refHolds_any A A0 c c0 l LL[j3] wb (Kd.C_below HL.out (bthn HB2.out (Nat.le_refl _) HBB.out)) hV HS.out (HLS.out _ hmem).1 (HLS.out _ hmem).2
                      rw [show holdsB l (LL[j3]).vec (LL[j3]).data = true from HLE.out _ hmem] at hh
                      have HHH := Aside0.mk hh
                      clear hh hV hmem
                      go_wp2_with (first
                        | (go_at_call 21; refine HHH.out.mono ?_; rintro e w5 ⟨rfl, hb5⟩))
                      go_roundw
                      case rel => exact ⟨j3 + 1, by go_num, by omega, ⟨bthn HBB.out (Nat.le_refl _) hb5⟩⟩
                      case measure => simp [intOf]; omega
                    · have HBF := Aside0.mk (bthn HB2.out (Nat.le_refl _) HBB.out)
                      go_wp2_with (go_at_call 14; refine (awake13_any _ (HT.out.below HBF.out)).mono ?_; rintro e w6 ⟨rfl, hb6⟩)
                      go_ret
                      exact ⟨rfl, bthn HBF.out (Nat.le_refl _) hb6⟩

end Go.Proofs.YtnfabflkajpkfaaDoor.LawPT
