/- The reference's echelon basis: reduce, add, basis, rank: the walks. No condition. -/
import Derived.Test.YtnfabflkajpkfaaDoorWss
import Derived.Test.YtnfabflkajpkfaaDoorWordsP
namespace Go.Proofs.YtnfabflkajpkfaaDoor.Ech3
open Go Go.RowKit Go.Proofs.YtnfabflkajpkfaaDoorW.PrintWords Go.Proofs.YtnfabflkajpkfaaDoor.Base Go.Proofs.YtnfabflkajpkfaaDoor.Bits Go.Proofs.YtnfabflkajpkfaaDoor.BitsN Go.Proofs.YtnfabflkajpkfaaDoor.Kinds Go.Proofs.YtnfabflkajpkfaaDoor.Words Go.Proofs.YtnfabflkajpkfaaDoor.WordsP Go.Proofs.YtnfabflkajpkfaaDoor.Rows2 Go.Proofs.YtnfabflkajpkfaaDoor.Span Go.Proofs.YtnfabflkajpkfaaDoor.Wss
set_option linter.unusedVariables false
set_option linter.unusedSimpArgs false

theorem first_pos {v : Wd} (h : 0 ≤ firstW v) : firstW v = (fst v : Nat) := by rw [fst]; omega
theorem fst_lt {v : Wd} (h : 0 ≤ firstW v) : fst v < 64 * v.length := by
  by_cases hc : cntW v = 0
  · rw [firstW_none hc] at h; omega
  · obtain ⟨i, e, _, _, hi⟩ := firstW_some hc
    rw [fst_of e]; exact hi
theorem redS_yes {r b : Wd} (h : 0 ≤ firstW b) (hg : getB r (fst b) = true) : redS r b = xorW r b := if_pos ⟨h, hg⟩
theorem redS_no {r b : Wd} (h : ¬ 0 ≤ firstW b ∨ getB r (fst b) = false) : redS r b = r := if_neg (fun hh => by
  rcases h with h | h
  · exact h hh.1
  · rw [h] at hh; cases hh.2)
theorem take_length_le {M : Nat} {B : List Wd} (hB : ∀ b ∈ B, b.length ≤ M) (i : Nat) : ∀ b ∈ B.take i, b.length ≤ M := fun b hb => hB b (List.mem_of_mem_take hb)

set_option maxHeartbeats 1000000 in
theorem Reduce_any (A : Option Addr) (c : Nat) (B : List Wd) (A0 : Option Addr) (c0 : Nat) (v : Wd) (w : World) (hC : KW.C w A B.length B) (hV : Kw.C w A0 v.length v) (hB : ∀ b ∈ B, b.length ≤ 1000) (hv : v.length ≤ 1000) :
    Calls Tryd.prog 84 #[.slice A B.length c, .slice A0 v.length c0] w fun e w' =>
      ∃ s, e = .returned s ∧ Own w' w.heap.size 45 s ((redV B v).map encW) ∧ Below w.heap.size w w' := by
  have hm := C_max hC
  have HC := Aside0.mk hC
  have HV := Aside0.mk hV
  have HB := Aside0.mk hB
  have HVL := Aside0.mk hv
  clear hC hV hB
  go_enter Tryd.func84, Tryd.ntmps84
  go_wp2_with (at_builtin; refine print_append_row (w0 := w) w.heap.size rfl _ _ 34 45 .u64 8 rfl Tryd.underlying34 info_u64 (by decide) (.slice none 0 0) [] (v.map fun x => (x.toNat : Int)) A0 v.length c0 rfl rfl (World.ownsRow_nil _ _ _ _) (readsW HV.out) (Below.refl _ _) (Nat.le_refl _) (by simp; omega) ?_; intro v1 w1 hown hB1 _ _)
  rw [List.nil_append, numsW] at hown
  have HO := Aside0.mk (Own.of_row hown)
  have HG := Aside0.mk hB1
  clear hown hB1
  go_wp2
  go_loopw [5, 6] (fun s x wr => ∃ i : Nat, x = .int .i64 i ∧ i ≤ B.length ∧ Aside0 (Own wr w.heap.size 45 s ((redV (B.take i) v).map encW)) ∧ Aside0 (Below w.heap.size w wr)) (fun _ x _ => B.length - (intOf x).toNat)
  case atStart => exact ⟨0, rfl, Nat.zero_le _, HO, HG⟩
  case round =>
    clear HO HG
    obtain ⟨i, rfl, hi, HO, HG⟩ := hrel
    by_cases hlt : i < B.length
    · have hrl := redV_length (take_length_le HB.out i) HVL.out
      have HS := Aside0.mk (redV_succ hlt v)
      obtain ⟨ad, A1, c1, rfl, hc1, hcc, hC1⟩ := at_v (Kd.C_below HC.out HG.out) i hlt
      have hbl := HB.out _ (List.getElem_mem hlt)
      generalize redV (B.take i) v = r at *
      generalize B[i] = b at *
      obtain ⟨Ar, cr, er, _, hCr⟩ := HO.out.Cw
      subst er
      have hfst := refFirst_any A1 c1 b wr hC1 (by omega)
      by_cases hf : 0 ≤ firstW b
      · have hfl := fst_lt hf
        have hget := refGet_any Ar cr r (fst b) wr hCr (by omega)
        rw [first_pos hf] at hfst
        have HFST := Aside0.mk hfst
        have HC1 := Aside0.mk hC1
        have HCr := Aside0.mk hCr
        cases hg : getB r (fst b) with
        | true =>
          have HE := Aside0.mk (redS_yes hf hg)
          rw [hg] at hget
          have HGET := Aside0.mk hget
          have hxor := Words.refXor_any Ar A1 cr c1 r b wr hCr hC1 (by omega) (by omega)
          have HX := Aside0.mk hxor
          clear hfst hget hf hfl hg hxor hC1 hCr
          generalize fst b = f at *
          go_wp2_with (first
            | (go_at_call 22; with_reducible refine HFST.out.mono ?_; rintro e w5 ⟨rfl, rfl⟩)
            | (go_at_call 24; with_reducible refine HGET.out.mono ?_; rintro e w5 ⟨rfl, rfl⟩)
            | (go_at_call 90; with_reducible refine HX.out.mono ?_; rintro e w5 ⟨v5, rfl, hO5, hb5⟩))
          have HO5 := Aside0.mk (hO5.lower HG.out.size)
          have HG5 := Aside0.mk (bthn HG.out (Nat.le_refl _) hb5)
          clear hO5 hb5
          go_roundw
          case rel => exact ⟨i + 1, by go_num, by omega, ⟨by rw [HS.out, HE.out]; exact HO5.out⟩, HG5⟩
          case measure => simp [intOf]; omega
        | false =>
          have HE := Aside0.mk (redS_no (r := r) (b := b) (.inr hg))
          rw [hg] at hget
          have HGET := Aside0.mk hget
          clear hfst hget hf hfl hg hC1 hCr
          generalize fst b = f at *
          go_wp2_with (first
            | (go_at_call 22; with_reducible refine HFST.out.mono ?_; rintro e w5 ⟨rfl, rfl⟩)
            | (go_at_call 24; with_reducible refine HGET.out.mono ?_; rintro e w5 ⟨rfl, rfl⟩))
          go_roundw
          case rel => exact ⟨i + 1, by go_num, by omega, ⟨by rw [HS.out, HE.out]; exact HO.out⟩, HG⟩
          case measure => simp [intOf]; omega
      · have HE := Aside0.mk (redS_no (r := r) (b := b) (.inl hf))
        have HFST := Aside0.mk hfst
        generalize firstW b = q at *
        have hq : decide ((0 : Int) ≤ q) = false := decide_eq_false hf
        have hq2 : q < 0 := by omega
        clear hfst hC1 hCr hf
        go_wp2_with (first
          | (go_at_call 22; with_reducible refine HFST.out.mono ?_; rintro e w5 ⟨rfl, rfl⟩))
        go_roundw
        case rel => exact ⟨i + 1, by go_num, by omega, ⟨by rw [HS.out, HE.out]; exact HO.out⟩, HG⟩
        case measure => simp [intOf]; omega
    · have HE := Aside0.mk (List.take_of_length_le (show B.length ≤ i by omega))
      go_wp2
      go_ret
      exact ⟨_, rfl, by have := HO.out; rwa [HE.out] at this, HG.out⟩

/-! ### add, half way -/
def addS (r : Wd) (s : List Wd × Bool) (b : Wd) : List Wd × Bool := if s.2 = false ∧ firstW b > firstW r then (s.1 ++ [r] ++ [modB r b], true) else (s.1 ++ [modB r b], s.2)
def addL (r : Wd) (B : List Wd) : List Wd × Bool := B.foldl (addS r) ([], false)
theorem addL_succ {r : Wd} {B : List Wd} {i : Nat} (h : i < B.length) : addL r (B.take (i + 1)) = addS r (addL r (B.take i)) B[i] := by
  rw [addL, List.take_succ_eq_append_getElem h, List.foldl_append]; rfl
theorem add_placed (r : Wd) (B o : List Wd) : B.foldl (addS r) (o, true) = (o ++ B.map (modB r), true) := by
  induction B generalizing o with
  | nil => simp
  | cons x K ih =>
    have : addS r (o, true) x = (o ++ [modB r x], true) := by simp [addS]
    rw [List.foldl_cons, this, ih]; simp
theorem add_open (r : Wd) (B o : List Wd) : (if (B.foldl (addS r) (o, false)).2 then (B.foldl (addS r) (o, false)).1 else (B.foldl (addS r) (o, false)).1 ++ [r]) = o ++ insV r B := by
  induction B generalizing o with
  | nil => simp [insV]
  | cons x K ih =>
    rw [List.foldl_cons, insV]
    by_cases h : firstW x > firstW r
    · have : addS r (o, false) x = (o ++ [r] ++ [modB r x], true) := by simp [addS, h]
      rw [this, add_placed, if_pos h]; simp
    · have : addS r (o, false) x = (o ++ [modB r x], false) := by simp [addS, h]
      rw [this, ih, if_neg h]; simp
theorem addL_done (r : Wd) (B : List Wd) : (if (addL r B).2 then (addL r B).1 else (addL r B).1 ++ [r]) = insV r B := by
  have := add_open r B []
  rw [List.nil_append] at this
  exact this
theorem addL_length (r : Wd) (B : List Wd) : (addL r B).1.length ≤ B.length + 1 := by
  have key : ∀ (K : List Wd) (s : List Wd × Bool), (K.foldl (addS r) s).1.length + (if s.2 then 1 else 0) ≤ s.1.length + K.length + 1 := by
    intro K
    induction K with
    | nil => intro s; simp; split <;> omega
    | cons x K ih =>
      intro s
      rw [List.foldl_cons]
      have h := ih (addS r s x)
      obtain ⟨o, p⟩ := s
      cases p with
      | true =>
        have e : addS r (o, true) x = (o ++ [modB r x], true) := by simp [addS]
        rw [e] at h ⊢
        simp at h ⊢; omega
      | false =>
        by_cases hg : firstW x > firstW r
        · have e : addS r (o, false) x = (o ++ [r] ++ [modB r x], true) := by simp [addS, hg]
          rw [e] at h ⊢
          simp at h ⊢; omega
        · have e : addS r (o, false) x = (o ++ [modB r x], false) := by simp [addS, hg]
          rw [e] at h ⊢
          simp at h ⊢; omega
  have := key B ([], false)
  simp at this
  have h2 : (addL r B).1.length ≤ (B.foldl (addS r) ([], false)).1.length := Nat.le_refl _
  omega
theorem modB_yes {r b : Wd} (h : getB b (fst r) = true) : modB r b = xorW b r := if_pos h
theorem modB_no {r b : Wd} (h : getB b (fst r) = false) : modB r b = b := if_neg (by rw [h]; simp)
/-- a basis and one more, in memory: no new row -/
def okB (B : List Wd) (v : Wd) : Bool := !decide (firstW (redV B v) < 0)

set_option maxRecDepth 100000 in
set_option maxHeartbeats 4000000 in
theorem Add_any (A : Option Addr) (c : Nat) (B : List Wd) (A0 : Option Addr) (c0 : Nat) (v : Wd) (w : World) (hC : KW.C w A B.length B) (hV : Kw.C w A0 v.length v) (hB : ∀ b ∈ B, b.length ≤ 1000) (hv : v.length ≤ 1000) (hl : B.length ≤ 1000000) :
    Calls Tryd.prog 83 #[.slice A B.length c, .slice A0 v.length c0] w fun e w' =>
      ∃ s, e = .returned (.tuple #[s, .bool (okB B v)]) ∧ WsV w w' w.heap.size s (addB B v) ∧ Below w.heap.size w w' := by
  have hm := C_max hC
  have hred := Reduce_any A c B A0 c0 v w hC hV hB hv
  have hrl := redV_length hB hv
  have HC := Aside0.mk hC
  have HB := Aside0.mk hB
  have HADD := Aside0.mk (show addB B v = if firstW (redV B v) < 0 then B else insV (redV B v) B from rfl)
  have HOK := Aside0.mk (show okB B v = !decide (firstW (redV B v) < 0) from rfl)
  generalize addB B v = AB at *
  generalize okB B v = ob at *
  generalize redV B v = r at *
  have HRED := Aside0.mk hred
  clear hC hV hB hred hv
  go_enter Tryd.func83, Tryd.ntmps83
  go_wp2_with (first | (go_at_call 84; refine HRED.out.mono ?_; rintro e w1 ⟨s1, rfl, hO1, hb1⟩; obtain ⟨Ar, cr, er, _, hCr⟩ := hO1.Cw; subst er) | (go_at_call 22; refine (refFirst_any Ar cr r w1 hCr (by omega)).mono ?_; rintro e w2 ⟨rfl, rfl⟩))
  have HO1 := Aside0.mk hO1
  have HB1 := Aside0.mk hb1
  have HCr := Aside0.mk hCr
  clear hO1 hb1 hCr HRED
  by_cases hneg : firstW r < 0
  · have HE := Aside0.mk (show AB = B by rw [HADD.out, if_pos hneg])
    have HE2 := Aside0.mk (show ob = false by rw [HOK.out, decide_eq_true hneg]; rfl)
    clear HADD HOK
    generalize firstW r = q at *
    have hq0 : ¬ (0 : Int) ≤ q := by omega
    go_wp2
    go_loopw [8, 9, 10, 11] (fun s p x b wr => ∃ i : Nat, x = .int .i64 i ∧ p = .bool true ∧ i ≤ B.length ∧ Aside0 (WsV w wr w.heap.size s (B.take i)) ∧ Aside0 (Below w.heap.size w wr)) (fun _ _ x _ _ => B.length - (intOf x).toNat)
    case atStart => exact ⟨0, rfl, rfl, Nat.zero_le _, ⟨WsV.nil _ _ _⟩, HB1⟩
    case round =>
      obtain ⟨i, rfl, rfl, hi, HR, HG⟩ := hrel
      by_cases hlt : i < B.length
      · have HS := Aside0.mk (List.take_succ_eq_append_getElem hlt)
        obtain ⟨ad, A1, c1, rfl, hc1, hcc, hC1⟩ := at_v (Kd.C_below HC.out HG.out) i hlt
        have hbl := HB.out _ (List.getElem_mem hlt)
        have HLN := Aside0.mk (show (B.take i).length ≤ 1099511627776 by simp; omega)
        generalize B.take i = o at *
        generalize B[i] = b at *
        have HC1 := Aside0.mk hC1
        clear hC1
        go_upto_region 9 with (at_builtin; refine print_append_row (w0 := wr) wr.heap.size rfl _ _ 34 45 .u64 8 rfl Tryd.underlying34 info_u64 (by decide) (.slice none 0 0) [] (b.map fun x => (x.toNat : Int)) A1 b.length c1 rfl rfl (World.ownsRow_nil _ _ _ _) (readsW HC1.out) (Below.refl _ _) (Nat.le_refl _) (by simp; omega) ?_; intro v3 w3 hown hB3 _ _)
        rw [List.nil_append, numsW] at hown
        have hO3 := Own.of_row hown
        obtain ⟨A3, c3, e3, _, _⟩ := hO3.Cw
        subst e3
        have HV3 := Aside0.mk (show Vst w w3 (.slice A3 b.length c3) b from .inr (hO3.lower HG.out.size))
        have HG3 := Aside0.mk (bthn HG.out (Nat.le_refl _) hB3)
        have FR := Aside0.mk (fresh_ws (HR.out.below hB3) HV3.out HG3.out HG3.out.size)
        clear hown hB3 hO3
        go_wp2_with (first | (at_builtin; refine wpList_append_wsV rfl _ _ rfl w.heap.size _ _ rfl FR.out.1 _ b FR.out.2.1 w3.heap.size 1 rfl FR.out.2.2.2.2 FR.out.2.2.1 FR.out.2.2.2.1 HLN.out ?_; intro v' w' hR' hB' _))
        have HR2 := Aside0.mk hR'
        have HB2 := Aside0.mk hB'
        clear hR' hB'
        go_roundw
        case rel => exact ⟨i + 1, by go_num, rfl, by omega, ⟨by rw [HS.out]; exact HR2.out⟩, HB2⟩
        case measure => simp [intOf]; omega
      · have HT := Aside0.mk (List.take_of_length_le (show B.length ≤ i by omega))
        have HR2 := Aside0.mk (show WsV w wr w.heap.size u8 AB by rw [HE.out]; have := HR.out; rwa [HT.out] at this)
        go_wp2
        refine bodyPost_ret (v := .tuple #[u8, .bool false]) (by simp [results, Tryd.results83, go_sem]; omega) rfl ⟨_, by rw [HE2.out], HR2.out, HG.out⟩
  · have HE := Aside0.mk (show AB = insV r B by rw [HADD.out, if_neg hneg])
    have HE2 := Aside0.mk (show ob = true by rw [HOK.out, decide_eq_false hneg]; rfl)
    have HF := Aside0.mk (show firstW r = (fst r : Nat) from first_pos (by omega))
    have hfl := fst_lt (v := r) (by omega)
    have HFS := Aside0.mk (show ∀ (s : List Wd × Bool) (b : Wd), addS r s b = if s.2 = false ∧ firstW b > firstW r then (s.1 ++ [r] ++ [modB r b], true) else (s.1 ++ [modB r b], s.2) from fun _ _ => rfl)
    rw [HF.out] at HFS hneg ⊢
    clear HADD HOK hneg
    have HMY := Aside0.mk (fun (b : Wd) (h : getB b (fst r) = true) => modB_yes (r := r) (b := b) h)
    have HMN := Aside0.mk (fun (b : Wd) (h : getB b (fst r) = false) => modB_no (r := r) (b := b) h)
    have HADL := Aside0.mk (addL_done r B)
    generalize hfr : fst r = f at *
    clear hfr
    have hq0 : (0 : Int) ≤ (f : Int) := by omega
    have hq1 : ¬ (f : Int) < 0 := by omega
    have HVr0 := Aside0.mk (show Vst w w1 (.slice Ar r.length cr) r from .inr HO1.out)
    clear HO1
    go_wp2
    go_loopw [8, 9, 10, 11] (fun s p x b wr => ∃ i : Nat, x = .int .i64 i ∧ i ≤ B.length ∧ p = .bool (addL r (B.take i)).2 ∧ Aside0 (WsV w wr w.heap.size s (addL r (B.take i)).1) ∧ Aside0 (Vst w wr (.slice Ar r.length cr) r) ∧ Aside0 (Below w.heap.size w wr)) (fun _ _ x _ _ => B.length - (intOf x).toNat)
    case atStart => exact ⟨0, rfl, Nat.zero_le _, rfl, ⟨WsV.nil _ _ _⟩, HVr0, HB1⟩
    case round =>
      clear HVr0 HB1 HCr
      obtain ⟨i, rfl, hi, rfl, HR, HVr, HG⟩ := hrel
      have HL1 := Aside0.mk (addL_length r (B.take i))
      have HLN0 := Aside0.mk (show (addL r (B.take i)).1.length ≤ 1099511627775 from by
        have := HL1.out
        simp only [List.length_take] at this
        omega)
      by_cases hlt : i < B.length
      · have HS := Aside0.mk (addL_succ (r := r) hlt)
        obtain ⟨ad, A1, c1, rfl, hc1, hcc, hC1⟩ := at_v (Kd.C_below HC.out HG.out) i hlt
        have hbl := HB.out _ (List.getElem_mem hlt)
        generalize addL r (B.take i) = st at *
        obtain ⟨o, p⟩ := st
        generalize B[i] = b at *
        have HC1 := Aside0.mk hC1
        clear hC1
        go_upto_region 9 with (at_builtin; refine print_append_row (w0 := wr) wr.heap.size rfl _ _ 34 45 .u64 8 rfl Tryd.underlying34 info_u64 (by decide) (.slice none 0 0) [] (b.map fun x => (x.toNat : Int)) A1 b.length c1 rfl rfl (World.ownsRow_nil _ _ _ _) (readsW HC1.out) (Below.refl _ _) (Nat.le_refl _) (by simp; omega) ?_; intro v3 w3 hown hB3 _ _)
        rw [List.nil_append, numsW] at hown
        have hO3 := Own.of_row hown
        obtain ⟨A3, c3, e3, _, hC3⟩ := hO3.Cw
        subst e3
        have HVb := Aside0.mk (show Vst w w3 (.slice A3 b.length c3) b from .inr (hO3.lower HG.out.size))
        have HGc := Aside0.mk (bthn HG.out (Nat.le_refl _) hB3)
        have HRc := Aside0.mk (HR.out.below hB3)
        have HVr := Aside0.mk (HVr.out.below hB3)
        have hfst := refFirst_any A3 c3 b w3 hC3 (by omega)
        clear hown hB3 hO3 hC3 HC1 HR HG
        cases p with
        | true =>
          have HE := Aside0.mk (show addS r (o, true) b = (o ++ [modB r b], true) by simp [addS])
          have HLN := Aside0.mk (show o.length ≤ 1099511627776 from Nat.le_trans HLN0.out (by decide))
          clear hfst HFS HL1 HLN0
          obtain ⟨A3', c3', e3', _, hCb⟩ := HVb.out.C HGc.out
          cases e3'
          obtain ⟨Ar', cr', er', _, hCr⟩ := HVr.out.C HGc.out
          cases er'
          have hget := refGet_any A3 c3 b f w3 hCb (by omega)
          cases hg : getB b f with
          | true =>
            rw [hg] at hget
            have HGET := Aside0.mk hget
            have HM := Aside0.mk (HMY.out b hg)
            have hx := Words.refXor_any A3 Ar c3 cr b r w3 hCb hCr (by omega) (by omega)
            have HX := Aside0.mk hx
            clear hget hx hCb hCr hg
            go_upto_region 14 with (first
              | (go_at_call 24; with_reducible refine HGET.out.mono ?_; rintro e w7 ⟨rfl, rfl⟩)
              | (go_at_call 90; with_reducible refine HX.out.mono ?_; rintro e w5 ⟨v5, rfl, hO5, hb5⟩))
            obtain ⟨A5, c5, e5, _, _⟩ := hO5.Cw
            subst e5
            have HV5 := Aside0.mk (show Vst w w5 (.slice A5 (xorW b r).length c5) (xorW b r) from .inr (hO5.lower HGc.out.size))
            have HG5 := Aside0.mk (bthn HGc.out (Nat.le_refl _) hb5)
            have HVr5 := Aside0.mk (HVr.out.below hb5)
            have FR := Aside0.mk (fresh_ws (HRc.out.below hb5) HV5.out HG5.out HG5.out.size)
            clear hO5 hb5
            go_wp2_with (first | (at_builtin; refine wpList_append_wsV rfl _ _ rfl w.heap.size _ _ rfl FR.out.1 _ (xorW b r) FR.out.2.1 w5.heap.size 1 rfl FR.out.2.2.2.2 FR.out.2.2.1 FR.out.2.2.2.1 HLN.out ?_; intro v' w' hR' hB' hg'))
            have HR2 := Aside0.mk hR'
            have HB2 := Aside0.mk hB'
            have HVr2 := Aside0.mk (show Vst w w' (.slice Ar r.length cr) r from (HVr5.out.alloc _).move hg' FR.out.1.apart)
            clear hR' hB' hg'
            go_roundw
            case rel => exact ⟨i + 1, by go_num, by omega, by rw [HS.out, HE.out], ⟨by rw [HS.out, HE.out, HM.out]; exact HR2.out⟩, HVr2, HB2⟩
            case measure => simp [intOf]; omega
          | false =>
            rw [hg] at hget
            have HGET := Aside0.mk hget
            have HM := Aside0.mk (HMN.out b hg)
            clear hget hCb hCr hg
            have FR := Aside0.mk (fresh_ws HRc.out HVb.out HGc.out HGc.out.size)
            go_upto_region 14 with (first
              | (go_at_call 24; with_reducible refine HGET.out.mono ?_; rintro e w7 ⟨rfl, rfl⟩))
            go_wp2_with (first | (at_builtin; refine wpList_append_wsV rfl _ _ rfl w.heap.size _ _ rfl FR.out.1 _ b FR.out.2.1 w3.heap.size 1 rfl FR.out.2.2.2.2 FR.out.2.2.1 FR.out.2.2.2.1 HLN.out ?_; intro v' w' hR' hB' hg'))
            have HR2 := Aside0.mk hR'
            have HB2 := Aside0.mk hB'
            have HVr2 := Aside0.mk (show Vst w w' (.slice Ar r.length cr) r from (HVr.out.alloc _).move hg' FR.out.1.apart)
            clear hR' hB' hg'
            go_roundw
            case rel => exact ⟨i + 1, by go_num, by omega, by rw [HS.out, HE.out], ⟨by rw [HS.out, HE.out, HM.out]; exact HR2.out⟩, HVr2, HB2⟩
            case measure => simp [intOf]; omega
        | false =>
          by_cases hgt : (f : Int) < firstW b
          · have HE := Aside0.mk (show addS r (o, false) b = (o ++ [r] ++ [modB r b], true) by rw [HFS.out, if_pos ⟨rfl, hgt⟩])
            have HLN := Aside0.mk (show (o ++ [r]).length ≤ 1099511627776 from by rw [List.length_append]; have : o.length ≤ 1099511627775 := HLN0.out; simp; omega)
            have HLo := Aside0.mk (show o.length ≤ 1099511627776 from Nat.le_trans HLN0.out (by decide))
            generalize firstW b = q at *
            have hd : decide ((f : Int) < q) = true := decide_eq_true hgt
            have HFST := Aside0.mk hfst
            clear hfst HFS HL1 HLN0
            have FR := Aside0.mk (fresh_ws HRc.out HVr.out HGc.out HGc.out.size)
            go_upto_region 12 with (first
              | (go_at_call 22; with_reducible refine HFST.out.mono ?_; rintro e w7 ⟨rfl, rfl⟩)
              | (at_builtin; refine wpList_append_wsV rfl _ _ rfl w.heap.size _ _ rfl FR.out.1 _ r FR.out.2.1 w3.heap.size 1 rfl FR.out.2.2.2.2 FR.out.2.2.1 FR.out.2.2.2.1 HLo.out ?_; intro v' w' hR' hB' hg'))
            have HRc := Aside0.mk hR'
            have HGc := Aside0.mk hB'
            have HVb := Aside0.mk (show Vst w w' (.slice A3 b.length c3) b from (HVb.out.alloc _).move hg' FR.out.1.apart)
            have HVr := Aside0.mk (show Vst w w' (.slice Ar r.length cr) r from (HVr.out.alloc _).move hg' FR.out.1.apart)
            clear hR' hB' hg' HFST FR
            generalize hwc : w' = wc at *
            clear hwc
            obtain ⟨A3', c3', e3', _, hCb⟩ := HVb.out.C HGc.out
            cases e3'
            obtain ⟨Ar', cr', er', _, hCr⟩ := HVr.out.C HGc.out
            cases er'
            have hget := refGet_any A3 c3 b f wc hCb (by omega)
            cases hg : getB b f with
            | true =>
              rw [hg] at hget
              have HGET := Aside0.mk hget
              have HM := Aside0.mk (HMY.out b hg)
              have hx := Words.refXor_any A3 Ar c3 cr b r wc hCb hCr (by omega) (by omega)
              have HX := Aside0.mk hx
              clear hget hx hCb hCr hg
              go_upto_region 14 with (first
                | (go_at_call 24; with_reducible refine HGET.out.mono ?_; rintro e w7 ⟨rfl, rfl⟩)
                | (go_at_call 90; with_reducible refine HX.out.mono ?_; rintro e w5 ⟨v5, rfl, hO5, hb5⟩))
              obtain ⟨A5, c5, e5, _, _⟩ := hO5.Cw
              subst e5
              have HV5 := Aside0.mk (show Vst w w5 (.slice A5 (xorW b r).length c5) (xorW b r) from .inr (hO5.lower HGc.out.size))
              have HG5 := Aside0.mk (bthn HGc.out (Nat.le_refl _) hb5)
              have HVr5 := Aside0.mk (HVr.out.below hb5)
              have FR := Aside0.mk (fresh_ws (HRc.out.below hb5) HV5.out HG5.out HG5.out.size)
              clear hO5 hb5
              go_wp2_with (first | (at_builtin; refine wpList_append_wsV rfl _ _ rfl w.heap.size _ _ rfl FR.out.1 _ (xorW b r) FR.out.2.1 w5.heap.size 1 rfl FR.out.2.2.2.2 FR.out.2.2.1 FR.out.2.2.2.1 HLN.out ?_; intro v' w' hR' hB' hg'))
              have HR2 := Aside0.mk hR'
              have HB2 := Aside0.mk hB'
              have HVr2 := Aside0.mk (show Vst w w' (.slice Ar r.length cr) r from (HVr5.out.alloc _).move hg' FR.out.1.apart)
              clear hR' hB' hg'
              go_roundw
              case rel => exact ⟨i + 1, by go_num, by omega, by rw [HS.out, HE.out], ⟨by rw [HS.out, HE.out, HM.out]; exact HR2.out⟩, HVr2, HB2⟩
              case measure => simp [intOf]; omega
            | false =>
              rw [hg] at hget
              have HGET := Aside0.mk hget
              have HM := Aside0.mk (HMN.out b hg)
              clear hget hCb hCr hg
              have FR := Aside0.mk (fresh_ws HRc.out HVb.out HGc.out HGc.out.size)
              go_upto_region 14 with (first
                | (go_at_call 24; with_reducible refine HGET.out.mono ?_; rintro e w7 ⟨rfl, rfl⟩))
              go_wp2_with (first | (at_builtin; refine wpList_append_wsV rfl _ _ rfl w.heap.size _ _ rfl FR.out.1 _ b FR.out.2.1 wc.heap.size 1 rfl FR.out.2.2.2.2 FR.out.2.2.1 FR.out.2.2.2.1 HLN.out ?_; intro v' w' hR' hB' hg'))
              have HR2 := Aside0.mk hR'
              have HB2 := Aside0.mk hB'
              have HVr2 := Aside0.mk (show Vst w w' (.slice Ar r.length cr) r from (HVr.out.alloc _).move hg' FR.out.1.apart)
              clear hR' hB' hg'
              go_roundw
              case rel => exact ⟨i + 1, by go_num, by omega, by rw [HS.out, HE.out], ⟨by rw [HS.out, HE.out, HM.out]; exact HR2.out⟩, HVr2, HB2⟩
              case measure => simp [intOf]; omega
          · have HE := Aside0.mk (show addS r (o, false) b = (o ++ [modB r b], false) by rw [HFS.out, if_neg (fun h => hgt h.2)])
            have HLN := Aside0.mk (show o.length ≤ 1099511627776 from Nat.le_trans HLN0.out (by decide))
            generalize firstW b = q at *
            have hd : decide ((f : Int) < q) = false := decide_eq_false hgt
            have HFST := Aside0.mk hfst
            clear hfst HFS HL1 HLN0
            obtain ⟨A3', c3', e3', _, hCb⟩ := HVb.out.C HGc.out
            cases e3'
            obtain ⟨Ar', cr', er', _, hCr⟩ := HVr.out.C HGc.out
            cases er'
            have hget := refGet_any A3 c3 b f w3 hCb (by omega)
            cases hg : getB b f with
            | true =>
              rw [hg] at hget
              have HGET := Aside0.mk hget
              have HM := Aside0.mk (HMY.out b hg)
              have hx := Words.refXor_any A3 Ar c3 cr b r w3 hCb hCr (by omega) (by omega)
              have HX := Aside0.mk hx
              clear hget hx hCb hCr hg
              go_upto_region 14 with (first
                | (go_at_call 22; with_reducible refine HFST.out.mono ?_; rintro e w7 ⟨rfl, rfl⟩)
                | (go_at_call 24; with_reducible refine HGET.out.mono ?_; rintro e w7 ⟨rfl, rfl⟩)
                | (go_at_call 90; with_reducible refine HX.out.mono ?_; rintro e w5 ⟨v5, rfl, hO5, hb5⟩))
              obtain ⟨A5, c5, e5, _, _⟩ := hO5.Cw
              subst e5
              have HV5 := Aside0.mk (show Vst w w5 (.slice A5 (xorW b r).length c5) (xorW b r) from .inr (hO5.lower HGc.out.size))
              have HG5 := Aside0.mk (bthn HGc.out (Nat.le_refl _) hb5)
              have HVr5 := Aside0.mk (HVr.out.below hb5)
              have FR := Aside0.mk (fresh_ws (HRc.out.below hb5) HV5.out HG5.out HG5.out.size)
              clear hO5 hb5
              go_wp2_with (first | (at_builtin; refine wpList_append_wsV rfl _ _ rfl w.heap.size _ _ rfl FR.out.1 _ (xorW b r) FR.out.2.1 w5.heap.size 1 rfl FR.out.2.2.2.2 FR.out.2.2.1 FR.out.2.2.2.1 HLN.out ?_; intro v' w' hR' hB' hg'))
              have HR2 := Aside0.mk hR'
              have HB2 := Aside0.mk hB'
              have HVr2 := Aside0.mk (show Vst w w' (.slice Ar r.length cr) r from (HVr5.out.alloc _).move hg' FR.out.1.apart)
              clear hR' hB' hg'
              go_roundw
              case rel => exact ⟨i + 1, by go_num, by omega, by rw [HS.out, HE.out], ⟨by rw [HS.out, HE.out, HM.out]; exact HR2.out⟩, HVr2, HB2⟩
              case measure => simp [intOf]; omega
            | false =>
              rw [hg] at hget
              have HGET := Aside0.mk hget
              have HM := Aside0.mk (HMN.out b hg)
              clear hget hCb hCr hg
              have FR := Aside0.mk (fresh_ws HRc.out HVb.out HGc.out HGc.out.size)
              go_upto_region 14 with (first
                | (go_at_call 22; with_reducible refine HFST.out.mono ?_; rintro e w7 ⟨rfl, rfl⟩)
                | (go_at_call 24; with_reducible refine HGET.out.mono ?_; rintro e w7 ⟨rfl, rfl⟩))
              go_wp2_with (first | (at_builtin; refine wpList_append_wsV rfl _ _ rfl w.heap.size _ _ rfl FR.out.1 _ b FR.out.2.1 w3.heap.size 1 rfl FR.out.2.2.2.2 FR.out.2.2.1 FR.out.2.2.2.1 HLN.out ?_; intro v' w' hR' hB' hg'))
              have HR2 := Aside0.mk hR'
              have HB2 := Aside0.mk hB'
              have HVr2 := Aside0.mk (show Vst w w' (.slice Ar r.length cr) r from (HVr.out.alloc _).move hg' FR.out.1.apart)
              clear hR' hB' hg'
              go_roundw
              case rel => exact ⟨i + 1, by go_num, by omega, by rw [HS.out, HE.out], ⟨by rw [HS.out, HE.out, HM.out]; exact HR2.out⟩, HVr2, HB2⟩
              case measure => simp [intOf]; omega
      · obtain rfl : i = B.length := by omega
        rw [List.take_length] at HR HLN0 ⊢
        generalize addL r B = st at *
        obtain ⟨o, p⟩ := st
        cases p with
        | true =>
          have HD := Aside0.mk (show o = AB from (show o = insV r B from HADL.out).trans HE.out.symm)
          have HR2 := Aside0.mk (show WsV w wr w.heap.size u8 AB by rw [← HD.out]; exact HR.out)
          go_wp2
          refine bodyPost_ret (v := .tuple #[u8, .bool true]) (by simp [results, Tryd.results83, go_sem]) rfl ⟨_, by rw [HE2.out], HR2.out, HG.out⟩
        | false =>
          have HD := Aside0.mk (show o ++ [r] = AB from (show o ++ [r] = insV r B from HADL.out).trans HE.out.symm)
          have HLN := Aside0.mk (show o.length ≤ 1099511627776 from Nat.le_trans HLN0.out (by decide))
          have FR := Aside0.mk (fresh_ws HR.out HVr.out HG.out HG.out.size)
          go_wp2_with (first | (at_builtin; refine wpList_append_wsV rfl _ _ rfl w.heap.size _ _ rfl FR.out.1 _ r FR.out.2.1 wr.heap.size 1 rfl FR.out.2.2.2.2 FR.out.2.2.1 FR.out.2.2.2.1 HLN.out ?_; intro v' w' hR' hB' _))
          have HR2 := Aside0.mk (show WsV w w' w.heap.size v' AB by rw [← HD.out]; exact hR')
          have HB2 := Aside0.mk hB'
          clear hR' hB'
          refine bodyPost_ret (v := .tuple #[v', .bool true]) (by simp [results, Tryd.results83, go_sem]) rfl ⟨_, by rw [HE2.out], HR2.out, HB2.out⟩

end Go.Proofs.YtnfabflkajpkfaaDoor.Ech3
