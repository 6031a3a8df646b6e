/- The reference's basis and rank, and the rank of rows: the walks. No condition. -/
import Derived.Test.YtnfabflkajpkfaaDoorEch3
import Derived.Test.YtnfabflkajpkfaaDoorKinds
namespace Go.Proofs.YtnfabflkajpkfaaDoor.Ech3B
open Go Go.RowKit Go.Proofs.YtnfabflkajpkfaaDoorW.PrintWords Go.Proofs.YtnfabflkajpkfaaDoor.Base Go.Proofs.YtnfabflkajpkfaaDoor.Bits Go.Proofs.YtnfabflkajpkfaaDoor.BitsN Go.Proofs.YtnfabflkajpkfaaDoor.Kinds Go.Proofs.YtnfabflkajpkfaaDoor.Words Go.Proofs.YtnfabflkajpkfaaDoor.Rows2 Go.Proofs.YtnfabflkajpkfaaDoor.Span Go.Proofs.YtnfabflkajpkfaaDoor.Wss Go.Proofs.YtnfabflkajpkfaaDoor.Ech3
set_option linter.unusedVariables false
set_option linter.unusedSimpArgs false

theorem modB_len {M : Nat} {r b : Wd} (hr : r.length ≤ M) (hb : b.length ≤ M) : (modB r b).length ≤ M := by
  unfold modB
  split
  · rw [xorW_length]; omega
  · exact hb
theorem addB_len {M : Nat} {B : List Wd} (hB : ∀ b ∈ B, b.length ≤ M) {v : Wd} (hv : v.length ≤ M) : ∀ b ∈ addB B v, b.length ≤ M := by
  have hr := redV_length hB hv
  intro b hb
  unfold addB at hb
  split at hb
  · exact hB b hb
  · rcases mem_insV.1 hb with rfl | ⟨a, ha, rfl⟩
    · exact hr
    · exact modB_len hr (hB a ha)
theorem insV_size (r : Wd) (B : List Wd) : (insV r B).length = B.length + 1 := by
  induction B with
  | nil => rfl
  | cons b B ih =>
    rw [insV]
    split
    · simp
    · simp [ih]
theorem addB_size (B : List Wd) (v : Wd) : (addB B v).length ≤ B.length + 1 := by
  unfold addB
  split
  · omega
  · rw [insV_size]; omega
theorem basis_succ {l : List Wd} {i : Nat} (h : i < l.length) : basisL (l.take (i + 1)) = addB (basisL (l.take i)) l[i] := by
  rw [basisL, List.take_succ_eq_append_getElem h, List.foldl_append]; rfl
theorem basis_len {M : Nat} {l : List Wd} (hl : ∀ v ∈ l, v.length ≤ M) : ∀ b ∈ basisL l, b.length ≤ M := by
  have key : ∀ (l : List Wd) (B : List Wd), (∀ v ∈ l, v.length ≤ M) → (∀ b ∈ B, b.length ≤ M) → ∀ b ∈ l.foldl addB B, b.length ≤ M := by
    intro l
    induction l with
    | nil => intro B _ h; exact h
    | cons v l ih => intro B h1 h2; exact ih _ (fun x hx => h1 x (by simp [hx])) (addB_len h2 (h1 v (by simp)))
  exact key l [] hl (by simp)
theorem basis_size (l : List Wd) : (basisL l).length ≤ l.length := by
  have key : ∀ (l B : List Wd), (l.foldl addB B).length ≤ B.length + l.length := by
    intro l
    induction l with
    | nil => intro B; simp
    | cons v l ih =>
      intro B
      have h1 := ih (addB B v)
      have h2 := addB_size B v
      rw [List.foldl_cons, List.length_cons]
      omega
  have := key l []
  simpa [basisL] using this

set_option maxHeartbeats 1000000 in
theorem Basis_any (A : Option Addr) (c : Nat) (l : List Wd) (w : World) (hC : KW.C w A l.length l) (hl : ∀ v ∈ l, v.length ≤ 1000) (hn : l.length ≤ 1000000) :
    Calls Tryd.prog 77 #[.slice A l.length c] w fun e w' =>
      ∃ A' c', e = .returned (.slice A' (basisL l).length c') ∧ KW.C w' A' (basisL l).length (basisL l) ∧ Below w.heap.size w w' := by
  have hm := C_max hC
  have HC := Aside0.mk hC
  have HL := Aside0.mk hl
  clear hC hl
  go_enter Tryd.func77, Tryd.ntmps77
  go_wp2
  go_loopw [3, 4] (fun s x wr => ∃ (i : Nat) (A' : Option Addr) (c' : Nat), x = .int .i64 i ∧ i ≤ l.length ∧ s = .slice A' (basisL (l.take i)).length c' ∧ Aside0 (KW.C wr A' (basisL (l.take i)).length (basisL (l.take i))) ∧ Aside0 (Below w.heap.size w wr)) (fun _ x _ => l.length - (intOf x).toNat)
  case atStart => exact ⟨0, none, 0, rfl, Nat.zero_le _, rfl, ⟨rfl, show (0 : Nat) ≤ 9223372036854775807 by decide, fun h => absurd (show 0 < 0 from h) (by decide)⟩, ⟨Below.refl _ _⟩⟩
  case round =>
    obtain ⟨i, A', c', rfl, hi, rfl, HK, HG⟩ := hrel
    by_cases hlt : i < l.length
    · have HS := Aside0.mk (basis_succ hlt)
      have hbl := basis_len (M := 1000) (l := l.take i) (fun v hv => HL.out v (List.mem_of_mem_take hv))
      have hbs : (basisL (l.take i)).length ≤ 1000000 := Nat.le_trans (basis_size _) (by simp; omega)
      obtain ⟨ad, A1, c1, rfl, hc1, hcc, hC1⟩ := at_v (Kd.C_below HC.out HG.out) i hlt
      have hvl := HL.out _ (List.getElem_mem hlt)
      generalize basisL (l.take i) = B at *
      generalize l[i] = v at *
      have hadd := Add_any A' c' B A1 c1 v wr HK.out hC1 hbl hvl hbs
      generalize addB B v = AB at *
      have HADD := Aside0.mk hadd
      clear hadd hC1 hbl hvl hbs
      go_wp2_with (first | (go_at_call 83; with_reducible refine HADD.out.mono ?_; rintro e w5 ⟨s5, rfl, hW5, hb5⟩))
      obtain ⟨A5, c5, e5, _, hC5⟩ := hW5.C hb5
      subst e5
      have HK5 := Aside0.mk hC5
      have HG5 := Aside0.mk (bthn HG.out (Nat.le_refl _) hb5)
      clear hW5 hb5 hC5
      go_roundw
      case rel => exact ⟨i + 1, A5, c5, by go_num, by omega, by rw [HS.out], ⟨by rw [HS.out]; exact HK5.out⟩, HG5⟩
      case measure => simp [intOf]; omega
    · have HE := Aside0.mk (List.take_of_length_le (show l.length ≤ i by omega))
      go_wp2
      go_ret
      exact ⟨A', c', by rw [HE.out]; rfl, by have := HK.out; rwa [HE.out] at this, HG.out⟩

set_option maxHeartbeats 1000000 in
theorem Rank_any (A : Option Addr) (c : Nat) (l : List Wd) (w : World) (hC : KW.C w A l.length l) (hl : ∀ v ∈ l, v.length ≤ 1000) (hn : l.length ≤ 1000000) :
    Calls Tryd.prog 53 #[.slice A l.length c] w fun e w' => e = .returned (.int .i64 (basisL l).length) ∧ Below w.heap.size w w' := by
  have hm := C_max hC
  have hb := Basis_any A c l w hC hl hn
  generalize basisL l = B at *
  have HB := Aside0.mk hb
  clear hb hC hl
  go_enter Tryd.func53, Tryd.ntmps53
  go_wp2_with (first | (go_at_call 77; with_reducible refine HB.out.mono ?_; rintro e w5 ⟨A5, c5, rfl, hC5, hb5⟩))
  go_ret
  exact ⟨rfl, hb5⟩

set_option maxHeartbeats 1000000 in
theorem rank_any (A : Option Addr) (c : Nat) (rows : List RowL) (w : World) (hC : KRow.C w A rows.length rows) (hl : ∀ r ∈ rows, r.vec.length ≤ 1000) (hn : rows.length ≤ 1000000) :
    Calls Tryd.prog 26 #[.slice A rows.length c] w fun e w' => e = .returned (.int .i64 (basisL (rows.map (·.vec))).length) ∧ Below w.heap.size w w' := by
  have hm := C_max hC
  have HC := Aside0.mk hC
  have HL := Aside0.mk hl
  clear hC hl
  go_enter Tryd.func26, Tryd.ntmps26
  go_wp2
  go_loopw [3, 4] (fun s x wr => ∃ i : Nat, x = .int .i64 i ∧ i ≤ rows.length ∧ Aside0 (WsV w wr w.heap.size s ((rows.take i).map (·.vec))) ∧ Aside0 (Below w.heap.size w wr)) (fun _ x _ => rows.length - (intOf x).toNat)
  case atStart => exact ⟨0, rfl, Nat.zero_le _, ⟨WsV.nil _ _ _⟩, ⟨Below.refl _ _⟩⟩
  case round =>
    obtain ⟨i, rfl, hi, HR, HG⟩ := hrel
    by_cases hlt : i < rows.length
    · obtain ⟨ad, A0, c0, rfl, hd1, hd2, hcc, hCk⟩ := at_row HC.out i hlt
      have hc1 := pw_cell_below HG.out hd1
      have HV := Aside0.mk (show Vst w wr (.slice A0 (rows[i]).vec.length c0) (rows[i]).vec from .inl ⟨_, _, rfl, hcc, hCk⟩)
      have HS := Aside0.mk (show (rows.take (i + 1)).map (·.vec) = (rows.take i).map (·.vec) ++ [(rows[i]).vec] by rw [List.take_succ_eq_append_getElem hlt, List.map_append]; rfl)
      have HLN := Aside0.mk (show ((rows.take i).map (·.vec)).length ≤ 1099511627776 by simp; omega)
      have FR := Aside0.mk (fresh_ws HR.out HV.out HG.out HG.out.size)
      clear hCk hd1 hd2
      go_wp2_with (first | (at_builtin; refine wpList_append_wsV rfl _ _ rfl w.heap.size _ _ rfl FR.out.1 _ (rows[i]).vec FR.out.2.1 wr.heap.size 1 rfl FR.out.2.2.2.2 FR.out.2.2.1 FR.out.2.2.2.1 HLN.out ?_; intro v' w' hR' hB' _))
      have HR2 := Aside0.mk hR'
      have HB2 := Aside0.mk hB'
      clear hR' hB'
      go_roundw
      case rel => exact ⟨i + 1, by go_num, by omega, ⟨by rw [HS.out]; exact HR2.out⟩, HB2⟩
      case measure => simp [intOf]; omega
    · obtain ⟨A5, c5, e5, _, hC5⟩ := HR.out.C HG.out
      rw [List.take_of_length_le (show rows.length ≤ i by omega)] at e5 hC5
      subst e5
      have hrk := Rank_any A5 c5 (rows.map (·.vec)) wr hC5 (fun v hv => by obtain ⟨x, hx, rfl⟩ := List.mem_map.1 hv; exact HL.out x hx) (by simp; omega)
      rw [List.length_map] at hrk
      have HK := Aside0.mk hrk
      clear hrk hC5 HR
      go_wp2_with (first | (go_at_call 53; with_reducible refine HK.out.mono ?_; rintro e w5 ⟨rfl, hb5⟩))
      go_ret
      exact ⟨rfl, bthn HG.out (Nat.le_refl _) hb5⟩

end Go.Proofs.YtnfabflkajpkfaaDoor.Ech3B
