/- Rows that are: slices.DeleteFunc with peel.Valid's closure, peel.Valid. No condition. -/
import Derived.Test.YtnfabflkajpkfaaDoorRowsA
import Derived.Test.YtnfabflkajpkfaaDoorOwnZ
import Derived.Deep.MidRow
namespace Go.Proofs.YtnfabflkajpkfaaDoor.Delete
open Go Go.RowKit Go.Proofs.YtnfabflkajpkfaaDoorW.PrintWords Go.Proofs.YtnfabflkajpkfaaDoor.Base Go.Proofs.YtnfabflkajpkfaaDoor.Kinds Go.Proofs.YtnfabflkajpkfaaDoor.Words Go.Proofs.YtnfabflkajpkfaaDoor.PeelP Go.Proofs.YtnfabflkajpkfaaDoor.Rows2 Go.Proofs.YtnfabflkajpkfaaDoor.WordsP Go.Proofs.YtnfabflkajpkfaaDoor.Valid Go.Proofs.YtnfabflkajpkfaaDoor.RowsA Go.Proofs.YtnfabflkajpkfaaDoor.OwnZ
set_option linter.unusedVariables false
set_option linter.unusedSimpArgs false

/-- a row at a place of a block -/
def RAt (w0 w : World) (g m : Nat) (r : RowL) : Prop := ∃ s, w.cell? ⟨g, m * 2, none⟩ = some s ∧ w.cell? ⟨g, m * 2 + 1, none⟩ = some (.string r.data) ∧ Vst w0 w s r.vec
def Blk (w : World) (g n : Nat) : Prop := ∃ cur, w.heap[g]? = some (.cells cur 36 (0, 0)) ∧ n ≤ cur.size
theorem Blk.lt {w : World} {g n : Nat} (h : Blk w g n) : g < w.heap.size := by
  obtain ⟨cur, h1, _⟩ := h
  exact (Array.getElem?_eq_some_iff.1 h1).1
theorem Blk.notW {w : World} {g n : Nat} (h : Blk w g n) : notW w (some g) := by
  obtain ⟨cur, h1, _⟩ := h
  exact notW_typed h1 (by decide)
theorem Blk.there {w : World} {g n : Nat} (h : Blk w g n) {o m : Nat} (hm : o + m ≤ n) : w.there g o m := by
  obtain ⟨cur, h1, h2⟩ := h
  intro j hj
  exact ⟨by simp [World.cell?, h1]; omega, by simp [World.frozen?, h1]⟩
theorem Blk.below {w w' : World} {g n : Nat} (h : Blk w g n) (hb : Below w.heap.size w w') : Blk w' g n := by
  have hl := h.lt
  obtain ⟨cur, h1, h2⟩ := h
  exact ⟨cur, (hb.block g hl).trans h1, h2⟩
theorem Blk.set {w : World} {g n : Nat} (h : Blk w g n) {o : Nat} {vs : List Value} (hf : o + vs.length ≤ n) : Blk (w.setCells g o vs) g n ∧ w.grownBy (w.setCells g o vs) (some g) := by
  obtain ⟨cur, h1, h2⟩ := h
  obtain ⟨cur', k3, k4, k5⟩ := setCells_row_fr vs o w cur h1 (by omega)
  obtain ⟨s1, s2, s3, s4⟩ := setCells_same g vs o w
  exact ⟨⟨cur', k3, by omega⟩, ⟨s1, s2, s3, by rw [s4]; exact Nat.le_refl _, fun k _ hk => setCells_far vs _ k (fun e => hk (by rw [e]))⟩⟩
theorem RAt.below {w0 w w' : World} {g m : Nat} {r : RowL} (h : RAt w0 w g m r) (hb : Below w.heap.size w w') : RAt w0 w' g m r := by
  obtain ⟨s, h1, h2, h3⟩ := h
  exact ⟨s, pw_cell_below hb h1, pw_cell_below hb h2, h3.below hb⟩
theorem RAt.set {w0 w : World} {g m n : Nat} {r : RowL} (h : RAt w0 w g m r) (hB : Blk w g n) {o : Nat} {vs : List Value} (hf : o + vs.length ≤ n) (ho : m * 2 + 1 < o ∨ o + vs.length ≤ m * 2) : RAt w0 (w.setCells g o vs) g m r := by
  obtain ⟨s, h1, h2, h3⟩ := h
  refine ⟨s, ?_, ?_, h3.move (hB.set hf).2 hB.notW⟩
  · rw [World.cell?_setCells_out g vs o w _ (fun _ _ => by rcases ho with h | h <;> (first | (left; show m * 2 < o; omega) | (right; exact h)))]; exact h1
  · rw [World.cell?_setCells_out g vs o w _ (fun _ _ => by rcases ho with h | h <;> (first | (left; exact h) | (right; show o + vs.length ≤ m * 2 + 1; omega)))]; exact h2
theorem RAt.new {w0 w : World} {g m n : Nat} {r : RowL} {s : Value} (hB : Blk w g n) (hf : m * 2 + 2 ≤ n) (hs : Vst w0 w s r.vec) : RAt w0 (w.setCells g (m * 2) [s, .string r.data]) g m r := by
  have ht := hB.there (o := m * 2) (m := 2) hf
  have hin := World.cell?_setCells_in g [s, .string r.data] (m * 2) w (fun j hj => (ht j (by simpa using hj)).1)
  exact ⟨s, hin 0 (by simp), hin 1 (by simp), hs.move (hB.set (vs := [s, .string r.data]) hf).2 hB.notW⟩
theorem RAt_of {w0 w : World} {base : Nat} {g n c : Nat} {rows : List RowL} (h : RowsV w0 w base (.slice (some ⟨g, 0, none⟩) n c) rows) : n = rows.length ∧ base ≤ g ∧ Blk w g (n * 2) ∧ ∀ m r, rows[m]? = some r → RAt w0 w g m r := by
  obtain ⟨ss, h1, h2, h3⟩ := h
  have hfl := flatR_length ss rows h1
  rcases h2.2 with ⟨he, _⟩ | ⟨g', cap, cur, he, hg, hh, hc, hm, hsz, htk⟩
  · cases he
  · injection he with e1 e2 e3
    injection e1 with e1
    injection e1 with e1
    subst e1 e2 e3
    have hcell : ∀ m x, (flatR ss rows)[m]? = some x → w.cell? ⟨g, m, none⟩ = some x := by
      intro m x hmx
      have hml := (List.getElem?_eq_some_iff.1 hmx).1
      rw [cell_of_row w g m cur _ _ hh]
      rw [← htk, List.getElem?_take] at hmx
      split at hmx
      · simpa using hmx
      · cases hmx
    refine ⟨rfl, hg, ⟨cur, hh, by rw [hsz]; omega⟩, fun m r hr => ?_⟩
    obtain ⟨hml, hmr⟩ := List.getElem?_eq_some_iff.1 hr
    obtain ⟨s, hs, hv⟩ := h3 m hml
    obtain ⟨f1, f2⟩ := flatR_at ss rows m h1 hml
    subst hmr
    exact ⟨s, hcell _ _ (by rw [f1]; exact hs), hcell _ _ f2, hv⟩
theorem KRow_of {w0 w : World} {g : Nat} {rows : List RowL} (hb : Below w0.heap.size w0 w) (hl : rows.length ≤ 9223372036854775807) (h : ∀ m r, rows[m]? = some r → RAt w0 w g m r) : KRow.C w (some ⟨g, 0, none⟩) rows.length rows := by
  refine ⟨rfl, hl, fun _ => ⟨_, rfl, fun m r hr => ?_⟩⟩
  obtain ⟨s, h1, h2, hv⟩ := h m r hr
  obtain ⟨A, c, rfl, hcc, hC⟩ := hv.C hb
  have hadd : ∀ m, (⟨g, 0, none⟩ : Addr).add m = ⟨g, m, none⟩ := fun m => by unfold Addr.add; split <;> simp_all
  refine ⟨_, rfl, KRow_mk hcc hC, fun j u hj => ?_⟩
  have hsz2 : KRow.sz = 2 := rfl
  match j, hj with
  | 0, hj =>
    have hu : u = .slice A r.vec.length c := by simpa using hj.symm
    rw [hsz2, hadd, hu]; exact h1
  | 1, hj =>
    have hu : u = .string r.data := by simpa using hj.symm
    rw [hsz2, hadd, hu]; exact h2

/-- clear: the rows are nought -/
theorem run_clear_rows (w : World) (ty : TypeId) (g o m c : Nat) (ht : w.there g o (m * 2)) :
    ∃ vs : List Value, vs.length = m * 2 ∧ (Builtin.clear_ #[22] ty #[.slice (some ⟨g, o, none⟩) m c]).run Tryd.prog w = .ok (.tuple #[]) (w.setCells g o vs) := by
  obtain ⟨i0, hi, hz0, hz1, hz2⟩ := rows_parts info_row
  have hv : ∀ w, (zeroValue 36).run Tryd.prog w = .ok (.agg #[.slice none 0 0, .string ⟨#[]⟩]) w := fun w => by simp [zeroValue, typeInfo, hi, hz0]
  have hsz : (Builtin.zeroCells (Value.agg #[.slice none 0 0, .string ⟨#[]⟩]).cells m).size = m * 2 := by rw [size_zeroCells]; rfl
  have h1 : ∀ v ∈ (Builtin.zeroCells (Value.agg #[.slice none 0 0, .string ⟨#[]⟩]).cells m).toList, v.oneCell' = true := by
    intro v hv
    simp only [Builtin.zeroCells, Value.cells] at hv
    obtain ⟨i, hi', e⟩ := List.getElem_of_mem hv
    simp at e
    rw [← e]
    rcases Nat.mod_two_eq_zero_or_one i with h | h <;> simp [h, Value.oneCell']
  refine ⟨(Builtin.zeroCells (Value.agg #[.slice none 0 0, .string ⟨#[]⟩]).cells m).toList, by simpa using hsz, ?_⟩
  have hst := run_storeCells_cells (P := Tryd.prog) g o _ 0 w (fun j hj => by simpa using (ht j (by rw [Array.length_toList, hsz] at hj; exact hj)).1) (fun j hj => by simpa using (ht j (by rw [Array.length_toList, hsz] at hj; exact hj)).2) h1
  simp only [Nat.add_zero] at hst
  cases m with
  | zero => simp [Builtin.clear_, run_underlying Tryd.underlying22, Builtin.zeroCells, World.setCells]
  | succ m => simp [Builtin.clear_, run_underlying Tryd.underlying22, hv, hst]

/-- how far it has come -/
def DInv (w0 w : World) (g : Nat) (k : Int) (rows : List RowL) (i j : Nat) : Prop :=
  i < j ∧ j ≤ rows.length ∧ i = (validL k (rows.take j)).length ∧ (∀ m r, (validL k (rows.take j))[m]? = some r → RAt w0 w g m r) ∧ (∀ m r, j ≤ m → rows[m]? = some r → RAt w0 w g m r) ∧ Blk w g (rows.length * 2)
theorem take_snoc (rows : List RowL) (j : Nat) (h : j < rows.length) : rows.take (j + 1) = rows.take j ++ [rows[j]] := by simp
theorem validL_yes {k : Int} {rows : List RowL} {j : Nat} (h : j < rows.length) (hv : validW k (rows[j]).vec = true) : validL k (rows.take (j + 1)) = validL k (rows.take j) ++ [rows[j]] := by
  rw [take_snoc rows j h, validL, validL, List.filter_append]; simp [hv]
theorem validL_no {k : Int} {rows : List RowL} {j : Nat} (h : j < rows.length) (hv : validW k (rows[j]).vec = false) : validL k (rows.take (j + 1)) = validL k (rows.take j) := by
  rw [take_snoc rows j h, validL, validL, List.filter_append]; simp [hv]
theorem validL_all {k : Int} {rows : List RowL} (h : ∀ j (hj : j < rows.length), validW k (rows[j]).vec = true) : validL k rows = rows := by
  rw [validL, List.filter_eq_self]
  intro r hr
  obtain ⟨j, hj, e⟩ := List.getElem_of_mem hr
  rw [← e]; exact h j hj
theorem DInv.below {w0 w w' : World} {g : Nat} {k : Int} {rows : List RowL} {i j : Nat} (h : DInv w0 w g k rows i j) (hb : Below w.heap.size w w') : DInv w0 w' g k rows i j := by
  obtain ⟨h0, h1, h2, h3, h4, h5⟩ := h
  exact ⟨h0, h1, h2, fun m r hr => (h3 m r hr).below hb, fun m r hm hr => (h4 m r hm hr).below hb, h5.below hb⟩
theorem DInv.start {w0 w : World} {g : Nat} {k : Int} {rows : List RowL} {i : Nat} (hR : ∀ m r, rows[m]? = some r → RAt w0 w g m r) (hB : Blk w g (rows.length * 2)) (hi : i < rows.length) (hv : validW k (rows[i]).vec = false) (hl : ∀ j (hj : j < rows.length), j < i → validW k (rows[j]).vec = true) : DInv w0 w g k rows i (i + 1) := by
  have e : validL k (rows.take (i + 1)) = rows.take i := by
    rw [validL_no hi hv]
    exact validL_all fun j hj => by
      have hj' : j < i := by simp at hj; omega
      rw [List.getElem_take]; exact hl j (by omega) hj'
  refine ⟨by omega, by omega, by rw [e]; simp; omega, fun m r hr => ?_, fun m r _ hr => hR m r hr, hB⟩
  rw [e] at hr
  refine hR m r ?_
  rw [List.getElem?_take] at hr
  split at hr
  · exact hr
  · cases hr
theorem DInv.skip {w0 w : World} {g : Nat} {k : Int} {rows : List RowL} {i j : Nat} (h : DInv w0 w g k rows i j) (hj : j < rows.length) (hv : validW k (rows[j]).vec = false) : DInv w0 w g k rows i (j + 1) := by
  obtain ⟨h0, h1, h2, h3, h4, h5⟩ := h
  have e := validL_no hj hv
  exact ⟨by omega, by omega, by rw [e]; exact h2, by rw [e]; exact h3, fun m r hm hr => h4 m r (by omega) hr, h5⟩
theorem DInv.keep {w0 w : World} {g : Nat} {k : Int} {rows : List RowL} {i j : Nat} {s : Value} (h : DInv w0 w g k rows i j) (hj : j < rows.length) (hv : validW k (rows[j]).vec = true) (hs : Vst w0 w s (rows[j]).vec) :
    DInv w0 (w.setCells g (i * 2) [s, .string (rows[j]).data]) g k rows (i + 1) (j + 1) ∧ w.grownBy (w.setCells g (i * 2) [s, .string (rows[j]).data]) (some g) := by
  obtain ⟨h0, h1, h2, h3, h4, h5⟩ := h
  have e := validL_yes hj hv
  have hfit : i * 2 + [s, .string (rows[j]).data].length ≤ rows.length * 2 := by simp; omega
  refine ⟨⟨by omega, by omega, by rw [e, List.length_append, ← h2]; rfl, fun m r hr => ?_, fun m r hm hr => ?_, (h5.set hfit).1⟩, (h5.set hfit).2⟩
  · rw [e] at hr
    by_cases hm : m < i
    · rw [List.getElem?_append_left (by omega)] at hr
      exact (h3 m r hr).set h5 hfit (.inl (by omega))
    · have : m = i := by
        have := (List.getElem?_eq_some_iff.1 hr).1
        simp at this; omega
      subst this
      rw [List.getElem?_append_right (by omega), ← h2] at hr
      simp at hr
      subst hr
      exact RAt.new h5 hfit hs
  · exact (h4 m r (by omega) hr).set h5 hfit (.inr (by simp; omega))

theorem first_bad {k : Int} {rows : List RowL} (h : ¬ ∀ j (hj : j < rows.length), validW k (rows[j]).vec = true) : ∃ i, ∃ hi : i < rows.length, validW k (rows[i]).vec = false ∧ ∀ j (hj : j < rows.length), j < i → validW k (rows[j]).vec = true := by
  have key : ∀ n, n ≤ rows.length → (∀ j (hj : j < rows.length), j < n → validW k (rows[j]).vec = true) ∨ ∃ i, ∃ hi : i < rows.length, validW k (rows[i]).vec = false ∧ ∀ j (hj : j < rows.length), j < i → validW k (rows[j]).vec = true := by
    intro n
    induction n with
    | zero => intro _; exact .inl fun j _ hj => by omega
    | succ n ih =>
      intro hn
      rcases ih (by omega) with h1 | h1
      · cases hv : validW k (rows[n]'(by omega)).vec with
        | false => exact .inr ⟨n, by omega, hv, h1⟩
        | true =>
          refine .inl fun j hj hjn => ?_
          by_cases hj' : j < n
          · exact h1 j hj hj'
          · have : j = n := by omega
            subst this; exact hv
      · exact .inr h1
  rcases key rows.length (Nat.le_refl _) with h1 | h1
  · exact absurd (fun j hj => h1 j hj hj) h
  · exact h1
theorem row_one (A : Option Addr) (n c : Nat) (d : ByteArray) : (#[.slice A n c, .string d] : Array Value).all (·.oneCell') = true := by simp [Value.oneCell']
set_option maxHeartbeats 1000000 in
theorem DeleteFunc_some (g n c : Nat) (rows : List RowL) (p base : Nat) (k : Int) (w0 w : World) (hR : RowsV w0 w base (.slice (some ⟨g, 0, none⟩) n c) rows) (hb : Below w0.heap.size w0 w) (hbb : w0.heap.size ≤ base) (hX : Box w base p k) (h0 : -9223372036854775808 ≤ k) (h1 : k ≤ 9223372036854775807) (hn : rows.length ≤ 1099511627776) :
    Calls Tryd.prog 63 #[.slice (some ⟨g, 0, none⟩) n c, .func (.func 65) #[] #[.pointer (some ⟨p, 0, none⟩)]] w fun e w' =>
      ∃ A c', e = .returned (.slice A (validL k rows).length c') ∧ (validL k rows).length ≤ c' ∧ KRow.C w' A (validL k rows).length (validL k rows) ∧ Below base w w' := by
  obtain ⟨A', c', hf, hcc, hC⟩ := hR.C hb
  obtain ⟨rfl, hg, hB, hat⟩ := RAt_of hR
  injection hf with e1 e2 e3
  subst e1 e3
  have hidx := IndexFunc_any (some ⟨g, 0, none⟩) c rows p base k w hC hX h0 h1
  have HAT := Aside0.mk hat
  have HB := Aside0.mk hB
  have HC := Aside0.mk hC
  have HBB := Aside0.mk hb
  by_cases hall : ∀ j (hj : j < rows.length), validW k (rows[j]).vec = true
  · have hix : Calls Tryd.prog 86 #[.slice (some ⟨g, 0, none⟩) rows.length c, .func (.func 65) #[] #[.pointer (some ⟨p, 0, none⟩)]] w fun e w' => e = .returned (.int .i64 (-1)) ∧ Below w.heap.size w w' := by
      refine hidx.mono ?_
      rintro e w1 ⟨z, rfl, ⟨rfl, _⟩ | ⟨i, hi, rfl, hv, _⟩, hb1⟩
      · exact ⟨rfl, hb1⟩
      · rw [hall i hi] at hv; cases hv
    have HIX := Aside0.mk hix
    have HE := Aside0.mk (validL_all hall)
    have HX := Aside0.mk hX
    clear hidx hat hB hC hR hb hall hix hX
    go_enter Tryd.func63, Tryd.ntmps63
    go_wp2_with (go_at_call 86; refine HIX.out.mono ?_; rintro e w1 ⟨rfl, hb1⟩)
    go_ret
    exact ⟨_, _, by rw [HE.out]; rfl, by rw [HE.out]; exact hcc, by rw [HE.out]; exact Kd.C_below HC.out hb1, hb1.mono HX.out.2.1⟩
  · obtain ⟨i0, hi0, hv0, hl0⟩ : ∃ i0, ∃ hi : i0 < rows.length, validW k (rows[i0]).vec = false ∧ ∀ j (hj : j < rows.length), j < i0 → validW k (rows[j]).vec = true := first_bad hall
    have hix : Calls Tryd.prog 86 #[.slice (some ⟨g, 0, none⟩) rows.length c, .func (.func 65) #[] #[.pointer (some ⟨p, 0, none⟩)]] w fun e w' => e = .returned (.int .i64 i0) ∧ Below w.heap.size w w' := by
      refine hidx.mono ?_
      rintro e w1 ⟨z, rfl, ⟨rfl, ha⟩ | ⟨i, hi, rfl, hv, hl⟩, hb1⟩
      · exact absurd ha hall
      · rcases Nat.lt_trichotomy i i0 with h | h | h
        · rw [hl0 i hi h] at hv; cases hv
        · subst h; exact ⟨rfl, hb1⟩
        · rw [hl i0 hi0 h] at hv0; cases hv0
    have HIX := Aside0.mk hix
    have HV0 := Aside0.mk (And.intro hv0 hl0)
    have HX := Aside0.mk hX
    have hneg : ((i0 : Int) == -1) = false := beq_eq_false_iff_ne.2 (by omega)
    clear hidx hat hB hC hR hb hall hix hX hv0 hl0
    go_enter Tryd.func63, Tryd.ntmps63
    go_wp2_with (go_at_call 86; refine HIX.out.mono ?_; rintro e w1 ⟨rfl, hb1⟩)
    have HD := Aside0.mk ((DInv.start HAT.out HB.out hi0 HV0.out.1 HV0.out.2).below hb1)
    have HG := Aside0.mk (hb1.mono HX.out.2.1)
    clear HIX HAT HB HC hb1
    go_loopw [5, 6] (fun x y wr => ∃ i j : Nat, x = .int .i64 i ∧ y = .int .i64 j ∧ j ≤ rows.length ∧ i < j ∧ Aside0 (DInv w0 wr g k rows i j) ∧ Aside0 (Below base w wr)) (fun _ y _ => rows.length - (intOf y).toNat)
    case atStart => exact ⟨i0, i0 + 1, rfl, by go_num, by omega, by omega, HD, HG⟩
    case round =>
      obtain ⟨i, j, rfl, rfl, hj, hij, HI, HL⟩ := hrel
      have HBW := Aside0.mk (HBB.out.trans (HL.out.mono hbb))
      by_cases hlt : j < rows.length
      · obtain ⟨s, hc1, hc2, hs⟩ := HI.out.2.2.2.2.1 j rows[j] (Nat.le_refl _) (List.getElem?_eq_getElem hlt)
        obtain ⟨A0, c0, rfl, hcc0, hV⟩ := hs.C HBW.out
        have HS := Aside0.mk hs
        clear hs
        have hal : Below wr.heap.size wr (wr.alloc (.cells #[.slice A0 (rows[j]).vec.length c0, .string (rows[j]).data] 36)) := (Below.refl _ _).alloc (Nat.le_refl _) _
        have hX1 : Box (wr.alloc (.cells #[.slice A0 (rows[j]).vec.length c0, .string (rows[j]).data] 36)) base p k := (HX.out.below HL.out).below (hal.mono (Nat.le_trans HX.out.2.1 HL.out.size))
        have hv := Valid1_any A0 c0 rows[j] p base k _ (Kd.C_below hV hal) hX1 h0 h1
        have HA := Aside0.mk hal
        clear hal hX1 hV
        cases hbv : validW k (rows[j]).vec with
        | true =>
          rw [hbv] at hv
          have HV := Aside0.mk hv
          have HE := Aside0.mk hbv
          clear hv hbv
          have hq : ∀ w2, Below (wr.alloc (.cells #[.slice A0 (rows[j]).vec.length c0, .string (rows[j]).data] 36)).heap.size (wr.alloc (.cells #[.slice A0 (rows[j]).vec.length c0, .string (rows[j]).data] 36)) w2 →
              w2.cell? ⟨wr.heap.size, 0, none⟩ = some (.slice A0 (rows[j]).vec.length c0) ∧ w2.cell? ⟨wr.heap.size, 1, none⟩ = some (.string (rows[j]).data) ∧ w2.there g (i * 2) 2 := fun w2 hb2 =>
            ⟨(hb2.cell (p := ⟨wr.heap.size, 0, none⟩) (by simp)).trans (by simp), (hb2.cell (p := ⟨wr.heap.size, 1, none⟩) (by simp)).trans (by simp),
             (HI.out.below (HA.out.trans (hb2.mono HA.out.size))).2.2.2.2.2.there (by omega)⟩
          have HQ := Aside0.mk hq
          clear hq
          go_wp2_with (first
            | (go_at_call 65; refine HV.out.mono ?_; rintro e w2 ⟨rfl, hb2⟩; obtain ⟨y0, y1, y2⟩ := HQ.out w2 hb2)
            | (refine wpList_store_mid rfl 36 (.tmp 33) (.tmp 32) rfl g (i * 2) #[.slice A0 (rows[j]).vec.length c0, .string (rows[j]).data] (by rfl) (by rfl) y2 (by kernel_rfl) (row_one _ _ _ _) ?_))
          have HB2 := Aside0.mk (HA.out.trans (hb2.mono HA.out.size))
          have HK := Aside0.mk ((HI.out.below HB2.out).keep hlt HE.out (HS.out.below HB2.out))
          have HLN := Aside0.mk ((HL.out.trans (HB2.out.mono (Nat.le_trans HX.out.2.1 HL.out.size))).grown HK.out.2 (Nat.le_trans HX.out.2.1 (Nat.le_trans HL.out.size HB2.out.size)) (fun q hq => by cases hq; exact hg))
          clear hb2 y0 y1 y2
          go_roundw
          case rel => exact ⟨i + 1, j + 1, by go_num, by go_num, by omega, by omega, ⟨HK.out.1⟩, HLN⟩
          case measure => simp [intOf]; omega
        | false =>
          rw [hbv] at hv
          have HV := Aside0.mk hv
          have HE := Aside0.mk hbv
          clear hv hbv
          go_wp2_with (go_at_call 65; refine HV.out.mono ?_; rintro e w2 ⟨rfl, hb2⟩)
          have HB2 := Aside0.mk (HA.out.trans (hb2.mono HA.out.size))
          clear hb2
          go_roundw
          case rel => exact ⟨i, j + 1, rfl, by go_num, by omega, by omega, ⟨(HI.out.below HB2.out).skip hlt HE.out⟩, ⟨HL.out.trans (HB2.out.mono (Nat.le_trans HX.out.2.1 HL.out.size))⟩⟩
          case measure => simp [intOf]; omega
      · have HF := Aside0.mk (show i = (validL k rows).length by have := HI.out.2.2.1; rwa [show j = rows.length by omega, List.take_length] at this)
        have HR := Aside0.mk (show ∀ m r, (validL k rows)[m]? = some r → RAt w0 wr g m r by have := HI.out.2.2.2.1; rwa [show j = rows.length by omega, List.take_length] at this)
        have ht := HI.out.2.2.2.2.2.there (o := i * 2) (m := (rows.length - i) * 2) (by omega)
        obtain ⟨vs, hvs, hclr⟩ := run_clear_rows wr 0 g (i * 2) (rows.length - i) (c - i) ht
        have HVS := Aside0.mk hvs
        have hil : i < rows.length := by omega
        clear hvs ht
        go_wp2
        go_ret
        have hfit : i * 2 + vs.length ≤ rows.length * 2 := by rw [HVS.out]; omega
        have hgr := (HI.out.2.2.2.2.2.set hfit).2
        have hbel : Below base w (wr.setCells g (i * 2) vs) := HL.out.grown hgr (Nat.le_trans HX.out.2.1 HL.out.size) (fun q hq => by cases hq; exact hg)
        have hR' : ∀ m r, (validL k rows)[m]? = some r → RAt w0 (wr.setCells g (i * 2) vs) g m r := fun m r hr => (HR.out m r hr).set HI.out.2.2.2.2.2 hfit (.inl (by
          have := (List.getElem?_eq_some_iff.1 hr).1
          have := HF.out
          omega))
        exact ⟨some ⟨g, 0, none⟩, c, by rw [← HF.out]; rfl, by rw [← HF.out]; omega, KRow_of (HBB.out.trans (hbel.mono hbb)) (by rw [← HF.out]; omega) hR', hbel⟩

theorem DeleteFunc_nil (p base : Nat) (k : Int) (w : World) (hX : Box w base p k) (h0 : -9223372036854775808 ≤ k) (h1 : k ≤ 9223372036854775807) :
    Calls Tryd.prog 63 #[.slice none 0 0, .func (.func 65) #[] #[.pointer (some ⟨p, 0, none⟩)]] w fun e w' => e = .returned (.slice none 0 0) ∧ Below w.heap.size w w' := by
  have hC : KRow.C w none 0 [] := ⟨rfl, by decide, fun h => absurd h (by decide)⟩
  have hidx := IndexFunc_any none 0 [] p base k w hC hX h0 h1
  have hix : Calls Tryd.prog 86 #[.slice none 0 0, .func (.func 65) #[] #[.pointer (some ⟨p, 0, none⟩)]] w fun e w' => e = .returned (.int .i64 (-1)) ∧ Below w.heap.size w w' := by
    refine hidx.mono ?_
    rintro e w1 ⟨z, rfl, ⟨rfl, _⟩ | ⟨i, hi, _⟩, hb1⟩
    · exact ⟨rfl, hb1⟩
    · simp at hi
  have HIX := Aside0.mk hix
  clear hidx hix hC
  go_enter Tryd.func63, Tryd.ntmps63
  go_wp2_with (go_at_call 86; refine HIX.out.mono ?_; rintro e w1 ⟨rfl, hb1⟩)
  go_ret
  exact ⟨rfl, hb1⟩

theorem DeleteFunc_any (v : Value) (rows : List RowL) (p base : Nat) (k : Int) (w0 w : World) (hR : RowsV w0 w base v rows) (hb : Below w0.heap.size w0 w) (hbb : w0.heap.size ≤ base) (hX : Box w base p k) (h0 : -9223372036854775808 ≤ k) (h1 : k ≤ 9223372036854775807) (hn : rows.length ≤ 1099511627776) :
    Calls Tryd.prog 63 #[v, .func (.func 65) #[] #[.pointer (some ⟨p, 0, none⟩)]] w fun e w' =>
      ∃ A c', e = .returned (.slice A (validL k rows).length c') ∧ (validL k rows).length ≤ c' ∧ KRow.C w' A (validL k rows).length (validL k rows) ∧ Below base w w' := by
  obtain ⟨A, c, rfl, hc⟩ := hR.form
  have hR' := hR
  obtain ⟨ss, e1, e2, e3⟩ := hR'
  rcases e2.2 with ⟨hv, hx⟩ | ⟨g, cap, cur, hv, _⟩
  · have hr : rows = [] := List.eq_nil_of_length_eq_zero hx
    subst hr
    cases hv
    refine (DeleteFunc_nil p base k w hX h0 h1).mono ?_
    rintro e w1 ⟨rfl, hb1⟩
    exact ⟨none, 0, rfl, Nat.le_refl _, ⟨rfl, show (0 : Nat) ≤ 9223372036854775807 by decide, fun h => absurd (show 0 < 0 from h) (by decide)⟩, hb1.mono hX.2.1⟩
  · injection hv with h1' h2' h3'
    subst h1'
    exact DeleteFunc_some g _ c rows p base k w0 w hR hb hbb hX h0 h1 hn

set_option maxHeartbeats 400000 in
theorem ValidR_any (A : Option Addr) (c : Nat) (rows : List RowL) (k : Int) (w : World) (hC : KRow.C w A rows.length rows) (h0 : -9223372036854775808 ≤ k) (h1 : k ≤ 9223372036854775807) (hn : rows.length ≤ 1099511627776) :
    Calls Tryd.prog 37 #[.int .i64 k, .slice A rows.length c] w fun e w' =>
      ∃ A c', e = .returned (.slice A (validL k rows).length c') ∧ (validL k rows).length ≤ c' ∧ KRow.C w' A (validL k rows).length (validL k rows) ∧ Below w.heap.size w w' := by
  have hm := C_max hC
  have hbx : Below w.heap.size w (w.alloc (.cells #[.int .i64 k] 3)) := (Below.refl _ _).alloc (Nat.le_refl _) _
  have hcl := CloneR_any A c rows _ (Kd.C_below hC hbx) hn
  have HC := Aside0.mk hC
  have HCL := Aside0.mk hcl
  have HBX := Aside0.mk hbx
  clear hC hcl hbx
  go_enter Tryd.func37, Tryd.ntmps37
  go_wp2_with (go_at_call 64; refine HCL.out.mono ?_; rintro e w1 ⟨v1, rfl, hR1, hb1⟩)
  have hX : Box w1 (w.alloc (.cells #[.int .i64 k] 3)).heap.size w.heap.size k := ⟨by simp, hb1.size, (hb1.cell (p := ⟨w.heap.size, 0, none⟩) (by simp)).trans (by simp)⟩
  have hd := DeleteFunc_any v1 rows w.heap.size _ k _ w1 hR1 hb1 (Nat.le_refl _) hX h0 h1 hn
  have HD := Aside0.mk hd
  have HB1 := Aside0.mk hb1
  clear hd hb1 hR1 hX
  go_wp2_with (go_at_call 63; refine HD.out.mono ?_; rintro e w2 ⟨A2, c2, rfl, hc2, hC2, hb2⟩)
  go_ret
  exact ⟨A2, c2, rfl, hc2, hC2, HBX.out.trans ((HB1.out.mono HBX.out.size).trans (hb2.mono HBX.out.size))⟩

set_option maxHeartbeats 1000000 in
theorem refValidR_any (A : Option Addr) (c : Nat) (rows : List RowL) (k : Int) (w : World) (hC : KRow.C w A rows.length rows) (h0 : -9223372036854775808 ≤ k) (h1 : k ≤ 9223372036854775807) (hn : rows.length ≤ 1099511627776) :
    Calls Tryd.prog 25 #[.int .i64 k, .slice A rows.length c] w fun e w' =>
      ∃ v, e = .returned v ∧ RowsV w w' w.heap.size v (validL k rows) ∧ Below w.heap.size w w' := by
  have hm := C_max hC
  have HC := Aside0.mk hC
  clear hC
  go_enter Tryd.func25, Tryd.ntmps25
  go_wp2
  go_loopw [5, 6] (fun v x wr => ∃ j : Nat, x = .int .i64 j ∧ j ≤ rows.length ∧ Aside0 (RowsV w wr w.heap.size v (validL k (rows.take j))) ∧ Aside0 (Below w.heap.size w wr)) (fun _ x _ => rows.length - (intOf x).toNat)
  case atStart => exact ⟨0, rfl, Nat.zero_le _, ⟨by simpa [validL] using RowsV.nil _ _ _⟩, ⟨Below.refl _ _⟩⟩
  case round =>
    obtain ⟨j, rfl, hj, HR, HG⟩ := hrel
    by_cases hlt : j < rows.length
    · obtain ⟨ad, A0, c0, rfl, hc1, hc2, hcc, hV⟩ := at_row (Kd.C_below HC.out HG.out) j hlt
      have hv := refValid_any A0 c0 (rows[j]).vec k wr hV h0 h1
      cases hb : validW k (rows[j]).vec with
      | false =>
        rw [hb] at hv
        have HV := Aside0.mk hv
        have HE := Aside0.mk (validL_no hlt hb)
        clear hv hb hV
        go_wp2_with (go_at_call 52; refine HV.out.mono ?_; rintro e w1 ⟨rfl, rfl⟩)
        go_roundw
        case rel => exact ⟨j + 1, by go_num, by omega, ⟨by rw [HE.out]; exact HR.out⟩, HG⟩
        case measure => simp [intOf]; omega
      | true =>
        rw [hb] at hv
        have HV := Aside0.mk hv
        have HE := Aside0.mk (validL_yes hlt hb)
        have hal : Below wr.heap.size wr (wr.alloc (.cells #[.slice A0 (rows[j]).vec.length c0, .string (rows[j]).data] 36)) := (Below.refl _ _).alloc (Nat.le_refl _) _
        have HRA := Aside0.mk (HR.out.below hal)
        have HVA := Aside0.mk (show Vst w (wr.alloc (.cells #[.slice A0 (rows[j]).vec.length c0, .string (rows[j]).data] 36)) (.slice A0 (rows[j]).vec.length c0) (rows[j]).vec from by
          obtain ⟨ad', A0', c0', e1, d1, d2, d3, d4⟩ := at_row HC.out j hlt
          cases e1
          have := pw_cell_below HG.out d1
          rw [hc1] at this
          cases this
          exact .inl ⟨A0, c0, rfl, d3, d4⟩)
        have HGA := Aside0.mk (HG.out.trans (hal.mono HG.out.size))
        have HL := Aside0.mk (show (validL k (rows.take j)).length ≤ 1099511627776 from Nat.le_trans (List.length_filter_le _ _) (by simp; omega))
        have HSZ := Aside0.mk (show w.heap.size ≤ (wr.alloc (.cells #[.slice A0 (rows[j]).vec.length c0, .string (rows[j]).data] 36)).heap.size from HGA.out.size)
        clear hv hb hV hal
        go_wp2_with (first
          | (go_at_call 52; refine HV.out.mono ?_; rintro e w1 ⟨rfl, rfl⟩)
          | (at_builtin; refine wpList_append_rowV rfl _ _ rfl w.heap.size _ _ rfl HRA.out _ rows[j] HVA.out wr.heap.size 1 rfl (by simp) (by simp) HGA.out HSZ.out HL.out ?_; intro v' w' hR' hB' _ _))
        have HR1 := Aside0.mk hR'
        have HB1 := Aside0.mk hB'
        clear hR' hB'
        go_roundw
        case rel => exact ⟨j + 1, by go_num, by omega, ⟨by rw [HE.out]; exact HR1.out⟩, HB1⟩
        case measure => simp [intOf]; omega
    · have HE := Aside0.mk (List.take_of_length_le (show rows.length ≤ j by omega))
      go_wp2
      go_ret
      exact ⟨_, rfl, by have := HR.out; rwa [HE.out] at this, HG.out⟩

end Go.Proofs.YtnfabflkajpkfaaDoor.Delete
