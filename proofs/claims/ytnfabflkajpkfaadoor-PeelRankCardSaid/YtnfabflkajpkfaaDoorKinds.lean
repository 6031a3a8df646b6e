/- The kinds of this program's structs. -/
import Derived.Test.YtnfabflkajpkfaaDoorOpen
namespace Go.Proofs.YtnfabflkajpkfaaDoor.Kinds
open Go Go.RowKit Go.Proofs.YtnfabflkajpkfaaDoorW.PrintWords Go.Proofs.YtnfabflkajpkfaaDoor.Base Go.Proofs.YtnfabflkajpkfaaDoor.Open
set_option linter.unusedVariables false
set_option linter.unusedSimpArgs false

structure RowL where
  vec : List UInt64
  data : ByteArray
def zRow : RowL := ⟨[], emptyS⟩
def KRow : Kd RowL := Kd.iso (Kd.pair (Kd.slice 45 Kw) Kd.string) (fun r : RowL => (r.vec, r.data))
theorem KRow_open {w : World} {r : RowL} {cs : List Value} (h : KRow.K w r cs) : ∃ A c, cs = [.slice A r.vec.length c, .string r.data] ∧ r.vec.length ≤ c ∧ Kw.C w A r.vec.length r.vec := by
  obtain ⟨_, _, rfl, ⟨A, c, rfl, l0, g0⟩, rfl⟩ := h
  exact ⟨A, c, rfl, l0, g0⟩
theorem KRow_mk {w : World} {r : RowL} {A : Option Addr} {c : Nat} (l0 : r.vec.length ≤ c) (g0 : Kw.C w A r.vec.length r.vec) : KRow.K w r [.slice A r.vec.length c, .string r.data] :=
  ⟨[.slice A r.vec.length c], [.string r.data], rfl, ⟨A, c, rfl, l0, g0⟩, rfl⟩
theorem at_row {w : World} {A : Option Addr} {n : Nat} {xs : List RowL} (h : KRow.C w A n xs) (k : Nat) (hk : k < xs.length) :
    ∃ ad A0 c0, A = some ad ∧ w.cell? (ad.add (k * 2)) = some (.slice A0 (xs[k]).vec.length c0) ∧ w.cell? ⟨(ad.add (k * 2)).block, (ad.add (k * 2)).off + 1, none⟩ = some (.string (xs[k]).data) ∧ (xs[k]).vec.length ≤ c0 ∧ Kw.C w A0 (xs[k]).vec.length (xs[k]).vec := by
  obtain ⟨ad, e, hc⟩ := h.2.2 (by have := h.1; omega)
  obtain ⟨c, _, hK, hcell⟩ := hc k _ (List.getElem?_eq_getElem hk)
  obtain ⟨A0, c0, rfl, l0, g0⟩ := KRow_open hK
  exact ⟨ad, A0, c0, e, hcell 0 _ rfl, by rw [← add_field _ _ 1 (by omega)]; exact hcell 1 _ rfl, l0, g0⟩

/-- the xor of the first k rows -/
def rowV (l : List RowL) : Nat → List UInt64
  | 0 => []
  | k + 1 => xorW (rowV l k) (l.getD k zRow).vec
def rowD (l : List RowL) : Nat → ByteArray
  | 0 => emptyS
  | k + 1 => xorS (rowD l k) (l.getD k zRow).data
def rowX (l : List RowL) : RowL := ⟨rowV l l.length, rowD l l.length⟩
theorem getD_at {α : Type} (l : List α) (d : α) (k : Nat) (h : k < l.length) : l.getD k d = l[k] := by rw [List.getD_eq_getElem?_getD, List.getElem?_eq_getElem h]; rfl
theorem rowV_succ (l : List RowL) (k : Nat) (h : k < l.length) : rowV l (k + 1) = xorW (rowV l k) (l[k]).vec := by rw [rowV, getD_at l zRow k h]
theorem rowD_succ (l : List RowL) (k : Nat) (h : k < l.length) : rowD l (k + 1) = xorS (rowD l k) (l[k]).data := by rw [rowD, getD_at l zRow k h]
theorem rowV_len (l : List RowL) (M : Nat) (h : ∀ r ∈ l, r.vec.length ≤ M) (k : Nat) (hk : k ≤ l.length) : (rowV l k).length ≤ M := by
  induction k with
  | zero => simp [rowV]
  | succ k ih =>
    rw [rowV_succ l k (by omega), xorW_length]
    have := ih (by omega)
    have := h _ (List.getElem_mem (show k < l.length by omega))
    omega
theorem rowD_size (l : List RowL) (M : Nat) (h : ∀ r ∈ l, r.data.size ≤ M) (k : Nat) (hk : k ≤ l.length) : (rowD l k).size ≤ M := by
  induction k with
  | zero => simp [rowD, emptyS, ByteArray.size]
  | succ k ih =>
    rw [rowD_succ l k (by omega), size_xorS]
    have := ih (by omega)
    have := h _ (List.getElem_mem (show k < l.length by omega))
    omega

/-- the xor of rows that are true of blocks is true of them -/
theorem holds_rowX (l : List ByteArray) (rows : List RowL) (h : ∀ r ∈ rows, holdsB l r.vec r.data = true) : holdsB l (rowX rows).vec (rowX rows).data = true := by
  have key : ∀ k, k ≤ rows.length → (∀ i, l.length ≤ i → getB (rowV rows k) i = false) ∧ ∀ j, byteS (ofS l (rowV rows k)) j = byteS (rowD rows k) j := by
    intro k
    induction k with
    | zero =>
      intro _
      refine ⟨fun i _ => getB_out _ i (by simp [rowV]), fun j => ?_⟩
      have : ∀ n, byteS (ofN l [] n) j = 0 := by
        intro n
        induction n with
        | zero => exact byteS_empty j
        | succ n ih => rw [ofN_no l [] n (getB_out _ n (by simp))]; exact ih
      rw [rowV, rowD, ofS, this, byteS_empty]
    | succ k ih =>
      intro hk
      obtain ⟨h1, h2⟩ := ih (by omega)
      obtain ⟨h3, h4⟩ := (holdsB_iff _ _ _).1 (h _ (List.getElem_mem (show k < rows.length by omega)))
      rw [rowV_succ rows k (by omega), rowD_succ rows k (by omega)]
      refine ⟨fun i hi => by rw [getB_xorW, h1 i hi, h3 i hi]; rfl, fun j => ?_⟩
      rw [byteS_xorS, ← h2 j, ← h4 j]
      exact byteS_ofN l _ _ _ j
  exact (holdsB_iff _ _ _).2 (key rows.length (Nat.le_refl _))

theorem opens_row : Opens Tryd.prog KRow 36 :=
  opens_iso _ (fun x => ⟨x.1, x.2⟩) (fun _ => rfl) (opens_struct2 Tryd.underlying36 (by kernel_rfl) rfl rfl (by kernel_rfl) (by kernel_rfl) (opens_slice Tryd.underlying34 (by kernel_rfl) (opens_w Tryd.underlying45)) (opens_string Tryd.underlying9))

end Go.Proofs.YtnfabflkajpkfaaDoor.Kinds
