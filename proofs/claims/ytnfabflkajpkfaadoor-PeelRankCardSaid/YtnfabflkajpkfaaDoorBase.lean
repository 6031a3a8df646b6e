/- Words of this work, over any program: a row of the call's own (the mark of a conversion behind its capacity let in); xor of rows of numbers. No condition. -/
import Derived.Test.YtnfabflkajpkfaaDoorProg
import Derived.Below
import Derived.Deep.Draws
import Derived.Deep.AppendLies
import Derived.Maps.AppendAt
import Derived.OwnWalk
import Derived.Laws.BytesArg
import Derived.Laws.MakeOwn
import Derived.Laws.OwnMore
import Derived.Deep.OwnRows
import Derived.Tactics
import Derived.Lib.ConvBytes
import Derived.Laws.Slices
import Derived.WalkKit
import Derived.KernelRfl
import Derived.RowKit3
import Derived.Deep.LoopGhost
import Derived.Deep.QuietTactic
import Derived.BigQuiet
import Derived.WideLaws
import Derived.Deep.DeepCutAuto
import Derived.Deep.CutBlock
import Derived.Deep.RegionHeld3
import Derived.Laws.Rows
import Derived.Lib.AppendStr
import Derived.ArgAppend
import Derived.Laws.IdiomCopy
import Derived.OrdersHeld
import Derived.Laws.BitsLemmas
import Derived.RowKit
import Derived.Outline
import Derived.Says
import Derived.Laws.CopyOwn
import Derived.Deep.DeepFit
import Derived.Lib.Hide
import Derived.WalkSpells
import Derived.Test.YtnfabflkajpkfaaDoorWWords
namespace Go.Proofs.YtnfabflkajpkfaaDoor.Base
open Go Go.RowKit Go.Proofs.YtnfabflkajpkfaaDoorW.PrintWords
set_option linter.unusedVariables false
set_option linter.unusedSimpArgs false

/-! ### 1. A row of the call's own, one cell an element -/
def Own (w : World) (base : Nat) (e : TypeId) (v : Value) (cs : List Value) : Prop :=
  (v = .slice none 0 0 ∧ cs = []) ∨
  ∃ g cap cur fr, v = .slice (some ⟨g, 0, none⟩) cs.length cap ∧ base ≤ g ∧ w.heap[g]? = some (.cells cur e fr) ∧ cs.length ≤ cap ∧ cap ≤ maxLen ∧ cur.size = cap ∧ cur.toList.take cs.length = cs ∧ (fr = (0, 0) ∨ cap ≤ fr.1)

section
variable {w w1 : World} {base : Nat} {e : TypeId} {v : Value} {cs : List Value}
theorem Own.nil (w : World) (base : Nat) (e : TypeId) : Own w base e (.slice none 0 0) [] := .inl ⟨rfl, rfl⟩
theorem Own.of_row {n : Nat} (h : w.ownsRow base e 1 v n cs) : Own w base e v cs := by
  have hn : cs.length = n := by have := h.1; omega
  rcases h.2 with ⟨rfl, rfl⟩ | ⟨g, cap, cur, rfl, hb, hg, h1, h2, h3, h4⟩
  · exact .inl ⟨rfl, List.eq_nil_of_length_eq_zero hn⟩
  · refine .inr ⟨g, cap, cur, (0, 0), by rw [hn], hb, hg, by omega, h2, by omega, ?_, .inl rfl⟩
    rw [hn]; simpa using h4
theorem Own.slice (h : Own w base e v cs) : ∃ A c, v = .slice A cs.length c ∧ cs.length ≤ c := by
  rcases h with ⟨rfl, rfl⟩ | ⟨g, cap, cur, fr, rfl, _, _, h1, _⟩
  · exact ⟨none, 0, rfl, Nat.le_refl _⟩
  · exact ⟨_, _, rfl, h1⟩
theorem Own.max (h : Own w base e v cs) : cs.length ≤ 9223372036854775807 := by
  rcases h with ⟨rfl, rfl⟩ | ⟨g, cap, cur, fr, rfl, _, _, h1, h2, _⟩
  · simp
  · simp only [maxLen] at h2; omega
theorem Own.lower {base' : Nat} (h : Own w base e v cs) (hb : base' ≤ base) : Own w base' e v cs := by
  rcases h with h | ⟨g, cap, cur, fr, hv, hg, r⟩
  · exact .inl h
  · exact .inr ⟨g, cap, cur, fr, hv, Nat.le_trans hb hg, r⟩
theorem Own.lt (h : Own w base e v cs) : ∀ k, v.ownBlock = some k → base ≤ k ∧ k < w.heap.size := by
  intro k hk
  rcases h with ⟨rfl, _⟩ | ⟨g, cap, cur, fr, rfl, hb, hg, _⟩
  · simp [Value.ownBlock] at hk
  · simp [Value.ownBlock] at hk
    subst hk
    exact ⟨hb, (Array.getElem?_eq_some_iff.1 hg).1⟩
theorem Own.base_le (h : Own w base e v cs) (k : Nat) (hk : v.ownBlock = some k) : base ≤ k := (h.lt k hk).1
theorem Own.move (h : Own w base e v cs) (hm : ∀ k, v.ownBlock = some k → w1.heap[k]? = w.heap[k]?) : Own w1 base e v cs := by
  rcases h with h | ⟨g, cap, cur, fr, rfl, hg, hh, r⟩
  · exact .inl h
  · exact .inr ⟨g, cap, cur, fr, rfl, hg, (hm g (by simp [Value.ownBlock])).trans hh, r⟩
theorem Own.grown (h : Own w base e v cs) {row : Option Nat} (hg : w.grownBy w1 row) (hne : v.ownBlock = none ∨ v.ownBlock ≠ row) : Own w1 base e v cs :=
  h.move fun k hk => hg.block k (h.lt k hk).2 (by
    rcases hne with h0 | h0
    · rw [h0] at hk; cases hk
    · rw [← hk]; exact h0)
theorem Own.alloc (h : Own w base e v cs) (o : Obj) : Own (w.alloc o) base e v cs := h.grown (row := none) (World.grownBy_alloc w o none) (by cases hv : v.ownBlock <;> simp)
theorem Own.drew (h : Own w base e v cs) : Own w.drew base e v cs := h
theorem Own.drewN (h : Own w base e v cs) (n : Nat) : Own (w.drewN n) base e v cs := h
theorem Own.below (h : Own w base e v cs) (hb : Below w.heap.size w w1) : Own w1 base e v cs := h.move fun k hk => hb.block k (h.lt k hk).2
/-- by their elements' types two rows lie apart -/
theorem Own.type_ne {base' : Nat} {e' : TypeId} {v' : Value} {cs' : List Value} (h : Own w base e v cs) (h' : Own w base' e' v' cs') (hne : e ≠ e') : v.ownBlock = none ∨ v.ownBlock ≠ v'.ownBlock := by
  rcases h with ⟨rfl, _⟩ | ⟨g, cap, cur, fr, rfl, _, hh, _⟩
  · exact .inl rfl
  · refine .inr fun hk => ?_
    rcases h' with ⟨rfl, _⟩ | ⟨g', cap', cur', fr', rfl, _, hh', _⟩
    · simp [Value.ownBlock] at hk
    · have : g = g' := by simpa [Value.ownBlock] using hk
      subst this
      rw [hh] at hh'
      injection hh' with hh'
      injection hh' with _ ht
      exact hne ht
theorem Own.fresh_ne {base' : Nat} {v' : Value} {e' : TypeId} {cs' : List Value} (h : Own w base e v cs) (h' : Own w1 base' e' v' cs') (hb : w1.heap.size ≤ base) : v.ownBlock = none ∨ v.ownBlock ≠ v'.ownBlock := by
  cases hv : v.ownBlock with
  | none => exact .inl rfl
  | some k =>
    refine .inr fun hk => ?_
    have h1 := h.lt k hv
    have h2 := h'.lt k hk.symm
    omega
theorem frozen_fr {g j cap : Nat} {cur : Array Value} {fr : Nat × Nat} (hg : w.heap[g]? = some (.cells cur e fr)) (hj : j < cap) (hf : fr = (0, 0) ∨ cap ≤ fr.1) : w.frozen? ⟨g, j, none⟩ = false := by
  rcases hf with rfl | hf
  · simp [World.frozen?, hg]
  · obtain ⟨lo, hi⟩ := fr
    simp only [World.frozen?, hg]
    simp at hf ⊢
    omega
/-- an element: where it lies, that it may be written -/
theorem Own.at_ (h : Own w base e v cs) (i : Nat) (hi : i < cs.length) : ∃ g cap, v = .slice (some ⟨g, 0, none⟩) cs.length cap ∧ base ≤ g ∧ g < w.heap.size ∧ cs.length ≤ cap ∧ w.cell? ⟨g, i, none⟩ = some (cs[i]) ∧ w.frozen? ⟨g, i, none⟩ = false := by
  rcases h with ⟨rfl, rfl⟩ | ⟨g, cap, cur, fr, rfl, hb, hg, h1, h2, h3, h4, h5⟩
  · simp at hi
  · refine ⟨g, cap, rfl, hb, (Array.getElem?_eq_some_iff.1 hg).1, h1, ?_, frozen_fr hg (cap := cap) (by omega) h5⟩
    rw [cell_of_row w g i cur e fr hg]
    have : (cur.toList.take cs.length)[i]? = cs[i]? := by rw [h4]
    rw [List.getElem?_take, if_pos hi] at this
    simpa [List.getElem?_eq_getElem hi] using this
theorem heap_setCell_fr (w : World) (g j : Nat) (cur : Array Value) (t : TypeId) (fr : Nat × Nat) (u : Value) (hg : w.heap[g]? = some (.cells cur t fr)) :
    (w.setCell ⟨g, j, none⟩ u).heap[g]? = some (.cells (cur.setIfInBounds j u) t fr) := by
  simp [World.setCell, Array.getElem?_modify, hg]
theorem Own.set_ {g n cap : Nat} (h : Own w base e (.slice (some ⟨g, 0, none⟩) n cap) cs) (i : Nat) (u : Value) :
    Own (w.setCell ⟨g, i, none⟩ u) base e (.slice (some ⟨g, 0, none⟩) n cap) (cs.set i u) ∧ w.grownBy (w.setCell ⟨g, i, none⟩ u) (some g) := by
  rcases h with ⟨h, _⟩ | ⟨g', cap', cur, fr, hv, hb, hg, h1, h2, h3, h4, h5⟩
  · cases h
  · simp only [Value.slice.injEq, Option.some.injEq, Addr.mk.injEq, and_true, true_and] at hv
    obtain ⟨rfl, rfl, rfl⟩ := hv
    refine ⟨.inr ⟨g, cap, cur.setIfInBounds i u, fr, by simp, hb, heap_setCell_fr w g i cur e fr u hg, by simpa using h1, h2, by simpa using h3, ?_, h5⟩,
      ⟨rfl, rfl, rfl, by simp, fun k _ hk => Below.heap_setCell w ⟨g, i, none⟩ u k (fun e => hk (by simp [e]))⟩⟩
    rw [Array.toList_setIfInBounds, List.length_set, List.take_set, h4]
theorem Own.cells (h : Own w base e v cs) : ∀ A n c, v = .slice A n c → 0 < n → ∃ ad, A = some ad ∧ ∀ j u, cs[j]? = some u → w.cell? (ad.add j) = some u := by
  rintro A n c rfl hn
  rcases h with ⟨h, _⟩ | ⟨g, cap, cur, fr, hv, hb, hg, h1, h2, h3, h4, h5⟩
  · injection h with _ h0 _; omega
  · injection hv with hA hn' hc
    subst hA
    refine ⟨_, rfl, fun j u hu => ?_⟩
    have hj := (List.getElem?_eq_some_iff.1 hu).1
    have : (cur.toList.take cs.length)[j]? = cs[j]? := by rw [h4]
    rw [List.getElem?_take, if_pos hj, hu] at this
    rw [add_plain, cell_of_row w g j cur e fr hg]
    simpa using this
theorem Own.C {α : Type} {enc : α → Value} {h1 : ∀ x, (enc x).oneCell' = true} {xs : List α} (h : Own w base e v (xs.map enc)) : ∃ A c, v = .slice A xs.length c ∧ xs.length ≤ c ∧ (Kd.scalar enc h1).C w A xs.length xs := by
  obtain ⟨A, c, hv, hc⟩ := h.slice
  simp only [List.length_map] at hv hc
  refine ⟨A, c, hv, hc, rfl, by have := h.max; simpa using this, fun hn => ?_⟩
  obtain ⟨ad, rfl, hcell⟩ := h.cells A _ c hv hn
  refine ⟨ad, rfl, fun j p hj => ⟨[enc p], rfl, rfl, fun i u hu => ?_⟩⟩
  cases i with
  | zero =>
    have hu' : enc p = u := by simpa using hu
    show w.cell? (ad.add (j * 1 + 0)) = _
    rw [Nat.mul_one, Nat.add_zero]
    exact hcell j u (by rw [List.getElem?_map, hj, ← hu']; rfl)
  | succ i => simp at hu
theorem Own.C_int {k : IntKind} {xs : List Int} (h : Own w base e v (nums k xs)) : ∃ A c, v = .slice A xs.length c ∧ xs.length ≤ c ∧ (Kd.int k).C w A xs.length xs := Own.C (enc := Value.int k) h
end

theorem grown_drew {w w1 : World} {row : Option Nat} (h : w.grownBy w1 row) : w.grownBy w1.drew row := ⟨h.os, h.tape, h.output, h.size, h.block⟩
theorem grown_drewN {w w1 : World} {row : Option Nat} (h : w.grownBy w1 row) (n : Nat) : w.grownBy (w1.drewN n) row := ⟨h.os, h.tape, h.output, h.size, h.block⟩
theorem grown_of_fresh {w w1 w2 : World} {row row' : Option Nat} (h : w.grownBy w1 row) (h' : w1.grownBy w2 row') (hf : ∀ k, row' = some k → w.heap.size ≤ k) : w.grownBy w2 row :=
  ⟨h'.os.trans h.os, h'.tape.trans h.tape, h'.output.trans h.output, Nat.le_trans h.size h'.size, fun k hk hr => (h'.block k (Nat.lt_of_lt_of_le hk h.size) (fun e => by have := hf k e.symm; omega)).trans (h.block k hk hr)⟩

theorem slice_block {a b n c m d : Nat} (h : Value.slice (some ⟨a, 0, none⟩) n c = .slice (some ⟨b, 0, none⟩) m d) : a = b := by
  simp only [Value.slice.injEq, Option.some.injEq, Addr.mk.injEq] at h
  exact h.1.1

/-! ### 2. What a conversion makes of a string, and back -/
theorem strCells_bytes (s : ByteArray) : (s.data.map fun b => Value.int .u8 b.toNat).toList = nums .u8 (bytesOf s) := by simp [nums, bytesOf]
theorem own_bytes (W : World) (base : Nat) (e : TypeId) (s : ByteArray) (hb : base ≤ W.heap.size) (hs : s.size ≤ 9223372036854775807) :
    Own (Lib.bytesWorld W e s) base e (.slice (some ⟨W.heap.size, 0, none⟩) s.size (grownCap W s.size 0 e)) (nums .u8 (bytesOf s)) := by
  have hl : (nums .u8 (bytesOf s)).length = s.size := by rw [nums_length, bytesOf_length]
  have hge := grownCap_ge W s.size 0 e
  have hsz : (Lib.bytesCells W e s).size = grownCap W s.size 0 e := by simp [Lib.bytesCells]; have : s.data.size = s.size := rfl; omega
  refine .inr ⟨W.heap.size, grownCap W s.size 0 e, Lib.bytesCells W e s, _, by rw [hl], hb, Lib.bytesWorld_at_new W e s, by omega, grownCap_le_maxLen W _ _ _ (by simpa [maxLen] using hs), hsz, ?_, .inr (by simp [hsz])⟩
  rw [hl, Lib.bytesCells, Array.toList_append, strCells_bytes, List.take_append_of_le_length (by omega), List.take_of_length_le (by omega)]
theorem strOf_bytes (s : ByteArray) : strOfNums (bytesOf s) = s := by
  cases s with
  | mk d =>
    have : (List.map ((fun n : Int => UInt8.ofNat n.toNat) ∘ fun b : UInt8 => (b.toNat : Int)) d.toList) = d.toList := by
      have h : ((fun n : Int => UInt8.ofNat n.toNat) ∘ fun b : UInt8 => (b.toNat : Int)) = id := by funext b; simp
      rw [h]; simp
    simp [strOfNums, bytesOf, this]
theorem Own.string {P : Program} {w : World} {base : Nat} {e' src dst e : TypeId} {v : Value} {xs : List Int} (hs : P.underlying src = some (.slice e)) (he : P.underlying e = some (.int .u8)) (hd : P.underlying dst = some .string)
    (h : Own w base e' v (nums .u8 xs)) : (convert src dst v).run P w = .ok (.string (strOfNums xs)) w := by
  obtain ⟨A, c, hv, hc⟩ := h.slice
  rw [nums_length] at hv hc
  subst hv
  rcases h with ⟨h, h'⟩ | ⟨g, cap, cur, fr, hv, hb, hg, h1, h2, h3, h4, h5⟩
  · obtain rfl : xs = [] := by simpa [nums] using h'
    injection h with hA _ _
    subst hA
    exact run_convert_bytes_nil w src e hs he 0 c dst hd
  · rw [nums_length] at hv h1 h4
    injection hv with hA _ _
    subst hA
    refine run_convert_bytes_arg w src e hs he g 0 xs.length c xs rfl (fun i hi => ?_) dst hd
    rw [cell_of_row w g (0 + i) cur e' fr hg, Nat.zero_add]
    have : (cur.toList.take xs.length)[i]? = (nums .u8 xs)[i]? := by rw [h4]
    rw [List.getElem?_take, if_pos hi] at this
    simpa [nums, List.getElem?_eq_getElem hi, List.getD_eq_getElem?_getD] using this

/-! ### 3. two rows, one over the other -/
section
variable {α : Type} (f : α → α → α) (z : α)
def zipX : List α → List α → List α
  | [], ys => ys
  | x :: xs, [] => x :: xs
  | x :: xs, y :: ys => f x y :: zipX xs ys
theorem zipX_nil_right (xs : List α) : zipX f xs [] = xs := by cases xs <;> rfl
theorem zipX_length (xs ys : List α) : (zipX f xs ys).length = max xs.length ys.length := by
  induction xs generalizing ys with
  | nil => simp [zipX]
  | cons x xs ih =>
    cases ys with
    | nil => simp [zipX]
    | cons y ys => simp [zipX, ih]
/-- one round of the loop that works in place -/
theorem zipX_step (xs ys : List α) (i : Nat) (hi : i < ys.length) (hl : ys.length ≤ xs.length) :
    (zipX f xs (ys.take i)).set i (f (xs.getD i z) (ys.getD i z)) = zipX f xs (ys.take (i + 1)) := by
  induction xs generalizing ys i with
  | nil =>
    have : ys = [] := by simpa using hl
    subst this; simp at hi
  | cons x xs ih =>
    cases ys with
    | nil => simp at hi
    | cons y ys =>
      cases i with
      | zero => cases ys <;> simp [zipX, zipX_nil_right]
      | succ i =>
        simp at hi hl
        have := ih ys i hi hl
        simp [zipX] at this ⊢
        exact this
/-- what the loop reads at its place has not been turned -/
theorem zipX_at (xs ys : List α) (i : Nat) (hl : ys.length ≤ xs.length) : (zipX f xs (ys.take i)).getD i z = xs.getD i z := by
  induction xs generalizing ys i with
  | nil =>
    have : ys = [] := by simpa using hl
    subst this; simp [zipX]
  | cons x xs ih =>
    cases ys with
    | nil => simp [zipX]
    | cons y ys =>
      cases i with
      | zero => simp [zipX]
      | succ i =>
        simp at hl
        have := ih ys i hl
        simpa [zipX] using this
theorem zipX_pad (xs ys : List α) (n : Nat) (hn : xs.length + n = ys.length) (hz : ∀ y ∈ ys, f z y = y) : zipX f (xs ++ List.replicate n z) ys = zipX f xs ys := by
  induction xs generalizing ys with
  | nil =>
    simp at hn
    subst hn
    simp only [List.nil_append, zipX]
    induction ys with
    | nil => rfl
    | cons y ys ih =>
      simp only [List.length_cons, List.replicate_succ, zipX]
      rw [hz y (by simp), ih (fun z hzz => hz z (by simp [hzz]))]
  | cons x xs ih =>
    cases ys with
    | nil => simp at hn
    | cons y ys =>
      simp at hn
      simp only [List.cons_append, zipX]
      rw [ih ys (by omega) (fun z hzz => hz z (by simp [hzz]))]
theorem zipX_comm (hf : ∀ x y, f x y = f y x) (xs ys : List α) : zipX f xs ys = zipX f ys xs := by
  induction xs generalizing ys with
  | nil => cases ys <;> rfl
  | cons x xs ih => cases ys <;> simp [zipX, ih, hf]
theorem zipX_getD (hz : ∀ x, f x z = x) (hz' : ∀ x, f z x = x) (xs ys : List α) (i : Nat) : (zipX f xs ys).getD i z = f (xs.getD i z) (ys.getD i z) := by
  induction xs generalizing ys i with
  | nil => simp [zipX, hz']
  | cons x xs ih =>
    cases ys with
    | nil => simp [zipX, hz]
    | cons y ys =>
      cases i with
      | zero => simp [zipX]
      | succ i => simpa [zipX] using ih ys i
end
theorem zipX_map {α β : Type} (f : α → α → α) (g : β → β → β) (h : α → β) (hh : ∀ x y, h (f x y) = g (h x) (h y)) (xs ys : List α) : (zipX f xs ys).map h = zipX g (xs.map h) (ys.map h) := by
  induction xs generalizing ys with
  | nil => simp [zipX]
  | cons x xs ih => cases ys <;> simp [zipX, ih, hh]
theorem zipX_padL {α : Type} (f : α → α → α) (z : α) (hz : ∀ x, f x z = x) (xs ys : List α) (n : Nat) (hn : n ≤ ys.length - xs.length) (hz' : ∀ y ∈ ys, f z y = y) : zipX f (xs ++ List.replicate n z) ys = zipX f xs ys := by
  induction xs generalizing ys n with
  | nil =>
    simp only [List.nil_append, zipX]
    induction ys generalizing n with
    | nil =>
      obtain rfl : n = 0 := by simpa using hn
      rfl
    | cons y ys ih =>
      cases n with
      | zero => rfl
      | succ n =>
        simp only [List.replicate_succ, zipX]
        rw [hz' y (by simp), ih n (by simp at hn ⊢; omega) (fun z hzz => hz' z (by simp [hzz]))]
  | cons x xs ih =>
    cases ys with
    | nil =>
      obtain rfl : n = 0 := by simpa using hn
      simp
    | cons y ys =>
      simp at hn
      simp only [List.cons_append, zipX]
      rw [ih ys n hn (fun z hzz => hz' z (by simp [hzz]))]
/-! ### 4. xor of numbers of one kind -/
def bx (k : IntKind) (a b : Int) : Int := bits .xor k a b
def xorL (k : IntKind) (xs ys : List Int) : List Int := zipX (bx k) xs ys
theorem xorL_nil_right (k : IntKind) (xs : List Int) : xorL k xs [] = xs := zipX_nil_right _ _
theorem xorL_length (k : IntKind) (xs ys : List Int) : (xorL k xs ys).length = max xs.length ys.length := zipX_length _ _ _
theorem xorL_step (k : IntKind) (xs ys : List Int) (i : Nat) (hi : i < ys.length) (hl : ys.length ≤ xs.length) :
    (xorL k xs (ys.take i)).set i (bx k (xs.getD i 0) (ys.getD i 0)) = xorL k xs (ys.take (i + 1)) := zipX_step _ 0 xs ys i hi hl
theorem xorL_at (k : IntKind) (xs ys : List Int) (i : Nat) (hl : ys.length ≤ xs.length) : (xorL k xs (ys.take i)).getD i 0 = xs.getD i 0 := zipX_at _ 0 xs ys i hl
theorem xorL_pad (k : IntKind) (xs ys : List Int) (n : Nat) (hn : xs.length + n = ys.length) (hz : ∀ y ∈ ys, bx k 0 y = y) : xorL k (xs ++ List.replicate n 0) ys = xorL k xs ys := zipX_pad _ 0 xs ys n hn hz
theorem bx_nat8 (a b : Nat) (ha : a < 256) (hb : b < 256) : bx .u8 a b = ((a ^^^ b : Nat) : Int) := by
  simp only [bx, bits, BitVec.ofInt_natCast, BitVec.toNat_xor, BitVec.toNat_ofNat]
  have h : a ^^^ b < 2 ^ 8 := Nat.xor_lt_two_pow (n := 8) ha hb
  simp [IntKind.wrap, IntKind.bits, IntKind.signed, Nat.mod_eq_of_lt ha, Nat.mod_eq_of_lt hb]
  omega
theorem bx_nat64 (a b : Nat) (ha : a < 2 ^ 64) (hb : b < 2 ^ 64) : bx .u64 a b = ((a ^^^ b : Nat) : Int) := by
  simp only [bx, bits, BitVec.ofInt_natCast, BitVec.toNat_xor, BitVec.toNat_ofNat]
  have h : a ^^^ b < 2 ^ 64 := Nat.xor_lt_two_pow (n := 64) ha hb
  simp [IntKind.wrap, IntKind.bits, IntKind.signed] at ha hb h ⊢
  rw [Nat.mod_eq_of_lt ha, Nat.mod_eq_of_lt hb]
  omega
theorem bytesOf_range (s : ByteArray) : ∀ y ∈ bytesOf s, 0 ≤ y ∧ y < 256 := by
  intro y hy
  simp only [bytesOf, List.mem_map] at hy
  obtain ⟨b, _, rfl⟩ := hy
  have := b.toNat_lt
  omega
theorem bx_zero8 {y : Int} (h0 : 0 ≤ y) (h1 : y < 256) : bx .u8 0 y = y := by
  obtain ⟨n, rfl⟩ := Int.eq_ofNat_of_zero_le h0
  have := bx_nat8 0 n (by omega) (by omega)
  simpa using this

theorem bx_u8 (a b : UInt8) : bx .u8 (a.toNat : Int) (b.toNat : Int) = ((a ^^^ b).toNat : Int) := by
  rw [bx_nat8 _ _ a.toNat_lt b.toNat_lt, UInt8.toNat_xor]
theorem bx_u64 (a b : UInt64) : bx .u64 (a.toNat : Int) (b.toNat : Int) = ((a ^^^ b).toNat : Int) := by
  rw [bx_nat64 _ _ a.toNat_lt b.toNat_lt, UInt64.toNat_xor]

/-! ### 5. xor of texts -/
def listS (s : ByteArray) : List UInt8 := s.data.toList
def mkS (l : List UInt8) : ByteArray := ⟨l.toArray⟩
theorem listS_mkS (l : List UInt8) : listS (mkS l) = l := rfl
attribute [simp] listS_mkS
theorem mkS_listS (s : ByteArray) : mkS (listS s) = s := by cases s; simp [mkS, listS]
theorem size_mkS (l : List UInt8) : (mkS l).size = l.length := by simp [mkS, ByteArray.size]
theorem length_listS (s : ByteArray) : (listS s).length = s.size := data_length s
theorem bytesOf_eq (s : ByteArray) : bytesOf s = (listS s).map fun b => (b.toNat : Int) := rfl
theorem listS_inj {s t : ByteArray} (h : listS s = listS t) : s = t := by rw [← mkS_listS s, h, mkS_listS]
/-- the xor of two texts -/
def xorS (a b : ByteArray) : ByteArray := mkS (zipX (· ^^^ ·) (listS a) (listS b))
theorem bytesOf_xorS (a b : ByteArray) : bytesOf (xorS a b) = xorL .u8 (bytesOf a) (bytesOf b) := by
  rw [bytesOf_eq, bytesOf_eq, bytesOf_eq, xorS, listS_mkS, xorL]
  exact zipX_map _ _ _ (fun x y => (bx_u8 x y).symm) _ _
theorem size_xorS (a b : ByteArray) : (xorS a b).size = max a.size b.size := by rw [xorS, size_mkS, zipX_length, length_listS, length_listS]
theorem xorS_comm (a b : ByteArray) : xorS a b = xorS b a := by rw [xorS, xorS, zipX_comm _ (fun x y => UInt8.xor_comm x y)]
def emptyS : ByteArray := ⟨#[]⟩
theorem xorS_empty (a : ByteArray) : xorS a emptyS = a := by
  rw [xorS, show listS emptyS = [] from rfl, zipX_nil_right, mkS_listS]
theorem empty_xorS (a : ByteArray) : xorS emptyS a = a := by rw [xorS_comm, xorS_empty]
theorem strOf_bytes' (s : ByteArray) : strOfNums (bytesOf s) = s := strOf_bytes s

/-! ### 6. reading -/
theorem at_enc {α : Type} {enc : α → Value} {h1 : ∀ x, (enc x).oneCell' = true} {w : World} {A : Option Addr} {n : Nat} {xs : List α} (h : (Kd.scalar enc h1).C w A n xs) (k : Nat) (hk : k < xs.length) :
    ∃ ad, A = some ad ∧ w.cell? (ad.add k) = some (enc (xs[k])) := by
  obtain ⟨ad, e, hc⟩ := h.2.2 (by have := h.1; omega)
  obtain ⟨c, _, hK, hcell⟩ := hc k _ (List.getElem?_eq_getElem hk)
  have hK' : c = [enc xs[k]] := hK
  subst hK'
  refine ⟨ad, e, ?_⟩
  have := hcell 0 _ rfl
  rwa [show k * (Kd.scalar enc h1).sz + 0 = k from by show k * 1 + 0 = k; omega] at this
theorem at_str {w : World} {A : Option Addr} {n : Nat} {xs : List ByteArray} (h : Kd.string.C w A n xs) (k : Nat) (hk : k < xs.length) : ∃ ad, A = some ad ∧ w.cell? (ad.add k) = some (.string (xs[k])) :=
  at_enc (enc := Value.string) (h1 := fun _ => rfl) h k hk
theorem at_i {K : IntKind} {w : World} {A : Option Addr} {n : Nat} {xs : List Int} (h : (Kd.int K).C w A n xs) (k : Nat) (hk : k < xs.length) : ∃ ad, A = some ad ∧ w.cell? (ad.add k) = some (.int K (xs[k])) :=
  at_enc (enc := Value.int K) (h1 := fun _ => rfl) h k hk
def encW (x : UInt64) : Value := .int .u64 (x.toNat : Int)
def Kw : Kd UInt64 := Kd.scalar encW (fun _ => rfl)
theorem Own.Cw {w : World} {base : Nat} {e : TypeId} {v : Value} {xs : List UInt64} (h : Own w base e v (xs.map encW)) : ∃ A c, v = .slice A xs.length c ∧ xs.length ≤ c ∧ Kw.C w A xs.length xs := Own.C (enc := encW) h
theorem C_max {α : Type} {d : Kd α} {w : World} {A : Option Addr} {n : Nat} {xs : List α} (h : d.C w A n xs) : n ≤ 9223372036854775807 := h.2.1
theorem C_len {α : Type} {d : Kd α} {w : World} {A : Option Addr} {n : Nat} {xs : List α} (h : d.C w A n xs) : xs.length = n := h.1

theorem at_w {w : World} {A : Option Addr} {n : Nat} {xs : List UInt64} (h : Kw.C w A n xs) (k : Nat) (hk : k < xs.length) : ∃ ad, A = some ad ∧ w.cell? (ad.add k) = some (.int .u64 ((xs[k]).toNat : Int)) :=
  at_enc (enc := encW) (h1 := fun _ => rfl) h k hk
theorem foldl_take_succ {α β : Type} (f : β → α → β) (b : β) (l : List α) (k : Nat) (h : k < l.length) : (l.take (k + 1)).foldl f b = f ((l.take k).foldl f b) l[k] := by
  rw [List.take_succ_eq_append_getElem h, List.foldl_append]; rfl
def sumS (l : List ByteArray) : ByteArray := l.foldl xorS emptyS
theorem size_foldl_xorS (l : List ByteArray) (M : Nat) (h : ∀ s ∈ l, s.size ≤ M) (b : ByteArray) (hb : b.size ≤ M) : (l.foldl xorS b).size ≤ M := by
  induction l generalizing b with
  | nil => exact hb
  | cons s l ih => exact ih (fun x hx => h x (by simp [hx])) _ (by rw [size_xorS]; have := h s (by simp); omega)
theorem size_sumS (l : List ByteArray) (M : Nat) (h : ∀ s ∈ l, s.size ≤ M) : (sumS l).size ≤ M := size_foldl_xorS l M h _ (by simp [emptyS, ByteArray.size])
theorem mem_take {α : Type} {l : List α} {k : Nat} {P : α → Prop} (h : ∀ s ∈ l, P s) : ∀ s ∈ l.take k, P s := fun s hs => h s (List.mem_of_mem_take hs)
theorem mem_at {α : Type} {l : List α} {P : α → Prop} (h : ∀ s ∈ l, P s) (k : Nat) (hk : k < l.length) : P l[k] := h _ (List.getElem_mem hk)

/-! ### 7. 'clear' of a row that was just made: nothing turns -/
theorem run_clear_zeros {P : Program} (w : World) (t e ty : TypeId) (k : IntKind) (i : TypeInfo) (ht : P.underlying t = some (.slice e)) (hi : P.info? e = some i) (hz : i.zero = some (.int k 0)) (m c : Nat) :
    (Builtin.clear_ #[t] ty #[.slice (some ⟨w.heap.size, 0, none⟩) m c]).run P (w.alloc (.cells (madeCells #[.int k 0] m) e)) = .ok (.tuple #[]) (w.alloc (.cells (madeCells #[.int k 0] m) e)) := by
  have hv : ∀ w, (zeroValue e).run P w = .ok (.int k 0) w := fun w => by simp [zeroValue, typeInfo, hi, hz]
  have hzc : (Builtin.zeroCells (Value.int k 0).cells m).toList = List.replicate m (.int k 0) := by
    simp [Builtin.zeroCells, Value.cells]
    apply List.ext_getElem
    · simp
    · intro i h1 h2
      simp [Nat.mod_one]
  have hcur : (madeCells #[Value.int k 0] m).toList = List.replicate m (.int k 0) := toList_madeCells_one _ _
  have hg := heap_alloc_new w (.cells (madeCells #[.int k 0] m) e)
  have hst := run_storeCells_at P w.heap.size 0 e (List.replicate m (.int k 0)) 0 (madeCells #[.int k 0] m) _ hg (by have := congrArg List.length hcur; simp at this ⊢; omega) (by intro v hv'; rw [List.eq_of_mem_replicate hv']; rfl)
  have he : ((madeCells #[Value.int k 0] m).toList.take (0 + 0) ++ List.replicate m (Value.int k 0) ++ (madeCells #[Value.int k 0] m).toList.drop (0 + 0 + (List.replicate m (Value.int k 0)).length)).toArray = madeCells #[Value.int k 0] m := by
    apply Array.toList_inj.1
    rw [hcur]; simp
  rw [he, setRow_self _ _ _ _ _ hg] at hst
  cases m with
  | zero => simp [Builtin.clear_, run_underlying ht]
  | succ m => simp [Builtin.clear_, run_underlying ht, hv, hzc, hst]

/-- a row that is filled from its head on -/
def fillW (v : List UInt64) (M k : Nat) : List UInt64 := v.take k ++ List.replicate (M - k) 0
theorem fillW_zero (v : List UInt64) (M : Nat) : fillW v M 0 = List.replicate M 0 := by simp [fillW]
theorem fillW_length (v : List UInt64) (M k : Nat) (hk : k ≤ v.length) (hM : k ≤ M) : (fillW v M k).length = M := by simp [fillW]; omega
theorem fillW_set (v : List UInt64) (M k : Nat) (hk : k < v.length) (hM : k < M) : (fillW v M k).set k v[k] = fillW v M (k + 1) := by
  have h1 : (v.take k).length = k := by simp; omega
  rw [fillW, List.set_append, if_neg (by omega), h1, Nat.sub_self, fillW, List.take_succ_eq_append_getElem hk, List.append_assoc]
  congr 1
  obtain ⟨d, hd⟩ : ∃ d, M - k = d + 1 := ⟨M - k - 1, by omega⟩
  rw [hd, show M - (k + 1) = d by omega, List.replicate_succ]
  rfl
theorem fillW_all (v : List UInt64) (M : Nat) : fillW v M v.length = v ++ List.replicate (M - v.length) 0 := by simp [fillW]
theorem nums_zeros (M : Nat) : nums .u64 (List.replicate M 0) = (List.replicate M (0 : UInt64)).map encW := by simp [nums, encW]

/-- the xor of two rows of words -/
def xorW (a b : List UInt64) : List UInt64 := zipX (· ^^^ ·) a b
theorem xorW_length (a b : List UInt64) : (xorW a b).length = max a.length b.length := zipX_length _ _ _
theorem xorW_comm (a b : List UInt64) : xorW a b = xorW b a := zipX_comm _ (fun x y => UInt64.xor_comm x y) a b
theorem xorW_nil (a : List UInt64) : xorW a [] = a := zipX_nil_right _ _
theorem nil_xorW (a : List UInt64) : xorW [] a = a := rfl
theorem xorW_pad (a b : List UInt64) : xorW (a ++ List.replicate (b.length - a.length) 0) b = xorW a b :=
  zipX_padL _ 0 (fun x => UInt64.xor_zero) a b _ (Nat.le_refl _) (fun y _ => UInt64.zero_xor)
theorem xorW_take_length (a b : List UInt64) (k : Nat) (h : b.length ≤ a.length) : ((xorW a (b.take k)).map encW).length = a.length := by
  rw [List.length_map, xorW_length, List.length_take]; omega
theorem xorW_cell (a b : List UInt64) (k : Nat) (hs : b.length ≤ a.length) (hk : k < b.length) (h : k < ((xorW a (b.take k)).map encW).length) : ((xorW a (b.take k)).map encW)[k]'h = .int .u64 ((a[k]'(by omega)).toNat : Int) := by
  have := zipX_at (· ^^^ ·) (0 : UInt64) a b k hs
  have hl : k < (zipX (· ^^^ ·) a (b.take k)).length := by rw [zipX_length, List.length_take]; omega
  rw [List.getD_eq_getElem?_getD, List.getD_eq_getElem?_getD, List.getElem?_eq_getElem (show k < a.length by omega), List.getElem?_eq_getElem hl] at this
  simp only [Option.getD_some] at this
  simp only [List.getElem_map, encW, xorW, this]
theorem xorW_set (a b : List UInt64) (k : Nat) (hs : b.length ≤ a.length) (hk : k < b.length) :
    ((xorW a (b.take k)).map encW).set k (.int .u64 (bits .xor .u64 ((a[k]'(by omega)).toNat : Int) ((b[k]'hk).toNat : Int))) = (xorW a (b.take (k + 1))).map encW := by
  have he : (Value.int .u64 (bits .xor .u64 ((a[k]'(by omega)).toNat : Int) ((b[k]'hk).toNat : Int))) = encW (a.getD k 0 ^^^ b.getD k 0) := by
    show Value.int .u64 (bx .u64 _ _) = _
    rw [bx_u64, encW, List.getD_eq_getElem?_getD, List.getD_eq_getElem?_getD, List.getElem?_eq_getElem (show k < a.length by omega), List.getElem?_eq_getElem hk]
    rfl
  rw [he, ← List.map_set, xorW, zipX_step (· ^^^ ·) 0 a b k hk hs]; rfl

theorem readsW {w : World} {A : Option Addr} {n : Nat} {xs : List UInt64} (h : Kw.C w A n xs) : ReadsInt w .u64 A n (xs.map fun x => (x.toNat : Int)) := by
  refine ⟨by rw [List.length_map]; exact h.1, h.2.1, fun hp => ?_⟩
  obtain ⟨ad, e, _⟩ := h.2.2 hp
  refine ⟨ad, e, fun j hj => ?_⟩
  have hj' : j < xs.length := by have := h.1; omega
  obtain ⟨ad', e', hc⟩ := at_w h j hj'
  rw [e] at e'
  cases e'
  rw [hc]
  simp [List.getD_eq_getElem?_getD, List.getElem?_eq_getElem hj']
theorem numsW (xs : List UInt64) : nums .u64 (xs.map fun x => (x.toNat : Int)) = xs.map encW := by simp [nums, encW]

theorem and1_u64 (n : Nat) (h : n < 2 ^ 64) : bits .and .u64 (n : Int) 1 = ((n % 2 : Nat) : Int) := by
  have h1 : (1 : Int) = ((1 : Nat) : Int) := rfl
  rw [h1]
  simp only [bits, BitVec.ofInt_natCast, BitVec.toNat_and, BitVec.toNat_ofNat]
  have hb : IntKind.u64.bits = 64 := rfl
  rw [hb, Nat.mod_eq_of_lt h, show (1 : Nat) % 2 ^ 64 = 1 from rfl, Nat.and_one_is_mod]
  have : n % 2 < 2 := Nat.mod_lt _ (by decide)
  simp [IntKind.wrap, IntKind.bits, IntKind.signed]
  omega
theorem bit_u64 (x : UInt64) (j : Nat) : (bits .and .u64 ((x.toNat : Int) / 2 ^ j) 1 == 1) = x.toNat.testBit j := by
  have h : ((x.toNat : Int) / 2 ^ j) = ((x.toNat / 2 ^ j : Nat) : Int) := by simp
  have hl : x.toNat / 2 ^ j < 2 ^ 64 := Nat.lt_of_le_of_lt (Nat.div_le_self _ _) x.toNat_lt
  rw [h, and1_u64 _ hl, Nat.testBit_eq_decide_div_mod_eq]
  rw [Bool.eq_iff_iff]
  simp only [beq_iff_eq, decide_eq_true_eq]
  omega
/-- bit i of a row -/
def getB (v : List UInt64) (i : Nat) : Bool := (v.getD (i / 64) 0).toNat.testBit (i % 64)
theorem getB_in (v : List UInt64) (i : Nat) (h : i / 64 < v.length) : getB v i = (v[i / 64]).toNat.testBit (i % 64) := by
  rw [getB, List.getD_eq_getElem?_getD, List.getElem?_eq_getElem h]; rfl
theorem getB_out (v : List UInt64) (i : Nat) (h : v.length ≤ i / 64) : getB v i = false := by
  rw [getB, List.getD_eq_getElem?_getD, List.getElem?_eq_none h]; simp

/-- how many bits are set -/
def pc (n : Nat) : Nat := if n = 0 then 0 else n % 2 + pc (n / 2)
theorem pc_zero : pc 0 = 0 := by rw [pc]; rfl
theorem pc_pos (n : Nat) (h : 0 < n) : pc n = n % 2 + pc (n / 2) := by rw [pc, if_neg (by omega)]
theorem pc_le (j n : Nat) (h : n < 2 ^ j) : pc n ≤ j := by
  induction j generalizing n with
  | zero =>
    obtain rfl : n = 0 := by simpa using h
    rw [pc_zero]; omega
  | succ j ih =>
    rcases Nat.eq_zero_or_pos n with rfl | h0
    · rw [pc_zero]; omega
    · rw [pc_pos n h0]
      have := ih (n / 2) (by rw [Nat.pow_succ] at h; omega)
      omega
theorem pc_eq_zero (n : Nat) : pc n = 0 ↔ n = 0 := by
  induction n using Nat.strongRecOn with
  | ind n ih =>
    rcases Nat.eq_zero_or_pos n with rfl | h0
    · simp [pc_zero]
    · rw [pc_pos n h0]
      constructor
      · intro h
        have := (ih (n / 2) (by omega)).1 (by omega)
        omega
      · omega
def cntW (v : List UInt64) : Nat := (v.map fun x => pc x.toNat).sum
theorem cntW_le (v : List UInt64) : cntW v ≤ 64 * v.length := by
  induction v with
  | nil => simp [cntW]
  | cons x v ih =>
    have := pc_le 64 x.toNat x.toNat_lt
    simp only [cntW, List.map_cons, List.sum_cons, List.length_cons] at ih ⊢
    omega
theorem cntW_snoc (v : List UInt64) (k : Nat) (h : k < v.length) : cntW (v.take (k + 1)) = cntW (v.take k) + pc (v[k]).toNat := by
  rw [List.take_succ_eq_append_getElem h, cntW, List.map_append, List.sum_append]; simp only [cntW, List.map_cons, List.map_nil, List.sum_cons, List.sum_nil, Nat.add_zero]
theorem cntW_zero (v : List UInt64) : cntW v = 0 ↔ ∀ x ∈ v, x = 0 := by
  induction v with
  | nil => simp [cntW]
  | cons x v ih =>
    simp only [cntW, List.map_cons, List.sum_cons, List.mem_cons, forall_eq_or_imp] at ih ⊢
    rw [← ih, Nat.add_eq_zero_iff, pc_eq_zero]
    constructor
    · rintro ⟨h1, h2⟩; exact ⟨UInt64.toNat_inj.1 (by simpa using h1), h2⟩
    · rintro ⟨rfl, h2⟩; exact ⟨rfl, h2⟩
/-- the same bits -/
def sameW (a b : List UInt64) : Bool := decide (cntW (xorW a b) = 0)
theorem xorW_getD (a b : List UInt64) (i : Nat) : (xorW a b).getD i 0 = a.getD i 0 ^^^ b.getD i 0 := zipX_getD _ 0 (fun _ => UInt64.xor_zero) (fun _ => UInt64.zero_xor) a b i
theorem sameW_iff (a b : List UInt64) : sameW a b = true ↔ ∀ i, a.getD i 0 = b.getD i 0 := by
  rw [sameW, decide_eq_true_eq, cntW_zero]
  constructor
  · intro h i
    have : (xorW a b).getD i 0 = 0 := by
      by_cases hi : i < (xorW a b).length
      · rw [List.getD_eq_getElem?_getD, List.getElem?_eq_getElem hi]; exact h _ (List.getElem_mem hi)
      · rw [List.getD_eq_getElem?_getD, List.getElem?_eq_none (by omega)]; rfl
    rw [xorW_getD] at this
    exact UInt64.xor_eq_zero_iff.1 this
  · intro h x hx
    obtain ⟨i, hi, rfl⟩ := List.getElem_of_mem hx
    have := xorW_getD a b i
    rw [List.getD_eq_getElem?_getD, List.getElem?_eq_getElem hi, h i] at this
    simpa using this
theorem sameW_refl (a : List UInt64) : sameW a a = true := (sameW_iff a a).2 fun _ => rfl

/-- the xor of the blocks of some bits -/
def ofN (l : List ByteArray) (v : List UInt64) : Nat → ByteArray
  | 0 => emptyS
  | k + 1 => if getB v k then xorS (ofN l v k) (l.getD k emptyS) else ofN l v k
def ofS (l : List ByteArray) (v : List UInt64) : ByteArray := ofN l v l.length
theorem ofN_yes (l : List ByteArray) (v : List UInt64) (k : Nat) (h : k < l.length) (hb : getB v k = true) : ofN l v (k + 1) = xorS (ofN l v k) l[k] := by
  rw [ofN, if_pos hb, List.getD_eq_getElem?_getD, List.getElem?_eq_getElem h]; rfl
theorem ofN_no (l : List ByteArray) (v : List UInt64) (k : Nat) (hb : getB v k = false) : ofN l v (k + 1) = ofN l v k := by
  rw [ofN, if_neg (by rw [hb]; simp)]
theorem size_ofN (l : List ByteArray) (v : List UInt64) (M : Nat) (h : ∀ s ∈ l, s.size ≤ M) (k : Nat) : (ofN l v k).size ≤ M := by
  induction k with
  | zero => simp [ofN, emptyS, ByteArray.size]
  | succ k ih =>
    by_cases hb : getB v k = true
    · rw [ofN, if_pos hb, size_xorS]
      have : (l.getD k emptyS).size ≤ M := by
        rw [List.getD_eq_getElem?_getD]
        by_cases hk : k < l.length
        · rw [List.getElem?_eq_getElem hk]; exact h _ (List.getElem_mem hk)
        · rw [List.getElem?_eq_none (by omega)]; simp [emptyS, ByteArray.size]
      omega
    · rw [ofN, if_neg hb]; exact ih
/-- is a row true of blocks? -/
def holdsB (l : List ByteArray) (v : List UInt64) (d : ByteArray) : Bool :=
  (List.range (64 * v.length)).all (fun i => decide (i < l.length) || !getB v i) && (listS (xorS (ofS l v) d)).all (· == 0)
theorem holdsB_no_bit (l : List ByteArray) (v : List UInt64) (d : ByteArray) (i : Nat) (h1 : l.length ≤ i) (h2 : i < 64 * v.length) (h3 : getB v i = true) : holdsB l v d = false := by
  rw [holdsB, Bool.and_eq_false_iff]
  left
  rw [List.all_eq_false]
  exact ⟨i, List.mem_range.2 h2, by simp [h3]; omega⟩
theorem holdsB_bits (l : List ByteArray) (v : List UInt64) (d : ByteArray) (h : ∀ i, l.length ≤ i → i < 64 * v.length → getB v i = false) : holdsB l v d = (listS (xorS (ofS l v) d)).all (· == 0) := by
  have : (List.range (64 * v.length)).all (fun i => decide (i < l.length) || !getB v i) = true := by
    rw [List.all_eq_true]
    intro i hi
    by_cases hl : i < l.length
    · simp [hl]
    · simp [h i (by omega) (List.mem_range.1 hi)]
  rw [holdsB, this, Bool.true_and]

theorem length_foldl_xorW (l : List (List UInt64)) (M : Nat) (h : ∀ s ∈ l, s.length ≤ M) (b : List UInt64) (hb : b.length ≤ M) : (l.foldl xorW b).length ≤ M := by
  induction l generalizing b with
  | nil => exact hb
  | cons s l ih => exact ih (fun x hx => h x (by simp [hx])) _ (by rw [xorW_length]; have := h s (by simp); omega)
/-- a cell in a block that lies apart from the row that was written -/
theorem cell_apart {w w1 : World} {row : Option Nat} {a : Addr} {v : Value} (hg : w.grownBy w1 row) (h : w.cell? a = some v) (hne : some a.block ≠ row) : w1.cell? a = some v := hg.cell h hne

theorem Own.ne_small {w : World} {base : Nat} {e : TypeId} {v : Value} {cs : List Value} {g : Nat} (h : Own w base e v cs) (hg : g < base) : v.ownBlock = none ∨ v.ownBlock ≠ some g := by
  cases hv : v.ownBlock with
  | none => exact .inl rfl
  | some k =>
    refine .inr fun hk => ?_
    have h1 := h.lt k hv
    cases hk
    omega
theorem Own.setFar {w : World} {base : Nat} {e : TypeId} {v : Value} {cs : List Value} {p : Addr} (h : Own w base e v cs) (hg : p.block < base) (u : Value) : Own (w.setCell p u) base e v cs :=
  h.grown (row := some p.block) ⟨rfl, rfl, rfl, by simp, fun k _ hk => Below.heap_setCell _ _ _ _ (fun e => hk (by simp [e]))⟩ (h.ne_small hg)

theorem getD_bytesOf (X : ByteArray) (k : Nat) (hk : k < X.size) : (bytesOf X).getD k 0 = (((listS X)[k]'(by rw [length_listS]; exact hk)).toNat : Int) := by
  rw [bytesOf_eq, List.getD_eq_getElem?_getD, List.getElem?_map, List.getElem?_eq_getElem (show k < (listS X).length by rw [length_listS]; exact hk)]; rfl
theorem all0_no (X : ByteArray) (k : Nat) (hk : k < X.size) (h : (bytesOf X).getD k 0 ≠ 0) : ((listS X).all fun x => x == 0) = false := by
  rw [getD_bytesOf X k hk] at h
  rw [List.all_eq_false]
  refine ⟨_, List.getElem_mem (show k < (listS X).length by rw [length_listS]; exact hk), fun he => h ?_⟩
  rw [beq_iff_eq.1 he]; rfl
theorem all0_yes (X : ByteArray) (h : ∀ j, j < X.size → (bytesOf X).getD j 0 = 0) : ((listS X).all fun x => x == 0) = true := by
  rw [List.all_eq_true]
  intro x hx
  obtain ⟨j, hj, rfl⟩ := List.getElem_of_mem hx
  rw [length_listS] at hj
  have := h j hj
  rw [getD_bytesOf X j hj] at this
  rw [beq_iff_eq, ← UInt8.toNat_inj]
  simpa using this

/-! ### 8. what is written out -/
theorem flatten_at {α : Type} (css : List (List α)) (sz : Nat) (h : ∀ c ∈ css, c.length = sz) (j i : Nat) (hj : j < css.length) (hi : i < sz) : css.flatten[j * sz + i]? = (css[j])[i]? := by
  induction css generalizing j with
  | nil => simp at hj
  | cons c css ih =>
    have hc := h c (by simp)
    cases j with
    | zero =>
      rw [Nat.zero_mul, Nat.zero_add, List.flatten_cons, List.getElem?_append_left (by omega)]
      rfl
    | succ j =>
      rw [List.flatten_cons, List.getElem?_append_right (by rw [hc, Nat.succ_mul]; omega), hc, show (j + 1) * sz + i - sz = j * sz + i by rw [Nat.succ_mul]; omega]
      exact ih (fun c' hc' => h c' (by simp [hc'])) j (by simpa using hj)
theorem C_lit {α : Type} {d : Kd α} {W : World} {g : Nat} {e : TypeId} {fr : Nat × Nat} (xs : List α) (css : List (List Value)) (h : W.heap[g]? = some (.cells css.flatten.toArray e fr)) (hl : css.length = xs.length)
    (hK : ∀ j (hj : j < xs.length), d.K W xs[j] (css[j]'(by omega))) (hm : xs.length ≤ 9223372036854775807) : d.C W (some ⟨g, 0, none⟩) xs.length xs := by
  refine ⟨rfl, hm, fun _ => ⟨_, rfl, fun j p hj => ?_⟩⟩
  have hj' := (List.getElem?_eq_some_iff.1 hj).1
  have hp := (List.getElem?_eq_some_iff.1 hj).2
  have hcs : ∀ c ∈ css, c.length = d.sz := by
    intro c hc
    obtain ⟨j, hj, rfl⟩ := List.getElem_of_mem hc
    exact d.K_len (hK j (by omega))
  refine ⟨css[j]'(by omega), hcs _ (List.getElem_mem _), by rw [← hp]; exact hK j hj', fun i u hu => ?_⟩
  have hi := (List.getElem?_eq_some_iff.1 hu).1
  rw [hcs _ (List.getElem_mem _)] at hi
  rw [add_plain, cell_of_row W g _ _ e fr h]
  have := flatten_at css d.sz hcs j i (by omega) hi
  rw [hu] at this
  simpa using this
theorem heap_alloc_if (w : World) (o : Obj) (k : Nat) : (w.alloc o).heap[k]? = if k = w.heap.size then some o else w.heap[k]? := by
  show (w.heap.push o)[k]? = _
  rw [Array.getElem?_push]

theorem flatten_singles {α β : Type} (f : α → β) (xs : List α) : (xs.map fun x => [f x]).flatten = xs.map f := by
  induction xs with
  | nil => rfl
  | cons x xs ih => simp [ih]
theorem C_lit1 {α : Type} {enc : α → Value} {h1 : ∀ x, (enc x).oneCell' = true} {W : World} {g : Nat} {e : TypeId} {fr : Nat × Nat} (xs : List α) (h : W.heap[g]? = some (.cells (xs.map enc).toArray e fr)) (hm : xs.length ≤ 9223372036854775807) : (Kd.scalar enc h1).C W (some ⟨g, 0, none⟩) xs.length xs :=
  C_lit xs (xs.map fun x => [enc x]) (e := e) (fr := fr) (by rw [flatten_singles]; exact h) (by simp) (fun j hj => by simp only [List.getElem_map]; exact rfl) hm
theorem C_litW {W : World} {g : Nat} {e : TypeId} {fr : Nat × Nat} (xs : List UInt64) (h : W.heap[g]? = some (.cells (xs.map encW).toArray e fr)) (hm : xs.length ≤ 9223372036854775807) : Kw.C W (some ⟨g, 0, none⟩) xs.length xs := C_lit1 (enc := encW) xs h hm
theorem C_litS {W : World} {g : Nat} {e : TypeId} {fr : Nat × Nat} (xs : List ByteArray) (h : W.heap[g]? = some (.cells (xs.map Value.string).toArray e fr)) (hm : xs.length ≤ 9223372036854775807) : Kd.string.C W (some ⟨g, 0, none⟩) xs.length xs := C_lit1 (enc := Value.string) xs h hm
theorem C_litI {k : IntKind} {W : World} {g : Nat} {e : TypeId} {fr : Nat × Nat} (xs : List Int) (h : W.heap[g]? = some (.cells (xs.map (Value.int k)).toArray e fr)) (hm : xs.length ≤ 9223372036854775807) : (Kd.int k).C W (some ⟨g, 0, none⟩) xs.length xs := C_lit1 (enc := Value.int k) xs h hm

theorem hp_new (w : World) (o : Obj) (k : Nat) (h : k = w.heap.size) : (w.alloc o).heap[k]? = some o := by subst h; exact heap_alloc_new w o
theorem hp_old {w : World} {k : Nat} {x : Obj} (h : w.heap[k]? = some x) (o : Obj) : (w.alloc o).heap[k]? = some x := by
  rw [Below.heap_alloc w o k (Array.getElem?_eq_some_iff.1 h).1]; exact h

theorem C_one (w : World) (n : Int) (x : UInt64) (e : TypeId) (h : n = (x.toNat : Int)) : Kw.C (w.alloc (.cells #[.int .u64 n] e)) (some ⟨w.heap.size, 0, none⟩) 1 [x] := by
  subst h
  exact C_litW (e := e) (fr := (0, 0)) [x] (hp_new _ _ _ rfl) (by simp)
theorem bal {B : Nat} {a w : World} (h : Below B a w) (hB : B ≤ a.heap.size) (o : Obj) : Below B a (w.alloc o) := h.alloc (Nat.le_trans hB h.size) o
theorem bthn {B : Nat} {a b c : World} (h : Below B a b) (hB : B ≤ a.heap.size) (k : Below b.heap.size b c) : Below B a c := h.trans (k.mono (Nat.le_trans hB h.size))

/-! ### 9. byte by byte -/
def byteS (s : ByteArray) (j : Nat) : UInt8 := (listS s).getD j 0
theorem byteS_xorS (a b : ByteArray) (j : Nat) : byteS (xorS a b) j = byteS a j ^^^ byteS b j := by
  rw [byteS, xorS, listS_mkS]
  exact zipX_getD _ 0 (fun _ => UInt8.xor_zero) (fun _ => UInt8.zero_xor) _ _ j
theorem byteS_empty (j : Nat) : byteS emptyS j = 0 := by simp [byteS, emptyS, listS]
theorem all0_iff (X : ByteArray) : ((listS X).all fun x => x == 0) = true ↔ ∀ j, byteS X j = 0 := by
  rw [List.all_eq_true]
  constructor
  · intro h j
    rw [byteS, List.getD_eq_getElem?_getD]
    by_cases hj : j < (listS X).length
    · rw [List.getElem?_eq_getElem hj]; exact beq_iff_eq.1 (h _ (List.getElem_mem hj))
    · rw [List.getElem?_eq_none (by omega)]; rfl
  · intro h x hx
    obtain ⟨j, hj, rfl⟩ := List.getElem_of_mem hx
    have := h j
    rw [byteS, List.getD_eq_getElem?_getD, List.getElem?_eq_getElem hj] at this
    exact beq_iff_eq.2 this
theorem ext_byteS {a b : ByteArray} (hl : a.size = b.size) (h : ∀ j, byteS a j = byteS b j) : a = b := by
  apply listS_inj
  apply List.ext_getElem (by rw [length_listS, length_listS, hl])
  intro j h1 h2
  have := h j
  rw [byteS, byteS, List.getD_eq_getElem?_getD, List.getD_eq_getElem?_getD, List.getElem?_eq_getElem h1, List.getElem?_eq_getElem h2] at this
  exact this
theorem xorS_twice (a b : ByteArray) (h : b.size ≤ a.size) : xorS (xorS a b) b = a := by
  apply ext_byteS (by rw [size_xorS, size_xorS]; omega)
  intro j
  rw [byteS_xorS, byteS_xorS, UInt8.xor_assoc, UInt8.xor_self, UInt8.xor_zero]
theorem getB_xorW (u v : List UInt64) (i : Nat) : getB (xorW u v) i = (getB u i ^^ getB v i) := by
  rw [getB, getB, getB, xorW_getD, UInt64.toNat_xor, Nat.testBit_xor]
theorem byteS_ofN (l : List ByteArray) (u v : List UInt64) (k j : Nat) : byteS (ofN l (xorW u v) k) j = byteS (ofN l u k) j ^^^ byteS (ofN l v k) j := by
  induction k with
  | zero => simp [ofN, byteS_empty]
  | succ k ih =>
    simp only [ofN, getB_xorW]
    cases hu : getB u k <;> cases hv : getB v k <;> simp [byteS_xorS, ih]
    · rw [UInt8.xor_assoc]
    · rw [UInt8.xor_assoc, UInt8.xor_comm (byteS (ofN l v k) j), ← UInt8.xor_assoc]
    · have : ∀ x y z : UInt8, x ^^^ z ^^^ (y ^^^ z) = x ^^^ y := fun x y z => by
        rw [UInt8.xor_assoc, UInt8.xor_comm y z, ← UInt8.xor_assoc z z y, UInt8.xor_self, UInt8.zero_xor]
      rw [this]
theorem getB_far (v : List UInt64) (i : Nat) (h : 64 * v.length ≤ i) : getB v i = false := getB_out v i (by omega)
theorem holdsB_iff (l : List ByteArray) (v : List UInt64) (d : ByteArray) : holdsB l v d = true ↔ (∀ i, l.length ≤ i → getB v i = false) ∧ ∀ j, byteS (ofS l v) j = byteS d j := by
  have hb : ((listS (xorS (ofS l v) d)).all fun x => x == 0) = true ↔ ∀ j, byteS (ofS l v) j = byteS d j := by
    rw [all0_iff]
    constructor
    · intro h j; have := h j; rw [byteS_xorS] at this; exact UInt8.xor_eq_zero_iff.1 this
    · intro h j; rw [byteS_xorS, h j, UInt8.xor_self]
  constructor
  · intro h
    have h1 : ∀ i, l.length ≤ i → getB v i = false := by
      intro i hi
      by_cases hi2 : i < 64 * v.length
      · cases hg : getB v i with
        | false => rfl
        | true => rw [holdsB_no_bit l v d i hi hi2 hg] at h; cases h
      · exact getB_far v i (by omega)
    refine ⟨h1, ?_⟩
    rw [holdsB_bits l v d (fun i h2 _ => h1 i h2)] at h
    exact hb.1 h
  · rintro ⟨h1, h2⟩
    rw [holdsB_bits l v d (fun i h3 _ => h1 i h3)]
    exact hb.2 h2

end Go.Proofs.YtnfabflkajpkfaaDoor.Base
