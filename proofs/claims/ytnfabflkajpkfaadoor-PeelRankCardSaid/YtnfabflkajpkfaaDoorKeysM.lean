/- slices.Sorted(maps.Keys(m)), m a map from whole numbers to rows that the call itself has made. No condition. -/
import Derived.Test.YtnfabflkajpkfaaDoorMapS
import Derived.Test.YtnfabflkajpkfaaDoorShelf
import Derived.Shelf.SlIterI.Nil
import Derived.Maps.Ext
namespace Go.Proofs.YtnfabflkajpkfaaDoor.KeysM
open Go Go.RowKit Go.Maps Go.Sort Go.Shelf Go.Proofs.YtnfabflkajpkfaaDoorW.PrintWords Go.Proofs.YtnfabflkajpkfaaDoor.Base Go.Proofs.YtnfabflkajpkfaaDoor.Kinds Go.Proofs.YtnfabflkajpkfaaDoor.MapS
set_option linter.unusedVariables false
set_option linter.unusedSimpArgs false

def renS : Go.Shelf.Ren := ⟨fun | 6 => 43 | 8 => 71 | 9 => 72 | 11 => 87 | n => n, fun | 0 => 0 | 24 => 30 | 26 => 3 | 28 => 52 | 33 => 80 | n => n, fun | n => n⟩
def renK : Go.Shelf.Ren := ⟨fun | 7 => 44 | 10 => 73 | n => n, fun | 0 => 0 | 3 => 36 | 4 => 4 | 23 => 47 | 26 => 3 | 27 => 51 | 28 => 52 | 33 => 80 | n => n, fun | n => n⟩
theorem laysS : SlLaysZI.n6 Tryd.prog renS := {
  mixed := by kernel_rfl
  f6 := ⟨Tryd.f43.name, by decide, Tryd.func43.trans (congrArg some (by kernel_rfl))⟩
  f8 := ⟨Tryd.f71.name, by decide, Tryd.func71.trans (congrArg some (by kernel_rfl))⟩
  f11 := ⟨Tryd.f87.name, by decide, Tryd.func87.trans (congrArg some (by kernel_rfl))⟩
  t0 := Tryd.underlying0, a0 := Tryd.isAgg0, z0 := Tryd.sizeOf0, v0 := Tryd.zeroValue0
  t24 := Tryd.underlying30, a24 := Tryd.isAgg30, z24 := Tryd.sizeOf30, v24 := Tryd.zeroValue30
  t26 := Tryd.underlying3, a26 := Tryd.isAgg3, z26 := Tryd.sizeOf3, v26 := Tryd.zeroValue3
  t28 := Tryd.underlying52, a28 := Tryd.isAgg52, z28 := Tryd.sizeOf52, v28 := Tryd.zeroValue52
  i26 := by kernel_rfl }
theorem laysK : SlLaysZI.n7 Tryd.prog renK := {
  mixed := by kernel_rfl
  f7 := ⟨Tryd.f44.name, by decide, Tryd.func44.trans (congrArg some (by kernel_rfl))⟩
  f10 := ⟨Tryd.f73.name, by decide, Tryd.func73.trans (congrArg some (by kernel_rfl))⟩
  t0 := Tryd.underlying0, a0 := Tryd.isAgg0, z0 := Tryd.sizeOf0, v0 := Tryd.zeroValue0
  t4 := Tryd.underlying4, a4 := Tryd.isAgg4, z4 := Tryd.sizeOf4, v4 := Tryd.zeroValue4
  t23 := Tryd.underlying47, a23 := Tryd.isAgg47, z23 := Tryd.sizeOf47, v23 := Tryd.zeroValue47
  t26 := Tryd.underlying3, a26 := Tryd.isAgg3, z26 := Tryd.sizeOf3, v26 := Tryd.zeroValue3
  t27 := Tryd.underlying51, a27 := Tryd.isAgg51, z27 := Tryd.sizeOf51, v27 := Tryd.zeroValue51
  t28 := Tryd.underlying52, a28 := Tryd.isAgg52, z28 := Tryd.sizeOf52, v28 := Tryd.zeroValue52
  t33 := Tryd.underlying80, a33 := Tryd.isAgg80, z33 := Tryd.sizeOf80, v33 := Tryd.zeroValue80 }
theorem sortsI (m : Nat) : AnyZI.SortsIn Tryd.prog renS Fence.wide m :=
  ⟨fun blk off cap ss W hH hblk hsz => callsIn_wide.2 (Tryd.slices_Sort_int blk off cap ss W hH hblk hsz),
   fun p cap W => callsIn_wide.2 (Tryd.slices_Sort_int_none p cap W)⟩
theorem Keys_any (mb : Option Nat) (W : World) :
    Calls Tryd.prog 44 #[.map mb] W fun e w' => e = .returned (.func (.func 73) #[] #[.pointer (some ⟨W.heap.size, 0, none⟩)]) ∧ w' = W.alloc (.cells #[.map mb] 47) :=
  (callsIn_wide (n := 5)).1 (AnyZI.keys_in laysK Fence.wide 5 trivial rfl mb W)
theorem Sorted_any {H : Type} {R : Value → Option (DataW H × List MemPlace)} (b nn : Nat) (D0 : DataW H) (W : World) (hown : W.ownsMap Tryd.prog 3 R b nn D0) (hmax : Maps.size D0 ≤ 1099511627776) :
    Calls Tryd.prog 43 #[.func (.func 73) #[] #[.pointer (some ⟨W.heap.size, 0, none⟩)]] (W.alloc (.cells #[.map (some b)] 47)) fun e w' =>
      ∃ (v : Value) (ss : List Int), e = .returned v ∧ ss.Perm (intKeys D0) ∧
        w'.ownsRow (W.heap.size + 1) 3 1 v ss.length ((ss.mergeSort (fun x y => decide (x ≤ y))).map encZ) ∧ Below (W.heap.size + 1) (W.alloc (.cells #[.map (some b)] 47)) w' := by
  have hbl := hown.lt
  have hseq : SeqGives Fence.wide 2 Tryd.prog 73 #[.pointer (some ⟨W.heap.size, 0, none⟩)] encZ (fun ss => ss.Perm (intKeys D0)) (Maps.size D0) (W.alloc (.cells #[.map (some b)] 47)) :=
    AnyZI.keys_gives (ρ := renK) { laysK with } Fence.wide _ trivial rfl (by omega) W.heap.size b nn D0 _ (by simp) (by simp) (by
      obtain ⟨es, clock, hb, Ft, hs, hD⟩ := hown
      exact ⟨es, clock, (Below.heap_alloc _ _ b hbl).trans hb, Ft, hs, hD⟩)
  have cS := AnyZI.sorted_in laysS Fence.wide 5 trivial trivial trivial trivial rfl (by omega) (sortsI _) (enters_of Tryd.func72 (by kernel_rfl) rfl) 73 #[.pointer (some ⟨W.heap.size, 0, none⟩)] trivial (enters_of Tryd.func73 (by kernel_rfl) rfl) _ _ (by simp only [maxLen]; omega) (by omega) _ hseq
  change CallsIn _ _ Tryd.prog 43 _ _ _ at cS
  refine ((callsIn_wide (n := 5)).1 cS).mono ?_
  rintro e w' ⟨v, ss, rfl, hS, hrow, hnil, hb⟩
  rw [show (W.alloc (.cells #[.map (some b)] 47)).heap.size = W.heap.size + 1 by simp] at hrow hb
  exact ⟨v, ss, rfl, hS, hrow, hb⟩
/-- the numbers of a map, rising -/
def Keyset (l : List Nat) (m : Nat → Option RowL) : Prop := l.Pairwise (· < ·) ∧ ∀ i, i ∈ l ↔ ∃ r, m i = some r
theorem keys_sorted {w0 w : World} {b nn : Nat} {D : DataW Value} {m : Nat → Option RowL} {l : List Nat} (h : w.ownsMap Tryd.prog 3 Rv b nn D) (hM : MRel w0 w D m) (hl : Keyset l m) {ss : List Int} (hp : ss.Perm (intKeys D)) :
    ss.mergeSort (fun x y => decide (x ≤ y)) = l.map fun i : Nat => (i : Int) := by
  obtain ⟨es, rfl, h1, h2⟩ := h.canon kI
  have hin : ∀ p ∈ es, has (.map es) p.1 = true := fun p hp => by
    rw [has_eq]
    exact List.any_eq_true.2 ⟨p, hp, WideAt.sameKey_self (h2 p hp)⟩
  have hk : ∀ p ∈ es, ∃ x, p.1 = .int .i64 x := fun p hp => by
    obtain ⟨i, r, e, _⟩ := hM.2.2 _ (hin p hp)
    exact ⟨i, e⟩
  have hs : (l.map fun i : Nat => (i : Int)).Pairwise (· < ·) := List.pairwise_map.2 (hl.1.imp fun h => by omega)
  have hnd : (l.map fun i : Nat => (i : Int)).Nodup := hs.imp fun h e => by omega
  have hm : ∀ x, x ∈ (l.map fun i : Nat => (i : Int)) ↔ has (.map es) (.int .i64 x) = true := by
    intro x
    constructor
    · intro hx
      obtain ⟨i, hi, rfl⟩ := List.mem_map.1 hx
      obtain ⟨r, hr⟩ := (hl.2 i).1 hi
      exact hM.has hr
    · intro hx
      obtain ⟨i, r, e, hr⟩ := hM.2.2 _ hx
      have : x = (i : Int) := by simpa [kl] using e
      exact List.mem_map.2 ⟨i, (hl.2 i).2 ⟨r, hr⟩, this.symm⟩
  have hp2 := perm_intKeys (apart_of_rising h1) hk hnd hm
  rw [show (fun x y : Int => decide (x ≤ y)) = leI from rfl, mergeSort_of_perm_i (hp.trans hp2.symm)]
  exact List.mergeSort_of_pairwise (hs.imp fun h => by simp only [leI, decide_eq_true_eq]; omega)
theorem size_le {w : World} {b nn : Nat} {D : DataW Value} (h : w.ownsMap Tryd.prog 3 Rv b nn D) : Maps.size D ≤ nn := by
  obtain ⟨es, clock, _, _, hs, rfl⟩ := h
  show ((es.toList.map _).foldr DataW.insert []).length ≤ nn
  rw [length_sorted, List.length_map]
  simpa using hs
/-- slices.Sorted behind maps.Keys: the numbers, rising -/
theorem SortedKeys_any {w0 : World} (b nn : Nat) (D : DataW Value) (m : Nat → Option RowL) (l : List Nat) (W : World) (h : W.ownsMap Tryd.prog 3 Rv b nn D) (hM : MRel w0 W D m) (hl : Keyset l m) (hn : nn ≤ 1099511627776) :
    Calls Tryd.prog 43 #[.func (.func 73) #[] #[.pointer (some ⟨W.heap.size, 0, none⟩)]] (W.alloc (.cells #[.map (some b)] 47)) fun e w' =>
      ∃ A c, e = .returned (.slice A l.length c) ∧ (Kd.int .i64).C w' A l.length (l.map fun i : Nat => (i : Int)) ∧ Below W.heap.size W w' := by
  have hal : Below W.heap.size W (W.alloc (.cells #[.map (some b)] 47)) := (Below.refl _ _).alloc (Nat.le_refl _) _
  refine (Sorted_any b nn D W h (Nat.le_trans (size_le h) hn)).mono ?_
  rintro e w' ⟨v, ss, rfl, hp, hrow, hb⟩
  have hso := keys_sorted h hM hl hp
  rw [hso] at hrow
  have hlen : ss.length = l.length := by
    have := congrArg List.length hso
    simpa using this
  rw [hlen] at hrow
  obtain ⟨A, c, rfl, hc, hC⟩ := Own.C_int (k := .i64) (Own.of_row hrow)
  rw [List.length_map] at hC ⊢
  exact ⟨A, c, rfl, hC, hal.trans (hb.mono (by simp))⟩

end Go.Proofs.YtnfabflkajpkfaaDoor.KeysM
