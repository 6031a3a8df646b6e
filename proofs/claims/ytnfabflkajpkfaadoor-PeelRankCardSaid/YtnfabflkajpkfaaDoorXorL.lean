/- The laws' own helpers. -/
import Derived.Test.YtnfabflkajpkfaaDoorXorR
namespace Go.Proofs.YtnfabflkajpkfaaDoor.XorL
open Go Go.RowKit Go.Proofs.YtnfabflkajpkfaaDoorW.PrintWords Go.Proofs.YtnfabflkajpkfaaDoor.Base Go.Proofs.YtnfabflkajpkfaaDoor.Kinds Go.Proofs.YtnfabflkajpkfaaDoor.XorR
set_option linter.unusedVariables false
set_option linter.unusedSimpArgs false

def fewB (l : List ByteArray) : Bool := decide (l.length ≤ 300) && l.all fun s => decide (s.size ≤ 1000)
theorem fewB_yes {l : List ByteArray} (h : fewB l = true) : l.length ≤ 300 ∧ ∀ s ∈ l, s.size ≤ 1000 := by
  rw [fewB, Bool.and_eq_true, List.all_eq_true] at h
  exact ⟨by simpa using h.1, fun s hs => by simpa using h.2 s hs⟩
theorem fewB_long {l : List ByteArray} (h : 300 < l.length) : fewB l = false := by
  rw [fewB, decide_eq_false (by omega), Bool.false_and]
theorem fewB_one {l : List ByteArray} (k : Nat) (hk : k < l.length) (h : 1000 < (l[k]).size) : fewB l = false := by
  rw [fewB, Bool.and_eq_false_iff]
  right
  rw [List.all_eq_false]
  exact ⟨_, List.getElem_mem hk, by simpa using h⟩
theorem fewB_all {l : List ByteArray} (h1 : l.length ≤ 300) (h : ∀ k (hk : k < l.length), (l[k]).size ≤ 1000) : fewB l = true := by
  rw [fewB, decide_eq_true h1, Bool.true_and, List.all_eq_true]
  intro s hs
  obtain ⟨k, hk, rfl⟩ := List.getElem_of_mem hs
  exact decide_eq_true (h k hk)

def rowsB (l : List RowL) : Bool := decide (l.length ≤ 300) && l.all fun r => decide (r.vec.length ≤ 10) && decide (r.data.size ≤ 1000)
theorem rowsB_yes {l : List RowL} (h : rowsB l = true) : l.length ≤ 300 ∧ ∀ r ∈ l, r.vec.length ≤ 10 ∧ r.data.size ≤ 1000 := by
  rw [rowsB, Bool.and_eq_true, List.all_eq_true] at h
  exact ⟨by simpa using h.1, fun s hs => by simpa using h.2 s hs⟩
theorem rowsB_long {l : List RowL} (h : 300 < l.length) : rowsB l = false := by
  rw [rowsB, decide_eq_false (by omega), Bool.false_and]
theorem rowsB_one {l : List RowL} (k : Nat) (hk : k < l.length) (h : 10 < (l[k]).vec.length ∨ 1000 < (l[k]).data.size) : rowsB l = false := by
  rw [rowsB, Bool.and_eq_false_iff]
  right
  rw [List.all_eq_false]
  refine ⟨_, List.getElem_mem hk, ?_⟩
  rw [Bool.not_eq_true, Bool.and_eq_false_iff]
  rcases h with h | h
  · left; exact decide_eq_false (by omega)
  · right; exact decide_eq_false (by omega)
theorem rowsB_all {l : List RowL} (h1 : l.length ≤ 300) (h : ∀ k (hk : k < l.length), (l[k]).vec.length ≤ 10 ∧ (l[k]).data.size ≤ 1000) : rowsB l = true := by
  rw [rowsB, decide_eq_true h1, Bool.true_and, List.all_eq_true]
  intro s hs
  obtain ⟨k, hk, rfl⟩ := List.getElem_of_mem hs
  rw [decide_eq_true (h k hk).1, decide_eq_true (h k hk).2]; rfl

def rowsI (l : List RowL) : Int := if rowsB l = true then 1 else 0
theorem rowsI_yes {l : List RowL} (h : rowsB l = true) : rowsI l = 1 := by rw [rowsI, if_pos h]
theorem rowsI_no {l : List RowL} (h : rowsB l = false) : rowsI l = 0 := by rw [rowsI, h]; rfl

set_option maxHeartbeats 400000 in
theorem Few_any (A : Option Addr) (c : Nat) (l : List RowL) (w : World) (hC : KRow.C w A l.length l) :
    Calls Tryd.prog 13 #[.slice A l.length c] w fun e w' => e = .returned (.int .i64 (rowsI l)) ∧ w = w' := by
  have hm := C_max hC
  have HC := Aside0.mk hC
  clear hC
  by_cases h3 : 300 < l.length
  · have HE := Aside0.mk (rowsI_no (rowsB_long h3))
    go_enter Tryd.func13, Tryd.ntmps13
    go_wp2
    go_ret
    exact ⟨by rw [HE.out]; rfl, rfl⟩
  · go_enter Tryd.func13, Tryd.ntmps13
    go_wp2
    go_loop [3] (fun i => ∃ k : Nat, k ≤ l.length ∧ i = .int .i64 k ∧ Aside0 (∀ j (hj : j < l.length), j < k → (l[j]).vec.length ≤ 10 ∧ (l[j]).data.size ≤ 1000)) (fun i => l.length - (intOf i).toNat)
    case atStart => exact ⟨0, Nat.zero_le _, rfl, ⟨fun j _ h => by omega⟩⟩
    case round =>
      obtain ⟨k, hk, rfl, HR⟩ := hrel
      by_cases hlt : k < l.length
      · obtain ⟨ad, A0, c0, rfl, hc1, hc2, _, hV⟩ := at_row HC.out k hlt
        clear hV
        by_cases hb : 10 < (l[k]).vec.length
        · have HE := Aside0.mk (rowsI_no (rowsB_one k hlt (.inl hb)))
          go_wp2
          go_ret
          exact ⟨by rw [HE.out]; rfl, rfl⟩
        · by_cases hb2 : 1000 < (l[k]).data.size
          · have HE := Aside0.mk (rowsI_no (rowsB_one k hlt (.inr hb2)))
            go_wp2
            go_ret
            exact ⟨by rw [HE.out]; rfl, rfl⟩
          · have HN : Aside0 (∀ j (hj : j < l.length), j < k + 1 → (l[j]).vec.length ≤ 10 ∧ (l[j]).data.size ≤ 1000) := ⟨fun j hj h => by
              by_cases he : j = k
              · subst he; omega
              · exact HR.out j hj (by omega)⟩
            go_wp2
            go_round
            case rel => exact ⟨k + 1, by omega, by go_num, HN⟩
            case measure => simp [intOf]; omega
      · have HE := Aside0.mk (rowsI_yes (rowsB_all (l := l) (by omega) (fun j hj => HR.out j hj (by omega))))
        go_wp2
        go_ret
        exact ⟨by rw [HE.out]; rfl, rfl⟩

def ba : ByteArray := ⟨#[97]⟩
def bb : ByteArray := ⟨#[98]⟩
def bc : ByteArray := ⟨#[99]⟩
theorem row_lit {W : World} {g : Nat} {c : Nat} (v : List UInt64) (s : ByteArray) {e : TypeId} {fr : Nat × Nat} (h : W.heap[g]? = some (.cells (v.map encW).toArray e fr)) (hv : v.length ≤ c) (hm : v.length ≤ 9223372036854775807) : KRow.K W ⟨v, s⟩ [.slice (some ⟨g, 0, none⟩) v.length c, .string s] :=
  KRow_mk (r := ⟨v, s⟩) hv (C_litW v h hm)

theorem x1 : xorS ⟨#[97]⟩ ⟨#[98]⟩ = ⟨#[3]⟩ := by rfl
theorem x2 : ofS [⟨#[97]⟩, ⟨#[98]⟩, ⟨#[99]⟩] [5] = ⟨#[2]⟩ := by rfl
theorem x3 : sumS [⟨#[97]⟩, ⟨#[98]⟩, ⟨#[99]⟩] = ⟨#[96]⟩ := by rfl
theorem x4 : rowX [⟨[1], ⟨#[97]⟩⟩, ⟨[3], ⟨#[98]⟩⟩] = ⟨[2], ⟨#[3]⟩⟩ := by rfl
theorem x5 : sameR ⟨[2], ⟨#[3]⟩⟩ ⟨[2], ⟨#[3]⟩⟩ = true := by decide +kernel
theorem x6 : holdsB [⟨#[97]⟩, ⟨#[98]⟩, ⟨#[99]⟩] [1] ⟨#[97]⟩ = true := by decide +kernel
theorem x7 : holdsB [⟨#[97]⟩, ⟨#[98]⟩, ⟨#[99]⟩] [8] ⟨#[97]⟩ = false := by decide +kernel
theorem x8 : holdsB [⟨#[97]⟩, ⟨#[98]⟩, ⟨#[99]⟩] [1] ⟨#[98]⟩ = false := by decide +kernel

end Go.Proofs.YtnfabflkajpkfaaDoor.XorL
