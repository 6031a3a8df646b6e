/- The laws' own helpers. -/
import Derived.Test.YtcingdhgohakkaaXorR
namespace Go.Proofs.Ytcingdhgohakkaa.XorL
open Go Go.RowKit Go.Proofs.YtcingdhgohakkaaW.PrintWords Go.Proofs.Ytcingdhgohakkaa.Base Go.Proofs.Ytcingdhgohakkaa.Kinds Go.Proofs.Ytcingdhgohakkaa.XorR
set_option linter.unusedVariables false
set_option linter.unusedSimpArgs false

def fewB (l : List ByteArray) : Bool := decide (l.length ≤ 300) && l.all fun s => decide (s.size ≤ 1000)
theorem fewB_yes {l : List ByteArray} (h : fewB l = true) : l.length ≤ 300 ∧ ∀ s ∈ l, s.size ≤ 1000 := by
  rw [fewB, Bool.and_eq_true, List.all_eq_true] at h
  exact ⟨by simpa using h.1, fun s hs => by simpa using h.2 s hs⟩
theorem fewB_long {l : List ByteArray} (h : 300 < l.length) : fewB l = false := by
  rw [fewB, decide_eq_false (by omega), Bool.false_and]
theorem fewB_one {l : List ByteArray} (k : Nat) (hk : k < l.length) (h : 1000 < (l[k]).size) : fewB l = false := by
  rw [fewB, Bool.and_eq_false_iff]
  right
  rw [List.all_eq_false]
  exact ⟨_, List.getElem_mem hk, by simpa using h⟩
theorem fewB_all {l : List ByteArray} (h1 : l.length ≤ 300) (h : ∀ k (hk : k < l.length), (l[k]).size ≤ 1000) : fewB l = true := by
  rw [fewB, decide_eq_true h1, Bool.true_and, List.all_eq_true]
  intro s hs
  obtain ⟨k, hk, rfl⟩ := List.getElem_of_mem hs
  exact decide_eq_true (h k hk)

set_option maxHeartbeats 400000 in
theorem few_any (A : Option Addr) (c : Nat) (l : List ByteArray) (w : World) (hC : Kd.string.C w A l.length l) :
    Calls Try.prog 8 #[.slice A l.length c] w fun e w' => e = .returned (.bool (fewB l)) ∧ w = w' := by
  have hm := C_max hC
  have HC := Aside0.mk hC
  clear hC
  by_cases h3 : 300 < l.length
  · have HE := Aside0.mk (fewB_long h3)
    go_enter Try.func8, Try.ntmps8
    go_wp2
    go_ret
    exact ⟨by rw [HE.out]; rfl, rfl⟩
  · go_enter Try.func8, Try.ntmps8
    go_wp2
    go_loop [3] (fun i => ∃ k : Nat, k ≤ l.length ∧ i = .int .i64 k ∧ Aside0 (∀ j (hj : j < l.length), j < k → (l[j]).size ≤ 1000)) (fun i => l.length - (intOf i).toNat)
    case atStart => exact ⟨0, Nat.zero_le _, rfl, ⟨fun j _ h => by omega⟩⟩
    case round =>
      obtain ⟨k, hk, rfl, HR⟩ := hrel
      by_cases hlt : k < l.length
      · obtain ⟨ad, rfl, hcell⟩ := at_str HC.out k hlt
        by_cases hb : 1000 < (l[k]).size
        · have HE := Aside0.mk (fewB_one k hlt hb)
          go_wp2
          go_ret
          exact ⟨by rw [HE.out]; rfl, rfl⟩
        · have HN : Aside0 (∀ j (hj : j < l.length), j < k + 1 → (l[j]).size ≤ 1000) := ⟨fun j hj h => by
            by_cases he : j = k
            · subst he; omega
            · exact HR.out j hj (by omega)⟩
          go_wp2
          go_round
          case rel => exact ⟨k + 1, by omega, by go_num, HN⟩
          case measure => simp [intOf]; omega
      · have HE := Aside0.mk (fewB_all (l := l) (by omega) (fun j hj => HR.out j hj (by omega)))
        go_wp2
        go_ret
        exact ⟨by rw [HE.out]; rfl, rfl⟩

def rowsB (l : List RowL) : Bool := decide (l.length ≤ 300) && l.all fun r => decide (r.vec.length ≤ 10) && decide (r.data.size ≤ 1000)
theorem rowsB_yes {l : List RowL} (h : rowsB l = true) : l.length ≤ 300 ∧ ∀ r ∈ l, r.vec.length ≤ 10 ∧ r.data.size ≤ 1000 := by
  rw [rowsB, Bool.and_eq_true, List.all_eq_true] at h
  exact ⟨by simpa using h.1, fun s hs => by simpa using h.2 s hs⟩
theorem rowsB_long {l : List RowL} (h : 300 < l.length) : rowsB l = false := by
  rw [rowsB, decide_eq_false (by omega), Bool.false_and]
theorem rowsB_one {l : List RowL} (k : Nat) (hk : k < l.length) (h : 10 < (l[k]).vec.length ∨ 1000 < (l[k]).data.size) : rowsB l = false := by
  rw [rowsB, Bool.and_eq_false_iff]
  right
  rw [List.all_eq_false]
  refine ⟨_, List.getElem_mem hk, ?_⟩
  rw [Bool.not_eq_true, Bool.and_eq_false_iff]
  rcases h with h | h
  · left; exact decide_eq_false (by omega)
  · right; exact decide_eq_false (by omega)
theorem rowsB_all {l : List RowL} (h1 : l.length ≤ 300) (h : ∀ k (hk : k < l.length), (l[k]).vec.length ≤ 10 ∧ (l[k]).data.size ≤ 1000) : rowsB l = true := by
  rw [rowsB, decide_eq_true h1, Bool.true_and, List.all_eq_true]
  intro s hs
  obtain ⟨k, hk, rfl⟩ := List.getElem_of_mem hs
  rw [decide_eq_true (h k hk).1, decide_eq_true (h k hk).2]; rfl

def rowsI (l : List RowL) : Int := if rowsB l = true then 1 else 0
theorem rowsI_yes {l : List RowL} (h : rowsB l = true) : rowsI l = 1 := by rw [rowsI, if_pos h]
theorem rowsI_no {l : List RowL} (h : rowsB l = false) : rowsI l = 0 := by rw [rowsI, h]; rfl

set_option maxHeartbeats 400000 in
theorem Few_any (A : Option Addr) (c : Nat) (l : List RowL) (w : World) (hC : KRow.C w A l.length l) :
    Calls Try.prog 16 #[.slice A l.length c] w fun e w' => e = .returned (.int .i64 (rowsI l)) ∧ w = w' := by
  have hm := C_max hC
  have HC := Aside0.mk hC
  clear hC
  by_cases h3 : 300 < l.length
  · have HE := Aside0.mk (rowsI_no (rowsB_long h3))
    go_enter Try.func16, Try.ntmps16
    go_wp2
    go_ret
    exact ⟨by rw [HE.out]; rfl, rfl⟩
  · go_enter Try.func16, Try.ntmps16
    go_wp2
    go_loop [3] (fun i => ∃ k : Nat, k ≤ l.length ∧ i = .int .i64 k ∧ Aside0 (∀ j (hj : j < l.length), j < k → (l[j]).vec.length ≤ 10 ∧ (l[j]).data.size ≤ 1000)) (fun i => l.length - (intOf i).toNat)
    case atStart => exact ⟨0, Nat.zero_le _, rfl, ⟨fun j _ h => by omega⟩⟩
    case round =>
      obtain ⟨k, hk, rfl, HR⟩ := hrel
      by_cases hlt : k < l.length
      · obtain ⟨ad, A0, c0, rfl, hc1, hc2, _, hV⟩ := at_row HC.out k hlt
        clear hV
        by_cases hb : 10 < (l[k]).vec.length
        · have HE := Aside0.mk (rowsI_no (rowsB_one k hlt (.inl hb)))
          go_wp2
          go_ret
          exact ⟨by rw [HE.out]; rfl, rfl⟩
        · by_cases hb2 : 1000 < (l[k]).data.size
          · have HE := Aside0.mk (rowsI_no (rowsB_one k hlt (.inr hb2)))
            go_wp2
            go_ret
            exact ⟨by rw [HE.out]; rfl, rfl⟩
          · have HN : Aside0 (∀ j (hj : j < l.length), j < k + 1 → (l[j]).vec.length ≤ 10 ∧ (l[j]).data.size ≤ 1000) := ⟨fun j hj h => by
              by_cases he : j = k
              · subst he; omega
              · exact HR.out j hj (by omega)⟩
            go_wp2
            go_round
            case rel => exact ⟨k + 1, by omega, by go_num, HN⟩
            case measure => simp [intOf]; omega
      · have HE := Aside0.mk (rowsI_yes (rowsB_all (l := l) (by omega) (fun j hj => HR.out j hj (by omega))))
        go_wp2
        go_ret
        exact ⟨by rw [HE.out]; rfl, rfl⟩

def ba : ByteArray := ⟨#[97]⟩
def bb : ByteArray := ⟨#[98]⟩
def bc : ByteArray := ⟨#[99]⟩
theorem row_lit {W : World} {g : Nat} {c : Nat} (v : List UInt64) (s : ByteArray) {e : TypeId} {fr : Nat × Nat} (h : W.heap[g]? = some (.cells (v.map encW).toArray e fr)) (hv : v.length ≤ c) (hm : v.length ≤ 9223372036854775807) : KRow.K W ⟨v, s⟩ [.slice (some ⟨g, 0, none⟩) v.length c, .string s] :=
  KRow_mk (r := ⟨v, s⟩) hv (C_litW v h hm)

theorem x1 : xorS ⟨#[97]⟩ ⟨#[98]⟩ = ⟨#[3]⟩ := by rfl
theorem x2 : ofS [⟨#[97]⟩, ⟨#[98]⟩, ⟨#[99]⟩] [5] = ⟨#[2]⟩ := by rfl
theorem x3 : sumS [⟨#[97]⟩, ⟨#[98]⟩, ⟨#[99]⟩] = ⟨#[96]⟩ := by rfl
theorem x4 : rowX [⟨[1], ⟨#[97]⟩⟩, ⟨[3], ⟨#[98]⟩⟩] = ⟨[2], ⟨#[3]⟩⟩ := by rfl
theorem x5 : sameR ⟨[2], ⟨#[3]⟩⟩ ⟨[2], ⟨#[3]⟩⟩ = true := by decide +kernel
theorem x6 : holdsB [⟨#[97]⟩, ⟨#[98]⟩, ⟨#[99]⟩] [1] ⟨#[97]⟩ = true := by decide +kernel
theorem x7 : holdsB [⟨#[97]⟩, ⟨#[98]⟩, ⟨#[99]⟩] [8] ⟨#[97]⟩ = false := by decide +kernel
theorem x8 : holdsB [⟨#[97]⟩, ⟨#[98]⟩, ⟨#[99]⟩] [1] ⟨#[98]⟩ = false := by decide +kernel

set_option maxHeartbeats 400000 in
theorem awake_any (w : World) : Calls Try.prog 9 #[] w fun e w' => e = .returned (.bool true) ∧ Below w.heap.size w w' := by
  go_enter Try.func9, Try.ntmps9
  go_wp2_with fail
  generalize hW : ((((w.alloc (.cells #[.string ⟨#[97]⟩, .string ⟨#[98]⟩, .string ⟨#[99]⟩] 9)).alloc (.cells #[.int .u64 1] 40)).alloc (.cells #[.int .u64 3] 40)).alloc (.cells #[.slice (some ⟨w.heap.size + 1, 0, none⟩) 1 1, .string ⟨#[97]⟩, .slice (some ⟨w.heap.size + 1 + 1, 0, none⟩) 1 1, .string ⟨#[98]⟩] 35)) = W
  have h0 : W.heap[w.heap.size]? = some (.cells #[.string ⟨#[97]⟩, .string ⟨#[98]⟩, .string ⟨#[99]⟩] 9 (0, 0)) := by rw [← hW]; exact hp_old (hp_old (hp_old (hp_new _ _ _ rfl) _) _) _
  have h1 : W.heap[w.heap.size + 1]? = some (.cells #[.int .u64 1] 40 (0, 0)) := by rw [← hW]; exact hp_old (hp_old (hp_new _ _ _ (by simp)) _) _
  have h2 : W.heap[w.heap.size + 1 + 1]? = some (.cells #[.int .u64 3] 40 (0, 0)) := by rw [← hW]; exact hp_old (hp_new _ _ _ (by simp)) _
  have h3 : W.heap[w.heap.size + 1 + 1 + 1]? = some (.cells #[.slice (some ⟨w.heap.size + 1, 0, none⟩) 1 1, .string ⟨#[97]⟩, .slice (some ⟨w.heap.size + 1 + 1, 0, none⟩) 1 1, .string ⟨#[98]⟩] 35 (0, 0)) := by rw [← hW]; exact hp_new _ _ _ (by simp)
  have HB : Aside0 (Below w.heap.size w W) := ⟨by rw [← hW]; exact ((((Below.refl _ _).alloc (Nat.le_refl _) _).alloc (by simp) _).alloc (by simp; omega) _).alloc (by simp; omega) _⟩
  have hz : W.heap.size = w.heap.size + 4 := by rw [← hW]; simp
  clear hW
  have HC1 : Aside0 (KRow.C W (some ⟨w.heap.size + 1 + 1 + 1, 0, none⟩) 2 [⟨[1], ⟨#[97]⟩⟩, ⟨[3], ⟨#[98]⟩⟩]) := ⟨C_lit (d := KRow) [⟨[1], ⟨#[97]⟩⟩, ⟨[3], ⟨#[98]⟩⟩] [[.slice (some ⟨w.heap.size + 1, 0, none⟩) 1 1, .string ⟨#[97]⟩], [.slice (some ⟨w.heap.size + 1 + 1, 0, none⟩) 1 1, .string ⟨#[98]⟩]] h3 rfl (fun j hj => by
    match j, hj with
    | 0, _ => exact row_lit [1] ⟨#[97]⟩ h1 (Nat.le_refl _) (by decide)
    | 1, _ => exact row_lit [3] ⟨#[98]⟩ h2 (Nat.le_refl _) (by decide)) (by decide)⟩
  have HC0 : Aside0 (Kd.string.C W (some ⟨w.heap.size, 0, none⟩) 3 [⟨#[97]⟩, ⟨#[98]⟩, ⟨#[99]⟩]) := ⟨C_litS [⟨#[97]⟩, ⟨#[98]⟩, ⟨#[99]⟩] h0 (by decide)⟩
  clear h0 h1 h2 h3
  have HS : ∀ W', Below W.heap.size W W' → Kd.string.C W' (some ⟨w.heap.size, 0, none⟩) [(⟨#[97]⟩ : ByteArray), ⟨#[98]⟩, ⟨#[99]⟩].length [⟨#[97]⟩, ⟨#[98]⟩, ⟨#[99]⟩] := fun W' h => Kd.C_below HC0.out h
  have HS := Aside0.mk HS
  have HL : Aside0 (∀ s ∈ [(⟨#[97]⟩ : ByteArray), ⟨#[98]⟩, ⟨#[99]⟩], s.size ≤ 281474976710656) := ⟨by decide⟩
  refine (Row_any _ _ [⟨[1], ⟨#[97]⟩⟩, ⟨[3], ⟨#[98]⟩⟩] _ HC1.out (by decide)).mono ?_
  rintro e w1 ⟨v, rfl, hO, hB1⟩
  rw [x4] at hO ⊢
  obtain ⟨Av, cv, rfl, _, hVC⟩ := hO.Cw
  have HV := Aside0.mk hVC
  have HB1 := Aside0.mk hB1
  clear hO hVC hB1 HC1 HC0
  go_wp2_with fail
  generalize hW1 : w1.alloc _ = W1
  have HBA1 : Aside0 (Below w1.heap.size w1 W1) := ⟨by rw [← hW1]; exact (Below.refl _ _).alloc (Nat.le_refl _) _⟩
  have k0 : W1.cell? ⟨w1.heap.size, 0, none⟩ = some (.slice Av 1 cv) := by rw [← hW1]; simp
  have k1 : W1.cell? ⟨w1.heap.size, 1, none⟩ = some (.string ⟨#[3]⟩) := by rw [← hW1]; simp
  have hz1 : W1.heap.size = w1.heap.size + 1 := by rw [← hW1]; simp
  clear hW1
  refine (Xor.Xor_any _ _ _ (by decide) (by decide)).mono ?_
  rintro e w2 ⟨rfl, hB2⟩
  rw [x1]
  have HB2 := Aside0.mk hB2
  clear hB2
  have HBW : Aside0 (Below W.heap.size W W1) := ⟨bthn HB1.out (Nat.le_refl _) HBA1.out⟩
  have HBw2 : Aside0 (Below W1.heap.size W1 w2) := HB2
  go_wp2_with fail
  generalize hW3 : w2.alloc (.cells #[.int .u64 5] 40) = W3
  have HB3 := Aside0.mk (show Below W1.heap.size W1 W3 by rw [← hW3]; exact bal HBw2.out (Nat.le_refl _) _)
  have HV3 := Aside0.mk (show Kw.C W3 (some ⟨w2.heap.size, 0, none⟩) 1 [5] by rw [← hW3]; exact C_one _ _ _ _ rfl)
  clear hW3
  refine (XorB.Of_any _ _ _ _ [⟨#[97]⟩, ⟨#[98]⟩, ⟨#[99]⟩] [5] W3 (HS.out _ (bthn HBW.out (Nat.le_refl _) HB3.out)) HV3.out HL.out).mono ?_
  rintro e w3 ⟨rfl, hb⟩
  rw [x2]
  have HBw3 := Aside0.mk (bthn HB3.out (Nat.le_refl _) hb)
  clear hb
  go_wp2_with fail
  refine (Xor.Sum_any _ _ [⟨#[97]⟩, ⟨#[98]⟩, ⟨#[99]⟩] w3 (HS.out _ (bthn HBW.out (Nat.le_refl _) HBw3.out)) HL.out).mono ?_
  rintro e w4 ⟨rfl, hb⟩
  rw [x3]
  have HBw4 := Aside0.mk (bthn HBw3.out (Nat.le_refl _) hb)
  clear hb
  have j0 := (HBw4.out.cell (p := ⟨w1.heap.size, 0, none⟩) (by simp [hz1])).trans k0
  have j1 := (HBw4.out.cell (p := ⟨w1.heap.size, 1, none⟩) (by simp [hz1])).trans k1
  clear k0 k1
  go_wp2_with fail
  generalize hW5 : w4.alloc (.cells #[.int .u64 2] 40) = W5
  have HB5 := Aside0.mk (show Below W1.heap.size W1 W5 by rw [← hW5]; exact bal HBw4.out (Nat.le_refl _) _)
  have HV5 := Aside0.mk (show Kw.C W5 (some ⟨w4.heap.size, 0, none⟩) 1 [2] by rw [← hW5]; exact C_one _ _ _ _ rfl)
  clear hW5 j0 j1
  refine (Same_any _ _ _ _ ⟨[2], ⟨#[3]⟩⟩ ⟨[2], ⟨#[3]⟩⟩ W5 (Kd.C_below HV.out (bthn HBA1.out (Nat.le_refl _) HB5.out)) HV5.out (by decide) (by decide)).mono ?_
  rintro e w5 ⟨rfl, hb⟩
  rw [x5]
  have HBw5 := Aside0.mk (bthn HB5.out (Nat.le_refl _) hb)
  clear hb
  go_wp2_with fail
  generalize hW6 : w5.alloc (.cells #[.int .u64 1] 40) = W6
  have HB6 := Aside0.mk (show Below W1.heap.size W1 W6 by rw [← hW6]; exact bal HBw5.out (Nat.le_refl _) _)
  have HV6 := Aside0.mk (show Kw.C W6 (some ⟨w5.heap.size, 0, none⟩) 1 [1] by rw [← hW6]; exact C_one _ _ _ _ rfl)
  clear hW6
  refine (Holds_any _ _ _ _ [⟨#[97]⟩, ⟨#[98]⟩, ⟨#[99]⟩] ⟨[1], ⟨#[97]⟩⟩ W6 (HS.out _ (bthn HBW.out (Nat.le_refl _) HB6.out)) HV6.out HL.out (by decide) (by decide)).mono ?_
  rintro e w6 ⟨rfl, hb⟩
  rw [x6]
  have HBw6 := Aside0.mk (bthn HB6.out (Nat.le_refl _) hb)
  clear hb
  go_wp2_with fail
  generalize hW7 : w6.alloc (.cells #[.int .u64 8] 40) = W7
  have HB7 := Aside0.mk (show Below W1.heap.size W1 W7 by rw [← hW7]; exact bal HBw6.out (Nat.le_refl _) _)
  have HV7 := Aside0.mk (show Kw.C W7 (some ⟨w6.heap.size, 0, none⟩) 1 [8] by rw [← hW7]; exact C_one _ _ _ _ rfl)
  clear hW7
  refine (Holds_any _ _ _ _ [⟨#[97]⟩, ⟨#[98]⟩, ⟨#[99]⟩] ⟨[8], ⟨#[97]⟩⟩ W7 (HS.out _ (bthn HBW.out (Nat.le_refl _) HB7.out)) HV7.out HL.out (by decide) (by decide)).mono ?_
  rintro e w7 ⟨rfl, hb⟩
  rw [x7]
  have HBw7 := Aside0.mk (bthn HB7.out (Nat.le_refl _) hb)
  clear hb
  go_wp2_with fail
  generalize hW8 : w7.alloc (.cells #[.int .u64 1] 40) = W8
  have HB8 := Aside0.mk (show Below W1.heap.size W1 W8 by rw [← hW8]; exact bal HBw7.out (Nat.le_refl _) _)
  have HV8 := Aside0.mk (show Kw.C W8 (some ⟨w7.heap.size, 0, none⟩) 1 [1] by rw [← hW8]; exact C_one _ _ _ _ rfl)
  clear hW8
  refine (Holds_any _ _ _ _ [⟨#[97]⟩, ⟨#[98]⟩, ⟨#[99]⟩] ⟨[1], ⟨#[98]⟩⟩ W8 (HS.out _ (bthn HBW.out (Nat.le_refl _) HB8.out)) HV8.out HL.out (by decide) (by decide)).mono ?_
  rintro e w8 ⟨rfl, hb⟩
  rw [x8]
  have HBw8 := Aside0.mk (bthn HB8.out (Nat.le_refl _) hb)
  clear hb
  go_wp2
  go_ret
  exact ⟨rfl, (HB.out.trans (HBW.out.mono (by omega))).trans (HBw8.out.mono (by have := HB.out.size; have := HBW.out.size; omega))⟩

end Go.Proofs.Ytcingdhgohakkaa.XorL
