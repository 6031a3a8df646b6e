/- The worked example of the peeling laws, plain and walked. Condition: the table is laid. -/
import Derived.Test.YtnfabflkajpkfaaDoorAllR
import Derived.Test.YtnfabflkajpkfaaDoorPeelW
import Derived.Test.YtnfabflkajpkfaaDoorPeelR
import Derived.Test.YtnfabflkajpkfaaDoorRipW
import Derived.Test.YtnfabflkajpkfaaDoorXorL
namespace Go.Proofs.YtnfabflkajpkfaaDoor.LawP
open Go Go.RowKit Go.Proofs.YtnfabflkajpkfaaDoorW.PrintWords Go.Proofs.YtnfabflkajpkfaaDoor.Base Go.Proofs.YtnfabflkajpkfaaDoor.Bits Go.Proofs.YtnfabflkajpkfaaDoor.BitsN Go.Proofs.YtnfabflkajpkfaaDoor.Kinds Go.Proofs.YtnfabflkajpkfaaDoor.Words Go.Proofs.YtnfabflkajpkfaaDoor.WordsP Go.Proofs.YtnfabflkajpkfaaDoor.PeelP Go.Proofs.YtnfabflkajpkfaaDoor.PeelQ Go.Proofs.YtnfabflkajpkfaaDoor.Rows2 Go.Proofs.YtnfabflkajpkfaaDoor.RipP Go.Proofs.YtnfabflkajpkfaaDoor.AllR Go.Proofs.YtnfabflkajpkfaaDoor.XorL
set_option linter.unusedVariables false
set_option linter.unusedSimpArgs false

def r1 : RowL := ⟨[1], ⟨#[97]⟩⟩
def r2 : RowL := ⟨[3], ⟨#[3]⟩⟩
def r3 : RowL := ⟨[12], ⟨#[120]⟩⟩
def r4 : RowL := ⟨[2], ⟨#[98]⟩⟩
theorem val3 : validL 4 [r1, r2, r3] = [r1, r2, r3] := by rfl
theorem none3 : leastN [r1, r2, r3] (seqD [r1, r2, r3] 2) = none := by kernel_rfl
theorem fin3 : finD [r1, r2, r3] = seqD [r1, r2, r3] 2 := (finD_eq (by decide) none3).symm
theorem seq3 : seqD [r1, r2, r3] 2 = [(0, r1), (1, r4)] := by kernel_rfl
theorem known3 : knownL [r1, r2, r3] = [r1, r4] := by rw [knownL, fin3, seq3]; rfl
theorem left3 : leftL [r1, r2, r3] = [r3] := by rw [leftL, fin3, seq3]; kernel_rfl
theorem rip3 : ripI [] [r1, r2, r3] 3 = [0] := by kernel_rfl
theorem rip4 : ripI [r1] [r1, r2, r3] 3 = [1] := by kernel_rfl

set_option maxRecDepth 100000 in
set_option maxHeartbeats 1000000 in
theorem awake13_any (w : World) (hT : TzOk w) : Calls Tryd.prog 14 #[] w fun e w' => e = .returned (.bool true) ∧ Below w.heap.size w w' := by
  have HT := Aside0.mk hT
  clear hT
  go_enter Tryd.func14, Tryd.ntmps14
  go_wp2_with fail
  generalize hW : ((((w.alloc (.cells #[.int .u64 1] 45)).alloc (.cells #[.int .u64 3] 45)).alloc (.cells #[.int .u64 12] 45)).alloc (.cells #[.slice (some ⟨w.heap.size, 0, none⟩) 1 1, .string ⟨#[97]⟩, .slice (some ⟨w.heap.size + 1, 0, none⟩) 1 1, .string ⟨#[3]⟩, .slice (some ⟨w.heap.size + 1 + 1, 0, none⟩) 1 1, .string ⟨#[120]⟩] 36)) = W
  have h0 : W.heap[w.heap.size]? = some (.cells #[.int .u64 1] 45 (0, 0)) := by rw [← hW]; exact hp_old (hp_old (hp_old (hp_new _ _ _ rfl) _) _) _
  have h1 : W.heap[w.heap.size + 1]? = some (.cells #[.int .u64 3] 45 (0, 0)) := by rw [← hW]; exact hp_old (hp_old (hp_new _ _ _ (by simp)) _) _
  have h2 : W.heap[w.heap.size + 1 + 1]? = some (.cells #[.int .u64 12] 45 (0, 0)) := by rw [← hW]; exact hp_old (hp_new _ _ _ (by simp)) _
  have h3 : W.heap[w.heap.size + 1 + 1 + 1]? = some (.cells #[.slice (some ⟨w.heap.size, 0, none⟩) 1 1, .string ⟨#[97]⟩, .slice (some ⟨w.heap.size + 1, 0, none⟩) 1 1, .string ⟨#[3]⟩, .slice (some ⟨w.heap.size + 1 + 1, 0, none⟩) 1 1, .string ⟨#[120]⟩] 36 (0, 0)) := by rw [← hW]; exact hp_new _ _ _ (by simp)
  have HB : Aside0 (Below w.heap.size w W) := ⟨by rw [← hW]; exact ((((Below.refl _ _).alloc (Nat.le_refl _) _).alloc (by simp) _).alloc (by simp; omega) _).alloc (by simp; omega) _⟩
  clear hW
  have HC : Aside0 (KRow.C W (some ⟨w.heap.size + 1 + 1 + 1, 0, none⟩) 3 [r1, r2, r3]) := ⟨C_lit (d := KRow) [r1, r2, r3] [[.slice (some ⟨w.heap.size, 0, none⟩) 1 1, .string ⟨#[97]⟩], [.slice (some ⟨w.heap.size + 1, 0, none⟩) 1 1, .string ⟨#[3]⟩], [.slice (some ⟨w.heap.size + 1 + 1, 0, none⟩) 1 1, .string ⟨#[120]⟩]] h3 rfl (fun j hj => by
    match j, hj with
    | 0, _ => exact row_lit [1] ⟨#[97]⟩ h0 (Nat.le_refl _) (by decide)
    | 1, _ => exact row_lit [3] ⟨#[3]⟩ h1 (Nat.le_refl _) (by decide)
    | 2, _ => exact row_lit [12] ⟨#[120]⟩ h2 (Nat.le_refl _) (by decide)) (by decide)⟩
  clear h0 h1 h2 h3
  generalize hg : w.heap.size + 1 + 1 + 1 = g at *
  clear hg
  have HD : Aside0 (KRow.C W (some ⟨g, 4, none⟩) 1 [r3]) := ⟨by
    have := Kd.C_drop (k := KRow) (m := 2) (c := 3) HC.out (by decide) (by decide)
    simpa [Addr.add, show KRow.sz = 2 from rfl] using this⟩
  have HTW := Aside0.mk (HT.out.below HB.out)
  refine (PeelW.Peel_any _ _ [r1, r2, r3] 4 W HC.out (by decide) (by decide) (by decide) (by decide) HTW.out).mono ?_
  rintro e w1 ⟨va, vb, rfl, hRa, hRb, hb1⟩
  rw [val3, known3] at hRa
  rw [val3, left3] at hRb
  obtain ⟨Aa, ca, rfl, hca, hCa⟩ := hRa.C hb1
  obtain ⟨Ab, cb, rfl, hcb, hCb⟩ := hRb.C hb1
  have HCA := Aside0.mk hCa
  have HCB := Aside0.mk hCb
  have HB1 := Aside0.mk hb1
  clear hRa hRb hCa hCb hb1
  go_wp2_with fail
  generalize hW2 : (((w1.alloc (.cells #[.int .u64 1] 45)).alloc (.cells #[.int .u64 2] 45)).alloc (.cells #[.slice (some ⟨w1.heap.size, 0, none⟩) 1 1, .string ⟨#[97]⟩, .slice (some ⟨w1.heap.size + 1, 0, none⟩) 1 1, .string ⟨#[98]⟩] 36)) = W2
  have h0 : W2.heap[w1.heap.size]? = some (.cells #[.int .u64 1] 45 (0, 0)) := by rw [← hW2]; exact hp_old (hp_old (hp_new _ _ _ rfl) _) _
  have h1 : W2.heap[w1.heap.size + 1]? = some (.cells #[.int .u64 2] 45 (0, 0)) := by rw [← hW2]; exact hp_old (hp_new _ _ _ (by simp)) _
  have h3 : W2.heap[w1.heap.size + 1 + 1]? = some (.cells #[.slice (some ⟨w1.heap.size, 0, none⟩) 1 1, .string ⟨#[97]⟩, .slice (some ⟨w1.heap.size + 1, 0, none⟩) 1 1, .string ⟨#[98]⟩] 36 (0, 0)) := by rw [← hW2]; exact hp_new _ _ _ (by simp)
  have HB2 : Aside0 (Below w1.heap.size w1 W2) := ⟨by rw [← hW2]; exact (((Below.refl _ _).alloc (Nat.le_refl _) _).alloc (by simp) _).alloc (by simp; omega) _⟩
  clear hW2
  have HC2 : Aside0 (KRow.C W2 (some ⟨w1.heap.size + 1 + 1, 0, none⟩) 2 [r1, r4]) := ⟨C_lit (d := KRow) [r1, r4] [[.slice (some ⟨w1.heap.size, 0, none⟩) 1 1, .string ⟨#[97]⟩], [.slice (some ⟨w1.heap.size + 1, 0, none⟩) 1 1, .string ⟨#[98]⟩]] h3 rfl (fun j hj => by
    match j, hj with
    | 0, _ => exact row_lit [1] ⟨#[97]⟩ h0 (Nat.le_refl _) (by decide)
    | 1, _ => exact row_lit [2] ⟨#[98]⟩ h1 (Nat.le_refl _) (by decide)) (by decide)⟩
  clear h0 h1 h3
  refine (All_same _ _ _ _ [r1, r4] W2 (Kd.C_below HCA.out HB2.out) HC2.out (by decide)).mono ?_
  rintro e w3 ⟨rfl, hb3⟩
  have HB3 := Aside0.mk (bthn HB2.out (Nat.le_refl _) hb3)
  clear hb3
  go_wp2_with fail
  have HBW3 := Aside0.mk (bthn HB1.out (Nat.le_refl _) HB3.out)
  refine (All_same _ _ _ _ [r3] w3 (Kd.C_below HCB.out HB3.out) (Kd.C_below HD.out HBW3.out) (by decide)).mono ?_
  rintro e w4 ⟨rfl, hb4⟩
  have HB4 := Aside0.mk (bthn HB3.out (Nat.le_refl _) hb4)
  have HBW4 := Aside0.mk (bthn HB1.out (Nat.le_refl _) HB4.out)
  clear hb4 HB3 HBW3 HB2 HC2
  go_wp2_with fail
  refine (RipW.Ripple_any none 0 [] _ _ [r1, r2, r3] w4 ⟨rfl, by decide, fun h => absurd h (by decide)⟩ (Kd.C_below HC.out HBW4.out) (by decide) (by decide) (by decide) (HTW.out.below HBW4.out)).mono ?_
  rintro e w5 ⟨A5, c5, rfl, hI5, hb5⟩
  rw [show ripI [] [r1, r2, r3] [r1, r2, r3].length = [0] from rip3] at hI5 ⊢
  have HI5 := Aside0.mk hI5
  have HB5 := Aside0.mk (bthn HB4.out (Nat.le_refl _) hb5)
  clear hI5 hb5
  go_wp2_with fail
  generalize hW6 : w5.alloc (.cells #[.int .i64 0] 3) = W6
  have h6 : W6.heap[w5.heap.size]? = some (.cells #[.int .i64 0] 3 (0, 0)) := by rw [← hW6]; exact hp_new _ _ _ rfl
  have HB56 : Aside0 (Below w5.heap.size w5 W6) := ⟨by rw [← hW6]; exact (Below.refl _ _).alloc (Nat.le_refl _) _⟩
  clear hW6
  have hi := Ints.Ints_any A5 (some ⟨w5.heap.size, 0, none⟩) c5 1 [0] [0] W6 (Kd.C_below HI5.out HB56.out) (C_litI (k := .i64) [0] h6 (by decide))
  rw [show decide ((([0] : List Int)) = [0]) = true from rfl] at hi
  refine hi.mono ?_
  rintro e w7 ⟨rfl, hb7⟩
  have HB7 := Aside0.mk (bthn HB5.out (Nat.le_refl _) (bthn HB56.out (Nat.le_refl _) hb7))
  have HBW7 := Aside0.mk (bthn HB1.out (Nat.le_refl _) HB7.out)
  obtain ⟨ka, eka, _⟩ := HCA.out.2.2 (by decide)
  subst eka
  have HK1 := Aside0.mk (show KRow.C w1 (some ka) 1 [r1] from by
    have := Kd.C_take (k := KRow) (m := 1) HCA.out (by decide)
    simpa using this)
  have hca1 : (1 : Int) ≤ (ca : Int) := by have : 2 ≤ ca := hca; omega
  clear hi h6 hb7 HI5 HB56 HB5 HB4 HBW4
  go_wp2_with fail
  refine (RipW.Ripple_any (some ka) ca [r1] _ _ [r1, r2, r3] w7 (Kd.C_below HK1.out HB7.out) (Kd.C_below HC.out HBW7.out) (by decide) (by decide) (by decide) (HTW.out.below HBW7.out)).mono ?_
  rintro e w8 ⟨A8, c8, rfl, hI8, hb8⟩
  rw [show ripI [r1] [r1, r2, r3] [r1, r2, r3].length = [1] from rip4] at hI8 ⊢
  have HI8 := Aside0.mk hI8
  have HB8 := Aside0.mk (bthn HB7.out (Nat.le_refl _) hb8)
  clear hI8 hb8 HB7 HBW7
  go_wp2_with fail
  generalize hW9 : w8.alloc (.cells #[.int .i64 1] 3) = W9
  have h9 : W9.heap[w8.heap.size]? = some (.cells #[.int .i64 1] 3 (0, 0)) := by rw [← hW9]; exact hp_new _ _ _ rfl
  have HB9 : Aside0 (Below w8.heap.size w8 W9) := ⟨by rw [← hW9]; exact (Below.refl _ _).alloc (Nat.le_refl _) _⟩
  clear hW9
  have hi := Ints.Ints_any A8 (some ⟨w8.heap.size, 0, none⟩) c8 1 [1] [1] W9 (Kd.C_below HI8.out HB9.out) (C_litI (k := .i64) [1] h9 (by decide))
  rw [show decide ((([1] : List Int)) = [1]) = true from rfl] at hi
  refine hi.mono ?_
  rintro e w10 ⟨rfl, hb10⟩
  have HB10 := Aside0.mk (bthn HB.out (Nat.le_refl _) (bthn HB1.out (Nat.le_refl _) (bthn HB8.out (Nat.le_refl _) (bthn HB9.out (Nat.le_refl _) hb10))))
  clear hi h9 hb10
  go_wp2
  go_ret
  exact ⟨rfl, HB10.out⟩

theorem knownL_len {k : Int} {rows : List RowL} : ∀ r ∈ knownL (validL k rows), r.vec.length = (sizeW k).toNat := fun r hr => by
  obtain ⟨f, hf⟩ := PeelR.mem_knL (R := validL k rows) (n := 128) hr
  exact (seqD_good (fun r hr => validL_len (k := k) (rows := rows) r hr) 128).1.1 _ hf |>.1
theorem leftL_len {k : Int} {rows : List RowL} : ∀ r ∈ leftL (validL k rows), r.vec.length = (sizeW k).toNat := fun r hr => by
  obtain ⟨hr1, _⟩ := List.mem_filter.1 hr
  obtain ⟨s, hs, rfl⟩ := List.mem_map.1 hr1
  exact red_len (seqD_good (fun r hr => validL_len (k := k) (rows := rows) r hr) 128).1.1 (validL_len s hs)
theorem rowsI_zero (rows : List RowL) : (rowsI rows == 0) = !rowsB rows := by
  rw [rowsI]
  cases rowsB rows <;> rfl

set_option maxRecDepth 100000 in
set_option maxHeartbeats 1000000 in
theorem PeelPeels (k : Int) (A : Option Addr) (c : Nat) (rows : List RowL) (w : World) (h0 : -9223372036854775808 ≤ k) (h1 : k ≤ 9223372036854775807) (hC : KRow.C w A rows.length rows) (hT : TzOk w) :
    Calls Tryd.prog 3 #[.int .i64 k, .slice A rows.length c] w fun e w' => e = .returned (.bool true) ∧ Below w.heap.size w w' := by
  have hm := C_max hC
  have hz := rowsI_zero rows
  have hfew := fun w' (hb : Below w.heap.size w w') => Few_any A c rows w' (Kd.C_below hC hb)
  have HC := Aside0.mk hC
  have HT := Aside0.mk hT
  cases hB : rowsB rows with
  | false =>
    rw [hB] at hz
    have hz : (rowsI rows == 0) = true := hz
    generalize rowsI rows = q at *
    have HF := Aside0.mk (hfew w (Below.refl _ _))
    clear hfew hC hT
    go_enter Tryd.func3, Tryd.ntmps3
    go_wp2_with (first
      | (go_at_call 13; refine HF.out.mono ?_; rintro e w1 ⟨rfl, rfl⟩)
      | (go_at_call 14; refine (awake13_any _ HT.out).mono ?_; rintro e w2 ⟨rfl, hb2⟩))
    go_ret
    exact ⟨rfl, hb2⟩
  | true =>
    obtain ⟨hR1, hR2⟩ := rowsB_yes hB
    rw [hB] at hz
    have hz : (rowsI rows == 0) = false := hz
    generalize rowsI rows = q at *
    have HF := Aside0.mk (hfew w (Below.refl _ _))
    clear hfew hC hT
    by_cases h100 : 100 < rows.length
    · go_enter Tryd.func3, Tryd.ntmps3
      go_wp2_with (first
        | (go_at_call 13; refine HF.out.mono ?_; rintro e w1 ⟨rfl, rfl⟩)
        | (go_at_call 14; refine (awake13_any _ HT.out).mono ?_; rintro e w2 ⟨rfl, hb2⟩))
      go_ret
      exact ⟨rfl, hb2⟩
    · have hd : ∀ r ∈ rows, r.data.size ≤ 1000000 := fun r hr => by have := (hR2 r hr).2; omega
      have hpl := PeelW.Peel_any A c rows k w HC.out h0 h1 (by omega) hd HT.out
      have hrf := fun w' (hb : Below w.heap.size w w') => PeelR.refPeel_any A c rows k w' (Kd.C_below HC.out hb) h0 h1 (by omega) hd
      have h2 := PeelQ.sizeW_two k
      have hkl : ∀ r ∈ knownL (validL k rows), r.vec.length ≤ 1000000 := fun r hr => by rw [knownL_len r hr]; omega
      have hll : ∀ r ∈ leftL (validL k rows), r.vec.length ≤ 1000000 := fun r hr => by rw [leftL_len r hr]; omega
      generalize knownL (validL k rows) = KL at *
      generalize leftL (validL k rows) = LL at *
      have HPL := Aside0.mk hpl
      have HRF := Aside0.mk hrf
      have HKL := Aside0.mk hkl
      have HLL := Aside0.mk hll
      clear hpl hrf hd hR2 hkl hll
      go_enter Tryd.func3, Tryd.ntmps3
      go_wp2_with (first
        | (go_at_call 13; refine HF.out.mono ?_; rintro e w1 ⟨rfl, rfl⟩)
        | (go_at_call 15; refine HPL.out.mono ?_; rintro e w2 ⟨va, vb, rfl, hRa, hRb, hb2⟩; obtain ⟨Aa, ca, rfl, hca, hCa⟩ := hRa.C hb2; obtain ⟨Ab, cb, rfl, hcb, hCb⟩ := hRb.C hb2)
        | (go_at_call 16; refine (HRF.out _ hb2).mono ?_; rintro e w3 ⟨Ac, cc, Ad, cd, rfl, hCc, hCd, hb3⟩)
        | (go_at_call 17; with_reducible refine (All_same _ _ _ _ KL w3 (Kd.C_below hCa hb3) hCc HKL.out).mono ?_; rintro e w4 ⟨rfl, hb4⟩)
        | (go_at_call 17; with_reducible refine (All_same _ _ _ _ LL w4 (Kd.C_below hCb (bthn hb3 (Nat.le_refl _) hb4)) (Kd.C_below hCd hb4) HLL.out).mono ?_; rintro e w5 ⟨rfl, hb5⟩)
        | (go_at_call 14; refine (awake13_any _ (HT.out.below (bthn hb2 (Nat.le_refl _) (bthn hb3 (Nat.le_refl _) (bthn hb4 (Nat.le_refl _) hb5))))).mono ?_; rintro e w6 ⟨rfl, hb6⟩))
      go_ret
      exact ⟨rfl, bthn hb2 (Nat.le_refl _) (bthn hb3 (Nat.le_refl _) (bthn hb4 (Nat.le_refl _) (bthn hb5 (Nat.le_refl _) hb6)))⟩

set_option maxRecDepth 100000 in
set_option maxHeartbeats 1000000 in
theorem PeelRipples (A : Option Addr) (c : Nat) (K : List RowL) (B : Option Addr) (d : Nat) (rows : List RowL) (w : World) (hK : KRow.C w A K.length K) (hR : KRow.C w B rows.length rows) (hT : TzOk w) :
    Calls Tryd.prog 4 #[.slice A K.length c, .slice B rows.length d] w fun e w' => e = .returned (.bool true) ∧ Below w.heap.size w w' := by
  have hm := C_max hK
  have hm2 := C_max hR
  have hz := rowsI_zero K
  have hy := rowsI_zero rows
  have hfk := Few_any A c K w hK
  have hfr := Few_any B d rows w hR
  have HK := Aside0.mk hK
  have HR := Aside0.mk hR
  have HT := Aside0.mk hT
  clear hK hR hT
  by_cases hB : rowsB K = true ∧ rowsB rows = true ∧ rows.length ≤ 100 ∧ K.length ≤ 100
  · obtain ⟨hB1, hB2, hr100, hk100⟩ := hB
    obtain ⟨_, hKs⟩ := rowsB_yes hB1
    obtain ⟨_, hRs⟩ := rowsB_yes hB2
    rw [hB1] at hz
    rw [hB2] at hy
    have hz : (rowsI K == 0) = false := hz
    have hy : (rowsI rows == 0) = false := hy
    generalize rowsI K = p at *
    generalize rowsI rows = q at *
    have HF := Aside0.mk (And.intro hfk hfr)
    have hp := RipW.Ripple_any A c K B d rows w HK.out HR.out (fun x hx => by have := (hKs x hx).1; omega) (fun x hx => by have := (hRs x hx).1; omega) (by omega) HT.out
    have hrf := fun w' (hb : Below w.heap.size w w') => RipW.refRipple_any A c K B d rows w' (Kd.C_below HK.out hb) (Kd.C_below HR.out hb) (fun x hx => by have := (hKs x hx).1; omega) (fun x hx => by have := (hRs x hx).1; omega) (by omega)
    generalize ripI K rows rows.length = I at *
    have hii : decide (I = I) = true := decide_eq_true rfl
    have HP := Aside0.mk hp
    have HRF := Aside0.mk hrf
    clear hp hrf hfk hfr hB1 hB2 hKs hRs
    go_enter Tryd.func4, Tryd.ntmps4
    go_wp2_with (first
      | (go_at_call 13; with_reducible refine HF.out.1.mono ?_; rintro e w1 ⟨rfl, rfl⟩)
      | (go_at_call 13; with_reducible refine HF.out.2.mono ?_; rintro e w1 ⟨rfl, rfl⟩)
      | (go_at_call 19; refine HP.out.mono ?_; rintro e w2 ⟨A2, c2, rfl, hC2, hb2⟩)
      | (go_at_call 20; refine (HRF.out _ hb2).mono ?_; rintro e w3 ⟨A3, c3, rfl, hC3, hb3⟩)
      | (go_at_call 18; refine (Ints.Ints_any A2 A3 c2 c3 I I w3 (Kd.C_below hC2 hb3) hC3).mono ?_; rintro e w4 ⟨rfl, hb4⟩)
      | (go_at_call 14; refine (awake13_any _ (HT.out.below (bthn hb2 (Nat.le_refl _) (bthn hb3 (Nat.le_refl _) hb4)))).mono ?_; rintro e w6 ⟨rfl, hb6⟩))
    go_ret
    exact ⟨rfl, bthn hb2 (Nat.le_refl _) (bthn hb3 (Nat.le_refl _) (bthn hb4 (Nat.le_refl _) hb6))⟩
  · have HF := Aside0.mk (And.intro hfk hfr)
    clear hfk hfr
    cases hB1 : rowsB K with
    | false =>
      rw [hB1] at hz
      have hz : (rowsI K == 0) = true := hz
      generalize rowsI K = p at *
      clear hy hB hB1
      go_enter Tryd.func4, Tryd.ntmps4
      go_wp2_with (first
        | (go_at_call 13; with_reducible refine HF.out.1.mono ?_; rintro e w1 ⟨rfl, rfl⟩)
        | (go_at_call 14; refine (awake13_any _ HT.out).mono ?_; rintro e w6 ⟨rfl, hb6⟩))
      go_ret
      exact ⟨rfl, hb6⟩
    | true =>
      rw [hB1] at hz
      have hz : (rowsI K == 0) = false := hz
      generalize rowsI K = p at *
      cases hB2 : rowsB rows with
      | false =>
        rw [hB2] at hy
        have hy : (rowsI rows == 0) = true := hy
        generalize rowsI rows = q at *
        clear hB hB1 hB2
        go_enter Tryd.func4, Tryd.ntmps4
        go_wp2_with (first
          | (go_at_call 13; with_reducible refine HF.out.1.mono ?_; rintro e w1 ⟨rfl, rfl⟩)
          | (go_at_call 13; with_reducible refine HF.out.2.mono ?_; rintro e w1 ⟨rfl, rfl⟩)
          | (go_at_call 14; refine (awake13_any _ HT.out).mono ?_; rintro e w6 ⟨rfl, hb6⟩))
        go_ret
        exact ⟨rfl, hb6⟩
      | true =>
        rw [hB2] at hy
        have hy : (rowsI rows == 0) = false := hy
        generalize rowsI rows = q at *
        have hB' : 100 < rows.length ∨ (rows.length ≤ 100 ∧ 100 < K.length) := by
          rcases Nat.lt_or_ge 100 rows.length with h | h
          · exact .inl h
          · exact .inr ⟨h, by
              rcases Nat.lt_or_ge 100 K.length with h' | h'
              · exact h'
              · exact absurd ⟨hB1, hB2, h, h'⟩ hB⟩
        clear hB hB1 hB2
        rcases hB' with h100 | ⟨h100, h100'⟩
        all_goals
          go_enter Tryd.func4, Tryd.ntmps4
          go_wp2_with (first
            | (go_at_call 13; with_reducible refine HF.out.1.mono ?_; rintro e w1 ⟨rfl, rfl⟩)
            | (go_at_call 13; with_reducible refine HF.out.2.mono ?_; rintro e w1 ⟨rfl, rfl⟩)
            | (go_at_call 14; refine (awake13_any _ HT.out).mono ?_; rintro e w6 ⟨rfl, hb6⟩))
          go_ret
          exact ⟨rfl, hb6⟩

end Go.Proofs.YtnfabflkajpkfaaDoor.LawP
