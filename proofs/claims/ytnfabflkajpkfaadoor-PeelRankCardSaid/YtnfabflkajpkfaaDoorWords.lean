/- The contracts of package words' functions, and of those of its reference. -/
import Derived.Test.YtnfabflkajpkfaaDoorBase
import Derived.Lib.SliceRun
namespace Go.Proofs.YtnfabflkajpkfaaDoor.Words
open Go Go.RowKit Go.Proofs.YtnfabflkajpkfaaDoorW.PrintWords Go.Proofs.YtnfabflkajpkfaaDoor.Base
set_option linter.unusedVariables false
set_option linter.unusedSimpArgs false

theorem info_u64 : (Tryd.prog.info? 45).map (fun i => (i.zero, i.size, i.bytes)) = some (some (.int .u64 0), 1, 8) := by kernel_rfl

set_option maxHeartbeats 400000 in
theorem own_any (A : Option Addr) (c : Nat) (v : List UInt64) (n : Int) (w : World) (hC : Kw.C w A v.length v) (h0 : 0 ≤ n) (hn : n ≤ 17592186044416) (hv : v.length ≤ 17592186044416) :
    Calls Tryd.prog 76 #[.slice A v.length c, .int .i64 n] w fun e w' => ∃ v', e = .returned v' ∧ Own w' w.heap.size 45 v' ((v ++ List.replicate (n.toNat - v.length) 0).map encW) ∧ Below w.heap.size w w' := by
  obtain ⟨m, rfl⟩ := Int.eq_ofNat_of_zero_le h0
  rw [Int.toNat_natCast]
  have hm := C_max hC
  obtain ⟨M, hM, hM'⟩ : ∃ M : Nat, (M = v.length ∧ m ≤ v.length ∨ M = m ∧ v.length < m) ∧ M = v.length + (m - v.length) := ⟨v.length + (m - v.length), by omega, rfl⟩
  obtain ⟨i0, i64a, hz0, hz1, hz2⟩ := info_parts info_u64
  have hmk := print_make (P := Tryd.prog) 34 45 .u64 8 Tryd.underlying34 info_u64 (by decide) M (by omega)
  have HC := Aside0.mk hC
  clear hC
  have HM := Aside0.mk hM'
  clear hM'
  have hcl := fun W : World => run_clear_zeros (P := Tryd.prog) W 34 45 0 .u64 _ Tryd.underlying34 i64a hz0 M M
  have HO0 := Aside0.mk (Own.of_row (own_made w w.heap.size 45 .u64 M (Nat.le_refl _) (by omega)))
  have hMl : v.length ≤ M := by omega
  rcases hM with ⟨rfl, hM⟩ | ⟨rfl, hM⟩
  · go_enter Tryd.func76, Tryd.ntmps76
    go_wp2
    clear hcl hmk
    go_loopw [16] (fun i wr => ∃ k : Nat, k ≤ v.length ∧ i = .int .i64 k ∧ Aside0 (Own wr w.heap.size 45 (.slice (some ⟨w.heap.size, 0, none⟩) (v.length) (v.length)) ((fillW v (v.length) k).map encW)) ∧ Aside0 (Below w.heap.size w wr))
      (fun i _ => v.length - (intOf i).toNat)
    case atStart => exact ⟨0, Nat.zero_le _, rfl, ⟨by rw [fillW_zero, ← nums_zeros]; exact HO0.out⟩, ⟨(Below.refl _ _).alloc (Nat.le_refl _) _⟩⟩
    case round =>
      obtain ⟨k, hk, rfl, HR, HG⟩ := hrel
      by_cases hlt : k < v.length
      · obtain ⟨g', cap', hv', _, _, _, hcell, hfr⟩ := HR.out.at_ k (by rw [List.length_map, fillW_length _ _ _ hk (by omega)]; omega)
        have : w.heap.size = g' := slice_block hv'
        subst this
        clear hv'
        obtain ⟨old, hold⟩ : ∃ old, old = (List.map encW (fillW v (v.length) k))[k]'(by rw [List.length_map, fillW_length _ _ _ hk (by omega)]; omega) := ⟨_, rfl⟩
        rw [← hold] at hcell
        clear hold
        obtain ⟨ad, rfl, hc⟩ := at_w (Kd.C_below HC.out HG.out) k hlt
        go_wp2
        go_roundw
        case rel =>
          refine ⟨k + 1, by omega, by go_num, ?_⟩
          have hst := HR.out.set_ k (encW v[k])
          rw [← List.map_set, fillW_set v (v.length) k hlt (by omega)] at hst
          exact ⟨⟨hst.1⟩, ⟨(HG.out.setCell (Nat.le_refl _) _)⟩⟩
        case measure => simp [intOf]; omega
      · have H := HR.out
        rw [show k = v.length by omega, fillW_all] at H
        have H' := Aside0.mk H
        clear H
        go_wp2
        go_ret
        exact ⟨_, rfl, by have := H'.out; rwa [show v.length - v.length = m - v.length by omega] at this, HG.out⟩
  · go_enter Tryd.func76, Tryd.ntmps76
    go_wp2
    clear hcl hmk
    go_loopw [16] (fun i wr => ∃ k : Nat, k ≤ v.length ∧ i = .int .i64 k ∧ Aside0 (Own wr w.heap.size 45 (.slice (some ⟨w.heap.size, 0, none⟩) (M) (M)) ((fillW v (M) k).map encW)) ∧ Aside0 (Below w.heap.size w wr))
      (fun i _ => v.length - (intOf i).toNat)
    case atStart => exact ⟨0, Nat.zero_le _, rfl, ⟨by rw [fillW_zero, ← nums_zeros]; exact HO0.out⟩, ⟨(Below.refl _ _).alloc (Nat.le_refl _) _⟩⟩
    case round =>
      obtain ⟨k, hk, rfl, HR, HG⟩ := hrel
      by_cases hlt : k < v.length
      · obtain ⟨g', cap', hv', _, _, _, hcell, hfr⟩ := HR.out.at_ k (by rw [List.length_map, fillW_length _ _ _ hk (by omega)]; omega)
        have : w.heap.size = g' := slice_block hv'
        subst this
        clear hv'
        obtain ⟨old, hold⟩ : ∃ old, old = (List.map encW (fillW v (M) k))[k]'(by rw [List.length_map, fillW_length _ _ _ hk (by omega)]; omega) := ⟨_, rfl⟩
        rw [← hold] at hcell
        clear hold
        obtain ⟨ad, rfl, hc⟩ := at_w (Kd.C_below HC.out HG.out) k hlt
        go_wp2
        go_roundw
        case rel =>
          refine ⟨k + 1, by omega, by go_num, ?_⟩
          have hst := HR.out.set_ k (encW v[k])
          rw [← List.map_set, fillW_set v (M) k hlt (by omega)] at hst
          exact ⟨⟨hst.1⟩, ⟨(HG.out.setCell (Nat.le_refl _) _)⟩⟩
        case measure => simp [intOf]; omega
      · have H := HR.out
        rw [show k = v.length by omega, fillW_all] at H
        have H' := Aside0.mk H
        clear H
        go_wp2
        go_ret
        exact ⟨_, rfl, H'.out, HG.out⟩


set_option maxHeartbeats 400000 in
theorem Xor_any (A B : Option Addr) (ca cb : Nat) (a b : List UInt64) (w : World) (hA : Kw.C w A a.length a) (hB : Kw.C w B b.length b) (ha : a.length ≤ 17592186044416) (hb : b.length ≤ 17592186044416) :
    Calls Tryd.prog 69 #[.slice A a.length ca, .slice B b.length cb] w fun e w' => ∃ v', e = .returned v' ∧ Own w' w.heap.size 45 v' ((xorW a b).map encW) ∧ Below w.heap.size w w' := by
  have HA := Aside0.mk hA
  have HB := Aside0.mk hB
  clear hA hB
  go_enter Tryd.func69, Tryd.ntmps69
  go_wp2_with fail
  refine (own_any A ca a _ _ HA.out (by omega) (by omega) ha).mono ?_
  rintro e w1 ⟨v1, rfl, hO1, hG1⟩
  rw [Int.toNat_natCast] at hO1
  generalize hX : a ++ List.replicate (b.length - a.length) 0 = X at hO1
  have hXl : b.length ≤ X.length := by rw [← hX]; simp; omega
  have hXm : X.length ≤ 17592186044416 := by rw [← hX]; simp; omega
  have HE : Aside0 (xorW X b = xorW a b) := ⟨by rw [← hX]; exact xorW_pad a b⟩
  have HO1 := Aside0.mk hO1
  have HG1 := Aside0.mk hG1
  clear hX hO1 hG1
  go_wp2
  go_loopw [14] (fun i wr => ∃ k : Nat, k ≤ b.length ∧ i = .int .i64 k ∧ Aside0 (Own wr w.heap.size 45 v1 ((xorW X (b.take k)).map encW)) ∧ Aside0 (Below w.heap.size w wr))
    (fun i _ => b.length - (intOf i).toNat)
  case atStart => exact ⟨0, Nat.zero_le _, rfl, ⟨by simpa [xorW_nil] using HO1.out⟩, HG1⟩
  case round =>
    obtain ⟨k, hk, rfl, HR, HG⟩ := hrel
    by_cases hlt : k < b.length
    · obtain ⟨g', cap', hv', hgb, _, _, hcell, hfr⟩ := HR.out.at_ k (by rw [xorW_take_length X b k hXl]; omega)
      rw [xorW_cell X b k hXl hlt] at hcell
      rw [xorW_take_length X b k hXl] at hv'
      cases hv'
      obtain ⟨ad, rfl, hc⟩ := at_w (Kd.C_below HB.out HG.out) k hlt
      go_wp2
      go_roundw
      case rel =>
        refine ⟨k + 1, by omega, by go_num, ?_⟩
        have hst := HR.out.set_ k (.int .u64 (bits .xor .u64 ((X[k]'(by omega)).toNat : Int) ((b[k]'hlt).toNat : Int)))
        rw [xorW_set X b k hXl hlt] at hst
        exact ⟨⟨hst.1⟩, ⟨(HG.out.setCell hgb _)⟩⟩
      case measure => simp [intOf]; omega
    · have H := HR.out
      rw [List.take_of_length_le (by omega), HE.out] at H
      have H' := Aside0.mk H
      clear H
      go_wp2
      go_ret
      exact ⟨_, rfl, H'.out, HG.out⟩


set_option maxHeartbeats 400000 in
theorem refXor_core (A B : Option Addr) (ca cb : Nat) (a b X Y : List UInt64) (AX AY : Option Addr) (cX cY : Nat) (h : (a.length < b.length ∧ X = b ∧ Y = a ∧ AX = B ∧ AY = A ∧ cX = cb ∧ cY = ca) ∨ (¬ a.length < b.length ∧ X = a ∧ Y = b ∧ AX = A ∧ AY = B ∧ cX = ca ∧ cY = cb)) (w : World) (hA : Kw.C w AX X.length X) (hB : Kw.C w AY Y.length Y) (ha : X.length ≤ 17592186044416) :
    Calls Tryd.prog 90 #[.slice A a.length ca, .slice B b.length cb] w fun e w' => ∃ v', e = .returned v' ∧ Own w' w.heap.size 45 v' ((xorW X Y).map encW) ∧ Below w.heap.size w w' := by
  have HA := Aside0.mk hA
  have HB := Aside0.mk hB
  clear hA hB
  rcases h with ⟨h, rfl, rfl, rfl, rfl, rfl, rfl⟩ | ⟨h, rfl, rfl, rfl, rfl, rfl, rfl⟩
  all_goals
    go_enter Tryd.func90, Tryd.ntmps90
    go_wp2_with (at_builtin; refine print_append_row (w0 := w) w.heap.size rfl _ _ 34 45 .u64 8 rfl Tryd.underlying34 info_u64 (by decide) (.slice none 0 0) [] (X.map fun x => (x.toNat : Int)) AX X.length cX rfl rfl (World.ownsRow_nil _ _ _ _) (readsW HA.out) (Below.refl _ _) (Nat.le_refl _) (by simp; omega) ?_; intro v1 w1 hown hB1 _ _)
    rw [List.nil_append, numsW] at hown
    have HO1 := Aside0.mk (Own.of_row hown)
    have HG1 := Aside0.mk hB1
    clear hown hB1
    have hYX : Y.length ≤ X.length := by omega
    go_loopw [6] (fun i wr => ∃ k : Nat, k ≤ Y.length ∧ i = .int .i64 k ∧ Aside0 (Own wr w.heap.size 45 v1 ((xorW X (Y.take k)).map encW)) ∧ Aside0 (Below w.heap.size w wr))
      (fun i _ => Y.length - (intOf i).toNat)
    case atStart => exact ⟨0, Nat.zero_le _, rfl, ⟨by simpa [xorW_nil] using HO1.out⟩, HG1⟩
    case round =>
      obtain ⟨k, hk, rfl, HR, HG⟩ := hrel
      by_cases hlt : k < Y.length
      · obtain ⟨g', cap', hv', hgb, _, _, hcell, hfr⟩ := HR.out.at_ k (by rw [xorW_take_length X Y k hYX]; omega)
        rw [xorW_cell X Y k hYX hlt] at hcell
        rw [xorW_take_length X Y k hYX] at hv'
        cases hv'
        obtain ⟨ad, rfl, hc⟩ := at_w (Kd.C_below HB.out HG.out) k hlt
        go_wp2
        go_region
        go_wp2
        go_roundw
        case rel =>
          refine ⟨k + 1, by omega, by go_num, ?_⟩
          have hst := HR.out.set_ k (.int .u64 (bits .xor .u64 ((X[k]'(by omega)).toNat : Int) ((Y[k]'hlt).toNat : Int)))
          rw [xorW_set X Y k hYX hlt] at hst
          exact ⟨⟨hst.1⟩, ⟨(HG.out.setCell hgb _).drew⟩⟩
        case measure => simp [intOf]; omega
      · have H := HR.out
        rw [List.take_of_length_le (by omega)] at H
        have H' := Aside0.mk H
        clear H
        go_wp2
        go_ret
        exact ⟨_, rfl, H'.out, HG.out⟩

theorem refXor_any (A B : Option Addr) (ca cb : Nat) (a b : List UInt64) (w : World) (hA : Kw.C w A a.length a) (hB : Kw.C w B b.length b) (ha : a.length ≤ 17592186044416) (hb : b.length ≤ 17592186044416) :
    Calls Tryd.prog 90 #[.slice A a.length ca, .slice B b.length cb] w fun e w' => ∃ v', e = .returned v' ∧ Own w' w.heap.size 45 v' ((xorW a b).map encW) ∧ Below w.heap.size w w' := by
  by_cases h : a.length < b.length
  · rw [xorW_comm]
    exact refXor_core A B ca cb a b b a B A cb ca (.inl ⟨h, rfl, rfl, rfl, rfl, rfl, rfl⟩) w hB hA hb
  · exact refXor_core A B ca cb a b a b A B ca cb (.inr ⟨h, rfl, rfl, rfl, rfl, rfl, rfl⟩) w hA hB ha


set_option maxHeartbeats 400000 in
theorem Get_any (A : Option Addr) (c : Nat) (v : List UInt64) (k : Nat) (w : World) (hC : Kw.C w A v.length v) (hk : k ≤ 9223372036854775807) :
    Calls Tryd.prog 41 #[.slice A v.length c, .int .i64 k] w fun e w' => e = .returned (.bool (getB v k)) ∧ w = w' := by
  have hm := C_max hC
  by_cases h : k / 64 < v.length
  · obtain ⟨ad, rfl, hc⟩ := at_w hC (k / 64) h
    have h2 : (k : Int) / 64 < v.length := by omega
    have HB := Aside0.mk (bit_u64 v[k / 64] (k % 64))
    have HE := Aside0.mk (getB_in v k h)
    clear hC
    go_enter Tryd.func41, Tryd.ntmps41
    go_wp2
    go_ret
    refine ⟨?_, rfl⟩
    rw [HE.out, ← HB.out]
    rfl
  · have HE := Aside0.mk (getB_out v k (by omega))
    have h2 : ¬ (k : Int) / 64 < v.length := by omega
    clear hC
    go_enter Tryd.func41, Tryd.ntmps41
    go_wp2
    go_ret
    refine ⟨?_, rfl⟩
    rw [HE.out]
    rfl
theorem Get_neg (A : Option Addr) (c : Nat) (v : List UInt64) (i : Int) (w : World) (hi : i < 0) (hi' : -9223372036854775808 ≤ i) (hm : v.length ≤ 9223372036854775807) :
    Calls Tryd.prog 41 #[.slice A v.length c, .int .i64 i] w fun e w' => e = .returned (.bool false) ∧ w = w' := by
  have h2 : decide (0 ≤ i) = false := decide_eq_false (by omega)
  go_enter Tryd.func41, Tryd.ntmps41
  go_wp2
  go_ret
  exact ⟨rfl, rfl⟩

set_option maxHeartbeats 400000 in
theorem refGet_any (A : Option Addr) (c : Nat) (v : List UInt64) (k : Nat) (w : World) (hC : Kw.C w A v.length v) (hk : k ≤ 9223372036854775807) :
    Calls Tryd.prog 24 #[.slice A v.length c, .int .i64 k] w fun e w' => e = .returned (.bool (getB v k)) ∧ w = w' := by
  have hm := C_max hC
  by_cases h : k / 64 < v.length
  · obtain ⟨ad, rfl, hc⟩ := at_w hC (k / 64) h
    have h2 : (k : Int) / 64 < v.length := by omega
    have HB := Aside0.mk (bit_u64 v[k / 64] (k % 64))
    have HE := Aside0.mk (getB_in v k h)
    clear hC
    go_enter Tryd.func24, Tryd.ntmps24
    go_wp2
    go_ret
    refine ⟨?_, rfl⟩
    rw [HE.out, ← HB.out]
    rfl
  · have HE := Aside0.mk (getB_out v k (by omega))
    have h2 : ¬ (k : Int) / 64 < v.length := by omega
    clear hC
    go_enter Tryd.func24, Tryd.ntmps24
    go_wp2
    go_ret
    refine ⟨?_, rfl⟩
    rw [HE.out]
    rfl
theorem refGet_neg (A : Option Addr) (c : Nat) (v : List UInt64) (i : Int) (w : World) (hi : i < 0) (hi' : -9223372036854775808 ≤ i) (hm : v.length ≤ 9223372036854775807) :
    Calls Tryd.prog 24 #[.slice A v.length c, .int .i64 i] w fun e w' => e = .returned (.bool false) ∧ w = w' := by
  have h2 : decide (0 ≤ i) = false := decide_eq_false (by omega)
  go_enter Tryd.func24, Tryd.ntmps24
  go_wp2
  go_ret
  exact ⟨rfl, rfl⟩

set_option maxHeartbeats 400000 in
theorem refCount_any (A : Option Addr) (c : Nat) (v : List UInt64) (w : World) (hC : Kw.C w A v.length v) (hv : v.length ≤ 17592186044416) :
    Calls Tryd.prog 23 #[.slice A v.length c] w fun e w' => e = .returned (.int .i64 (cntW v : Nat)) ∧ w = w' := by
  have hm := C_max hC
  have HC := Aside0.mk hC
  clear hC
  go_enter Tryd.func23, Tryd.ntmps23
  go_wp2
  go_loop [3, 4, 5] (fun n i _ => ∃ k : Nat, k ≤ v.length ∧ i = .int .i64 k ∧ n = .int .i64 (cntW (v.take k) : Nat)) (fun _ i _ => v.length - (intOf i).toNat)
  case atStart => exact ⟨0, Nat.zero_le _, rfl, rfl⟩
  case round =>
    obtain ⟨k, hk, rfl, rfl⟩ := hrel
    by_cases hlt : k < v.length
    · obtain ⟨ad, rfl, hc⟩ := at_w HC.out k hlt
      obtain ⟨x, hx⟩ : ∃ x, x = (v[k]).toNat := ⟨_, rfl⟩
      have hx64 : x < 2 ^ 64 := by rw [hx]; exact (v[k]).toNat_lt
      have hs := cntW_snoc v k hlt
      rw [← hx] at hc hs
      have hle := cntW_le (v.take k)
      rw [List.length_take] at hle
      have hp := pc_le 64 x hx64
      have HS := Aside0.mk hs
      clear hs hx
      generalize hP : cntW (v.take k) = P at *
      have HP := Aside0.mk hP
      clear hP
      go_wp2
      go_loop [3, 5] (fun n y => ∃ m q : Nat, n = .int .i64 m ∧ y = .int .u64 q ∧ Aside0 (m + pc q = P + pc x) ∧ q ≤ x ∧ m ≤ P + 64) (fun _ y => (intOf y).toNat)
      case atStart => exact ⟨P, x, rfl, rfl, ⟨rfl⟩, by omega, by omega⟩
      case round =>
        obtain ⟨m, q, rfl, rfl, HQ, hq, hmP⟩ := hrel
        by_cases hq0 : 0 < q
        · have h1 := and1_u64 q (by omega)
          have HT := Aside0.mk (pc_pos q hq0)
          go_wp2
          go_round
          case rel =>
            have := HQ.out
            rw [HT.out] at this
            have := pc_le 64 x hx64
            exact ⟨m + q % 2, q / 2, by go_num, by go_num, ⟨by omega⟩, by omega, by omega⟩
          case measure => simp [intOf]; omega
        · obtain rfl : q = 0 := by omega
          go_wp2
          go_round
          case rel =>
            have := HQ.out
            rw [pc_zero] at this
            exact ⟨k + 1, by omega, by go_num, by rw [HS.out, show P + pc x = m by omega]⟩
          case measure => simp [intOf]; omega
    · have HE := Aside0.mk (List.take_of_length_le (show v.length ≤ k by omega))
      go_wp2
      go_ret
      exact ⟨by rw [HE.out]; rfl, rfl⟩

set_option maxHeartbeats 400000 in
theorem refSame_any (A B : Option Addr) (ca cb : Nat) (a b : List UInt64) (w : World) (hA : Kw.C w A a.length a) (hB : Kw.C w B b.length b) (ha : a.length ≤ 8796093022208) (hb : b.length ≤ 8796093022208) :
    Calls Tryd.prog 75 #[.slice A a.length ca, .slice B b.length cb] w fun e w' => e = .returned (.bool (sameW a b)) ∧ Below w.heap.size w w' := by
  have HA := Aside0.mk hA
  have HB := Aside0.mk hB
  clear hA hB
  go_enter Tryd.func75, Tryd.ntmps75
  go_wp2_with fail
  refine (refXor_any A B ca cb a b _ HA.out HB.out (by omega) (by omega)).mono ?_
  rintro e w1 ⟨v1, rfl, hO1, hG1⟩
  obtain ⟨A1, c1, rfl, _, hC1⟩ := hO1.Cw
  have HG1 := Aside0.mk hG1
  have HC1 := Aside0.mk hC1
  have hl := xorW_length a b
  have hl2 : (xorW a b).length ≤ 8796093022208 := by omega
  clear hO1 hG1 hC1 hl
  go_wp2_with fail
  refine (refCount_any A1 c1 (xorW a b) _ HC1.out (by omega)).mono ?_
  rintro e w2 ⟨rfl, rfl⟩
  have HS : Aside0 (sameW a b = decide (cntW (xorW a b) = 0)) := ⟨rfl⟩
  by_cases hz : cntW (xorW a b) = 0
  · rw [hz] at HS ⊢
    go_wp2
    go_ret
    exact ⟨by rw [HS.out]; rfl, HG1.out⟩
  · have hz2 : (((cntW (xorW a b) : Nat) : Int) == 0) = false := beq_eq_false_iff_ne.2 (by omega)
    rw [decide_eq_false hz] at HS
    go_wp2
    go_ret
    exact ⟨by rw [HS.out]; rfl, HG1.out⟩

end Go.Proofs.YtnfabflkajpkfaaDoor.Words
