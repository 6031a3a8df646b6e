/- The contracts of package xor's functions, and of those of the references. -/
import Derived.Test.YtnfabflkajpkfaaDoorBase
namespace Go.Proofs.YtnfabflkajpkfaaDoor.Xor
open Go Go.RowKit Go.Proofs.YtnfabflkajpkfaaDoorW.PrintWords Go.Proofs.YtnfabflkajpkfaaDoor.Base
set_option linter.unusedVariables false
set_option linter.unusedSimpArgs false

theorem info_u8 : (Tryd.prog.info? 5).map (fun i => (i.zero, i.size, i.bytes)) = some (some (.int .u8 0), 1, 1) := by kernel_rfl

theorem rd_byte (s : ByteArray) (k : Nat) (h : k < s.size) : (bytesOf s).getD k 0 = ((s[k]'h).toNat : Int) := by
  have := rd_bytesOf s k
  simp only [rd, Int.toNat_natCast] at this
  rw [this, bt, dif_pos (by simpa using h)]
  rfl

set_option maxHeartbeats 400000 in
/-- where the row is long enough -/
theorem into_long (g c : Nat) (xs : List Int) (s : ByteArray) (w : World) (base : Nat) (hs : s.size ≤ xs.length) (HO : Own w base 5 (.slice (some ⟨g, 0, none⟩) xs.length c) (nums .u8 xs)) :
    Calls Tryd.prog 70 #[.slice (some ⟨g, 0, none⟩) xs.length c, .string s] w fun e w' => e = .returned (.slice (some ⟨g, 0, none⟩) xs.length c) ∧ Own w' base 5 (.slice (some ⟨g, 0, none⟩) xs.length c) (nums .u8 (xorL .u8 xs (bytesOf s))) ∧ w.grownBy w' (some g) := by
  have hm := HO.max
  rw [nums_length] at hm
  have HO' := Aside0.mk HO
  clear HO
  go_enter Tryd.func70, Tryd.ntmps70
  go_wp2
  go_loopw [21] (fun i wr => ∃ k : Nat, k ≤ s.size ∧ i = .int .i64 k ∧ Aside0 (Own wr base 5 (.slice (some ⟨g, 0, none⟩) xs.length c) (nums .u8 (xorL .u8 xs ((bytesOf s).take k)))) ∧ Aside0 (w.grownBy wr (some g)))
    (fun i _ => s.size - (intOf i).toNat)
  case atStart => exact ⟨0, Nat.zero_le _, rfl, ⟨by simpa [xorL_nil_right] using HO'.out⟩, ⟨World.grownBy.refl _ _⟩⟩
  case round =>
    obtain ⟨k, hk, rfl, HR, HG⟩ := hrel
    by_cases hlt : k < s.size
    · have hat := HR.out.at_ k (by rw [nums_length, xorL_length, List.length_take, bytesOf_length]; omega)
      obtain ⟨g', cap', hv, _, _, _, hcell, hfr⟩ := hat
      have : g = g' := slice_block hv
      subst this
      clear hv
      have hx : (nums .u8 (xorL .u8 xs ((bytesOf s).take k)))[k]'(by rw [nums_length, xorL_length, List.length_take, bytesOf_length]; omega) = .int .u8 (xs.getD k 0) := by
        have := xorL_at .u8 xs (bytesOf s) k (by rw [bytesOf_length]; omega)
        simp only [nums, List.getElem_map]
        rw [← this]
        simp [List.getD_eq_getElem?_getD]
        rw [List.getElem?_eq_getElem (by rw [xorL_length, List.length_take, bytesOf_length]; omega)]
        rfl
      rw [hx] at hcell
      clear hx
      generalize hX : xs.getD k 0 = X at hcell
      have HX := Aside0.mk hX
      clear hX
      go_wp2
      go_region
      go_wp2
      go_roundw
      case rel =>
        refine ⟨k + 1, by omega, by go_num, ?_⟩
        have hst := HR.out.set_ k (.int .u8 (bx .u8 (xs.getD k 0) ((bytesOf s).getD k 0)))
        have hn : (nums .u8 (xorL .u8 xs ((bytesOf s).take k))).set k (.int .u8 (bx .u8 (xs.getD k 0) ((bytesOf s).getD k 0))) = nums .u8 (xorL .u8 xs ((bytesOf s).take (k + 1))) := by
          rw [← xorL_step .u8 xs (bytesOf s) k (by rw [bytesOf_length]; omega) (by rw [bytesOf_length]; omega)]
          simp [nums, List.map_set]
        rw [hn, rd_byte s k hlt, HX.out] at hst
        exact ⟨⟨hst.1⟩, ⟨grown_drew (HG.out.trans hst.2)⟩⟩
      case measure => simp [intOf]; omega
    · go_wp2
      go_ret
      obtain rfl : k = s.size := by omega
      refine ⟨rfl, ?_, HG.out⟩
      have := HR.out
      rwa [List.take_of_length_le (by rw [bytesOf_length]; omega)] at this



theorem xor_cell (xs : List Int) (s : ByteArray) (k : Nat) (hs : s.size ≤ xs.length) (hk : k < s.size) (h : k < (nums .u8 (xorL .u8 xs ((bytesOf s).take k))).length) : (nums .u8 (xorL .u8 xs ((bytesOf s).take k)))[k]'h = .int .u8 (xs.getD k 0) := by
  have := xorL_at .u8 xs (bytesOf s) k (by rw [bytesOf_length]; omega)
  simp only [nums, List.getElem_map]
  rw [← this]
  simp [List.getD_eq_getElem?_getD]
  rw [List.getElem?_eq_getElem (by rw [xorL_length, List.length_take, bytesOf_length]; omega)]
  rfl
theorem xor_set (xs : List Int) (s : ByteArray) (k : Nat) (hs : s.size ≤ xs.length) (hk : k < s.size) :
    (nums .u8 (xorL .u8 xs ((bytesOf s).take k))).set k (.int .u8 (bits .xor .u8 (xs.getD k 0) ((s[k]'hk).toNat : Int))) = nums .u8 (xorL .u8 xs ((bytesOf s).take (k + 1))) := by
  rw [← rd_byte s k hk]
  show (nums .u8 (xorL .u8 xs ((bytesOf s).take k))).set k (.int .u8 (bx .u8 (xs.getD k 0) ((bytesOf s).getD k 0))) = _
  rw [← xorL_step .u8 xs (bytesOf s) k (by rw [bytesOf_length]; omega) (by rw [bytesOf_length]; omega)]
  simp [nums, List.map_set]
theorem xor_len (xs : List Int) (s : ByteArray) (k : Nat) (hs : s.size ≤ xs.length) : (nums .u8 (xorL .u8 xs ((bytesOf s).take k))).length = xs.length := by
  rw [nums_length, xorL_length, List.length_take, bytesOf_length]; omega

theorem own_padded (W : World) (g base : Nat) (xs : List Int) (n : Nat) (hn : xs.length ≤ n) (hb : base ≤ g) (hm : n ≤ 281474976710656)
    (h : W.heap[g]? = some (.cells (splice (List.replicate n (Value.int .u8 0)) 0 (nums .u8 xs)).toArray 5 (0, 0))) :
    Own W base 5 (.slice (some ⟨g, 0, none⟩) n n) (nums .u8 (xs ++ List.replicate (n - xs.length) 0)) := by
  have hl : (nums .u8 (xs ++ List.replicate (n - xs.length) 0)).length = n := by rw [nums_length]; simp; omega
  have he : splice (List.replicate n (Value.int .u8 0)) 0 (nums .u8 xs) = nums .u8 (xs ++ List.replicate (n - xs.length) 0) := by
    simp [splice, nums]
  rw [he] at h
  refine .inr ⟨g, n, _, (0, 0), by rw [hl], hb, h, by omega, by simp only [maxLen]; omega, by simpa using hl, ?_, .inl rfl⟩
  rw [hl]; simp; rw [List.take_of_length_le (by omega)]

set_option maxHeartbeats 400000 in
theorem into_short (v : Value) (xs : List Int) (s : ByteArray) (w : World) (base : Nat) (hs : xs.length < s.size) (hb : base ≤ w.heap.size) (hbig : s.size ≤ 281474976710656) (HO : Own w base 5 v (nums .u8 xs)) :
    Calls Tryd.prog 70 #[v, .string s] w fun e w' => e = .returned (.slice (some ⟨w.heap.size, 0, none⟩) s.size s.size) ∧ Own w' w.heap.size 5 (.slice (some ⟨w.heap.size, 0, none⟩) s.size s.size) (nums .u8 (xorL .u8 xs (bytesOf s))) ∧ Below w.heap.size w w' := by
  obtain ⟨A, c, hv, hc⟩ := HO.slice
  rw [nums_length] at hv hc
  subst hv
  have hmk := print_make (P := Tryd.prog) 76 5 .u8 1 Tryd.underlying76 info_u8 (by decide) s.size (by omega)
  have HZ : Aside0 (∀ (W : World), (W.alloc (.cells (madeCells #[.int .u8 0] s.size) 5)).heap[W.heap.size]? = some (.cells (List.replicate s.size (Value.int .u8 0)).toArray 5 (0, 0))) := ⟨fun W => by
    rw [heap_alloc_new, ← toList_madeCells_one]⟩
  have HP : Aside0 (0 < (nums .u8 xs).length → ∃ ad, A = some ad ∧ ∀ j u, (nums .u8 xs)[j]? = some u → (w.alloc (.cells (madeCells #[.int .u8 0] s.size) 5)).cell? (ad.add j) = some u) := ⟨fun h0 => by
    obtain ⟨ad, hA, hcell⟩ := (HO.alloc (.cells (madeCells #[.int .u8 0] s.size) 5)).cells A _ c rfl (by simpa [nums] using h0)
    exact ⟨ad, hA, hcell⟩⟩
  clear HO
  have H1 : Aside0 ((nums .u8 xs).length = Nat.min xs.length s.size) := ⟨by rw [nums_length]; exact (Nat.min_eq_left (by omega)).symm⟩
  have H2 : Aside0 (0 + (nums .u8 xs).length ≤ (List.replicate s.size (Value.int .u8 0)).length) := ⟨by rw [nums_length, List.length_replicate]; omega⟩
  have H3 : Aside0 (∀ u ∈ nums .u8 xs, u.oneCell' = true) := ⟨by intro u hu; simp only [nums, List.mem_map] at hu; obtain ⟨x, _, rfl⟩ := hu; rfl⟩
  have H4 : Aside0 ((Tryd.prog.info? 5).map (·.size) = some 1) := ⟨by kernel_rfl⟩
  go_enter Tryd.func70, Tryd.ntmps70
  go_wp2_with (with_reducible refine wpList_copy_splice rfl (.tmp 15) (.tmp 16) 76 76 rfl 5 Tryd.underlying76 H4.out _ _ _ _ _ _ rfl rfl w.heap.size 0 (List.replicate s.size (Value.int .u8 0)) 5 (HZ.out _) (nums .u8 xs) H1.out (fun h => ⟨rfl, HP.out h⟩) H2.out H3.out w.heap.size w ((Below.refl _ _).alloc (Nat.le_refl _) _) (Nat.le_refl _) ?_; intro w2 HG2 HB2)
  have HO2 := Aside0.mk (own_padded w2 w.heap.size w.heap.size xs s.size (by omega) (Nat.le_refl _) hbig HG2.out)
  have HB2' := Aside0.mk HB2
  have hpl : s.size ≤ (xs ++ List.replicate (s.size - xs.length) 0).length := by simp; omega
  have hpl2 : (xs ++ List.replicate (s.size - xs.length) 0).length = s.size := by simp; omega
  have HE : Aside0 (xorL .u8 (xs ++ List.replicate (s.size - xs.length) 0) (bytesOf s) = xorL .u8 xs (bytesOf s)) := ⟨xorL_pad .u8 xs (bytesOf s) _ (by rw [bytesOf_length]; omega) (fun y hy => bx_zero8 (bytesOf_range s y hy).1 (bytesOf_range s y hy).2)⟩
  clear HB2 HG2 HZ HP hmk H1 H2 H3 H4
  generalize hZ : xs ++ List.replicate (s.size - xs.length) 0 = Z at hpl hpl2 HO2 HE
  have HZ := Aside0.mk hZ
  have HL := Aside0.mk hpl2
  clear hZ hpl2
  go_loopw [21] (fun i wr => ∃ k : Nat, k ≤ s.size ∧ i = .int .i64 k ∧ Aside0 (Own wr w.heap.size 5 (.slice (some ⟨w.heap.size, 0, none⟩) s.size s.size) (nums .u8 (xorL .u8 Z ((bytesOf s).take k)))) ∧ Aside0 (Below w.heap.size w wr))
    (fun i _ => s.size - (intOf i).toNat)
  case atStart => exact ⟨0, Nat.zero_le _, rfl, ⟨by simpa [xorL_nil_right] using HO2.out⟩, HB2'⟩
  case round =>
    obtain ⟨k, hk, rfl, HR, HG⟩ := hrel
    by_cases hlt : k < s.size
    · have hat := HR.out.at_ k (by rw [xor_len Z s k hpl, HL.out]; exact hlt)
      obtain ⟨g', cap', hv, _, _, _, hcell, hfr⟩ := hat
      have : w.heap.size = g' := slice_block hv
      subst this
      clear hv
      rw [xor_cell Z s k hpl hlt] at hcell
      generalize hX : Z.getD k 0 = X at hcell
      have HX := Aside0.mk hX
      clear hX
      go_wp2
      go_region
      go_wp2
      go_roundw
      case rel =>
        refine ⟨k + 1, by omega, by go_num, ?_⟩
        have hst := HR.out.set_ k (.int .u8 (bits .xor .u8 (Z.getD k 0) ((s[k]'hlt).toNat : Int)))
        rw [xor_set Z s k hpl hlt, HX.out] at hst
        exact ⟨⟨hst.1⟩, ⟨(HG.out.setCell (Nat.le_refl _) _).drew⟩⟩
      case measure => simp [intOf]; omega
    · go_wp2
      go_ret
      obtain rfl : k = s.size := by omega
      refine ⟨rfl, ?_, HG.out⟩
      have := HR.out
      rwa [List.take_of_length_le (by rw [bytesOf_length]; omega), HE.out] at this

set_option maxHeartbeats 400000 in
theorem into_none (xs : List Int) (s : ByteArray) (w : World) (c : Nat) (hs : s.size = 0) (hx : xs = []) :
    Calls Tryd.prog 70 #[.slice none 0 c, .string s] w fun e w' => e = .returned (.slice none 0 c) ∧ w = w' := by
  obtain ⟨d⟩ := s
  obtain rfl : d = #[] := by simpa [ByteArray.size] using hs
  go_enter Tryd.func70, Tryd.ntmps70
  go_wp2
  refine wp_loop_rounds 1 ?_
  rw [rounds_succ]
  go_wp2
  go_ret
  exact ⟨rfl, rfl⟩

/-- 'into': the row xored by the text; it lies where it lay, or in a new row -/
theorem into_any (v : Value) (xs : List Int) (s : ByteArray) (w : World) (base : Nat) (hb : base ≤ w.heap.size) (hbig : s.size ≤ 281474976710656) (HO : Own w base 5 v (nums .u8 xs)) :
    Calls Tryd.prog 70 #[v, .string s] w fun e w' => ∃ v', e = .returned v' ∧ Own w' base 5 v' (nums .u8 (xorL .u8 xs (bytesOf s))) ∧ w.grownBy w' v.ownBlock := by
  by_cases hs : xs.length < s.size
  · refine (into_short v xs s w base hs hb hbig HO).mono ?_
    rintro e w' ⟨rfl, h1, h2⟩
    exact ⟨_, rfl, h1.lower hb, grown_of_below h2 _⟩
  · rcases HO with ⟨rfl, hx⟩ | ⟨g, cap, cur, fr, rfl, r⟩
    · obtain rfl : xs = [] := by simpa [nums] using hx
      have h0 : s.size = 0 := Nat.le_zero.1 (Nat.not_lt.1 hs)
      refine (into_none [] s w 0 h0 rfl).mono ?_
      rintro e w' ⟨rfl, rfl⟩
      refine ⟨_, rfl, .inl ⟨rfl, ?_⟩, World.grownBy.refl _ _⟩
      have : bytesOf s = [] := List.eq_nil_of_length_eq_zero (by rw [bytesOf_length, h0])
      rw [this]; rfl
    · have HO : Own w base 5 (.slice (some ⟨g, 0, none⟩) (nums .u8 xs).length cap) (nums .u8 xs) := .inr ⟨g, cap, cur, fr, rfl, r⟩
      rw [nums_length] at HO ⊢
      refine (into_long g cap xs s w base (by omega) HO).mono ?_
      rintro e w' ⟨rfl, h1, h2⟩
      exact ⟨_, rfl, h1, h2⟩

theorem intoS (v : Value) (t s : ByteArray) (w : World) (base : Nat) (hb : base ≤ w.heap.size) (hbig : s.size ≤ 281474976710656) (HO : Own w base 5 v (nums .u8 (bytesOf t))) :
    Calls Tryd.prog 70 #[v, .string s] w fun e w' => ∃ v', e = .returned v' ∧ Own w' base 5 v' (nums .u8 (bytesOf (xorS t s))) ∧ w.grownBy w' v.ownBlock := by
  rw [bytesOf_xorS]
  exact into_any v _ s w base hb hbig HO

set_option maxHeartbeats 400000 in
theorem refXor_core (a b X Y : ByteArray) (h : (a.size < b.size ∧ X = b ∧ Y = a) ∨ (¬ a.size < b.size ∧ X = a ∧ Y = b)) (w : World) (hX : X.size ≤ 9223372036854775807) :
    Calls Tryd.prog 50 #[.string a, .string b] w fun e w' => e = .returned (.string (xorS X Y)) ∧ Below w.heap.size w w' := by
  have hcv := print_bytes (P := Tryd.prog) 9 76 5 Tryd.underlying9 Tryd.underlying76 Tryd.underlying5
  have HW := Aside0.mk (own_bytes w w.heap.size 5 X (Nat.le_refl _) hX)
  have HB := Aside0.mk (bytes_below (Below.refl w.heap.size w) (Nat.le_refl _) 5 X)
  rcases h with ⟨h, rfl, rfl⟩ | ⟨h, rfl, rfl⟩
  all_goals
    go_enter Tryd.func50, Tryd.ntmps50
    go_wp2
    clear hcv
    generalize Lib.bytesWorld w 5 X = W at *
    generalize grownCap w X.size 0 5 = c at *
    have hXY : Y.size ≤ X.size := by omega
    have hXY' : Y.size ≤ (bytesOf X).length := by rw [bytesOf_length]; exact hXY
    go_loopw [6] (fun i wr => ∃ k : Nat, k ≤ Y.size ∧ i = .int .i64 k ∧ Aside0 (Own wr w.heap.size 5 (.slice (some ⟨w.heap.size, 0, none⟩) X.size c) (nums .u8 (xorL .u8 (bytesOf X) ((bytesOf Y).take k)))) ∧ Aside0 (Below w.heap.size w wr))
      (fun i _ => Y.size - (intOf i).toNat)
    case atStart => exact ⟨0, Nat.zero_le _, rfl, ⟨by simpa [xorL_nil_right] using HW.out⟩, HB⟩
    case round =>
      obtain ⟨k, hk, rfl, HR, HG⟩ := hrel
      by_cases hlt : k < Y.size
      · obtain ⟨g', cap', hv, _, _, _, hcell, hfr⟩ := HR.out.at_ k (by rw [xor_len _ Y k hXY', bytesOf_length]; omega)
        have : w.heap.size = g' := slice_block hv
        subst this
        clear hv
        rw [xor_cell _ Y k hXY' hlt] at hcell
        generalize hZ : (bytesOf X).getD k 0 = Z at hcell
        have HZ := Aside0.mk hZ
        clear hZ
        go_wp2
        go_region
        go_wp2
        go_roundw
        case rel =>
          refine ⟨k + 1, by omega, by go_num, ?_⟩
          have hst := HR.out.set_ k (.int .u8 (bits .xor .u8 ((bytesOf X).getD k 0) ((Y[k]'hlt).toNat : Int)))
          rw [xor_set _ Y k hXY' hlt, HZ.out] at hst
          exact ⟨⟨hst.1⟩, ⟨(HG.out.setCell (Nat.le_refl _) _).drew⟩⟩
        case measure => simp [intOf]; omega
      · obtain rfl : k = Y.size := by omega
        have hcs := Own.string (P := Tryd.prog) (src := 76) (dst := 9) Tryd.underlying76 Tryd.underlying5 Tryd.underlying9 HR.out
        rw [List.take_of_length_le (by rw [bytesOf_length]; omega), ← bytesOf_xorS, strOf_bytes] at hcs
        go_wp2
        go_ret
        exact ⟨rfl, HG.out⟩

theorem refXor_any (a b : ByteArray) (w : World) (ha : a.size ≤ 9223372036854775807) (hb : b.size ≤ 9223372036854775807) :
    Calls Tryd.prog 50 #[.string a, .string b] w fun e w' => e = .returned (.string (xorS a b)) ∧ Below w.heap.size w w' := by
  by_cases h : a.size < b.size
  · rw [xorS_comm]
    exact refXor_core a b b a (.inl ⟨h, rfl, rfl⟩) w hb
  · exact refXor_core a b a b (.inr ⟨h, rfl, rfl⟩) w ha


set_option maxHeartbeats 400000 in
theorem Sum_any (A : Option Addr) (c : Nat) (l : List ByteArray) (w : World) (hC : Kd.string.C w A l.length l) (hs : ∀ s ∈ l, s.size ≤ 281474976710656) :
    Calls Tryd.prog 82 #[.slice A l.length c] w fun e w' => e = .returned (.string (sumS l)) ∧ Below w.heap.size w w' := by
  have hm := C_max hC
  have HC := Aside0.mk hC
  have HS := Aside0.mk hs
  clear hC hs
  go_enter Tryd.func82, Tryd.ntmps82
  go_wp2
  go_loopw [3, 8] (fun v i wr => ∃ k : Nat, k ≤ l.length ∧ i = .int .i64 k ∧ Aside0 (Own wr w.heap.size 5 v (nums .u8 (bytesOf (sumS (l.take k))))) ∧ Aside0 (Below w.heap.size w wr))
    (fun _ i _ => l.length - (intOf i).toNat)
  case atStart => exact ⟨0, Nat.zero_le _, rfl, ⟨Own.nil _ _ _⟩, ⟨Below.refl _ _⟩⟩
  case round =>
    obtain ⟨k, hk, rfl, HR, HG⟩ := hrel
    by_cases hlt : k < l.length
    · obtain ⟨ad, rfl, hcell⟩ := at_str (Kd.C_below HC.out HG.out) k hlt
      have hst := mem_at HS.out k hlt
      go_wp2_with fail
      refine (intoS _ _ _ _ w.heap.size HG.out.size hst HR.out).mono ?_
      rintro e w1 ⟨v1, rfl, HO1, HG1⟩
      have H1 := Aside0.mk HO1
      have HB1 := Aside0.mk (HG.out.grown HG1 HG.out.size HR.out.base_le)
      clear HO1 HG1 hcell
      go_wp2
      go_roundw
      case rel =>
        refine ⟨k + 1, by omega, by go_num, ⟨?_⟩, HB1⟩
        rw [sumS, foldl_take_succ _ _ _ _ hlt]; exact H1.out
      case measure => simp [intOf]; omega
    · obtain rfl : k = l.length := by omega
      have hcs := Own.string (P := Tryd.prog) (src := 76) (dst := 9) Tryd.underlying76 Tryd.underlying5 Tryd.underlying9 HR.out
      rw [List.take_length, strOf_bytes] at hcs
      go_wp2
      go_ret
      exact ⟨rfl, HG.out⟩

end Go.Proofs.YtnfabflkajpkfaaDoor.Xor
