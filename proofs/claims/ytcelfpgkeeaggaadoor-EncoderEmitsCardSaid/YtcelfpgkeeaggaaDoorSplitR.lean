/- The contract of the reference's Split. -/
import Derived.Test.YtcelfpgkeeaggaaDoorSplitB
import Derived.Test.YtcelfpgkeeaggaaDoorOwnZ
namespace Go.Proofs.YtcelfpgkeeaggaaDoor.SplitR
open Go Go.RowKit Go.Proofs.YtcelfpgkeeaggaaDoorW.PrintWords Go.Proofs.YtcelfpgkeeaggaaDoor.Base Go.Proofs.YtcelfpgkeeaggaaDoor.Split Go.Proofs.YtcelfpgkeeaggaaDoor.SplitB Go.Proofs.YtcelfpgkeeaggaaDoor.OwnZ
set_option linter.unusedVariables false
set_option linter.unusedSimpArgs false

theorem info_u8 : (Tryd.prog.info? 5).map (fun i => (i.zero, i.size, i.bytes)) = some (some (.int .u8 0), 1, 1) := by kernel_rfl

theorem listS_extract (s : ByteArray) (i j : Nat) : listS (s.extract i j) = ((listS s).drop i).take (j - i) := by
  simp [listS, ByteArray.data_extract]
theorem listS_append (a b : ByteArray) : listS (a ++ b) = listS a ++ listS b := by simp [listS]
theorem repeatL_replicate (n : Nat) : Lib.repeatL [0] n = List.replicate n (0 : UInt8) := by
  induction n with
  | zero => rfl
  | succ n ih => rw [Lib.repeatL, ih, List.replicate_succ]; rfl
theorem listS_zerosS (n : Nat) : listS (zerosS n) = List.replicate n 0 := by simp [listS, zerosS, repeatL_replicate]
theorem listS_restN (s : ByteArray) (z k : Nat) : listS (restN s z k) = (listS s).drop (k * z) := by
  induction k with
  | zero => simp [restN]
  | succ k ih =>
    rw [restN_succ, listS_extract]
    have hl : (restN s z k).size = (listS (restN s z k)).length := by rw [length_listS]
    rw [hl, ih, List.take_of_length_le (by rw [List.length_drop]; exact Nat.le_refl _)]
    rw [List.drop_drop]
    rcases Nat.le_total z ((listS s).drop (k * z)).length with h | h
    · rw [Nat.min_eq_left h, Nat.succ_mul]
    · rw [Nat.min_eq_right h, List.drop_of_length_le (by rw [List.length_drop]; omega), List.drop_of_length_le (by rw [List.length_drop] at h; rw [Nat.succ_mul]; omega)]
theorem listS_blockN (s : ByteArray) (z k : Nat) : listS (blockN s z k) = ((listS s).drop (k * z)).take z ++ List.replicate (z - ((listS s).drop (k * z)).length) 0 := by
  rw [blockN_at, listS_append, listS_extract, listS_zerosS]
  have hl : (restN s z k).size = (listS (restN s z k)).length := by rw [length_listS]
  rw [hl, listS_restN, List.drop_zero, Nat.sub_zero]
  rcases Nat.le_total z ((listS s).drop (k * z)).length with h | h
  · rw [Nat.min_eq_left h, Nat.sub_self, show z - ((listS s).drop (k * z)).length = 0 by omega]
  · rw [Nat.min_eq_right h, List.take_of_length_le (Nat.le_refl _), List.take_of_length_le h]
theorem blockN_size (s : ByteArray) (z k : Nat) : (blockN s z k).size = z := by
  rw [← length_listS, listS_blockN, List.length_append, List.length_take, List.length_replicate]; omega

/-- the bytes of the text, padded -/
def padL (s : ByteArray) (N : Nat) : List Int := bytesOf s ++ List.replicate N 0
theorem padL_length (s : ByteArray) (N : Nat) : (padL s N).length = s.size + N := by rw [padL, List.length_append, bytesOf_length, List.length_replicate]
theorem nums_padL (s : ByteArray) (N : Nat) : nums .u8 (bytesOf s) ++ List.replicate N (Value.int .u8 0) = nums .u8 (padL s N) := by simp [nums, padL]
def pieceL (s : ByteArray) (N z k : Nat) : List Int := ((padL s N).drop (k * z)).take z
theorem pieceL_length (s : ByteArray) (N z k : Nat) (h : k * z + z ≤ s.size + N) : (pieceL s N z k).length = z := by
  rw [pieceL, List.length_take, List.length_drop, padL_length]; omega
theorem listS_strOfNums (l : List Int) : listS (strOfNums l) = l.map fun n => UInt8.ofNat n.toNat := by simp [listS, strOfNums]
theorem piece_block (s : ByteArray) (N z k : Nat) (h : k * z + z ≤ s.size + N) : strOfNums (pieceL s N z k) = blockN s z k := by
  apply listS_inj
  rw [listS_strOfNums, listS_blockN, pieceL, List.map_take, List.map_drop, padL, List.map_append, bytesOf_eq, List.map_map]
  have e : (List.map ((fun n : Int => UInt8.ofNat n.toNat) ∘ fun x : UInt8 => (x.toNat : Int)) (listS s)) = listS s := by
    have h : ((fun n : Int => UInt8.ofNat n.toNat) ∘ fun x : UInt8 => (x.toNat : Int)) = id := by funext b; simp
    rw [h]; simp
  rw [e, List.map_replicate, List.drop_append, List.take_append, List.drop_replicate, List.take_replicate]
  congr 1
  have hl := length_listS s
  rw [List.length_drop]
  congr 1
  omega

theorem refPlan_at (n size K E : Int) (w : World) (hn0 : 0 ≤ n) (hn1 : n ≤ 9223372036854775807) (hs0 : -9223372036854775808 ≤ size) (hs1 : size ≤ 9223372036854775807) (hK : planP n size = K) (hE : errP n size = E) :
    Calls Tryd.prog 45 #[.int .i64 n, .int .i64 size] w fun e w' => e = .returned (.tuple #[.int .i64 K, .int .i64 E]) ∧ w = w' := by
  subst hK hE
  exact refPlan_any n size w (by omega) hn1 hs0 hs1

set_option maxHeartbeats 400000 in
theorem refSplit_no (s : ByteArray) (size : Int) (w : World) (hs : s.size ≤ 9223372036854775807) (hs0 : -9223372036854775808 ≤ size) (hs1 : size ≤ 9223372036854775807) (hE : errP s.size size ≠ 0) :
    Calls Tryd.prog 22 #[.string s, .int .i64 size] w fun e w' => e = .returned (.tuple #[.slice none 0 0, .int .i64 (errP s.size size)]) ∧ w = w' := by
  obtain ⟨E, hEE⟩ : ∃ E, errP s.size size = E := ⟨_, rfl⟩
  have HE := Aside0.mk hEE
  rw [hEE] at hE
  have hb : (E != 0) = true := bne_iff_ne.2 hE
  have hd : decide (E = 0) = false := decide_eq_false hE
  clear hEE
  have hpl := refPlan_at s.size size _ E w (by omega) (by omega) hs0 hs1 rfl HE.out
  generalize planP s.size size = K at hpl
  go_enter Tryd.func22, Tryd.ntmps22
  go_wp2_with (go_at_call 45; go_must (refine hpl.mono ?_; rintro e w1 ⟨rfl, rfl⟩))
  go_ret2
  exact ⟨by rw [HE.out]; rfl, rfl⟩

theorem cut_run {P : Program} (t e : TypeId) {i : TypeInfo} (ht : P.underlying t = some (.slice e)) (hi : P.info? e = some i) (hsz : i.size = 1) (g L cap : Nat) (a b : Int) (a' n : Nat) (ha : a = a') (hb : b = ((a' + n : Nat) : Int)) (h : a' + n ≤ cap) (hn : 1 ≤ n) :
    ∀ W : World, (Instr.slice t (.slice (some ⟨g, 0, none⟩) L cap) (some (.int .i64 a)) (some (.int .i64 b)) none).run P W = .ok (.slice (some ⟨g, a', none⟩) n (cap - a')) W := by
  intro W
  subst ha hb
  have hel : P.elem t = e := by simp [Program.elem, ht]
  have hu : P.underlying t = some (.slice (P.elem t)) := by rw [hel]; exact ht
  have h9 : ¬ cap = a' := by omega
  have h8 : a' + n - a' = n := by omega
  rw [run_slice_lh W t (some ⟨g, 0, none⟩) L cap hu .i64 .i64 _ _ (by omega) (by omega) (by omega), hel]
  simp [sizeOf, typeInfo, hi, hsz, sliced, Result.andThen, h9, h8, Addr.add]
  exact ⟨fun h => h.symm, by omega⟩

theorem mul_le_8192 (k z : Nat) (hk : k ≤ 128) (hz : z ≤ 64) : k * z ≤ 8192 := Nat.mul_le_mul hk hz

set_option maxHeartbeats 800000 in
theorem refSplit_ok (s : ByteArray) (z K : Nat) (w : World) (hs : s.size ≤ 8192) (hz1 : 1 ≤ z) (hz2 : z ≤ 64) (hK1 : 1 ≤ K) (hK : K ≤ 128) (hP : planP s.size z = K) (hE : errP s.size z = 0) :
    Calls Tryd.prog 22 #[.string s, .int .i64 z] w fun e w' => ∃ v, e = .returned (.tuple #[v, .int .i64 0]) ∧ Own w' w.heap.size 9 v ((blocksN s z K).map .string) ∧ Below w.heap.size w w' := by
  have hle := planP_le hE
  rw [hP] at hle
  have hm : s.size ≤ K * z := by exact_mod_cast hle
  have hKz := mul_le_8192 K z hK hz2
  obtain ⟨N, hN⟩ : ∃ N : Nat, K * z = s.size + N := ⟨K * z - s.size, by omega⟩
  have hNI : (K : Int) * (z : Int) = (s.size : Int) + (N : Int) := by exact_mod_cast hN
  have HNI := Aside0.mk hNI
  have HN := Aside0.mk hN
  have q0 : 0 ≤ (K : Int) * (z : Int) := by omega
  have q1 : (K : Int) * (z : Int) ≤ 8192 := by omega
  have hpl := refPlan_at s.size z K 0 w (by omega) (by omega) (by omega) (by omega) hP hE
  have hcv := print_bytes (P := Tryd.prog) 9 85 5 Tryd.underlying9 Tryd.underlying85 Tryd.underlying5
  have HW := Aside0.mk (own_bytes w w.heap.size 5 s (Nat.le_refl _) (by omega))
  clear hP hE hle hm hN hNI
  obtain ⟨v8, w8, hr8, hO8, hG8⟩ := Own_append_zeros (P := Tryd.prog) (Lib.bytesWorld w 5 s) w.heap.size 85 3 85 5 (.int .u8 0) 1 Tryd.underlying85 Tryd.underlying3 info_u8 rfl rfl (by omega) _ _ HW.out .i64 N (by rw [nums_length, bytesOf_length]; have := HN.out; omega) (by rw [Lib.bytesWorld_size]; omega)
  have hb0 := (bytes_below (Below.refl w.heap.size w) (Nat.le_refl _) 5 s)
  have hb8 := hb0.grown hG8 hb0.size HW.out.base_le
  rw [nums_padL] at hO8
  have hr8' : (Builtin.append_ #[85, 3] 85 #[.slice (some ⟨w.heap.size, 0, none⟩) s.size (grownCap w s.size 0 5), .int .i64 ((K : Int) * (z : Int) - (s.size : Int))]).run Tryd.prog (Lib.bytesWorld w 5 s) = .ok v8 w8 := by
    rw [show (K : Int) * (z : Int) - (s.size : Int) = (N : Int) by have := HNI.out; omega]
    exact hr8
  have hpos : 1 * 1 ≤ K * z := Nat.mul_le_mul hK1 hz1
  obtain ⟨g, cap, hv8, _, _, hLc, _⟩ := hO8.at_ 0 (by rw [nums_length, padL_length]; have := HN.out; omega)
  rw [nums_length, padL_length] at hv8 hLc
  subst hv8
  have HO8 := Aside0.mk hO8
  have HB8 := Aside0.mk hb8
  clear hO8 hb8 hb0 hG8 hr8 HW
  obtain ⟨i0, i8a, iz0, iz1, iz2⟩ := info_parts info_u8
  go_enter Tryd.func22, Tryd.ntmps22
  go_wp2_with (first
    | (go_at_call 45; go_must (refine hpl.mono ?_; rintro e w1 ⟨rfl, rfl⟩))
    | (at_builtin; refine Lib.wpList_append_run _ rfl (.tmp 22) (.tmp 28) 85 3 rfl _ _ rfl rfl _ _ hr8' ?_))
  clear hcv hpl hr8'
  go_loopw [9, 10] (fun v' i wr => ∃ k : Nat, k ≤ K ∧ i = .int .i64 k ∧ Aside0 (wr.ownsRow w.heap.size 9 1 v' ((blocksN s z k).map Value.string).length ((blocksN s z k).map Value.string)) ∧ Aside0 (Own wr w.heap.size 5 (.slice (some ⟨g, 0, none⟩) (s.size + N) cap) (nums .u8 (padL s N))) ∧ Aside0 (Below w.heap.size w wr))
    (fun _ i _ => K - (intOf i).toNat)
  case atStart => exact ⟨0, Nat.zero_le _, rfl, ⟨by rw [blocksN_zero]; exact World.ownsRow_nil _ _ _ _⟩, HO8, HB8⟩
  case round =>
    obtain ⟨k, hk, rfl, HR, HP, HG⟩ := hrel
    by_cases hlt : k < K
    · have m0 : (k + 1) * z ≤ K * z := Nat.mul_le_mul_right _ hlt
      have m1 : (k + 1) * z = k * z + z := Nat.succ_mul _ _
      have hkz : k * z + z ≤ s.size + N := by have := HN.out; omega
      have e0 : (k : Int) * (z : Int) = ((k * z : Nat) : Int) := by exact_mod_cast rfl
      have e1 : ((k : Int) + 1) * (z : Int) = ((k * z + z : Nat) : Int) := by rw [← m1]; exact_mod_cast rfl
      have hcut := cut_run (P := Tryd.prog) 85 5 Tryd.underlying85 i8a iz1 g (s.size + N) cap ((k : Int) * (z : Int)) (((k : Int) + 1) * (z : Int)) (k * z) z e0 e1 (by omega) hz1
      have p0 : 0 ≤ (k : Int) * (z : Int) := by omega
      have p1 : (k : Int) * (z : Int) ≤ 8192 := by omega
      have p2 : 0 ≤ ((k : Int) + 1) * (z : Int) := by omega
      have p3 : ((k : Int) + 1) * (z : Int) ≤ 8192 := by omega
      have hcs : (convert 85 9 (.slice (some ⟨g, k * z, none⟩) z (cap - k * z))).run Tryd.prog wr = .ok (.string (blockN s z k)) wr := by
        rw [← piece_block s N z k hkz]
        refine run_convert_bytes_arg wr 85 5 Tryd.underlying85 Tryd.underlying5 g (k * z) z _ (pieceL s N z k) (pieceL_length s N z k hkz) (fun i hi => ?_) 9 Tryd.underlying9
        obtain ⟨g', cap', hv', _, _, _, hcell, _⟩ := HP.out.at_ (k * z + i) (by rw [nums_length, padL_length]; omega)
        rw [nums_length, padL_length] at hv'
        cases hv'
        rw [hcell]
        simp only [nums, List.getElem_map]
        rw [pieceL, List.getD_eq_getElem?_getD, List.getElem?_take, if_pos hi, List.getElem?_drop, List.getElem?_eq_getElem (by rw [padL_length]; omega)]
        rfl
      have hLL : (((blocksN s z k).map Value.string).length + 1) * 16 ≤ 140737488355328 := by rw [List.length_map, blocksN_length]; omega
      have hsz := HG.out.size
      clear e0 e1
      go_wp2_with (at_builtin; refine print_append (w0 := w) w.heap.size rfl (.tmp 35) (.tmp 46) 28 9 (.string ⟨#[]⟩) 16 rfl Tryd.underlying28 info_str rfl (by decide) _ _ (.string (blockN s z k)) rfl rfl rfl HR.out HG.out hsz hLL ?_; intro v1 w1 ho1 hb1 hg1 _)
      have HR1 : Aside0 (w1.ownsRow w.heap.size 9 1 v1 ((blocksN s z (k + 1)).map Value.string).length ((blocksN s z (k + 1)).map Value.string)) := ⟨by rw [blocksN_succ]; exact ho1⟩
      have HP1 : Aside0 (Own w1 w.heap.size 5 (.slice (some ⟨g, 0, none⟩) (s.size + N) cap) (nums .u8 (padL s N))) := ⟨HP.out.grown hg1 (HP.out.type_ne (Own.of_row HR.out) (by decide))⟩
      have HG1 := Aside0.mk hb1
      clear ho1 hb1 hg1 hcs hcut
      go_wp2
      go_roundw
      case rel => exact ⟨k + 1, by omega, by go_num, HR1, HP1, HG1⟩
      case measure => simp [intOf]; omega
    · obtain rfl : k = K := by omega
      go_wp2
      go_ret2
      exact ⟨_, rfl, Own.of_row HR.out, HG.out⟩

end Go.Proofs.YtcelfpgkeeaggaaDoor.SplitR
