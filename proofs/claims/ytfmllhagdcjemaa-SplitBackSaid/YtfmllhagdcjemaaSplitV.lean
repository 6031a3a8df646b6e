/- The walks of the laws SplitJoins, SplitBack and SplitMore. -/
import Derived.Test.YtfmllhagdcjemaaSplitW
namespace Go.Proofs.Ytfmllhagdcjemaa.SplitV
open Go Go.RowKit Go.Proofs.YtfmllhagdcjemaaW.PrintWords Go.Proofs.Ytfmllhagdcjemaa.Base Go.Proofs.Ytfmllhagdcjemaa.Split Go.Proofs.Ytfmllhagdcjemaa.SplitB Go.Proofs.Ytfmllhagdcjemaa.SplitR Go.Proofs.Ytfmllhagdcjemaa.SplitL Go.Proofs.Ytfmllhagdcjemaa.SplitW
set_option linter.unusedVariables false
set_option linter.unusedSimpArgs false

theorem joinS_size_le (l : List ByteArray) (M : Nat) (h : ∀ j (hj : j < l.length), (l[j]).size ≤ M) : (joinS l).size ≤ M * l.length := by
  have key : ∀ k, k ≤ l.length → (joinN l k).size ≤ M * k := by
    intro k
    induction k with
    | zero => intro _; rw [joinN_zero]; simp [ByteArray.size]
    | succ k ih =>
      intro hk
      rw [joinN_succ l k hk, ByteArray.size_append, Nat.mul_succ]
      have := ih (by omega)
      have := h k hk
      omega
  have := key l.length (Nat.le_refl _)
  rw [joinN_all] at this
  exact this

set_option maxHeartbeats 400000 in
theorem SplitJoins (A : Option Addr) (c : Nat) (l : List ByteArray) (n : Int) (w : World) (hC : Kd.string.C w A l.length l) (hc : l.length ≤ c) :
    Calls Try.prog 5 #[.slice A l.length c, .int .i64 n] w fun e w' => e = .returned (.bool true) ∧ Below w.heap.size w w' := by
  have hm := C_max hC
  have HC := Aside0.mk hC
  clear hC
  by_cases h3 : 300 < l.length
  · go_enter Try.func5, Try.ntmps5
    go_wp2_with fail
    refine (awake_any w).mono ?_
    rintro e w2 ⟨rfl, hb⟩
    go_wp2
    go_ret
    exact ⟨rfl, hb⟩
  · go_enter Try.func5, Try.ntmps5
    go_wp2
    go_loop [5] (fun i => ∃ k : Nat, k ≤ l.length ∧ i = .int .i64 k ∧ Aside0 (∀ j (hj : j < l.length), j < k → (l[j]).size ≤ 300)) (fun i => l.length - (intOf i).toNat)
    case atStart => exact ⟨0, Nat.zero_le _, rfl, ⟨fun j _ h => by omega⟩⟩
    case round =>
      obtain ⟨k, hk, rfl, HR⟩ := hrel
      by_cases hlt : k < l.length
      · obtain ⟨ad, rfl, hcell⟩ := at_str HC.out k hlt
        by_cases hb : 300 < (l[k]).size
        · go_wp2_with fail
          refine (awake_any w).mono ?_
          rintro e w2 ⟨rfl, hb⟩
          go_wp2
          go_ret
          exact ⟨rfl, hb⟩
        · have HN : Aside0 (∀ j (hj : j < l.length), j < k + 1 → (l[j]).size ≤ 300) := ⟨fun j hj h => by
            by_cases he : j = k
            · subst he; omega
            · exact HR.out j hj (by omega)⟩
          go_wp2
          go_round
          case rel => exact ⟨k + 1, by omega, by go_num, HN⟩
          case measure => simp [intOf]; omega
      · have hz := joinS_size_le l 300 (fun j hj => HR.out j hj (by omega))
        have hz2 : (joinS l).size ≤ 140737488355328 := by omega
        have h1 := Join_any A c l n w HC.out hc hz2 (by omega)
        have h2 := fun W (hb : Below w.heap.size w W) => refJoin_any A c l n W (Kd.C_below HC.out hb) hz2
        generalize strJ l n = X at h1 h2
        generalize errJ l n = E at h1 h2
        go_wp2_with fail
        refine h1.mono ?_
        rintro e w1 ⟨rfl, hb1⟩
        have HB1 := Aside0.mk hb1
        clear hb1 h1
        go_wp2_with fail
        refine (h2 w1 HB1.out).mono ?_
        rintro e w2 ⟨rfl, rfl⟩
        clear h2
        go_wp2_with fail
        refine (awake_any w1).mono ?_
        rintro e w4 ⟨rfl, hb4⟩
        go_wp2
        go_ret
        exact ⟨rfl, bthn HB1.out (Nat.le_refl _) hb4⟩

/-! the blocks of a text, one behind the other -/
theorem blocksN_getElem (s : ByteArray) (z K j : Nat) (h : j < (blocksN s z K).length) : (blocksN s z K)[j] = blockN s z j := by simp [blocksN]
theorem block_sizes (s : ByteArray) (z K j : Nat) (h : j < (blocksN s z K).length) : ((blocksN s z K)[j]).size = z := by rw [blocksN_getElem, blockN_size]
theorem joinS_blocks (s : ByteArray) (z K : Nat) (h : s.size ≤ K * z) : listS (joinS (blocksN s z K)) = listS s ++ List.replicate (K * z - s.size) 0 := by
  have key : ∀ k, listS (joinS (blocksN s z k)) = (listS s).take (k * z) ++ List.replicate (k * z - s.size) 0 := by
    intro k
    induction k with
    | zero => simp [joinS, blocksN, mkS, listS]
    | succ k ih =>
      have e : blocksN s z (k + 1) = blocksN s z k ++ [blockN s z k] := by simp [blocksN, List.range_succ]
      rw [e, listS_joinS, List.map_append, List.flatten_append, ← listS_joinS, ih]
      simp only [List.map_cons, List.map_nil, List.flatten_cons, List.flatten_nil, List.append_nil]
      rw [listS_blockN, List.length_drop, length_listS, Nat.succ_mul]
      rcases Nat.le_total (k * z) s.size with h1 | h1
      · rw [show k * z - s.size = 0 by omega, List.replicate_zero, List.append_nil, ← List.append_assoc, ← List.take_add]
        congr 2; omega
      · rw [List.drop_of_length_le (by rw [length_listS]; omega), List.take_nil, List.nil_append, List.append_assoc, List.replicate_append_replicate,
          List.take_of_length_le (by rw [length_listS]; omega), List.take_of_length_le (by rw [length_listS]; omega)]
        congr 2; omega
  rw [key K, List.take_of_length_le (by rw [length_listS]; exact h)]
theorem join_back (s : ByteArray) (z K : Nat) (h : s.size ≤ K * z) : strJ (blocksN s z K) s.size = s ∧ errJ (blocksN s z K) s.size = 0 := by
  have hl := joinS_blocks s z K h
  have hsz : (joinS (blocksN s z K)).size = K * z := by
    rw [← length_listS, hl, List.length_append, List.length_replicate, length_listS]; omega
  have ho : ¬ outJ (blocksN s z K) s.size = true := by
    rw [outJ, hsz, decide_eq_false (by omega), decide_eq_false (by omega)]; simp
  refine ⟨?_, by rw [errJ, if_neg ho]⟩
  rw [strJ, if_neg ho, Int.toNat_natCast]
  apply listS_inj
  rw [listS_extract, hl, List.drop_zero, Nat.sub_zero, ← length_listS]
  exact List.take_left

set_option maxHeartbeats 400000 in
theorem SplitBack (s : ByteArray) (size : Int) (w : World) (hs : s.size ≤ 140737488351232) (hs0 : -9223372036854775808 ≤ size) (hs1 : size ≤ 9223372036854775807) :
    Calls Try.prog 6 #[.string s, .int .i64 size] w fun e w' => e = .returned (.bool true) ∧ Below w.heap.size w w' := by
  by_cases hE : errP s.size size = 0
  · obtain ⟨z, rfl, hz1, hz2⟩ := size_nat hE
    obtain ⟨_, _, _, hd⟩ := errP_zero hE
    obtain ⟨hK1, hK2⟩ := planP_range hE
    obtain ⟨K, hK⟩ : ∃ K : Nat, planP s.size z = K := ⟨(planP s.size z).toNat, by omega⟩
    have hle := planP_le hE
    rw [hK] at hK1 hK2 hle
    have hle' : s.size ≤ K * z := by exact_mod_cast hle
    have h1 := Split_ok s z K w (by omega) hz1 hz2 (by omega) (by omega) hK hE
    have h2 := fun W => Plan_at s.size z K 0 W (by omega) (by omega) (by omega) (by omega) hK hE
    obtain ⟨hJ1, hJ2⟩ := join_back s z K hle'
    have hBS := block_sizes s z K
    have hBL := blocksN_length s z K
    have hjl := joinS_size_le (blocksN s z K) 64 (fun j hj => by rw [hBS j hj]; exact hz2)
    generalize blocksN s z K = L at h1 h2 hJ1 hJ2 hBS hBL hjl
    subst hBL
    have HJ := Aside0.mk (show strJ L s.size = s ∧ errJ L s.size = 0 from ⟨hJ1, hJ2⟩)
    have HS := Aside0.mk hBS
    have hjl2 : (joinS L).size ≤ 140737488355328 := by omega
    have hk2 : L.length ≤ 128 := by omega
    have hk1 : 1 ≤ L.length := by omega
    clear hE hK hle hle' hJ1 hJ2 hBS hjl hK1 hK2
    go_enter Try.func6, Try.ntmps6
    go_wp2_with fail
    refine h1.mono ?_
    rintro e w1 ⟨v, rfl, hO, hb1⟩
    obtain ⟨Av, cv, rfl, hcv, hC⟩ := Own.C (enc := Value.string) (h1 := fun _ => rfl) hO
    have HC := Aside0.mk (show Kd.string.C w1 Av L.length L from hC)
    have HB1 := Aside0.mk hb1
    clear hO hC hb1 h1
    go_wp2_with fail
    refine (h2 w1).mono ?_
    rintro e w2 ⟨rfl, rfl⟩
    clear h2
    go_wp2
    go_loop [9] (fun i => ∃ k : Nat, k ≤ L.length ∧ i = .int .i64 k) (fun i => L.length - (intOf i).toNat)
    case atStart => exact ⟨0, Nat.zero_le _, rfl⟩
    case round =>
      obtain ⟨k, hk, rfl⟩ := hrel
      by_cases hlt : k < L.length
      · obtain ⟨ad, rfl, hcell⟩ := at_str HC.out k hlt
        have hz := HS.out k hlt
        generalize L[k] = B at hcell hz
        subst hz
        have hne : ((B.size : Int) != (B.size : Int)) = false := bne_eq_false_iff_eq.2 rfl
        go_wp2
        go_round
        case rel => exact ⟨k + 1, by omega, by go_num⟩
        case measure => simp [intOf]; omega
      · obtain rfl : k = L.length := by omega
        have h3 := Join_any Av cv L s.size w1 HC.out hcv hjl2 (by omega)
        rw [HJ.out.1, HJ.out.2] at h3
        go_wp2_with fail
        refine h3.mono ?_
        rintro e w2 ⟨rfl, hb2⟩
        have HB2 := Aside0.mk (bthn HB1.out (Nat.le_refl _) hb2)
        clear hb2 h3
        go_wp2_with fail
        refine (awake_any w2).mono ?_
        rintro e w4 ⟨rfl, hb4⟩
        go_wp2
        go_ret
        exact ⟨rfl, bthn HB2.out (Nat.le_refl _) hb4⟩
  · have h1 := Split_no s size w (by omega) hs0 hs1 hE
    have h2 := Plan_at s.size size _ _ w (by omega) (by omega) hs0 hs1 rfl rfl
    generalize errP s.size size = E at h1 h2 hE
    generalize planP s.size size = K at h2
    have hb : (E != 0) = true := bne_iff_ne.2 hE
    have hne : (E != E) = false := bne_eq_false_iff_eq.2 rfl
    go_enter Try.func6, Try.ntmps6
    go_wp2_with fail
    refine h1.mono ?_
    rintro e w1 ⟨rfl, rfl⟩
    go_wp2_with fail
    refine h2.mono ?_
    rintro e w1 ⟨rfl, rfl⟩
    go_wp2_with fail
    refine (awake_any w).mono ?_
    rintro e w4 ⟨rfl, hb4⟩
    go_wp2
    go_ret
    exact ⟨rfl, hb4⟩

/-! one byte more -/
theorem blockN_more (s : ByteArray) (z K k : Nat) (h : s.size < K * z) (hk : k < K) : blockN (s ++ ⟨#[0]⟩) z k = blockN s z k := by
  apply listS_inj
  have hl := length_listS s
  have hkz : k * z + z ≤ K * z := by rw [← Nat.succ_mul]; exact Nat.mul_le_mul_right _ hk
  have e1 : listS (s ++ ⟨#[0]⟩) = listS s ++ [0] := by rw [listS_append]; rfl
  rw [listS_blockN, listS_blockN, e1]
  rcases Nat.lt_or_ge (listS s).length (k * z) with h1 | h1
  · rw [List.drop_of_length_le (by rw [List.length_append]; simp; omega), List.drop_of_length_le (by omega)]
  · rw [List.drop_append_of_le_length h1]
    generalize hD : (listS s).drop (k * z) = D
    rcases Nat.lt_or_ge D.length z with h2 | h2
    · rw [List.take_of_length_le (by rw [List.length_append]; simp; omega), List.take_of_length_le (by omega), List.length_append, List.append_assoc]
      congr 1
      rw [show z - D.length = (z - (D.length + [(0 : UInt8)].length)) + 1 by simp; omega, List.replicate_succ]; rfl
    · rw [List.take_append_of_le_length h2, List.length_append, show z - (D.length + [(0 : UInt8)].length) = z - D.length by simp; omega]
theorem blocksN_more (s : ByteArray) (z K : Nat) (h : s.size < K * z) : blocksN (s ++ ⟨#[0]⟩) z K = blocksN s z K := by
  apply List.ext_getElem (by rw [blocksN_length, blocksN_length])
  intro j h1 h2
  rw [blocksN_getElem, blocksN_getElem]
  rw [blocksN_length] at h1
  exact blockN_more s z K j h h1
theorem plan_more (s : ByteArray) (z K : Nat) (hz1 : 1 ≤ z) (hE : errP s.size z = 0) (hK : planP s.size z = K) (h : s.size < K * z) : errP (s ++ ⟨#[0]⟩).size z = 0 ∧ planP (s ++ ⟨#[0]⟩).size z = K := by
  obtain ⟨a, b, c, d⟩ := errP_zero hE
  obtain ⟨hK1, hK2⟩ := planP_range hE
  rw [hK] at hK1 hK2
  have hsz : (s ++ ⟨#[0]⟩ : ByteArray).size = s.size + 1 := by rw [ByteArray.size_append]; rfl
  have hz3 : K * z ≤ 128 * z := Nat.mul_le_mul_right _ (by omega)
  have hE2 : errP (s ++ ⟨#[0]⟩).size z = 0 := by rw [hsz]; exact errP_ok (by omega) (by omega)
  refine ⟨hE2, planP_eq K hE2 (by omega) (by rw [hsz]; exact_mod_cast h) ?_⟩
  rcases Nat.lt_or_ge 1 K with h1 | h1
  · right
    rw [hsz]
    have hp := planP_ok hE
    rw [hK] at hp
    have hdiv : (K : Int) = ((s.size : Int) + z - 1) / z := by
      have := div_small s.size z a b d
      omega
    have h2 := (Int.le_ediv_iff_mul_le (a := (K : Int)) (b := (s.size : Int) + z - 1) (c := z) (by omega)).1 (by rw [hdiv]; exact Int.le_refl _)
    have e : ((K - 1 : Nat) : Int) = (K : Int) - 1 := by omega
    rw [e, Int.sub_mul]
    have e2 : (((s.size + 1 : Nat)) : Int) = (s.size : Int) + 1 := by omega
    rw [e2]
    omega
  · left; omega

set_option maxHeartbeats 400000 in
theorem SplitMore (s : ByteArray) (size : Int) (w : World) (hs : s.size ≤ 140737488351232) (hs0 : -9223372036854775808 ≤ size) (hs1 : size ≤ 9223372036854775807) :
    Calls Try.prog 7 #[.string s, .int .i64 size] w fun e w' => e = .returned (.bool true) ∧ Below w.heap.size w w' := by
  by_cases hE : errP s.size size = 0
  · obtain ⟨z, rfl, hz1, hz2⟩ := size_nat hE
    obtain ⟨_, _, _, hd⟩ := errP_zero hE
    obtain ⟨hK1, hK2⟩ := planP_range hE
    obtain ⟨K, hK⟩ : ∃ K : Nat, planP s.size z = K := ⟨(planP s.size z).toNat, by omega⟩
    rw [hK] at hK1 hK2
    have hKz := mul_le_8192 K z (by omega) hz2
    have q0 : 0 ≤ (K : Int) * (z : Int) := Int.mul_nonneg (by omega) (by omega)
    have q1 : (K : Int) * (z : Int) ≤ 8192 := by rw [← Int.natCast_mul]; omega
    have h1 := Split_ok s z K w (by omega) hz1 hz2 (by omega) (by omega) hK hE
    by_cases hroom : s.size < K * z
    · obtain ⟨hE2, hK2'⟩ := plan_more s z K hz1 hE hK hroom
      have hsz : (s ++ ⟨#[0]⟩ : ByteArray).size = s.size + 1 := by rw [ByteArray.size_append]; rfl
      have h2 := fun W => Split_ok (s ++ ⟨#[0]⟩) z K W (by rw [hsz]; omega) hz1 hz2 (by omega) (by omega) hK2' hE2
      rw [blocksN_more s z K hroom] at h2
      have hBL := blocksN_length s z K
      generalize blocksN s z K = L at h1 h2 hBL
      subst hBL
      have q2 : (s.size : Int) < (L.length : Int) * (z : Int) := by exact_mod_cast hroom
      clear hE hK hE2 hK2' hroom hsz hKz
      go_enter Try.func7, Try.ntmps7
      go_wp2_with fail
      refine h1.mono ?_
      rintro e w1 ⟨v, rfl, hO, hb1⟩
      obtain ⟨Av, cv, rfl, hcv, hC⟩ := Own.C (enc := Value.string) (h1 := fun _ => rfl) hO
      have HC := Aside0.mk (show Kd.string.C w1 Av L.length L from hC)
      have HB1 := Aside0.mk hb1
      clear hO hC hb1 h1
      go_wp2_with fail
      refine (h2 w1).mono ?_
      rintro e w2 ⟨v, rfl, hO, hb2⟩
      obtain ⟨Av2, cv2, rfl, hcv2, hC⟩ := Own.C (enc := Value.string) (h1 := fun _ => rfl) hO
      have HC2 := Aside0.mk (show Kd.string.C w2 Av2 L.length L from hC)
      have HC1 := Aside0.mk (Kd.C_below HC.out hb2)
      have HB2 := Aside0.mk (bthn HB1.out (Nat.le_refl _) hb2)
      clear hO hC hb2 h2 HC
      go_wp2_with fail
      refine (Texts_any _ _ _ _ L L w2 HC1.out HC2.out).mono ?_
      rintro e w3 ⟨rfl, hb3⟩
      rw [decide_eq_true rfl]
      have HB3 := Aside0.mk (bthn HB2.out (Nat.le_refl _) hb3)
      clear hb3
      go_wp2_with fail
      refine (awake_any w3).mono ?_
      rintro e w4 ⟨rfl, hb4⟩
      go_wp2
      go_ret
      exact ⟨rfl, bthn HB3.out (Nat.le_refl _) hb4⟩
    · have hBL := blocksN_length s z K
      generalize blocksN s z K = L at h1 hBL
      subst hBL
      have q2 : ¬ (s.size : Int) < (L.length : Int) * (z : Int) := by exact_mod_cast hroom
      clear hE hK hroom hKz
      go_enter Try.func7, Try.ntmps7
      go_wp2_with fail
      refine h1.mono ?_
      rintro e w1 ⟨v, rfl, hO, hb1⟩
      obtain ⟨Av, cv, rfl, hcv, hC⟩ := Own.C (enc := Value.string) (h1 := fun _ => rfl) hO
      have HB1 := Aside0.mk hb1
      clear hO hC hb1 h1
      go_wp2_with fail
      refine (awake_any w1).mono ?_
      rintro e w4 ⟨rfl, hb4⟩
      go_wp2
      go_ret
      exact ⟨rfl, bthn HB1.out (Nat.le_refl _) hb4⟩
  · have h1 := Split_no s size w (by omega) hs0 hs1 hE
    generalize errP s.size size = E at h1 hE
    have hb : (E != 0) = true := bne_iff_ne.2 hE
    go_enter Try.func7, Try.ntmps7
    go_wp2_with fail
    refine h1.mono ?_
    rintro e w1 ⟨rfl, rfl⟩
    go_wp2_with fail
    refine (awake_any w).mono ?_
    rintro e w4 ⟨rfl, hb4⟩
    go_wp2
    go_ret
    exact ⟨rfl, hb4⟩

end Go.Proofs.Ytfmllhagdcjemaa.SplitV
