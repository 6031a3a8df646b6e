/- The walks of the five laws. -/
import Derived.Test.YtcingdhgohakkaaXorL
namespace Go.Proofs.Ytcingdhgohakkaa.XorW
open Go Go.RowKit Go.Proofs.YtcingdhgohakkaaW.PrintWords Go.Proofs.Ytcingdhgohakkaa.Base Go.Proofs.Ytcingdhgohakkaa.Kinds Go.Proofs.Ytcingdhgohakkaa.XorR Go.Proofs.Ytcingdhgohakkaa.XorL
set_option linter.unusedVariables false
set_option linter.unusedSimpArgs false

theorem str_refl (s : ByteArray) : (s.toList == s.toList) = true := beq_self_eq_true _

set_option maxHeartbeats 400000 in
theorem XorTexts (a b : ByteArray) (A : Option Addr) (c : Nat) (l : List ByteArray) (w : World) (ha : a.size ≤ 140737488351232) (hb : b.size ≤ 140737488351232) (hC : Kd.string.C w A l.length l) :
    Calls Try.prog 3 #[.string a, .string b, .slice A l.length c] w fun e w' => e = .returned (.bool true) ∧ Below w.heap.size w w' := by
  have HC := Aside0.mk hC
  clear hC
  by_cases h1 : 10000 < a.size
  · go_enter Try.func3, Try.ntmps3
    go_wp2_with fail
    refine (awake_any _).mono ?_
    rintro e w1 ⟨rfl, hb1⟩
    go_wp2
    go_ret
    exact ⟨rfl, hb1⟩
  by_cases h2 : 10000 < b.size
  · go_enter Try.func3, Try.ntmps3
    go_wp2_with fail
    refine (awake_any _).mono ?_
    rintro e w1 ⟨rfl, hb1⟩
    go_wp2
    go_ret
    exact ⟨rfl, hb1⟩
  by_cases h3 : fewB l = true
  · obtain ⟨_, hl⟩ := fewB_yes h3
    have HS : Aside0 (∀ s ∈ l, s.size ≤ 281474976710656) := ⟨fun s hs => by have := hl s hs; omega⟩
    have r1 := str_refl (xorS a b)
    have r2 := str_refl (sumS l)
    clear hl
    go_enter Try.func3, Try.ntmps3
    go_wp2_with fail
    refine (few_any A c l w HC.out).mono ?_
    rintro e w1 ⟨rfl, rfl⟩
    go_wp2_with fail
    refine (Xor.Xor_any a b w (by omega) (by omega)).mono ?_
    rintro e w1 ⟨rfl, hb1⟩
    have HB1 := Aside0.mk hb1
    clear hb1
    go_wp2_with fail
    refine (Xor.refXor_any a b w1 (by omega) (by omega)).mono ?_
    rintro e w2 ⟨rfl, hb2⟩
    have HB2 := Aside0.mk (bthn HB1.out (Nat.le_refl _) hb2)
    clear hb2
    go_wp2_with fail
    refine (Xor.Sum_any A c l w2 (Kd.C_below HC.out HB2.out) HS.out).mono ?_
    rintro e w3 ⟨rfl, hb3⟩
    have HB3 := Aside0.mk (bthn HB2.out (Nat.le_refl _) hb3)
    clear hb3
    go_wp2_with fail
    refine (Xor.refSum_any A c l w3 (Kd.C_below HC.out HB3.out) HS.out).mono ?_
    rintro e w4 ⟨rfl, hb4⟩
    have HB4 := Aside0.mk (bthn HB3.out (Nat.le_refl _) hb4)
    clear hb4
    go_wp2_with fail
    refine (awake_any _).mono ?_
    rintro e w5 ⟨rfl, hb5⟩
    have HB5 := Aside0.mk (bthn HB4.out (Nat.le_refl _) hb5)
    clear hb5
    go_wp2
    go_ret
    exact ⟨rfl, HB5.out⟩
  · have h3' := Bool.eq_false_iff.2 h3
    go_enter Try.func3, Try.ntmps3
    go_wp2_with fail
    refine (few_any A c l w HC.out).mono ?_
    rintro e w1 ⟨rfl, rfl⟩
    go_wp2_with fail
    refine (awake_any _).mono ?_
    rintro e w1 ⟨rfl, hb1⟩
    go_wp2
    go_ret
    exact ⟨rfl, hb1⟩


set_option maxHeartbeats 400000 in
theorem XorOf (A B : Option Addr) (c cb : Nat) (l : List ByteArray) (v : List UInt64) (w : World) (hC : Kd.string.C w A l.length l) (hB : Kw.C w B v.length v) :
    Calls Try.prog 4 #[.slice A l.length c, .slice B v.length cb] w fun e w' => e = .returned (.bool true) ∧ Below w.heap.size w w' := by
  have hm := C_max hB
  have HC := Aside0.mk hC
  have HB := Aside0.mk hB
  clear hC hB
  by_cases h3 : fewB l = true
  · obtain ⟨_, hl⟩ := fewB_yes h3
    have HS : Aside0 (∀ s ∈ l, s.size ≤ 281474976710656) := ⟨fun s hs => by have := hl s hs; omega⟩
    clear hl
    by_cases hv : 100 < v.length
    · go_enter Try.func4, Try.ntmps4
      go_wp2_with fail
      refine (few_any A c l w HC.out).mono ?_
      rintro e w1 ⟨rfl, rfl⟩
      go_wp2_with fail
      refine (awake_any _).mono ?_
      rintro e w1 ⟨rfl, hb1⟩
      go_wp2
      go_ret
      exact ⟨rfl, hb1⟩
    · have r1 := str_refl (ofS l v)
      go_enter Try.func4, Try.ntmps4
      go_wp2_with fail
      refine (few_any A c l w HC.out).mono ?_
      rintro e w1 ⟨rfl, rfl⟩
      go_wp2_with fail
      refine (XorB.Of_any A B c cb l v w HC.out HB.out HS.out).mono ?_
      rintro e w1 ⟨rfl, hb1⟩
      have HB1 := Aside0.mk hb1
      clear hb1
      go_wp2_with fail
      refine (XorB.refOf_any A B c cb l v w1 (Kd.C_below HC.out HB1.out) (Kd.C_below HB.out HB1.out) HS.out).mono ?_
      rintro e w2 ⟨rfl, hb2⟩
      have HB2 := Aside0.mk (bthn HB1.out (Nat.le_refl _) hb2)
      clear hb2
      go_wp2_with fail
      refine (awake_any _).mono ?_
      rintro e w3 ⟨rfl, hb3⟩
      have HB3 := Aside0.mk (bthn HB2.out (Nat.le_refl _) hb3)
      clear hb3
      go_wp2
      go_ret
      exact ⟨rfl, HB3.out⟩
  · have h3' := Bool.eq_false_iff.2 h3
    go_enter Try.func4, Try.ntmps4
    go_wp2_with fail
    refine (few_any A c l w HC.out).mono ?_
    rintro e w1 ⟨rfl, rfl⟩
    go_wp2_with fail
    refine (awake_any _).mono ?_
    rintro e w1 ⟨rfl, hb1⟩
    go_wp2
    go_ret
    exact ⟨rfl, hb1⟩

set_option maxHeartbeats 400000 in
theorem XorTwice (a b : ByteArray) (w : World) (ha : a.size ≤ 140737488351232) (hb : b.size ≤ 140737488351232) :
    Calls Try.prog 6 #[.string a, .string b] w fun e w' => e = .returned (.bool true) ∧ Below w.heap.size w w' := by
  by_cases h1 : 10000 < a.size
  · go_enter Try.func6, Try.ntmps6
    go_wp2_with fail
    refine (awake_any _).mono ?_
    rintro e w1 ⟨rfl, hb1⟩
    go_wp2
    go_ret
    exact ⟨rfl, hb1⟩
  by_cases h2 : a.size < b.size
  · go_enter Try.func6, Try.ntmps6
    go_wp2_with fail
    refine (awake_any _).mono ?_
    rintro e w1 ⟨rfl, hb1⟩
    go_wp2
    go_ret
    exact ⟨rfl, hb1⟩
  have e1 := Aside0.mk (xorS_twice a b (by omega))
  have e2 := Aside0.mk (xorS_comm b a)
  have e3 : Aside0 (xorS a ⟨#[]⟩ = a) := ⟨xorS_empty a⟩
  have r1 := str_refl a
  have r2 := str_refl (xorS a b)
  have hs : (xorS a b).size ≤ 140737488351232 := by rw [size_xorS]; omega
  go_enter Try.func6, Try.ntmps6
  go_wp2_with fail
  refine (Xor.Xor_any a b w (by omega) (by omega)).mono ?_
  rintro e w1 ⟨rfl, hb1⟩
  have HB1 := Aside0.mk hb1
  clear hb1
  go_wp2_with fail
  refine (Xor.Xor_any _ b w1 (by omega) (by omega)).mono ?_
  rintro e w2 ⟨rfl, hb2⟩
  rw [e1.out]
  have HB2 := Aside0.mk (bthn HB1.out (Nat.le_refl _) hb2)
  clear hb2
  go_wp2_with fail
  refine (Xor.Xor_any a b w2 (by omega) (by omega)).mono ?_
  rintro e w3 ⟨rfl, hb3⟩
  have HB3 := Aside0.mk (bthn HB2.out (Nat.le_refl _) hb3)
  clear hb3
  go_wp2_with fail
  refine (Xor.Xor_any b a w3 (by omega) (by omega)).mono ?_
  rintro e w4 ⟨rfl, hb4⟩
  rw [e2.out]
  have HB4 := Aside0.mk (bthn HB3.out (Nat.le_refl _) hb4)
  clear hb4
  go_wp2_with fail
  refine (Xor.Xor_any a _ w4 (by omega) (by decide)).mono ?_
  rintro e w5 ⟨rfl, hb5⟩
  rw [e3.out]
  have HB5 := Aside0.mk (bthn HB4.out (Nat.le_refl _) hb5)
  clear hb5
  go_wp2_with fail
  refine (awake_any _).mono ?_
  rintro e w6 ⟨rfl, hb6⟩
  have HB6 := Aside0.mk (bthn HB5.out (Nat.le_refl _) hb6)
  clear hb6
  go_wp2
  go_ret
  exact ⟨rfl, HB6.out⟩

set_option maxHeartbeats 400000 in
theorem XorTrue (A B : Option Addr) (c cb : Nat) (l : List ByteArray) (rows : List RowL) (w : World) (hC : Kd.string.C w A l.length l) (hB : KRow.C w B rows.length rows) :
    Calls Try.prog 7 #[.slice A l.length c, .slice B rows.length cb] w fun e w' => e = .returned (.bool true) ∧ Below w.heap.size w w' := by
  have hm := C_max hB
  have HC := Aside0.mk hC
  have HB := Aside0.mk hB
  clear hC hB
  by_cases h3 : fewB l = true
  · by_cases h4 : rowsB rows = true
    · obtain ⟨_, hl⟩ := fewB_yes h3
      obtain ⟨hr0, hr⟩ := rowsB_yes h4
      have HS : Aside0 (∀ s ∈ l, s.size ≤ 281474976710656) := ⟨fun s hs => by have := hl s hs; omega⟩
      have HR : Aside0 (∀ r ∈ rows, r.data.size ≤ 281474976710656 ∧ r.vec.length ≤ 8796093022208) := ⟨fun r h => by have := hr r h; omega⟩
      have HI := rowsI_yes h4
      clear hl hr
      go_enter Try.func7, Try.ntmps7
      go_wp2_with fail
      refine (few_any A c l w HC.out).mono ?_
      rintro e w1 ⟨rfl, rfl⟩
      go_wp2_with fail
      refine (Few_any B cb rows w HB.out).mono ?_
      rintro e w1 ⟨rfl, rfl⟩
      clear h3 h4
      go_wp2
      go_loopw [5] (fun i wr => ∃ k : Nat, k ≤ rows.length ∧ i = .int .i64 k ∧ Aside0 (∀ j (hj : j < rows.length), j < k → holdsB l (rows[j]).vec (rows[j]).data = true) ∧ Aside0 (Below w.heap.size w wr)) (fun i _ => rows.length - (intOf i).toNat)
      case atStart => exact ⟨0, Nat.zero_le _, rfl, ⟨fun j _ h => by omega⟩, ⟨Below.refl _ _⟩⟩
      case round =>
        obtain ⟨k, hk, rfl, HP, HG⟩ := hrel
        by_cases hlt : k < rows.length
        · obtain ⟨ad, A0, c0, rfl, hc1, hc2, _, hV⟩ := at_row (Kd.C_below HB.out HG.out) k hlt
          obtain ⟨hs1, hs2⟩ := mem_at HR.out k hlt
          have HV := Aside0.mk hV
          clear hV
          go_wp2_with fail
          refine (refHolds_any _ _ _ _ l (rows[k]) wr (Kd.C_below HC.out HG.out) HV.out HS.out hs2 hs1).mono ?_
          rintro e w1 ⟨rfl, hb1⟩
          have HB1 := Aside0.mk (bthn HG.out (Nat.le_refl _) hb1)
          clear hb1 hc1 hc2
          by_cases hh : holdsB l (rows[k]).vec (rows[k]).data = true
          · have HN : Aside0 (∀ j (hj : j < rows.length), j < k + 1 → holdsB l (rows[j]).vec (rows[j]).data = true) := ⟨fun j hj h => by
              by_cases he : j = k
              · subst he; exact hh
              · exact HP.out j hj (by omega)⟩
            go_wp2
            go_roundw
            case rel => exact ⟨k + 1, by omega, by go_num, HN, HB1⟩
            case measure => simp [intOf]; omega
          · have hh' := Bool.eq_false_iff.2 hh
            go_wp2_with fail
            refine (awake_any _).mono ?_
            rintro e w2 ⟨rfl, hb2⟩
            have HB2 := Aside0.mk (bthn HB1.out (Nat.le_refl _) hb2)
            clear hb2
            go_wp2
            go_ret
            exact ⟨rfl, HB2.out⟩
        · have HX := holds_rowX l rows (fun r hr => by obtain ⟨j, hj, rfl⟩ := List.getElem_of_mem hr; exact HP.out j hj (by omega))
          have hx1 : (rowX rows).vec.length ≤ 8796093022208 := rowV_len rows _ (fun r hr => (HR.out r hr).2) _ (Nat.le_refl _)
          have hx2 : (rowX rows).data.size ≤ 281474976710656 := rowD_size rows _ (fun r hr => (HR.out r hr).1) _ (Nat.le_refl _)
          generalize hX : rowX rows = X at HX hx1 hx2
          have HX2 := Aside0.mk hX
          clear hX
          go_wp2_with fail
          refine (Row_any _ _ rows wr (Kd.C_below HB.out HG.out) HR.out).mono ?_
          rintro e w1 ⟨v, rfl, hO, hb1⟩
          rw [HX2.out] at hO ⊢
          obtain ⟨Av, cv, rfl, _, hVC⟩ := hO.Cw
          have HV := Aside0.mk hVC
          have HB1 := Aside0.mk (bthn HG.out (Nat.le_refl _) hb1)
          clear hO hVC hb1
          go_wp2_with fail
          refine (Holds_any _ _ _ _ l X w1 (Kd.C_below HC.out HB1.out) HV.out HS.out hx1 hx2).mono ?_
          rintro e w2 ⟨rfl, hb2⟩
          have HB2 := Aside0.mk (bthn HB1.out (Nat.le_refl _) hb2)
          clear hb2
          go_wp2_with fail
          refine (awake_any _).mono ?_
          rintro e w3 ⟨rfl, hb3⟩
          have HB3 := Aside0.mk (bthn HB2.out (Nat.le_refl _) hb3)
          clear hb3
          go_wp2
          go_ret
          exact ⟨rfl, HB3.out⟩
    · have HI := rowsI_no (Bool.eq_false_iff.2 h4)
      go_enter Try.func7, Try.ntmps7
      go_wp2_with fail
      refine (few_any A c l w HC.out).mono ?_
      rintro e w1 ⟨rfl, rfl⟩
      go_wp2_with fail
      refine (Few_any B cb rows w HB.out).mono ?_
      rintro e w1 ⟨rfl, rfl⟩
      clear h3 h4
      go_wp2_with fail
      refine (awake_any _).mono ?_
      rintro e w1 ⟨rfl, hb1⟩
      go_wp2
      go_ret
      exact ⟨rfl, hb1⟩
  · have h3' := Bool.eq_false_iff.2 h3
    go_enter Try.func7, Try.ntmps7
    go_wp2_with fail
    refine (few_any A c l w HC.out).mono ?_
    rintro e w1 ⟨rfl, rfl⟩
    go_wp2_with fail
    refine (awake_any _).mono ?_
    rintro e w1 ⟨rfl, hb1⟩
    go_wp2
    go_ret
    exact ⟨rfl, hb1⟩

theorem sameR_refl (r : RowL) : sameR r r = true := by rw [sameR, sameW_refl, Bool.true_and]; exact beq_self_eq_true _

set_option maxHeartbeats 400000 in
theorem XorRows (A B : Option Addr) (c cb : Nat) (l : List ByteArray) (rows : List RowL) (w : World) (hC : Kd.string.C w A l.length l) (hB : KRow.C w B rows.length rows) :
    Calls Try.prog 5 #[.slice A l.length c, .slice B rows.length cb] w fun e w' => e = .returned (.bool true) ∧ Below w.heap.size w w' := by
  have hm := C_max hB
  have HC := Aside0.mk hC
  have HB := Aside0.mk hB
  clear hC hB
  by_cases h3 : fewB l = true
  · by_cases h4 : rowsB rows = true
    · obtain ⟨_, hl⟩ := fewB_yes h3
      obtain ⟨hr0, hr⟩ := rowsB_yes h4
      have HS : Aside0 (∀ s ∈ l, s.size ≤ 281474976710656) := ⟨fun s hs => by have := hl s hs; omega⟩
      have HR : Aside0 (∀ r ∈ rows, r.data.size ≤ 281474976710656 ∧ r.vec.length ≤ 8796093022208) := ⟨fun r h => by have := hr r h; omega⟩
      have HI := rowsI_yes h4
      clear hl hr
      go_enter Try.func5, Try.ntmps5
      go_wp2_with fail
      refine (few_any A c l w HC.out).mono ?_
      rintro e w1 ⟨rfl, rfl⟩
      go_wp2_with fail
      refine (Few_any B cb rows w HB.out).mono ?_
      rintro e w1 ⟨rfl, rfl⟩
      clear h3 h4
      go_wp2
      go_loopw [5] (fun i wr => ∃ k : Nat, k ≤ rows.length ∧ i = .int .i64 k ∧ Aside0 (Below w.heap.size w wr)) (fun i _ => rows.length - (intOf i).toNat)
      case atStart => exact ⟨0, Nat.zero_le _, rfl, ⟨Below.refl _ _⟩⟩
      case round =>
        obtain ⟨k, hk, rfl, HG⟩ := hrel
        by_cases hlt : k < rows.length
        · obtain ⟨ad, A0, c0, rfl, hc1, hc2, _, hV⟩ := at_row (Kd.C_below HB.out HG.out) k hlt
          obtain ⟨hs1, hs2⟩ := mem_at HR.out k hlt
          have HV := Aside0.mk (show Kw.C wr.drew _ _ _ from hV)
          have HCd := Aside0.mk (show Kd.string.C wr.drew _ _ _ from Kd.C_below HC.out HG.out.drew)
          have HQ := Aside0.mk (And.intro hc1 hc2)
          clear hV
          go_upto_region 6 with fail
          go_cut [33] (fun s wx => s = .bool false ∧ Aside0 (Below w.heap.size w wx))
          case first =>
            go_region_law (first
              | (go_simp; go_at_call 17; go_must (refine (Holds_any _ _ _ _ l (rows[k]) _ HCd.out HV.out HS.out hs2 hs1).mono ?_; rintro e w1 ⟨rfl, hG1⟩); have y0 := pw_cell_below hG1 (show wr.drew.cell? _ = _ from HQ.out.1); have y1 := pw_cell_below hG1 (show wr.drew.cell? _ = _ from HQ.out.2))
              | (go_simp; go_at_call 18; go_must (refine (refHolds_any _ _ _ _ l (rows[k]) _ (Kd.C_below HCd.out hG1) (Kd.C_below HV.out hG1) HS.out hs2 hs1).mono ?_; rintro e w2 ⟨rfl, hG2⟩)))
            all_goals
              go_wp2_with fail
              go_meet
              refine ⟨by first | rfl | (simp; done), ⟨?_⟩⟩
              exact bthn (bthn HG.out.drew (Nat.le_refl _) hG1) (Nat.le_refl _) hG2
          case rest =>
            obtain ⟨rfl, HG1⟩ := hcut
            go_wp2
            go_roundw
            case rel => exact ⟨k + 1, by omega, by go_num, HG1⟩
            case measure => simp [intOf]; omega
        · have hx1 : (rowX rows).vec.length ≤ 8796093022208 := rowV_len rows _ (fun r hr => (HR.out r hr).2) _ (Nat.le_refl _)
          have hsm := sameR_refl (rowX rows)
          generalize hX : rowX rows = X at hx1 hsm
          have HX2 := Aside0.mk hX
          clear hX
          go_wp2_with fail
          refine (Row_any _ _ rows wr (Kd.C_below HB.out HG.out) HR.out).mono ?_
          rintro e w1 ⟨v, rfl, hO, hb1⟩
          rw [HX2.out] at hO ⊢
          obtain ⟨Av, cv, rfl, _, hVC⟩ := hO.Cw
          have HV := Aside0.mk hVC
          have HB1 := Aside0.mk (bthn HG.out (Nat.le_refl _) hb1)
          clear hO hVC hb1
          go_wp2_with fail
          refine (refRow_any _ _ rows w1 (Kd.C_below HB.out HB1.out) HR.out).mono ?_
          rintro e w2 ⟨v2, rfl, hO2, hb2⟩
          rw [HX2.out] at hO2 ⊢
          obtain ⟨Av2, cv2, rfl, _, hVC2⟩ := hO2.Cw
          have HV1 := Aside0.mk (Kd.C_below HV.out hb2)
          have HV2 := Aside0.mk hVC2
          have HB2 := Aside0.mk (bthn HB1.out (Nat.le_refl _) hb2)
          clear hO2 hVC2 hb2
          go_wp2_with fail
          refine (Same_any _ _ _ _ X X w2 HV1.out HV2.out hx1 hx1).mono ?_
          rintro e w3 ⟨rfl, hb3⟩
          rw [hsm]
          have HB3 := Aside0.mk (bthn HB2.out (Nat.le_refl _) hb3)
          clear hb3 hsm
          go_wp2_with fail
          refine (awake_any _).mono ?_
          rintro e w4 ⟨rfl, hb4⟩
          have HB4 := Aside0.mk (bthn HB3.out (Nat.le_refl _) hb4)
          clear hb4
          go_wp2
          go_ret
          exact ⟨rfl, HB4.out⟩
    · have HI := rowsI_no (Bool.eq_false_iff.2 h4)
      go_enter Try.func5, Try.ntmps5
      go_wp2_with fail
      refine (few_any A c l w HC.out).mono ?_
      rintro e w1 ⟨rfl, rfl⟩
      go_wp2_with fail
      refine (Few_any B cb rows w HB.out).mono ?_
      rintro e w1 ⟨rfl, rfl⟩
      clear h3 h4
      go_wp2_with fail
      refine (awake_any _).mono ?_
      rintro e w1 ⟨rfl, hb1⟩
      go_wp2
      go_ret
      exact ⟨rfl, hb1⟩
  · have h3' := Bool.eq_false_iff.2 h3
    go_enter Try.func5, Try.ntmps5
    go_wp2_with fail
    refine (few_any A c l w HC.out).mono ?_
    rintro e w1 ⟨rfl, rfl⟩
    go_wp2_with fail
    refine (awake_any _).mono ?_
    rintro e w1 ⟨rfl, hb1⟩
    go_wp2
    go_ret
    exact ⟨rfl, hb1⟩

end Go.Proofs.Ytcingdhgohakkaa.XorW
