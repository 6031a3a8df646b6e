/- The contracts of split's Join, of its reference, of the comparison of texts; the example. -/
import Derived.Test.YtfmllhagdcjemaaSplitR
namespace Go.Proofs.Ytfmllhagdcjemaa.SplitL
open Go Go.RowKit Go.Proofs.YtfmllhagdcjemaaW.PrintWords Go.Proofs.Ytfmllhagdcjemaa.Base Go.Proofs.Ytfmllhagdcjemaa.Split Go.Proofs.Ytfmllhagdcjemaa.SplitB Go.Proofs.Ytfmllhagdcjemaa.SplitR
set_option linter.unusedVariables false
set_option linter.unusedSimpArgs false

theorem str_ne {x y : ByteArray} (h : x ≠ y) : (x.toList == y.toList) = false :=
  beq_eq_false_iff_ne.2 fun e => h (listS_inj (by rw [listS, listS, ← ByteArray.toList_eq, ← ByteArray.toList_eq]; exact e))
theorem str_dec (x y : ByteArray) : (x.toList == y.toList) = decide (x = y) := by
  by_cases h : x = y
  · subst h; simp
  · rw [str_ne h, decide_eq_false h]
theorem texts_ne {a b : List ByteArray} (k : Nat) (ha : k < a.length) (hb : k < b.length) (h : a[k] ≠ b[k]) : decide (a = b) = false := by
  apply decide_eq_false
  rintro rfl
  exact h rfl
set_option maxHeartbeats 400000 in
theorem Texts_any (A B : Option Addr) (ca cb : Nat) (a b : List ByteArray) (w : World) (hA : Kd.string.C w A a.length a) (hB : Kd.string.C w B b.length b) :
    Calls Try.prog 13 #[.slice A a.length ca, .slice B b.length cb] w fun e w' => e = .returned (.bool (decide (a = b))) ∧ Below w.heap.size w w' := by
  have hm := C_max hA
  have hm2 := C_max hB
  have HA := Aside0.mk hA
  have HB := Aside0.mk hB
  clear hA hB
  by_cases hl : a.length = b.length
  · have HL := Aside0.mk hl
    have h1 : ((a.length : Int) != (b.length : Int)) = false := bne_eq_false_iff_eq.2 (by omega)
    have h2 : (a.length != b.length) = false := bne_eq_false_iff_eq.2 hl
    clear hl
    go_enter Try.func13, Try.ntmps13
    go_wp2
    go_loopw [5] (fun i wr => ∃ k : Nat, k ≤ a.length ∧ i = .int .i64 k ∧ Aside0 (∀ j (h1 : j < a.length) (h2 : j < b.length), j < k → a[j] = b[j]) ∧ Aside0 (Below w.heap.size w wr)) (fun i _ => a.length - (intOf i).toNat)
    case atStart => exact ⟨0, Nat.zero_le _, rfl, ⟨fun j _ _ h => by omega⟩, ⟨Below.refl _ _⟩⟩
    case round =>
      obtain ⟨k, hk, rfl, HP, HG⟩ := hrel
      by_cases hlt : k < a.length
      · have hlb : k < b.length := by have := HL.out; omega
        obtain ⟨ad, rfl, hc1⟩ := at_str (Kd.C_below HA.out HG.out) k hlt
        obtain ⟨bd, rfl, hc2⟩ := at_str (Kd.C_below HB.out HG.out) k hlb
        have q1 : (0 : Int) ≤ (k : Int) := by omega
        have q2 : (k : Int) < (a.length : Int) := by omega
        have q3 : (k : Int) < (b.length : Int) := by omega
        by_cases he : a[k] = b[k]
        · have HN : Aside0 (∀ j (h1 : j < a.length) (h2 : j < b.length), j < k + 1 → a[j] = b[j]) := ⟨fun j h1 h2 h => by
            by_cases e : j = k
            · subst e; exact he
            · exact HP.out j h1 h2 (by omega)⟩
          rw [← he] at hc2
          clear he
          have hne : (a[k].toList == a[k].toList) = true := beq_iff_eq.2 rfl
          go_wp2
          go_quiet (fail)
          go_wp2
          go_roundw
          case rel => exact ⟨k + 1, by omega, by go_num, HN, ⟨pw_below_drewN HG.out _⟩⟩
          case measure => simp [intOf]; omega
        · have HE := Aside0.mk (texts_ne k hlt hlb he)
          have hne := str_ne he
          clear he
          go_wp2
          go_quiet (fail)
          go_wp2
          go_ret
          exact ⟨by rw [HE.out]; rfl, pw_below_drewN HG.out _⟩
      · have HE : Aside0 (decide (a = b) = true) := ⟨decide_eq_true (List.ext_getElem HL.out (fun j h1 h2 => HP.out j h1 h2 (by omega)))⟩
        go_wp2
        go_ret
        exact ⟨by rw [HE.out]; rfl, HG.out⟩
  · have HE : Aside0 (decide (a = b) = false) := ⟨decide_eq_false (fun h => hl (by rw [h]))⟩
    have h1 : ((a.length : Int) != (b.length : Int)) = true := bne_iff_ne.2 (by omega)
    have h2 : (a.length != b.length) = true := bne_iff_ne.2 hl
    go_enter Try.func13, Try.ntmps13
    go_wp2
    go_ret
    exact ⟨by rw [HE.out]; rfl, Below.refl _ _⟩

/-! blocks one behind the other -/
def joinS (l : List ByteArray) : ByteArray := mkS (l.map listS).flatten
def joinN (l : List ByteArray) (k : Nat) : ByteArray := joinS (l.take k)
theorem listS_joinS (l : List ByteArray) : listS (joinS l) = (l.map listS).flatten := rfl
theorem joinN_zero (l : List ByteArray) : joinN l 0 = ⟨#[]⟩ := rfl
theorem joinN_all (l : List ByteArray) : joinN l l.length = joinS l := by rw [joinN, List.take_length]
theorem joinN_succ (l : List ByteArray) (k : Nat) (h : k < l.length) : joinN l (k + 1) = joinN l k ++ l[k] := by
  apply listS_inj
  rw [listS_append, joinN, joinN, listS_joinS, listS_joinS, List.take_succ_eq_append_getElem h, List.map_append, List.flatten_append]
  simp
theorem joinN_size_le (l : List ByteArray) (k : Nat) : (joinN l k).size ≤ (joinS l).size := by
  rw [← length_listS, ← length_listS, joinN, listS_joinS, listS_joinS]
  have : (l.map listS).flatten = ((l.take k).map listS).flatten ++ ((l.drop k).map listS).flatten := by
    rw [← List.flatten_append, ← List.map_append, List.take_append_drop]
  rw [this, List.length_append]; omega
theorem join_flatten (xs : List (List UInt8)) : Lib.join xs [] = xs.flatten := by
  rw [Lib.join]
  induction xs with
  | nil => rfl
  | cons x r ih =>
    cases r with
    | nil => simp [List.intercalate]
    | cons y r =>
      have : List.intercalate ([] : List UInt8) (x :: y :: r) = x ++ ([] ++ List.intercalate [] (y :: r)) := by simp [List.intercalate]
      rw [this, ih]; simp
def outJ (l : List ByteArray) (n : Int) : Bool := decide (n < 0) || decide (((joinS l).size : Int) < n)
def strJ (l : List ByteArray) (n : Int) : ByteArray := if outJ l n = true then ⟨#[]⟩ else (joinS l).extract 0 n.toNat
def errJ (l : List ByteArray) (n : Int) : Int := if outJ l n = true then 1 else 0

theorem strJoin_any (A : Option Addr) (c : Nat) (l : List ByteArray) (w : World) (hC : Kd.string.C w A l.length l) (hc : l.length ≤ c) (hs : (joinS l).size ≤ 140737488355328) (hl : l.length ≤ 140737488355328) :
    Calls Try.prog 17 #[.slice A l.length c, .string ⟨#[]⟩] w fun e w' => e = .returned (.string (joinS l)) ∧ Below w.heap.size w w' := by
  by_cases h0 : l.length = 0
  · have hnil : l = [] := List.eq_nil_of_length_eq_zero h0
    subst hnil
    exact (Go.Proofs.Try.strings_Join_none A c ⟨#[]⟩ w).mono fun e w' ⟨he, hw⟩ => ⟨he, by rw [hw]; exact Below.refl _ _⟩
  · obtain ⟨ad, rfl, _⟩ := at_str hC 0 (by omega)
    have hcells : ∀ j (hj : j < l.length), w.cell? (ad.add j) = some (.string l[j]) := by
      intro j hj
      obtain ⟨ad', he, hcell⟩ := at_str hC j hj
      injection he with he
      subst he
      exact hcell
    have h00 := hcells 0 (by omega)
    have hsp : ad.spot = none := by simpa [Addr.add] using World.cell?_spot h00
    obtain ⟨b, o, sp⟩ := ad
    simp only at hsp
    subst hsp
    have hadd : ∀ j, (⟨b, o, none⟩ : Addr).add j = ⟨b, o + j, none⟩ := by
      intro j; unfold Addr.add; split <;> simp_all
    have hblk : b < w.heap.size := by
      rcases Nat.lt_or_ge b w.heap.size with h | h
      · exact h
      · rw [hadd, World.cell?, Array.getElem?_eq_none h] at h00; cases h00
    refine (Go.Proofs.Try.strings_Join b o c l ⟨#[]⟩ w (fun j x hx => ?_) hblk hl hc ?_).mono fun e w' ⟨he, hw⟩ => ⟨?_, hw⟩
    · obtain ⟨hj, rfl⟩ := List.getElem?_eq_some_iff.1 hx
      rw [← hadd]; exact hcells j hj
    · have := join_flatten (l.map listS)
      rw [← length_listS, listS_joinS, ← this] at hs
      exact hs
    · rw [he]
      have := join_flatten (l.map listS)
      show _ = Ending.returned (Value.string (mkS (l.map listS).flatten))
      rw [← this]; rfl

set_option maxHeartbeats 400000 in
theorem Join_any (A : Option Addr) (c : Nat) (l : List ByteArray) (n : Int) (w : World) (hC : Kd.string.C w A l.length l) (hc : l.length ≤ c) (hs : (joinS l).size ≤ 140737488355328) (hl : l.length ≤ 140737488355328) :
    Calls Try.prog 14 #[.slice A l.length c, .int .i64 n] w fun e w' => e = .returned (.tuple #[.string (strJ l n), .int .i64 (errJ l n)]) ∧ Below w.heap.size w w' := by
  have hj := strJoin_any A c l w hC hc hs hl
  clear hC hc
  by_cases ha : n < 0
  · have ho : outJ l n = true := by rw [outJ, decide_eq_true ha]; rfl
    have HE : Aside0 (strJ l n = ⟨#[]⟩ ∧ errJ l n = 1) := ⟨by rw [strJ, if_pos ho], by rw [errJ, if_pos ho]⟩
    clear ho
    go_enter Try.func14, Try.ntmps14
    go_wp2_with fail
    refine hj.mono ?_
    rintro e w1 ⟨rfl, hG⟩
    go_wp2
    go_ret2
    exact ⟨by rw [HE.out.1, HE.out.2]; rfl, hG⟩
  · by_cases hb : ((joinS l).size : Int) < n
    · have ho : outJ l n = true := by rw [outJ, decide_eq_true hb, Bool.or_true]
      have HE : Aside0 (strJ l n = ⟨#[]⟩ ∧ errJ l n = 1) := ⟨by rw [strJ, if_pos ho], by rw [errJ, if_pos ho]⟩
      clear ho
      go_enter Try.func14, Try.ntmps14
      go_wp2_with fail
      refine hj.mono ?_
      rintro e w1 ⟨rfl, hG⟩
      go_wp2
      go_ret2
      exact ⟨by rw [HE.out.1, HE.out.2]; rfl, hG⟩
    · have ho : ¬ outJ l n = true := by rw [outJ, decide_eq_false ha, decide_eq_false hb]; simp
      have HE : Aside0 (strJ l n = (joinS l).extract 0 n.toNat ∧ errJ l n = 0) := ⟨by rw [strJ, if_neg ho], by rw [errJ, if_neg ho]⟩
      clear ho
      go_enter Try.func14, Try.ntmps14
      go_wp2_with fail
      refine hj.mono ?_
      rintro e w1 ⟨rfl, hG⟩
      go_wp2
      go_ret2
      exact ⟨by rw [HE.out.1, HE.out.2]; rfl, hG⟩

set_option maxHeartbeats 400000 in
theorem refJoin_any (A : Option Addr) (c : Nat) (l : List ByteArray) (n : Int) (w : World) (hC : Kd.string.C w A l.length l) (hs : (joinS l).size ≤ 140737488355328) :
    Calls Try.prog 15 #[.slice A l.length c, .int .i64 n] w fun e w' => e = .returned (.tuple #[.string (strJ l n), .int .i64 (errJ l n)]) ∧ w = w' := by
  have hm := C_max hC
  have HC := Aside0.mk hC
  clear hC
  have hE : (outJ l n = true → strJ l n = ⟨#[]⟩ ∧ errJ l n = 1) ∧ (outJ l n = false → strJ l n = (joinS l).extract 0 n.toNat ∧ errJ l n = 0) :=
    ⟨fun ho => ⟨by rw [strJ, if_pos ho], by rw [errJ, if_pos ho]⟩, fun ho => ⟨by rw [strJ, if_neg (by rw [ho]; simp)], by rw [errJ, if_neg (by rw [ho]; simp)]⟩⟩
  have HE := Aside0.mk hE
  clear hE
  go_enter Try.func15, Try.ntmps15
  go_wp2
  go_loop [6, 7] (fun a i => ∃ k : Nat, k ≤ l.length ∧ i = .int .i64 k ∧ a = .string (joinN l k)) (fun _ i => l.length - (intOf i).toNat)
  case atStart => exact ⟨0, Nat.zero_le _, rfl, rfl⟩
  case round =>
    obtain ⟨k, hk, rfl, rfl⟩ := hrel
    by_cases hlt : k < l.length
    · obtain ⟨ad, rfl, hcell⟩ := at_str HC.out k hlt
      have HN := Aside0.mk (joinN_succ l k hlt)
      have hz := joinN_size_le l (k + 1)
      rw [joinN_succ l k hlt, ByteArray.size_append] at hz
      have hz2 : ¬ 9223372036854775807 < (joinN l k).size + (l[k]).size := by omega
      go_wp2
      go_round
      case rel => exact ⟨k + 1, by omega, by go_num, by rw [HN.out]⟩
      case measure => simp [intOf]; omega
    · obtain rfl : k = l.length := by omega
      have hJ := joinN_all l
      generalize joinN l l.length = X at hJ
      subst hJ
      by_cases ha : n < 0
      · have ho : outJ l n = true := by rw [outJ, decide_eq_true ha]; rfl
        have HO := Aside0.mk ho
        clear ho
        go_wp2
        go_ret2
        exact ⟨by rw [(HE.out.1 HO.out).1, (HE.out.1 HO.out).2]; rfl, rfl⟩
      · by_cases hb : ((joinS l).size : Int) < n
        · have ho : outJ l n = true := by rw [outJ, decide_eq_true hb, Bool.or_true]
          have HO := Aside0.mk ho
          clear ho
          go_wp2
          go_ret2
          exact ⟨by rw [(HE.out.1 HO.out).1, (HE.out.1 HO.out).2]; rfl, rfl⟩
        · have ho : outJ l n = false := by rw [outJ, decide_eq_false ha, decide_eq_false hb]; rfl
          have HO := Aside0.mk ho
          clear ho
          go_wp2
          go_ret2
          exact ⟨by rw [(HE.out.2 HO.out).1, (HE.out.2 HO.out).2]; rfl, rfl⟩

end Go.Proofs.Ytfmllhagdcjemaa.SplitL
