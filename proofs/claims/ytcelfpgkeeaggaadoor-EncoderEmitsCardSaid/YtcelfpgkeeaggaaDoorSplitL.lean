/- The contracts of split's Join, of its reference, of the comparison of texts; the example. -/
import Derived.Test.YtcelfpgkeeaggaaDoorSplitR
namespace Go.Proofs.YtcelfpgkeeaggaaDoor.SplitL
open Go Go.RowKit Go.Proofs.YtcelfpgkeeaggaaDoorW.PrintWords Go.Proofs.YtcelfpgkeeaggaaDoor.Base Go.Proofs.YtcelfpgkeeaggaaDoor.Split Go.Proofs.YtcelfpgkeeaggaaDoor.SplitB Go.Proofs.YtcelfpgkeeaggaaDoor.SplitR
set_option linter.unusedVariables false
set_option linter.unusedSimpArgs false

theorem str_ne {x y : ByteArray} (h : x ≠ y) : (x.toList == y.toList) = false :=
  beq_eq_false_iff_ne.2 fun e => h (listS_inj (by rw [listS, listS, ← ByteArray.toList_eq, ← ByteArray.toList_eq]; exact e))
theorem str_dec (x y : ByteArray) : (x.toList == y.toList) = decide (x = y) := by
  by_cases h : x = y
  · subst h; simp
  · rw [str_ne h, decide_eq_false h]
theorem texts_ne {a b : List ByteArray} (k : Nat) (ha : k < a.length) (hb : k < b.length) (h : a[k] ≠ b[k]) : decide (a = b) = false := by
  apply decide_eq_false
  rintro rfl
  exact h rfl
set_option maxHeartbeats 400000 in
theorem Texts_any (A B : Option Addr) (ca cb : Nat) (a b : List ByteArray) (w : World) (hA : Kd.string.C w A a.length a) (hB : Kd.string.C w B b.length b) :
    Calls Tryd.prog 9 #[.slice A a.length ca, .slice B b.length cb] w fun e w' => e = .returned (.bool (decide (a = b))) ∧ Below w.heap.size w w' := by
  have hm := C_max hA
  have hm2 := C_max hB
  have HA := Aside0.mk hA
  have HB := Aside0.mk hB
  clear hA hB
  by_cases hl : a.length = b.length
  · have HL := Aside0.mk hl
    have h1 : ((a.length : Int) != (b.length : Int)) = false := bne_eq_false_iff_eq.2 (by omega)
    have h2 : (a.length != b.length) = false := bne_eq_false_iff_eq.2 hl
    clear hl
    go_enter Tryd.func9, Tryd.ntmps9
    go_wp2
    go_loopw [5] (fun i wr => ∃ k : Nat, k ≤ a.length ∧ i = .int .i64 k ∧ Aside0 (∀ j (h1 : j < a.length) (h2 : j < b.length), j < k → a[j] = b[j]) ∧ Aside0 (Below w.heap.size w wr)) (fun i _ => a.length - (intOf i).toNat)
    case atStart => exact ⟨0, Nat.zero_le _, rfl, ⟨fun j _ _ h => by omega⟩, ⟨Below.refl _ _⟩⟩
    case round =>
      obtain ⟨k, hk, rfl, HP, HG⟩ := hrel
      by_cases hlt : k < a.length
      · have hlb : k < b.length := by have := HL.out; omega
        obtain ⟨ad, rfl, hc1⟩ := at_str (Kd.C_below HA.out HG.out) k hlt
        obtain ⟨bd, rfl, hc2⟩ := at_str (Kd.C_below HB.out HG.out) k hlb
        have q1 : (0 : Int) ≤ (k : Int) := by omega
        have q2 : (k : Int) < (a.length : Int) := by omega
        have q3 : (k : Int) < (b.length : Int) := by omega
        by_cases he : a[k] = b[k]
        · have HN : Aside0 (∀ j (h1 : j < a.length) (h2 : j < b.length), j < k + 1 → a[j] = b[j]) := ⟨fun j h1 h2 h => by
            by_cases e : j = k
            · subst e; exact he
            · exact HP.out j h1 h2 (by omega)⟩
          rw [← he] at hc2
          clear he
          have hne : (a[k].toList == a[k].toList) = true := beq_iff_eq.2 rfl
          go_wp2
          go_quiet (fail)
          go_wp2
          go_roundw
          case rel => exact ⟨k + 1, by omega, by go_num, HN, ⟨pw_below_drewN HG.out _⟩⟩
          case measure => simp [intOf]; omega
        · have HE := Aside0.mk (texts_ne k hlt hlb he)
          have hne := str_ne he
          clear he
          go_wp2
          go_quiet (fail)
          go_wp2
          go_ret
          exact ⟨by rw [HE.out]; rfl, pw_below_drewN HG.out _⟩
      · have HE : Aside0 (decide (a = b) = true) := ⟨decide_eq_true (List.ext_getElem HL.out (fun j h1 h2 => HP.out j h1 h2 (by omega)))⟩
        go_wp2
        go_ret
        exact ⟨by rw [HE.out]; rfl, HG.out⟩
  · have HE : Aside0 (decide (a = b) = false) := ⟨decide_eq_false (fun h => hl (by rw [h]))⟩
    have h1 : ((a.length : Int) != (b.length : Int)) = true := bne_iff_ne.2 (by omega)
    have h2 : (a.length != b.length) = true := bne_iff_ne.2 hl
    go_enter Tryd.func9, Tryd.ntmps9
    go_wp2
    go_ret
    exact ⟨by rw [HE.out]; rfl, Below.refl _ _⟩

/-! blocks one behind the other -/
def joinS (l : List ByteArray) : ByteArray := mkS (l.map listS).flatten
def joinN (l : List ByteArray) (k : Nat) : ByteArray := joinS (l.take k)
theorem listS_joinS (l : List ByteArray) : listS (joinS l) = (l.map listS).flatten := rfl
theorem joinN_zero (l : List ByteArray) : joinN l 0 = ⟨#[]⟩ := rfl
theorem joinN_all (l : List ByteArray) : joinN l l.length = joinS l := by rw [joinN, List.take_length]
theorem joinN_succ (l : List ByteArray) (k : Nat) (h : k < l.length) : joinN l (k + 1) = joinN l k ++ l[k] := by
  apply listS_inj
  rw [listS_append, joinN, joinN, listS_joinS, listS_joinS, List.take_succ_eq_append_getElem h, List.map_append, List.flatten_append]
  simp
theorem joinN_size_le (l : List ByteArray) (k : Nat) : (joinN l k).size ≤ (joinS l).size := by
  rw [← length_listS, ← length_listS, joinN, listS_joinS, listS_joinS]
  have : (l.map listS).flatten = ((l.take k).map listS).flatten ++ ((l.drop k).map listS).flatten := by
    rw [← List.flatten_append, ← List.map_append, List.take_append_drop]
  rw [this, List.length_append]; omega
def outJ (l : List ByteArray) (n : Int) : Bool := decide (n < 0) || decide (((joinS l).size : Int) < n)
def strJ (l : List ByteArray) (n : Int) : ByteArray := if outJ l n = true then ⟨#[]⟩ else (joinS l).extract 0 n.toNat
def errJ (l : List ByteArray) (n : Int) : Int := if outJ l n = true then 1 else 0

end Go.Proofs.YtcelfpgkeeaggaaDoor.SplitL
