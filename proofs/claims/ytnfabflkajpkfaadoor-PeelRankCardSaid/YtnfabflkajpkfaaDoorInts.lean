/- The contract of the references' comparison of rows of numbers. -/
import Derived.Test.YtnfabflkajpkfaaDoorBase
namespace Go.Proofs.YtnfabflkajpkfaaDoor.Ints
open Go Go.RowKit Go.Proofs.YtnfabflkajpkfaaDoorW.PrintWords Go.Proofs.YtnfabflkajpkfaaDoor.Base
set_option linter.unusedVariables false
set_option linter.unusedSimpArgs false

theorem ints_ne {a b : List Int} (k : Nat) (ha : k < a.length) (hb : k < b.length) (h : a[k] ≠ b[k]) : decide (a = b) = false := by
  apply decide_eq_false
  rintro rfl
  exact h rfl
set_option maxHeartbeats 400000 in
theorem Ints_any (A B : Option Addr) (ca cb : Nat) (a b : List Int) (w : World) (hA : (Kd.int .i64).C w A a.length a) (hB : (Kd.int .i64).C w B b.length b) :
    Calls Tryd.prog 18 #[.slice A a.length ca, .slice B b.length cb] w fun e w' => e = .returned (.bool (decide (a = b))) ∧ Below w.heap.size w w' := by
  have hm := C_max hA
  have hm2 := C_max hB
  have HA := Aside0.mk hA
  have HB := Aside0.mk hB
  clear hA hB
  by_cases hl : a.length = b.length
  · have HL := Aside0.mk hl
    have h1 : ((a.length : Int) != (b.length : Int)) = false := bne_eq_false_iff_eq.2 (by omega)
    have h2 : (a.length != b.length) = false := bne_eq_false_iff_eq.2 hl
    clear hl
    go_enter Tryd.func18, Tryd.ntmps18
    go_wp2
    go_loopw [5] (fun i wr => ∃ k : Nat, k ≤ a.length ∧ i = .int .i64 k ∧ Aside0 (∀ j (h1 : j < a.length) (h2 : j < b.length), j < k → a[j] = b[j]) ∧ Aside0 (Below w.heap.size w wr)) (fun i _ => a.length - (intOf i).toNat)
    case atStart => exact ⟨0, Nat.zero_le _, rfl, ⟨fun j _ _ h => by omega⟩, ⟨Below.refl _ _⟩⟩
    case round =>
      obtain ⟨k, hk, rfl, HP, HG⟩ := hrel
      by_cases hlt : k < a.length
      · have hlb : k < b.length := by have := HL.out; omega
        obtain ⟨ad, rfl, hc1⟩ := at_i (Kd.C_below HA.out HG.out) k hlt
        obtain ⟨bd, rfl, hc2⟩ := at_i (Kd.C_below HB.out HG.out) k hlb
        have q1 : (0 : Int) ≤ (k : Int) := by omega
        have q2 : (k : Int) < (a.length : Int) := by omega
        have q3 : (k : Int) < (b.length : Int) := by omega
        by_cases he : a[k] = b[k]
        · have HN : Aside0 (∀ j (h1 : j < a.length) (h2 : j < b.length), j < k + 1 → a[j] = b[j]) := ⟨fun j h1 h2 h => by
            by_cases e : j = k
            · subst e; exact he
            · exact HP.out j h1 h2 (by omega)⟩
          have hne : (a[k] != b[k]) = false := bne_eq_false_iff_eq.2 he
          clear he
          go_wp2
          go_quiet (fail)
          go_wp2
          go_roundw
          case rel => exact ⟨k + 1, by omega, by go_num, HN, ⟨pw_below_drewN HG.out _⟩⟩
          case measure => simp [intOf]; omega
        · have hne : (a[k] != b[k]) = true := bne_iff_ne.2 he
          have HE := Aside0.mk (ints_ne k hlt hlb he)
          clear he
          go_wp2
          go_quiet (fail)
          go_wp2
          go_ret
          exact ⟨by rw [HE.out]; rfl, pw_below_drewN HG.out _⟩
      · have HE : Aside0 (decide (a = b) = true) := ⟨decide_eq_true (List.ext_getElem HL.out (fun j h1 h2 => HP.out j h1 h2 (by omega)))⟩
        go_wp2
        go_ret
        exact ⟨by rw [HE.out]; rfl, HG.out⟩
  · have HE : Aside0 (decide (a = b) = false) := ⟨decide_eq_false (fun e => hl (by rw [e]))⟩
    have h1 : ((a.length : Int) != (b.length : Int)) = true := bne_iff_ne.2 (by omega)
    have h2 : (a.length != b.length) = true := bne_iff_ne.2 hl
    clear hl
    go_enter Tryd.func18, Tryd.ntmps18
    go_wp2
    go_ret
    exact ⟨by rw [HE.out]; rfl, Below.refl _ _⟩


end Go.Proofs.YtnfabflkajpkfaaDoor.Ints
