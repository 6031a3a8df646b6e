/- The contracts of package xor's functions that look at bits, and of those of the references. -/
import Derived.Test.YtnfabflkajpkfaaDoorXor
import Derived.Test.YtnfabflkajpkfaaDoorWords
namespace Go.Proofs.YtnfabflkajpkfaaDoor.XorB
open Go Go.RowKit Go.Proofs.YtnfabflkajpkfaaDoorW.PrintWords Go.Proofs.YtnfabflkajpkfaaDoor.Base
set_option linter.unusedVariables false
set_option linter.unusedSimpArgs false

set_option maxHeartbeats 400000 in
theorem refOf_any (A B : Option Addr) (c cb : Nat) (l : List ByteArray) (v : List UInt64) (w : World) (hC : Kd.string.C w A l.length l) (hB : Kw.C w B v.length v) (hs : ∀ s ∈ l, s.size ≤ 281474976710656) :
    Calls Tryd.prog 51 #[.slice A l.length c, .slice B v.length cb] w fun e w' => e = .returned (.string (ofS l v)) ∧ Below w.heap.size w w' := by
  have hm := C_max hC
  have HC := Aside0.mk hC
  have HB := Aside0.mk hB
  have HS := Aside0.mk hs
  clear hC hs hB
  go_enter Tryd.func51, Tryd.ntmps51
  go_wp2
  go_loopw [5, 6] (fun v' i wr => ∃ k : Nat, k ≤ l.length ∧ i = .int .i64 k ∧ v' = .string (ofN l v k) ∧ Aside0 (Below w.heap.size w wr))
    (fun _ i _ => l.length - (intOf i).toNat)
  case atStart => exact ⟨0, Nat.zero_le _, rfl, rfl, ⟨Below.refl _ _⟩⟩
  case round =>
    obtain ⟨k, hk, rfl, rfl, HG⟩ := hrel
    by_cases hlt : k < l.length
    · obtain ⟨ad, rfl, hcell⟩ := at_str (Kd.C_below HC.out HG.out) k hlt
      have hst := mem_at HS.out k hlt
      have hsz := size_ofN l v _ HS.out k
      go_wp2_with fail
      refine (Words.refGet_any _ _ v k _ (Kd.C_below HB.out HG.out) (by omega)).mono ?_
      rintro e w1 ⟨rfl, rfl⟩
      by_cases hb : getB v k = true
      · have HN := Aside0.mk (ofN_yes l v k hlt hb)
        go_wp2_with fail
        refine (Xor.refXor_any _ _ _ (by omega) (by omega)).mono ?_
        rintro e w1 ⟨rfl, hb1⟩
        have HB1 := Aside0.mk (HG.out.trans (hb1.mono HG.out.size))
        clear hb1 hcell
        go_wp2
        go_roundw
        case rel => exact ⟨k + 1, by omega, by go_num, by rw [HN.out], HB1⟩
        case measure => simp [intOf]; omega
      · have HN := Aside0.mk (ofN_no l v k (by simpa using hb))
        go_wp2
        go_roundw
        case rel => exact ⟨k + 1, by omega, by go_num, by rw [HN.out], HG⟩
        case measure => simp [intOf]; omega
    · obtain rfl : k = l.length := by omega
      go_wp2
      go_ret
      exact ⟨rfl, HG.out⟩

end Go.Proofs.YtnfabflkajpkfaaDoor.XorB
