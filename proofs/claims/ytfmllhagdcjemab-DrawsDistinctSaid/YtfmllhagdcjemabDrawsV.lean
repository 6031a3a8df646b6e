/- The walk of the law DrawsDistinct. -/
import Derived.Test.YtfmllhagdcjemabDrawsW
namespace Go.Proofs.Ytfmllhagdcjemab.DrawsV
open Go Go.RowKit Go.Proofs.YtfmllhagdcjemabW.PrintWords Go.Proofs.Ytfmllhagdcjemab.Base Go.Proofs.Ytfmllhagdcjemab.Draws Go.Proofs.Ytfmllhagdcjemab.DrawsP Go.Proofs.Ytfmllhagdcjemab.DrawsD Go.Proofs.Ytfmllhagdcjemab.DrawsE Go.Proofs.Ytfmllhagdcjemab.DrawsF Go.Proofs.Ytfmllhagdcjemab.DrawsW
set_option linter.unusedVariables false
set_option linter.unusedSimpArgs false

set_option maxHeartbeats 1600000 in
theorem DrawsDistinct (A : Option Addr) (c : Nat) (l : List UInt64) (n kk : Int) (w : World) (hC : Kw.C w A l.length l) (hsp : ∀ ad, A = some ad → ad.spot = none) (hn0 : -9223372036854775808 ≤ n) (hn1 : n ≤ 9223372036854775807) (hk0 : -9223372036854775808 ≤ kk) (hk1 : kk ≤ 9223372036854775807) :
    Calls Try.prog 4 #[.slice A l.length c, .int .i64 n, .int .i64 kk] w fun e w' => e = .returned (.bool true) ∧ Below w.heap.size w w' := by
  have hm := C_max hC
  by_cases h3 : 1000 < l.length
  · go_enter Try.func4, Try.ntmps4
    go_wp2_with fail
    refine (awake_any w).mono ?_
    rintro e w2 ⟨rfl, hb⟩
    go_wp2
    go_ret
    exact ⟨rfl, hb⟩
  · have hnew := New_any A c l w hC hsp (by omega)
    clear hC
    by_cases ho : okDst n
    · obtain ⟨n, rfl⟩ := Int.eq_ofNat_of_zero_le ho.1
      have hn : n ≤ 128 := by have := ho.2; omega
      obtain ⟨K, hK⟩ : ∃ K : Nat, min (max kk 0) (n : Int) = K := ⟨(min (max kk 0) (n : Int)).toNat, by omega⟩
      have hKn : K ≤ n := by omega
      have HK := Aside0.mk hK
      obtain ⟨L, hdl, hdr, hds, hdis⟩ : ∃ L : List Int, L.length = K ∧ (∀ j (hj : j < L.length), 0 ≤ L[j] ∧ L[j] < n) ∧ (∀ j (hj : j + 1 < L.length), L[j] < L[j + 1]) ∧
          ∀ b g w, Drw w b g 48 l 0 → Calls Try.prog 13 #[.pointer (some ⟨g, 0, none⟩), .int .i64 n, .int .i64 kk] w fun e w' => ∃ v, e = .returned v ∧ Own w' w.heap.size 3 v (nums .i64 L) ∧ Drw w' b g 48 l (0 + K) ∧ w.grownBy w' (some g) :=
        ⟨resD l 0 n K, resD_length l 0 n K hKn, fun j hj => resD_range l 0 n K _ (List.getElem_mem hj), fun j hj => List.pairwise_iff_getElem.1 (resD_sorted l 0 n K) j (j + 1) (by omega) hj (by omega),
          fun b g w hD => Distinct_any b g _ l 0 n K kk w hD (by omega) hn hk0 hk1 hK⟩
      subst hdl
      have HR := Aside0.mk hdr
      have HS := Aside0.mk hds
      have HDis := Aside0.mk hdis
      clear hK hdr hds hdis ho
      go_enter Try.func4, Try.ntmps4
      go_wp2_with fail
      refine hnew.mono ?_
      rintro e w2 ⟨b, g, rfl, hbb, hD, hb2⟩
      have HD := Aside0.mk hD
      have HB2 := Aside0.mk hb2
      have hbg := hD.bg
      clear hD hb2 hnew
      go_wp2_with fail
      refine (HDis.out b g w2 HD.out).mono ?_
      rintro e w3 ⟨v3, rfl, hO3, hD3, hG3⟩
      obtain ⟨A3, c3, rfl, _, hC3⟩ := hO3.C_int
      have HD3 := Aside0.mk hD3
      have HC3 := Aside0.mk hC3
      have HB3 := Aside0.mk (below_grown HB2.out HB2.out.size hG3 (Nat.le_trans hbb hbg))
      clear hO3 hD3 hG3 hC3 HDis HD HB2
      have HX := HK.out
      go_wp2_with fail
      generalize min (max kk 0) (n : Int) = MM at *
      subst HX
      go_loopw [10] (fun i wr => ∃ k : Nat, k ≤ L.length ∧ i = .int .i64 k ∧ Aside0 (Below w3.heap.size w3 wr)) (fun i _ => L.length - (intOf i).toNat)
      case atStart => exact ⟨0, Nat.zero_le _, rfl, ⟨Below.refl _ _⟩⟩
      case round =>
        obtain ⟨k, hk, rfl, HG⟩ := hrel
        by_cases hlt : k < L.length
        · obtain ⟨ad, rfl, hc1⟩ := at_i (Kd.C_below HC3.out HG.out) k hlt
          obtain ⟨r0, r1⟩ := HR.out k hlt
          have q1 : (0 : Int) ≤ (k : Int) := by omega
          have q2 : (k : Int) < (L.length : Int) := by omega
          have z0 : decide (L[k] < 0) = false := decide_eq_false (by omega)
          have z1 : decide ((n : Int) ≤ L[k]) = false := decide_eq_false (by omega)
          by_cases hk0 : k = 0
          · have q5 : decide ((0 : Int) < (k : Int)) = false := decide_eq_false (by omega)
            have q5n : decide (0 < k) = false := decide_eq_false (by omega)
            clear hk0
            go_wp2
            go_quiet (fail)
            go_wp2
            go_roundw
            case rel => exact ⟨k + 1, by omega, by go_num, ⟨pw_below_drewN HG.out _⟩⟩
            case measure => simp [intOf]; omega
          · obtain ⟨k', hk'⟩ : ∃ k', k = k' + 1 := ⟨k - 1, by omega⟩
            have hk2 : k' < L.length := by omega
            obtain ⟨ad', he, hc2⟩ := at_i (Kd.C_below HC3.out HG.out) k' hk2
            cases he
            have hs : L[k']'hk2 < L[k] := by
              have := HS.out k' (by omega)
              simpa [← hk'] using this
            have q3 : decide (L[k] ≤ L[k']'hk2) = false := decide_eq_false (by omega)
            have q4 : (k : Int) - 1 = (k' : Int) := by omega
            have q5 : decide ((0 : Int) < (k : Int)) = true := decide_eq_true (by omega)
            have q5n : decide (0 < k) = true := decide_eq_true (by omega)
            have hwr : IntKind.i64.wrap ((k : Int) - 1) = (k' : Int) := by rw [IntKind.wrap_i64]; omega
            have q6 : (0 : Int) ≤ (k' : Int) := by omega
            have q7 : (k' : Int) < (L.length : Int) := by omega
            clear hk' hk0 hs
            go_wp2
            go_quiet (fail)
            go_wp2
            go_roundw
            case rel => exact ⟨k + 1, by omega, by go_num, ⟨pw_below_drewN HG.out _⟩⟩
            case measure => simp [intOf]; omega
        · obtain rfl : k = L.length := by omega
          have HDr := Aside0.mk (HD3.out.below HG.out)
          have HBr := Aside0.mk (bthn HB3.out (Nat.le_refl _) HG.out)
          go_wp2_with fail
          refine (Used_any b g _ l (0 + L.length) wr HDr.out).mono ?_
          rintro e w7 ⟨rfl, rfl⟩
          rw [Nat.zero_add]
          go_wp2_with fail
          refine (awake_any wr).mono ?_
          rintro e w4 ⟨rfl, hb4⟩
          go_wp2
          go_ret
          exact ⟨rfl, bthn HBr.out (Nat.le_refl _) hb4⟩
    · have hdis := fun b g w => Distinct_no b g 48 l 0 n kk w ho
      by_cases hneg : n < 0
      · clear ho
        go_enter Try.func4, Try.ntmps4
        go_wp2_with fail
        refine hnew.mono ?_
        rintro e w2 ⟨b, g, rfl, hbb, hD, hb2⟩
        have HD := Aside0.mk hD
        have HB2 := Aside0.mk hb2
        clear hD hb2 hnew
        go_wp2_with fail
        refine (hdis b g w2).mono ?_
        rintro e w3 ⟨rfl, rfl⟩
        go_wp2_with fail
        refine (Used_any b g _ l 0 w2 HD.out).mono ?_
        rintro e w7 ⟨rfl, rfl⟩
        go_wp2_with fail
        refine (awake_any w2).mono ?_
        rintro e w4 ⟨rfl, hb4⟩
        go_wp2
        go_ret
        exact ⟨rfl, bthn HB2.out (Nat.le_refl _) hb4⟩
      · have hbig : 128 < n := by simp only [okDst] at ho; omega
        clear ho
        go_enter Try.func4, Try.ntmps4
        go_wp2_with fail
        refine hnew.mono ?_
        rintro e w2 ⟨b, g, rfl, hbb, hD, hb2⟩
        have HD := Aside0.mk hD
        have HB2 := Aside0.mk hb2
        clear hD hb2 hnew
        go_wp2_with fail
        refine (hdis b g w2).mono ?_
        rintro e w3 ⟨rfl, rfl⟩
        go_wp2_with fail
        refine (Used_any b g _ l 0 w2 HD.out).mono ?_
        rintro e w7 ⟨rfl, rfl⟩
        go_wp2_with fail
        refine (awake_any w2).mono ?_
        rintro e w4 ⟨rfl, hb4⟩
        go_wp2
        go_ret
        exact ⟨rfl, bthn HB2.out (Nat.le_refl _) hb4⟩

end Go.Proofs.Ytfmllhagdcjemab.DrawsV
