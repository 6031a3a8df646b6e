/- The contracts of package draws' Next, Below, Used and of the reference's. -/
import Derived.Test.YtcelfpgkeeaggaaDoorBase
namespace Go.Proofs.YtcelfpgkeeaggaaDoor.Draws
open Go Go.RowKit Go.Proofs.YtcelfpgkeeaggaaDoorW.PrintWords Go.Proofs.YtcelfpgkeeaggaaDoor.Base
set_option linter.unusedVariables false
set_option linter.unusedSimpArgs false

/-- a block of two cells: a row of draws, how many were taken; the row lies below b -/
def Drw (w : World) (b g : Nat) (T : TypeId) (l : List UInt64) (N : Nat) : Prop :=
  ∃ wc A c, wc.heap.size = b ∧ Kw.C wc A l.length l ∧ b ≤ g ∧ Below b wc w ∧ w.heap[g]? = some (.cells #[.slice A l.length c, .int .i64 N] T (0, 0))
section
variable {w w' : World} {b g : Nat} {T : TypeId} {l : List UInt64} {N : Nat}
theorem Drw.lt (h : Drw w b g T l N) : g < w.heap.size := by
  obtain ⟨wc, A, c, h1, h2, h3, h4, h5⟩ := h
  exact (Array.getElem?_eq_some_iff.1 h5).1
theorem Drw.ble (h : Drw w b g T l N) : b ≤ w.heap.size := by
  obtain ⟨wc, A, c, h1, h2, h3, h4, h5⟩ := h
  rw [← h1]; exact h4.size
theorem Drw.bg (h : Drw w b g T l N) : b ≤ g := by
  obtain ⟨wc, A, c, h1, h2, h3, h4, h5⟩ := h
  exact h3
theorem Drw.below (h : Drw w b g T l N) (hb : Below w.heap.size w w') : Drw w' b g T l N := by
  have hg := h.lt
  have hbl := h.ble
  obtain ⟨wc, A, c, h1, h2, h3, h4, h5⟩ := h
  exact ⟨wc, A, c, h1, h2, h3, h4.trans (hb.mono hbl), (hb.block g hg).trans h5⟩
/-- what is written to another block above leaves it -/
theorem Drw.grown (h : Drw w b g T l N) {g' : Nat} (hg' : b ≤ g') (hne : g ≠ g') (hw : w.grownBy w' (some g')) : Drw w' b g T l N := by
  have hg := h.lt
  have hbl := h.ble
  obtain ⟨wc, A, c, h1, h2, h3, h4, h5⟩ := h
  exact ⟨wc, A, c, h1, h2, h3, h4.grown hw hbl (fun k hk => by cases hk; exact hg'), (hw.block g hg (fun e => hne (by injection e))).trans h5⟩
theorem Drw.drewN (h : Drw w b g T l N) (n : Nat) : Drw (w.drewN n) b g T l N := by
  obtain ⟨wc, A, c, h1, h2, h3, h4, h5⟩ := h
  exact ⟨wc, A, c, h1, h2, h3, pw_below_drewN h4 n, h5⟩
theorem Drw.len (h : Drw w b g T l N) : l.length ≤ 9223372036854775807 := by
  obtain ⟨wc, A, c, h1, h2, h3, h4, h5⟩ := h
  exact C_max h2
end

theorem Drw.other {w w' : World} {b g : Nat} {T : TypeId} {l : List UInt64} {N : Nat} (h : Drw w b g T l N) {row : Option Nat} (hr : ∀ k, row = some k → b ≤ k ∧ k ≠ g) (hw : w.grownBy w' row) : Drw w' b g T l N := by
  have hg := h.lt
  have hbl := h.ble
  obtain ⟨wc, A, c, h1, h2, h3, h4, h5⟩ := h
  exact ⟨wc, A, c, h1, h2, h3, h4.grown hw hbl (fun k hk => (hr k hk).1), (hw.block g hg (fun e => (hr g e.symm).2 rfl)).trans h5⟩

/-- the next draw behind N -/
def nextV (l : List UInt64) (N : Nat) : UInt64 := if N < l.length then l.getD N 0 else UInt64.ofNat ((N + 1) * 11400714819323198485)
theorem nextV_in (l : List UInt64) (N : Nat) (h : N < l.length) : nextV l N = l[N] := by
  rw [nextV, if_pos h, List.getD_eq_getElem?_getD, List.getElem?_eq_getElem h]; rfl
theorem nextV_out (l : List UInt64) (N : Nat) (h : ¬ N < l.length) : ((nextV l N).toNat : Int) = (((N : Int) + 1) * 11400714819323198485) % 18446744073709551616 := by
  rw [nextV, if_neg h, UInt64.toNat_ofNat']
  omega

def nextOr (l : List UInt64) (N : Nat) : Value := if N < l.length then encW (nextV l N) else .int .u64 0
def nextIn (l : List UInt64) (N : Nat) : Bool := decide (N < l.length)
set_option maxHeartbeats 400000 in
theorem next_any (b g : Nat) (T : TypeId) (l : List UInt64) (N : Nat) (w : World) (hD : Drw w b g T l N) (hN : N ≤ 1099511627776) :
    Calls Tryd.prog 47 #[.pointer (some ⟨g, 0, none⟩)] w fun e w' => e = .returned (.tuple #[nextOr l N, .bool (nextIn l N)]) ∧ Drw w' b g T l (N + 1) ∧ w.grownBy w' (some g) := by
  have hlen := hD.len
  have hlt := hD.lt
  have hbl := hD.ble
  obtain ⟨wc, A, c, h1, h2, h3, h4, h5⟩ := hD
  have c0 : w.cell? ⟨g, 0, none⟩ = some (.slice A l.length c) := by rw [cell_of_row w g 0 _ T _ h5]; rfl
  have c1 : w.cell? ⟨g, 1, none⟩ = some (.int .i64 N) := by rw [cell_of_row w g 1 _ T _ h5]; rfl
  have f1 : w.frozen? ⟨g, 1, none⟩ = false := blk_frozen h5 _
  have hset := blk_set h5 1 (.int .i64 ((N + 1 : Nat) : Int))
  have hgr : w.grownBy (w.setCell ⟨g, 1, none⟩ (.int .i64 ((N : Int) + 1))) (some g) := ⟨rfl, rfl, rfl, by simp, fun k _ hk => Below.heap_setCell _ _ _ _ (fun e => hk (by simp [e]))⟩
  obtain ⟨W1, hW1⟩ : ∃ W1, W1 = w.setCell ⟨g, 1, none⟩ (.int .i64 ((N : Int) + 1)) := ⟨_, rfl⟩
  have hD1 : Drw W1 b g T l (N + 1) := ⟨wc, A, c, h1, h2, h3, by rw [hW1]; exact h4.setCell (by simpa using h3) _, by rw [hW1]; simpa using hset⟩
  rw [← hW1] at hgr
  have HH : W1.heap[g]? = some (.cells #[.slice A l.length c, .int .i64 ((N : Int) + 1)] T (0, 0)) := by rw [hW1]; simpa using hset
  have d0 : W1.cell? ⟨g, 0, none⟩ = some (.slice A l.length c) := by rw [cell_of_row W1 g 0 _ T _ HH]; rfl
  have d1 : W1.cell? ⟨g, 1, none⟩ = some (.int .i64 ((N : Int) + 1)) := by rw [cell_of_row W1 g 1 _ T _ HH]; rfl
  have HD1 := Aside0.mk hD1
  have HGR := Aside0.mk hgr
  have hC1 : Kw.C W1 A l.length l := Kd.C_below h2 (by rw [h1]; rw [hW1]; exact h4.setCell (by simpa using h3) _)
  clear hset hD1 hgr h1 h2 h4 h5 HH
  by_cases hlt2 : N < l.length
  · obtain ⟨ad, rfl, hcell⟩ := at_w hC1 N hlt2
    have hv := nextV_in l N hlt2
    have HV := Aside0.mk (show nextOr l N = .int .u64 ((l[N]).toNat : Int) ∧ nextIn l N = true from ⟨by rw [nextOr, if_pos hlt2, hv]; rfl, decide_eq_true hlt2⟩)
    clear hv hC1
    have q1 : (N : Int) + 1 ≤ (l.length : Int) := by omega
    have q2 : (N : Int) + 1 - 1 = (N : Int) := by omega
    go_enter Tryd.func47, Tryd.ntmps47
    go_wp2_with fail
    rw [← hW1]
    clear hW1
    go_quiet (fail)
    go_wp2_with fail
    go_quiet (fail)
    go_wp2
    go_ret2
    refine ⟨by rw [HV.out.1, HV.out.2]; rfl, ?_, ?_⟩
    · first | exact (HD1.out.drewN _) | exact ((HD1.out.drewN _).drewN _)
    · first | exact grown_drewN HGR.out _ | exact grown_drewN (grown_drewN HGR.out _) _
  · have HE : Aside0 (nextOr l N = .int .u64 0 ∧ nextIn l N = false) := ⟨if_neg hlt2, decide_eq_false hlt2⟩
    have q1 : ¬ (N : Int) + 1 ≤ (l.length : Int) := by omega
    clear hC1
    go_enter Tryd.func47, Tryd.ntmps47
    go_wp2_with fail
    rw [← hW1]
    clear hW1
    go_quiet (fail)
    go_wp2
    go_ret2
    refine ⟨by rw [HE.out.1, HE.out.2]; rfl, ?_, ?_⟩
    · exact HD1.out.drewN _
    · exact grown_drewN HGR.out _

set_option maxHeartbeats 400000 in
theorem Next_any (b g : Nat) (T : TypeId) (l : List UInt64) (N : Nat) (w : World) (hD : Drw w b g T l N) (hN : N ≤ 1099511627776) :
    Calls Tryd.prog 25 #[.pointer (some ⟨g, 0, none⟩)] w fun e w' => e = .returned (encW (nextV l N)) ∧ Drw w' b g T l (N + 1) ∧ w.grownBy w' (some g) := by
  have hn := next_any b g T l N w hD hN
  by_cases hlt2 : N < l.length
  · have HE : nextOr l N = encW (nextV l N) ∧ nextIn l N = true := ⟨if_pos hlt2, decide_eq_true hlt2⟩
    rw [HE.1, HE.2] at hn
    generalize encW (nextV l N) = V at hn
    clear HE hD
    go_enter Tryd.func25, Tryd.ntmps25
    go_wp2_with fail
    refine hn.mono ?_
    rintro e w1 ⟨rfl, hD1, hG1⟩
    have HD1 := Aside0.mk hD1
    have HG1 := Aside0.mk hG1
    clear hD1 hG1
    go_wp2
    go_ret
    exact ⟨rfl, HD1.out, HG1.out⟩
  · have HE : nextOr l N = .int .u64 0 ∧ nextIn l N = false := ⟨if_neg hlt2, decide_eq_false hlt2⟩
    have hv := nextV_out l N hlt2
    have HV := Aside0.mk (show encW (nextV l N) = .int .u64 ((((N : Int) + 1) * 11400714819323198485) % 18446744073709551616) by rw [← hv]; rfl)
    rw [HE.1, HE.2] at hn
    clear HE hD hv
    go_enter Tryd.func25, Tryd.ntmps25
    go_wp2_with fail
    refine hn.mono ?_
    rintro e w1 ⟨rfl, hD1, hG1⟩
    have HD1 := Aside0.mk hD1
    have HG1 := Aside0.mk hG1
    obtain ⟨wc, A, c, h1, h2, h3, h4, h5⟩ := hD1
    have c1 : w1.cell? ⟨g, 1, none⟩ = some (.int .i64 ((N : Int) + 1)) := by rw [cell_of_row w1 g 1 _ T _ h5]; rfl
    clear h1 h2 h3 h4 h5 hG1
    go_wp2
    go_ret
    exact ⟨by rw [HV.out]; rfl, HD1.out, HG1.out⟩

set_option maxHeartbeats 400000 in
theorem refNext_any (b g : Nat) (T : TypeId) (l : List UInt64) (N : Nat) (w : World) (hD : Drw w b g T l N) (hN : N ≤ 1099511627776) :
    Calls Tryd.prog 39 #[.pointer (some ⟨g, 0, none⟩)] w fun e w' => e = .returned (encW (nextV l N)) ∧ Drw w' b g T l (N + 1) ∧ w.grownBy w' (some g) := by
  have hlen := hD.len
  have hlt := hD.lt
  have hbl := hD.ble
  obtain ⟨wc, A, c, h1, h2, h3, h4, h5⟩ := hD
  have c0 : w.cell? ⟨g, 0, none⟩ = some (.slice A l.length c) := by rw [cell_of_row w g 0 _ T _ h5]; rfl
  have c1 : w.cell? ⟨g, 1, none⟩ = some (.int .i64 N) := by rw [cell_of_row w g 1 _ T _ h5]; rfl
  have f1 : w.frozen? ⟨g, 1, none⟩ = false := blk_frozen h5 _
  have hset := blk_set h5 1 (.int .i64 ((N + 1 : Nat) : Int))
  have hgr : w.grownBy (w.setCell ⟨g, 1, none⟩ (.int .i64 ((N : Int) + 1))) (some g) := ⟨rfl, rfl, rfl, by simp, fun k _ hk => Below.heap_setCell _ _ _ _ (fun e => hk (by simp [e]))⟩
  obtain ⟨W1, hW1⟩ : ∃ W1, W1 = w.setCell ⟨g, 1, none⟩ (.int .i64 ((N : Int) + 1)) := ⟨_, rfl⟩
  have hD1 : Drw W1 b g T l (N + 1) := ⟨wc, A, c, h1, h2, h3, by rw [hW1]; exact h4.setCell (by simpa using h3) _, by rw [hW1]; simpa using hset⟩
  rw [← hW1] at hgr
  have HH : W1.heap[g]? = some (.cells #[.slice A l.length c, .int .i64 ((N : Int) + 1)] T (0, 0)) := by rw [hW1]; simpa using hset
  have HHD : ∀ n, (W1.drewN n).heap[g]? = some (.cells #[.slice A l.length c, .int .i64 ((N : Int) + 1)] T (0, 0)) := fun n => HH
  have d0 : W1.cell? ⟨g, 0, none⟩ = some (.slice A l.length c) := by rw [cell_of_row W1 g 0 _ T _ HH]; rfl
  have d1 : W1.cell? ⟨g, 1, none⟩ = some (.int .i64 ((N : Int) + 1)) := by rw [cell_of_row W1 g 1 _ T _ HH]; rfl
  have HD1 := Aside0.mk hD1
  have HGR := Aside0.mk hgr
  have hC1 : Kw.C W1 A l.length l := Kd.C_below h2 (by rw [h1]; rw [hW1]; exact h4.setCell (by simpa using h3) _)
  clear hset hD1 hgr h1 h2 h4 h5 HH HHD
  by_cases hlt2 : N < l.length
  · obtain ⟨ad, rfl, hcell⟩ := at_w hC1 N hlt2
    have hv := nextV_in l N hlt2
    have HV := Aside0.mk (show encW (nextV l N) = .int .u64 ((l[N]).toNat : Int) by rw [hv]; rfl)
    clear hv hC1
    have q1 : (N : Int) + 1 ≤ (l.length : Int) := by omega
    have q2 : (N : Int) + 1 - 1 = (N : Int) := by omega
    go_enter Tryd.func39, Tryd.ntmps39
    go_wp2_with fail
    rw [← hW1]
    clear hW1
    go_quiet (fail)
    go_wp2_with fail
    go_quiet (fail)
    go_wp2
    go_ret
    refine ⟨by rw [HV.out]; rfl, ?_, ?_⟩
    · first | exact (HD1.out.drewN _) | exact ((HD1.out.drewN _).drewN _)
    · first | exact grown_drewN HGR.out _ | exact grown_drewN (grown_drewN HGR.out _) _
  · have hv := nextV_out l N hlt2
    have HV := Aside0.mk (show encW (nextV l N) = .int .u64 ((((N : Int) + 1) * 11400714819323198485) % 18446744073709551616) by rw [← hv]; rfl)
    have q1 : ¬ (N : Int) + 1 ≤ (l.length : Int) := by omega
    clear hC1 hv
    go_enter Tryd.func39, Tryd.ntmps39
    go_wp2_with fail
    rw [← hW1]
    clear hW1
    go_quiet (fail)
    go_wp2
    go_ret
    refine ⟨by rw [HV.out]; rfl, ?_, ?_⟩
    · first | exact (HD1.out.drewN _) | exact ((HD1.out.drewN _).drewN _)
    · first | exact grown_drewN HGR.out _ | exact grown_drewN (grown_drewN HGR.out _) _

/-- one below a number, and how many draws are used then -/
def belowV (l : List UInt64) (N : Nat) (n : Int) : Int := if n < 1 then 0 else ((nextV l N).toNat : Int) % n
def belowN (N : Nat) (n : Int) : Nat := if n < 1 then N else N + 1
theorem belowV_yes (l : List UInt64) (N : Nat) {n : Int} (h : ¬ n < 1) : belowV l N n = ((nextV l N).toNat : Int) % n ∧ belowN N n = N + 1 := ⟨if_neg h, if_neg h⟩
theorem belowV_no (l : List UInt64) (N : Nat) {n : Int} (h : n < 1) : belowV l N n = 0 ∧ belowN N n = N := ⟨if_pos h, if_pos h⟩
theorem belowV_range (l : List UInt64) (N : Nat) {n : Int} (h : ¬ n < 1) : 0 ≤ belowV l N n ∧ belowV l N n < n := by
  rw [(belowV_yes l N h).1]
  exact ⟨Int.emod_nonneg _ (by omega), Int.emod_lt_of_pos _ (by omega)⟩
theorem Drw.same (w : World) (b g : Nat) (T : TypeId) (l : List UInt64) (N : Nat) (h : Drw w b g T l N) : w.grownBy w (some g) := ⟨rfl, rfl, rfl, Nat.le_refl _, fun _ _ _ => rfl⟩

set_option maxHeartbeats 400000 in
theorem Below_any (b g : Nat) (T : TypeId) (l : List UInt64) (N : Nat) (n : Int) (w : World) (hD : Drw w b g T l N) (hN : N ≤ 1099511627776) (hn0 : -9223372036854775808 ≤ n) (hn1 : n ≤ 9223372036854775807) :
    Calls Tryd.prog 48 #[.pointer (some ⟨g, 0, none⟩), .int .i64 n] w fun e w' => e = .returned (.int .i64 (belowV l N n)) ∧ Drw w' b g T l (belowN N n) ∧ w.grownBy w' (some g) := by
  by_cases hn : n < 1
  · have HE := Aside0.mk (belowV_no l N hn)
    have HD := Aside0.mk hD
    clear hD
    go_enter Tryd.func48, Tryd.ntmps48
    go_wp2
    go_ret
    exact ⟨by rw [HE.out.1]; rfl, by rw [HE.out.2]; exact HD.out, Drw.same _ _ _ _ _ _ HD.out⟩
  · have HE := Aside0.mk (belowV_yes l N hn)
    have hr := belowV_range l N hn
    rw [HE.out.1] at hr
    have hnx := Next_any b g T l N w hD hN
    rw [show encW (nextV l N) = .int .u64 ((nextV l N).toNat : Int) from rfl] at hnx
    have hb := (nextV l N).toNat_lt
    generalize (nextV l N).toNat = V at *
    clear hD
    go_enter Tryd.func48, Tryd.ntmps48
    go_wp2_with fail
    refine hnx.mono ?_
    rintro e w1 ⟨rfl, hD1, hG1⟩
    have HD1 := Aside0.mk hD1
    have HG1 := Aside0.mk hG1
    clear hD1 hG1 hnx
    go_wp2
    go_ret
    exact ⟨by rw [HE.out.1]; rfl, by rw [HE.out.2]; exact HD1.out, HG1.out⟩

set_option maxHeartbeats 400000 in
theorem refBelow_any (b g : Nat) (T : TypeId) (l : List UInt64) (N : Nat) (n : Int) (w : World) (hD : Drw w b g T l N) (hN : N ≤ 1099511627776) (hn0 : -9223372036854775808 ≤ n) (hn1 : n ≤ 9223372036854775807) :
    Calls Tryd.prog 56 #[.pointer (some ⟨g, 0, none⟩), .int .i64 n] w fun e w' => e = .returned (.int .i64 (belowV l N n)) ∧ Drw w' b g T l (belowN N n) ∧ w.grownBy w' (some g) := by
  by_cases hn : n < 1
  · have HE := Aside0.mk (belowV_no l N hn)
    have HD := Aside0.mk hD
    clear hD
    go_enter Tryd.func56, Tryd.ntmps56
    go_wp2
    go_ret
    exact ⟨by rw [HE.out.1]; rfl, by rw [HE.out.2]; exact HD.out, Drw.same _ _ _ _ _ _ HD.out⟩
  · have HE := Aside0.mk (belowV_yes l N hn)
    have hr := belowV_range l N hn
    rw [HE.out.1] at hr
    have hnx := refNext_any b g T l N w hD hN
    rw [show encW (nextV l N) = .int .u64 ((nextV l N).toNat : Int) from rfl] at hnx
    have hb := (nextV l N).toNat_lt
    generalize (nextV l N).toNat = V at *
    clear hD
    go_enter Tryd.func56, Tryd.ntmps56
    go_wp2_with fail
    refine hnx.mono ?_
    rintro e w1 ⟨rfl, hD1, hG1⟩
    have HD1 := Aside0.mk hD1
    have HG1 := Aside0.mk hG1
    clear hD1 hG1 hnx
    go_wp2
    go_ret
    exact ⟨by rw [HE.out.1]; rfl, by rw [HE.out.2]; exact HD1.out, HG1.out⟩

theorem Used_any (b g : Nat) (T : TypeId) (l : List UInt64) (N : Nat) (w : World) (hD : Drw w b g T l N) :
    Calls Tryd.prog 19 #[.pointer (some ⟨g, 0, none⟩)] w fun e w' => e = .returned (.int .i64 N) ∧ w = w' := by
  obtain ⟨wc, A, c, h1, h2, h3, h4, h5⟩ := hD
  have c1 : w.cell? ⟨g, 1, none⟩ = some (.int .i64 N) := by rw [cell_of_row w g 1 _ T _ h5]; rfl
  clear h1 h2 h3 h4 h5
  go_enter Tryd.func19, Tryd.ntmps19
  go_wp2
  go_ret
  exact ⟨rfl, rfl⟩

end Go.Proofs.YtcelfpgkeeaggaaDoor.Draws
