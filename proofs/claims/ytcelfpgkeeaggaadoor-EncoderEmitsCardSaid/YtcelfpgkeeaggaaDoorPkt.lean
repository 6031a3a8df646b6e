/- The contracts of the reference's Alike and Same of packets that are the same. -/
import Derived.Test.YtcelfpgkeeaggaaDoorXorR
import Derived.Test.YtcelfpgkeeaggaaDoorKinds
namespace Go.Proofs.YtcelfpgkeeaggaaDoor.Pkt
open Go Go.RowKit Go.Proofs.YtcelfpgkeeaggaaDoorW.PrintWords Go.Proofs.YtcelfpgkeeaggaaDoor.Base Go.Proofs.YtcelfpgkeeaggaaDoor.Kinds Go.Proofs.YtcelfpgkeeaggaaDoor.XorR
set_option linter.unusedVariables false
set_option linter.unusedSimpArgs false

/-- a packet's cells -/
def pkC (id len k z hops : Int) (v : Value) (d : ByteArray) : Array Value := #[.int .i64 id, .int .i64 len, .int .i64 k, .int .i64 z, .int .i64 hops, v, .string d]
theorem pkC_one (id len k z hops : Int) (A : Option Addr) (n c : Nat) (d : ByteArray) : (pkC id len k z hops (.slice A n c) d).all (·.oneCell') = true := by simp [pkC, Value.oneCell']

theorem Alike_same (id len k z h1 h2 : Int) (v1 v2 : Value) (d1 d2 : ByteArray) (w : World) :
    Calls Tryd.prog 35 #[.agg (pkC id len k z h1 v1 d1), .agg (pkC id len k z h2 v2 d2)] w fun e w' => e = .returned (.bool true) ∧ Below w.heap.size w w' := by
  unfold pkC
  have HB := Aside0.mk (fun o o' => ((Below.refl w.heap.size w).alloc (Nat.le_refl _) o).alloc (by simp) o')
  go_enter Tryd.func35, Tryd.ntmps35
  go_wp2
  go_ret
  exact ⟨rfl, HB.out _ _⟩
set_option maxHeartbeats 400000 in
theorem Same_same (id len k z h : Int) (A B : Option Addr) (ca cb : Nat) (a b : List UInt64) (d : ByteArray) (w : World) (hA : Kw.C w A a.length a) (hB : Kw.C w B b.length b) (ha : a.length ≤ 8796093022208) (hb : b.length ≤ 8796093022208) (hs : sameW a b = true) :
    Calls Tryd.prog 17 #[.agg (pkC id len k z h (.slice A a.length ca) d), .agg (pkC id len k z h (.slice B b.length cb) d)] w fun e w' => e = .returned (.bool true) ∧ Below w.heap.size w w' := by
  have HA := Aside0.mk hA
  have HBb := Aside0.mk hB
  have HL := Aside0.mk (fun W => Alike_same id len k z h h (.slice A a.length ca) (.slice B b.length cb) d d W)
  have hrr : sameR ⟨a, d⟩ ⟨b, d⟩ = true := by rw [sameR, hs, Bool.true_and]; exact beq_self_eq_true _
  have HRR := Aside0.mk hrr
  clear hA hB hs hrr
  unfold pkC at *
  go_enter Tryd.func17, Tryd.ntmps17
  go_wp2_with fail
  generalize hW : (w.alloc _).alloc _ = W
  have HW : Aside0 (Below w.heap.size w W) := ⟨by rw [← hW]; exact ((Below.refl _ _).alloc (Nat.le_refl _) _).alloc (by simp) _⟩
  have c4 : W.cell? ⟨w.heap.size, 4, none⟩ = some (.int .i64 h) := by rw [← hW]; simp
  have c5 : W.cell? ⟨w.heap.size, 5, none⟩ = some (.slice A a.length ca) := by rw [← hW]; simp
  have c6 : W.cell? ⟨w.heap.size, 6, none⟩ = some (.string d) := by rw [← hW]; simp
  have d4 : W.cell? ⟨w.heap.size + 1, 4, none⟩ = some (.int .i64 h) := by rw [← hW]; simp
  have d5 : W.cell? ⟨w.heap.size + 1, 5, none⟩ = some (.slice B b.length cb) := by rw [← hW]; simp
  have d6 : W.cell? ⟨w.heap.size + 1, 6, none⟩ = some (.string d) := by rw [← hW]; simp
  have hz : W.heap.size = w.heap.size + 2 := by rw [← hW]; simp
  clear hW
  refine (HL.out W).mono ?_
  rintro e w1 ⟨rfl, hb1⟩
  have e4 := (hb1.cell (p := ⟨w.heap.size, 4, none⟩) (by simp [hz])).trans c4
  have e5 := (hb1.cell (p := ⟨w.heap.size, 5, none⟩) (by simp [hz])).trans c5
  have e6 := (hb1.cell (p := ⟨w.heap.size, 6, none⟩) (by simp [hz])).trans c6
  have g4 := (hb1.cell (p := ⟨w.heap.size + 1, 4, none⟩) (by simp [hz])).trans d4
  have g5 := (hb1.cell (p := ⟨w.heap.size + 1, 5, none⟩) (by simp [hz])).trans d5
  have g6 := (hb1.cell (p := ⟨w.heap.size + 1, 6, none⟩) (by simp [hz])).trans d6
  have HB1 := Aside0.mk (bthn HW.out (Nat.le_refl _) hb1)
  clear hb1 c4 c5 c6 d4 d5 d6 hz
  go_wp2_with fail
  refine (Same_any A B ca cb ⟨a, d⟩ ⟨b, d⟩ w1 (Kd.C_below HA.out HB1.out) (Kd.C_below HBb.out HB1.out) ha hb).mono ?_
  rintro e w2 ⟨rfl, hb2⟩
  rw [HRR.out]
  have HB2 := Aside0.mk (bthn HB1.out (Nat.le_refl _) hb2)
  clear hb2
  go_wp2
  go_ret
  exact ⟨rfl, HB2.out⟩

end Go.Proofs.YtcelfpgkeeaggaaDoor.Pkt
