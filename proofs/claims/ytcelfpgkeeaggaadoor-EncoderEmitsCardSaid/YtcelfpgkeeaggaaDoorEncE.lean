/- The contracts of package encoder's Emit. -/
import Derived.Test.YtcelfpgkeeaggaaDoorEnc
import Derived.Test.YtcelfpgkeeaggaaDoorSolitonW
import Derived.Test.YtcelfpgkeeaggaaDoorPkt
namespace Go.Proofs.YtcelfpgkeeaggaaDoor.EncE
open Go Go.RowKit Go.Proofs.YtcelfpgkeeaggaaDoorW.PrintWords Go.Proofs.YtcelfpgkeeaggaaDoor.Base Go.Proofs.YtcelfpgkeeaggaaDoor.Bits Go.Proofs.YtcelfpgkeeaggaaDoor.WordsS Go.Proofs.YtcelfpgkeeaggaaDoor.Split Go.Proofs.YtcelfpgkeeaggaaDoor.SplitB Go.Proofs.YtcelfpgkeeaggaaDoor.Soliton Go.Proofs.YtcelfpgkeeaggaaDoor.Draws Go.Proofs.YtcelfpgkeeaggaaDoor.DrawsP Go.Proofs.YtcelfpgkeeaggaaDoor.DrawsE Go.Proofs.YtcelfpgkeeaggaaDoor.Enc Go.Proofs.YtcelfpgkeeaggaaDoor.Pkt
set_option linter.unusedVariables false
set_option linter.unusedSimpArgs false

def setsN (v : List UInt64) (L : List Int) : Nat → List UInt64
  | 0 => v
  | k + 1 => setW (setsN v L k) (L.getD k 0).toNat true
theorem setsN_length (v : List UInt64) (L : List Int) (k : Nat) : (setsN v L k).length = v.length := by
  induction k with
  | zero => rfl
  | succ k ih => rw [setsN, setW_length, ih]
def degI (l : List UInt64) (N K sp : Nat) : Int := pickI (tabN K sp) ((nextV l N).toNat : Int)
def cntE (l : List UInt64) (N K sp : Nat) : Nat := (min (max (degI l N K sp) 0) (K : Int)).toNat
def resE (l : List UInt64) (N K sp : Nat) : List Int := resD l (N + 1) K (cntE l N K sp)
def emitV (l : List UInt64) (N K sp : Nat) : List UInt64 := setsN (List.replicate (sizeN K) 0) (resE l N K sp) (resE l N K sp).length

theorem deg_range (l : List UInt64) (N K sp : Nat) (h1 : 1 ≤ K) : 0 ≤ degI l N K sp ∧ degI l N K sp ≤ K := by
  have hp : 0 < sumI (tabN K sp) := by
    have := SolitonW.tab_pos K sp
    have h := SolitonW.sumI_take_le (tabN K sp) 0 (by rw [tabN_length]; omega)
    have h2 := this _ (List.getElem_mem (show 0 < (tabN K sp).length by rw [tabN_length]; omega))
    simp only [List.take_zero, sumI, List.map_nil, List.sum_nil] at h
    simp only [sumI]
    omega
  have := SolitonW.pickI_range (tabN K sp) ((nextV l N).toNat : Int) hp
  rw [tabN_length] at this
  unfold degI
  omega
theorem cntE_le (l : List UInt64) (N K sp : Nat) : cntE l N K sp ≤ K := by unfold cntE; omega
theorem resE_range (l : List UInt64) (N K sp : Nat) (x : Int) (h : x ∈ resE l N K sp) : 0 ≤ x ∧ x < K := resD_range _ _ _ _ x h
theorem resE_length (l : List UInt64) (N K sp : Nat) : (resE l N K sp).length ≤ 128 ∨ 128 < K := by
  rw [resE, resD_length _ _ _ _ (cntE_le l N K sp)]
  have := cntE_le l N K sp
  omega
/-- the packet's block, and the zero one behind whose address the result lies -/
def Pk0 (w : World) (r p : Nat) (id : Int) (n : Nat) (K z : Nat) : Prop :=
  w.heap[r]? = some (.cells (pkC 0 0 0 0 0 (.slice none 0 0) ⟨#[]⟩) 43 (0, 0)) ∧ w.heap[p]? = some (.cells (pkC id n K z 0 (.slice none 0 0) ⟨#[]⟩) 43 (0, 0))
theorem Pk0.grown {w w' : World} {r p : Nat} {id : Int} {n K z : Nat} (h : Pk0 w r p id n K z) {row : Option Nat} (hw : w.grownBy w' row) (h1 : row ≠ some r) (h2 : row ≠ some p) : Pk0 w' r p id n K z :=
  ⟨(hw.block r (Array.getElem?_eq_some_iff.1 h.1).1 (Ne.symm h1)).trans h.1, (hw.block p (Array.getElem?_eq_some_iff.1 h.2).1 (Ne.symm h2)).trans h.2⟩
theorem Pk0.below {w w' : World} {r p : Nat} {id : Int} {n K z : Nat} (h : Pk0 w r p id n K z) (hw : Below w.heap.size w w') : Pk0 w' r p id n K z :=
  ⟨(hw.block r (Array.getElem?_eq_some_iff.1 h.1).1).trans h.1, (hw.block p (Array.getElem?_eq_some_iff.1 h.2).1).trans h.2⟩

/-- where the draws lie behind an emit: as they were, or in new memory -/
def ArgRel (arg : Value) (b h n b' h' : Nat) : Prop := arg = .pointer (some ⟨h, 0, none⟩) ∧ b' = b ∧ h' = h ∨ arg = .pointer none ∧ n ≤ h'
theorem Drw.nil {w wc : World} {b g N : Nat} {T : TypeId} (h : Drw w b g T [] N) (hb : Below wc.heap.size wc w) (hg : wc.heap.size ≤ g) : Drw w wc.heap.size g T [] N := by
  obtain ⟨_, A, c, h1, h2, h3, h4, h5⟩ := h
  exact ⟨wc, A, c, rfl, ⟨rfl, by decide, fun h => absurd h (by decide)⟩, hg, hb, h5⟩
theorem grown_some {w w' : World} (h : w.grownBy w' none) (g : Option Nat) : w.grownBy w' g := ⟨h.os, h.tape, h.output, h.size, fun k hk _ => h.block k hk (by simp)⟩

set_option maxHeartbeats 2000000 in
theorem Emit_core (arg : Value) (bs g b h : Nat) (id : Int) (s : ByteArray) (z K sp : Nat) (l : List UInt64) (N : Nat) (w : World) (hS : SrcE w bs g id s z K sp)
    (hA : (arg = .pointer (some ⟨h, 0, none⟩) ∧ Drw w b h 76 l N ∧ bs ≤ b ∧ g ≠ h) ∨ (arg = .pointer none ∧ l = [] ∧ N = 0)) (hN : N ≤ 1099511627) (hK : K ≤ 128) (hK1 : 1 ≤ K) (hsK : sp ≤ K) (hz64 : z ≤ 281474976710656) :
    Calls Tryd.prog 13 #[.pointer (some ⟨g, 0, none⟩), arg] w fun e w' => ∃ v b' h', e = .returned (.agg (pkC id s.size K z 0 v (ofS (blocksN s z K) (emitV l N K sp)))) ∧ Own w' w.heap.size 38 v ((emitV l N K sp).map encW) ∧ Drw w' b' h' 76 l (N + 1 + cntE l N K sp) ∧ w.grownBy w' (some h') ∧ ArgRel arg b h w.heap.size b' h' := by
  have hgz := hS.ble
  obtain ⟨w0, ga, gb, c, d, h1, h2, h3, h4, h5, h6, h7⟩ := hS
  have hgl : g < w.heap.size := (Array.getElem?_eq_some_iff.1 h7).1
  have HSz := Aside0.mk h1
  have HBl := Aside0.mk h2
  have HTb := Aside0.mk h4
  have HSB := Aside0.mk h6
  have HS7 := Aside0.mk h7
  have hdg := deg_range l N K sp hK1
  clear h1 h2 h4 h6 h7
  obtain ⟨r, hr⟩ : ∃ r, r = w.heap.size := ⟨_, rfl⟩
  have HR := Aside0.mk hr
  have hB0 : ∀ o, Below w.heap.size w (w.alloc o) := fun o => (Below.refl _ _).alloc (Nat.le_refl _) _
  have HB0 := Aside0.mk hB0
  clear hr hB0
  rcases hA with ⟨rfl, hD, hbh, hne⟩ | ⟨rfl, hl, hN0⟩
  case' inl =>
    have hhl : h < w.heap.size := hD.lt
    have hbd := hD.bg
    have HD := Aside0.mk hD
    clear hD
    go_enter Tryd.func13, Tryd.ntmps13
    go_upto_region 5 with fail
    rw [← HR.out]
    generalize hW1 : w.alloc _ = W1
    have HB1 : Aside0 (Below w.heap.size w W1) := ⟨by rw [← hW1]; exact HB0.out _⟩
    have HP1 : Aside0 (W1.heap[r]? = some (.cells (pkC 0 0 0 0 0 (.slice none 0 0) ⟨#[]⟩) 43 (0, 0))) := ⟨by rw [← hW1, HR.out]; exact heap_alloc_new _ _⟩
    have hz1 : r < W1.heap.size := by rw [← hW1, HR.out]; simp
    have HD1 := Aside0.mk (HD.out.below HB1.out)
    have HA : Aside0 (ArgRel (.pointer (some ⟨h, 0, none⟩)) b h w.heap.size b h) := ⟨.inl ⟨rfl, rfl, rfl⟩⟩
    have hhr : h ≠ r := by rw [HR.out]; omega
    have hbr : b ≤ r := by rw [HR.out]; omega
    have hhl1 : h < W1.heap.size := HD1.out.lt
    have hgW : g < W1.heap.size := Nat.lt_of_lt_of_le hgl HB1.out.size
    clear hW1 HD hhl
    have s0 : W1.cell? ⟨g, 0, none⟩ = some (.int .i64 id) := by rw [cell_of_row W1 g 0 _ _ _ ((HB1.out.block g hgl).trans HS7.out)]; rfl
    have s1 : W1.cell? ⟨g, 1, none⟩ = some (.int .i64 s.size) := by rw [cell_of_row W1 g 1 _ _ _ ((HB1.out.block g hgl).trans HS7.out)]; rfl
    have s2 : W1.cell? ⟨g, 2, none⟩ = some (.int .i64 K) := by rw [cell_of_row W1 g 2 _ _ _ ((HB1.out.block g hgl).trans HS7.out)]; rfl
    have s3 : W1.cell? ⟨g, 3, none⟩ = some (.int .i64 z) := by rw [cell_of_row W1 g 3 _ _ _ ((HB1.out.block g hgl).trans HS7.out)]; rfl
    have s4 : W1.cell? ⟨g, 4, none⟩ = some (.int .i64 0) := by rw [cell_of_row W1 g 4 _ _ _ ((HB1.out.block g hgl).trans HS7.out)]; rfl
    have s5 : W1.cell? ⟨g, 5, none⟩ = some (.slice none 0 0) := by rw [cell_of_row W1 g 5 _ _ _ ((HB1.out.block g hgl).trans HS7.out)]; rfl
    have s6 : W1.cell? ⟨g, 6, none⟩ = some (.string ⟨#[]⟩) := by rw [cell_of_row W1 g 6 _ _ _ ((HB1.out.block g hgl).trans HS7.out)]; rfl
    go_upto_region 6 with fail
  case' inr =>
    obtain ⟨h0, hh0⟩ : ∃ x, x = h := ⟨_, rfl⟩
    obtain ⟨b0, hb0⟩ : ∃ x, x = b := ⟨_, rfl⟩
    rw [← hh0, ← hb0]
    have HLN := Aside0.mk (And.intro hl hN0)
    clear hh0 hb0 b h hl hN0
    go_enter Tryd.func13, Tryd.ntmps13
    go_wp2_with fail
    generalize hW0 : w.alloc _ = Wn
    have HB0' : Aside0 (Below w.heap.size w Wn) := ⟨by rw [← hW0]; exact HB0.out _⟩
    have HP0 : Aside0 (Wn.heap[r]? = some (.cells (pkC 0 0 0 0 0 (.slice none 0 0) ⟨#[]⟩) 43 (0, 0))) := ⟨by rw [← hW0, HR.out]; exact heap_alloc_new _ _⟩
    have hz0 : r < Wn.heap.size := by rw [← hW0, HR.out]; simp
    clear hW0
    refine (DrawsD.New_any none 0 [] Wn ⟨rfl, by decide, fun h => absurd h (by decide)⟩ (fun ad h => by cases h) (by simp)).mono ?_
    rintro e W1 ⟨b1, h, rfl, hbb, hD1, hBn⟩
    have hwh : w.heap.size ≤ h := by have := hD1.bg; have := HB0'.out.size; omega
    have hhr : h ≠ r := by have := hD1.bg; omega
    have hD1 := Drw.nil hD1 (bthn HB0'.out (Nat.le_refl _) hBn) hwh
    obtain ⟨b, hbw⟩ : ∃ b, b = w.heap.size := ⟨_, rfl⟩
    rw [← hbw] at hD1
    have hbr : b ≤ r := Nat.le_of_eq (hbw.trans HR.out.symm)
    have hbh : bs ≤ b := by omega
    have HA : Aside0 (ArgRel (.pointer none) b0 h0 w.heap.size b h) := ⟨.inr ⟨rfl, hwh⟩⟩
    have HB1 : Aside0 (Below w.heap.size w W1) := ⟨bthn HB0'.out (Nat.le_refl _) hBn⟩
    have HP1 : Aside0 (W1.heap[r]? = some (.cells (pkC 0 0 0 0 0 (.slice none 0 0) ⟨#[]⟩) 43 (0, 0))) := ⟨(hBn.block r hz0).trans HP0.out⟩
    have hz1 : r < W1.heap.size := Nat.lt_of_lt_of_le hz0 hBn.size
    have hbd := hD1.bg
    have hhl1 : h < W1.heap.size := hD1.lt
    have hgW : g < W1.heap.size := Nat.lt_of_lt_of_le hgl HB1.out.size
    have hne : g ≠ h := by omega
    have HD1 : Aside0 (Drw W1 b h 76 l N) := ⟨by rw [HLN.out.1, HLN.out.2]; exact hD1⟩
    clear hD1 hBn HB0' HP0 hz0 hbb hbw
    rw [← HR.out]
    have s0 : W1.cell? ⟨g, 0, none⟩ = some (.int .i64 id) := by rw [cell_of_row W1 g 0 _ _ _ ((HB1.out.block g hgl).trans HS7.out)]; rfl
    have s1 : W1.cell? ⟨g, 1, none⟩ = some (.int .i64 s.size) := by rw [cell_of_row W1 g 1 _ _ _ ((HB1.out.block g hgl).trans HS7.out)]; rfl
    have s2 : W1.cell? ⟨g, 2, none⟩ = some (.int .i64 K) := by rw [cell_of_row W1 g 2 _ _ _ ((HB1.out.block g hgl).trans HS7.out)]; rfl
    have s3 : W1.cell? ⟨g, 3, none⟩ = some (.int .i64 z) := by rw [cell_of_row W1 g 3 _ _ _ ((HB1.out.block g hgl).trans HS7.out)]; rfl
    have s4 : W1.cell? ⟨g, 4, none⟩ = some (.int .i64 0) := by rw [cell_of_row W1 g 4 _ _ _ ((HB1.out.block g hgl).trans HS7.out)]; rfl
    have s5 : W1.cell? ⟨g, 5, none⟩ = some (.slice none 0 0) := by rw [cell_of_row W1 g 5 _ _ _ ((HB1.out.block g hgl).trans HS7.out)]; rfl
    have s6 : W1.cell? ⟨g, 6, none⟩ = some (.string ⟨#[]⟩) := by rw [cell_of_row W1 g 6 _ _ _ ((HB1.out.block g hgl).trans HS7.out)]; rfl
    go_upto_region 6 with fail
  all_goals
    have hp : ∃ p, p = W1.heap.size := ⟨_, rfl⟩
    obtain ⟨p, hp⟩ := hp
    rw [← hp]
    generalize hW2 : W1.alloc _ = W2
    have HP2 : Aside0 (Pk0 W2 r p id s.size K z) := ⟨by rw [← hW2, hp]; exact ⟨(heap_alloc_old W1 _ hz1).trans HP1.out, heap_alloc_new _ _⟩⟩
    have hB12 : Below W1.heap.size W1 W2 := by rw [← hW2]; exact (Below.refl _ _).alloc (Nat.le_refl _) _
    have hz2 : W2.heap.size = p + 1 := by rw [← hW2, hp]; simp
    have hrp : r < p := by omega
    have hhp : h < p := by omega
    have hgp : g < p := by omega
    have hg2 : W2.heap[g]? = _ := (hB12.block g hgW).trans ((HB1.out.block g hgl).trans HS7.out)
    have HD2 := Aside0.mk (HD1.out.below hB12)
    have s7 : W2.cell? ⟨g, 7, none⟩ = some (.slice (some ⟨ga, 0, none⟩) K c) := by rw [cell_of_row W2 g 7 _ _ _ hg2]; rfl
    have s8 : W2.cell? ⟨g, 8, none⟩ = some (.slice (some ⟨gb, 0, none⟩) K d) := by rw [cell_of_row W2 g 8 _ _ _ hg2]; rfl
    have HB2 := Aside0.mk (bthn HB1.out (Nat.le_refl _) hB12)
    have HSB2 : Aside0 (Below bs w0 W2) := ⟨HSB.out.trans (HB2.out.mono hgz)⟩
    have HG2S := Aside0.mk hg2
    have hrw1 : r ≤ w.heap.size := Nat.le_of_eq HR.out
    have hrw2 : w.heap.size ≤ r := Nat.le_of_eq HR.out.symm
    clear hW2 hB12 s0 s1 s2 s3 s4 s5 s6 hg2 HP1 HD1 hp hz1 hhl1 hgW
    have HTab : Aside0 (∀ W', Below bs w0 W' → (Kd.int .i64).C W' (some ⟨gb, 0, none⟩) (tabN K sp).length (tabN K sp)) := ⟨fun W' hb => by rw [tabN_length]; exact Kd.C_below HTb.out (by rw [HSz.out]; exact hb)⟩
    have HBlk : Aside0 (∀ W', Below bs w0 W' → Kd.string.C W' (some ⟨ga, 0, none⟩) (blocksN s z K).length (blocksN s z K)) := ⟨fun W' hb => by rw [blocksN_length]; exact Kd.C_below HBl.out (by rw [HSz.out]; exact hb)⟩
    go_cut [6] (fun v6 wx => v6 = .int .i64 (degI l N K sp) ∧ Aside0 (Drw wx b h 76 l (N + 1)) ∧ Aside0 (W2.grownBy wx (some h)))
    case first =>
      have hnx := Next_any b h 76 l N W2.drew (HD2.out.drewN 1) (by omega)
      rw [show encW (nextV l N) = .int .u64 ((nextV l N).toNat : Int) from rfl] at hnx
      have hV := (nextV l N).toNat_lt
      have HDg : Aside0 (degI l N K sp = pickI (tabN K sp) ((nextV l N).toNat : Int)) := ⟨rfl⟩
      generalize (nextV l N).toNat = V at *
      have hpk := fun W' hb => Soliton.Pick_any (some ⟨gb, 0, none⟩) d (tabN K sp) (V : Int) W' (HTab.out W' hb) (SolitonL.fewI_tab K sp hK1 hK hsK) (by omega) (by omega)
      rw [tabN_length] at hpk
      clear s7
      have HS8 := Aside0.mk s8
      have hX : Aside0 (some g ≠ some h) := ⟨fun e => hne (by injection e)⟩
      have hbb : Aside0 (∀ wx, W2.drew.grownBy wx (some h) → Below bs w0 wx) := ⟨fun wx hg => HSB2.out.drew.grown hg (by have := HB2.out.size; simp; omega) (fun k hk => by cases hk; omega)⟩
      go_region_held3 (fun w' => w'.cell? ⟨g, 8, none⟩ = some (.slice (some ⟨gb, 0, none⟩) K d))
        (first
          | go_keep
          | exact cell_apart hG3 HS8.out hX.out)
        (first
          | (go_at_call 25; refine hnx.mono ?_; rintro e w3 ⟨rfl, hD3, hG3⟩)
          | (go_at_call 24; refine (hpk _ (hbb.out _ hG3)).mono ?_; rintro e w4 ⟨rfl, rfl⟩))
      all_goals
        go_wp2_with fail
        go_meet
        exact ⟨by rw [HDg.out], ⟨hD3⟩, ⟨⟨hG3.os, hG3.tape, hG3.output, hG3.size, hG3.block⟩⟩⟩
    case rest =>
      obtain ⟨rfl, HD3, HG3⟩ := hcut
      have hwb : p + 1 ≤ wc.heap.size := by have := HG3.out.size; omega
      have HP3 := Aside0.mk (HP2.out.grown HG3.out (by intro e; injection e; omega) (by intro e; injection e; omega))
      have HB3 : Aside0 (Below bs w0 wc) := ⟨HSB2.out.grown HG3.out (by omega) (fun k hk => by cases hk; omega)⟩
      have t7 := cell_apart HG3.out s7 (show some g ≠ some h from fun e => hne (by injection e))
      have p2 : wc.cell? ⟨p, 2, none⟩ = some (.int .i64 K) := by rw [cell_of_row _ _ 2 _ _ _ HP3.out.2]; rfl
      have p2n : ∀ o, (wc.alloc o).cell? ⟨p, 2, none⟩ = some (.int .i64 K) := fun o => by rw [cell_of_row _ _ 2 _ _ _ ((heap_alloc_old wc o (show p < wc.heap.size by omega)).trans HP3.out.2)]; rfl
      have hsz := sizeW_nat K hK1 hK
      have hs := fun W => Size_any (K : Int) W (by omega) (by omega)
      rw [hsz] at hs
      have hM2 : sizeN K ≤ 2 := by unfold sizeN; omega
      have hM1 : 1 ≤ sizeN K := by unfold sizeN; omega
      have hM3 : ∀ i : Nat, i < K → i / 64 < sizeN K := by intro i hi; unfold sizeN; omega
      have HM3 := Aside0.mk hM3
      have hmk := print_make (P := Tryd.prog) 39 38 .u64 8 Tryd.underlying39 Words.info_u64 (by decide) (sizeN K) (by omega)
      have HO := Own.of_row (own_made wc wc.heap.size 38 .u64 (sizeN K) (Nat.le_refl _) (by omega))
      rw [nums_zeros] at HO
      have HO := Aside0.mk HO
      obtain ⟨hd0, hd1⟩ := hdg
      have hkk : Aside0 (min (max (degI l N K sp) 0) (K : Int) = cntE l N K sp) := ⟨by unfold cntE; omega⟩
      have hdst := fun W hD => Distinct_any b h 76 l (N + 1) K (cntE l N K sp) (degI l N K sp) W hD (by omega) hK (by omega) (by omega) hkk.out
      have hrs : resD l (N + 1) K (cntE l N K sp) = resE l N K sp := rfl
      rw [hrs] at hdst
      clear hsz hM3 s7 s8 hrs
      go_wp2_with (go_at_call 26; refine (hs _).mono ?_; rintro e w2 ⟨rfl, rfl⟩)
      generalize hW4 : wc.alloc _ = W4 at *
      have hB4 : Below wc.heap.size wc W4 := by rw [← hW4]; exact (Below.refl _ _).alloc (Nat.le_refl _) _
      refine (hdst W4 (HD3.out.below hB4)).mono ?_
      rintro e w5 ⟨v5, rfl, hO5, hD5, hG5⟩
      obtain ⟨A5, c5, rfl, hc5, hC5⟩ := hO5.C_int
      have HG5 : Aside0 (w.grownBy w5 (some h)) := ⟨((grown_of_below HB2.out _).trans (HG3.out.trans (grown_of_below hB4 _))).trans hG5⟩
      have HP5 := Aside0.mk (((HP3.out.below hB4)).grown hG5 (by intro e; injection e; omega) (by intro e; injection e; omega))
      have HV5 := Aside0.mk ((HO.out).grown hG5 (HO.out.ne_small (by omega)))
      have HD5 := Aside0.mk hD5
      have HC5 := Aside0.mk hC5
      have hz5 : p + 1 ≤ w5.heap.size := by have := hB4.size; have := hG5.size; omega
      have HB5 : Aside0 (Below bs w0 w5) := ⟨(HB3.out.trans (hB4.mono (by omega))).grown hG5 (by have := hB4.size; omega) (fun k hk => by cases hk; omega)⟩
      have HT5 := Aside0.mk ((hG5.block g (by have := hB4.size; omega) (fun e => hne (by injection e))).trans ((hB4.block g (by omega)).trans ((HG3.out.block g (by omega) (fun e => hne (by injection e))).trans HG2S.out)))
      have hLr := fun x hx => resE_range l N K sp x hx
      have hLl : (resE l N K sp).length ≤ 128 := by rcases resE_length l N K sp with hh | hh <;> omega
      have HE : Aside0 (setsN (List.replicate (sizeN K) 0) (resE l N K sp) (resE l N K sp).length = emitV l N K sp) := ⟨rfl⟩
      have hvl := fun k => setsN_length (List.replicate (sizeN K) 0) (resE l N K sp) k
      simp only [List.length_replicate] at hvl
      have hwc : p + 1 ≤ wc.heap.size := hwb
      have HZ4 : Aside0 (wc.heap.size ≤ w5.heap.size) := ⟨by have := hB4.size; have := hG5.size; omega⟩
      generalize resE l N K sp = L at *
      clear hO5 hC5 hD5 hG5 hB4 hW4 p2 p2n t7 HO HP3 HB3 HD3 HG3 hs hmk hdst hkk
      have HLr := Aside0.mk hLr
      have HVl := Aside0.mk hvl
      clear hLr hvl
      go_wp2
      go_loopw [7, 38] (fun v i wr => ∃ k : Nat, k ≤ L.length ∧ i = .int .i64 k ∧ Aside0 (Own wr wc.heap.size 38 v ((setsN (List.replicate (sizeN K) 0) L k).map encW)) ∧ Aside0 (Below w5.heap.size w5 wr))
        (fun _ i _ => L.length - (intOf i).toNat)
      case atStart => exact ⟨0, Nat.zero_le _, rfl, HV5, ⟨Below.refl _ _⟩⟩
      case round =>
        obtain ⟨k, hk, rfl, HV, HG⟩ := hrel
        obtain ⟨Av, cv, rfl, _, hVC⟩ := HV.out.Cw
        by_cases hlt : k < L.length
        · obtain ⟨ad, rfl, hcell⟩ := at_i (Kd.C_below HC5.out HG.out) k hlt
          obtain ⟨hi0, hi1⟩ := HLr.out _ (List.getElem_mem hlt)
          have hgd : L.getD k 0 = L[k] := by rw [List.getD_eq_getElem?_getD, List.getElem?_eq_getElem hlt]; rfl
          obtain ⟨i, hi⟩ := Int.eq_ofNat_of_zero_le hi0
          rw [hi] at hcell hi1 hgd
          have HS : Aside0 (setsN (List.replicate (sizeN K) 0) L (k + 1) = setW (setsN (List.replicate (sizeN K) 0) L k) i true) := ⟨by rw [setsN, hgd]; rfl⟩
          have hst := Set_any Av cv _ i true wr hVC (by rw [HVl.out]; exact HM3.out i (by omega)) (by rw [HVl.out]; omega)
          clear hgd hi hVC hi0
          go_wp2_with fail
          refine hst.mono ?_
          rintro e w6 ⟨v6, rfl, hO6, hB6⟩
          have HO6 : Aside0 (Own w6 wc.heap.size 38 v6 ((setsN (List.replicate (sizeN K) 0) L (k + 1)).map encW)) := ⟨by rw [HS.out]; exact hO6.lower (Nat.le_trans HZ4.out HG.out.size)⟩
          have HG6 := Aside0.mk (bthn HG.out (Nat.le_refl _) hB6)
          clear hO6 hB6 hst
          go_wp2
          go_roundw
          case rel => exact ⟨k + 1, by omega, by go_num, HO6, HG6⟩
          case measure => simp [intOf]; omega
        · obtain rfl : k = L.length := by omega
          have t7 : wr.cell? ⟨g, 7, none⟩ = some (.slice (some ⟨ga, 0, none⟩) K c) := by rw [cell_of_row wr g 7 _ _ _ ((HG.out.block g (by omega)).trans HT5.out)]; rfl
          have hof := XorB.Of_any (some ⟨ga, 0, none⟩) Av c cv (blocksN s z K) (setsN (List.replicate (sizeN K) 0) L L.length) wr (HBlk.out wr (HB5.out.trans (HG.out.mono (by omega)))) hVC (fun s' hs' => by
            obtain ⟨j, hj, rfl⟩ := List.getElem_of_mem hs'
            rw [show (blocksN s z K)[j] = blockN s z j by simp [blocksN], SplitR.blockN_size]; exact hz64)
          rw [blocksN_length] at hof
          rw [HE.out] at hof HV ⊢
          go_wp2_with fail
          refine hof.mono ?_
          rintro e w7 ⟨rfl, hB7⟩
          have HP7 := (HP5.out.below HG.out).below hB7
          have p5 : w7.cell? ⟨p, 5, none⟩ = some (.slice none 0 0) := by rw [cell_of_row _ _ 5 _ _ _ HP7.2]; rfl
          have p6 : w7.cell? ⟨p, 6, none⟩ = some (.string ⟨#[]⟩) := by rw [cell_of_row _ _ 6 _ _ _ HP7.2]; rfl
          have f5 := blk_frozen HP7.2 5
          have f6 := blk_frozen HP7.2 6
          have hz7 : w5.heap.size ≤ w7.heap.size := Nat.le_trans HG.out.size hB7.size
          have HV7 := Aside0.mk ((HV.out.below hB7).lower hwc)
          have HG7 := Aside0.mk (HG5.out.trans (grown_of_below (bthn HG.out (Nat.le_refl _) hB7) (some h)))
          have HD7 := Aside0.mk ((HD5.out.below HG.out).below hB7)
          have HP7 := Aside0.mk HP7
          clear hB7 hof t7
          go_upto_region 14 with fail
          generalize hW8 : (w7.setCell ⟨p, 5, none⟩ (.slice Av (emitV l N K sp).length cv)).setCell ⟨p, 6, none⟩ (.string (ofS (blocksN s z K) (emitV l N K sp))) = W8
          have HPp : Aside0 (W8.heap[p]? = some (.cells (pkC id s.size K z 0 (.slice Av (emitV l N K sp).length cv) (ofS (blocksN s z K) (emitV l N K sp))) 43 (0, 0))) := ⟨by
            rw [← hW8]
            have := blk_set (blk_set HP7.out.2 5 (.slice Av (emitV l N K sp).length cv)) 6 (.string (ofS (blocksN s z K) (emitV l N K sp)))
            simpa [pkC] using this⟩
          have HPr : Aside0 (W8.heap[r]? = some (.cells (pkC 0 0 0 0 0 (.slice none 0 0) ⟨#[]⟩) 43 (0, 0))) := ⟨by
            rw [← hW8]; exact blk_far (blk_far HP7.out.1 (by simp; omega) _) (by simp; omega) _⟩
          have hg8 : w7.grownBy W8 (some p) := by
            rw [← hW8]; exact ⟨rfl, rfl, rfl, by simp, fun k _ hk => (Below.heap_setCell _ _ _ _ (fun e => hk (by simp [e]))).trans (Below.heap_setCell _ _ _ _ (fun e => hk (by simp [e])))⟩
          have HV8 := Aside0.mk (HV7.out.grown hg8 (HV7.out.ne_small (by omega)))
          have HD8 := Aside0.mk (HD7.out.other (fun k hk => by cases hk; omega) hg8)
          have HG8 := Aside0.mk (grown_of_fresh HG7.out hg8 (fun k hk => by cases hk; omega))
          have hz8 := hg8.size
          clear hW8 hg8 p5 p6 f5 f6
          go_wp2_with (first
            | (refine wpList_load_row rfl 43 (.tmp 5) rfl p (by rfl) 43 _ (0, 0) _ HPp.out Tryd.underlying43 rfl (by kernel_rfl) ?_)
            | (refine wpList_store_row rfl 43 (.tmp 4) (.tmp 56) rfl r (pkC id s.size K z 0 (.slice Av (emitV l N K sp).length cv) (ofS (blocksN s z K) (emitV l N K sp))) (by rfl) (by rfl) 43 _ HPr.out (by kernel_rfl) rfl (pkC_one _ _ _ _ _ _ _ _ _) ?_))
          refine bodyPost_ret (results_cell_row (fn := Tryd.f13) (p := 4) (ty := 43) rfl _ _ r 43 _ (0, 0) _ rfl (setRow_heap _ _ _ _ _ _ HPr.out) Tryd.underlying43 rfl (by kernel_rfl)) rfl ?_
          have hg9 : W8.grownBy (W8.setRow r (pkC id s.size K z 0 (.slice Av (emitV l N K sp).length cv) (ofS (blocksN s z K) (emitV l N K sp)))) (some r) := ⟨rfl, rfl, rfl, by simp, fun k _ hk => setRow_other _ _ k _ (fun e => hk (by rw [e]))⟩
          exact ⟨_, _, _, rfl, (HV8.out.grown hg9 (HV8.out.ne_small (by omega))).lower (by omega), HD8.out.other (fun k hk => by cases hk; omega) hg9, grown_of_fresh HG8.out hg9 (fun k hk => by cases hk; omega), HA.out⟩


set_option maxHeartbeats 400000 in
theorem Emit_none (arg : Value) (w : World) : Calls Tryd.prog 13 #[.pointer none, arg] w fun e w' => e = .returned (.agg (pkC 0 0 0 0 0 (.slice none 0 0) ⟨#[]⟩)) ∧ Below w.heap.size w w' := by
  have HB0 := Aside0.mk ((Below.refl w.heap.size w).alloc (Nat.le_refl _) (.cells (pkC 0 0 0 0 0 (.slice none 0 0) ⟨#[]⟩) 43))
  go_enter Tryd.func13, Tryd.ntmps13
  go_wp2
  refine bodyPost_ret (results_cell_row (fn := Tryd.f13) (p := 4) (ty := 43) rfl _ _ w.heap.size 43 (pkC 0 0 0 0 0 (.slice none 0 0) ⟨#[]⟩) (0, 0) _ rfl (heap_alloc_new _ _) Tryd.underlying43 rfl (by kernel_rfl)) rfl ?_
  exact ⟨rfl, HB0.out⟩

end Go.Proofs.YtcelfpgkeeaggaaDoor.EncE
