/- The contract of package split's Split. -/
import Derived.Test.YtcelfpgkeeaggaaDoorSplit
import Derived.Test.YtcelfpgkeeaggaaDoorShelf
import Derived.WalkMore
import Derived.ScopeJumps
namespace Go.Proofs.YtcelfpgkeeaggaaDoor.SplitB
open Go Go.RowKit Go.Proofs.YtcelfpgkeeaggaaDoorW.PrintWords Go.Proofs.YtcelfpgkeeaggaaDoor.Base Go.Proofs.YtcelfpgkeeaggaaDoor.Split
set_option linter.unusedVariables false
set_option linter.unusedSimpArgs false

theorem info_str : (Tryd.prog.info? 9).map (fun i => (i.zero, i.size, i.bytes)) = some (some (.string ⟨#[]⟩), 1, 16) := by kernel_rfl

theorem ownsRow_below {w w1 : World} {base : Nat} {e : TypeId} {v : Value} {n : Nat} {cs : List Value} (h : w.ownsRow base e 1 v n cs) (hb : Below w.heap.size w w1) : w1.ownsRow base e 1 v n cs := by
  obtain ⟨hl, h⟩ := h
  refine ⟨hl, ?_⟩
  rcases h with h | ⟨g, cap, cur, rfl, hg, hh, r⟩
  · exact .inl h
  · exact .inr ⟨g, cap, cur, rfl, hg, (hb.block g (Array.getElem?_eq_some_iff.1 hh).1).trans hh, r⟩

/-- append of one cell, at a step of a region that draws its order -/
theorem step_append_one {P : Program} {ops : Array Oper} {o : Oper} {a : Act} {K : Act → World → Prop} {Q : Exit → Act → World → Prop} {E : Prop} {w0 W : World} (base : Nat) (hgd : o.guard = none) (s x : Operand) (t e : TypeId) (z : Value) (bytes : Nat)
    (ho : o.op = .call { callee := .builtin .append, args := #[s, x], argTypes := #[t, t] })
    (ht : P.underlying t = some (.slice e)) (hinfo : (P.info? e).map (fun i => (i.zero, i.size, i.bytes)) = some (some z, 1, bytes)) (hz : z.cells.size = 1) (hb0 : 0 < bytes)
    (v : Value) (xs : List Value) (y : Value) (hs : a.eval s = v) (hx : a.eval x = .slice (some ⟨W.heap.size, 0, none⟩) 1 1) (h1 : y.oneCell' = true)
    (HO : W.ownsRow base e 1 v xs.length xs) (HB : Below base w0 W) (hbase : base ≤ W.heap.size) (hl : (xs.length + 1) * bytes ≤ 140737488355328)
    (h : ∀ v1 w1, w1.ownsRow base e 1 v1 (xs ++ [y]).length (xs ++ [y]) → Below base w0 w1 → W.grownBy w1 v.ownBlock → K (a.put o.dst v1) w1) :
    if Region.wanted o (yielded ops a.tmps) = true then Oper.wp P o a (W.alloc (.cells #[y] e)) K Q else E := by
  obtain ⟨i0, hi, hzz⟩ := Option.map_eq_some_iff.1 hinfo
  simp only [Prod.mk.injEq] at hzz
  obtain ⟨hz0, hz1, hz2⟩ := hzz
  have hlen : xs.length + 1 ≤ 140737488355328 := Nat.le_trans (Nat.le_mul_of_pos_right _ hb0) hl
  refine step_append_lies (w := W.alloc (.cells #[y] e)) hgd s x t ho base e i0 z 1 bytes ht hi hz0 hz1 hz2 hz (by omega) v xs.length xs hs (HO.alloc _) ⟨W.heap.size, 0, none⟩ 1 1 [y] hx rfl
    (World.news_of_block (cs := #[y]) (t := e) (fr := (0, 0)) (heap_alloc_new W _)) (by simpa using h1) (by omega) (by simp only [maxLen]; omega) hl (by simp; omega) _ rfl ?_
  intro g cap w1 hown hg _ hat
  exact h _ w1 (by simpa using hown) ((HB.alloc hbase _).grown hg (by simp; omega) (own_base HO)) (World.grownBy.trans (World.grownBy_alloc W _ _) hg)

def lenV : Value → Nat | .slice _ n _ => n | _ => 0
def zerosS (n : Nat) : ByteArray := ⟨(Lib.repeatL [0] n).toArray⟩
theorem zerosS_size (n : Nat) : (zerosS n).size = n := by
  have := Lib.repeatL_length [0] n
  simp [zerosS, ByteArray.size, this]
def restN (s : ByteArray) (z : Nat) : Nat → ByteArray
  | 0 => s
  | k + 1 => (restN s z k).extract (min z (restN s z k).size) (restN s z k).size
def blockN (s : ByteArray) (z k : Nat) : ByteArray := (restN s z k).extract 0 (min z (restN s z k).size) ++ zerosS (z - min z (restN s z k).size)
def blocksN (s : ByteArray) (z k : Nat) : List ByteArray := (List.range k).map (blockN s z)
theorem blocksN_length (s : ByteArray) (z k : Nat) : (blocksN s z k).length = k := by simp [blocksN]
theorem blocksN_succ (s : ByteArray) (z k : Nat) : (blocksN s z (k + 1)).map Value.string = (blocksN s z k).map Value.string ++ [Value.string (blockN s z k)] := by
  simp [blocksN, List.range_succ]
theorem blocksN_zero (s : ByteArray) (z : Nat) : (blocksN s z 0).map Value.string = [] := by simp [blocksN]
theorem restN_succ (s : ByteArray) (z k : Nat) : restN s z (k + 1) = (restN s z k).extract (min z (restN s z k).size) (restN s z k).size := rfl
theorem blockN_at (s : ByteArray) (z k : Nat) : blockN s z k = (restN s z k).extract 0 (min z (restN s z k).size) ++ zerosS (z - min z (restN s z k).size) := rfl

theorem Repeat_at (x : Int) (c : Nat) (w : World) (hx : x = c) (hc : c ≤ 64) :
    Calls Tryd.prog 43 #[.string ⟨#[0]⟩, .int .i64 x] w fun e w' => e = .returned (.string (zerosS c)) ∧ Below w.heap.size w w' := by
  subst hx
  exact (Go.Proofs.Tryd.strings_Repeat ⟨#[0]⟩ c w (by omega) (by simp [ByteArray.size]; omega)).mono fun e w' ⟨he, hw⟩ => ⟨he, hw⟩
theorem Plan_at (n size K E : Int) (w : World) (hn0 : 0 ≤ n) (hn1 : n ≤ 9223372036854775807) (hs0 : -9223372036854775808 ≤ size) (hs1 : size ≤ 9223372036854775807) (hK : planP n size = K) (hE : errP n size = E) :
    Calls Tryd.prog 42 #[.int .i64 n, .int .i64 size] w fun e w' => e = .returned (.tuple #[.int .i64 K, .int .i64 E]) ∧ w = w' := by
  subst hK hE
  exact Plan_any n size w (by omega) hn1 hs0 hs1

set_option maxHeartbeats 400000 in
theorem Split_no (s : ByteArray) (size : Int) (w : World) (hs : s.size ≤ 9223372036854775807) (hs0 : -9223372036854775808 ≤ size) (hs1 : size ≤ 9223372036854775807) (hE : errP s.size size ≠ 0) :
    Calls Tryd.prog 20 #[.string s, .int .i64 size] w fun e w' => e = .returned (.tuple #[.slice none 0 0, .int .i64 (errP s.size size)]) ∧ w = w' := by
  obtain ⟨E, hEE⟩ : ∃ E, errP s.size size = E := ⟨_, rfl⟩
  have HE := Aside0.mk hEE
  rw [hEE] at hE
  have hb : (E != 0) = true := bne_iff_ne.2 hE
  have hd : decide (E = 0) = false := decide_eq_false hE
  clear hEE
  go_enter Tryd.func20, Tryd.ntmps20
  have hpl := Plan_at s.size size _ E w (by omega) (by omega) hs0 hs1 rfl HE.out
  generalize planP s.size size = K at hpl
  go_wp2
  go_step3
  go_wp2_with (go_at_call 42; go_must (refine hpl.mono ?_; rintro e w1 ⟨rfl, rfl⟩))
  rw [Exit.noGoto_ret]
  go_ret2
  exact ⟨by rw [HE.out]; rfl, rfl⟩

set_option maxHeartbeats 400000 in
set_option maxRecDepth 20000 in
theorem Split_ok (s : ByteArray) (z K : Nat) (w : World) (hs : s.size ≤ 8192) (hz1 : 1 ≤ z) (hz2 : z ≤ 64) (hK1 : 1 ≤ K) (hK : K ≤ 128) (hP : planP s.size z = K) (hE : errP s.size z = 0) :
    Calls Tryd.prog 20 #[.string s, .int .i64 z] w fun e w' => ∃ v, e = .returned (.tuple #[v, .int .i64 0]) ∧ Own w' w.heap.size 9 v ((blocksN s z K).map .string) ∧ Below w.heap.size w w' := by
  have HP := Aside0.mk hP
  have HE := Aside0.mk hE
  clear hP hE
  go_enter Tryd.func20, Tryd.ntmps20
  have hpl := Plan_at s.size z K 0 w (by omega) (by omega) (by omega) (by omega) HP.out HE.out
  go_wp2
  refine wp_scope_jumps 0 (fun a' w' => ∃ (k : Nat) (v u9 u10 u11 u12 u13 u14 u15 u16 u17 u18 u19 u20 u21 u22 u23 u24 u25 u26 u27 u28 u29 u30 u31 u32 u33 u34 u35 u36 u37 u38 u39 u40 u41 u42 : Value), a' = { tmps := #[.string (restN s z k), .int .i64 z, undef, undef, .slice none 0 0, .int .i64 0, .int .i64 K, .int .i64 0, v, u9, u10, u11, u12, u13, u14, u15, u16, u17, u18, u19, u20, u21, u22, u23, u24, u25, u26, u27, u28, u29, u30, u31, u32, u33, u34, u35, u36, u37, u38, u39, u40, u41, u42], defers := [] } ∧ k ≤ K ∧ Aside0 (w'.ownsRow w.heap.size 9 1 v ((blocksN s z k).map Value.string).length ((blocksN s z k).map Value.string)) ∧ Aside0 (Below w.heap.size w w'))
    (fun a' _ => K - lenV (a'.tmps.getD 8 undef)) rfl ?_ ?_
  · have hq0 : ((0 : Int) == (K : Int)) = false := beq_eq_false_iff_ne.2 (by omega)
    have HR : Aside0 (w.ownsRow w.heap.size 9 1 (.slice none 0 0) 0 []) := ⟨World.ownsRow_nil _ _ _ _⟩
    have HG : Aside0 (Below w.heap.size w w) := ⟨Below.refl _ _⟩
    have hRs := restN_succ s z 0
    have hBk := blockN_at s z 0
    rw [show restN s z 0 = s from rfl] at hRs hBk
    obtain ⟨R, hRR⟩ : ∃ R, R = s := ⟨_, rfl⟩
    have hRR' := Aside0.mk hRR
    rw [← hRR] at hRs hBk
    rw [← hRR] at hs hpl ⊢
    clear hRR
    go_upto_region 8 with (go_at_call 42; go_must (refine hpl.mono ?_; rintro e w1 ⟨rfl, rfl⟩))
    go_step3
    go_upto_region 8 with fail
    generalize hM : min (z : Int) (R.size : Int) = M
    have hM0 : 0 ≤ M := by omega
    have hM1 : M ≤ R.size := by omega
    have hM2 : M ≤ z := by omega
    obtain ⟨m, rfl⟩ := Int.eq_ofNat_of_zero_le hM0
    have hmm : m = min z R.size := by omega
    rw [← hmm] at hRs hBk
    clear hM hmm
    have hrp := Repeat_at (IntKind.i64.wrap ((z : Int) - (m : Int))) (z - m) w.drew (by rw [IntKind.wrap_i64]; omega) (by omega)
    have hnl : ¬ 9223372036854775807 < min m R.size + (zerosS (z - m)).size := by rw [zerosS_size]; omega
    have hRs' := Aside0.mk hRs
    have hBk' := Aside0.mk hBk
    clear hRs hBk
    go_region_law (first
      | (go_simp; go_at_call 43; go_must (refine hrp.mono ?_; rintro e w1 ⟨rfl, hG1⟩; have HO1 := ownsRow_below (HR.out.drew) hG1; have HB1 := HG.out.drew.trans (hG1.mono HG.out.size); have hsz1 := Nat.le_trans HG.out.size hG1.size))
      | (go_must (refine step_append_one (w0 := w) w.heap.size rfl (.tmp 29) (.tmp 38) 28 9 (.string ⟨#[]⟩) 16 rfl Tryd.underlying28 info_str rfl (by decide) _ [] _ rfl rfl rfl HO1 HB1 hsz1 (by decide) ?_; intro v2 w2 ho2 hb2 _)))
    all_goals go_wp2_with fail
    all_goals go_step3
    all_goals
      rw [hBk'.out.symm] at ho2
      rw [hRs'.out.symm]
      obtain rfl := hRR'.out
      refine ⟨rfl, 1, v2, _, _, _, _, _, _, _, _, _, _, _, _, _, _, _, _, _, _, _, _, _, _, _, _, _, _, _, _, _, _, _, _, _, _, rfl, hK1, ⟨?_⟩, ⟨hb2⟩⟩
      rw [blocksN_succ, blocksN_zero]; exact ho2
  · rintro a' w' ⟨k, v, u9, u10, u11, u12, u13, u14, u15, u16, u17, u18, u19, u20, u21, u22, u23, u24, u25, u26, u27, u28, u29, u30, u31, u32, u33, u34, u35, u36, u37, u38, u39, u40, u41, u42, rfl, hk, HR, HG⟩
    obtain ⟨Av, cv, hv, hcv⟩ := (Own.of_row HR.out).slice
    rw [List.length_map, blocksN_length] at hv
    subst hv
    by_cases hlt : k < K
    · have hq0 : ((k : Int) == (K : Int)) = false := beq_eq_false_iff_ne.2 (by omega)
      have hRs := restN_succ s z k
      have hBk := blockN_at s z k
      have hLL : (((blocksN s z k).map Value.string).length + 1) * 16 ≤ 140737488355328 := by rw [List.length_map, blocksN_length]; omega
      generalize hRR : restN s z k = R at *
      clear hRR
      go_upto_region 8 with fail
      generalize hM : min (z : Int) (R.size : Int) = M
      have hM0 : 0 ≤ M := by omega
      have hM1 : M ≤ R.size := by omega
      have hM2 : M ≤ z := by omega
      obtain ⟨m, rfl⟩ := Int.eq_ofNat_of_zero_le hM0
      have hmm : m = min z R.size := by omega
      rw [← hmm] at hRs hBk
      clear hM hmm
      have hrp := Repeat_at (IntKind.i64.wrap ((z : Int) - (m : Int))) (z - m) w'.drew (by rw [IntKind.wrap_i64]; omega) (by omega)
      have hnl : ¬ 9223372036854775807 < min m R.size + (zerosS (z - m)).size := by rw [zerosS_size]; omega
      have hRs' := Aside0.mk hRs
      have hBk' := Aside0.mk hBk
      clear hRs hBk
      go_region_law (first
        | (go_simp; go_at_call 43; go_must (refine hrp.mono ?_; rintro e w1 ⟨rfl, hG1⟩; have HO1 := ownsRow_below (HR.out.drew) hG1; have HB1 := HG.out.drew.trans (hG1.mono HG.out.size); have hsz1 := Nat.le_trans HG.out.size hG1.size))
        | (go_must (refine step_append_one (w0 := w) w.heap.size rfl (.tmp 29) (.tmp 38) 28 9 (.string ⟨#[]⟩) 16 rfl Tryd.underlying28 info_str rfl (by decide) _ _ _ rfl rfl rfl HO1 HB1 hsz1 hLL ?_; intro v2 w2 ho2 hb2 _)))
      all_goals go_wp2_with fail
      all_goals go_step3
      all_goals
        rw [hBk'.out.symm] at ho2
        obtain ⟨A2, c2, hv2, _⟩ := (Own.of_row ho2).slice
        rw [List.length_append, List.length_map, blocksN_length] at hv2
        subst hv2
        rw [hRs'.out.symm]
        refine ⟨rfl, ⟨k + 1, _, _, _, _, _, _, _, _, _, _, _, _, _, _, _, _, _, _, _, _, _, _, _, _, _, _, _, _, _, _, _, _, _, _, _, rfl, hlt, ⟨?_⟩, ⟨hb2⟩⟩, ?_⟩
        · rw [blocksN_succ]; exact ho2
        · simp [lenV]; omega
    · obtain rfl : k = K := by omega
      have hq0 : ((k : Int) == (k : Int)) = true := beq_iff_eq.2 rfl
      go_wp2_with fail
      simp only [Exit.jump]
      go_ret2
      exact ⟨_, rfl, Own.of_row HR.out, HG.out⟩

end Go.Proofs.YtcelfpgkeeaggaaDoor.SplitB
