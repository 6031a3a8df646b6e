/- The reference of peeling, the walk. No condition. -/
import Derived.Test.YtnfabflkajpkfaaDoorWith
namespace Go.Proofs.YtnfabflkajpkfaaDoor.PeelR
open Go Go.RowKit Go.Proofs.YtnfabflkajpkfaaDoorW.PrintWords Go.Proofs.YtnfabflkajpkfaaDoor.Base Go.Proofs.YtnfabflkajpkfaaDoor.Bits Go.Proofs.YtnfabflkajpkfaaDoor.BitsN Go.Proofs.YtnfabflkajpkfaaDoor.Kinds Go.Proofs.YtnfabflkajpkfaaDoor.Words Go.Proofs.YtnfabflkajpkfaaDoor.WordsP Go.Proofs.YtnfabflkajpkfaaDoor.PeelP Go.Proofs.YtnfabflkajpkfaaDoor.PeelQ Go.Proofs.YtnfabflkajpkfaaDoor.Rows2 Go.Proofs.YtnfabflkajpkfaaDoor.Valid Go.Proofs.YtnfabflkajpkfaaDoor.RowsA Go.Proofs.YtnfabflkajpkfaaDoor.Delete Go.Proofs.YtnfabflkajpkfaaDoor.PeelV Go.Proofs.YtnfabflkajpkfaaDoor.Less Go.Proofs.YtnfabflkajpkfaaDoor.With
set_option linter.unusedVariables false
set_option linter.unusedSimpArgs false

/-- known after n rounds -/
def knL (R : List RowL) (n : Nat) : List RowL := (sortD (seqD R n)).map (·.2)
def lenV (v : Value) : Nat := match v with | .slice _ n _ => n | _ => 0
def isOn (v : Value) : Nat := match v with | .bool true => 1 | _ => 0
/-- the value holds what is known, n rows -/
def KV (w : World) (v : Value) (R : List RowL) (n : Nat) : Prop := (seqD R n).length = n ∧ ∃ A c, v = .slice A (knL R n).length c ∧ KRow.C w A (knL R n).length (knL R n)
theorem knL_length (R : List RowL) (n : Nat) : (knL R n).length = (seqD R n).length := by
  rw [knL, List.length_map, (sortD_perm _).length_eq]
theorem KV.below {w w' : World} {v : Value} {R : List RowL} {n : Nat} (h : KV w v R n) (hb : Below w.heap.size w w') : KV w' v R n := by
  obtain ⟨h1, A, c, e, hC⟩ := h
  exact ⟨h1, A, c, e, Kd.C_below hC hb⟩
theorem KV.len {w : World} {v : Value} {R : List RowL} {n : Nat} (h : KV w v R n) : lenV v = n := by
  obtain ⟨h1, A, c, rfl, _⟩ := h
  show (knL R n).length = n
  rw [knL_length, h1]
theorem mem_knL {R : List RowL} {n : Nat} {x : RowL} (h : x ∈ knL R n) : ∃ f, (f, x) ∈ seqD R n := by
  obtain ⟨p, hp, rfl⟩ := List.mem_map.1 h
  exact ⟨p.1, (sortD_perm _).mem_iff.1 hp⟩
theorem lessL_knL {M : Nat} {R : List RowL} (hr : ∀ r ∈ R, r.vec.length = M) (n : Nat) (r : RowL) : lessL (knL R n) r = red (seqD R n) r := by
  have hg := seqD_good hr n
  rw [knL, lessL_red (fun p hp => (hg.2 p ((sortD_perm _).mem_iff.1 hp)).2)]
  exact (red_perm hg.1 (sortD_perm _).symm r).symm
theorem insR_knL {M : Nat} {R : List RowL} (hr : ∀ r ∈ R, r.vec.length = M) {n i : Nat} (hl : leastN R (seqD R n) = some i) : insR (red (seqD R n) (R.getD i zRow)) (knL R n) = knL R (n + 1) := by
  have hg := seqD_good hr n
  obtain ⟨u1, u2, u3, u4, u5⟩ := found_unit hr hg.1 hl
  rw [knL, knL, seqD_succ hl, sortD_snoc]
  exact insR_insP (p := foundP R (seqD R n) i) u4 (fun q hq => (hg.2 q ((sortD_perm _).mem_iff.1 hq)).2)
/-- the rows of the first i that are left -/
def leftP (R : List RowL) (D : List (Nat × RowL)) (i : Nat) : List RowL := ((R.take i).map (red D)).filter fun r => decide (1 < cntW r.vec)
theorem leftP_yes {R : List RowL} {D : List (Nat × RowL)} {i : Nat} (h : i < R.length) (hc : 1 < cntW (red D R[i]).vec) : leftP R D (i + 1) = leftP R D i ++ [red D R[i]] := by
  rw [leftP, leftP, List.take_succ_eq_append_getElem h, List.map_append, List.filter_append, List.map_singleton, List.filter_cons, decide_eq_true hc]
  simp
theorem leftP_no {R : List RowL} {D : List (Nat × RowL)} {i : Nat} (h : i < R.length) (hc : ¬ 1 < cntW (red D R[i]).vec) : leftP R D (i + 1) = leftP R D i := by
  rw [leftP, leftP, List.take_succ_eq_append_getElem h, List.map_append, List.filter_append, List.map_singleton, List.filter_cons, decide_eq_false hc]
  simp
/-- one row less what is known, read in memory -/
theorem less_at {M : Nat} {R : List RowL} {n i : Nat} {w0 w : World} {Ak : Option Addr} {ck : Nat} {ad : Addr} (hr : ∀ r ∈ R, r.vec.length = M) (hM : M ≤ 2) (hd : ∀ r ∈ R, r.data.size ≤ 1000000) (hi : i < R.length) (hk : KRow.C w Ak (knL R n).length (knL R n)) (hR : KRow.C w0 (some ad) R.length R) (hb : Below w0.heap.size w0 w) :
    ∃ A0 c0, w.cell? (ad.add (i * 2)) = some (.slice A0 (R[i]).vec.length c0) ∧ w.cell? ⟨(ad.add (i * 2)).block, (ad.add (i * 2)).off + 1, none⟩ = some (.string (R[i]).data) ∧
      Calls Tryd.prog 45 #[.slice Ak (knL R n).length ck, .agg #[.slice A0 (R[i]).vec.length c0, .string (R[i]).data]] w fun e w' =>
        ∃ A c, e = .returned (.agg #[.slice A (red (seqD R n) R[i]).vec.length c, .string (red (seqD R n) R[i]).data]) ∧ (red (seqD R n) R[i]).vec.length ≤ c ∧ Vst w0 w' (.slice A (red (seqD R n) R[i]).vec.length c) (red (seqD R n) R[i]).vec ∧ Kw.C w' A (red (seqD R n) R[i]).vec.length (red (seqD R n) R[i]).vec ∧ Below w.heap.size w w' := by
  obtain ⟨ad', A0, c0, e, h1, h2, h3, h4⟩ := at_row hR i hi
  cases e
  have hmem := List.getElem_mem hi
  refine ⟨A0, c0, pw_cell_below hb h1, pw_cell_below hb h2, (less_any Ak ck (knL R n) A0 c0 R[i] w0 w hb hk (.inl ⟨_, _, rfl, h3, h4⟩) (fun x hx => ?_) ⟨by rw [hr _ hmem]; omega, hd _ hmem⟩ (fun x hx => ?_)).mono ?_⟩
  · obtain ⟨f, hf⟩ := mem_knL hx
    exact ⟨by rw [(seqD_good hr n).1.1 _ hf |>.1]; omega, seqD_size hd n _ hf⟩
  · obtain ⟨f, hf⟩ := mem_knL hx
    exact ⟨f, (seqD_good hr n).2 _ hf |>.2⟩
  · rintro e w' ⟨v, rfl, hv, hb'⟩
    rw [lessL_knL hr n] at hv ⊢
    obtain ⟨A, c, rfl, hc, hC⟩ := hv.C (hb.trans (hb'.mono hb.size))
    exact ⟨A, c, rfl, hc, hv, hC, hb'⟩

set_option maxRecDepth 100000 in
set_option maxHeartbeats 4000000 in
theorem refPeel_any (A : Option Addr) (c : Nat) (rows : List RowL) (k : Int) (w : World) (hC : KRow.C w A rows.length rows) (h0 : -9223372036854775808 ≤ k) (h1 : k ≤ 9223372036854775807) (hn : rows.length ≤ 1000000) (hd : ∀ r ∈ rows, r.data.size ≤ 1000000) :
    Calls Tryd.prog 16 #[.int .i64 k, .slice A rows.length c] w fun e w' =>
      ∃ Aa ca Ab cb, e = .returned (.tuple #[.slice Aa (knownL (validL k rows)).length ca, .slice Ab (leftL (validL k rows)).length cb]) ∧ KRow.C w' Aa (knownL (validL k rows)).length (knownL (validL k rows)) ∧ KRow.C w' Ab (leftL (validL k rows)).length (leftL (validL k rows)) ∧ Below w.heap.size w w' := by
  have hm := C_max hC
  have hrl : (validL k rows).length ≤ 1000000 := Nat.le_trans (List.length_filter_le _ _) hn
  have hrm := fun r hr => validL_len (k := k) (rows := rows) r hr
  have hM2 := sizeW_two k
  have hrd : ∀ r ∈ validL k rows, r.data.size ≤ 1000000 := fun r hr => hd r (mem_validL.1 hr).1
  have hval := refValidR_any A c rows k w hC h0 h1 (by omega)
  generalize hR : validL k rows = R at *
  generalize (sizeW k).toNat = M at *
  have HVAL := Aside0.mk hval
  have HRM := Aside0.mk hrm
  have HRD := Aside0.mk hrd
  clear hC hval hR hd hrm hrd
  go_enter Tryd.func16, Tryd.ntmps16
  go_wp2_with (go_at_call 25; refine HVAL.out.mono ?_; rintro e w2 ⟨v2, rfl, hR2, hb2⟩)
  obtain ⟨A2, c2, rfl, hc2, hC2⟩ := hR2.C hb2
  have HB2 := Aside0.mk hb2
  have HC2 := Aside0.mk hC2
  clear hR2 hb2 hC2 HVAL
  go_wp2
  have HK0 := Aside0.mk (show KV w2 (.slice none 0 0) R 0 from ⟨rfl, none, 0, rfl, show KRow.C w2 none 0 [] from ⟨rfl, by decide, fun h => absurd h (by decide)⟩⟩)
  go_loopw [6, 7] (fun v b wo => ∃ (n : Nat) (x : Bool), b = .bool x ∧ Aside0 (KV wo v R n) ∧ Aside0 (x = false → leastN R (seqD R n) = none) ∧ Aside0 (Below w2.heap.size w2 wo)) (fun v b _ => 2 * (128 - lenV v) + isOn b)
  case atStart => exact ⟨0, true, rfl, HK0, ⟨fun h => by cases h⟩, ⟨Below.refl _ _⟩⟩
  case round =>
    clear HK0
    obtain ⟨n, x, rfl, HK, HN, HB⟩ := hrel
    rename World => wo
    cases x with
    | true =>
      have hn128 : n ≤ 128 := by rw [← HK.out.1]; have := seqD_len HRM.out n; omega
      have HLV := Aside0.mk HK.out.len
      go_wp2
      go_loopw [6, 7, 8] (fun v b y wr => ∃ (i : Nat) (x2 : Bool), y = .int .i64 i ∧ i ≤ R.length ∧ b = .bool x2 ∧ Aside0 (KV wr v R (if x2 then n + 1 else n)) ∧ Aside0 (x2 = false → ∀ j : Nat, j < i → cntR (seqD R n) (R.getD j zRow) ≠ 1) ∧ Aside0 (Below w2.heap.size w2 wr)) (fun _ _ y _ => R.length - (intOf y).toNat)
      case atStart => exact ⟨0, false, rfl, Nat.zero_le _, rfl, HK, ⟨fun _ j h => by omega⟩, HB⟩
      case round =>
        obtain ⟨i, x2, rfl, hi, rfl, HK2, HN2, HB2'⟩ := hrel
        rename World => wr
        cases x2 with
        | true =>
          have HK3 := Aside0.mk (show KV wr u6 R (n + 1) from HK2.out)
          by_cases hlt : i < R.length
          all_goals
            go_wp2
            go_roundw
            case rel => exact ⟨n + 1, true, rfl, HK3, ⟨fun h => by cases h⟩, HB2'⟩
            case measure =>
              have h128 : n + 1 ≤ 128 := by rw [← HK3.out.1]; have := seqD_len HRM.out (n + 1); omega
              rw [HK3.out.len, HLV.out]
              simp only [isOn]
              omega
        | false =>
          have HK3 := Aside0.mk (show KV wr u6 R n from HK2.out)
          clear HK2
          by_cases hlt : i < R.length
          · obtain ⟨hcl, Ak, ck, e6, hCk⟩ := HK3.out
            subst e6
            obtain ⟨ad, e2, _⟩ := HC2.out.2.2 (by omega)
            subst e2
            obtain ⟨A0, c0, hc1, hc2', hless⟩ := less_at (n := n) (Ak := Ak) (ck := ck) HRM.out hM2 HRD.out hlt hCk HC2.out HB2'.out
            have HLESS := Aside0.mk hless
            have hmem := List.getElem_mem hlt
            have hlen : (red (seqD R n) R[i]).vec.length ≤ 2 := by rw [red_len (seqD_good HRM.out n).1.1 (HRM.out _ hmem)]; exact hM2
            have HCK := Aside0.mk hCk
            have hge := getD_at R zRow i hlt
            clear hless hCk hmem
            by_cases hone : cntR (seqD R n) (R.getD i zRow) = 1
            · have hle := leastN_eq hlt hone (HN2.out rfl)
              have hins := insR_knL HRM.out hle
              rw [hge] at hins hone
              have hone : cntW (red (seqD R n) R[i]).vec = 1 := hone
              have HLE := Aside0.mk hle
              have HINS := Aside0.mk hins
              clear hle hins hge
              generalize red (seqD R n) R[i] = x at *
              go_upto_region 10 with (first
                | (go_at_call 45; refine HLESS.out.mono ?_; rintro e w3 ⟨A3, c3, rfl, hcc3, hV3, hC3, hb3⟩))
              have hal : Below w3.heap.size w3 (w3.alloc (.cells #[.slice A3 x.vec.length c3, .string x.data] 36)) := (Below.refl _ _).alloc (Nat.le_refl _) _
              have hcnt := refCount_any A3 c3 x.vec _ (Kd.C_below hC3 hal) (by omega)
              have HB3 := Aside0.mk (hb3.trans (hal.mono hb3.size))
              have hwith := with_any Ak ck (knL R n) A3 c3 x _ (Kd.C_below HCK.out HB3.out) hcc3 (Kd.C_below hC3 hal) (fun y hy => by
                obtain ⟨f, hf⟩ := mem_knL hy
                rw [(seqD_good HRM.out n).1.1 _ hf |>.1]; omega) (by omega) (by rw [knL_length, hcl]; omega)
              rw [hone] at hcnt
              have HCNT := Aside0.mk hcnt
              have HWITH := Aside0.mk hwith
              clear hV3 hC3 hal hcnt hwith hb3 HLESS
              go_upto_region 11 with (go_at_call 23; with_reducible refine HCNT.out.mono ?_; rintro e w4 ⟨rfl, rfl⟩)
              clear HCNT
              go_wp2_with (first
                | (go_at_call 46; refine HWITH.out.mono ?_; rintro e w5 ⟨v5, rfl, hR5, hb5⟩))
              have HB5 := Aside0.mk (HB3.out.trans (hb5.mono HB3.out.size))
              have HK5 := Aside0.mk (show KV w5 v5 R (n + 1) from by
                obtain ⟨A5, c5, e5, _, hC5⟩ := hR5.C hb5
                rw [HINS.out] at e5 hC5
                exact ⟨by rw [seqD_succ HLE.out, List.length_append, hcl]; rfl, A5, c5, e5, hC5⟩)
              clear hR5 hb5
              go_roundw
              case rel => exact ⟨i + 1, true, by go_num, by omega, rfl, HK5, ⟨fun h => by cases h⟩, ⟨HB2'.out.trans (HB5.out.mono HB2'.out.size)⟩⟩
              case measure => simp [intOf]; omega
            · have HNEW := Aside0.mk (show ∀ j : Nat, j < i + 1 → cntR (seqD R n) (R.getD j zRow) ≠ 1 from fun j hj => by
                by_cases e : j = i
                · rw [e]; exact hone
                · exact HN2.out rfl j (by omega))
              rw [hge] at hone
              have hone : cntW (red (seqD R n) R[i]).vec ≠ 1 := hone
              clear hge
              generalize red (seqD R n) R[i] = x at *
              go_upto_region 10 with (first
                | (go_at_call 45; refine HLESS.out.mono ?_; rintro e w3 ⟨A3, c3, rfl, hcc3, hV3, hC3, hb3⟩))
              have hal : Below w3.heap.size w3 (w3.alloc (.cells #[.slice A3 x.vec.length c3, .string x.data] 36)) := (Below.refl _ _).alloc (Nat.le_refl _) _
              have hcnt := refCount_any A3 c3 x.vec _ (Kd.C_below hC3 hal) (by omega)
              have HB3 := Aside0.mk (hb3.trans (hal.mono hb3.size))
              have h1 : (((cntW x.vec : Nat) : Int) == 1) = false := by simp; omega
              have HCNT := Aside0.mk hcnt
              clear hV3 hC3 hal hcnt hb3 HLESS
              go_wp2_with (first
                | (go_at_call 23; with_reducible refine HCNT.out.mono ?_; rintro e w4 ⟨rfl, rfl⟩))
              go_roundw
              case rel => exact ⟨i + 1, false, by go_num, by omega, rfl, ⟨HK3.out.below HB3.out⟩, ⟨fun _ => HNEW.out⟩, ⟨HB2'.out.trans (HB3.out.mono HB2'.out.size)⟩⟩
              case measure => simp [intOf]; omega
          · have HNN := Aside0.mk (show leastN R (seqD R n) = none from leastN_eq_none fun j hj => HN2.out rfl j (by omega))
            go_wp2
            go_roundw
            case rel => exact ⟨n, false, rfl, HK3, ⟨fun _ => HNN.out⟩, HB2'⟩
            case measure =>
              rw [HK3.out.len, HLV.out]
              simp only [isOn]
              omega
    | false =>
      have hn128 : n ≤ 128 := by rw [← HK.out.1]; have := seqD_len HRM.out n; omega
      have HFIN := Aside0.mk (finD_eq hn128 (HN.out rfl))
      obtain ⟨hcl, Ak, ck, e6, hCk⟩ := HK.out
      subst e6
      have HCK := Aside0.mk hCk
      have HCO := Aside0.mk (Kd.C_below HC2.out HB.out)
      have HBW := Aside0.mk (HB2.out.trans (HB.out.mono HB2.out.size))
      have hkb : KRow.C wo Ak (knL R n).length (knL R n) := hCk
      clear hCk hcl HK HN HB HC2 HB2 hkb hn128
      go_wp2
      go_loopw [10, 11] (fun v y wr => ∃ i : Nat, y = .int .i64 i ∧ i ≤ R.length ∧ Aside0 (RowsV wo wr wo.heap.size v (leftP R (seqD R n) i)) ∧ Aside0 (Below wo.heap.size wo wr)) (fun _ y _ => R.length - (intOf y).toNat)
      case atStart => exact ⟨0, rfl, Nat.zero_le _, ⟨by simpa [leftP] using RowsV.nil _ _ _⟩, ⟨Below.refl _ _⟩⟩
      case round =>
        obtain ⟨i, rfl, hi, HR, HB⟩ := hrel
        rename World => wr
        by_cases hlt : i < R.length
        · obtain ⟨ad, e2, _⟩ := HCO.out.2.2 (by omega)
          subst e2
          obtain ⟨A0, c0, hc1, hc2', hless⟩ := less_at (n := n) (Ak := Ak) (ck := ck) HRM.out hM2 HRD.out hlt (Kd.C_below HCK.out HB.out) HCO.out HB.out
          have HLESS := Aside0.mk hless
          have hmem := List.getElem_mem hlt
          have hlen : (red (seqD R n) R[i]).vec.length ≤ 2 := by rw [red_len (seqD_good HRM.out n).1.1 (HRM.out _ hmem)]; exact hM2
          have HLP := Aside0.mk (And.intro (leftP_yes (D := seqD R n) hlt) (leftP_no (D := seqD R n) hlt))
          have HLL := Aside0.mk (show (leftP R (seqD R n) i).length ≤ 1099511627776 from Nat.le_trans (List.length_filter_le _ _) (by simp; omega))
          clear hless hmem
          generalize red (seqD R n) R[i] = x at *
          go_upto_region 18 with (first
            | (go_at_call 45; refine HLESS.out.mono ?_; rintro e w3 ⟨A3, c3, rfl, hcc3, hV3, hC3, hb3⟩))
          have hal : Below w3.heap.size w3 (w3.alloc (.cells #[.slice A3 x.vec.length c3, .string x.data] 36)) := (Below.refl _ _).alloc (Nat.le_refl _) _
          have hcnt := refCount_any A3 c3 x.vec _ (Kd.C_below hC3 hal) (by omega)
          have HB3 := Aside0.mk (hb3.trans (hal.mono hb3.size))
          have FR := Aside0.mk (fresh_row (HR.out.below HB3.out) (hV3.below hal) (HB.out.trans (HB3.out.mono HB.out.size)) (Nat.le_trans HB.out.size HB3.out.size))
          clear hV3 hC3 hal hb3 HLESS
          generalize cntW x.vec = q at *
          have HCNT := Aside0.mk hcnt
          clear hcnt
          by_cases hgt : 1 < q
          · have hd : decide ((1 : Int) < (q : Int)) = true := decide_eq_true (by omega)
            have HE := Aside0.mk (HLP.out.1 hgt)
            go_upto_region 19 with (go_at_call 23; with_reducible refine HCNT.out.mono ?_; rintro e w4 ⟨rfl, rfl⟩)
            clear HCNT
            go_wp2_with (first
              | (at_builtin; refine wpList_append_rowV rfl _ _ rfl wo.heap.size _ _ rfl FR.out.1 _ x FR.out.2.1 (w3.heap.size + 1) 1 rfl (by simp) (by simp) FR.out.2.2.1 FR.out.2.2.2.1 HLL.out ?_; intro v' w' hR' hB' _ _))
            have HR2 := Aside0.mk hR'
            have HB2 := Aside0.mk hB'
            clear hR' hB'
            go_roundw
            case rel => exact ⟨i + 1, by go_num, by omega, ⟨by rw [HE.out]; exact HR2.out⟩, HB2⟩
            case measure => simp [intOf]; omega
          · have hd : decide ((1 : Int) < (q : Int)) = false := decide_eq_false (by omega)
            have HE := Aside0.mk (HLP.out.2 hgt)
            go_wp2_with (go_at_call 23; with_reducible refine HCNT.out.mono ?_; rintro e w4 ⟨rfl, rfl⟩)
            go_roundw
            case rel => exact ⟨i + 1, by go_num, by omega, ⟨by rw [HE.out]; exact HR.out.below HB3.out⟩, ⟨HB.out.trans (HB3.out.mono HB.out.size)⟩⟩
            case measure => simp [intOf]; omega
        · obtain rfl : i = R.length := by omega
          obtain ⟨Ab, cb, eb, _, hCb⟩ := HR.out.C HB.out
          subst eb
          have HCA := Aside0.mk (Kd.C_below HCK.out HB.out)
          have HCB := Aside0.mk hCb
          have HKE := Aside0.mk (show knL R n = knownL R by rw [knL, knownL, HFIN.out])
          have HLE := Aside0.mk (show leftP R (seqD R n) R.length = leftL R by rw [leftP, leftL, HFIN.out, List.take_length])
          have HBF := Aside0.mk (HBW.out.trans (HB.out.mono HBW.out.size))
          rw [HKE.out] at HCA
          rw [HLE.out] at HCB
          clear hCb HR
          go_wp2
          refine bodyPost_ret (v := .tuple #[.slice Ak (knL R n).length ck, .slice Ab (leftP R (seqD R n) R.length).length cb]) (by simp [results, Tryd.results16, go_sem]) rfl ⟨Ak, ck, Ab, cb, by rw [HKE.out, HLE.out], HCA.out, HCB.out, HBF.out⟩

end Go.Proofs.YtnfabflkajpkfaaDoor.PeelR
