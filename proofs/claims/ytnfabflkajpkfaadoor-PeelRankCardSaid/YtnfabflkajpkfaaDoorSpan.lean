/- Rows over bits, plain: what they span, an echelon basis, and that its length hangs on the span alone. Over any program. No condition. -/
import Derived.Test.YtnfabflkajpkfaaDoorBitsN
namespace Go.Proofs.YtnfabflkajpkfaaDoor.Span
open Go Go.RowKit Go.Proofs.YtnfabflkajpkfaaDoorW.PrintWords Go.Proofs.YtnfabflkajpkfaaDoor.Base Go.Proofs.YtnfabflkajpkfaaDoor.Bits Go.Proofs.YtnfabflkajpkfaaDoor.BitsN
set_option linter.unusedVariables false
set_option linter.unusedSimpArgs false

abbrev Wd := List UInt64
/-- what rows span, by bits -/
inductive Sp (l : List Wd) : (Nat → Bool) → Prop
  | zero : Sp l fun _ => false
  | add {v : Wd} {x : Nat → Bool} : v ∈ l → Sp l x → Sp l fun i => x i ^^ getB v i
section
variable {l l' : List Wd} {x y : Nat → Bool} {v : Wd}
theorem Sp.cast (h : Sp l x) (e : ∀ i, y i = x i) : Sp l y := by rw [show y = x from funext e]; exact h
theorem Sp.mem (h : v ∈ l) : Sp l (getB v) := (Sp.add h Sp.zero).cast fun i => by simp
theorem Sp.xor (hx : Sp l x) (hy : Sp l y) : Sp l fun i => x i ^^ y i := by
  induction hy with
  | zero => exact hx.cast fun i => by simp
  | add hv _ ih => exact (Sp.add hv ih).cast fun i => by simp [Bool.xor_assoc]
theorem Sp.sub (h : ∀ v ∈ l, Sp l' (getB v)) (hx : Sp l x) : Sp l' x := by
  induction hx with
  | zero => exact Sp.zero
  | add hv _ ih => exact ih.xor (h _ hv)
theorem Sp.xorW {a b : Wd} (ha : Sp l (getB a)) (hb : Sp l (getB b)) : Sp l (getB (xorW a b)) := (ha.xor hb).cast fun i => getB_xorW a b i
end
/-- the same span -/
def Same (l l' : List Wd) : Prop := ∀ x, Sp l x ↔ Sp l' x
theorem Same.of {l l' : List Wd} (h : ∀ v ∈ l, Sp l' (getB v)) (h' : ∀ v ∈ l', Sp l (getB v)) : Same l l' := fun x => ⟨Sp.sub h, Sp.sub h'⟩
theorem Same.trans {a b c : List Wd} (h : Same a b) (h' : Same b c) : Same a c := fun x => (h x).trans (h' x)
theorem Same.symm {a b : List Wd} (h : Same a b) : Same b a := fun x => (h x).symm
theorem Same.refl (a : List Wd) : Same a a := fun x => Iff.rfl

/-! ### an echelon basis -/
def fst (b : Wd) : Nat := (firstW b).toNat
structure Ech (B : List Wd) : Prop where
  one : ∀ b ∈ B, firstW b = (fst b : Nat)
  rise : B.Pairwise fun a b => fst a < fst b
  off : ∀ a ∈ B, ∀ b ∈ B, fst a ≠ fst b → getB b (fst a) = false
theorem first_bit {b : Wd} {f : Nat} (h : firstW b = (f : Nat)) : getB b f = true ∧ ∀ j, j < f → getB b j = false := by
  by_cases hc : cntW b = 0
  · rw [firstW_none hc] at h; omega
  · obtain ⟨i, e, h1, h2, _⟩ := firstW_some hc
    obtain rfl : i = f := by omega
    exact ⟨h1, h2⟩
theorem fst_of {b : Wd} {f : Nat} (h : firstW b = (f : Nat)) : fst b = f := by rw [fst, h]; rfl
theorem rise_inj {B : List Wd} (h : B.Pairwise fun a b => fst a < fst b) {a b : Wd} (ha : a ∈ B) (hb : b ∈ B) (e : fst a = fst b) : a = b := by
  obtain ⟨i, hi, rfl⟩ := List.getElem_of_mem ha
  obtain ⟨j, hj, rfl⟩ := List.getElem_of_mem hb
  rcases Nat.lt_trichotomy i j with h1 | h1 | h1
  · have := List.pairwise_iff_getElem.1 h i j hi hj h1; omega
  · subst h1; rfl
  · have := List.pairwise_iff_getElem.1 h j i hj hi h1; omega
/-- the sum of the rows of B whose first bit x has -/
def comb (B : List Wd) (x : Nat → Bool) (i : Nat) : Bool := B.foldr (fun b s => (x (fst b) && getB b i) ^^ s) false
theorem comb_zero (B : List Wd) (i : Nat) : comb B (fun _ => false) i = false := by
  induction B with
  | nil => rfl
  | cons b B ih => simpa [comb] using ih
theorem comb_xor (B : List Wd) (x y : Nat → Bool) (i : Nat) : comb B (fun j => x j ^^ y j) i = (comb B x i ^^ comb B y i) := by
  induction B with
  | nil => rfl
  | cons b B ih =>
    have e : ∀ z : Nat → Bool, comb (b :: B) z i = ((z (fst b) && getB b i) ^^ comb B z i) := fun z => rfl
    rw [e, e, e, ih]
    cases x (fst b) <;> cases y (fst b) <;> cases getB b i <;> cases comb B x i <;> cases comb B y i <;> rfl
theorem comb_far (B : List Wd) (x : Nat → Bool) (h : ∀ b ∈ B, x (fst b) = false) (i : Nat) : comb B x i = false := by
  induction B with
  | nil => rfl
  | cons b B ih =>
    show ((x (fst b) && getB b i) ^^ comb B x i) = false
    rw [h b (by simp), ih (fun c hc => h c (by simp [hc]))]; rfl
theorem comb_mem {B : List Wd} (hr : B.Pairwise fun a b => fst a < fst b) {v : Wd} (hv : v ∈ B) (h1 : getB v (fst v) = true) (h0 : ∀ b ∈ B, fst b ≠ fst v → getB v (fst b) = false) (i : Nat) : comb B (getB v) i = getB v i := by
  induction B with
  | nil => cases hv
  | cons b B ih =>
    show ((getB v (fst b) && getB b i) ^^ comb B (getB v) i) = getB v i
    obtain ⟨hb, hB⟩ := List.pairwise_cons.1 hr
    rcases List.mem_cons.1 hv with rfl | hv'
    · rw [h1, comb_far B _ (fun c hc => h0 c (by simp [hc]) (by have := hb c hc; omega))]; simp
    · rw [h0 b (by simp) (by have := hb v hv'; omega), ih hB hv' (fun c hc => h0 c (by simp [hc]))]; simp
theorem comb_span {B : List Wd} (hE : Ech B) {x : Nat → Bool} (h : Sp B x) (i : Nat) : x i = comb B x i := by
  induction h with
  | zero => exact (comb_zero B i).symm
  | @add v y hv hy ih =>
    rw [comb_xor, ← ih, comb_mem hE.rise hv (by rw [fst]; exact (first_bit (hE.one v hv)).1) (fun b hb hn => hE.off b hb v hv hn)]
theorem comb_has (B : List Wd) (x : Nat → Bool) (i : Nat) (h : comb B x i = true) : ∃ b ∈ B, x (fst b) = true ∧ getB b i = true := by
  induction B with
  | nil => cases h
  | cons b B ih =>
    have h : ((x (fst b) && getB b i) ^^ comb B x i) = true := h
    cases h1 : (x (fst b) && getB b i) with
    | true =>
      rw [Bool.and_eq_true] at h1
      exact ⟨b, by simp, h1.1, h1.2⟩
    | false =>
      rw [h1, Bool.false_xor] at h
      obtain ⟨c, hc, h2⟩ := ih h
      exact ⟨c, by simp [hc], h2⟩
/-- the first bit of what is spanned is one of the basis' first bits -/
theorem lead {B : List Wd} (hE : Ech B) {x : Nat → Bool} (h : Sp B x) {i : Nat} (hi : x i = true) (hl : ∀ j, j < i → x j = false) : ∃ b ∈ B, fst b = i := by
  rw [comb_span hE h] at hi
  obtain ⟨b, hb, h1, h2⟩ := comb_has B x i hi
  refine ⟨b, hb, ?_⟩
  rcases Nat.lt_trichotomy (fst b) i with h3 | h3 | h3
  · rw [hl _ h3] at h1; cases h1
  · exact h3
  · rw [(first_bit (hE.one b hb)).2 i h3] at h2; cases h2
theorem ech_firsts {B B' : List Wd} (hE : Ech B) (hE' : Ech B') (hs : Same B B') : ∀ b ∈ B, fst b ∈ B'.map fst := by
  intro b hb
  have hf := first_bit (hE.one b hb)
  obtain ⟨c, hc, e⟩ := lead hE' ((hs _).1 (Sp.mem hb)) hf.1 hf.2
  exact List.mem_map.2 ⟨c, hc, e⟩
theorem ech_nodup {B : List Wd} (hE : Ech B) : (B.map fst).Nodup := by
  rw [List.nodup_iff_pairwise_ne, List.pairwise_map]
  exact hE.rise.imp fun h => Nat.ne_of_lt h
/-- the length of a basis hangs on its span alone -/
theorem ech_length {B B' : List Wd} (hE : Ech B) (hE' : Ech B') (hs : Same B B') : B.length = B'.length := by
  have hp : (B.map fst).Perm (B'.map fst) := by
    rw [List.perm_ext_iff_of_nodup (ech_nodup hE) (ech_nodup hE')]
    intro f
    constructor
    · intro h
      obtain ⟨b, hb, rfl⟩ := List.mem_map.1 h
      exact ech_firsts hE hE' hs b hb
    · intro h
      obtain ⟨b, hb, rfl⟩ := List.mem_map.1 h
      exact ech_firsts hE' hE hs.symm b hb
  simpa using hp.length_eq

/-! ### reduce -/
def redS (r b : Wd) : Wd := if 0 ≤ firstW b ∧ getB r (fst b) = true then xorW r b else r
def redV (B : List Wd) (v : Wd) : Wd := B.foldl redS v
theorem redV_succ {B : List Wd} {i : Nat} (h : i < B.length) (v : Wd) : redV (B.take (i + 1)) v = redS (redV (B.take i) v) B[i] := by
  rw [redV, List.take_succ_eq_append_getElem h, List.foldl_append]; rfl
theorem redS_off {B : List Wd} (hE : Ech B) {a b : Wd} (ha : a ∈ B) (hb : b ∈ B) (r : Wd) : getB (redS r b) (fst a) = (getB r (fst a) && !decide (fst a = fst b)) := by
  have hf := hE.one b hb
  unfold redS
  by_cases hg : getB r (fst b) = true
  · rw [if_pos ⟨by rw [hf]; omega, hg⟩, getB_xorW]
    by_cases e : fst a = fst b
    · rw [e, hg, (first_bit hf).1]; simp
    · rw [hE.off a ha b hb e]; simp [e]
  · rw [if_neg (fun h => hg h.2)]
    by_cases e : fst a = fst b
    · rw [e]; simpa using hg
    · simp [e]
theorem fold_off {B : List Wd} (hE : Ech B) {a : Wd} (ha : a ∈ B) : ∀ (L : List Wd) (r : Wd), (∀ b ∈ L, b ∈ B) → getB (L.foldl redS r) (fst a) = (getB r (fst a) && !decide (a ∈ L))
  | [], r, _ => by simp
  | b :: L, r, h => by
    rw [List.foldl_cons, fold_off hE ha L _ (fun c hc => h c (by simp [hc])), redS_off hE ha (h b (by simp))]
    by_cases e : fst a = fst b
    · have := rise_inj hE.rise ha (h b (by simp)) e
      subst this; simp
    · have hne : a ≠ b := fun x => e (by rw [x])
      simp [e, hne]
theorem redV_off {B : List Wd} (hE : Ech B) {v : Wd} {a : Wd} (ha : a ∈ B) : getB (redV B v) (fst a) = false := by
  rw [redV, fold_off hE ha B v (fun b hb => hb)]; simp [ha]
theorem redV_span (B : List Wd) (v : Wd) : Sp B fun i => getB (redV B v) i ^^ getB v i := by
  have key : ∀ (L : List Wd) (r : Wd), (∀ b ∈ L, b ∈ B) → (Sp B fun i => getB r i ^^ getB v i) → Sp B fun i => getB (L.foldl redS r) i ^^ getB v i := by
    intro L
    induction L with
    | nil => intro r _ h; exact h
    | cons b L ih =>
      intro r hL h
      rw [List.foldl_cons]
      refine ih _ (fun c hc => hL c (by simp [hc])) ?_
      unfold redS
      split
      · exact (Sp.add (hL b (by simp)) h).cast fun i => by
          rw [getB_xorW]
          cases getB r i <;> cases getB b i <;> cases getB v i <;> rfl
      · exact h
  exact key B v (fun b hb => hb) (Sp.zero.cast fun i => by simp)
theorem redV_length {M : Nat} {B : List Wd} (hB : ∀ b ∈ B, b.length ≤ M) {v : Wd} (hv : v.length ≤ M) : (redV B v).length ≤ M := by
  induction B generalizing v with
  | nil => exact hv
  | cons b B ih =>
    refine ih (fun c hc => hB c (by simp [hc])) ?_
    unfold redS
    split
    · rw [xorW_length]; have := hB b (by simp); omega
    · exact hv

/-! ### add -/
def modB (r : Wd) (b : Wd) : Wd := if getB b (fst r) = true then xorW b r else b
def insV (r : Wd) : List Wd → List Wd
  | [] => [r]
  | b :: B => if firstW b > firstW r then r :: (b :: B).map (modB r) else modB r b :: insV r B
def addB (B : List Wd) (v : Wd) : List Wd := if firstW (redV B v) < 0 then B else insV (redV B v) B
def basisL (l : List Wd) : List Wd := l.foldl addB []
theorem mem_insV {r : Wd} {B : List Wd} {x : Wd} : x ∈ insV r B ↔ x = r ∨ ∃ b ∈ B, x = modB r b := by
  induction B with
  | nil => simp [insV]
  | cons b B ih =>
    rw [insV]
    split
    · simp only [List.mem_cons, List.mem_map]
      constructor
      · rintro (h | ⟨a, ha, rfl⟩)
        · exact .inl h
        · exact .inr ⟨a, ha, rfl⟩
      · rintro (h | ⟨a, ha, rfl⟩)
        · exact .inl h
        · exact .inr ⟨a, ha, rfl⟩
    · rw [List.mem_cons, ih]
      constructor
      · rintro (h | h | ⟨a, ha, h⟩)
        · exact .inr ⟨b, by simp, h⟩
        · exact .inl h
        · exact .inr ⟨a, by simp [ha], h⟩
      · rintro (h | ⟨a, ha, h⟩)
        · exact .inr (.inl h)
        · rcases List.mem_cons.1 ha with rfl | ha
          · exact .inl h
          · exact .inr (.inr ⟨a, ha, h⟩)
theorem modB_first {r b : Wd} {f g : Nat} (hr : firstW r = (f : Nat)) (hb : firstW b = (g : Nat)) (hne : getB r g = false) : firstW (modB r b) = (g : Nat) := by
  unfold modB
  split
  · rename_i h
    rw [fst_of hr] at h
    have hg := first_bit hb
    have hlt : g < f := by
      rcases Nat.lt_trichotomy g f with h1 | h1 | h1
      · exact h1
      · subst h1; rw [(first_bit hr).1] at hne; cases hne
      · rw [hg.2 f h1] at h; cases h
    refine firstW_eq (by rw [getB_xorW, hg.1, hne]; rfl) fun j hj => ?_
    rw [getB_xorW, hg.2 j hj, (first_bit hr).2 j (by omega)]; rfl
  · exact hb
theorem modB_off {r b : Wd} {f : Nat} (hr : firstW r = (f : Nat)) : getB (modB r b) f = false := by
  unfold modB
  rw [fst_of hr]
  split
  · rename_i h
    rw [getB_xorW, h, (first_bit hr).1]; rfl
  · rename_i h
    simpa using h
theorem modB_bit {r b : Wd} {j : Nat} (hr : getB r j = false) : getB (modB r b) j = getB b j := by
  unfold modB
  split
  · rw [getB_xorW, hr]; simp
  · rfl
theorem insV_ech {B : List Wd} (hE : Ech B) {r : Wd} {f : Nat} (hr : firstW r = (f : Nat)) (ho : ∀ a ∈ B, getB r (fst a) = false) : Ech (insV r B) := by
  have hm : ∀ b ∈ B, firstW (modB r b) = (fst b : Nat) := fun b hb => modB_first hr (hE.one b hb) (ho b hb)
  have hmf : ∀ b ∈ B, fst (modB r b) = fst b := fun b hb => fst_of (hm b hb)
  have hrf := fst_of hr
  have hne : ∀ b ∈ B, fst b ≠ f := fun b hb e => by
    have := ho b hb
    rw [e, (first_bit hr).1] at this; cases this
  refine ⟨fun x hx => ?_, ?_, fun x hx y hy hxy => ?_⟩
  · rcases mem_insV.1 hx with rfl | ⟨b, hb, rfl⟩
    · rw [hrf, hr]
    · rw [hmf b hb, hm b hb]
  · have key : ∀ L : List Wd, (∀ b ∈ L, b ∈ B) → L.Pairwise (fun a b => fst a < fst b) → (insV r L).Pairwise fun a b => fst a < fst b := by
      intro L
      induction L with
      | nil => intro _ _; simp [insV]
      | cons b L ih =>
        intro hL hp
        obtain ⟨p1, p2⟩ := List.pairwise_cons.1 hp
        have hbB := hL b (by simp)
        have hfb := hE.one b hbB
        rw [insV]
        split
        · rename_i hgt
          rw [hfb, hr] at hgt
          have hfl : f < fst b := by omega
          refine List.pairwise_cons.2 ⟨fun y hy => ?_, ?_⟩
          · obtain ⟨c, hc, rfl⟩ := List.mem_map.1 hy
            rw [hrf, hmf c (hL c hc)]
            rcases List.mem_cons.1 hc with rfl | hc
            · exact hfl
            · exact Nat.lt_trans hfl (p1 c hc)
          · rw [List.pairwise_map]
            exact hp.imp_of_mem fun {a b} ha hb h => by rw [hmf a (hL a ha), hmf b (hL b hb)]; exact h
        · rename_i hgt
          rw [hfb, hr] at hgt
          have hfl : fst b < f := by have := hne b hbB; omega
          refine List.pairwise_cons.2 ⟨fun y hy => ?_, ih (fun c hc => hL c (by simp [hc])) p2⟩
          rw [hmf b hbB]
          rcases mem_insV.1 hy with rfl | ⟨c, hc, rfl⟩
          · rw [hrf]; exact hfl
          · rw [hmf c (hL c (by simp [hc]))]; exact p1 c hc
    exact key B (fun b hb => hb) hE.rise
  · rcases mem_insV.1 hx with rfl | ⟨a, ha, rfl⟩
    · rw [hrf]
      rcases mem_insV.1 hy with rfl | ⟨b, hb, rfl⟩
      · exact absurd rfl hxy
      · exact modB_off hr
    · rw [hmf a ha] at hxy ⊢
      rcases mem_insV.1 hy with rfl | ⟨b, hb, rfl⟩
      · exact ho a ha
      · rw [hmf b hb] at hxy
        rw [modB_bit (ho a ha)]
        exact hE.off a ha b hb hxy
theorem insV_same (B : List Wd) (r : Wd) : Same (insV r B) (r :: B) := by
  refine Same.of (fun x hx => ?_) (fun x hx => ?_)
  · rcases mem_insV.1 hx with rfl | ⟨b, hb, rfl⟩
    · exact Sp.mem (by simp)
    · unfold modB
      split
      · exact Sp.xorW (Sp.mem (by simp [hb])) (Sp.mem (by simp))
      · exact Sp.mem (by simp [hb])
  · have hr : Sp (insV r B) (getB r) := Sp.mem (mem_insV.2 (.inl rfl))
    rcases List.mem_cons.1 hx with rfl | hx
    · exact hr
    · have hb : Sp (insV r B) (getB (modB r x)) := Sp.mem (mem_insV.2 (.inr ⟨x, hx, rfl⟩))
      by_cases h : getB x (fst r) = true
      · rw [modB, if_pos h] at hb
        exact (hb.xor hr).cast fun i => by rw [getB_xorW]; cases getB x i <;> cases getB r i <;> rfl
      · rw [modB, if_neg h] at hb
        exact hb
theorem first_neg {v : Wd} (h : firstW v < 0) : ∀ i, getB v i = false := by
  by_cases hc : cntW v = 0
  · exact cnt_zero_iff.1 hc
  · obtain ⟨i, e, _⟩ := firstW_some hc
    omega
theorem first_nat {v : Wd} (h : ¬ firstW v < 0) : firstW v = (fst v : Nat) := by rw [fst]; omega
theorem sub_cons {v : Wd} {B : List Wd} : ∀ b ∈ B, Sp (v :: B) (getB b) := fun b hb => Sp.mem (by simp [hb])
theorem addB_ech {B : List Wd} (hE : Ech B) (v : Wd) : Ech (addB B v) := by
  unfold addB
  split
  · exact hE
  · rename_i h
    exact insV_ech hE (first_nat h) fun a ha => redV_off hE ha
theorem addB_same (B : List Wd) (v : Wd) : Same (addB B v) (v :: B) := by
  have hs := redV_span B v
  unfold addB
  split
  · rename_i h
    refine Same.of (fun b hb => Sp.mem (by simp [hb])) fun x hx => ?_
    rcases List.mem_cons.1 hx with rfl | hx
    · exact hs.cast fun i => by rw [first_neg h i]; simp
    · exact Sp.mem hx
  · refine (insV_same B (redV B v)).trans (Same.of (fun x hx => ?_) fun x hx => ?_)
    · rcases List.mem_cons.1 hx with rfl | hx
      · exact ((hs.sub sub_cons).xor (Sp.mem (v := v) (by simp))).cast fun i => by cases getB (redV B v) i <;> cases getB v i <;> rfl
      · exact Sp.mem (by simp [hx])
    · rcases List.mem_cons.1 hx with rfl | hx
      · exact ((hs.sub sub_cons).xor (Sp.mem (v := redV B x) (by simp))).cast fun i => by cases getB (redV B x) i <;> cases getB x i <;> rfl
      · exact Sp.mem (by simp [hx])
theorem basis_of (l : List Wd) : Ech (basisL l) ∧ Same (basisL l) l := by
  have key : ∀ (l : List Wd) (B : List Wd) (l0 : List Wd), Ech B → Same B l0 → Ech (l.foldl addB B) ∧ Same (l.foldl addB B) (l0 ++ l) := by
    intro l
    induction l with
    | nil => intro B l0 h1 h2; exact ⟨h1, by rw [List.append_nil]; exact h2⟩
    | cons v l ih =>
      intro B l0 h1 h2
      have := ih (addB B v) (l0 ++ [v]) (addB_ech h1 v) ((addB_same B v).trans (Same.of (fun x hx => ?_) fun x hx => ?_))
      · rwa [List.append_assoc] at this
      · rcases List.mem_cons.1 hx with rfl | hx
        · exact Sp.mem (by simp)
        · exact ((h2 _).1 (Sp.mem hx)).sub fun y hy => Sp.mem (by simp [hy])
      · rcases List.mem_append.1 hx with hx | hx
        · exact ((h2 _).2 (Sp.mem hx)).sub sub_cons
        · rw [List.mem_singleton.1 hx]; exact Sp.mem (by simp)
  have := key l [] [] ⟨by simp, by simp, by simp⟩ (Same.refl _)
  exact this
/-- rank hangs on the span alone -/
theorem rank_same {l l' : List Wd} (h : Same l l') : (basisL l).length = (basisL l').length :=
  ech_length (basis_of l).1 (basis_of l').1 ((basis_of l).2.trans (h.trans (basis_of l').2.symm))

end Go.Proofs.YtnfabflkajpkfaaDoor.Span
