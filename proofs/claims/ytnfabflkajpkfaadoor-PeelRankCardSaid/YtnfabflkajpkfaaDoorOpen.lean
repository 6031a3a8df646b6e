/- What can be read as data is of a kind: slices, structs, strings, numbers. Over any program. -/
import Derived.Test.YtnfabflkajpkfaaDoorBase
import Derived.Deep.Slices
import Derived.ChangeSame
namespace Go.Proofs.YtnfabflkajpkfaaDoor.Open
open Go Go.RowKit Go.ChangeShapes Go.WideShapes Go.Deep Go.Proofs.YtnfabflkajpkfaaDoorW.PrintWords Go.Proofs.YtnfabflkajpkfaaDoor.Base
set_option linter.unusedVariables false
set_option linter.unusedSimpArgs false

/-- what reads as data of type t is of kind d -/
def Opens {α : Type} (P : Program) (d : Kd α) (t : TypeId) : Prop :=
  ∀ {H : Type} {enc : TypeId × Value → H} {w : World} {base : Nat} {spare : Nat → Bool} {held : Bool} {fuel : Nat} {cs : List Value} {x : DataW H × List MemPlace},
    DataW.trod enc P w base spare held fuel t cs = some x → ∃ a : α, d.K w a cs

theorem opens_int {P : Program} {t : TypeId} {k : IntKind} (ht : P.underlying t = some (.int k)) : Opens P (Kd.int k) t := by
  intro H enc w base spare held fuel cs x h
  obtain ⟨n, rfl, _, _⟩ := DataW.trod_int ht h
  exact ⟨n, rfl⟩
theorem opens_bool {P : Program} {t : TypeId} (ht : P.underlying t = some .bool) : Opens P Kd.bool t := by
  intro H enc w base spare held fuel cs x h
  obtain ⟨n, rfl, _⟩ := DataW.trod_bool ht h
  exact ⟨n, rfl⟩
theorem opens_string {P : Program} {t : TypeId} (ht : P.underlying t = some .string) : Opens P Kd.string t := by
  intro H enc w base spare held fuel cs x h
  obtain ⟨n, rfl, _, _⟩ := DataW.trod_string ht h
  exact ⟨n, rfl⟩
theorem wf_u64 {n : Int} (h : (Lit.int .u64 n).wf = true) : 0 ≤ n ∧ n < 18446744073709551616 := by
  simp [Lit.wf, IntKind.min, IntKind.max, IntKind.bits, IntKind.signed] at h
  omega
theorem opens_w {P : Program} {t : TypeId} (ht : P.underlying t = some (.int .u64)) : Opens P Kw t := by
  intro H enc w base spare held fuel cs x h
  obtain ⟨n, rfl, _, hw⟩ := DataW.trod_int ht h
  obtain ⟨h0, h1⟩ := wf_u64 hw
  refine ⟨UInt64.ofNat n.toNat, ?_⟩
  show _ = [encW _]
  rw [encW, show ((UInt64.ofNat n.toNat).toNat : Int) = n from ?_]
  have : (UInt64.ofNat n.toNat).toNat = n.toNat := UInt64.toNat_ofNat_of_lt' (by show n.toNat < 18446744073709551616; omega)
  rw [this, Int.toNat_of_nonneg h0]
theorem list_of {α : Type} {Q : Nat → α → Prop} (len : Nat) (h : ∀ i, i < len → ∃ y, Q i y) : ∃ xs : List α, xs.length = len ∧ ∀ i y, xs[i]? = some y → Q i y := by
  induction len with
  | zero => exact ⟨[], rfl, fun i y h => by simp at h⟩
  | succ k ih =>
    obtain ⟨xs, hl, hx⟩ := ih (fun i hi => h i (by omega))
    obtain ⟨y, hy⟩ := h k (by omega)
    refine ⟨xs ++ [y], by simp [hl], fun i z hz => ?_⟩
    by_cases hi : i < xs.length
    · rw [List.getElem?_append_left hi] at hz; exact hx i z hz
    · have hi' := (List.getElem?_eq_some_iff.1 hz).1
      obtain rfl : i = xs.length := by simp at hi'; omega
      simp at hz
      subst hz
      rw [hl]; exact hy
theorem opens_slice {α : Type} {P : Program} {d : Kd α} {t e : TypeId} (ht : P.underlying t = some (.slice e)) (hc : P.cellsOf e = d.sz) (ho : Opens P d e) : Opens P (Kd.slice e d) t := by
  intro H enc w base spare held fuel cs x h
  rcases open_slice ht h with ⟨rfl, _⟩ | ⟨a, len, cap, m, n, D, Pl, rfl, hb, hl, hm, hmm, _, hel⟩
  · exact ⟨[], none, 0, rfl, Nat.le_refl _, rfl, by simp, fun h => absurd h (by simp)⟩
  · have hlm : len ≤ m := by rw [hmm]; split <;> omega
    obtain ⟨xs, hxl, hx⟩ := list_of (Q := fun i y => ∃ c, c.length = d.sz ∧ d.K w y c ∧ ∀ j u, c[j]? = some u → w.cell? (a.add (i * d.sz + j)) = some u) len (by
      intro i hi
      obtain ⟨cs', h1, h2⟩ := hel i (by omega)
      obtain ⟨y, hy⟩ := ho h2
      obtain ⟨_, hlen, hcell⟩ := World.cells?_some h1
      refine ⟨y, cs', d.K_len hy, hy, fun j u hj => ?_⟩
      have hjl := (List.getElem?_eq_some_iff.1 hj).1
      have := hcell j (by omega)
      rw [Deep.add_add, hc] at this
      rw [this]; exact hj)
    refine ⟨xs, some a, cap, by rw [hxl], by omega, rfl, by simp only [maxLen] at hm; omega, fun _ => ⟨a, rfl, hx⟩⟩
theorem opens_iso {α β : Type} {P : Program} {d : Kd α} {t : TypeId} (f : β → α) (g : α → β) (hf : ∀ a, f (g a) = a) (ho : Opens P d t) : Opens P (Kd.iso d f) t := by
  intro H enc w base spare held fuel cs x h
  obtain ⟨a, ha⟩ := ho h
  exact ⟨g a, show d.K w (f (g a)) cs by rw [hf]; exact ha⟩
/-- two fields -/
theorem opens_struct2 {α β : Type} {P : Program} {d0 : Kd α} {d1 : Kd β} {t : TypeId} {f0 f1 : Field} (ht : P.underlying t = some (.struct #[f0, f1])) (hc : P.cellsOf t = d0.sz + d1.sz)
    (h0 : f0.offset = 0) (h1 : f1.offset = d0.sz) (c0 : P.cellsOf f0.type = d0.sz) (c1 : P.cellsOf f1.type = d1.sz) (o0 : Opens P d0 f0.type) (o1 : Opens P d1 f1.type) : Opens P (Kd.pair d0 d1) t := by
  intro H enc w base spare held fuel cs x h
  obtain ⟨y0, y1, n, _, hl, e0, e1⟩ := trod_struct2 ht h
  rw [h0, c0, List.drop_zero] at e0
  rw [h1, c1] at e1
  obtain ⟨a, ha⟩ := o0 e0
  obtain ⟨b, hb⟩ := o1 e1
  refine ⟨(a, b), cs.take d0.sz, cs.drop d0.sz, (List.take_append_drop _ _).symm, ha, ?_⟩
  rwa [List.take_of_length_le (by rw [List.length_drop]; omega)] at hb
/-- an argument that is a slice -/
theorem arg_slice {α : Type} {P : Program} {d : Kd α} {t e : TypeId} (ho : Opens P (Kd.slice e d) t) {H : Type} {enc : TypeId × Value → H} {w : World} {base : Nat} {spare : Nat → Bool} {held : Bool} {a : Option Addr} {len cap : Nat} {x : DataW H} {ps : List MemPlace}
    (h : DataW.Trod enc P w base spare held t (.slice a len cap) x ps) : ∃ xs : List α, len = xs.length ∧ d.C w a xs.length xs := by
  obtain ⟨fuel, hf⟩ := h
  obtain ⟨xs, A, c, hcs, hl, hC⟩ := ho hf
  have : [Value.slice a len cap] = [Value.slice A xs.length c] := by simpa [Value.cells] using hcs
  injection this with this _
  injection this with h1 h2 h3
  subst h1; subst h2
  exact ⟨xs, rfl, hC⟩

theorem okWide_cap {P : Program} {w : World} {r : Reach} {base : Nat} {t e : TypeId} {a : Option Addr} {len cap : Nat} (ht : P.underlying t = some (.slice e)) (h : Value.okWide P w r base t (.slice a len cap)) : len ≤ cap := by
  simp only [Value.okWide, ht, Cell.okWide] at h
  cases a with
  | none => cases len <;> cases cap <;> simp_all [Cell.ok]
  | some a => simp only [Cell.ok, ht] at h; exact h.1

theorem okWide_plain {P : Program} {w : World} {r : Reach} {base : Nat} {t e : TypeId} {a : Option Addr} {len cap : Nat} (ht : P.underlying t = some (.slice e)) (h : Value.okWide P w r base t (.slice a len cap)) : ∀ ad, a = some ad → ad.spot = none := by
  rintro ad rfl
  simp only [Value.okWide, ht, Cell.okWide, Cell.ok] at h
  exact h.2.2.2.1
/-- whole numbers of 64 bits -/
def I64 : Type := { n : Int // -9223372036854775808 ≤ n ∧ n ≤ 9223372036854775807 }
def KI : Kd I64 := Kd.iso (Kd.int .i64) Subtype.val
theorem opens_i64 {P : Program} {t : TypeId} (ht : P.underlying t = some (.int .i64)) : Opens P KI t := by
  intro H enc w base spare held fuel cs x h
  obtain ⟨n, rfl, _, hw⟩ := DataW.trod_int ht h
  simp [Lit.wf, IntKind.min, IntKind.max, IntKind.bits, IntKind.signed] at hw
  exact ⟨⟨n, by omega, by omega⟩, rfl⟩

/-! fields, any number of them: the kinds as a chain of pairs -/
structure OF {α : Type} (P : Program) (fs : List Field) (off : Nat) (d : Kd α) : Prop where
  mk ::
  out : ∀ {H : Type} {enc : TypeId × Value → H} {w : World} {base : Nat} {spare : Nat → Bool} {held : Bool} {n : Nat} {cs : List Value} (xs : List (DataW H × List MemPlace)), off + d.sz ≤ cs.length → xs.length = fs.length →
    (∀ (i : Nat) (f : Field), fs[i]? = some f → DataW.trod enc P w base spare held n f.type ((cs.drop f.offset).take (P.cellsOf f.type)) = xs[i]?) → ∃ a : α, d.K w a ((cs.drop off).take d.sz)
theorem OF.one {α : Type} {P : Program} {f : Field} {off : Nat} {d : Kd α} (h1 : f.offset = off) (h2 : P.cellsOf f.type = d.sz) (h : Opens P d f.type) : OF P [f] off d := by
  constructor
  intro H enc w base spare held n cs xs hl hx hf
  match xs, hx with
  | [y], _ =>
    have := hf 0 f rfl
    rw [h1, h2] at this
    exact h this
theorem OF.cons {α β : Type} {P : Program} {f : Field} {fs : List Field} {off : Nat} {d : Kd α} {d' : Kd β} (h1 : f.offset = off) (h2 : P.cellsOf f.type = d.sz) (h : Opens P d f.type) (hr : OF P fs (off + d.sz) d') : OF P (f :: fs) off (Kd.pair d d') := by
  constructor
  intro H enc w base spare held n cs xs hl hx hf
  have hsz : (Kd.pair d d').sz = d.sz + d'.sz := rfl
  rw [hsz] at hl
  match xs, hx with
  | y :: ys, hx =>
    have h0 := hf 0 f rfl
    rw [h1, h2] at h0
    obtain ⟨a, ha⟩ := h h0
    obtain ⟨b, hb⟩ := hr.out (cs := cs) (n := n) ys (by omega) (by simpa using hx) (fun i g hg => by simpa using hf (i + 1) g (by simpa using hg))
    refine ⟨(a, b), (cs.drop off).take d.sz, (cs.drop (off + d.sz)).take d'.sz, ?_, ha, hb⟩
    rw [hsz, List.take_add, List.drop_drop]
theorem opens_struct {α : Type} {P : Program} {d : Kd α} {t : TypeId} {fs : Array Field} (ht : P.underlying t = some (.struct fs)) (hc : P.cellsOf t = d.sz) (h : OF P fs.toList 0 d) : Opens P d t := by
  intro H enc w base spare held fuel cs x hx
  obtain ⟨xs, n, _, _, hl, hlen, hf⟩ := DataW.trod_struct ht hx
  obtain ⟨a, ha⟩ := h.out (cs := cs) (n := n) xs (by omega) (by simpa using hlen) (fun i f hi => hf i f (by simpa using hi))
  refine ⟨a, ?_⟩
  rwa [List.drop_zero, List.take_of_length_le (by omega)] at ha
/-- an argument that is a struct -/
theorem arg_struct {α : Type} {P : Program} {d : Kd α} {t : TypeId} {fs : Array Field} (ho : Opens P d t) (ht : P.underlying t = some (.struct fs)) {H : Type} {enc : TypeId × Value → H} {w : World} {r : Reach} {b base : Nat} {spare : Nat → Bool} {held : Bool} {v : Value} {x : DataW H} {ps : List MemPlace}
    (hv : Value.okWide P w r b t v) (h : DataW.Trod enc P w base spare held t v x ps) : ∃ (a : α) (cs : Array Value), v = .agg cs ∧ d.K w a cs.toList := by
  obtain ⟨cs, rfl, _⟩ := okWide_struct ht hv
  obtain ⟨fuel, hf⟩ := h
  obtain ⟨a, ha⟩ := ho hf
  exact ⟨a, cs, rfl, ha⟩
/-- texts, with their bound -/
def Str : Type := { s : ByteArray // s.size ≤ 9223372036854775807 }
def KS : Kd Str := Kd.iso Kd.string Subtype.val
theorem opens_str {P : Program} {t : TypeId} (ht : P.underlying t = some .string) : Opens P KS t := by
  intro H enc w base spare held fuel cs x h
  obtain ⟨s, rfl, _, hs⟩ := DataW.trod_string ht h
  exact ⟨⟨s, hs⟩, rfl⟩

end Go.Proofs.YtnfabflkajpkfaaDoor.Open
