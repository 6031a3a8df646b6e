/- Bits of rows of words: set one, clear one; plain laws. Over any program. No condition. -/
import Derived.Test.YtnfabflkajpkfaaDoorBase
namespace Go.Proofs.YtnfabflkajpkfaaDoor.Bits
open Go Go.RowKit Go.Proofs.YtnfabflkajpkfaaDoorW.PrintWords Go.Proofs.YtnfabflkajpkfaaDoor.Base
set_option linter.unusedVariables false
set_option linter.unusedSimpArgs false

def bitW (j : Nat) : UInt64 := ⟨BitVec.twoPow 64 j⟩
theorem bitW_nat (j : Nat) (h : j < 64) : (bitW j).toNat = 2 ^ j := by
  show (BitVec.twoPow 64 j).toNat = _
  rw [BitVec.toNat_twoPow, Nat.mod_eq_of_lt (Nat.pow_lt_pow_right (by decide) h)]
theorem bitW_int (j : Nat) (h : j < 64) : ((bitW j).toNat : Int) = 2 ^ j := by
  rw [bitW_nat j h, Int.natCast_pow]; rfl
theorem ofInt_u64 (x : UInt64) : BitVec.ofInt 64 (x.toNat : Int) = x.toBitVec := by
  rw [BitVec.ofInt_natCast]
  apply BitVec.eq_of_toNat_eq
  rw [BitVec.toNat_ofNat]
  exact Nat.mod_eq_of_lt x.toNat_lt
theorem wrap_u64 (x : UInt64) : IntKind.u64.wrap (x.toNat : Int) = (x.toNat : Int) := by
  have := x.toNat_lt
  simp [IntKind.wrap, IntKind.bits, IntKind.signed]; omega
theorem andNot_u64 (x y : UInt64) : bits .andNot .u64 (x.toNat : Int) (y.toNat : Int) = ((x &&& ~~~y).toNat : Int) := by
  show IntKind.u64.wrap ((BitVec.ofInt 64 (x.toNat : Int) &&& ~~~ BitVec.ofInt 64 (y.toNat : Int)).toNat : Int) = _
  rw [ofInt_u64, ofInt_u64]
  exact wrap_u64 (x &&& ~~~y)
theorem or_u64 (x y : UInt64) : bits .or .u64 (x.toNat : Int) (y.toNat : Int) = ((x ||| y).toNat : Int) := by
  show IntKind.u64.wrap ((BitVec.ofInt 64 (x.toNat : Int) ||| BitVec.ofInt 64 (y.toNat : Int)).toNat : Int) = _
  rw [ofInt_u64, ofInt_u64]
  exact wrap_u64 (x ||| y)
theorem xor_u64 (x y : UInt64) : bits .xor .u64 (x.toNat : Int) (y.toNat : Int) = ((x ^^^ y).toNat : Int) := bx_u64 x y
theorem and_u64 (x y : UInt64) : bits .and .u64 (x.toNat : Int) (y.toNat : Int) = ((x &&& y).toNat : Int) := by
  show IntKind.u64.wrap ((BitVec.ofInt 64 (x.toNat : Int) &&& BitVec.ofInt 64 (y.toNat : Int)).toNat : Int) = _
  rw [ofInt_u64, ofInt_u64]
  exact wrap_u64 (x &&& y)

/-- a word's bit -/
def tb (x : UInt64) (j : Nat) : Bool := x.toNat.testBit j
theorem tb_eq (x : UInt64) (j : Nat) : tb x j = x.toBitVec.getLsbD j := rfl
theorem tb_far (x : UInt64) (j : Nat) (h : 64 ≤ j) : tb x j = false := by
  rw [tb]
  exact Nat.testBit_lt_two_pow (Nat.lt_of_lt_of_le x.toNat_lt (Nat.pow_le_pow_right (by decide) h))
theorem tb_ext {x y : UInt64} (h : ∀ j, j < 64 → tb x j = tb y j) : x = y := by
  apply UInt64.eq_of_toBitVec_eq
  apply BitVec.eq_of_getLsbD_eq
  intro j hj
  exact h j hj
theorem tb_or (x y : UInt64) (j : Nat) : tb (x ||| y) j = (tb x j || tb y j) := by
  rw [tb_eq, tb_eq, tb_eq, UInt64.toBitVec_or, BitVec.getLsbD_or]
theorem tb_xor (x y : UInt64) (j : Nat) : tb (x ^^^ y) j = (tb x j ^^ tb y j) := by
  rw [tb_eq, tb_eq, tb_eq, UInt64.toBitVec_xor, BitVec.getLsbD_xor]
theorem tb_andNot (x y : UInt64) (j : Nat) : tb (x &&& ~~~y) j = (tb x j && !tb y j) := by
  rw [tb_eq, tb_eq, tb_eq, UInt64.toBitVec_and, UInt64.toBitVec_not, BitVec.getLsbD_and, BitVec.getLsbD_not]
  by_cases h : j < 64
  · simp [h]
  · have : x.toBitVec.getLsbD j = false := tb_far x j (by omega)
    simp [this]
theorem tb_bit (i j : Nat) (h : i < 64) : tb (bitW i) j = decide (i = j) := by
  rw [tb, bitW_nat i h, Nat.testBit_two_pow]
theorem tb_zero (j : Nat) : tb 0 j = false := by simp [tb]
theorem getB_tb (v : List UInt64) (i : Nat) : getB v i = tb (v.getD (i / 64) 0) (i % 64) := rfl
theorem getW_ext {u v : List UInt64} (hl : u.length = v.length) (h : ∀ i, getB u i = getB v i) : u = v := by
  apply List.ext_getElem hl
  intro k h1 h2
  apply tb_ext
  intro j hj
  have := h (64 * k + j)
  rw [getB_tb, getB_tb, show (64 * k + j) / 64 = k by omega, show (64 * k + j) % 64 = j by omega] at this
  simpa [List.getD_eq_getElem?_getD, h1, h2] using this
theorem or_andNot (x y : UInt64) : (x &&& ~~~y) ||| y = x ||| y := by
  apply tb_ext
  intro j _
  rw [tb_or, tb_andNot, tb_or]
  cases tb x j <;> cases tb y j <;> rfl
theorem xor_on (x : UInt64) (i : Nat) (h : i < 64) (hb : tb x i = false) : x ^^^ bitW i = x ||| bitW i := by
  apply tb_ext
  intro j _
  rw [tb_xor, tb_or, tb_bit i j h]
  by_cases e : i = j
  · subst e; simp [hb]
  · simp [e]
theorem xor_off (x : UInt64) (i : Nat) (h : i < 64) (hb : tb x i = true) : x ^^^ bitW i = x &&& ~~~bitW i := by
  apply tb_ext
  intro j _
  rw [tb_xor, tb_andNot, tb_bit i j h]
  by_cases e : i = j
  · subst e; simp [hb]
  · simp [e]

/-- a word with a bit on, or off -/
def putB (x : UInt64) (i : Nat) (on : Bool) : UInt64 := if on then x ||| bitW i else x &&& ~~~bitW i
theorem tb_putB (x : UInt64) (i j : Nat) (on : Bool) (h : i < 64) : tb (putB x i on) j = if j = i then on else tb x j := by
  cases on
  · simp only [putB, Bool.false_eq_true, if_false]
    rw [tb_andNot, tb_bit i j h]
    by_cases e : i = j
    · subst e; simp
    · simp [e, Ne.symm e]
  · simp only [putB, if_true]
    rw [tb_or, tb_bit i j h]
    by_cases e : i = j
    · subst e; simp
    · simp [e, Ne.symm e]
theorem putB_same (x : UInt64) (i : Nat) (on : Bool) (h : i < 64) (hb : tb x i = on) : putB x i on = x := by
  apply tb_ext
  intro j _
  rw [tb_putB x i j on h]
  by_cases e : j = i
  · subst e; simp [hb]
  · simp [e]
def setW (v : List UInt64) (i : Nat) (on : Bool) : List UInt64 := v.set (i / 64) (putB (v.getD (i / 64) 0) (i % 64) on)
theorem setW_length (v : List UInt64) (i : Nat) (on : Bool) : (setW v i on).length = v.length := by simp [setW]
theorem setW_far (v : List UInt64) (i : Nat) (on : Bool) (h : v.length ≤ i / 64) : setW v i on = v := by
  rw [setW, List.set_eq_of_length_le h]
theorem setW_same (v : List UInt64) (i : Nat) (on : Bool) (h : getB v i = on) : setW v i on = v := by
  rw [setW, putB_same _ _ _ (Nat.mod_lt _ (by decide)) h]
  by_cases hl : i / 64 < v.length
  · rw [List.getD_eq_getElem?_getD, List.getElem?_eq_getElem hl]; simp
  · exact List.set_eq_of_length_le (by omega)
theorem getB_setW (v : List UInt64) (i j : Nat) (on : Bool) (h : i / 64 < v.length) : getB (setW v i on) j = if j = i then on else getB v j := by
  rw [getB_tb, getB_tb, setW]
  by_cases e : j / 64 = i / 64
  · rw [e, List.getD_eq_getElem?_getD, List.getElem?_set_self h, Option.getD_some, tb_putB _ _ _ _ (Nat.mod_lt _ (by decide))]
    by_cases e' : j = i
    · subst e'; simp
    · rw [if_neg (by omega), if_neg e']
  · rw [List.getD_eq_getElem?_getD, List.getElem?_set_ne (Ne.symm e), ← List.getD_eq_getElem?_getD, if_neg (fun h => e (by rw [h]))]
def sizeW (k : Int) : Int := if k < 1 ∨ 128 < k then 0 else (k + 63) / 64
def sizeN (k : Nat) : Nat := (k + 63) / 64
theorem sizeW_nat (k : Nat) (h1 : 1 ≤ k) (h2 : k ≤ 128) : sizeW k = (sizeN k : Nat) := by
  rw [sizeW, if_neg (by omega), sizeN]; omega

end Go.Proofs.YtnfabflkajpkfaaDoor.Bits
