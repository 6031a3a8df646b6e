/- Which rows ripple, plain. No condition. -/
import Derived.Test.YtnfabflkajpkfaaDoorPeelP
import Derived.Test.YtnfabflkajpkfaaDoorRows2
namespace Go.Proofs.YtnfabflkajpkfaaDoor.RipP
open Go Go.RowKit Go.Proofs.YtnfabflkajpkfaaDoorW.PrintWords Go.Proofs.YtnfabflkajpkfaaDoor.Base Go.Proofs.YtnfabflkajpkfaaDoor.Bits Go.Proofs.YtnfabflkajpkfaaDoor.BitsN Go.Proofs.YtnfabflkajpkfaaDoor.Kinds Go.Proofs.YtnfabflkajpkfaaDoor.PeelP Go.Proofs.YtnfabflkajpkfaaDoor.Rows2
set_option linter.unusedVariables false
set_option linter.unusedSimpArgs false

def ripS (v : List UInt64) (x : RowL) : List UInt64 := if cntW x.vec = 1 then setW v (firstW x.vec).toNat false else v
def ripV (K : List RowL) (v : List UInt64) : List UInt64 := K.foldl ripS v
theorem ripV_succ {K : List RowL} {i : Nat} (h : i < K.length) (v : List UInt64) : ripV (K.take (i + 1)) v = ripS (ripV (K.take i) v) K[i] := by
  rw [ripV, List.take_succ_eq_append_getElem h, List.foldl_append]; rfl
theorem setW_length (v : List UInt64) (i : Nat) (on : Bool) : (setW v i on).length = v.length := by rw [setW, List.length_set]
theorem ripV_length (K : List RowL) (v : List UInt64) : (ripV K v).length = v.length := by
  induction K generalizing v with
  | nil => rfl
  | cons x K ih =>
    show (ripV K (ripS v x)).length = _
    rw [ih, ripS]
    split
    · exact setW_length _ _ _
    · rfl
def ripI (K rows : List RowL) (j : Nat) : List Int := ((List.range j).filter fun i => decide (cntW (ripV K (rows.getD i zRow).vec) = 1)).map fun i : Nat => (i : Int)
theorem ripI_yes {K rows : List RowL} {j : Nat} (h : j < rows.length) (hc : cntW (ripV K (rows[j]).vec) = 1) : ripI K rows (j + 1) = ripI K rows j ++ [(j : Int)] := by
  rw [ripI, ripI, List.range_succ, List.filter_append, List.map_append, List.filter_cons, getD_at rows zRow j h, decide_eq_true hc]
  simp
theorem ripI_no {K rows : List RowL} {j : Nat} (h : j < rows.length) (hc : ¬ cntW (ripV K (rows[j]).vec) = 1) : ripI K rows (j + 1) = ripI K rows j := by
  rw [ripI, ripI, List.range_succ, List.filter_append, List.map_append, List.filter_cons, getD_at rows zRow j h, decide_eq_false hc]
  simp
theorem ripI_length (K rows : List RowL) (j : Nat) : (ripI K rows j).length ≤ j := by
  rw [ripI, List.length_map]
  exact Nat.le_trans (List.length_filter_le _ _) (by simp)
theorem owns_below {w w' : World} {base : Nat} {e : TypeId} {size n : Nat} {v : Value} {cs : List Value} (h : w.ownsRow base e size v n cs) (hb : Below w.heap.size w w') : w'.ownsRow base e size v n cs :=
  ownsRow_grown h (grown_of_below hb none) (by cases v.ownBlock <;> simp)
theorem one_iff (q : Nat) : (((q : Nat) : Int) == 1) = decide (q = 1) := by
  by_cases h : q = 1
  · subst h; rfl
  · rw [decide_eq_false h, beq_eq_false_iff_ne]; omega

end Go.Proofs.YtnfabflkajpkfaaDoor.RipP
