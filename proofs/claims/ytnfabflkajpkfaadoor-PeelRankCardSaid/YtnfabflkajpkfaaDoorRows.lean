/-
  NARROWER THAN 'FOR EVERY INPUT', by the rows' own cells (each row's printed sentence says how): PeelPeels: laid · PeelRipples: laid · PeelTrue: laid · PeelEnds: laid · PeelRank: laid · GaussSolves: laid · GaussDecodes: laid · GaussTrue: laid · GaussOrder: laid · GaussMore: laid.
  DERIVED. THE GIVEN ROWS OF THIS SEAT. 10 by the template 'for every input the law returns true; each argument reads behind the call as it read before'; 0 by the template 'total and deterministic' (their statements: YtnfabflkajpkfaaDoorTotals.lean).
  GIVEN WITH THE SEED: the statements are not yours to turn. If you find one false, say at which input.
  Laid BY PROGRAM, IN A SANDBOX (cutbox-rows.mjs): the forced cells as the released guide's own fill.sh prints them over the translation 02874b8b283aa772… (all of the seat's roots in one cut). By AI agents, Wed Nov 11 2026. No macro, syntax, notation, axiom, sorry.
-/
import Derived.Test.YtnfabflkajpkfaaDoorChecked
import GoSem.Claim
import GoSem.ClaimJoined
import GoSem.ClaimMapViews
import Derived.JoinedTies
import Derived.KernelRfl
namespace Go.Proofs.YtnfabflkajpkfaaDoor
/- THE CELL 'sum', in the pinned program and in every row, IS THE sha256 OF THE DUMP (.gsa) THAT YtnfabflkajpkfaaDoorProg.lean LOADS. Nothing in Lean hashes anything: it is a label: what it is worth is what the hold of that sum in a sandbox is worth. -/
noncomputable def Tryd.pinned : Pinned := { name := "ytnfabflkajpkfaadoor", sum := "02874b8b283aa77289169715392d355d5d31e28fd832fd571f9daf799a2022a3", checked := Tryd.checked }
namespace Rows
def none {H : Type} : Left H := { results := [], args := [] }

/- WHAT THE LISTED PACKAGE-LEVEL VARIABLES READ AS WHEN THE CALL BEGINS. Each datum BY PROGRAM (the guide's laid-datum.mjs) off the statement by which the dump's own 'gosem.cut.vars' lays the variable. In a bare row this is a premise. The card (YtnfabflkajpkfaaDoorCards.lean) ties it to the program's text. -/
def laid_math_bits_deBruijn64tab {H : Type} : DataW H := .agg [.lit (.int .u8 0), .lit (.int .u8 1), .lit (.int .u8 56), .lit (.int .u8 2), .lit (.int .u8 57), .lit (.int .u8 49), .lit (.int .u8 28), .lit (.int .u8 3), .lit (.int .u8 61), .lit (.int .u8 58), .lit (.int .u8 42), .lit (.int .u8 50), .lit (.int .u8 38), .lit (.int .u8 29), .lit (.int .u8 17), .lit (.int .u8 4), .lit (.int .u8 62), .lit (.int .u8 47), .lit (.int .u8 59), .lit (.int .u8 36), .lit (.int .u8 45), .lit (.int .u8 43), .lit (.int .u8 51), .lit (.int .u8 22), .lit (.int .u8 53), .lit (.int .u8 39), .lit (.int .u8 33), .lit (.int .u8 30), .lit (.int .u8 24), .lit (.int .u8 18), .lit (.int .u8 12), .lit (.int .u8 5), .lit (.int .u8 63), .lit (.int .u8 55), .lit (.int .u8 48), .lit (.int .u8 27), .lit (.int .u8 60), .lit (.int .u8 41), .lit (.int .u8 37), .lit (.int .u8 16), .lit (.int .u8 46), .lit (.int .u8 35), .lit (.int .u8 44), .lit (.int .u8 21), .lit (.int .u8 52), .lit (.int .u8 32), .lit (.int .u8 23), .lit (.int .u8 11), .lit (.int .u8 54), .lit (.int .u8 26), .lit (.int .u8 40), .lit (.int .u8 15), .lit (.int .u8 34), .lit (.int .u8 20), .lit (.int .u8 31), .lit (.int .u8 10), .lit (.int .u8 25), .lit (.int .u8 14), .lit (.int .u8 19), .lit (.int .u8 9), .lit (.int .u8 13), .lit (.int .u8 8), .lit (.int .u8 7), .lit (.int .u8 6)]

/-- 'bucketlinelaw13.PeelPeels': WHATEVER THE INPUT: true; the input reads as it did. -/
def peelPeelsSpec : ChangeSpec := { name := "peelPeels", fn := fun _ => fun
  | [d1, d2] => { results := [.lit (.bool true)], args := [d1, d2] }
  | _ => none }
def peelPeelsRow : OpenClaim := { program := "ytnfabflkajpkfaadoor", sum := "02874b8b283aa77289169715392d355d5d31e28fd832fd571f9daf799a2022a3", func := "bucketline/bucketlinelaw13.PeelPeels", spec := "peelPeels", unfollowed := true, recurses := true, named := ["math/bits.deBruijn64tab"], apart := false, laid := [("math/bits.deBruijn64tab", laid_math_bits_deBruijn64tab)] }
def PeelPeelsSaid : Prop := peelPeelsRow.holds Tryd.pinned (OpenSpec.ofChange peelPeelsSpec)

/-- ITS FALSE NEIGHBOUR: 'it returns false'. Refute it at one input. -/
def peelPeelsWrong : ChangeSpec := { name := "peelPeels", fn := fun _ => fun
  | [d1, d2] => { results := [.lit (.bool false)], args := [d1, d2] }
  | _ => none }
def PeelPeelsWrongFalsely : Prop := peelPeelsRow.holds Tryd.pinned (OpenSpec.ofChange peelPeelsWrong)

/-- 'bucketlinelaw13.PeelRipples': WHATEVER THE INPUT: true; the input reads as it did. -/
def peelRipplesSpec : ChangeSpec := { name := "peelRipples", fn := fun _ => fun
  | [d1, d2] => { results := [.lit (.bool true)], args := [d1, d2] }
  | _ => none }
def peelRipplesRow : OpenClaim := { program := "ytnfabflkajpkfaadoor", sum := "02874b8b283aa77289169715392d355d5d31e28fd832fd571f9daf799a2022a3", func := "bucketline/bucketlinelaw13.PeelRipples", spec := "peelRipples", unfollowed := true, recurses := true, named := ["math/bits.deBruijn64tab"], apart := false, laid := [("math/bits.deBruijn64tab", laid_math_bits_deBruijn64tab)] }
def PeelRipplesSaid : Prop := peelRipplesRow.holds Tryd.pinned (OpenSpec.ofChange peelRipplesSpec)

/-- ITS FALSE NEIGHBOUR: 'it returns false'. Refute it at one input. -/
def peelRipplesWrong : ChangeSpec := { name := "peelRipples", fn := fun _ => fun
  | [d1, d2] => { results := [.lit (.bool false)], args := [d1, d2] }
  | _ => none }
def PeelRipplesWrongFalsely : Prop := peelRipplesRow.holds Tryd.pinned (OpenSpec.ofChange peelRipplesWrong)

/-- 'bucketlinelaw13.PeelTrue': WHATEVER THE INPUT: true; the input reads as it did. -/
def peelTrueSpec : ChangeSpec := { name := "peelTrue", fn := fun _ => fun
  | [d1, d2] => { results := [.lit (.bool true)], args := [d1, d2] }
  | _ => none }
def peelTrueRow : OpenClaim := { program := "ytnfabflkajpkfaadoor", sum := "02874b8b283aa77289169715392d355d5d31e28fd832fd571f9daf799a2022a3", func := "bucketline/bucketlinelaw13.PeelTrue", spec := "peelTrue", unfollowed := true, recurses := true, named := ["math/bits.deBruijn64tab"], apart := false, laid := [("math/bits.deBruijn64tab", laid_math_bits_deBruijn64tab)] }
def PeelTrueSaid : Prop := peelTrueRow.holds Tryd.pinned (OpenSpec.ofChange peelTrueSpec)

/-- ITS FALSE NEIGHBOUR: 'it returns false'. Refute it at one input. -/
def peelTrueWrong : ChangeSpec := { name := "peelTrue", fn := fun _ => fun
  | [d1, d2] => { results := [.lit (.bool false)], args := [d1, d2] }
  | _ => none }
def PeelTrueWrongFalsely : Prop := peelTrueRow.holds Tryd.pinned (OpenSpec.ofChange peelTrueWrong)

/-- 'bucketlinelaw13.PeelEnds': WHATEVER THE INPUT: true; the input reads as it did. -/
def peelEndsSpec : ChangeSpec := { name := "peelEnds", fn := fun _ => fun
  | [d1, d2] => { results := [.lit (.bool true)], args := [d1, d2] }
  | _ => none }
def peelEndsRow : OpenClaim := { program := "ytnfabflkajpkfaadoor", sum := "02874b8b283aa77289169715392d355d5d31e28fd832fd571f9daf799a2022a3", func := "bucketline/bucketlinelaw13.PeelEnds", spec := "peelEnds", unfollowed := true, recurses := true, named := ["math/bits.deBruijn64tab"], apart := false, laid := [("math/bits.deBruijn64tab", laid_math_bits_deBruijn64tab)] }
def PeelEndsSaid : Prop := peelEndsRow.holds Tryd.pinned (OpenSpec.ofChange peelEndsSpec)

/-- ITS FALSE NEIGHBOUR: 'it returns false'. Refute it at one input. -/
def peelEndsWrong : ChangeSpec := { name := "peelEnds", fn := fun _ => fun
  | [d1, d2] => { results := [.lit (.bool false)], args := [d1, d2] }
  | _ => none }
def PeelEndsWrongFalsely : Prop := peelEndsRow.holds Tryd.pinned (OpenSpec.ofChange peelEndsWrong)

/-- 'bucketlinelaw13.PeelRank': WHATEVER THE INPUT: true; the input reads as it did. -/
def peelRankSpec : ChangeSpec := { name := "peelRank", fn := fun _ => fun
  | [d1, d2] => { results := [.lit (.bool true)], args := [d1, d2] }
  | _ => none }
def peelRankRow : OpenClaim := { program := "ytnfabflkajpkfaadoor", sum := "02874b8b283aa77289169715392d355d5d31e28fd832fd571f9daf799a2022a3", func := "bucketline/bucketlinelaw13.PeelRank", spec := "peelRank", unfollowed := true, recurses := true, named := ["math/bits.deBruijn64tab"], apart := false, laid := [("math/bits.deBruijn64tab", laid_math_bits_deBruijn64tab)] }
def PeelRankSaid : Prop := peelRankRow.holds Tryd.pinned (OpenSpec.ofChange peelRankSpec)

/-- ITS FALSE NEIGHBOUR: 'it returns false'. Refute it at one input. -/
def peelRankWrong : ChangeSpec := { name := "peelRank", fn := fun _ => fun
  | [d1, d2] => { results := [.lit (.bool false)], args := [d1, d2] }
  | _ => none }
def PeelRankWrongFalsely : Prop := peelRankRow.holds Tryd.pinned (OpenSpec.ofChange peelRankWrong)

/-- 'bucketlinelaw14.GaussSolves': WHATEVER THE INPUT: true; the input reads as it did. -/
def gaussSolvesSpec : ChangeSpec := { name := "gaussSolves", fn := fun _ => fun
  | [d1, d2] => { results := [.lit (.bool true)], args := [d1, d2] }
  | _ => none }
def gaussSolvesRow : OpenClaim := { program := "ytnfabflkajpkfaadoor", sum := "02874b8b283aa77289169715392d355d5d31e28fd832fd571f9daf799a2022a3", func := "bucketline/bucketlinelaw14.GaussSolves", spec := "gaussSolves", inPlace := ["slices.overlaps[[]uint64]"], unfollowed := true, recurses := true, named := ["math/bits.deBruijn64tab"], apart := false, laid := [("math/bits.deBruijn64tab", laid_math_bits_deBruijn64tab)] }
def GaussSolvesSaid : Prop := gaussSolvesRow.holds Tryd.pinned (OpenSpec.ofChange gaussSolvesSpec)

/-- ITS FALSE NEIGHBOUR: 'it returns false'. Refute it at one input. -/
def gaussSolvesWrong : ChangeSpec := { name := "gaussSolves", fn := fun _ => fun
  | [d1, d2] => { results := [.lit (.bool false)], args := [d1, d2] }
  | _ => none }
def GaussSolvesWrongFalsely : Prop := gaussSolvesRow.holds Tryd.pinned (OpenSpec.ofChange gaussSolvesWrong)

/-- 'bucketlinelaw14.GaussDecodes': WHATEVER THE INPUT: true; the input reads as it did. -/
def gaussDecodesSpec : ChangeSpec := { name := "gaussDecodes", fn := fun _ => fun
  | [d1, d2] => { results := [.lit (.bool true)], args := [d1, d2] }
  | _ => none }
def gaussDecodesRow : OpenClaim := { program := "ytnfabflkajpkfaadoor", sum := "02874b8b283aa77289169715392d355d5d31e28fd832fd571f9daf799a2022a3", func := "bucketline/bucketlinelaw14.GaussDecodes", spec := "gaussDecodes", inPlace := ["slices.overlaps[[]uint64]"], unfollowed := true, recurses := true, named := ["math/bits.deBruijn64tab"], apart := false, laid := [("math/bits.deBruijn64tab", laid_math_bits_deBruijn64tab)] }
def GaussDecodesSaid : Prop := gaussDecodesRow.holds Tryd.pinned (OpenSpec.ofChange gaussDecodesSpec)

/-- ITS FALSE NEIGHBOUR: 'it returns false'. Refute it at one input. -/
def gaussDecodesWrong : ChangeSpec := { name := "gaussDecodes", fn := fun _ => fun
  | [d1, d2] => { results := [.lit (.bool false)], args := [d1, d2] }
  | _ => none }
def GaussDecodesWrongFalsely : Prop := gaussDecodesRow.holds Tryd.pinned (OpenSpec.ofChange gaussDecodesWrong)

/-- 'bucketlinelaw14.GaussTrue': WHATEVER THE INPUT: true; the input reads as it did. -/
def gaussTrueSpec : ChangeSpec := { name := "gaussTrue", fn := fun _ => fun
  | [d1, d2] => { results := [.lit (.bool true)], args := [d1, d2] }
  | _ => none }
def gaussTrueRow : OpenClaim := { program := "ytnfabflkajpkfaadoor", sum := "02874b8b283aa77289169715392d355d5d31e28fd832fd571f9daf799a2022a3", func := "bucketline/bucketlinelaw14.GaussTrue", spec := "gaussTrue", inPlace := ["slices.overlaps[[]uint64]"], unfollowed := true, recurses := true, named := ["math/bits.deBruijn64tab"], apart := false, laid := [("math/bits.deBruijn64tab", laid_math_bits_deBruijn64tab)] }
def GaussTrueSaid : Prop := gaussTrueRow.holds Tryd.pinned (OpenSpec.ofChange gaussTrueSpec)

/-- ITS FALSE NEIGHBOUR: 'it returns false'. Refute it at one input. -/
def gaussTrueWrong : ChangeSpec := { name := "gaussTrue", fn := fun _ => fun
  | [d1, d2] => { results := [.lit (.bool false)], args := [d1, d2] }
  | _ => none }
def GaussTrueWrongFalsely : Prop := gaussTrueRow.holds Tryd.pinned (OpenSpec.ofChange gaussTrueWrong)

/-- 'bucketlinelaw14.GaussOrder': WHATEVER THE INPUT: true; the input reads as it did. -/
def gaussOrderSpec : ChangeSpec := { name := "gaussOrder", fn := fun _ => fun
  | [d1, d2, d3] => { results := [.lit (.bool true)], args := [d1, d2, d3] }
  | _ => none }
def gaussOrderRow : OpenClaim := { program := "ytnfabflkajpkfaadoor", sum := "02874b8b283aa77289169715392d355d5d31e28fd832fd571f9daf799a2022a3", func := "bucketline/bucketlinelaw14.GaussOrder", spec := "gaussOrder", inPlace := ["slices.overlaps[[]uint64]"], unfollowed := true, recurses := true, named := ["math/bits.deBruijn64tab"], apart := false, laid := [("math/bits.deBruijn64tab", laid_math_bits_deBruijn64tab)] }
def GaussOrderSaid : Prop := gaussOrderRow.holds Tryd.pinned (OpenSpec.ofChange gaussOrderSpec)

/-- ITS FALSE NEIGHBOUR: 'it returns false'. Refute it at one input. -/
def gaussOrderWrong : ChangeSpec := { name := "gaussOrder", fn := fun _ => fun
  | [d1, d2, d3] => { results := [.lit (.bool false)], args := [d1, d2, d3] }
  | _ => none }
def GaussOrderWrongFalsely : Prop := gaussOrderRow.holds Tryd.pinned (OpenSpec.ofChange gaussOrderWrong)

/-- 'bucketlinelaw14.GaussMore': WHATEVER THE INPUT: true; the input reads as it did. -/
def gaussMoreSpec : ChangeSpec := { name := "gaussMore", fn := fun _ => fun
  | [d1, d2] => { results := [.lit (.bool true)], args := [d1, d2] }
  | _ => none }
def gaussMoreRow : OpenClaim := { program := "ytnfabflkajpkfaadoor", sum := "02874b8b283aa77289169715392d355d5d31e28fd832fd571f9daf799a2022a3", func := "bucketline/bucketlinelaw14.GaussMore", spec := "gaussMore", inPlace := ["slices.overlaps[[]uint64]"], unfollowed := true, recurses := true, named := ["math/bits.deBruijn64tab"], apart := false, laid := [("math/bits.deBruijn64tab", laid_math_bits_deBruijn64tab)] }
def GaussMoreSaid : Prop := gaussMoreRow.holds Tryd.pinned (OpenSpec.ofChange gaussMoreSpec)

/-- ITS FALSE NEIGHBOUR: 'it returns false'. Refute it at one input. -/
def gaussMoreWrong : ChangeSpec := { name := "gaussMore", fn := fun _ => fun
  | [d1, d2] => { results := [.lit (.bool false)], args := [d1, d2] }
  | _ => none }
def GaussMoreWrongFalsely : Prop := gaussMoreRow.holds Tryd.pinned (OpenSpec.ofChange gaussMoreWrong)

/- THE SECOND FORM. 'bulk': how many values and letters a reading holds, each counted each time it is reached (what is shared counts as often as it is met; a slice's spare places count too). A statement '..UptoSaid' is the law's where the arguments, and the package variables that the reading takes, are together of bulk at most 1048576: NARROWER than '..Said'. Prove '..Said' where nothing that the law and all that it calls make is longer than what came in: it says more and counts as full. Else prove '..UptoSaid'. A law counts once. -/
mutual
def uptoBulk {H : Type} : DataW H → Nat
  | .lit (.string bytes) => bytes.length + 1
  | .lit _ => 1
  | .nil => 1
  | .ptr d => uptoBulk d + 1
  | .slice elems spare => uptoBulkAll elems + uptoBulkAll spare + 1
  | .agg parts => uptoBulkAll parts + 1
  | .iface _ d => uptoBulk d + 1
  | .map entries => uptoBulkEntries entries + 1
  | .held _ => 1
def uptoBulkAll {H : Type} : List (DataW H) → Nat
  | [] => 0
  | d :: r => uptoBulk d + uptoBulkAll r
def uptoBulkEntries {H : Type} : List (Lit × DataW H) → Nat
  | [] => 0
  | x :: r => uptoBulkEntry x + uptoBulkEntries r
def uptoBulkEntry {H : Type} : Lit × DataW H → Nat
  | (.string bytes, d) => bytes.length + uptoBulk d + 1
  | (_, d) => uptoBulk d + 1
 end
def uptoSmall : (H : Type) → List (DataW H) → Bool := fun _ ds => decide (uptoBulkAll ds ≤ 1048576)
def OpenSpec.upto (s : _root_.Go.ChangeSpec) : _root_.Go.OpenSpec := { _root_.Go.OpenSpec.ofChange s with cond := some uptoSmall }

/-- 'bucketlinelaw13.PeelPeels', WHERE WHAT IT READS IS OF BULK AT MOST 1048576: true; the input reads as it did. -/
def peelPeelsUptoRow : OpenClaim := { program := "ytnfabflkajpkfaadoor", sum := "02874b8b283aa77289169715392d355d5d31e28fd832fd571f9daf799a2022a3", func := "bucketline/bucketlinelaw13.PeelPeels", spec := "peelPeels", unfollowed := true, recurses := true, named := ["math/bits.deBruijn64tab"], apart := false, laid := [("math/bits.deBruijn64tab", laid_math_bits_deBruijn64tab)], narrowed := true }
def PeelPeelsUptoSaid : Prop := peelPeelsUptoRow.holds Tryd.pinned (OpenSpec.upto peelPeelsSpec)

/-- 'bucketlinelaw13.PeelRipples', WHERE WHAT IT READS IS OF BULK AT MOST 1048576: true; the input reads as it did. -/
def peelRipplesUptoRow : OpenClaim := { program := "ytnfabflkajpkfaadoor", sum := "02874b8b283aa77289169715392d355d5d31e28fd832fd571f9daf799a2022a3", func := "bucketline/bucketlinelaw13.PeelRipples", spec := "peelRipples", unfollowed := true, recurses := true, named := ["math/bits.deBruijn64tab"], apart := false, laid := [("math/bits.deBruijn64tab", laid_math_bits_deBruijn64tab)], narrowed := true }
def PeelRipplesUptoSaid : Prop := peelRipplesUptoRow.holds Tryd.pinned (OpenSpec.upto peelRipplesSpec)

/-- 'bucketlinelaw13.PeelTrue', WHERE WHAT IT READS IS OF BULK AT MOST 1048576: true; the input reads as it did. -/
def peelTrueUptoRow : OpenClaim := { program := "ytnfabflkajpkfaadoor", sum := "02874b8b283aa77289169715392d355d5d31e28fd832fd571f9daf799a2022a3", func := "bucketline/bucketlinelaw13.PeelTrue", spec := "peelTrue", unfollowed := true, recurses := true, named := ["math/bits.deBruijn64tab"], apart := false, laid := [("math/bits.deBruijn64tab", laid_math_bits_deBruijn64tab)], narrowed := true }
def PeelTrueUptoSaid : Prop := peelTrueUptoRow.holds Tryd.pinned (OpenSpec.upto peelTrueSpec)

/-- 'bucketlinelaw13.PeelEnds', WHERE WHAT IT READS IS OF BULK AT MOST 1048576: true; the input reads as it did. -/
def peelEndsUptoRow : OpenClaim := { program := "ytnfabflkajpkfaadoor", sum := "02874b8b283aa77289169715392d355d5d31e28fd832fd571f9daf799a2022a3", func := "bucketline/bucketlinelaw13.PeelEnds", spec := "peelEnds", unfollowed := true, recurses := true, named := ["math/bits.deBruijn64tab"], apart := false, laid := [("math/bits.deBruijn64tab", laid_math_bits_deBruijn64tab)], narrowed := true }
def PeelEndsUptoSaid : Prop := peelEndsUptoRow.holds Tryd.pinned (OpenSpec.upto peelEndsSpec)

/-- 'bucketlinelaw13.PeelRank', WHERE WHAT IT READS IS OF BULK AT MOST 1048576: true; the input reads as it did. -/
def peelRankUptoRow : OpenClaim := { program := "ytnfabflkajpkfaadoor", sum := "02874b8b283aa77289169715392d355d5d31e28fd832fd571f9daf799a2022a3", func := "bucketline/bucketlinelaw13.PeelRank", spec := "peelRank", unfollowed := true, recurses := true, named := ["math/bits.deBruijn64tab"], apart := false, laid := [("math/bits.deBruijn64tab", laid_math_bits_deBruijn64tab)], narrowed := true }
def PeelRankUptoSaid : Prop := peelRankUptoRow.holds Tryd.pinned (OpenSpec.upto peelRankSpec)

/-- 'bucketlinelaw14.GaussSolves', WHERE WHAT IT READS IS OF BULK AT MOST 1048576: true; the input reads as it did. -/
def gaussSolvesUptoRow : OpenClaim := { program := "ytnfabflkajpkfaadoor", sum := "02874b8b283aa77289169715392d355d5d31e28fd832fd571f9daf799a2022a3", func := "bucketline/bucketlinelaw14.GaussSolves", spec := "gaussSolves", inPlace := ["slices.overlaps[[]uint64]"], unfollowed := true, recurses := true, named := ["math/bits.deBruijn64tab"], apart := false, laid := [("math/bits.deBruijn64tab", laid_math_bits_deBruijn64tab)], narrowed := true }
def GaussSolvesUptoSaid : Prop := gaussSolvesUptoRow.holds Tryd.pinned (OpenSpec.upto gaussSolvesSpec)

/-- 'bucketlinelaw14.GaussDecodes', WHERE WHAT IT READS IS OF BULK AT MOST 1048576: true; the input reads as it did. -/
def gaussDecodesUptoRow : OpenClaim := { program := "ytnfabflkajpkfaadoor", sum := "02874b8b283aa77289169715392d355d5d31e28fd832fd571f9daf799a2022a3", func := "bucketline/bucketlinelaw14.GaussDecodes", spec := "gaussDecodes", inPlace := ["slices.overlaps[[]uint64]"], unfollowed := true, recurses := true, named := ["math/bits.deBruijn64tab"], apart := false, laid := [("math/bits.deBruijn64tab", laid_math_bits_deBruijn64tab)], narrowed := true }
def GaussDecodesUptoSaid : Prop := gaussDecodesUptoRow.holds Tryd.pinned (OpenSpec.upto gaussDecodesSpec)

/-- 'bucketlinelaw14.GaussTrue', WHERE WHAT IT READS IS OF BULK AT MOST 1048576: true; the input reads as it did. -/
def gaussTrueUptoRow : OpenClaim := { program := "ytnfabflkajpkfaadoor", sum := "02874b8b283aa77289169715392d355d5d31e28fd832fd571f9daf799a2022a3", func := "bucketline/bucketlinelaw14.GaussTrue", spec := "gaussTrue", inPlace := ["slices.overlaps[[]uint64]"], unfollowed := true, recurses := true, named := ["math/bits.deBruijn64tab"], apart := false, laid := [("math/bits.deBruijn64tab", laid_math_bits_deBruijn64tab)], narrowed := true }
def GaussTrueUptoSaid : Prop := gaussTrueUptoRow.holds Tryd.pinned (OpenSpec.upto gaussTrueSpec)

/-- 'bucketlinelaw14.GaussOrder', WHERE WHAT IT READS IS OF BULK AT MOST 1048576: true; the input reads as it did. -/
def gaussOrderUptoRow : OpenClaim := { program := "ytnfabflkajpkfaadoor", sum := "02874b8b283aa77289169715392d355d5d31e28fd832fd571f9daf799a2022a3", func := "bucketline/bucketlinelaw14.GaussOrder", spec := "gaussOrder", inPlace := ["slices.overlaps[[]uint64]"], unfollowed := true, recurses := true, named := ["math/bits.deBruijn64tab"], apart := false, laid := [("math/bits.deBruijn64tab", laid_math_bits_deBruijn64tab)], narrowed := true }
def GaussOrderUptoSaid : Prop := gaussOrderUptoRow.holds Tryd.pinned (OpenSpec.upto gaussOrderSpec)

/-- 'bucketlinelaw14.GaussMore', WHERE WHAT IT READS IS OF BULK AT MOST 1048576: true; the input reads as it did. -/
def gaussMoreUptoRow : OpenClaim := { program := "ytnfabflkajpkfaadoor", sum := "02874b8b283aa77289169715392d355d5d31e28fd832fd571f9daf799a2022a3", func := "bucketline/bucketlinelaw14.GaussMore", spec := "gaussMore", inPlace := ["slices.overlaps[[]uint64]"], unfollowed := true, recurses := true, named := ["math/bits.deBruijn64tab"], apart := false, laid := [("math/bits.deBruijn64tab", laid_math_bits_deBruijn64tab)], narrowed := true }
def GaussMoreUptoSaid : Prop := gaussMoreUptoRow.holds Tryd.pinned (OpenSpec.upto gaussMoreSpec)

end Rows
end Go.Proofs.YtnfabflkajpkfaaDoor
