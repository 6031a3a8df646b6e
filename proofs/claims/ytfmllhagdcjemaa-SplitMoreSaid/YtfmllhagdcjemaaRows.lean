/-
  No cell of these rows narrows 'for every input' (looked for: loops, veiled, ifaces, maps, wideKeys, modest, calm, conditions, laid).
  DERIVED. THE GIVEN ROWS OF THIS SEAT. 5 by the template 'for every input the law returns true; each argument reads behind the call as it read before'; 0 by the template 'total and deterministic' (their statements: YtfmllhagdcjemaaTotals.lean).
  GIVEN WITH THE SEED: the statements are not yours to turn. If you find one false, say at which input.
  Laid BY PROGRAM, IN A SANDBOX (cutbox-rows.mjs): the forced cells as the released guide's own fill.sh prints them over the translation e9d812a581f4feff… (all of the seat's roots in one cut). By AI agents, Wed Nov 11 2026. No macro, syntax, notation, axiom, sorry.
-/
import Derived.Test.YtfmllhagdcjemaaChecked
import GoSem.Claim
import GoSem.ClaimJoined
import GoSem.ClaimMapViews
import Derived.JoinedTies
import Derived.KernelRfl
namespace Go.Proofs.Ytfmllhagdcjemaa
/- THE CELL 'sum', in the pinned program and in every row, IS THE sha256 OF THE DUMP (.gsa) THAT YtfmllhagdcjemaaProg.lean LOADS. Nothing in Lean hashes anything: it is a label: what it is worth is what the hold of that sum in a sandbox is worth. -/
noncomputable def Try.pinned : Pinned := { name := "ytfmllhagdcjemaa", sum := "e9d812a581f4feff4073d024126bee431e5fe5ca9c006739c224c4b9a9c879cf", checked := Try.checked }
namespace Rows
def none {H : Type} : Left H := { results := [], args := [] }

/-- 'bucketlinelaw09.SplitPlans': WHATEVER THE INPUT: true; the input reads as it did. -/
def splitPlansSpec : ChangeSpec := { name := "splitPlans", fn := fun _ => fun
  | [d1, d2] => { results := [.lit (.bool true)], args := [d1, d2] }
  | _ => none }
def splitPlansRow : OpenClaim := { program := "ytfmllhagdcjemaa", sum := "e9d812a581f4feff4073d024126bee431e5fe5ca9c006739c224c4b9a9c879cf", func := "bucketline/bucketlinelaw09.SplitPlans", spec := "splitPlans", inPlace := ["internal/abi.NoEscape", "internal/bytealg.MakeNoZero"], apart := false }
def SplitPlansSaid : Prop := splitPlansRow.holds Try.pinned (OpenSpec.ofChange splitPlansSpec)

/-- ITS FALSE NEIGHBOUR: 'it returns false'. Refute it at one input. -/
def splitPlansWrong : ChangeSpec := { name := "splitPlans", fn := fun _ => fun
  | [d1, d2] => { results := [.lit (.bool false)], args := [d1, d2] }
  | _ => none }
def SplitPlansWrongFalsely : Prop := splitPlansRow.holds Try.pinned (OpenSpec.ofChange splitPlansWrong)

/-- 'bucketlinelaw09.SplitSplits': WHATEVER THE INPUT: true; the input reads as it did. -/
def splitSplitsSpec : ChangeSpec := { name := "splitSplits", fn := fun _ => fun
  | [d1, d2] => { results := [.lit (.bool true)], args := [d1, d2] }
  | _ => none }
def splitSplitsRow : OpenClaim := { program := "ytfmllhagdcjemaa", sum := "e9d812a581f4feff4073d024126bee431e5fe5ca9c006739c224c4b9a9c879cf", func := "bucketline/bucketlinelaw09.SplitSplits", spec := "splitSplits", inPlace := ["internal/abi.NoEscape", "internal/bytealg.MakeNoZero"], apart := false }
def SplitSplitsSaid : Prop := splitSplitsRow.holds Try.pinned (OpenSpec.ofChange splitSplitsSpec)

/-- ITS FALSE NEIGHBOUR: 'it returns false'. Refute it at one input. -/
def splitSplitsWrong : ChangeSpec := { name := "splitSplits", fn := fun _ => fun
  | [d1, d2] => { results := [.lit (.bool false)], args := [d1, d2] }
  | _ => none }
def SplitSplitsWrongFalsely : Prop := splitSplitsRow.holds Try.pinned (OpenSpec.ofChange splitSplitsWrong)

/-- 'bucketlinelaw09.SplitJoins': WHATEVER THE INPUT: true; the input reads as it did. -/
def splitJoinsSpec : ChangeSpec := { name := "splitJoins", fn := fun _ => fun
  | [d1, d2] => { results := [.lit (.bool true)], args := [d1, d2] }
  | _ => none }
def splitJoinsRow : OpenClaim := { program := "ytfmllhagdcjemaa", sum := "e9d812a581f4feff4073d024126bee431e5fe5ca9c006739c224c4b9a9c879cf", func := "bucketline/bucketlinelaw09.SplitJoins", spec := "splitJoins", inPlace := ["internal/abi.NoEscape", "internal/bytealg.MakeNoZero"], apart := false }
def SplitJoinsSaid : Prop := splitJoinsRow.holds Try.pinned (OpenSpec.ofChange splitJoinsSpec)

/-- ITS FALSE NEIGHBOUR: 'it returns false'. Refute it at one input. -/
def splitJoinsWrong : ChangeSpec := { name := "splitJoins", fn := fun _ => fun
  | [d1, d2] => { results := [.lit (.bool false)], args := [d1, d2] }
  | _ => none }
def SplitJoinsWrongFalsely : Prop := splitJoinsRow.holds Try.pinned (OpenSpec.ofChange splitJoinsWrong)

/-- 'bucketlinelaw09.SplitBack': WHATEVER THE INPUT: true; the input reads as it did. -/
def splitBackSpec : ChangeSpec := { name := "splitBack", fn := fun _ => fun
  | [d1, d2] => { results := [.lit (.bool true)], args := [d1, d2] }
  | _ => none }
def splitBackRow : OpenClaim := { program := "ytfmllhagdcjemaa", sum := "e9d812a581f4feff4073d024126bee431e5fe5ca9c006739c224c4b9a9c879cf", func := "bucketline/bucketlinelaw09.SplitBack", spec := "splitBack", inPlace := ["internal/abi.NoEscape", "internal/bytealg.MakeNoZero"], apart := false }
def SplitBackSaid : Prop := splitBackRow.holds Try.pinned (OpenSpec.ofChange splitBackSpec)

/-- ITS FALSE NEIGHBOUR: 'it returns false'. Refute it at one input. -/
def splitBackWrong : ChangeSpec := { name := "splitBack", fn := fun _ => fun
  | [d1, d2] => { results := [.lit (.bool false)], args := [d1, d2] }
  | _ => none }
def SplitBackWrongFalsely : Prop := splitBackRow.holds Try.pinned (OpenSpec.ofChange splitBackWrong)

/-- 'bucketlinelaw09.SplitMore': WHATEVER THE INPUT: true; the input reads as it did. -/
def splitMoreSpec : ChangeSpec := { name := "splitMore", fn := fun _ => fun
  | [d1, d2] => { results := [.lit (.bool true)], args := [d1, d2] }
  | _ => none }
def splitMoreRow : OpenClaim := { program := "ytfmllhagdcjemaa", sum := "e9d812a581f4feff4073d024126bee431e5fe5ca9c006739c224c4b9a9c879cf", func := "bucketline/bucketlinelaw09.SplitMore", spec := "splitMore", inPlace := ["internal/abi.NoEscape", "internal/bytealg.MakeNoZero"], apart := false }
def SplitMoreSaid : Prop := splitMoreRow.holds Try.pinned (OpenSpec.ofChange splitMoreSpec)

/-- ITS FALSE NEIGHBOUR: 'it returns false'. Refute it at one input. -/
def splitMoreWrong : ChangeSpec := { name := "splitMore", fn := fun _ => fun
  | [d1, d2] => { results := [.lit (.bool false)], args := [d1, d2] }
  | _ => none }
def SplitMoreWrongFalsely : Prop := splitMoreRow.holds Try.pinned (OpenSpec.ofChange splitMoreWrong)

/- THE SECOND FORM. 'bulk': how many values and letters a reading holds, each counted each time it is reached (what is shared counts as often as it is met; a slice's spare places count too). A statement '..UptoSaid' is the law's where the arguments, and the package variables that the reading takes, are together of bulk at most 1048576: NARROWER than '..Said'. Prove '..Said' where nothing that the law and all that it calls make is longer than what came in: it says more and counts as full. Else prove '..UptoSaid'. A law counts once. -/
mutual
def uptoBulk {H : Type} : DataW H → Nat
  | .lit (.string bytes) => bytes.length + 1
  | .lit _ => 1
  | .nil => 1
  | .ptr d => uptoBulk d + 1
  | .slice elems spare => uptoBulkAll elems + uptoBulkAll spare + 1
  | .agg parts => uptoBulkAll parts + 1
  | .iface _ d => uptoBulk d + 1
  | .map entries => uptoBulkEntries entries + 1
  | .held _ => 1
def uptoBulkAll {H : Type} : List (DataW H) → Nat
  | [] => 0
  | d :: r => uptoBulk d + uptoBulkAll r
def uptoBulkEntries {H : Type} : List (Lit × DataW H) → Nat
  | [] => 0
  | x :: r => uptoBulkEntry x + uptoBulkEntries r
def uptoBulkEntry {H : Type} : Lit × DataW H → Nat
  | (.string bytes, d) => bytes.length + uptoBulk d + 1
  | (_, d) => uptoBulk d + 1
 end
def uptoSmall : (H : Type) → List (DataW H) → Bool := fun _ ds => decide (uptoBulkAll ds ≤ 1048576)
def OpenSpec.upto (s : _root_.Go.ChangeSpec) : _root_.Go.OpenSpec := { _root_.Go.OpenSpec.ofChange s with cond := some uptoSmall }

/-- 'bucketlinelaw09.SplitPlans', WHERE WHAT IT READS IS OF BULK AT MOST 1048576: true; the input reads as it did. -/
def splitPlansUptoRow : OpenClaim := { program := "ytfmllhagdcjemaa", sum := "e9d812a581f4feff4073d024126bee431e5fe5ca9c006739c224c4b9a9c879cf", func := "bucketline/bucketlinelaw09.SplitPlans", spec := "splitPlans", inPlace := ["internal/abi.NoEscape", "internal/bytealg.MakeNoZero"], apart := false, narrowed := true }
def SplitPlansUptoSaid : Prop := splitPlansUptoRow.holds Try.pinned (OpenSpec.upto splitPlansSpec)

/-- 'bucketlinelaw09.SplitSplits', WHERE WHAT IT READS IS OF BULK AT MOST 1048576: true; the input reads as it did. -/
def splitSplitsUptoRow : OpenClaim := { program := "ytfmllhagdcjemaa", sum := "e9d812a581f4feff4073d024126bee431e5fe5ca9c006739c224c4b9a9c879cf", func := "bucketline/bucketlinelaw09.SplitSplits", spec := "splitSplits", inPlace := ["internal/abi.NoEscape", "internal/bytealg.MakeNoZero"], apart := false, narrowed := true }
def SplitSplitsUptoSaid : Prop := splitSplitsUptoRow.holds Try.pinned (OpenSpec.upto splitSplitsSpec)

/-- 'bucketlinelaw09.SplitJoins', WHERE WHAT IT READS IS OF BULK AT MOST 1048576: true; the input reads as it did. -/
def splitJoinsUptoRow : OpenClaim := { program := "ytfmllhagdcjemaa", sum := "e9d812a581f4feff4073d024126bee431e5fe5ca9c006739c224c4b9a9c879cf", func := "bucketline/bucketlinelaw09.SplitJoins", spec := "splitJoins", inPlace := ["internal/abi.NoEscape", "internal/bytealg.MakeNoZero"], apart := false, narrowed := true }
def SplitJoinsUptoSaid : Prop := splitJoinsUptoRow.holds Try.pinned (OpenSpec.upto splitJoinsSpec)

/-- 'bucketlinelaw09.SplitBack', WHERE WHAT IT READS IS OF BULK AT MOST 1048576: true; the input reads as it did. -/
def splitBackUptoRow : OpenClaim := { program := "ytfmllhagdcjemaa", sum := "e9d812a581f4feff4073d024126bee431e5fe5ca9c006739c224c4b9a9c879cf", func := "bucketline/bucketlinelaw09.SplitBack", spec := "splitBack", inPlace := ["internal/abi.NoEscape", "internal/bytealg.MakeNoZero"], apart := false, narrowed := true }
def SplitBackUptoSaid : Prop := splitBackUptoRow.holds Try.pinned (OpenSpec.upto splitBackSpec)

/-- 'bucketlinelaw09.SplitMore', WHERE WHAT IT READS IS OF BULK AT MOST 1048576: true; the input reads as it did. -/
def splitMoreUptoRow : OpenClaim := { program := "ytfmllhagdcjemaa", sum := "e9d812a581f4feff4073d024126bee431e5fe5ca9c006739c224c4b9a9c879cf", func := "bucketline/bucketlinelaw09.SplitMore", spec := "splitMore", inPlace := ["internal/abi.NoEscape", "internal/bytealg.MakeNoZero"], apart := false, narrowed := true }
def SplitMoreUptoSaid : Prop := splitMoreUptoRow.holds Try.pinned (OpenSpec.upto splitMoreSpec)

end Rows
end Go.Proofs.Ytfmllhagdcjemaa
