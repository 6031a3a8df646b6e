/-
  No cell of these rows narrows 'for every input' (looked for: loops, veiled, ifaces, maps, wideKeys, modest, calm, conditions, laid).
  DERIVED. THE GIVEN ROWS OF THIS SEAT. 5 by the template 'for every input the law returns true; each argument reads behind the call as it read before'; 0 by the template 'total and deterministic' (their statements: YtfmllhagdcjemabTotals.lean).
  GIVEN WITH THE SEED: the statements are not yours to turn. If you find one false, say at which input.
  Laid BY PROGRAM, IN A SANDBOX (cutbox-rows.mjs): the forced cells as the released guide's own fill.sh prints them over the translation b73eb4fc6b80369a… (all of the seat's roots in one cut). By AI agents, Wed Nov 11 2026. No macro, syntax, notation, axiom, sorry.
-/
import Derived.Test.YtfmllhagdcjemabChecked
import GoSem.Claim
import GoSem.ClaimJoined
import GoSem.ClaimMapViews
import Derived.JoinedTies
import Derived.KernelRfl
namespace Go.Proofs.Ytfmllhagdcjemab
/- THE CELL 'sum', in the pinned program and in every row, IS THE sha256 OF THE DUMP (.gsa) THAT YtfmllhagdcjemabProg.lean LOADS. Nothing in Lean hashes anything: it is a label: what it is worth is what the hold of that sum in a sandbox is worth. -/
noncomputable def Try.pinned : Pinned := { name := "ytfmllhagdcjemab", sum := "b73eb4fc6b80369ab051a850ba4ac58c760d332b749d68d0ba2175cdcd8a4796", checked := Try.checked }
namespace Rows
def none {H : Type} : Left H := { results := [], args := [] }

/-- 'bucketlinelaw11.DrawsPlays': WHATEVER THE INPUT: true; the input reads as it did. -/
def drawsPlaysSpec : ChangeSpec := { name := "drawsPlays", fn := fun _ => fun
  | [d1, d2] => { results := [.lit (.bool true)], args := [d1, d2] }
  | _ => none }
def drawsPlaysRow : OpenClaim := { program := "ytfmllhagdcjemab", sum := "b73eb4fc6b80369ab051a850ba4ac58c760d332b749d68d0ba2175cdcd8a4796", func := "bucketline/bucketlinelaw11.DrawsPlays", spec := "drawsPlays", recurses := true, apart := false }
def DrawsPlaysSaid : Prop := drawsPlaysRow.holds Try.pinned (OpenSpec.ofChange drawsPlaysSpec)

/-- ITS FALSE NEIGHBOUR: 'it returns false'. Refute it at one input. -/
def drawsPlaysWrong : ChangeSpec := { name := "drawsPlays", fn := fun _ => fun
  | [d1, d2] => { results := [.lit (.bool false)], args := [d1, d2] }
  | _ => none }
def DrawsPlaysWrongFalsely : Prop := drawsPlaysRow.holds Try.pinned (OpenSpec.ofChange drawsPlaysWrong)

/-- 'bucketlinelaw11.DrawsDistinct': WHATEVER THE INPUT: true; the input reads as it did. -/
def drawsDistinctSpec : ChangeSpec := { name := "drawsDistinct", fn := fun _ => fun
  | [d1, d2, d3] => { results := [.lit (.bool true)], args := [d1, d2, d3] }
  | _ => none }
def drawsDistinctRow : OpenClaim := { program := "ytfmllhagdcjemab", sum := "b73eb4fc6b80369ab051a850ba4ac58c760d332b749d68d0ba2175cdcd8a4796", func := "bucketline/bucketlinelaw11.DrawsDistinct", spec := "drawsDistinct", recurses := true, apart := false }
def DrawsDistinctSaid : Prop := drawsDistinctRow.holds Try.pinned (OpenSpec.ofChange drawsDistinctSpec)

/-- ITS FALSE NEIGHBOUR: 'it returns false'. Refute it at one input. -/
def drawsDistinctWrong : ChangeSpec := { name := "drawsDistinct", fn := fun _ => fun
  | [d1, d2, d3] => { results := [.lit (.bool false)], args := [d1, d2, d3] }
  | _ => none }
def DrawsDistinctWrongFalsely : Prop := drawsDistinctRow.holds Try.pinned (OpenSpec.ofChange drawsDistinctWrong)

/-- 'bucketlinelaw11.DrawsBelow': WHATEVER THE INPUT: true; the input reads as it did. -/
def drawsBelowSpec : ChangeSpec := { name := "drawsBelow", fn := fun _ => fun
  | [d1, d2] => { results := [.lit (.bool true)], args := [d1, d2] }
  | _ => none }
def drawsBelowRow : OpenClaim := { program := "ytfmllhagdcjemab", sum := "b73eb4fc6b80369ab051a850ba4ac58c760d332b749d68d0ba2175cdcd8a4796", func := "bucketline/bucketlinelaw11.DrawsBelow", spec := "drawsBelow", recurses := true, apart := false }
def DrawsBelowSaid : Prop := drawsBelowRow.holds Try.pinned (OpenSpec.ofChange drawsBelowSpec)

/-- ITS FALSE NEIGHBOUR: 'it returns false'. Refute it at one input. -/
def drawsBelowWrong : ChangeSpec := { name := "drawsBelow", fn := fun _ => fun
  | [d1, d2] => { results := [.lit (.bool false)], args := [d1, d2] }
  | _ => none }
def DrawsBelowWrongFalsely : Prop := drawsBelowRow.holds Try.pinned (OpenSpec.ofChange drawsBelowWrong)

/-- 'bucketlinelaw11.DrawsAlike': WHATEVER THE INPUT: true; the input reads as it did. -/
def drawsAlikeSpec : ChangeSpec := { name := "drawsAlike", fn := fun _ => fun
  | [d1, d2] => { results := [.lit (.bool true)], args := [d1, d2] }
  | _ => none }
def drawsAlikeRow : OpenClaim := { program := "ytfmllhagdcjemab", sum := "b73eb4fc6b80369ab051a850ba4ac58c760d332b749d68d0ba2175cdcd8a4796", func := "bucketline/bucketlinelaw11.DrawsAlike", spec := "drawsAlike", recurses := true, apart := false }
def DrawsAlikeSaid : Prop := drawsAlikeRow.holds Try.pinned (OpenSpec.ofChange drawsAlikeSpec)

/-- ITS FALSE NEIGHBOUR: 'it returns false'. Refute it at one input. -/
def drawsAlikeWrong : ChangeSpec := { name := "drawsAlike", fn := fun _ => fun
  | [d1, d2] => { results := [.lit (.bool false)], args := [d1, d2] }
  | _ => none }
def DrawsAlikeWrongFalsely : Prop := drawsAlikeRow.holds Try.pinned (OpenSpec.ofChange drawsAlikeWrong)

/-- 'bucketlinelaw11.DrawsNone': WHATEVER THE INPUT: true; the input reads as it did. -/
def drawsNoneSpec : ChangeSpec := { name := "drawsNone", fn := fun _ => fun
  | [d1, d2] => { results := [.lit (.bool true)], args := [d1, d2] }
  | _ => none }
def drawsNoneRow : OpenClaim := { program := "ytfmllhagdcjemab", sum := "b73eb4fc6b80369ab051a850ba4ac58c760d332b749d68d0ba2175cdcd8a4796", func := "bucketline/bucketlinelaw11.DrawsNone", spec := "drawsNone", recurses := true, apart := false }
def DrawsNoneSaid : Prop := drawsNoneRow.holds Try.pinned (OpenSpec.ofChange drawsNoneSpec)

/-- ITS FALSE NEIGHBOUR: 'it returns false'. Refute it at one input. -/
def drawsNoneWrong : ChangeSpec := { name := "drawsNone", fn := fun _ => fun
  | [d1, d2] => { results := [.lit (.bool false)], args := [d1, d2] }
  | _ => none }
def DrawsNoneWrongFalsely : Prop := drawsNoneRow.holds Try.pinned (OpenSpec.ofChange drawsNoneWrong)

/- THE SECOND FORM. 'bulk': how many values and letters a reading holds, each counted each time it is reached (what is shared counts as often as it is met; a slice's spare places count too). A statement '..UptoSaid' is the law's where the arguments, and the package variables that the reading takes, are together of bulk at most 1048576: NARROWER than '..Said'. Prove '..Said' where nothing that the law and all that it calls make is longer than what came in: it says more and counts as full. Else prove '..UptoSaid'. A law counts once. -/
mutual
def uptoBulk {H : Type} : DataW H → Nat
  | .lit (.string bytes) => bytes.length + 1
  | .lit _ => 1
  | .nil => 1
  | .ptr d => uptoBulk d + 1
  | .slice elems spare => uptoBulkAll elems + uptoBulkAll spare + 1
  | .agg parts => uptoBulkAll parts + 1
  | .iface _ d => uptoBulk d + 1
  | .map entries => uptoBulkEntries entries + 1
  | .held _ => 1
def uptoBulkAll {H : Type} : List (DataW H) → Nat
  | [] => 0
  | d :: r => uptoBulk d + uptoBulkAll r
def uptoBulkEntries {H : Type} : List (Lit × DataW H) → Nat
  | [] => 0
  | x :: r => uptoBulkEntry x + uptoBulkEntries r
def uptoBulkEntry {H : Type} : Lit × DataW H → Nat
  | (.string bytes, d) => bytes.length + uptoBulk d + 1
  | (_, d) => uptoBulk d + 1
 end
def uptoSmall : (H : Type) → List (DataW H) → Bool := fun _ ds => decide (uptoBulkAll ds ≤ 1048576)
def OpenSpec.upto (s : _root_.Go.ChangeSpec) : _root_.Go.OpenSpec := { _root_.Go.OpenSpec.ofChange s with cond := some uptoSmall }

/-- 'bucketlinelaw11.DrawsPlays', WHERE WHAT IT READS IS OF BULK AT MOST 1048576: true; the input reads as it did. -/
def drawsPlaysUptoRow : OpenClaim := { program := "ytfmllhagdcjemab", sum := "b73eb4fc6b80369ab051a850ba4ac58c760d332b749d68d0ba2175cdcd8a4796", func := "bucketline/bucketlinelaw11.DrawsPlays", spec := "drawsPlays", recurses := true, apart := false, narrowed := true }
def DrawsPlaysUptoSaid : Prop := drawsPlaysUptoRow.holds Try.pinned (OpenSpec.upto drawsPlaysSpec)

/-- 'bucketlinelaw11.DrawsDistinct', WHERE WHAT IT READS IS OF BULK AT MOST 1048576: true; the input reads as it did. -/
def drawsDistinctUptoRow : OpenClaim := { program := "ytfmllhagdcjemab", sum := "b73eb4fc6b80369ab051a850ba4ac58c760d332b749d68d0ba2175cdcd8a4796", func := "bucketline/bucketlinelaw11.DrawsDistinct", spec := "drawsDistinct", recurses := true, apart := false, narrowed := true }
def DrawsDistinctUptoSaid : Prop := drawsDistinctUptoRow.holds Try.pinned (OpenSpec.upto drawsDistinctSpec)

/-- 'bucketlinelaw11.DrawsBelow', WHERE WHAT IT READS IS OF BULK AT MOST 1048576: true; the input reads as it did. -/
def drawsBelowUptoRow : OpenClaim := { program := "ytfmllhagdcjemab", sum := "b73eb4fc6b80369ab051a850ba4ac58c760d332b749d68d0ba2175cdcd8a4796", func := "bucketline/bucketlinelaw11.DrawsBelow", spec := "drawsBelow", recurses := true, apart := false, narrowed := true }
def DrawsBelowUptoSaid : Prop := drawsBelowUptoRow.holds Try.pinned (OpenSpec.upto drawsBelowSpec)

/-- 'bucketlinelaw11.DrawsAlike', WHERE WHAT IT READS IS OF BULK AT MOST 1048576: true; the input reads as it did. -/
def drawsAlikeUptoRow : OpenClaim := { program := "ytfmllhagdcjemab", sum := "b73eb4fc6b80369ab051a850ba4ac58c760d332b749d68d0ba2175cdcd8a4796", func := "bucketline/bucketlinelaw11.DrawsAlike", spec := "drawsAlike", recurses := true, apart := false, narrowed := true }
def DrawsAlikeUptoSaid : Prop := drawsAlikeUptoRow.holds Try.pinned (OpenSpec.upto drawsAlikeSpec)

/-- 'bucketlinelaw11.DrawsNone', WHERE WHAT IT READS IS OF BULK AT MOST 1048576: true; the input reads as it did. -/
def drawsNoneUptoRow : OpenClaim := { program := "ytfmllhagdcjemab", sum := "b73eb4fc6b80369ab051a850ba4ac58c760d332b749d68d0ba2175cdcd8a4796", func := "bucketline/bucketlinelaw11.DrawsNone", spec := "drawsNone", recurses := true, apart := false, narrowed := true }
def DrawsNoneUptoSaid : Prop := drawsNoneUptoRow.holds Try.pinned (OpenSpec.upto drawsNoneSpec)

end Rows
end Go.Proofs.Ytfmllhagdcjemab
