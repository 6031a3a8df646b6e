/-
  NARROWER THAN 'FOR EVERY INPUT', by the rows' own cells (each row's printed sentence says how): EncoderNews: laid · EncoderUnits: laid · EncoderNone: laid · EncoderEmits: laid.
  DERIVED. THE GIVEN ROWS OF THIS SEAT. 4 by the template 'for every input the law returns true; each argument reads behind the call as it read before'; 0 by the template 'total and deterministic' (their statements: YtcelfpgkeeaggaaDoorTotals.lean).
  GIVEN WITH THE SEED: the statements are not yours to turn. If you find one false, say at which input.
  Laid BY PROGRAM, IN A SANDBOX (cutbox-rows.mjs): the forced cells as the released guide's own fill.sh prints them over the translation 272c5f823e26c6bc… (all of the seat's roots in one cut). By AI agents, Wed Nov 11 2026. No macro, syntax, notation, axiom, sorry.
-/
import Derived.Test.YtcelfpgkeeaggaaDoorChecked
import GoSem.Claim
import GoSem.ClaimJoined
import GoSem.ClaimMapViews
import Derived.JoinedTies
import Derived.KernelRfl
namespace Go.Proofs.YtcelfpgkeeaggaaDoor
/- THE CELL 'sum', in the pinned program and in every row, IS THE sha256 OF THE DUMP (.gsa) THAT YtcelfpgkeeaggaaDoorProg.lean LOADS. Nothing in Lean hashes anything: it is a label: what it is worth is what the hold of that sum in a sandbox is worth. -/
noncomputable def Tryd.pinned : Pinned := { name := "ytcelfpgkeeaggaadoor", sum := "272c5f823e26c6bc0b6fe4f401b0d788aafc5be99966fc9233948ca5c81f2076", checked := Tryd.checked }
namespace Rows
def none {H : Type} : Left H := { results := [], args := [] }

/- WHAT THE LISTED PACKAGE-LEVEL VARIABLES READ AS WHEN THE CALL BEGINS. Each datum BY PROGRAM (the guide's laid-datum.mjs) off the statement by which the dump's own 'gosem.cut.vars' lays the variable. In a bare row this is a premise. The card (YtcelfpgkeeaggaaDoorCards.lean) ties it to the program's text. -/
def laid_bucketline_soliton_digits {H : Type} : DataW H := .agg [.lit (.int .i64 0), .lit (.int .i64 1), .lit (.int .i64 2), .lit (.int .i64 2), .lit (.int .i64 3), .lit (.int .i64 3), .lit (.int .i64 3), .lit (.int .i64 3), .lit (.int .i64 4), .lit (.int .i64 4)]

/-- 'bucketlinelaw12.EncoderNews': WHATEVER THE INPUT: true; the input reads as it did. -/
def encoderNewsSpec : ChangeSpec := { name := "encoderNews", fn := fun _ => fun
  | [d] => { results := [.lit (.bool true)], args := [d] }
  | _ => none }
def encoderNewsRow : OpenClaim := { program := "ytcelfpgkeeaggaadoor", sum := "272c5f823e26c6bc0b6fe4f401b0d788aafc5be99966fc9233948ca5c81f2076", func := "bucketline/bucketlinelaw12.EncoderNews", spec := "encoderNews", inPlace := ["internal/abi.NoEscape", "internal/bytealg.MakeNoZero"], recurses := true, named := ["bucketline/soliton.digits"], apart := false, laid := [("bucketline/soliton.digits", laid_bucketline_soliton_digits)] }
def EncoderNewsSaid : Prop := encoderNewsRow.holds Tryd.pinned (OpenSpec.ofChange encoderNewsSpec)

/-- ITS FALSE NEIGHBOUR: 'it returns false'. Refute it at one input. -/
def encoderNewsWrong : ChangeSpec := { name := "encoderNews", fn := fun _ => fun
  | [d] => { results := [.lit (.bool false)], args := [d] }
  | _ => none }
def EncoderNewsWrongFalsely : Prop := encoderNewsRow.holds Tryd.pinned (OpenSpec.ofChange encoderNewsWrong)

/-- 'bucketlinelaw12.EncoderUnits': WHATEVER THE INPUT: true; the input reads as it did. -/
def encoderUnitsSpec : ChangeSpec := { name := "encoderUnits", fn := fun _ => fun
  | [d1, d2] => { results := [.lit (.bool true)], args := [d1, d2] }
  | _ => none }
def encoderUnitsRow : OpenClaim := { program := "ytcelfpgkeeaggaadoor", sum := "272c5f823e26c6bc0b6fe4f401b0d788aafc5be99966fc9233948ca5c81f2076", func := "bucketline/bucketlinelaw12.EncoderUnits", spec := "encoderUnits", inPlace := ["internal/abi.NoEscape", "internal/bytealg.MakeNoZero"], recurses := true, named := ["bucketline/soliton.digits"], apart := false, laid := [("bucketline/soliton.digits", laid_bucketline_soliton_digits)] }
def EncoderUnitsSaid : Prop := encoderUnitsRow.holds Tryd.pinned (OpenSpec.ofChange encoderUnitsSpec)

/-- ITS FALSE NEIGHBOUR: 'it returns false'. Refute it at one input. -/
def encoderUnitsWrong : ChangeSpec := { name := "encoderUnits", fn := fun _ => fun
  | [d1, d2] => { results := [.lit (.bool false)], args := [d1, d2] }
  | _ => none }
def EncoderUnitsWrongFalsely : Prop := encoderUnitsRow.holds Tryd.pinned (OpenSpec.ofChange encoderUnitsWrong)

/-- 'bucketlinelaw12.EncoderNone': WHATEVER THE INPUT: true; the input reads as it did. -/
def encoderNoneSpec : ChangeSpec := { name := "encoderNone", fn := fun _ => fun
  | [d] => { results := [.lit (.bool true)], args := [d] }
  | _ => none }
def encoderNoneRow : OpenClaim := { program := "ytcelfpgkeeaggaadoor", sum := "272c5f823e26c6bc0b6fe4f401b0d788aafc5be99966fc9233948ca5c81f2076", func := "bucketline/bucketlinelaw12.EncoderNone", spec := "encoderNone", inPlace := ["internal/abi.NoEscape", "internal/bytealg.MakeNoZero"], recurses := true, named := ["bucketline/soliton.digits"], apart := false, laid := [("bucketline/soliton.digits", laid_bucketline_soliton_digits)] }
def EncoderNoneSaid : Prop := encoderNoneRow.holds Tryd.pinned (OpenSpec.ofChange encoderNoneSpec)

/-- ITS FALSE NEIGHBOUR: 'it returns false'. Refute it at one input. -/
def encoderNoneWrong : ChangeSpec := { name := "encoderNone", fn := fun _ => fun
  | [d] => { results := [.lit (.bool false)], args := [d] }
  | _ => none }
def EncoderNoneWrongFalsely : Prop := encoderNoneRow.holds Tryd.pinned (OpenSpec.ofChange encoderNoneWrong)

/-- 'bucketlinelaw12.EncoderEmits': WHATEVER THE INPUT: true; the input reads as it did. -/
def encoderEmitsSpec : ChangeSpec := { name := "encoderEmits", fn := fun _ => fun
  | [d1, d2, d3] => { results := [.lit (.bool true)], args := [d1, d2, d3] }
  | _ => none }
def encoderEmitsRow : OpenClaim := { program := "ytcelfpgkeeaggaadoor", sum := "272c5f823e26c6bc0b6fe4f401b0d788aafc5be99966fc9233948ca5c81f2076", func := "bucketline/bucketlinelaw12.EncoderEmits", spec := "encoderEmits", inPlace := ["internal/abi.NoEscape", "internal/bytealg.MakeNoZero"], recurses := true, named := ["bucketline/soliton.digits"], apart := false, laid := [("bucketline/soliton.digits", laid_bucketline_soliton_digits)] }
def EncoderEmitsSaid : Prop := encoderEmitsRow.holds Tryd.pinned (OpenSpec.ofChange encoderEmitsSpec)

/-- ITS FALSE NEIGHBOUR: 'it returns false'. Refute it at one input. -/
def encoderEmitsWrong : ChangeSpec := { name := "encoderEmits", fn := fun _ => fun
  | [d1, d2, d3] => { results := [.lit (.bool false)], args := [d1, d2, d3] }
  | _ => none }
def EncoderEmitsWrongFalsely : Prop := encoderEmitsRow.holds Tryd.pinned (OpenSpec.ofChange encoderEmitsWrong)

/- THE SECOND FORM. 'bulk': how many values and letters a reading holds, each counted each time it is reached (what is shared counts as often as it is met; a slice's spare places count too). A statement '..UptoSaid' is the law's where the arguments, and the package variables that the reading takes, are together of bulk at most 1048576: NARROWER than '..Said'. Prove '..Said' where nothing that the law and all that it calls make is longer than what came in: it says more and counts as full. Else prove '..UptoSaid'. A law counts once. -/
mutual
def uptoBulk {H : Type} : DataW H → Nat
  | .lit (.string bytes) => bytes.length + 1
  | .lit _ => 1
  | .nil => 1
  | .ptr d => uptoBulk d + 1
  | .slice elems spare => uptoBulkAll elems + uptoBulkAll spare + 1
  | .agg parts => uptoBulkAll parts + 1
  | .iface _ d => uptoBulk d + 1
  | .map entries => uptoBulkEntries entries + 1
  | .held _ => 1
def uptoBulkAll {H : Type} : List (DataW H) → Nat
  | [] => 0
  | d :: r => uptoBulk d + uptoBulkAll r
def uptoBulkEntries {H : Type} : List (Lit × DataW H) → Nat
  | [] => 0
  | x :: r => uptoBulkEntry x + uptoBulkEntries r
def uptoBulkEntry {H : Type} : Lit × DataW H → Nat
  | (.string bytes, d) => bytes.length + uptoBulk d + 1
  | (_, d) => uptoBulk d + 1
 end
def uptoSmall : (H : Type) → List (DataW H) → Bool := fun _ ds => decide (uptoBulkAll ds ≤ 1048576)
def OpenSpec.upto (s : _root_.Go.ChangeSpec) : _root_.Go.OpenSpec := { _root_.Go.OpenSpec.ofChange s with cond := some uptoSmall }

/-- 'bucketlinelaw12.EncoderNews', WHERE WHAT IT READS IS OF BULK AT MOST 1048576: true; the input reads as it did. -/
def encoderNewsUptoRow : OpenClaim := { program := "ytcelfpgkeeaggaadoor", sum := "272c5f823e26c6bc0b6fe4f401b0d788aafc5be99966fc9233948ca5c81f2076", func := "bucketline/bucketlinelaw12.EncoderNews", spec := "encoderNews", inPlace := ["internal/abi.NoEscape", "internal/bytealg.MakeNoZero"], recurses := true, named := ["bucketline/soliton.digits"], apart := false, laid := [("bucketline/soliton.digits", laid_bucketline_soliton_digits)], narrowed := true }
def EncoderNewsUptoSaid : Prop := encoderNewsUptoRow.holds Tryd.pinned (OpenSpec.upto encoderNewsSpec)

/-- 'bucketlinelaw12.EncoderUnits', WHERE WHAT IT READS IS OF BULK AT MOST 1048576: true; the input reads as it did. -/
def encoderUnitsUptoRow : OpenClaim := { program := "ytcelfpgkeeaggaadoor", sum := "272c5f823e26c6bc0b6fe4f401b0d788aafc5be99966fc9233948ca5c81f2076", func := "bucketline/bucketlinelaw12.EncoderUnits", spec := "encoderUnits", inPlace := ["internal/abi.NoEscape", "internal/bytealg.MakeNoZero"], recurses := true, named := ["bucketline/soliton.digits"], apart := false, laid := [("bucketline/soliton.digits", laid_bucketline_soliton_digits)], narrowed := true }
def EncoderUnitsUptoSaid : Prop := encoderUnitsUptoRow.holds Tryd.pinned (OpenSpec.upto encoderUnitsSpec)

/-- 'bucketlinelaw12.EncoderNone', WHERE WHAT IT READS IS OF BULK AT MOST 1048576: true; the input reads as it did. -/
def encoderNoneUptoRow : OpenClaim := { program := "ytcelfpgkeeaggaadoor", sum := "272c5f823e26c6bc0b6fe4f401b0d788aafc5be99966fc9233948ca5c81f2076", func := "bucketline/bucketlinelaw12.EncoderNone", spec := "encoderNone", inPlace := ["internal/abi.NoEscape", "internal/bytealg.MakeNoZero"], recurses := true, named := ["bucketline/soliton.digits"], apart := false, laid := [("bucketline/soliton.digits", laid_bucketline_soliton_digits)], narrowed := true }
def EncoderNoneUptoSaid : Prop := encoderNoneUptoRow.holds Tryd.pinned (OpenSpec.upto encoderNoneSpec)

/-- 'bucketlinelaw12.EncoderEmits', WHERE WHAT IT READS IS OF BULK AT MOST 1048576: true; the input reads as it did. -/
def encoderEmitsUptoRow : OpenClaim := { program := "ytcelfpgkeeaggaadoor", sum := "272c5f823e26c6bc0b6fe4f401b0d788aafc5be99966fc9233948ca5c81f2076", func := "bucketline/bucketlinelaw12.EncoderEmits", spec := "encoderEmits", inPlace := ["internal/abi.NoEscape", "internal/bytealg.MakeNoZero"], recurses := true, named := ["bucketline/soliton.digits"], apart := false, laid := [("bucketline/soliton.digits", laid_bucketline_soliton_digits)], narrowed := true }
def EncoderEmitsUptoSaid : Prop := encoderEmitsUptoRow.holds Tryd.pinned (OpenSpec.upto encoderEmitsSpec)

end Rows
end Go.Proofs.YtcelfpgkeeaggaaDoor
