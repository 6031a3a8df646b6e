/-
  No cell of these rows narrows 'for every input' (looked for: loops, veiled, ifaces, maps, wideKeys, modest, calm, conditions, laid).
  DERIVED. THE GIVEN ROWS OF THIS SEAT. 5 by the template 'for every input the law returns true; each argument reads behind the call as it read before'; 0 by the template 'total and deterministic' (their statements: YtcingdhgohakkaaTotals.lean).
  GIVEN WITH THE SEED: the statements are not yours to turn. If you find one false, say at which input.
  Laid BY PROGRAM, IN A SANDBOX (cutbox-rows.mjs): the forced cells as the released guide's own fill.sh prints them over the translation 910ec4f7554da3d9… (all of the seat's roots in one cut). By AI agents, Wed Nov 11 2026. No macro, syntax, notation, axiom, sorry.
-/
import Derived.Test.YtcingdhgohakkaaChecked
import GoSem.Claim
import GoSem.ClaimJoined
import GoSem.ClaimMapViews
import Derived.JoinedTies
import Derived.KernelRfl
namespace Go.Proofs.Ytcingdhgohakkaa
/- THE CELL 'sum', in the pinned program and in every row, IS THE sha256 OF THE DUMP (.gsa) THAT YtcingdhgohakkaaProg.lean LOADS. Nothing in Lean hashes anything: it is a label: what it is worth is what the hold of that sum in a sandbox is worth. -/
noncomputable def Try.pinned : Pinned := { name := "ytcingdhgohakkaa", sum := "910ec4f7554da3d930cda0f9ff1bd31eb0e037a67a00696c8f6ec9b14cae06cd", checked := Try.checked }
namespace Rows
def none {H : Type} : Left H := { results := [], args := [] }

/-- 'bucketlinelaw02.XorTexts': WHATEVER THE INPUT: true; the input reads as it did. -/
def xorTextsSpec : ChangeSpec := { name := "xorTexts", fn := fun _ => fun
  | [d1, d2, d3] => { results := [.lit (.bool true)], args := [d1, d2, d3] }
  | _ => none }
def xorTextsRow : OpenClaim := { program := "ytcingdhgohakkaa", sum := "910ec4f7554da3d930cda0f9ff1bd31eb0e037a67a00696c8f6ec9b14cae06cd", func := "bucketline/bucketlinelaw02.XorTexts", spec := "xorTexts", apart := false }
def XorTextsSaid : Prop := xorTextsRow.holds Try.pinned (OpenSpec.ofChange xorTextsSpec)

/-- ITS FALSE NEIGHBOUR: 'it returns false'. Refute it at one input. -/
def xorTextsWrong : ChangeSpec := { name := "xorTexts", fn := fun _ => fun
  | [d1, d2, d3] => { results := [.lit (.bool false)], args := [d1, d2, d3] }
  | _ => none }
def XorTextsWrongFalsely : Prop := xorTextsRow.holds Try.pinned (OpenSpec.ofChange xorTextsWrong)

/-- 'bucketlinelaw02.XorOf': WHATEVER THE INPUT: true; the input reads as it did. -/
def xorOfSpec : ChangeSpec := { name := "xorOf", fn := fun _ => fun
  | [d1, d2] => { results := [.lit (.bool true)], args := [d1, d2] }
  | _ => none }
def xorOfRow : OpenClaim := { program := "ytcingdhgohakkaa", sum := "910ec4f7554da3d930cda0f9ff1bd31eb0e037a67a00696c8f6ec9b14cae06cd", func := "bucketline/bucketlinelaw02.XorOf", spec := "xorOf", apart := false }
def XorOfSaid : Prop := xorOfRow.holds Try.pinned (OpenSpec.ofChange xorOfSpec)

/-- ITS FALSE NEIGHBOUR: 'it returns false'. Refute it at one input. -/
def xorOfWrong : ChangeSpec := { name := "xorOf", fn := fun _ => fun
  | [d1, d2] => { results := [.lit (.bool false)], args := [d1, d2] }
  | _ => none }
def XorOfWrongFalsely : Prop := xorOfRow.holds Try.pinned (OpenSpec.ofChange xorOfWrong)

/-- 'bucketlinelaw02.XorRows': WHATEVER THE INPUT: true; the input reads as it did. -/
def xorRowsSpec : ChangeSpec := { name := "xorRows", fn := fun _ => fun
  | [d1, d2] => { results := [.lit (.bool true)], args := [d1, d2] }
  | _ => none }
def xorRowsRow : OpenClaim := { program := "ytcingdhgohakkaa", sum := "910ec4f7554da3d930cda0f9ff1bd31eb0e037a67a00696c8f6ec9b14cae06cd", func := "bucketline/bucketlinelaw02.XorRows", spec := "xorRows", apart := false }
def XorRowsSaid : Prop := xorRowsRow.holds Try.pinned (OpenSpec.ofChange xorRowsSpec)

/-- ITS FALSE NEIGHBOUR: 'it returns false'. Refute it at one input. -/
def xorRowsWrong : ChangeSpec := { name := "xorRows", fn := fun _ => fun
  | [d1, d2] => { results := [.lit (.bool false)], args := [d1, d2] }
  | _ => none }
def XorRowsWrongFalsely : Prop := xorRowsRow.holds Try.pinned (OpenSpec.ofChange xorRowsWrong)

/-- 'bucketlinelaw02.XorTwice': WHATEVER THE INPUT: true; the input reads as it did. -/
def xorTwiceSpec : ChangeSpec := { name := "xorTwice", fn := fun _ => fun
  | [d1, d2] => { results := [.lit (.bool true)], args := [d1, d2] }
  | _ => none }
def xorTwiceRow : OpenClaim := { program := "ytcingdhgohakkaa", sum := "910ec4f7554da3d930cda0f9ff1bd31eb0e037a67a00696c8f6ec9b14cae06cd", func := "bucketline/bucketlinelaw02.XorTwice", spec := "xorTwice", apart := false }
def XorTwiceSaid : Prop := xorTwiceRow.holds Try.pinned (OpenSpec.ofChange xorTwiceSpec)

/-- ITS FALSE NEIGHBOUR: 'it returns false'. Refute it at one input. -/
def xorTwiceWrong : ChangeSpec := { name := "xorTwice", fn := fun _ => fun
  | [d1, d2] => { results := [.lit (.bool false)], args := [d1, d2] }
  | _ => none }
def XorTwiceWrongFalsely : Prop := xorTwiceRow.holds Try.pinned (OpenSpec.ofChange xorTwiceWrong)

/-- 'bucketlinelaw02.XorTrue': WHATEVER THE INPUT: true; the input reads as it did. -/
def xorTrueSpec : ChangeSpec := { name := "xorTrue", fn := fun _ => fun
  | [d1, d2] => { results := [.lit (.bool true)], args := [d1, d2] }
  | _ => none }
def xorTrueRow : OpenClaim := { program := "ytcingdhgohakkaa", sum := "910ec4f7554da3d930cda0f9ff1bd31eb0e037a67a00696c8f6ec9b14cae06cd", func := "bucketline/bucketlinelaw02.XorTrue", spec := "xorTrue", apart := false }
def XorTrueSaid : Prop := xorTrueRow.holds Try.pinned (OpenSpec.ofChange xorTrueSpec)

/-- ITS FALSE NEIGHBOUR: 'it returns false'. Refute it at one input. -/
def xorTrueWrong : ChangeSpec := { name := "xorTrue", fn := fun _ => fun
  | [d1, d2] => { results := [.lit (.bool false)], args := [d1, d2] }
  | _ => none }
def XorTrueWrongFalsely : Prop := xorTrueRow.holds Try.pinned (OpenSpec.ofChange xorTrueWrong)

/- THE SECOND FORM. 'bulk': how many values and letters a reading holds, each counted each time it is reached (what is shared counts as often as it is met; a slice's spare places count too). A statement '..UptoSaid' is the law's where the arguments, and the package variables that the reading takes, are together of bulk at most 1048576: NARROWER than '..Said'. Prove '..Said' where nothing that the law and all that it calls make is longer than what came in: it says more and counts as full. Else prove '..UptoSaid'. A law counts once. -/
mutual
def uptoBulk {H : Type} : DataW H → Nat
  | .lit (.string bytes) => bytes.length + 1
  | .lit _ => 1
  | .nil => 1
  | .ptr d => uptoBulk d + 1
  | .slice elems spare => uptoBulkAll elems + uptoBulkAll spare + 1
  | .agg parts => uptoBulkAll parts + 1
  | .iface _ d => uptoBulk d + 1
  | .map entries => uptoBulkEntries entries + 1
  | .held _ => 1
def uptoBulkAll {H : Type} : List (DataW H) → Nat
  | [] => 0
  | d :: r => uptoBulk d + uptoBulkAll r
def uptoBulkEntries {H : Type} : List (Lit × DataW H) → Nat
  | [] => 0
  | x :: r => uptoBulkEntry x + uptoBulkEntries r
def uptoBulkEntry {H : Type} : Lit × DataW H → Nat
  | (.string bytes, d) => bytes.length + uptoBulk d + 1
  | (_, d) => uptoBulk d + 1
 end
def uptoSmall : (H : Type) → List (DataW H) → Bool := fun _ ds => decide (uptoBulkAll ds ≤ 1048576)
def OpenSpec.upto (s : _root_.Go.ChangeSpec) : _root_.Go.OpenSpec := { _root_.Go.OpenSpec.ofChange s with cond := some uptoSmall }

/-- 'bucketlinelaw02.XorTexts', WHERE WHAT IT READS IS OF BULK AT MOST 1048576: true; the input reads as it did. -/
def xorTextsUptoRow : OpenClaim := { program := "ytcingdhgohakkaa", sum := "910ec4f7554da3d930cda0f9ff1bd31eb0e037a67a00696c8f6ec9b14cae06cd", func := "bucketline/bucketlinelaw02.XorTexts", spec := "xorTexts", apart := false, narrowed := true }
def XorTextsUptoSaid : Prop := xorTextsUptoRow.holds Try.pinned (OpenSpec.upto xorTextsSpec)

/-- 'bucketlinelaw02.XorOf', WHERE WHAT IT READS IS OF BULK AT MOST 1048576: true; the input reads as it did. -/
def xorOfUptoRow : OpenClaim := { program := "ytcingdhgohakkaa", sum := "910ec4f7554da3d930cda0f9ff1bd31eb0e037a67a00696c8f6ec9b14cae06cd", func := "bucketline/bucketlinelaw02.XorOf", spec := "xorOf", apart := false, narrowed := true }
def XorOfUptoSaid : Prop := xorOfUptoRow.holds Try.pinned (OpenSpec.upto xorOfSpec)

/-- 'bucketlinelaw02.XorRows', WHERE WHAT IT READS IS OF BULK AT MOST 1048576: true; the input reads as it did. -/
def xorRowsUptoRow : OpenClaim := { program := "ytcingdhgohakkaa", sum := "910ec4f7554da3d930cda0f9ff1bd31eb0e037a67a00696c8f6ec9b14cae06cd", func := "bucketline/bucketlinelaw02.XorRows", spec := "xorRows", apart := false, narrowed := true }
def XorRowsUptoSaid : Prop := xorRowsUptoRow.holds Try.pinned (OpenSpec.upto xorRowsSpec)

/-- 'bucketlinelaw02.XorTwice', WHERE WHAT IT READS IS OF BULK AT MOST 1048576: true; the input reads as it did. -/
def xorTwiceUptoRow : OpenClaim := { program := "ytcingdhgohakkaa", sum := "910ec4f7554da3d930cda0f9ff1bd31eb0e037a67a00696c8f6ec9b14cae06cd", func := "bucketline/bucketlinelaw02.XorTwice", spec := "xorTwice", apart := false, narrowed := true }
def XorTwiceUptoSaid : Prop := xorTwiceUptoRow.holds Try.pinned (OpenSpec.upto xorTwiceSpec)

/-- 'bucketlinelaw02.XorTrue', WHERE WHAT IT READS IS OF BULK AT MOST 1048576: true; the input reads as it did. -/
def xorTrueUptoRow : OpenClaim := { program := "ytcingdhgohakkaa", sum := "910ec4f7554da3d930cda0f9ff1bd31eb0e037a67a00696c8f6ec9b14cae06cd", func := "bucketline/bucketlinelaw02.XorTrue", spec := "xorTrue", apart := false, narrowed := true }
def XorTrueUptoSaid : Prop := xorTrueUptoRow.holds Try.pinned (OpenSpec.upto xorTrueSpec)

end Rows
end Go.Proofs.Ytcingdhgohakkaa
