/-
  NARROWER THAN 'FOR EVERY INPUT', by the rows' own cells (each row's printed sentence says how): SolitonTables: laid · SolitonPicks: laid · SolitonAll: laid · SolitonIdeal: laid · SolitonTurns: laid.
  DERIVED. THE GIVEN ROWS OF THIS SEAT. 5 by the template 'for every input the law returns true; each argument reads behind the call as it read before'; 0 by the template 'total and deterministic' (their statements: YtcingdhgohakkabDoorTotals.lean).
  GIVEN WITH THE SEED: the statements are not yours to turn. If you find one false, say at which input.
  Laid BY PROGRAM, IN A SANDBOX (cutbox-rows.mjs): the forced cells as the released guide's own fill.sh prints them over the translation 2664cfb5d48eaaa1… (all of the seat's roots in one cut). By AI agents, Wed Nov 11 2026. No macro, syntax, notation, axiom, sorry.
-/
import Derived.Test.YtcingdhgohakkabDoorChecked
import GoSem.Claim
import GoSem.ClaimJoined
import GoSem.ClaimMapViews
import Derived.JoinedTies
import Derived.KernelRfl
namespace Go.Proofs.YtcingdhgohakkabDoor
/- THE CELL 'sum', in the pinned program and in every row, IS THE sha256 OF THE DUMP (.gsa) THAT YtcingdhgohakkabDoorProg.lean LOADS. Nothing in Lean hashes anything: it is a label: what it is worth is what the hold of that sum in a sandbox is worth. -/
noncomputable def Tryd.pinned : Pinned := { name := "ytcingdhgohakkabdoor", sum := "2664cfb5d48eaaa1410433598baa8ad810b8399284aadba992304cd439b18e99", checked := Tryd.checked }
namespace Rows
def none {H : Type} : Left H := { results := [], args := [] }

/- WHAT THE LISTED PACKAGE-LEVEL VARIABLES READ AS WHEN THE CALL BEGINS. Each datum BY PROGRAM (the guide's laid-datum.mjs) off the statement by which the dump's own 'gosem.cut.vars' lays the variable. In a bare row this is a premise. The card (YtcingdhgohakkabDoorCards.lean) ties it to the program's text. -/
def laid_bucketline_soliton_digits {H : Type} : DataW H := .agg [.lit (.int .i64 0), .lit (.int .i64 1), .lit (.int .i64 2), .lit (.int .i64 2), .lit (.int .i64 3), .lit (.int .i64 3), .lit (.int .i64 3), .lit (.int .i64 3), .lit (.int .i64 4), .lit (.int .i64 4)]

/-- 'bucketlinelaw10.SolitonTables': WHATEVER THE INPUT: true; the input reads as it did. -/
def solitonTablesSpec : ChangeSpec := { name := "solitonTables", fn := fun _ => fun
  | [d1, d2] => { results := [.lit (.bool true)], args := [d1, d2] }
  | _ => none }
def solitonTablesRow : OpenClaim := { program := "ytcingdhgohakkabdoor", sum := "2664cfb5d48eaaa1410433598baa8ad810b8399284aadba992304cd439b18e99", func := "bucketline/bucketlinelaw10.SolitonTables", spec := "solitonTables", named := ["bucketline/soliton.digits"], apart := false, laid := [("bucketline/soliton.digits", laid_bucketline_soliton_digits)] }
def SolitonTablesSaid : Prop := solitonTablesRow.holds Tryd.pinned (OpenSpec.ofChange solitonTablesSpec)

/-- ITS FALSE NEIGHBOUR: 'it returns false'. Refute it at one input. -/
def solitonTablesWrong : ChangeSpec := { name := "solitonTables", fn := fun _ => fun
  | [d1, d2] => { results := [.lit (.bool false)], args := [d1, d2] }
  | _ => none }
def SolitonTablesWrongFalsely : Prop := solitonTablesRow.holds Tryd.pinned (OpenSpec.ofChange solitonTablesWrong)

/-- 'bucketlinelaw10.SolitonPicks': WHATEVER THE INPUT: true; the input reads as it did. -/
def solitonPicksSpec : ChangeSpec := { name := "solitonPicks", fn := fun _ => fun
  | [d1, d2] => { results := [.lit (.bool true)], args := [d1, d2] }
  | _ => none }
def solitonPicksRow : OpenClaim := { program := "ytcingdhgohakkabdoor", sum := "2664cfb5d48eaaa1410433598baa8ad810b8399284aadba992304cd439b18e99", func := "bucketline/bucketlinelaw10.SolitonPicks", spec := "solitonPicks", named := ["bucketline/soliton.digits"], apart := false, laid := [("bucketline/soliton.digits", laid_bucketline_soliton_digits)] }
def SolitonPicksSaid : Prop := solitonPicksRow.holds Tryd.pinned (OpenSpec.ofChange solitonPicksSpec)

/-- ITS FALSE NEIGHBOUR: 'it returns false'. Refute it at one input. -/
def solitonPicksWrong : ChangeSpec := { name := "solitonPicks", fn := fun _ => fun
  | [d1, d2] => { results := [.lit (.bool false)], args := [d1, d2] }
  | _ => none }
def SolitonPicksWrongFalsely : Prop := solitonPicksRow.holds Tryd.pinned (OpenSpec.ofChange solitonPicksWrong)

/-- 'bucketlinelaw10.SolitonAll': WHATEVER THE INPUT: true; the input reads as it did. -/
def solitonAllSpec : ChangeSpec := { name := "solitonAll", fn := fun _ => fun
  | [d1, d2, d3] => { results := [.lit (.bool true)], args := [d1, d2, d3] }
  | _ => none }
def solitonAllRow : OpenClaim := { program := "ytcingdhgohakkabdoor", sum := "2664cfb5d48eaaa1410433598baa8ad810b8399284aadba992304cd439b18e99", func := "bucketline/bucketlinelaw10.SolitonAll", spec := "solitonAll", named := ["bucketline/soliton.digits"], apart := false, laid := [("bucketline/soliton.digits", laid_bucketline_soliton_digits)] }
def SolitonAllSaid : Prop := solitonAllRow.holds Tryd.pinned (OpenSpec.ofChange solitonAllSpec)

/-- ITS FALSE NEIGHBOUR: 'it returns false'. Refute it at one input. -/
def solitonAllWrong : ChangeSpec := { name := "solitonAll", fn := fun _ => fun
  | [d1, d2, d3] => { results := [.lit (.bool false)], args := [d1, d2, d3] }
  | _ => none }
def SolitonAllWrongFalsely : Prop := solitonAllRow.holds Tryd.pinned (OpenSpec.ofChange solitonAllWrong)

/-- 'bucketlinelaw10.SolitonIdeal': WHATEVER THE INPUT: true; the input reads as it did. -/
def solitonIdealSpec : ChangeSpec := { name := "solitonIdeal", fn := fun _ => fun
  | [d] => { results := [.lit (.bool true)], args := [d] }
  | _ => none }
def solitonIdealRow : OpenClaim := { program := "ytcingdhgohakkabdoor", sum := "2664cfb5d48eaaa1410433598baa8ad810b8399284aadba992304cd439b18e99", func := "bucketline/bucketlinelaw10.SolitonIdeal", spec := "solitonIdeal", named := ["bucketline/soliton.digits"], apart := false, laid := [("bucketline/soliton.digits", laid_bucketline_soliton_digits)] }
def SolitonIdealSaid : Prop := solitonIdealRow.holds Tryd.pinned (OpenSpec.ofChange solitonIdealSpec)

/-- ITS FALSE NEIGHBOUR: 'it returns false'. Refute it at one input. -/
def solitonIdealWrong : ChangeSpec := { name := "solitonIdeal", fn := fun _ => fun
  | [d] => { results := [.lit (.bool false)], args := [d] }
  | _ => none }
def SolitonIdealWrongFalsely : Prop := solitonIdealRow.holds Tryd.pinned (OpenSpec.ofChange solitonIdealWrong)

/-- 'bucketlinelaw10.SolitonTurns': WHATEVER THE INPUT: true; the input reads as it did. -/
def solitonTurnsSpec : ChangeSpec := { name := "solitonTurns", fn := fun _ => fun
  | [d1, d2] => { results := [.lit (.bool true)], args := [d1, d2] }
  | _ => none }
def solitonTurnsRow : OpenClaim := { program := "ytcingdhgohakkabdoor", sum := "2664cfb5d48eaaa1410433598baa8ad810b8399284aadba992304cd439b18e99", func := "bucketline/bucketlinelaw10.SolitonTurns", spec := "solitonTurns", named := ["bucketline/soliton.digits"], apart := false, laid := [("bucketline/soliton.digits", laid_bucketline_soliton_digits)] }
def SolitonTurnsSaid : Prop := solitonTurnsRow.holds Tryd.pinned (OpenSpec.ofChange solitonTurnsSpec)

/-- ITS FALSE NEIGHBOUR: 'it returns false'. Refute it at one input. -/
def solitonTurnsWrong : ChangeSpec := { name := "solitonTurns", fn := fun _ => fun
  | [d1, d2] => { results := [.lit (.bool false)], args := [d1, d2] }
  | _ => none }
def SolitonTurnsWrongFalsely : Prop := solitonTurnsRow.holds Tryd.pinned (OpenSpec.ofChange solitonTurnsWrong)

/- THE SECOND FORM. 'bulk': how many values and letters a reading holds, each counted each time it is reached (what is shared counts as often as it is met; a slice's spare places count too). A statement '..UptoSaid' is the law's where the arguments, and the package variables that the reading takes, are together of bulk at most 1048576: NARROWER than '..Said'. Prove '..Said' where nothing that the law and all that it calls make is longer than what came in: it says more and counts as full. Else prove '..UptoSaid'. A law counts once. -/
mutual
def uptoBulk {H : Type} : DataW H → Nat
  | .lit (.string bytes) => bytes.length + 1
  | .lit _ => 1
  | .nil => 1
  | .ptr d => uptoBulk d + 1
  | .slice elems spare => uptoBulkAll elems + uptoBulkAll spare + 1
  | .agg parts => uptoBulkAll parts + 1
  | .iface _ d => uptoBulk d + 1
  | .map entries => uptoBulkEntries entries + 1
  | .held _ => 1
def uptoBulkAll {H : Type} : List (DataW H) → Nat
  | [] => 0
  | d :: r => uptoBulk d + uptoBulkAll r
def uptoBulkEntries {H : Type} : List (Lit × DataW H) → Nat
  | [] => 0
  | x :: r => uptoBulkEntry x + uptoBulkEntries r
def uptoBulkEntry {H : Type} : Lit × DataW H → Nat
  | (.string bytes, d) => bytes.length + uptoBulk d + 1
  | (_, d) => uptoBulk d + 1
 end
def uptoSmall : (H : Type) → List (DataW H) → Bool := fun _ ds => decide (uptoBulkAll ds ≤ 1048576)
def OpenSpec.upto (s : _root_.Go.ChangeSpec) : _root_.Go.OpenSpec := { _root_.Go.OpenSpec.ofChange s with cond := some uptoSmall }

/-- 'bucketlinelaw10.SolitonTables', WHERE WHAT IT READS IS OF BULK AT MOST 1048576: true; the input reads as it did. -/
def solitonTablesUptoRow : OpenClaim := { program := "ytcingdhgohakkabdoor", sum := "2664cfb5d48eaaa1410433598baa8ad810b8399284aadba992304cd439b18e99", func := "bucketline/bucketlinelaw10.SolitonTables", spec := "solitonTables", named := ["bucketline/soliton.digits"], apart := false, laid := [("bucketline/soliton.digits", laid_bucketline_soliton_digits)], narrowed := true }
def SolitonTablesUptoSaid : Prop := solitonTablesUptoRow.holds Tryd.pinned (OpenSpec.upto solitonTablesSpec)

/-- 'bucketlinelaw10.SolitonPicks', WHERE WHAT IT READS IS OF BULK AT MOST 1048576: true; the input reads as it did. -/
def solitonPicksUptoRow : OpenClaim := { program := "ytcingdhgohakkabdoor", sum := "2664cfb5d48eaaa1410433598baa8ad810b8399284aadba992304cd439b18e99", func := "bucketline/bucketlinelaw10.SolitonPicks", spec := "solitonPicks", named := ["bucketline/soliton.digits"], apart := false, laid := [("bucketline/soliton.digits", laid_bucketline_soliton_digits)], narrowed := true }
def SolitonPicksUptoSaid : Prop := solitonPicksUptoRow.holds Tryd.pinned (OpenSpec.upto solitonPicksSpec)

/-- 'bucketlinelaw10.SolitonAll', WHERE WHAT IT READS IS OF BULK AT MOST 1048576: true; the input reads as it did. -/
def solitonAllUptoRow : OpenClaim := { program := "ytcingdhgohakkabdoor", sum := "2664cfb5d48eaaa1410433598baa8ad810b8399284aadba992304cd439b18e99", func := "bucketline/bucketlinelaw10.SolitonAll", spec := "solitonAll", named := ["bucketline/soliton.digits"], apart := false, laid := [("bucketline/soliton.digits", laid_bucketline_soliton_digits)], narrowed := true }
def SolitonAllUptoSaid : Prop := solitonAllUptoRow.holds Tryd.pinned (OpenSpec.upto solitonAllSpec)

/-- 'bucketlinelaw10.SolitonIdeal', WHERE WHAT IT READS IS OF BULK AT MOST 1048576: true; the input reads as it did. -/
def solitonIdealUptoRow : OpenClaim := { program := "ytcingdhgohakkabdoor", sum := "2664cfb5d48eaaa1410433598baa8ad810b8399284aadba992304cd439b18e99", func := "bucketline/bucketlinelaw10.SolitonIdeal", spec := "solitonIdeal", named := ["bucketline/soliton.digits"], apart := false, laid := [("bucketline/soliton.digits", laid_bucketline_soliton_digits)], narrowed := true }
def SolitonIdealUptoSaid : Prop := solitonIdealUptoRow.holds Tryd.pinned (OpenSpec.upto solitonIdealSpec)

/-- 'bucketlinelaw10.SolitonTurns', WHERE WHAT IT READS IS OF BULK AT MOST 1048576: true; the input reads as it did. -/
def solitonTurnsUptoRow : OpenClaim := { program := "ytcingdhgohakkabdoor", sum := "2664cfb5d48eaaa1410433598baa8ad810b8399284aadba992304cd439b18e99", func := "bucketline/bucketlinelaw10.SolitonTurns", spec := "solitonTurns", named := ["bucketline/soliton.digits"], apart := false, laid := [("bucketline/soliton.digits", laid_bucketline_soliton_digits)], narrowed := true }
def SolitonTurnsUptoSaid : Prop := solitonTurnsUptoRow.holds Tryd.pinned (OpenSpec.upto solitonTurnsSpec)

end Rows
end Go.Proofs.YtcingdhgohakkabDoor
