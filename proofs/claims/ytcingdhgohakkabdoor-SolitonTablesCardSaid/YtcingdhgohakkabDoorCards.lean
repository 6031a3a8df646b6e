/-
  DERIVED. GIVEN WITH THE SEED: THE CARDS: each row of YtcingdhgohakkabDoorRows.lean that lists a variable, with what it lists TIED to the program's text (the seventh form; the later family's looks); each row that meets fmt, with fmt's text TOLD by the authors' own Lean function (tested against real Go, not proved from fmt's source: count such statements apart). THE CARD IS WHAT COUNTS. Prove the row's statement (the work); the ties are given (YtcingdhgohakkabDoorTie.lean); close each card by the builder's one call (the guide's Derived/Test/ToyasCard.lean, 'card_holds'). Laid BY PROGRAM, IN A SANDBOX (cutbox-door.mjs). By AI agents, Wed Nov 11 2026. No macro, syntax, notation, axiom, sorry.
-/
import Derived.Test.YtcingdhgohakkabDoorRows
import GoSem.ClaimSeven
namespace Go.Proofs.YtcingdhgohakkabDoor
namespace Rows

/-- THE TIED CARD OF 'bucketlinelaw10.SolitonTables'. -/
def solitonTablesCard : Claim7 := { stood := { row := solitonTablesRow, standIns := [], harness := (true, "ec549acc1b125c6eb1cf6543ca23ecf716060f7f0abc308984610dcbaee8c663"), looks := false }, kinds := [], alts := [], laidByText := true, laidKinds := [.data], laidTests := true, laidLooks := .later }
def SolitonTablesCardSaid : Prop := Claim7.holds Tryd.pinned (.plain (OpenSpec.ofChange solitonTablesSpec)) solitonTablesCard

/-- THE TIED CARD OF 'bucketlinelaw10.SolitonPicks'. -/
def solitonPicksCard : Claim7 := { stood := { row := solitonPicksRow, standIns := [], harness := (true, "ec549acc1b125c6eb1cf6543ca23ecf716060f7f0abc308984610dcbaee8c663"), looks := false }, kinds := [], alts := [], laidByText := true, laidKinds := [.data], laidTests := true, laidLooks := .later }
def SolitonPicksCardSaid : Prop := Claim7.holds Tryd.pinned (.plain (OpenSpec.ofChange solitonPicksSpec)) solitonPicksCard

/-- THE TIED CARD OF 'bucketlinelaw10.SolitonAll'. -/
def solitonAllCard : Claim7 := { stood := { row := solitonAllRow, standIns := [], harness := (true, "ec549acc1b125c6eb1cf6543ca23ecf716060f7f0abc308984610dcbaee8c663"), looks := false }, kinds := [], alts := [], laidByText := true, laidKinds := [.data], laidTests := true, laidLooks := .later }
def SolitonAllCardSaid : Prop := Claim7.holds Tryd.pinned (.plain (OpenSpec.ofChange solitonAllSpec)) solitonAllCard

/-- THE TIED CARD OF 'bucketlinelaw10.SolitonIdeal'. -/
def solitonIdealCard : Claim7 := { stood := { row := solitonIdealRow, standIns := [], harness := (true, "ec549acc1b125c6eb1cf6543ca23ecf716060f7f0abc308984610dcbaee8c663"), looks := false }, kinds := [], alts := [], laidByText := true, laidKinds := [.data], laidTests := true, laidLooks := .later }
def SolitonIdealCardSaid : Prop := Claim7.holds Tryd.pinned (.plain (OpenSpec.ofChange solitonIdealSpec)) solitonIdealCard

/-- THE TIED CARD OF 'bucketlinelaw10.SolitonTurns'. -/
def solitonTurnsCard : Claim7 := { stood := { row := solitonTurnsRow, standIns := [], harness := (true, "ec549acc1b125c6eb1cf6543ca23ecf716060f7f0abc308984610dcbaee8c663"), looks := false }, kinds := [], alts := [], laidByText := true, laidKinds := [.data], laidTests := true, laidLooks := .later }
def SolitonTurnsCardSaid : Prop := Claim7.holds Tryd.pinned (.plain (OpenSpec.ofChange solitonTurnsSpec)) solitonTurnsCard

/-- THE SECOND FORM's CARD OF 'bucketlinelaw10.SolitonTables'. -/
def solitonTablesUptoCard : Claim7 := { stood := { row := solitonTablesUptoRow, standIns := [], harness := (true, "ec549acc1b125c6eb1cf6543ca23ecf716060f7f0abc308984610dcbaee8c663"), looks := false }, kinds := [], alts := [], laidByText := true, laidKinds := [.data], laidTests := true, laidLooks := .later }
def SolitonTablesUptoCardSaid : Prop := Claim7.holds Tryd.pinned (.plain (OpenSpec.upto solitonTablesSpec)) solitonTablesUptoCard

/-- THE SECOND FORM's CARD OF 'bucketlinelaw10.SolitonPicks'. -/
def solitonPicksUptoCard : Claim7 := { stood := { row := solitonPicksUptoRow, standIns := [], harness := (true, "ec549acc1b125c6eb1cf6543ca23ecf716060f7f0abc308984610dcbaee8c663"), looks := false }, kinds := [], alts := [], laidByText := true, laidKinds := [.data], laidTests := true, laidLooks := .later }
def SolitonPicksUptoCardSaid : Prop := Claim7.holds Tryd.pinned (.plain (OpenSpec.upto solitonPicksSpec)) solitonPicksUptoCard

/-- THE SECOND FORM's CARD OF 'bucketlinelaw10.SolitonAll'. -/
def solitonAllUptoCard : Claim7 := { stood := { row := solitonAllUptoRow, standIns := [], harness := (true, "ec549acc1b125c6eb1cf6543ca23ecf716060f7f0abc308984610dcbaee8c663"), looks := false }, kinds := [], alts := [], laidByText := true, laidKinds := [.data], laidTests := true, laidLooks := .later }
def SolitonAllUptoCardSaid : Prop := Claim7.holds Tryd.pinned (.plain (OpenSpec.upto solitonAllSpec)) solitonAllUptoCard

/-- THE SECOND FORM's CARD OF 'bucketlinelaw10.SolitonIdeal'. -/
def solitonIdealUptoCard : Claim7 := { stood := { row := solitonIdealUptoRow, standIns := [], harness := (true, "ec549acc1b125c6eb1cf6543ca23ecf716060f7f0abc308984610dcbaee8c663"), looks := false }, kinds := [], alts := [], laidByText := true, laidKinds := [.data], laidTests := true, laidLooks := .later }
def SolitonIdealUptoCardSaid : Prop := Claim7.holds Tryd.pinned (.plain (OpenSpec.upto solitonIdealSpec)) solitonIdealUptoCard

/-- THE SECOND FORM's CARD OF 'bucketlinelaw10.SolitonTurns'. -/
def solitonTurnsUptoCard : Claim7 := { stood := { row := solitonTurnsUptoRow, standIns := [], harness := (true, "ec549acc1b125c6eb1cf6543ca23ecf716060f7f0abc308984610dcbaee8c663"), looks := false }, kinds := [], alts := [], laidByText := true, laidKinds := [.data], laidTests := true, laidLooks := .later }
def SolitonTurnsUptoCardSaid : Prop := Claim7.holds Tryd.pinned (.plain (OpenSpec.upto solitonTurnsSpec)) solitonTurnsUptoCard
end Rows
end Go.Proofs.YtcingdhgohakkabDoor
