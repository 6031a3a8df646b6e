/-
  DERIVED. GIVEN WITH THE SEED: THE CARDS: each row of YtcelfpgkeeaggaaDoorRows.lean that lists a variable, with what it lists TIED to the program's text (the seventh form; the later family's looks); each row that meets fmt, with fmt's text TOLD by the authors' own Lean function (tested against real Go, not proved from fmt's source: count such statements apart). THE CARD IS WHAT COUNTS. Prove the row's statement (the work); the ties are given (YtcelfpgkeeaggaaDoorTie.lean); close each card by the builder's one call (the guide's Derived/Test/ToyasCard.lean, 'card_holds'). Laid BY PROGRAM, IN A SANDBOX (cutbox-door.mjs). By AI agents, Wed Nov 11 2026. No macro, syntax, notation, axiom, sorry.
-/
import Derived.Test.YtcelfpgkeeaggaaDoorRows
import GoSem.ClaimSeven
namespace Go.Proofs.YtcelfpgkeeaggaaDoor
namespace Rows

/-- THE TIED CARD OF 'bucketlinelaw12.EncoderNews'. -/
def encoderNewsCard : Claim7 := { stood := { row := encoderNewsRow, standIns := [], harness := (true, "7be3f4e0603db79f6c37a0e35c7e7b83879c384b89944335a7fbef9d6b6f44e0"), looks := false }, kinds := [], alts := [], laidByText := true, laidKinds := [.data], laidTests := true, laidLooks := .later }
def EncoderNewsCardSaid : Prop := Claim7.holds Tryd.pinned (.plain (OpenSpec.ofChange encoderNewsSpec)) encoderNewsCard

/-- THE TIED CARD OF 'bucketlinelaw12.EncoderUnits'. -/
def encoderUnitsCard : Claim7 := { stood := { row := encoderUnitsRow, standIns := [], harness := (true, "7be3f4e0603db79f6c37a0e35c7e7b83879c384b89944335a7fbef9d6b6f44e0"), looks := false }, kinds := [], alts := [], laidByText := true, laidKinds := [.data], laidTests := true, laidLooks := .later }
def EncoderUnitsCardSaid : Prop := Claim7.holds Tryd.pinned (.plain (OpenSpec.ofChange encoderUnitsSpec)) encoderUnitsCard

/-- THE TIED CARD OF 'bucketlinelaw12.EncoderNone'. -/
def encoderNoneCard : Claim7 := { stood := { row := encoderNoneRow, standIns := [], harness := (true, "7be3f4e0603db79f6c37a0e35c7e7b83879c384b89944335a7fbef9d6b6f44e0"), looks := false }, kinds := [], alts := [], laidByText := true, laidKinds := [.data], laidTests := true, laidLooks := .later }
def EncoderNoneCardSaid : Prop := Claim7.holds Tryd.pinned (.plain (OpenSpec.ofChange encoderNoneSpec)) encoderNoneCard

/-- THE TIED CARD OF 'bucketlinelaw12.EncoderEmits'. -/
def encoderEmitsCard : Claim7 := { stood := { row := encoderEmitsRow, standIns := [], harness := (true, "7be3f4e0603db79f6c37a0e35c7e7b83879c384b89944335a7fbef9d6b6f44e0"), looks := false }, kinds := [], alts := [], laidByText := true, laidKinds := [.data], laidTests := true, laidLooks := .later }
def EncoderEmitsCardSaid : Prop := Claim7.holds Tryd.pinned (.plain (OpenSpec.ofChange encoderEmitsSpec)) encoderEmitsCard

/-- THE SECOND FORM's CARD OF 'bucketlinelaw12.EncoderNews'. -/
def encoderNewsUptoCard : Claim7 := { stood := { row := encoderNewsUptoRow, standIns := [], harness := (true, "7be3f4e0603db79f6c37a0e35c7e7b83879c384b89944335a7fbef9d6b6f44e0"), looks := false }, kinds := [], alts := [], laidByText := true, laidKinds := [.data], laidTests := true, laidLooks := .later }
def EncoderNewsUptoCardSaid : Prop := Claim7.holds Tryd.pinned (.plain (OpenSpec.upto encoderNewsSpec)) encoderNewsUptoCard

/-- THE SECOND FORM's CARD OF 'bucketlinelaw12.EncoderUnits'. -/
def encoderUnitsUptoCard : Claim7 := { stood := { row := encoderUnitsUptoRow, standIns := [], harness := (true, "7be3f4e0603db79f6c37a0e35c7e7b83879c384b89944335a7fbef9d6b6f44e0"), looks := false }, kinds := [], alts := [], laidByText := true, laidKinds := [.data], laidTests := true, laidLooks := .later }
def EncoderUnitsUptoCardSaid : Prop := Claim7.holds Tryd.pinned (.plain (OpenSpec.upto encoderUnitsSpec)) encoderUnitsUptoCard

/-- THE SECOND FORM's CARD OF 'bucketlinelaw12.EncoderNone'. -/
def encoderNoneUptoCard : Claim7 := { stood := { row := encoderNoneUptoRow, standIns := [], harness := (true, "7be3f4e0603db79f6c37a0e35c7e7b83879c384b89944335a7fbef9d6b6f44e0"), looks := false }, kinds := [], alts := [], laidByText := true, laidKinds := [.data], laidTests := true, laidLooks := .later }
def EncoderNoneUptoCardSaid : Prop := Claim7.holds Tryd.pinned (.plain (OpenSpec.upto encoderNoneSpec)) encoderNoneUptoCard

/-- THE SECOND FORM's CARD OF 'bucketlinelaw12.EncoderEmits'. -/
def encoderEmitsUptoCard : Claim7 := { stood := { row := encoderEmitsUptoRow, standIns := [], harness := (true, "7be3f4e0603db79f6c37a0e35c7e7b83879c384b89944335a7fbef9d6b6f44e0"), looks := false }, kinds := [], alts := [], laidByText := true, laidKinds := [.data], laidTests := true, laidLooks := .later }
def EncoderEmitsUptoCardSaid : Prop := Claim7.holds Tryd.pinned (.plain (OpenSpec.upto encoderEmitsSpec)) encoderEmitsUptoCard
end Rows
end Go.Proofs.YtcelfpgkeeaggaaDoor
