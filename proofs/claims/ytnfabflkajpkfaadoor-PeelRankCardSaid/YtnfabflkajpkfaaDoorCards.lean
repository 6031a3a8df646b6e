/-
  DERIVED. GIVEN WITH THE SEED: THE CARDS: each row of YtnfabflkajpkfaaDoorRows.lean that lists a variable, with what it lists TIED to the program's text (the seventh form; the later family's looks); each row that meets fmt, with fmt's text TOLD by the authors' own Lean function (tested against real Go, not proved from fmt's source: count such statements apart). THE CARD IS WHAT COUNTS. Prove the row's statement (the work); the ties are given (YtnfabflkajpkfaaDoorTie.lean); close each card by the builder's one call (the guide's Derived/Test/ToyasCard.lean, 'card_holds'). Laid BY PROGRAM, IN A SANDBOX (cutbox-door.mjs). By AI agents, Wed Nov 11 2026. No macro, syntax, notation, axiom, sorry.
-/
import Derived.Test.YtnfabflkajpkfaaDoorRows
import GoSem.ClaimSeven
namespace Go.Proofs.YtnfabflkajpkfaaDoor
namespace Rows

/-- THE TIED CARD OF 'bucketlinelaw13.PeelPeels'. -/
def peelPeelsCard : Claim7 := { stood := { row := peelPeelsRow, standIns := [], harness := (true, "253d0b92b05e8963a491e4f41817d7a0a032cf11e3cdb16147a3fb47ccd04de9"), looks := false }, kinds := [], alts := [], laidByText := true, laidKinds := [.data], laidTests := true, laidLooks := .later }
def PeelPeelsCardSaid : Prop := Claim7.holds Tryd.pinned (.plain (OpenSpec.ofChange peelPeelsSpec)) peelPeelsCard

/-- THE TIED CARD OF 'bucketlinelaw13.PeelRipples'. -/
def peelRipplesCard : Claim7 := { stood := { row := peelRipplesRow, standIns := [], harness := (true, "253d0b92b05e8963a491e4f41817d7a0a032cf11e3cdb16147a3fb47ccd04de9"), looks := false }, kinds := [], alts := [], laidByText := true, laidKinds := [.data], laidTests := true, laidLooks := .later }
def PeelRipplesCardSaid : Prop := Claim7.holds Tryd.pinned (.plain (OpenSpec.ofChange peelRipplesSpec)) peelRipplesCard

/-- THE TIED CARD OF 'bucketlinelaw13.PeelTrue'. -/
def peelTrueCard : Claim7 := { stood := { row := peelTrueRow, standIns := [], harness := (true, "253d0b92b05e8963a491e4f41817d7a0a032cf11e3cdb16147a3fb47ccd04de9"), looks := false }, kinds := [], alts := [], laidByText := true, laidKinds := [.data], laidTests := true, laidLooks := .later }
def PeelTrueCardSaid : Prop := Claim7.holds Tryd.pinned (.plain (OpenSpec.ofChange peelTrueSpec)) peelTrueCard

/-- THE TIED CARD OF 'bucketlinelaw13.PeelEnds'. -/
def peelEndsCard : Claim7 := { stood := { row := peelEndsRow, standIns := [], harness := (true, "253d0b92b05e8963a491e4f41817d7a0a032cf11e3cdb16147a3fb47ccd04de9"), looks := false }, kinds := [], alts := [], laidByText := true, laidKinds := [.data], laidTests := true, laidLooks := .later }
def PeelEndsCardSaid : Prop := Claim7.holds Tryd.pinned (.plain (OpenSpec.ofChange peelEndsSpec)) peelEndsCard

/-- THE TIED CARD OF 'bucketlinelaw13.PeelRank'. -/
def peelRankCard : Claim7 := { stood := { row := peelRankRow, standIns := [], harness := (true, "253d0b92b05e8963a491e4f41817d7a0a032cf11e3cdb16147a3fb47ccd04de9"), looks := false }, kinds := [], alts := [], laidByText := true, laidKinds := [.data], laidTests := true, laidLooks := .later }
def PeelRankCardSaid : Prop := Claim7.holds Tryd.pinned (.plain (OpenSpec.ofChange peelRankSpec)) peelRankCard

/-- THE TIED CARD OF 'bucketlinelaw14.GaussSolves'. -/
def gaussSolvesCard : Claim7 := { stood := { row := gaussSolvesRow, standIns := [], harness := (true, "253d0b92b05e8963a491e4f41817d7a0a032cf11e3cdb16147a3fb47ccd04de9"), looks := false }, kinds := [], alts := [], laidByText := true, laidKinds := [.data], laidTests := true, laidLooks := .later }
def GaussSolvesCardSaid : Prop := Claim7.holds Tryd.pinned (.plain (OpenSpec.ofChange gaussSolvesSpec)) gaussSolvesCard

/-- THE TIED CARD OF 'bucketlinelaw14.GaussDecodes'. -/
def gaussDecodesCard : Claim7 := { stood := { row := gaussDecodesRow, standIns := [], harness := (true, "253d0b92b05e8963a491e4f41817d7a0a032cf11e3cdb16147a3fb47ccd04de9"), looks := false }, kinds := [], alts := [], laidByText := true, laidKinds := [.data], laidTests := true, laidLooks := .later }
def GaussDecodesCardSaid : Prop := Claim7.holds Tryd.pinned (.plain (OpenSpec.ofChange gaussDecodesSpec)) gaussDecodesCard

/-- THE TIED CARD OF 'bucketlinelaw14.GaussTrue'. -/
def gaussTrueCard : Claim7 := { stood := { row := gaussTrueRow, standIns := [], harness := (true, "253d0b92b05e8963a491e4f41817d7a0a032cf11e3cdb16147a3fb47ccd04de9"), looks := false }, kinds := [], alts := [], laidByText := true, laidKinds := [.data], laidTests := true, laidLooks := .later }
def GaussTrueCardSaid : Prop := Claim7.holds Tryd.pinned (.plain (OpenSpec.ofChange gaussTrueSpec)) gaussTrueCard

/-- THE TIED CARD OF 'bucketlinelaw14.GaussOrder'. -/
def gaussOrderCard : Claim7 := { stood := { row := gaussOrderRow, standIns := [], harness := (true, "253d0b92b05e8963a491e4f41817d7a0a032cf11e3cdb16147a3fb47ccd04de9"), looks := false }, kinds := [], alts := [], laidByText := true, laidKinds := [.data], laidTests := true, laidLooks := .later }
def GaussOrderCardSaid : Prop := Claim7.holds Tryd.pinned (.plain (OpenSpec.ofChange gaussOrderSpec)) gaussOrderCard

/-- THE TIED CARD OF 'bucketlinelaw14.GaussMore'. -/
def gaussMoreCard : Claim7 := { stood := { row := gaussMoreRow, standIns := [], harness := (true, "253d0b92b05e8963a491e4f41817d7a0a032cf11e3cdb16147a3fb47ccd04de9"), looks := false }, kinds := [], alts := [], laidByText := true, laidKinds := [.data], laidTests := true, laidLooks := .later }
def GaussMoreCardSaid : Prop := Claim7.holds Tryd.pinned (.plain (OpenSpec.ofChange gaussMoreSpec)) gaussMoreCard

/-- THE SECOND FORM's CARD OF 'bucketlinelaw13.PeelPeels'. -/
def peelPeelsUptoCard : Claim7 := { stood := { row := peelPeelsUptoRow, standIns := [], harness := (true, "253d0b92b05e8963a491e4f41817d7a0a032cf11e3cdb16147a3fb47ccd04de9"), looks := false }, kinds := [], alts := [], laidByText := true, laidKinds := [.data], laidTests := true, laidLooks := .later }
def PeelPeelsUptoCardSaid : Prop := Claim7.holds Tryd.pinned (.plain (OpenSpec.upto peelPeelsSpec)) peelPeelsUptoCard

/-- THE SECOND FORM's CARD OF 'bucketlinelaw13.PeelRipples'. -/
def peelRipplesUptoCard : Claim7 := { stood := { row := peelRipplesUptoRow, standIns := [], harness := (true, "253d0b92b05e8963a491e4f41817d7a0a032cf11e3cdb16147a3fb47ccd04de9"), looks := false }, kinds := [], alts := [], laidByText := true, laidKinds := [.data], laidTests := true, laidLooks := .later }
def PeelRipplesUptoCardSaid : Prop := Claim7.holds Tryd.pinned (.plain (OpenSpec.upto peelRipplesSpec)) peelRipplesUptoCard

/-- THE SECOND FORM's CARD OF 'bucketlinelaw13.PeelTrue'. -/
def peelTrueUptoCard : Claim7 := { stood := { row := peelTrueUptoRow, standIns := [], harness := (true, "253d0b92b05e8963a491e4f41817d7a0a032cf11e3cdb16147a3fb47ccd04de9"), looks := false }, kinds := [], alts := [], laidByText := true, laidKinds := [.data], laidTests := true, laidLooks := .later }
def PeelTrueUptoCardSaid : Prop := Claim7.holds Tryd.pinned (.plain (OpenSpec.upto peelTrueSpec)) peelTrueUptoCard

/-- THE SECOND FORM's CARD OF 'bucketlinelaw13.PeelEnds'. -/
def peelEndsUptoCard : Claim7 := { stood := { row := peelEndsUptoRow, standIns := [], harness := (true, "253d0b92b05e8963a491e4f41817d7a0a032cf11e3cdb16147a3fb47ccd04de9"), looks := false }, kinds := [], alts := [], laidByText := true, laidKinds := [.data], laidTests := true, laidLooks := .later }
def PeelEndsUptoCardSaid : Prop := Claim7.holds Tryd.pinned (.plain (OpenSpec.upto peelEndsSpec)) peelEndsUptoCard

/-- THE SECOND FORM's CARD OF 'bucketlinelaw13.PeelRank'. -/
def peelRankUptoCard : Claim7 := { stood := { row := peelRankUptoRow, standIns := [], harness := (true, "253d0b92b05e8963a491e4f41817d7a0a032cf11e3cdb16147a3fb47ccd04de9"), looks := false }, kinds := [], alts := [], laidByText := true, laidKinds := [.data], laidTests := true, laidLooks := .later }
def PeelRankUptoCardSaid : Prop := Claim7.holds Tryd.pinned (.plain (OpenSpec.upto peelRankSpec)) peelRankUptoCard

/-- THE SECOND FORM's CARD OF 'bucketlinelaw14.GaussSolves'. -/
def gaussSolvesUptoCard : Claim7 := { stood := { row := gaussSolvesUptoRow, standIns := [], harness := (true, "253d0b92b05e8963a491e4f41817d7a0a032cf11e3cdb16147a3fb47ccd04de9"), looks := false }, kinds := [], alts := [], laidByText := true, laidKinds := [.data], laidTests := true, laidLooks := .later }
def GaussSolvesUptoCardSaid : Prop := Claim7.holds Tryd.pinned (.plain (OpenSpec.upto gaussSolvesSpec)) gaussSolvesUptoCard

/-- THE SECOND FORM's CARD OF 'bucketlinelaw14.GaussDecodes'. -/
def gaussDecodesUptoCard : Claim7 := { stood := { row := gaussDecodesUptoRow, standIns := [], harness := (true, "253d0b92b05e8963a491e4f41817d7a0a032cf11e3cdb16147a3fb47ccd04de9"), looks := false }, kinds := [], alts := [], laidByText := true, laidKinds := [.data], laidTests := true, laidLooks := .later }
def GaussDecodesUptoCardSaid : Prop := Claim7.holds Tryd.pinned (.plain (OpenSpec.upto gaussDecodesSpec)) gaussDecodesUptoCard

/-- THE SECOND FORM's CARD OF 'bucketlinelaw14.GaussTrue'. -/
def gaussTrueUptoCard : Claim7 := { stood := { row := gaussTrueUptoRow, standIns := [], harness := (true, "253d0b92b05e8963a491e4f41817d7a0a032cf11e3cdb16147a3fb47ccd04de9"), looks := false }, kinds := [], alts := [], laidByText := true, laidKinds := [.data], laidTests := true, laidLooks := .later }
def GaussTrueUptoCardSaid : Prop := Claim7.holds Tryd.pinned (.plain (OpenSpec.upto gaussTrueSpec)) gaussTrueUptoCard

/-- THE SECOND FORM's CARD OF 'bucketlinelaw14.GaussOrder'. -/
def gaussOrderUptoCard : Claim7 := { stood := { row := gaussOrderUptoRow, standIns := [], harness := (true, "253d0b92b05e8963a491e4f41817d7a0a032cf11e3cdb16147a3fb47ccd04de9"), looks := false }, kinds := [], alts := [], laidByText := true, laidKinds := [.data], laidTests := true, laidLooks := .later }
def GaussOrderUptoCardSaid : Prop := Claim7.holds Tryd.pinned (.plain (OpenSpec.upto gaussOrderSpec)) gaussOrderUptoCard

/-- THE SECOND FORM's CARD OF 'bucketlinelaw14.GaussMore'. -/
def gaussMoreUptoCard : Claim7 := { stood := { row := gaussMoreUptoRow, standIns := [], harness := (true, "253d0b92b05e8963a491e4f41817d7a0a032cf11e3cdb16147a3fb47ccd04de9"), looks := false }, kinds := [], alts := [], laidByText := true, laidKinds := [.data], laidTests := true, laidLooks := .later }
def GaussMoreUptoCardSaid : Prop := Claim7.holds Tryd.pinned (.plain (OpenSpec.upto gaussMoreSpec)) gaussMoreUptoCard
end Rows
end Go.Proofs.YtnfabflkajpkfaaDoor
