/-
  DERIVED. GIVEN WITH THE SEED: THE CARDS: each row of YtedpcenghofpoaaDoorRows.lean that lists a variable, with what it lists TIED to the program's text (the seventh form; the later family's looks); each row that meets fmt, with fmt's text TOLD by the authors' own Lean function (tested against real Go, not proved from fmt's source: count such statements apart). THE CARD IS WHAT COUNTS. Prove the row's statement (the work); the ties are given (YtedpcenghofpoaaDoorTie.lean); close each card by the builder's one call (the guide's Derived/Test/ToyasCard.lean, 'card_holds'). Laid BY PROGRAM, IN A SANDBOX (cutbox-door.mjs). By AI agents, Wed Nov 11 2026. No macro, syntax, notation, axiom, sorry.
-/
import Derived.Test.YtedpcenghofpoaaDoorRows
import GoSem.ClaimSeven
namespace Go.Proofs.YtedpcenghofpoaaDoor
namespace Rows

/-- THE TIED CARD OF 'tuschelaw02.FoldPlaces'. -/
def foldPlacesCard : Claim7 := { stood := { row := foldPlacesRow, standIns := [], harness := (true, "132bd4bf55886f2b563aee379a132bdb9bb1ca98e1595cf5588180eb959eec3e"), looks := false }, kinds := [], alts := [], laidByText := true, laidKinds := [.data, .pinned], laidTests := true, laidLooks := .later }
def FoldPlacesCardSaid : Prop := Claim7.holds Tryd.pinned (.plain (OpenSpec.ofChange foldPlacesSpec)) foldPlacesCard

/-- THE TIED CARD OF 'tuschelaw02.FoldOrders'. -/
def foldOrdersCard : Claim7 := { stood := { row := foldOrdersRow, standIns := [], harness := (true, "132bd4bf55886f2b563aee379a132bdb9bb1ca98e1595cf5588180eb959eec3e"), looks := false }, kinds := [], alts := [], laidByText := true, laidKinds := [.data, .pinned], laidTests := true, laidLooks := .later }
def FoldOrdersCardSaid : Prop := Claim7.holds Tryd.pinned (.plain (OpenSpec.ofChange foldOrdersSpec)) foldOrdersCard

/-- THE TIED CARD OF 'tuschelaw02.FoldSteps'. -/
def foldStepsCard : Claim7 := { stood := { row := foldStepsRow, standIns := [], harness := (true, "132bd4bf55886f2b563aee379a132bdb9bb1ca98e1595cf5588180eb959eec3e"), looks := false }, kinds := [], alts := [], laidByText := true, laidKinds := [.data, .pinned], laidTests := true, laidLooks := .later }
def FoldStepsCardSaid : Prop := Claim7.holds Tryd.pinned (.plain (OpenSpec.ofChange foldStepsSpec)) foldStepsCard

/-- THE TIED CARD OF 'tuschelaw02.FoldFlat'. -/
def foldFlatCard : Claim7 := { stood := { row := foldFlatRow, standIns := [], harness := (true, "132bd4bf55886f2b563aee379a132bdb9bb1ca98e1595cf5588180eb959eec3e"), looks := false }, kinds := [], alts := [], laidByText := true, laidKinds := [.data, .pinned], laidTests := true, laidLooks := .later }
def FoldFlatCardSaid : Prop := Claim7.holds Tryd.pinned (.plain (OpenSpec.ofChange foldFlatSpec)) foldFlatCard

/-- THE TIED CARD OF 'tuschelaw02.FoldAny'. -/
def foldAnyCard : Claim7 := { stood := { row := foldAnyRow, standIns := [], harness := (true, "132bd4bf55886f2b563aee379a132bdb9bb1ca98e1595cf5588180eb959eec3e"), looks := false }, kinds := [], alts := [], laidByText := true, laidKinds := [.data, .pinned], laidTests := true, laidLooks := .later }
def FoldAnyCardSaid : Prop := Claim7.holds Tryd.pinned (.plain (OpenSpec.ofChange foldAnySpec)) foldAnyCard

/-- THE TIED CARD OF 'tuschelaw02.FoldLies'. -/
def foldLiesCard : Claim7 := { stood := { row := foldLiesRow, standIns := [], harness := (true, "132bd4bf55886f2b563aee379a132bdb9bb1ca98e1595cf5588180eb959eec3e"), looks := false }, kinds := [], alts := [], laidByText := true, laidKinds := [.data, .pinned], laidTests := true, laidLooks := .later }
def FoldLiesCardSaid : Prop := Claim7.holds Tryd.pinned (.plain (OpenSpec.ofChange foldLiesSpec)) foldLiesCard

/-- THE TIED CARD OF 'tuschelaw02.FoldPiece'. -/
def foldPieceCard : Claim7 := { stood := { row := foldPieceRow, standIns := [], harness := (true, "132bd4bf55886f2b563aee379a132bdb9bb1ca98e1595cf5588180eb959eec3e"), looks := false }, kinds := [], alts := [], laidByText := true, laidKinds := [.data, .pinned], laidTests := true, laidLooks := .later }
def FoldPieceCardSaid : Prop := Claim7.holds Tryd.pinned (.plain (OpenSpec.ofChange foldPieceSpec)) foldPieceCard

/-- THE TIED CARD OF 'tuschelaw02.FoldMirrored'. -/
def foldMirroredCard : Claim7 := { stood := { row := foldMirroredRow, standIns := [], harness := (true, "132bd4bf55886f2b563aee379a132bdb9bb1ca98e1595cf5588180eb959eec3e"), looks := false }, kinds := [], alts := [], laidByText := true, laidKinds := [.data, .pinned], laidTests := true, laidLooks := .later }
def FoldMirroredCardSaid : Prop := Claim7.holds Tryd.pinned (.plain (OpenSpec.ofChange foldMirroredSpec)) foldMirroredCard

/-- THE TIED CARD OF 'tuschelaw02.FoldAll'. -/
def foldAllCard : Claim7 := { stood := { row := foldAllRow, standIns := [], harness := (true, "132bd4bf55886f2b563aee379a132bdb9bb1ca98e1595cf5588180eb959eec3e"), looks := false }, kinds := [], alts := [], laidByText := true, laidKinds := [.data, .pinned], laidTests := true, laidLooks := .later }
def FoldAllCardSaid : Prop := Claim7.holds Tryd.pinned (.plain (OpenSpec.ofChange foldAllSpec)) foldAllCard

/-- THE TIED CARD OF 'tuschelaw02.FoldPlaced'. -/
def foldPlacedCard : Claim7 := { stood := { row := foldPlacedRow, standIns := [], harness := (true, "132bd4bf55886f2b563aee379a132bdb9bb1ca98e1595cf5588180eb959eec3e"), looks := false }, kinds := [], alts := [], laidByText := true, laidKinds := [.data, .pinned], laidTests := true, laidLooks := .later }
def FoldPlacedCardSaid : Prop := Claim7.holds Tryd.pinned (.plain (OpenSpec.ofChange foldPlacedSpec)) foldPlacedCard

/-- THE TIED CARD OF 'tuschelaw02.FoldKnown'. -/
def foldKnownCard : Claim7 := { stood := { row := foldKnownRow, standIns := [], harness := (true, "132bd4bf55886f2b563aee379a132bdb9bb1ca98e1595cf5588180eb959eec3e"), looks := false }, kinds := [], alts := [], laidByText := true, laidKinds := [.data, .pinned], laidTests := true, laidLooks := .later }
def FoldKnownCardSaid : Prop := Claim7.holds Tryd.pinned (.plain (OpenSpec.ofChange foldKnownSpec)) foldKnownCard

/-- THE SECOND FORM's CARD OF 'tuschelaw02.FoldPlaces'. -/
def foldPlacesUptoCard : Claim7 := { stood := { row := foldPlacesUptoRow, standIns := [], harness := (true, "132bd4bf55886f2b563aee379a132bdb9bb1ca98e1595cf5588180eb959eec3e"), looks := false }, kinds := [], alts := [], laidByText := true, laidKinds := [.data, .pinned], laidTests := true, laidLooks := .later }
def FoldPlacesUptoCardSaid : Prop := Claim7.holds Tryd.pinned (.plain (OpenSpec.upto foldPlacesSpec)) foldPlacesUptoCard

/-- THE SECOND FORM's CARD OF 'tuschelaw02.FoldOrders'. -/
def foldOrdersUptoCard : Claim7 := { stood := { row := foldOrdersUptoRow, standIns := [], harness := (true, "132bd4bf55886f2b563aee379a132bdb9bb1ca98e1595cf5588180eb959eec3e"), looks := false }, kinds := [], alts := [], laidByText := true, laidKinds := [.data, .pinned], laidTests := true, laidLooks := .later }
def FoldOrdersUptoCardSaid : Prop := Claim7.holds Tryd.pinned (.plain (OpenSpec.upto foldOrdersSpec)) foldOrdersUptoCard

/-- THE SECOND FORM's CARD OF 'tuschelaw02.FoldSteps'. -/
def foldStepsUptoCard : Claim7 := { stood := { row := foldStepsUptoRow, standIns := [], harness := (true, "132bd4bf55886f2b563aee379a132bdb9bb1ca98e1595cf5588180eb959eec3e"), looks := false }, kinds := [], alts := [], laidByText := true, laidKinds := [.data, .pinned], laidTests := true, laidLooks := .later }
def FoldStepsUptoCardSaid : Prop := Claim7.holds Tryd.pinned (.plain (OpenSpec.upto foldStepsSpec)) foldStepsUptoCard

/-- THE SECOND FORM's CARD OF 'tuschelaw02.FoldFlat'. -/
def foldFlatUptoCard : Claim7 := { stood := { row := foldFlatUptoRow, standIns := [], harness := (true, "132bd4bf55886f2b563aee379a132bdb9bb1ca98e1595cf5588180eb959eec3e"), looks := false }, kinds := [], alts := [], laidByText := true, laidKinds := [.data, .pinned], laidTests := true, laidLooks := .later }
def FoldFlatUptoCardSaid : Prop := Claim7.holds Tryd.pinned (.plain (OpenSpec.upto foldFlatSpec)) foldFlatUptoCard

/-- THE SECOND FORM's CARD OF 'tuschelaw02.FoldAny'. -/
def foldAnyUptoCard : Claim7 := { stood := { row := foldAnyUptoRow, standIns := [], harness := (true, "132bd4bf55886f2b563aee379a132bdb9bb1ca98e1595cf5588180eb959eec3e"), looks := false }, kinds := [], alts := [], laidByText := true, laidKinds := [.data, .pinned], laidTests := true, laidLooks := .later }
def FoldAnyUptoCardSaid : Prop := Claim7.holds Tryd.pinned (.plain (OpenSpec.upto foldAnySpec)) foldAnyUptoCard

/-- THE SECOND FORM's CARD OF 'tuschelaw02.FoldLies'. -/
def foldLiesUptoCard : Claim7 := { stood := { row := foldLiesUptoRow, standIns := [], harness := (true, "132bd4bf55886f2b563aee379a132bdb9bb1ca98e1595cf5588180eb959eec3e"), looks := false }, kinds := [], alts := [], laidByText := true, laidKinds := [.data, .pinned], laidTests := true, laidLooks := .later }
def FoldLiesUptoCardSaid : Prop := Claim7.holds Tryd.pinned (.plain (OpenSpec.upto foldLiesSpec)) foldLiesUptoCard

/-- THE SECOND FORM's CARD OF 'tuschelaw02.FoldPiece'. -/
def foldPieceUptoCard : Claim7 := { stood := { row := foldPieceUptoRow, standIns := [], harness := (true, "132bd4bf55886f2b563aee379a132bdb9bb1ca98e1595cf5588180eb959eec3e"), looks := false }, kinds := [], alts := [], laidByText := true, laidKinds := [.data, .pinned], laidTests := true, laidLooks := .later }
def FoldPieceUptoCardSaid : Prop := Claim7.holds Tryd.pinned (.plain (OpenSpec.upto foldPieceSpec)) foldPieceUptoCard

/-- THE SECOND FORM's CARD OF 'tuschelaw02.FoldMirrored'. -/
def foldMirroredUptoCard : Claim7 := { stood := { row := foldMirroredUptoRow, standIns := [], harness := (true, "132bd4bf55886f2b563aee379a132bdb9bb1ca98e1595cf5588180eb959eec3e"), looks := false }, kinds := [], alts := [], laidByText := true, laidKinds := [.data, .pinned], laidTests := true, laidLooks := .later }
def FoldMirroredUptoCardSaid : Prop := Claim7.holds Tryd.pinned (.plain (OpenSpec.upto foldMirroredSpec)) foldMirroredUptoCard

/-- THE SECOND FORM's CARD OF 'tuschelaw02.FoldAll'. -/
def foldAllUptoCard : Claim7 := { stood := { row := foldAllUptoRow, standIns := [], harness := (true, "132bd4bf55886f2b563aee379a132bdb9bb1ca98e1595cf5588180eb959eec3e"), looks := false }, kinds := [], alts := [], laidByText := true, laidKinds := [.data, .pinned], laidTests := true, laidLooks := .later }
def FoldAllUptoCardSaid : Prop := Claim7.holds Tryd.pinned (.plain (OpenSpec.upto foldAllSpec)) foldAllUptoCard

/-- THE SECOND FORM's CARD OF 'tuschelaw02.FoldPlaced'. -/
def foldPlacedUptoCard : Claim7 := { stood := { row := foldPlacedUptoRow, standIns := [], harness := (true, "132bd4bf55886f2b563aee379a132bdb9bb1ca98e1595cf5588180eb959eec3e"), looks := false }, kinds := [], alts := [], laidByText := true, laidKinds := [.data, .pinned], laidTests := true, laidLooks := .later }
def FoldPlacedUptoCardSaid : Prop := Claim7.holds Tryd.pinned (.plain (OpenSpec.upto foldPlacedSpec)) foldPlacedUptoCard

/-- THE SECOND FORM's CARD OF 'tuschelaw02.FoldKnown'. -/
def foldKnownUptoCard : Claim7 := { stood := { row := foldKnownUptoRow, standIns := [], harness := (true, "132bd4bf55886f2b563aee379a132bdb9bb1ca98e1595cf5588180eb959eec3e"), looks := false }, kinds := [], alts := [], laidByText := true, laidKinds := [.data, .pinned], laidTests := true, laidLooks := .later }
def FoldKnownUptoCardSaid : Prop := Claim7.holds Tryd.pinned (.plain (OpenSpec.upto foldKnownSpec)) foldKnownUptoCard
end Rows
end Go.Proofs.YtedpcenghofpoaaDoor
