/-
  DERIVED. GIVEN WITH THE SEED: THE CARDS: each row of YtdcpkgedaflnmaaDoorRows.lean that lists a variable, with what it lists TIED to the program's text (the seventh form; the later family's looks); each row that meets fmt, with fmt's text TOLD by the authors' own Lean function (tested against real Go, not proved from fmt's source: count such statements apart). THE CARD IS WHAT COUNTS. Prove the row's statement (the work); the ties are given (YtdcpkgedaflnmaaDoorTie.lean); close each card by the builder's one call (the guide's Derived/Test/ToyasCard.lean, 'card_holds'). Laid BY PROGRAM, IN A SANDBOX (cutbox-door.mjs). By AI agents, Wed Nov 11 2026. No macro, syntax, notation, axiom, sorry.
-/
import Derived.Test.YtdcpkgedaflnmaaDoorRows
import GoSem.ClaimSeven
namespace Go.Proofs.YtdcpkgedaflnmaaDoor
namespace Rows

/-- THE TIED CARD OF 'tuschetop.TopBordered'. -/
def topBorderedCard : Claim7 := { stood := { row := topBorderedRow, standIns := [], harness := (true, "e1b0fd46d7fb313de9b644bb638d1f33656cb6210fceb3a70193b30f2010d2da"), looks := true }, kinds := [], alts := [], laidByText := true, laidKinds := [.data], laidTests := true, laidLooks := .later }
def TopBorderedCardSaid : Prop := Claim7.holds Tryd.pinned (.plain (OpenSpec.ofChange topBorderedSpec)) topBorderedCard

/-- THE TIED CARD OF 'tuschetop.TopPowered'. -/
def topPoweredCard : Claim7 := { stood := { row := topPoweredRow, standIns := [], harness := (true, "e1b0fd46d7fb313de9b644bb638d1f33656cb6210fceb3a70193b30f2010d2da"), looks := true }, kinds := [], alts := [], laidByText := true, laidKinds := [.data, .pinned], laidTests := true, laidLooks := .later }
def TopPoweredCardSaid : Prop := Claim7.holds Tryd.pinned (.plain (OpenSpec.ofChange topPoweredSpec)) topPoweredCard

/-- THE TIED CARD OF 'tuschetop.TopChained'. -/
def topChainedCard : Claim7 := { stood := { row := topChainedRow, standIns := [], harness := (true, "e1b0fd46d7fb313de9b644bb638d1f33656cb6210fceb3a70193b30f2010d2da"), looks := true }, kinds := [], alts := [], laidByText := true, laidKinds := [.data, .pinned], laidTests := true, laidLooks := .later }
def TopChainedCardSaid : Prop := Claim7.holds Tryd.pinned (.plain (OpenSpec.ofChange topChainedSpec)) topChainedCard

/-- THE SECOND FORM's CARD OF 'tuschetop.TopBordered'. -/
def topBorderedUptoCard : Claim7 := { stood := { row := topBorderedUptoRow, standIns := [], harness := (true, "e1b0fd46d7fb313de9b644bb638d1f33656cb6210fceb3a70193b30f2010d2da"), looks := true }, kinds := [], alts := [], laidByText := true, laidKinds := [.data], laidTests := true, laidLooks := .later }
def TopBorderedUptoCardSaid : Prop := Claim7.holds Tryd.pinned (.plain (OpenSpec.upto topBorderedSpec)) topBorderedUptoCard

/-- THE SECOND FORM's CARD OF 'tuschetop.TopPowered'. -/
def topPoweredUptoCard : Claim7 := { stood := { row := topPoweredUptoRow, standIns := [], harness := (true, "e1b0fd46d7fb313de9b644bb638d1f33656cb6210fceb3a70193b30f2010d2da"), looks := true }, kinds := [], alts := [], laidByText := true, laidKinds := [.data, .pinned], laidTests := true, laidLooks := .later }
def TopPoweredUptoCardSaid : Prop := Claim7.holds Tryd.pinned (.plain (OpenSpec.upto topPoweredSpec)) topPoweredUptoCard

/-- THE SECOND FORM's CARD OF 'tuschetop.TopChained'. -/
def topChainedUptoCard : Claim7 := { stood := { row := topChainedUptoRow, standIns := [], harness := (true, "e1b0fd46d7fb313de9b644bb638d1f33656cb6210fceb3a70193b30f2010d2da"), looks := true }, kinds := [], alts := [], laidByText := true, laidKinds := [.data, .pinned], laidTests := true, laidLooks := .later }
def TopChainedUptoCardSaid : Prop := Claim7.holds Tryd.pinned (.plain (OpenSpec.upto topChainedSpec)) topChainedUptoCard
end Rows
end Go.Proofs.YtdcpkgedaflnmaaDoor
