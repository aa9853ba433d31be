/-
  DERIVED. GIVEN WITH THE SEED: THE CARDS: each row of YtdcpkgedaflnmaaGreatDoorRows.lean that lists a variable, with what it lists TIED to the program's text (the seventh form; the later family's looks); each row that meets fmt, with fmt's text TOLD by the authors' own Lean function (tested against real Go, not proved from fmt's source: count such statements apart). THE CARD IS WHAT COUNTS. Prove the row's statement (the work); the ties are given (YtdcpkgedaflnmaaGreatDoorTie.lean); close each card by the builder's one call (the guide's Derived/Test/ToyasCard.lean, 'card_holds'). Laid BY PROGRAM, IN A SANDBOX (cutbox-door.mjs). By AI agents, Wed Nov 11 2026. No macro, syntax, notation, axiom, sorry.
-/
import Derived.Test.YtdcpkgedaflnmaaGreatDoorRows
import GoSem.ClaimSeven
namespace Go.Proofs.YtdcpkgedaflnmaaGreatDoor
namespace Rows

/-- THE TIED CARD OF 'tuschetop.TopRolled'. -/
def topRolledCard : Claim7 := { stood := { row := topRolledRow, standIns := [], harness := (true, "12abab1cd6031b500fe5f6f628e5062060ce6ab154fe289e64e6e6857481d22f"), looks := true }, kinds := [], alts := [], laidByText := true, laidKinds := [.data, .pinned], laidTests := true, laidLooks := .later }
def TopRolledCardSaid : Prop := Claim7.holds Tryz.pinned (.plain (OpenSpec.ofChange topRolledSpec)) topRolledCard

/-- THE TIED CARD OF 'tuschetop.TopInked'. -/
def topInkedCard : Claim7 := { stood := { row := topInkedRow, standIns := [], harness := (true, "12abab1cd6031b500fe5f6f628e5062060ce6ab154fe289e64e6e6857481d22f"), looks := true }, kinds := [], alts := [], laidByText := true, laidKinds := [.data, .pinned], laidTests := true, laidLooks := .later }
def TopInkedCardSaid : Prop := Claim7.holds Tryz.pinned (.plain (OpenSpec.ofChange topInkedSpec)) topInkedCard

/-- THE TIED CARD OF 'tuschetop.TopCycled'. -/
def topCycledCard : Claim7 := { stood := { row := topCycledRow, standIns := [], harness := (true, "12abab1cd6031b500fe5f6f628e5062060ce6ab154fe289e64e6e6857481d22f"), looks := true }, kinds := [], alts := [], laidByText := true, laidKinds := [.data, .pinned], laidTests := true, laidLooks := .later }
def TopCycledCardSaid : Prop := Claim7.holds Tryz.pinned (.plain (OpenSpec.ofChange topCycledSpec)) topCycledCard

/-- THE TIED CARD OF 'tuschetop.TopNumbered'. -/
def topNumberedCard : Claim7 := { stood := { row := topNumberedRow, standIns := [], harness := (true, "12abab1cd6031b500fe5f6f628e5062060ce6ab154fe289e64e6e6857481d22f"), looks := true }, kinds := [], alts := [], laidByText := true, laidKinds := [.data, .pinned], laidTests := true, laidLooks := .later }
def TopNumberedCardSaid : Prop := Claim7.holds Tryz.pinned (.plain (OpenSpec.ofChange topNumberedSpec)) topNumberedCard

/-- THE TIED CARD OF 'tuschetop.TopLayered'. -/
def topLayeredCard : Claim7 := { stood := { row := topLayeredRow, standIns := [], harness := (true, "12abab1cd6031b500fe5f6f628e5062060ce6ab154fe289e64e6e6857481d22f"), looks := true }, kinds := [], alts := [], laidByText := true, laidKinds := [.data, .pinned], laidTests := true, laidLooks := .later }
def TopLayeredCardSaid : Prop := Claim7.holds Tryz.pinned (.plain (OpenSpec.ofChange topLayeredSpec)) topLayeredCard

/-- THE TIED CARD OF 'tuschetop.TopTernary'. -/
def topTernaryCard : Claim7 := { stood := { row := topTernaryRow, standIns := [], harness := (true, "12abab1cd6031b500fe5f6f628e5062060ce6ab154fe289e64e6e6857481d22f"), looks := true }, kinds := [], alts := [], laidByText := true, laidKinds := [.data, .pinned], laidTests := true, laidLooks := .later }
def TopTernaryCardSaid : Prop := Claim7.holds Tryz.pinned (.plain (OpenSpec.ofChange topTernarySpec)) topTernaryCard

/-- THE SECOND FORM's CARD OF 'tuschetop.TopRolled'. -/
def topRolledUptoCard : Claim7 := { stood := { row := topRolledUptoRow, standIns := [], harness := (true, "12abab1cd6031b500fe5f6f628e5062060ce6ab154fe289e64e6e6857481d22f"), looks := true }, kinds := [], alts := [], laidByText := true, laidKinds := [.data, .pinned], laidTests := true, laidLooks := .later }
def TopRolledUptoCardSaid : Prop := Claim7.holds Tryz.pinned (.plain (OpenSpec.upto topRolledSpec)) topRolledUptoCard

/-- THE SECOND FORM's CARD OF 'tuschetop.TopInked'. -/
def topInkedUptoCard : Claim7 := { stood := { row := topInkedUptoRow, standIns := [], harness := (true, "12abab1cd6031b500fe5f6f628e5062060ce6ab154fe289e64e6e6857481d22f"), looks := true }, kinds := [], alts := [], laidByText := true, laidKinds := [.data, .pinned], laidTests := true, laidLooks := .later }
def TopInkedUptoCardSaid : Prop := Claim7.holds Tryz.pinned (.plain (OpenSpec.upto topInkedSpec)) topInkedUptoCard

/-- THE SECOND FORM's CARD OF 'tuschetop.TopCycled'. -/
def topCycledUptoCard : Claim7 := { stood := { row := topCycledUptoRow, standIns := [], harness := (true, "12abab1cd6031b500fe5f6f628e5062060ce6ab154fe289e64e6e6857481d22f"), looks := true }, kinds := [], alts := [], laidByText := true, laidKinds := [.data, .pinned], laidTests := true, laidLooks := .later }
def TopCycledUptoCardSaid : Prop := Claim7.holds Tryz.pinned (.plain (OpenSpec.upto topCycledSpec)) topCycledUptoCard

/-- THE SECOND FORM's CARD OF 'tuschetop.TopNumbered'. -/
def topNumberedUptoCard : Claim7 := { stood := { row := topNumberedUptoRow, standIns := [], harness := (true, "12abab1cd6031b500fe5f6f628e5062060ce6ab154fe289e64e6e6857481d22f"), looks := true }, kinds := [], alts := [], laidByText := true, laidKinds := [.data, .pinned], laidTests := true, laidLooks := .later }
def TopNumberedUptoCardSaid : Prop := Claim7.holds Tryz.pinned (.plain (OpenSpec.upto topNumberedSpec)) topNumberedUptoCard

/-- THE SECOND FORM's CARD OF 'tuschetop.TopLayered'. -/
def topLayeredUptoCard : Claim7 := { stood := { row := topLayeredUptoRow, standIns := [], harness := (true, "12abab1cd6031b500fe5f6f628e5062060ce6ab154fe289e64e6e6857481d22f"), looks := true }, kinds := [], alts := [], laidByText := true, laidKinds := [.data, .pinned], laidTests := true, laidLooks := .later }
def TopLayeredUptoCardSaid : Prop := Claim7.holds Tryz.pinned (.plain (OpenSpec.upto topLayeredSpec)) topLayeredUptoCard

/-- THE SECOND FORM's CARD OF 'tuschetop.TopTernary'. -/
def topTernaryUptoCard : Claim7 := { stood := { row := topTernaryUptoRow, standIns := [], harness := (true, "12abab1cd6031b500fe5f6f628e5062060ce6ab154fe289e64e6e6857481d22f"), looks := true }, kinds := [], alts := [], laidByText := true, laidKinds := [.data, .pinned], laidTests := true, laidLooks := .later }
def TopTernaryUptoCardSaid : Prop := Claim7.holds Tryz.pinned (.plain (OpenSpec.upto topTernarySpec)) topTernaryUptoCard
end Rows
end Go.Proofs.YtdcpkgedaflnmaaGreatDoor
