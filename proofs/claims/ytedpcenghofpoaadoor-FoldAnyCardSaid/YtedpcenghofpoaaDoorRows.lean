/-
  NARROWER THAN 'FOR EVERY INPUT', by the rows' own cells (each row's printed sentence says how): FoldPlaces: laid · FoldOrders: laid · FoldSteps: laid · FoldFlat: laid · FoldAny: laid · FoldLies: laid · FoldPiece: laid · FoldMirrored: laid · FoldAll: laid · FoldPlaced: laid · FoldKnown: laid.
  DERIVED. THE GIVEN ROWS OF THIS SEAT. 11 by the template 'for every input the law returns true; each argument reads behind the call as it read before'; 0 by the template 'total and deterministic' (their statements: YtedpcenghofpoaaDoorTotals.lean).
  GIVEN WITH THE SEED: the statements are not yours to turn. If you find one false, say at which input.
  Laid BY PROGRAM, IN A SANDBOX (cutbox-rows.mjs): the forced cells as the released guide's own fill.sh prints them over the translation 5d8f947b6e712cd7… (all of the seat's roots in one cut). By AI agents, Wed Nov 11 2026. No macro, syntax, notation, axiom, sorry.
-/
import Derived.Test.YtedpcenghofpoaaDoorChecked
import GoSem.PinnedTables
import GoSem.Claim
import GoSem.ClaimJoined
import GoSem.ClaimMapViews
import Derived.JoinedTies
import Derived.KernelRfl
namespace Go.Proofs.YtedpcenghofpoaaDoor
/- THE CELL 'sum', in the pinned program and in every row, IS THE sha256 OF THE DUMP (.gsa) THAT YtedpcenghofpoaaDoorProg.lean LOADS. Nothing in Lean hashes anything: it is a label: what it is worth is what the hold of that sum in a sandbox is worth. -/
noncomputable def Tryd.pinned : Pinned := { name := "ytedpcenghofpoaadoor", sum := "5d8f947b6e712cd7d42085299e409d68bc1ddbf1dcb9e7b2fb2c0314d4e81528", checked := Tryd.checked }
namespace Rows
def none {H : Type} : Left H := { results := [], args := [] }

/- WHAT THE LISTED PACKAGE-LEVEL VARIABLES READ AS WHEN THE CALL BEGINS. Each datum BY PROGRAM (the guide's laid-datum.mjs) off the statement by which the dump's own 'gosem.cut.vars' lays the variable. In a bare row this is a premise. The card (YtedpcenghofpoaaDoorCards.lean) ties it to the program's text. -/
def laid_unicode_utf8_acceptRanges {H : Type} : DataW H := .agg [.agg [.lit (.int .u8 128), .lit (.int .u8 191)], .agg [.lit (.int .u8 160), .lit (.int .u8 191)], .agg [.lit (.int .u8 128), .lit (.int .u8 159)], .agg [.lit (.int .u8 144), .lit (.int .u8 191)], .agg [.lit (.int .u8 128), .lit (.int .u8 143)], .agg [.lit (.int .u8 0), .lit (.int .u8 0)], .agg [.lit (.int .u8 0), .lit (.int .u8 0)], .agg [.lit (.int .u8 0), .lit (.int .u8 0)], .agg [.lit (.int .u8 0), .lit (.int .u8 0)], .agg [.lit (.int .u8 0), .lit (.int .u8 0)], .agg [.lit (.int .u8 0), .lit (.int .u8 0)], .agg [.lit (.int .u8 0), .lit (.int .u8 0)], .agg [.lit (.int .u8 0), .lit (.int .u8 0)], .agg [.lit (.int .u8 0), .lit (.int .u8 0)], .agg [.lit (.int .u8 0), .lit (.int .u8 0)], .agg [.lit (.int .u8 0), .lit (.int .u8 0)]]
/-- One of Go's own tables, pinned by name: the form's constant. -/
def laid_unicode_utf8_first : DataW Unit := Go.Pinned.utf8First

/-- 'tuschelaw02.FoldPlaces': WHATEVER THE INPUT: true; the input reads as it did. -/
def foldPlacesSpec : ChangeSpec := { name := "foldPlaces", fn := fun _ => fun
  | [d1, d2] => { results := [.lit (.bool true)], args := [d1, d2] }
  | _ => none }
def foldPlacesRow : OpenClaim := { program := "ytedpcenghofpoaadoor", sum := "5d8f947b6e712cd7d42085299e409d68bc1ddbf1dcb9e7b2fb2c0314d4e81528", func := "tusche/tuschelaw02.FoldPlaces", spec := "foldPlaces", inPlace := ["internal/bytealg.IndexByteString", "internal/bytealg.IndexString", "internal/abi.NoEscape"], unfollowed := true, recurses := true, named := ["unicode/utf8.first", "unicode/utf8.acceptRanges", "internal/bytealg.MaxLen"], plainKeys := false, apart := false, laid := [("unicode/utf8.acceptRanges", laid_unicode_utf8_acceptRanges), ("unicode/utf8.first", laid_unicode_utf8_first)] }
def FoldPlacesSaid : Prop := foldPlacesRow.holds Tryd.pinned (OpenSpec.ofChange foldPlacesSpec)

/-- ITS FALSE NEIGHBOUR: 'it returns false'. Refute it at one input. -/
def foldPlacesWrong : ChangeSpec := { name := "foldPlaces", fn := fun _ => fun
  | [d1, d2] => { results := [.lit (.bool false)], args := [d1, d2] }
  | _ => none }
def FoldPlacesWrongFalsely : Prop := foldPlacesRow.holds Tryd.pinned (OpenSpec.ofChange foldPlacesWrong)

/-- 'tuschelaw02.FoldOrders': WHATEVER THE INPUT: true; the input reads as it did. -/
def foldOrdersSpec : ChangeSpec := { name := "foldOrders", fn := fun _ => fun
  | [d] => { results := [.lit (.bool true)], args := [d] }
  | _ => none }
def foldOrdersRow : OpenClaim := { program := "ytedpcenghofpoaadoor", sum := "5d8f947b6e712cd7d42085299e409d68bc1ddbf1dcb9e7b2fb2c0314d4e81528", func := "tusche/tuschelaw02.FoldOrders", spec := "foldOrders", inPlace := ["internal/bytealg.IndexByteString", "internal/bytealg.IndexString", "internal/abi.NoEscape"], unfollowed := true, recurses := true, named := ["unicode/utf8.first", "unicode/utf8.acceptRanges", "internal/bytealg.MaxLen"], plainKeys := false, apart := false, laid := [("unicode/utf8.acceptRanges", laid_unicode_utf8_acceptRanges), ("unicode/utf8.first", laid_unicode_utf8_first)] }
def FoldOrdersSaid : Prop := foldOrdersRow.holds Tryd.pinned (OpenSpec.ofChange foldOrdersSpec)

/-- ITS FALSE NEIGHBOUR: 'it returns false'. Refute it at one input. -/
def foldOrdersWrong : ChangeSpec := { name := "foldOrders", fn := fun _ => fun
  | [d] => { results := [.lit (.bool false)], args := [d] }
  | _ => none }
def FoldOrdersWrongFalsely : Prop := foldOrdersRow.holds Tryd.pinned (OpenSpec.ofChange foldOrdersWrong)

/-- 'tuschelaw02.FoldSteps': WHATEVER THE INPUT: true; the input reads as it did. -/
def foldStepsSpec : ChangeSpec := { name := "foldSteps", fn := fun _ => fun
  | [d1, d2, d3] => { results := [.lit (.bool true)], args := [d1, d2, d3] }
  | _ => none }
def foldStepsRow : OpenClaim := { program := "ytedpcenghofpoaadoor", sum := "5d8f947b6e712cd7d42085299e409d68bc1ddbf1dcb9e7b2fb2c0314d4e81528", func := "tusche/tuschelaw02.FoldSteps", spec := "foldSteps", inPlace := ["internal/bytealg.IndexByteString", "internal/bytealg.IndexString", "internal/abi.NoEscape"], unfollowed := true, recurses := true, named := ["unicode/utf8.first", "unicode/utf8.acceptRanges", "internal/bytealg.MaxLen"], plainKeys := false, apart := false, laid := [("unicode/utf8.acceptRanges", laid_unicode_utf8_acceptRanges), ("unicode/utf8.first", laid_unicode_utf8_first)] }
def FoldStepsSaid : Prop := foldStepsRow.holds Tryd.pinned (OpenSpec.ofChange foldStepsSpec)

/-- ITS FALSE NEIGHBOUR: 'it returns false'. Refute it at one input. -/
def foldStepsWrong : ChangeSpec := { name := "foldSteps", fn := fun _ => fun
  | [d1, d2, d3] => { results := [.lit (.bool false)], args := [d1, d2, d3] }
  | _ => none }
def FoldStepsWrongFalsely : Prop := foldStepsRow.holds Tryd.pinned (OpenSpec.ofChange foldStepsWrong)

/-- 'tuschelaw02.FoldFlat': WHATEVER THE INPUT: true; the input reads as it did. -/
def foldFlatSpec : ChangeSpec := { name := "foldFlat", fn := fun _ => fun
  | [d] => { results := [.lit (.bool true)], args := [d] }
  | _ => none }
def foldFlatRow : OpenClaim := { program := "ytedpcenghofpoaadoor", sum := "5d8f947b6e712cd7d42085299e409d68bc1ddbf1dcb9e7b2fb2c0314d4e81528", func := "tusche/tuschelaw02.FoldFlat", spec := "foldFlat", inPlace := ["internal/bytealg.IndexByteString", "internal/bytealg.IndexString", "internal/abi.NoEscape"], unfollowed := true, recurses := true, named := ["unicode/utf8.first", "unicode/utf8.acceptRanges", "internal/bytealg.MaxLen"], plainKeys := false, apart := false, laid := [("unicode/utf8.acceptRanges", laid_unicode_utf8_acceptRanges), ("unicode/utf8.first", laid_unicode_utf8_first)] }
def FoldFlatSaid : Prop := foldFlatRow.holds Tryd.pinned (OpenSpec.ofChange foldFlatSpec)

/-- ITS FALSE NEIGHBOUR: 'it returns false'. Refute it at one input. -/
def foldFlatWrong : ChangeSpec := { name := "foldFlat", fn := fun _ => fun
  | [d] => { results := [.lit (.bool false)], args := [d] }
  | _ => none }
def FoldFlatWrongFalsely : Prop := foldFlatRow.holds Tryd.pinned (OpenSpec.ofChange foldFlatWrong)

/-- 'tuschelaw02.FoldAny': WHATEVER THE INPUT: true; the input reads as it did. -/
def foldAnySpec : ChangeSpec := { name := "foldAny", fn := fun _ => fun
  | [d1, d2] => { results := [.lit (.bool true)], args := [d1, d2] }
  | _ => none }
def foldAnyRow : OpenClaim := { program := "ytedpcenghofpoaadoor", sum := "5d8f947b6e712cd7d42085299e409d68bc1ddbf1dcb9e7b2fb2c0314d4e81528", func := "tusche/tuschelaw02.FoldAny", spec := "foldAny", inPlace := ["internal/bytealg.IndexByteString", "internal/bytealg.IndexString", "internal/abi.NoEscape"], unfollowed := true, recurses := true, named := ["unicode/utf8.first", "unicode/utf8.acceptRanges", "internal/bytealg.MaxLen"], plainKeys := false, apart := false, laid := [("unicode/utf8.acceptRanges", laid_unicode_utf8_acceptRanges), ("unicode/utf8.first", laid_unicode_utf8_first)] }
def FoldAnySaid : Prop := foldAnyRow.holds Tryd.pinned (OpenSpec.ofChange foldAnySpec)

/-- ITS FALSE NEIGHBOUR: 'it returns false'. Refute it at one input. -/
def foldAnyWrong : ChangeSpec := { name := "foldAny", fn := fun _ => fun
  | [d1, d2] => { results := [.lit (.bool false)], args := [d1, d2] }
  | _ => none }
def FoldAnyWrongFalsely : Prop := foldAnyRow.holds Tryd.pinned (OpenSpec.ofChange foldAnyWrong)

/-- 'tuschelaw02.FoldLies': WHATEVER THE INPUT: true; the input reads as it did. -/
def foldLiesSpec : ChangeSpec := { name := "foldLies", fn := fun _ => fun
  | [d1, d2, d3] => { results := [.lit (.bool true)], args := [d1, d2, d3] }
  | _ => none }
def foldLiesRow : OpenClaim := { program := "ytedpcenghofpoaadoor", sum := "5d8f947b6e712cd7d42085299e409d68bc1ddbf1dcb9e7b2fb2c0314d4e81528", func := "tusche/tuschelaw02.FoldLies", spec := "foldLies", inPlace := ["internal/bytealg.IndexByteString", "internal/bytealg.IndexString", "internal/abi.NoEscape"], unfollowed := true, recurses := true, named := ["unicode/utf8.first", "unicode/utf8.acceptRanges", "internal/bytealg.MaxLen"], plainKeys := false, apart := false, laid := [("unicode/utf8.acceptRanges", laid_unicode_utf8_acceptRanges), ("unicode/utf8.first", laid_unicode_utf8_first)] }
def FoldLiesSaid : Prop := foldLiesRow.holds Tryd.pinned (OpenSpec.ofChange foldLiesSpec)

/-- ITS FALSE NEIGHBOUR: 'it returns false'. Refute it at one input. -/
def foldLiesWrong : ChangeSpec := { name := "foldLies", fn := fun _ => fun
  | [d1, d2, d3] => { results := [.lit (.bool false)], args := [d1, d2, d3] }
  | _ => none }
def FoldLiesWrongFalsely : Prop := foldLiesRow.holds Tryd.pinned (OpenSpec.ofChange foldLiesWrong)

/-- 'tuschelaw02.FoldPiece': WHATEVER THE INPUT: true; the input reads as it did. -/
def foldPieceSpec : ChangeSpec := { name := "foldPiece", fn := fun _ => fun
  | [d1, d2, d3, d4] => { results := [.lit (.bool true)], args := [d1, d2, d3, d4] }
  | _ => none }
def foldPieceRow : OpenClaim := { program := "ytedpcenghofpoaadoor", sum := "5d8f947b6e712cd7d42085299e409d68bc1ddbf1dcb9e7b2fb2c0314d4e81528", func := "tusche/tuschelaw02.FoldPiece", spec := "foldPiece", inPlace := ["internal/bytealg.IndexByteString", "internal/bytealg.IndexString", "internal/abi.NoEscape"], unfollowed := true, recurses := true, named := ["unicode/utf8.first", "unicode/utf8.acceptRanges", "internal/bytealg.MaxLen"], plainKeys := false, apart := false, laid := [("unicode/utf8.acceptRanges", laid_unicode_utf8_acceptRanges), ("unicode/utf8.first", laid_unicode_utf8_first)] }
def FoldPieceSaid : Prop := foldPieceRow.holds Tryd.pinned (OpenSpec.ofChange foldPieceSpec)

/-- ITS FALSE NEIGHBOUR: 'it returns false'. Refute it at one input. -/
def foldPieceWrong : ChangeSpec := { name := "foldPiece", fn := fun _ => fun
  | [d1, d2, d3, d4] => { results := [.lit (.bool false)], args := [d1, d2, d3, d4] }
  | _ => none }
def FoldPieceWrongFalsely : Prop := foldPieceRow.holds Tryd.pinned (OpenSpec.ofChange foldPieceWrong)

/-- 'tuschelaw02.FoldMirrored': WHATEVER THE INPUT: true; the input reads as it did. -/
def foldMirroredSpec : ChangeSpec := { name := "foldMirrored", fn := fun _ => fun
  | [d1, d2] => { results := [.lit (.bool true)], args := [d1, d2] }
  | _ => none }
def foldMirroredRow : OpenClaim := { program := "ytedpcenghofpoaadoor", sum := "5d8f947b6e712cd7d42085299e409d68bc1ddbf1dcb9e7b2fb2c0314d4e81528", func := "tusche/tuschelaw02.FoldMirrored", spec := "foldMirrored", inPlace := ["internal/bytealg.IndexByteString", "internal/bytealg.IndexString", "internal/abi.NoEscape"], unfollowed := true, recurses := true, named := ["unicode/utf8.first", "unicode/utf8.acceptRanges", "internal/bytealg.MaxLen"], plainKeys := false, apart := false, laid := [("unicode/utf8.acceptRanges", laid_unicode_utf8_acceptRanges), ("unicode/utf8.first", laid_unicode_utf8_first)] }
def FoldMirroredSaid : Prop := foldMirroredRow.holds Tryd.pinned (OpenSpec.ofChange foldMirroredSpec)

/-- ITS FALSE NEIGHBOUR: 'it returns false'. Refute it at one input. -/
def foldMirroredWrong : ChangeSpec := { name := "foldMirrored", fn := fun _ => fun
  | [d1, d2] => { results := [.lit (.bool false)], args := [d1, d2] }
  | _ => none }
def FoldMirroredWrongFalsely : Prop := foldMirroredRow.holds Tryd.pinned (OpenSpec.ofChange foldMirroredWrong)

/-- 'tuschelaw02.FoldAll': WHATEVER THE INPUT: true; the input reads as it did. -/
def foldAllSpec : ChangeSpec := { name := "foldAll", fn := fun _ => fun
  | [d] => { results := [.lit (.bool true)], args := [d] }
  | _ => none }
def foldAllRow : OpenClaim := { program := "ytedpcenghofpoaadoor", sum := "5d8f947b6e712cd7d42085299e409d68bc1ddbf1dcb9e7b2fb2c0314d4e81528", func := "tusche/tuschelaw02.FoldAll", spec := "foldAll", inPlace := ["internal/bytealg.IndexByteString", "internal/bytealg.IndexString", "internal/abi.NoEscape"], unfollowed := true, recurses := true, named := ["unicode/utf8.first", "unicode/utf8.acceptRanges", "internal/bytealg.MaxLen"], plainKeys := false, apart := false, laid := [("unicode/utf8.acceptRanges", laid_unicode_utf8_acceptRanges), ("unicode/utf8.first", laid_unicode_utf8_first)] }
def FoldAllSaid : Prop := foldAllRow.holds Tryd.pinned (OpenSpec.ofChange foldAllSpec)

/-- ITS FALSE NEIGHBOUR: 'it returns false'. Refute it at one input. -/
def foldAllWrong : ChangeSpec := { name := "foldAll", fn := fun _ => fun
  | [d] => { results := [.lit (.bool false)], args := [d] }
  | _ => none }
def FoldAllWrongFalsely : Prop := foldAllRow.holds Tryd.pinned (OpenSpec.ofChange foldAllWrong)

/-- 'tuschelaw02.FoldPlaced': WHATEVER THE INPUT: true; the input reads as it did. -/
def foldPlacedSpec : ChangeSpec := { name := "foldPlaced", fn := fun _ => fun
  | [d] => { results := [.lit (.bool true)], args := [d] }
  | _ => none }
def foldPlacedRow : OpenClaim := { program := "ytedpcenghofpoaadoor", sum := "5d8f947b6e712cd7d42085299e409d68bc1ddbf1dcb9e7b2fb2c0314d4e81528", func := "tusche/tuschelaw02.FoldPlaced", spec := "foldPlaced", inPlace := ["internal/bytealg.IndexByteString", "internal/bytealg.IndexString", "internal/abi.NoEscape"], unfollowed := true, recurses := true, named := ["unicode/utf8.first", "unicode/utf8.acceptRanges", "internal/bytealg.MaxLen"], plainKeys := false, apart := false, laid := [("unicode/utf8.acceptRanges", laid_unicode_utf8_acceptRanges), ("unicode/utf8.first", laid_unicode_utf8_first)] }
def FoldPlacedSaid : Prop := foldPlacedRow.holds Tryd.pinned (OpenSpec.ofChange foldPlacedSpec)

/-- ITS FALSE NEIGHBOUR: 'it returns false'. Refute it at one input. -/
def foldPlacedWrong : ChangeSpec := { name := "foldPlaced", fn := fun _ => fun
  | [d] => { results := [.lit (.bool false)], args := [d] }
  | _ => none }
def FoldPlacedWrongFalsely : Prop := foldPlacedRow.holds Tryd.pinned (OpenSpec.ofChange foldPlacedWrong)

/-- 'tuschelaw02.FoldKnown': WHATEVER THE INPUT: true; the input reads as it did. -/
def foldKnownSpec : ChangeSpec := { name := "foldKnown", fn := fun _ => fun
  | [] => { results := [.lit (.bool true)], args := [] }
  | _ => none }
def foldKnownRow : OpenClaim := { program := "ytedpcenghofpoaadoor", sum := "5d8f947b6e712cd7d42085299e409d68bc1ddbf1dcb9e7b2fb2c0314d4e81528", func := "tusche/tuschelaw02.FoldKnown", spec := "foldKnown", inPlace := ["internal/bytealg.IndexByteString", "internal/bytealg.IndexString", "internal/abi.NoEscape"], unfollowed := true, recurses := true, named := ["unicode/utf8.first", "unicode/utf8.acceptRanges", "internal/bytealg.MaxLen"], plainKeys := false, apart := false, laid := [("unicode/utf8.acceptRanges", laid_unicode_utf8_acceptRanges), ("unicode/utf8.first", laid_unicode_utf8_first)] }
def FoldKnownSaid : Prop := foldKnownRow.holds Tryd.pinned (OpenSpec.ofChange foldKnownSpec)

/-- ITS FALSE NEIGHBOUR: 'it returns false'. Refute it at one input. -/
def foldKnownWrong : ChangeSpec := { name := "foldKnown", fn := fun _ => fun
  | [] => { results := [.lit (.bool false)], args := [] }
  | _ => none }
def FoldKnownWrongFalsely : Prop := foldKnownRow.holds Tryd.pinned (OpenSpec.ofChange foldKnownWrong)

/- THE SECOND FORM. 'bulk': how many values and letters a reading holds, each counted each time it is reached (what is shared counts as often as it is met; a slice's spare places count too). A statement '..UptoSaid' is the law's where the arguments, and the package variables that the reading takes, are together of bulk at most 1048576: NARROWER than '..Said'. Prove '..Said' where nothing that the law and all that it calls make is longer than what came in: it says more and counts as full. Else prove '..UptoSaid'. A law counts once. -/
mutual
def uptoBulk {H : Type} : DataW H → Nat
  | .lit (.string bytes) => bytes.length + 1
  | .lit _ => 1
  | .nil => 1
  | .ptr d => uptoBulk d + 1
  | .slice elems spare => uptoBulkAll elems + uptoBulkAll spare + 1
  | .agg parts => uptoBulkAll parts + 1
  | .iface _ d => uptoBulk d + 1
  | .map entries => uptoBulkEntries entries + 1
  | .held _ => 1
def uptoBulkAll {H : Type} : List (DataW H) → Nat
  | [] => 0
  | d :: r => uptoBulk d + uptoBulkAll r
def uptoBulkEntries {H : Type} : List (Lit × DataW H) → Nat
  | [] => 0
  | x :: r => uptoBulkEntry x + uptoBulkEntries r
def uptoBulkEntry {H : Type} : Lit × DataW H → Nat
  | (.string bytes, d) => bytes.length + uptoBulk d + 1
  | (_, d) => uptoBulk d + 1
 end
def uptoSmall : (H : Type) → List (DataW H) → Bool := fun _ ds => decide (uptoBulkAll ds ≤ 1048576)
def OpenSpec.upto (s : _root_.Go.ChangeSpec) : _root_.Go.OpenSpec := { _root_.Go.OpenSpec.ofChange s with cond := some uptoSmall }

/-- 'tuschelaw02.FoldPlaces', WHERE WHAT IT READS IS OF BULK AT MOST 1048576: true; the input reads as it did. -/
def foldPlacesUptoRow : OpenClaim := { program := "ytedpcenghofpoaadoor", sum := "5d8f947b6e712cd7d42085299e409d68bc1ddbf1dcb9e7b2fb2c0314d4e81528", func := "tusche/tuschelaw02.FoldPlaces", spec := "foldPlaces", inPlace := ["internal/bytealg.IndexByteString", "internal/bytealg.IndexString", "internal/abi.NoEscape"], unfollowed := true, recurses := true, named := ["unicode/utf8.first", "unicode/utf8.acceptRanges", "internal/bytealg.MaxLen"], plainKeys := false, apart := false, laid := [("unicode/utf8.acceptRanges", laid_unicode_utf8_acceptRanges), ("unicode/utf8.first", laid_unicode_utf8_first)], narrowed := true }
def FoldPlacesUptoSaid : Prop := foldPlacesUptoRow.holds Tryd.pinned (OpenSpec.upto foldPlacesSpec)

/-- 'tuschelaw02.FoldOrders', WHERE WHAT IT READS IS OF BULK AT MOST 1048576: true; the input reads as it did. -/
def foldOrdersUptoRow : OpenClaim := { program := "ytedpcenghofpoaadoor", sum := "5d8f947b6e712cd7d42085299e409d68bc1ddbf1dcb9e7b2fb2c0314d4e81528", func := "tusche/tuschelaw02.FoldOrders", spec := "foldOrders", inPlace := ["internal/bytealg.IndexByteString", "internal/bytealg.IndexString", "internal/abi.NoEscape"], unfollowed := true, recurses := true, named := ["unicode/utf8.first", "unicode/utf8.acceptRanges", "internal/bytealg.MaxLen"], plainKeys := false, apart := false, laid := [("unicode/utf8.acceptRanges", laid_unicode_utf8_acceptRanges), ("unicode/utf8.first", laid_unicode_utf8_first)], narrowed := true }
def FoldOrdersUptoSaid : Prop := foldOrdersUptoRow.holds Tryd.pinned (OpenSpec.upto foldOrdersSpec)

/-- 'tuschelaw02.FoldSteps', WHERE WHAT IT READS IS OF BULK AT MOST 1048576: true; the input reads as it did. -/
def foldStepsUptoRow : OpenClaim := { program := "ytedpcenghofpoaadoor", sum := "5d8f947b6e712cd7d42085299e409d68bc1ddbf1dcb9e7b2fb2c0314d4e81528", func := "tusche/tuschelaw02.FoldSteps", spec := "foldSteps", inPlace := ["internal/bytealg.IndexByteString", "internal/bytealg.IndexString", "internal/abi.NoEscape"], unfollowed := true, recurses := true, named := ["unicode/utf8.first", "unicode/utf8.acceptRanges", "internal/bytealg.MaxLen"], plainKeys := false, apart := false, laid := [("unicode/utf8.acceptRanges", laid_unicode_utf8_acceptRanges), ("unicode/utf8.first", laid_unicode_utf8_first)], narrowed := true }
def FoldStepsUptoSaid : Prop := foldStepsUptoRow.holds Tryd.pinned (OpenSpec.upto foldStepsSpec)

/-- 'tuschelaw02.FoldFlat', WHERE WHAT IT READS IS OF BULK AT MOST 1048576: true; the input reads as it did. -/
def foldFlatUptoRow : OpenClaim := { program := "ytedpcenghofpoaadoor", sum := "5d8f947b6e712cd7d42085299e409d68bc1ddbf1dcb9e7b2fb2c0314d4e81528", func := "tusche/tuschelaw02.FoldFlat", spec := "foldFlat", inPlace := ["internal/bytealg.IndexByteString", "internal/bytealg.IndexString", "internal/abi.NoEscape"], unfollowed := true, recurses := true, named := ["unicode/utf8.first", "unicode/utf8.acceptRanges", "internal/bytealg.MaxLen"], plainKeys := false, apart := false, laid := [("unicode/utf8.acceptRanges", laid_unicode_utf8_acceptRanges), ("unicode/utf8.first", laid_unicode_utf8_first)], narrowed := true }
def FoldFlatUptoSaid : Prop := foldFlatUptoRow.holds Tryd.pinned (OpenSpec.upto foldFlatSpec)

/-- 'tuschelaw02.FoldAny', WHERE WHAT IT READS IS OF BULK AT MOST 1048576: true; the input reads as it did. -/
def foldAnyUptoRow : OpenClaim := { program := "ytedpcenghofpoaadoor", sum := "5d8f947b6e712cd7d42085299e409d68bc1ddbf1dcb9e7b2fb2c0314d4e81528", func := "tusche/tuschelaw02.FoldAny", spec := "foldAny", inPlace := ["internal/bytealg.IndexByteString", "internal/bytealg.IndexString", "internal/abi.NoEscape"], unfollowed := true, recurses := true, named := ["unicode/utf8.first", "unicode/utf8.acceptRanges", "internal/bytealg.MaxLen"], plainKeys := false, apart := false, laid := [("unicode/utf8.acceptRanges", laid_unicode_utf8_acceptRanges), ("unicode/utf8.first", laid_unicode_utf8_first)], narrowed := true }
def FoldAnyUptoSaid : Prop := foldAnyUptoRow.holds Tryd.pinned (OpenSpec.upto foldAnySpec)

/-- 'tuschelaw02.FoldLies', WHERE WHAT IT READS IS OF BULK AT MOST 1048576: true; the input reads as it did. -/
def foldLiesUptoRow : OpenClaim := { program := "ytedpcenghofpoaadoor", sum := "5d8f947b6e712cd7d42085299e409d68bc1ddbf1dcb9e7b2fb2c0314d4e81528", func := "tusche/tuschelaw02.FoldLies", spec := "foldLies", inPlace := ["internal/bytealg.IndexByteString", "internal/bytealg.IndexString", "internal/abi.NoEscape"], unfollowed := true, recurses := true, named := ["unicode/utf8.first", "unicode/utf8.acceptRanges", "internal/bytealg.MaxLen"], plainKeys := false, apart := false, laid := [("unicode/utf8.acceptRanges", laid_unicode_utf8_acceptRanges), ("unicode/utf8.first", laid_unicode_utf8_first)], narrowed := true }
def FoldLiesUptoSaid : Prop := foldLiesUptoRow.holds Tryd.pinned (OpenSpec.upto foldLiesSpec)

/-- 'tuschelaw02.FoldPiece', WHERE WHAT IT READS IS OF BULK AT MOST 1048576: true; the input reads as it did. -/
def foldPieceUptoRow : OpenClaim := { program := "ytedpcenghofpoaadoor", sum := "5d8f947b6e712cd7d42085299e409d68bc1ddbf1dcb9e7b2fb2c0314d4e81528", func := "tusche/tuschelaw02.FoldPiece", spec := "foldPiece", inPlace := ["internal/bytealg.IndexByteString", "internal/bytealg.IndexString", "internal/abi.NoEscape"], unfollowed := true, recurses := true, named := ["unicode/utf8.first", "unicode/utf8.acceptRanges", "internal/bytealg.MaxLen"], plainKeys := false, apart := false, laid := [("unicode/utf8.acceptRanges", laid_unicode_utf8_acceptRanges), ("unicode/utf8.first", laid_unicode_utf8_first)], narrowed := true }
def FoldPieceUptoSaid : Prop := foldPieceUptoRow.holds Tryd.pinned (OpenSpec.upto foldPieceSpec)

/-- 'tuschelaw02.FoldMirrored', WHERE WHAT IT READS IS OF BULK AT MOST 1048576: true; the input reads as it did. -/
def foldMirroredUptoRow : OpenClaim := { program := "ytedpcenghofpoaadoor", sum := "5d8f947b6e712cd7d42085299e409d68bc1ddbf1dcb9e7b2fb2c0314d4e81528", func := "tusche/tuschelaw02.FoldMirrored", spec := "foldMirrored", inPlace := ["internal/bytealg.IndexByteString", "internal/bytealg.IndexString", "internal/abi.NoEscape"], unfollowed := true, recurses := true, named := ["unicode/utf8.first", "unicode/utf8.acceptRanges", "internal/bytealg.MaxLen"], plainKeys := false, apart := false, laid := [("unicode/utf8.acceptRanges", laid_unicode_utf8_acceptRanges), ("unicode/utf8.first", laid_unicode_utf8_first)], narrowed := true }
def FoldMirroredUptoSaid : Prop := foldMirroredUptoRow.holds Tryd.pinned (OpenSpec.upto foldMirroredSpec)

/-- 'tuschelaw02.FoldAll', WHERE WHAT IT READS IS OF BULK AT MOST 1048576: true; the input reads as it did. -/
def foldAllUptoRow : OpenClaim := { program := "ytedpcenghofpoaadoor", sum := "5d8f947b6e712cd7d42085299e409d68bc1ddbf1dcb9e7b2fb2c0314d4e81528", func := "tusche/tuschelaw02.FoldAll", spec := "foldAll", inPlace := ["internal/bytealg.IndexByteString", "internal/bytealg.IndexString", "internal/abi.NoEscape"], unfollowed := true, recurses := true, named := ["unicode/utf8.first", "unicode/utf8.acceptRanges", "internal/bytealg.MaxLen"], plainKeys := false, apart := false, laid := [("unicode/utf8.acceptRanges", laid_unicode_utf8_acceptRanges), ("unicode/utf8.first", laid_unicode_utf8_first)], narrowed := true }
def FoldAllUptoSaid : Prop := foldAllUptoRow.holds Tryd.pinned (OpenSpec.upto foldAllSpec)

/-- 'tuschelaw02.FoldPlaced', WHERE WHAT IT READS IS OF BULK AT MOST 1048576: true; the input reads as it did. -/
def foldPlacedUptoRow : OpenClaim := { program := "ytedpcenghofpoaadoor", sum := "5d8f947b6e712cd7d42085299e409d68bc1ddbf1dcb9e7b2fb2c0314d4e81528", func := "tusche/tuschelaw02.FoldPlaced", spec := "foldPlaced", inPlace := ["internal/bytealg.IndexByteString", "internal/bytealg.IndexString", "internal/abi.NoEscape"], unfollowed := true, recurses := true, named := ["unicode/utf8.first", "unicode/utf8.acceptRanges", "internal/bytealg.MaxLen"], plainKeys := false, apart := false, laid := [("unicode/utf8.acceptRanges", laid_unicode_utf8_acceptRanges), ("unicode/utf8.first", laid_unicode_utf8_first)], narrowed := true }
def FoldPlacedUptoSaid : Prop := foldPlacedUptoRow.holds Tryd.pinned (OpenSpec.upto foldPlacedSpec)

/-- 'tuschelaw02.FoldKnown', WHERE WHAT IT READS IS OF BULK AT MOST 1048576: true; the input reads as it did. -/
def foldKnownUptoRow : OpenClaim := { program := "ytedpcenghofpoaadoor", sum := "5d8f947b6e712cd7d42085299e409d68bc1ddbf1dcb9e7b2fb2c0314d4e81528", func := "tusche/tuschelaw02.FoldKnown", spec := "foldKnown", inPlace := ["internal/bytealg.IndexByteString", "internal/bytealg.IndexString", "internal/abi.NoEscape"], unfollowed := true, recurses := true, named := ["unicode/utf8.first", "unicode/utf8.acceptRanges", "internal/bytealg.MaxLen"], plainKeys := false, apart := false, laid := [("unicode/utf8.acceptRanges", laid_unicode_utf8_acceptRanges), ("unicode/utf8.first", laid_unicode_utf8_first)], narrowed := true }
def FoldKnownUptoSaid : Prop := foldKnownUptoRow.holds Tryd.pinned (OpenSpec.upto foldKnownSpec)

end Rows
end Go.Proofs.YtedpcenghofpoaaDoor
