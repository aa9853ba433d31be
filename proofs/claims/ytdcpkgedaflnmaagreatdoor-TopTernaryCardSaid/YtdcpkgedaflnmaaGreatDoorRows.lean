/-
  NARROWER THAN 'FOR EVERY INPUT', by the rows' own cells (each row's printed sentence says how): TopRolled: laid · TopInked: laid · TopCycled: laid · TopNumbered: laid · TopLayered: laid · TopTernary: laid.
  DERIVED. THE GIVEN ROWS OF THIS SEAT. 6 by the template 'for every input the law returns true; each argument reads behind the call as it read before'; 0 by the template 'total and deterministic' (their statements: YtdcpkgedaflnmaaGreatDoorTotals.lean).
  GIVEN WITH THE SEED: the statements are not yours to turn. If you find one false, say at which input.
  Laid BY PROGRAM, IN A SANDBOX (cutbox-rows.mjs): the forced cells as the released guide's own fill.sh prints them over the translation c5e1268cfeaca48b… (all of the seat's roots in one cut). By AI agents, Wed Nov 11 2026. No macro, syntax, notation, axiom, sorry.
-/
import Derived.Test.YtdcpkgedaflnmaaGreatDoorChecked
import GoSem.PinnedTables
import GoSem.Claim
import GoSem.ClaimJoined
import GoSem.ClaimMapViews
import Derived.JoinedTies
import Derived.KernelRfl
namespace Go.Proofs.YtdcpkgedaflnmaaGreatDoor
/- THE CELL 'sum', in the pinned program and in every row, IS THE sha256 OF THE DUMP (.gsa) THAT YtdcpkgedaflnmaaGreatDoorProg.lean LOADS. Nothing in Lean hashes anything: it is a label: what it is worth is what the hold of that sum in a sandbox is worth. -/
noncomputable def Tryz.pinned : Pinned := { name := "ytdcpkgedaflnmaagreatdoor", sum := "c5e1268cfeaca48b7b78df68b85525e0cf272ae18b47d1cd51edfb1bfd11e84e", checked := Tryz.checked }
namespace Rows
def none {H : Type} : Left H := { results := [], args := [] }

/- WHAT THE LISTED PACKAGE-LEVEL VARIABLES READ AS WHEN THE CALL BEGINS. Each datum BY PROGRAM (the guide's laid-datum.mjs) off the statement by which the dump's own 'gosem.cut.vars' lays the variable. In a bare row this is a premise. The card (YtdcpkgedaflnmaaGreatDoorCards.lean) ties it to the program's text. -/
def laid_unicode_utf8_acceptRanges {H : Type} : DataW H := .agg [.agg [.lit (.int .u8 128), .lit (.int .u8 191)], .agg [.lit (.int .u8 160), .lit (.int .u8 191)], .agg [.lit (.int .u8 128), .lit (.int .u8 159)], .agg [.lit (.int .u8 144), .lit (.int .u8 191)], .agg [.lit (.int .u8 128), .lit (.int .u8 143)], .agg [.lit (.int .u8 0), .lit (.int .u8 0)], .agg [.lit (.int .u8 0), .lit (.int .u8 0)], .agg [.lit (.int .u8 0), .lit (.int .u8 0)], .agg [.lit (.int .u8 0), .lit (.int .u8 0)], .agg [.lit (.int .u8 0), .lit (.int .u8 0)], .agg [.lit (.int .u8 0), .lit (.int .u8 0)], .agg [.lit (.int .u8 0), .lit (.int .u8 0)], .agg [.lit (.int .u8 0), .lit (.int .u8 0)], .agg [.lit (.int .u8 0), .lit (.int .u8 0)], .agg [.lit (.int .u8 0), .lit (.int .u8 0)], .agg [.lit (.int .u8 0), .lit (.int .u8 0)]]
/-- One of Go's own tables, pinned by name: the form's constant. -/
def laid_unicode_utf8_first : DataW Unit := Go.Pinned.utf8First

/-- 'tuschetop.TopRolled': WHATEVER THE INPUT: true; the input reads as it did. -/
def topRolledSpec : ChangeSpec := { name := "topRolled", fn := fun _ => fun
  | [d] => { results := [.lit (.bool true)], args := [d] }
  | _ => none }
def topRolledRow : OpenClaim := { program := "ytdcpkgedaflnmaagreatdoor", sum := "c5e1268cfeaca48b7b78df68b85525e0cf272ae18b47d1cd51edfb1bfd11e84e", func := "tusche/tuschetop.TopRolled", spec := "topRolled", inPlace := ["internal/bytealg.IndexByteString", "internal/bytealg.IndexString", "internal/abi.NoEscape"], unfollowed := true, recurses := true, named := ["unicode/utf8.first", "unicode/utf8.acceptRanges", "internal/bytealg.MaxLen"], plainKeys := false, apart := false, laid := [("unicode/utf8.acceptRanges", laid_unicode_utf8_acceptRanges), ("unicode/utf8.first", laid_unicode_utf8_first)] }
def TopRolledSaid : Prop := topRolledRow.holds Tryz.pinned (OpenSpec.ofChange topRolledSpec)

/-- ITS FALSE NEIGHBOUR: 'it returns false'. Refute it at one input. -/
def topRolledWrong : ChangeSpec := { name := "topRolled", fn := fun _ => fun
  | [d] => { results := [.lit (.bool false)], args := [d] }
  | _ => none }
def TopRolledWrongFalsely : Prop := topRolledRow.holds Tryz.pinned (OpenSpec.ofChange topRolledWrong)

/-- 'tuschetop.TopInked': WHATEVER THE INPUT: true; the input reads as it did. -/
def topInkedSpec : ChangeSpec := { name := "topInked", fn := fun _ => fun
  | [d1, d2, d3] => { results := [.lit (.bool true)], args := [d1, d2, d3] }
  | _ => none }
def topInkedRow : OpenClaim := { program := "ytdcpkgedaflnmaagreatdoor", sum := "c5e1268cfeaca48b7b78df68b85525e0cf272ae18b47d1cd51edfb1bfd11e84e", func := "tusche/tuschetop.TopInked", spec := "topInked", inPlace := ["internal/bytealg.IndexByteString", "internal/bytealg.IndexString", "internal/abi.NoEscape"], unfollowed := true, recurses := true, named := ["unicode/utf8.first", "unicode/utf8.acceptRanges", "internal/bytealg.MaxLen"], plainKeys := false, apart := false, laid := [("unicode/utf8.acceptRanges", laid_unicode_utf8_acceptRanges), ("unicode/utf8.first", laid_unicode_utf8_first)] }
def TopInkedSaid : Prop := topInkedRow.holds Tryz.pinned (OpenSpec.ofChange topInkedSpec)

/-- ITS FALSE NEIGHBOUR: 'it returns false'. Refute it at one input. -/
def topInkedWrong : ChangeSpec := { name := "topInked", fn := fun _ => fun
  | [d1, d2, d3] => { results := [.lit (.bool false)], args := [d1, d2, d3] }
  | _ => none }
def TopInkedWrongFalsely : Prop := topInkedRow.holds Tryz.pinned (OpenSpec.ofChange topInkedWrong)

/-- 'tuschetop.TopCycled': WHATEVER THE INPUT: true; the input reads as it did. -/
def topCycledSpec : ChangeSpec := { name := "topCycled", fn := fun _ => fun
  | [d1, d2, d3, d4] => { results := [.lit (.bool true)], args := [d1, d2, d3, d4] }
  | _ => none }
def topCycledRow : OpenClaim := { program := "ytdcpkgedaflnmaagreatdoor", sum := "c5e1268cfeaca48b7b78df68b85525e0cf272ae18b47d1cd51edfb1bfd11e84e", func := "tusche/tuschetop.TopCycled", spec := "topCycled", inPlace := ["internal/bytealg.IndexByteString", "internal/bytealg.IndexString", "internal/abi.NoEscape"], unfollowed := true, recurses := true, named := ["unicode/utf8.first", "unicode/utf8.acceptRanges", "internal/bytealg.MaxLen"], plainKeys := false, apart := false, laid := [("unicode/utf8.acceptRanges", laid_unicode_utf8_acceptRanges), ("unicode/utf8.first", laid_unicode_utf8_first)] }
def TopCycledSaid : Prop := topCycledRow.holds Tryz.pinned (OpenSpec.ofChange topCycledSpec)

/-- ITS FALSE NEIGHBOUR: 'it returns false'. Refute it at one input. -/
def topCycledWrong : ChangeSpec := { name := "topCycled", fn := fun _ => fun
  | [d1, d2, d3, d4] => { results := [.lit (.bool false)], args := [d1, d2, d3, d4] }
  | _ => none }
def TopCycledWrongFalsely : Prop := topCycledRow.holds Tryz.pinned (OpenSpec.ofChange topCycledWrong)

/-- 'tuschetop.TopNumbered': WHATEVER THE INPUT: true; the input reads as it did. -/
def topNumberedSpec : ChangeSpec := { name := "topNumbered", fn := fun _ => fun
  | [d1, d2, d3, d4, d5] => { results := [.lit (.bool true)], args := [d1, d2, d3, d4, d5] }
  | _ => none }
def topNumberedRow : OpenClaim := { program := "ytdcpkgedaflnmaagreatdoor", sum := "c5e1268cfeaca48b7b78df68b85525e0cf272ae18b47d1cd51edfb1bfd11e84e", func := "tusche/tuschetop.TopNumbered", spec := "topNumbered", inPlace := ["internal/bytealg.IndexByteString", "internal/bytealg.IndexString", "internal/abi.NoEscape"], unfollowed := true, recurses := true, named := ["unicode/utf8.first", "unicode/utf8.acceptRanges", "internal/bytealg.MaxLen"], plainKeys := false, apart := false, laid := [("unicode/utf8.acceptRanges", laid_unicode_utf8_acceptRanges), ("unicode/utf8.first", laid_unicode_utf8_first)] }
def TopNumberedSaid : Prop := topNumberedRow.holds Tryz.pinned (OpenSpec.ofChange topNumberedSpec)

/-- ITS FALSE NEIGHBOUR: 'it returns false'. Refute it at one input. -/
def topNumberedWrong : ChangeSpec := { name := "topNumbered", fn := fun _ => fun
  | [d1, d2, d3, d4, d5] => { results := [.lit (.bool false)], args := [d1, d2, d3, d4, d5] }
  | _ => none }
def TopNumberedWrongFalsely : Prop := topNumberedRow.holds Tryz.pinned (OpenSpec.ofChange topNumberedWrong)

/-- 'tuschetop.TopLayered': WHATEVER THE INPUT: true; the input reads as it did. -/
def topLayeredSpec : ChangeSpec := { name := "topLayered", fn := fun _ => fun
  | [d1, d2] => { results := [.lit (.bool true)], args := [d1, d2] }
  | _ => none }
def topLayeredRow : OpenClaim := { program := "ytdcpkgedaflnmaagreatdoor", sum := "c5e1268cfeaca48b7b78df68b85525e0cf272ae18b47d1cd51edfb1bfd11e84e", func := "tusche/tuschetop.TopLayered", spec := "topLayered", inPlace := ["internal/bytealg.IndexByteString", "internal/bytealg.IndexString", "internal/abi.NoEscape"], unfollowed := true, recurses := true, named := ["unicode/utf8.first", "unicode/utf8.acceptRanges", "internal/bytealg.MaxLen"], plainKeys := false, apart := false, laid := [("unicode/utf8.acceptRanges", laid_unicode_utf8_acceptRanges), ("unicode/utf8.first", laid_unicode_utf8_first)] }
def TopLayeredSaid : Prop := topLayeredRow.holds Tryz.pinned (OpenSpec.ofChange topLayeredSpec)

/-- ITS FALSE NEIGHBOUR: 'it returns false'. Refute it at one input. -/
def topLayeredWrong : ChangeSpec := { name := "topLayered", fn := fun _ => fun
  | [d1, d2] => { results := [.lit (.bool false)], args := [d1, d2] }
  | _ => none }
def TopLayeredWrongFalsely : Prop := topLayeredRow.holds Tryz.pinned (OpenSpec.ofChange topLayeredWrong)

/-- 'tuschetop.TopTernary': WHATEVER THE INPUT: true; the input reads as it did. -/
def topTernarySpec : ChangeSpec := { name := "topTernary", fn := fun _ => fun
  | [d1, d2] => { results := [.lit (.bool true)], args := [d1, d2] }
  | _ => none }
def topTernaryRow : OpenClaim := { program := "ytdcpkgedaflnmaagreatdoor", sum := "c5e1268cfeaca48b7b78df68b85525e0cf272ae18b47d1cd51edfb1bfd11e84e", func := "tusche/tuschetop.TopTernary", spec := "topTernary", inPlace := ["internal/bytealg.IndexByteString", "internal/bytealg.IndexString", "internal/abi.NoEscape"], unfollowed := true, recurses := true, named := ["unicode/utf8.first", "unicode/utf8.acceptRanges", "internal/bytealg.MaxLen"], plainKeys := false, apart := false, laid := [("unicode/utf8.acceptRanges", laid_unicode_utf8_acceptRanges), ("unicode/utf8.first", laid_unicode_utf8_first)] }
def TopTernarySaid : Prop := topTernaryRow.holds Tryz.pinned (OpenSpec.ofChange topTernarySpec)

/-- ITS FALSE NEIGHBOUR: 'it returns false'. Refute it at one input. -/
def topTernaryWrong : ChangeSpec := { name := "topTernary", fn := fun _ => fun
  | [d1, d2] => { results := [.lit (.bool false)], args := [d1, d2] }
  | _ => none }
def TopTernaryWrongFalsely : Prop := topTernaryRow.holds Tryz.pinned (OpenSpec.ofChange topTernaryWrong)

/- THE SECOND FORM. 'bulk': how many values and letters a reading holds, each counted each time it is reached (what is shared counts as often as it is met; a slice's spare places count too). A statement '..UptoSaid' is the law's where the arguments, and the package variables that the reading takes, are together of bulk at most 1048576: NARROWER than '..Said'. Prove '..Said' where nothing that the law and all that it calls make is longer than what came in: it says more and counts as full. Else prove '..UptoSaid'. A law counts once. -/
mutual
def uptoBulk {H : Type} : DataW H → Nat
  | .lit (.string bytes) => bytes.length + 1
  | .lit _ => 1
  | .nil => 1
  | .ptr d => uptoBulk d + 1
  | .slice elems spare => uptoBulkAll elems + uptoBulkAll spare + 1
  | .agg parts => uptoBulkAll parts + 1
  | .iface _ d => uptoBulk d + 1
  | .map entries => uptoBulkEntries entries + 1
  | .held _ => 1
def uptoBulkAll {H : Type} : List (DataW H) → Nat
  | [] => 0
  | d :: r => uptoBulk d + uptoBulkAll r
def uptoBulkEntries {H : Type} : List (Lit × DataW H) → Nat
  | [] => 0
  | x :: r => uptoBulkEntry x + uptoBulkEntries r
def uptoBulkEntry {H : Type} : Lit × DataW H → Nat
  | (.string bytes, d) => bytes.length + uptoBulk d + 1
  | (_, d) => uptoBulk d + 1
 end
def uptoSmall : (H : Type) → List (DataW H) → Bool := fun _ ds => decide (uptoBulkAll ds ≤ 1048576)
def OpenSpec.upto (s : _root_.Go.ChangeSpec) : _root_.Go.OpenSpec := { _root_.Go.OpenSpec.ofChange s with cond := some uptoSmall }

/-- 'tuschetop.TopRolled', WHERE WHAT IT READS IS OF BULK AT MOST 1048576: true; the input reads as it did. -/
def topRolledUptoRow : OpenClaim := { program := "ytdcpkgedaflnmaagreatdoor", sum := "c5e1268cfeaca48b7b78df68b85525e0cf272ae18b47d1cd51edfb1bfd11e84e", func := "tusche/tuschetop.TopRolled", spec := "topRolled", inPlace := ["internal/bytealg.IndexByteString", "internal/bytealg.IndexString", "internal/abi.NoEscape"], unfollowed := true, recurses := true, named := ["unicode/utf8.first", "unicode/utf8.acceptRanges", "internal/bytealg.MaxLen"], plainKeys := false, apart := false, laid := [("unicode/utf8.acceptRanges", laid_unicode_utf8_acceptRanges), ("unicode/utf8.first", laid_unicode_utf8_first)], narrowed := true }
def TopRolledUptoSaid : Prop := topRolledUptoRow.holds Tryz.pinned (OpenSpec.upto topRolledSpec)

/-- 'tuschetop.TopInked', WHERE WHAT IT READS IS OF BULK AT MOST 1048576: true; the input reads as it did. -/
def topInkedUptoRow : OpenClaim := { program := "ytdcpkgedaflnmaagreatdoor", sum := "c5e1268cfeaca48b7b78df68b85525e0cf272ae18b47d1cd51edfb1bfd11e84e", func := "tusche/tuschetop.TopInked", spec := "topInked", inPlace := ["internal/bytealg.IndexByteString", "internal/bytealg.IndexString", "internal/abi.NoEscape"], unfollowed := true, recurses := true, named := ["unicode/utf8.first", "unicode/utf8.acceptRanges", "internal/bytealg.MaxLen"], plainKeys := false, apart := false, laid := [("unicode/utf8.acceptRanges", laid_unicode_utf8_acceptRanges), ("unicode/utf8.first", laid_unicode_utf8_first)], narrowed := true }
def TopInkedUptoSaid : Prop := topInkedUptoRow.holds Tryz.pinned (OpenSpec.upto topInkedSpec)

/-- 'tuschetop.TopCycled', WHERE WHAT IT READS IS OF BULK AT MOST 1048576: true; the input reads as it did. -/
def topCycledUptoRow : OpenClaim := { program := "ytdcpkgedaflnmaagreatdoor", sum := "c5e1268cfeaca48b7b78df68b85525e0cf272ae18b47d1cd51edfb1bfd11e84e", func := "tusche/tuschetop.TopCycled", spec := "topCycled", inPlace := ["internal/bytealg.IndexByteString", "internal/bytealg.IndexString", "internal/abi.NoEscape"], unfollowed := true, recurses := true, named := ["unicode/utf8.first", "unicode/utf8.acceptRanges", "internal/bytealg.MaxLen"], plainKeys := false, apart := false, laid := [("unicode/utf8.acceptRanges", laid_unicode_utf8_acceptRanges), ("unicode/utf8.first", laid_unicode_utf8_first)], narrowed := true }
def TopCycledUptoSaid : Prop := topCycledUptoRow.holds Tryz.pinned (OpenSpec.upto topCycledSpec)

/-- 'tuschetop.TopNumbered', WHERE WHAT IT READS IS OF BULK AT MOST 1048576: true; the input reads as it did. -/
def topNumberedUptoRow : OpenClaim := { program := "ytdcpkgedaflnmaagreatdoor", sum := "c5e1268cfeaca48b7b78df68b85525e0cf272ae18b47d1cd51edfb1bfd11e84e", func := "tusche/tuschetop.TopNumbered", spec := "topNumbered", inPlace := ["internal/bytealg.IndexByteString", "internal/bytealg.IndexString", "internal/abi.NoEscape"], unfollowed := true, recurses := true, named := ["unicode/utf8.first", "unicode/utf8.acceptRanges", "internal/bytealg.MaxLen"], plainKeys := false, apart := false, laid := [("unicode/utf8.acceptRanges", laid_unicode_utf8_acceptRanges), ("unicode/utf8.first", laid_unicode_utf8_first)], narrowed := true }
def TopNumberedUptoSaid : Prop := topNumberedUptoRow.holds Tryz.pinned (OpenSpec.upto topNumberedSpec)

/-- 'tuschetop.TopLayered', WHERE WHAT IT READS IS OF BULK AT MOST 1048576: true; the input reads as it did. -/
def topLayeredUptoRow : OpenClaim := { program := "ytdcpkgedaflnmaagreatdoor", sum := "c5e1268cfeaca48b7b78df68b85525e0cf272ae18b47d1cd51edfb1bfd11e84e", func := "tusche/tuschetop.TopLayered", spec := "topLayered", inPlace := ["internal/bytealg.IndexByteString", "internal/bytealg.IndexString", "internal/abi.NoEscape"], unfollowed := true, recurses := true, named := ["unicode/utf8.first", "unicode/utf8.acceptRanges", "internal/bytealg.MaxLen"], plainKeys := false, apart := false, laid := [("unicode/utf8.acceptRanges", laid_unicode_utf8_acceptRanges), ("unicode/utf8.first", laid_unicode_utf8_first)], narrowed := true }
def TopLayeredUptoSaid : Prop := topLayeredUptoRow.holds Tryz.pinned (OpenSpec.upto topLayeredSpec)

/-- 'tuschetop.TopTernary', WHERE WHAT IT READS IS OF BULK AT MOST 1048576: true; the input reads as it did. -/
def topTernaryUptoRow : OpenClaim := { program := "ytdcpkgedaflnmaagreatdoor", sum := "c5e1268cfeaca48b7b78df68b85525e0cf272ae18b47d1cd51edfb1bfd11e84e", func := "tusche/tuschetop.TopTernary", spec := "topTernary", inPlace := ["internal/bytealg.IndexByteString", "internal/bytealg.IndexString", "internal/abi.NoEscape"], unfollowed := true, recurses := true, named := ["unicode/utf8.first", "unicode/utf8.acceptRanges", "internal/bytealg.MaxLen"], plainKeys := false, apart := false, laid := [("unicode/utf8.acceptRanges", laid_unicode_utf8_acceptRanges), ("unicode/utf8.first", laid_unicode_utf8_first)], narrowed := true }
def TopTernaryUptoSaid : Prop := topTernaryUptoRow.holds Tryz.pinned (OpenSpec.upto topTernarySpec)

end Rows
end Go.Proofs.YtdcpkgedaflnmaaGreatDoor
