/-
  NARROWER THAN 'FOR EVERY INPUT', by the rows' own cells (each row's printed sentence says how): TopBordered: laid · TopPowered: laid · TopChained: laid.
  DERIVED. THE GIVEN ROWS OF THIS SEAT. 3 by the template 'for every input the law returns true; each argument reads behind the call as it read before'; 0 by the template 'total and deterministic' (their statements: YtdcpkgedaflnmaaDoorTotals.lean).
  GIVEN WITH THE SEED: the statements are not yours to turn. If you find one false, say at which input.
  Laid BY PROGRAM, IN A SANDBOX (cutbox-rows.mjs): the forced cells as the released guide's own fill.sh prints them over the translation ebacf705ecadbd66… (all of the seat's roots in one cut). By AI agents, Wed Nov 11 2026. No macro, syntax, notation, axiom, sorry.
-/
import Derived.Test.YtdcpkgedaflnmaaDoorChecked
import GoSem.PinnedTables
import GoSem.Claim
import GoSem.ClaimJoined
import GoSem.ClaimMapViews
import Derived.JoinedTies
import Derived.KernelRfl
namespace Go.Proofs.YtdcpkgedaflnmaaDoor
/- THE CELL 'sum', in the pinned program and in every row, IS THE sha256 OF THE DUMP (.gsa) THAT YtdcpkgedaflnmaaDoorProg.lean LOADS. Nothing in Lean hashes anything: it is a label: what it is worth is what the hold of that sum in a sandbox is worth. -/
noncomputable def Tryd.pinned : Pinned := { name := "ytdcpkgedaflnmaadoor", sum := "ebacf705ecadbd66a4e30a6e6014e779feaf50732a8859857dd7a16770496bf0", checked := Tryd.checked }
namespace Rows
def none {H : Type} : Left H := { results := [], args := [] }

/- WHAT THE LISTED PACKAGE-LEVEL VARIABLES READ AS WHEN THE CALL BEGINS. Each datum BY PROGRAM (the guide's laid-datum.mjs) off the statement by which the dump's own 'gosem.cut.vars' lays the variable. In a bare row this is a premise. The card (YtdcpkgedaflnmaaDoorCards.lean) ties it to the program's text. -/
def laid_tusche_mark_count {H : Type} : DataW H := .slice [.lit (.int .i64 0), .lit (.int .i64 1), .lit (.int .i64 1), .lit (.int .i64 2), .lit (.int .i64 1), .lit (.int .i64 2), .lit (.int .i64 2), .lit (.int .i64 3), .lit (.int .i64 1), .lit (.int .i64 2), .lit (.int .i64 2), .lit (.int .i64 3), .lit (.int .i64 2), .lit (.int .i64 3), .lit (.int .i64 3), .lit (.int .i64 4)] []
def laid_unicode_utf8_acceptRanges {H : Type} : DataW H := .agg [.agg [.lit (.int .u8 128), .lit (.int .u8 191)], .agg [.lit (.int .u8 160), .lit (.int .u8 191)], .agg [.lit (.int .u8 128), .lit (.int .u8 159)], .agg [.lit (.int .u8 144), .lit (.int .u8 191)], .agg [.lit (.int .u8 128), .lit (.int .u8 143)], .agg [.lit (.int .u8 0), .lit (.int .u8 0)], .agg [.lit (.int .u8 0), .lit (.int .u8 0)], .agg [.lit (.int .u8 0), .lit (.int .u8 0)], .agg [.lit (.int .u8 0), .lit (.int .u8 0)], .agg [.lit (.int .u8 0), .lit (.int .u8 0)], .agg [.lit (.int .u8 0), .lit (.int .u8 0)], .agg [.lit (.int .u8 0), .lit (.int .u8 0)], .agg [.lit (.int .u8 0), .lit (.int .u8 0)], .agg [.lit (.int .u8 0), .lit (.int .u8 0)], .agg [.lit (.int .u8 0), .lit (.int .u8 0)], .agg [.lit (.int .u8 0), .lit (.int .u8 0)]]
/-- One of Go's own tables, pinned by name: the form's constant. -/
def laid_unicode_utf8_first : DataW Unit := Go.Pinned.utf8First

/-- 'tuschetop.TopBordered': WHATEVER THE INPUT: true; the input reads as it did. -/
def topBorderedSpec : ChangeSpec := { name := "topBordered", fn := fun _ => fun
  | [d] => { results := [.lit (.bool true)], args := [d] }
  | _ => none }
def topBorderedRow : OpenClaim := { program := "ytdcpkgedaflnmaadoor", sum := "ebacf705ecadbd66a4e30a6e6014e779feaf50732a8859857dd7a16770496bf0", func := "tusche/tuschetop.TopBordered", spec := "topBordered", unfollowed := true, recurses := true, named := ["tusche/mark.count"], plainKeys := false, apart := false, laid := [("tusche/mark.count", laid_tusche_mark_count)] }
def TopBorderedSaid : Prop := topBorderedRow.holds Tryd.pinned (OpenSpec.ofChange topBorderedSpec)

/-- ITS FALSE NEIGHBOUR: 'it returns false'. Refute it at one input. -/
def topBorderedWrong : ChangeSpec := { name := "topBordered", fn := fun _ => fun
  | [d] => { results := [.lit (.bool false)], args := [d] }
  | _ => none }
def TopBorderedWrongFalsely : Prop := topBorderedRow.holds Tryd.pinned (OpenSpec.ofChange topBorderedWrong)

/-- 'tuschetop.TopPowered': WHATEVER THE INPUT: true; the input reads as it did. -/
def topPoweredSpec : ChangeSpec := { name := "topPowered", fn := fun _ => fun
  | [d1, d2, d3, d4, d5] => { results := [.lit (.bool true)], args := [d1, d2, d3, d4, d5] }
  | _ => none }
def topPoweredRow : OpenClaim := { program := "ytdcpkgedaflnmaadoor", sum := "ebacf705ecadbd66a4e30a6e6014e779feaf50732a8859857dd7a16770496bf0", func := "tusche/tuschetop.TopPowered", spec := "topPowered", inPlace := ["internal/bytealg.IndexByteString", "internal/bytealg.IndexString", "internal/abi.NoEscape"], unfollowed := true, recurses := true, named := ["unicode/utf8.first", "unicode/utf8.acceptRanges", "internal/bytealg.MaxLen"], plainKeys := false, apart := false, laid := [("unicode/utf8.acceptRanges", laid_unicode_utf8_acceptRanges), ("unicode/utf8.first", laid_unicode_utf8_first)] }
def TopPoweredSaid : Prop := topPoweredRow.holds Tryd.pinned (OpenSpec.ofChange topPoweredSpec)

/-- ITS FALSE NEIGHBOUR: 'it returns false'. Refute it at one input. -/
def topPoweredWrong : ChangeSpec := { name := "topPowered", fn := fun _ => fun
  | [d1, d2, d3, d4, d5] => { results := [.lit (.bool false)], args := [d1, d2, d3, d4, d5] }
  | _ => none }
def TopPoweredWrongFalsely : Prop := topPoweredRow.holds Tryd.pinned (OpenSpec.ofChange topPoweredWrong)

/-- 'tuschetop.TopChained': WHATEVER THE INPUT: true; the input reads as it did. -/
def topChainedSpec : ChangeSpec := { name := "topChained", fn := fun _ => fun
  | [d1, d2, d3] => { results := [.lit (.bool true)], args := [d1, d2, d3] }
  | _ => none }
def topChainedRow : OpenClaim := { program := "ytdcpkgedaflnmaadoor", sum := "ebacf705ecadbd66a4e30a6e6014e779feaf50732a8859857dd7a16770496bf0", func := "tusche/tuschetop.TopChained", spec := "topChained", inPlace := ["internal/bytealg.IndexByteString", "internal/bytealg.IndexString", "internal/abi.NoEscape"], unfollowed := true, recurses := true, named := ["unicode/utf8.first", "unicode/utf8.acceptRanges", "internal/bytealg.MaxLen"], plainKeys := false, apart := false, laid := [("unicode/utf8.acceptRanges", laid_unicode_utf8_acceptRanges), ("unicode/utf8.first", laid_unicode_utf8_first)] }
def TopChainedSaid : Prop := topChainedRow.holds Tryd.pinned (OpenSpec.ofChange topChainedSpec)

/-- ITS FALSE NEIGHBOUR: 'it returns false'. Refute it at one input. -/
def topChainedWrong : ChangeSpec := { name := "topChained", fn := fun _ => fun
  | [d1, d2, d3] => { results := [.lit (.bool false)], args := [d1, d2, d3] }
  | _ => none }
def TopChainedWrongFalsely : Prop := topChainedRow.holds Tryd.pinned (OpenSpec.ofChange topChainedWrong)

/- THE SECOND FORM. 'bulk': how many values and letters a reading holds, each counted each time it is reached (what is shared counts as often as it is met; a slice's spare places count too). A statement '..UptoSaid' is the law's where the arguments, and the package variables that the reading takes, are together of bulk at most 1048576: NARROWER than '..Said'. Prove '..Said' where nothing that the law and all that it calls make is longer than what came in: it says more and counts as full. Else prove '..UptoSaid'. A law counts once. -/
mutual
def uptoBulk {H : Type} : DataW H → Nat
  | .lit (.string bytes) => bytes.length + 1
  | .lit _ => 1
  | .nil => 1
  | .ptr d => uptoBulk d + 1
  | .slice elems spare => uptoBulkAll elems + uptoBulkAll spare + 1
  | .agg parts => uptoBulkAll parts + 1
  | .iface _ d => uptoBulk d + 1
  | .map entries => uptoBulkEntries entries + 1
  | .held _ => 1
def uptoBulkAll {H : Type} : List (DataW H) → Nat
  | [] => 0
  | d :: r => uptoBulk d + uptoBulkAll r
def uptoBulkEntries {H : Type} : List (Lit × DataW H) → Nat
  | [] => 0
  | x :: r => uptoBulkEntry x + uptoBulkEntries r
def uptoBulkEntry {H : Type} : Lit × DataW H → Nat
  | (.string bytes, d) => bytes.length + uptoBulk d + 1
  | (_, d) => uptoBulk d + 1
 end
def uptoSmall : (H : Type) → List (DataW H) → Bool := fun _ ds => decide (uptoBulkAll ds ≤ 1048576)
def OpenSpec.upto (s : _root_.Go.ChangeSpec) : _root_.Go.OpenSpec := { _root_.Go.OpenSpec.ofChange s with cond := some uptoSmall }

/-- 'tuschetop.TopBordered', WHERE WHAT IT READS IS OF BULK AT MOST 1048576: true; the input reads as it did. -/
def topBorderedUptoRow : OpenClaim := { program := "ytdcpkgedaflnmaadoor", sum := "ebacf705ecadbd66a4e30a6e6014e779feaf50732a8859857dd7a16770496bf0", func := "tusche/tuschetop.TopBordered", spec := "topBordered", unfollowed := true, recurses := true, named := ["tusche/mark.count"], plainKeys := false, apart := false, laid := [("tusche/mark.count", laid_tusche_mark_count)], narrowed := true }
def TopBorderedUptoSaid : Prop := topBorderedUptoRow.holds Tryd.pinned (OpenSpec.upto topBorderedSpec)

/-- 'tuschetop.TopPowered', WHERE WHAT IT READS IS OF BULK AT MOST 1048576: true; the input reads as it did. -/
def topPoweredUptoRow : OpenClaim := { program := "ytdcpkgedaflnmaadoor", sum := "ebacf705ecadbd66a4e30a6e6014e779feaf50732a8859857dd7a16770496bf0", func := "tusche/tuschetop.TopPowered", spec := "topPowered", inPlace := ["internal/bytealg.IndexByteString", "internal/bytealg.IndexString", "internal/abi.NoEscape"], unfollowed := true, recurses := true, named := ["unicode/utf8.first", "unicode/utf8.acceptRanges", "internal/bytealg.MaxLen"], plainKeys := false, apart := false, laid := [("unicode/utf8.acceptRanges", laid_unicode_utf8_acceptRanges), ("unicode/utf8.first", laid_unicode_utf8_first)], narrowed := true }
def TopPoweredUptoSaid : Prop := topPoweredUptoRow.holds Tryd.pinned (OpenSpec.upto topPoweredSpec)

/-- 'tuschetop.TopChained', WHERE WHAT IT READS IS OF BULK AT MOST 1048576: true; the input reads as it did. -/
def topChainedUptoRow : OpenClaim := { program := "ytdcpkgedaflnmaadoor", sum := "ebacf705ecadbd66a4e30a6e6014e779feaf50732a8859857dd7a16770496bf0", func := "tusche/tuschetop.TopChained", spec := "topChained", inPlace := ["internal/bytealg.IndexByteString", "internal/bytealg.IndexString", "internal/abi.NoEscape"], unfollowed := true, recurses := true, named := ["unicode/utf8.first", "unicode/utf8.acceptRanges", "internal/bytealg.MaxLen"], plainKeys := false, apart := false, laid := [("unicode/utf8.acceptRanges", laid_unicode_utf8_acceptRanges), ("unicode/utf8.first", laid_unicode_utf8_first)], narrowed := true }
def TopChainedUptoSaid : Prop := topChainedUptoRow.holds Tryd.pinned (OpenSpec.upto topChainedSpec)

end Rows
end Go.Proofs.YtdcpkgedaflnmaaDoor
