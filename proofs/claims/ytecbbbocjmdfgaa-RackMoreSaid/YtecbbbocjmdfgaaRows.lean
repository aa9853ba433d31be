/-
  No cell of these rows narrows 'for every input' (looked for: loops, veiled, ifaces, maps, wideKeys, modest, calm, conditions, laid).
  DERIVED. THE GIVEN ROWS OF THIS SEAT. 12 by the template 'for every input the law returns true; each argument reads behind the call as it read before'; 0 by the template 'total and deterministic' (their statements: YtecbbbocjmdfgaaTotals.lean).
  GIVEN WITH THE SEED: the statements are not yours to turn. If you find one false, say at which input.
  Laid BY PROGRAM, IN A SANDBOX (cutbox-rows.mjs): the forced cells as the released guide's own fill.sh prints them over the translation 9f29ef1ad7a9183c… (all of the seat's roots in one cut). By AI agents, Wed Nov 11 2026. No macro, syntax, notation, axiom, sorry.
-/
import Derived.Test.YtecbbbocjmdfgaaChecked
import GoSem.Claim
import GoSem.ClaimJoined
import GoSem.ClaimMapViews
import Derived.JoinedTies
import Derived.KernelRfl
namespace Go.Proofs.Ytecbbbocjmdfgaa
/- THE CELL 'sum', in the pinned program and in every row, IS THE sha256 OF THE DUMP (.gsa) THAT YtecbbbocjmdfgaaProg.lean LOADS. Nothing in Lean hashes anything: it is a label: what it is worth is what the hold of that sum in a sandbox is worth. -/
noncomputable def Try.pinned : Pinned := { name := "ytecbbbocjmdfgaa", sum := "9f29ef1ad7a9183cee66aef22ff6f60d53346ffa87a0a539c3ac8a0ac43c10c4", checked := Try.checked }
namespace Rows
def none {H : Type} : Left H := { results := [], args := [] }

/-- 'tuschelaw05.RackStiff': WHATEVER THE INPUT: true; the input reads as it did. -/
def rackStiffSpec : ChangeSpec := { name := "rackStiff", fn := fun _ => fun
  | [d] => { results := [.lit (.bool true)], args := [d] }
  | _ => none }
def rackStiffRow : OpenClaim := { program := "ytecbbbocjmdfgaa", sum := "9f29ef1ad7a9183cee66aef22ff6f60d53346ffa87a0a539c3ac8a0ac43c10c4", func := "tusche/tuschelaw05.RackStiff", spec := "rackStiff", unfollowed := true, recurses := true, apart := false }
def RackStiffSaid : Prop := rackStiffRow.holds Try.pinned (OpenSpec.ofChange rackStiffSpec)

/-- ITS FALSE NEIGHBOUR: 'it returns false'. Refute it at one input. -/
def rackStiffWrong : ChangeSpec := { name := "rackStiff", fn := fun _ => fun
  | [d] => { results := [.lit (.bool false)], args := [d] }
  | _ => none }
def RackStiffWrongFalsely : Prop := rackStiffRow.holds Try.pinned (OpenSpec.ofChange rackStiffWrong)

/-- 'tuschelaw05.RackRods': WHATEVER THE INPUT: true; the input reads as it did. -/
def rackRodsSpec : ChangeSpec := { name := "rackRods", fn := fun _ => fun
  | [d] => { results := [.lit (.bool true)], args := [d] }
  | _ => none }
def rackRodsRow : OpenClaim := { program := "ytecbbbocjmdfgaa", sum := "9f29ef1ad7a9183cee66aef22ff6f60d53346ffa87a0a539c3ac8a0ac43c10c4", func := "tusche/tuschelaw05.RackRods", spec := "rackRods", unfollowed := true, recurses := true, apart := false }
def RackRodsSaid : Prop := rackRodsRow.holds Try.pinned (OpenSpec.ofChange rackRodsSpec)

/-- ITS FALSE NEIGHBOUR: 'it returns false'. Refute it at one input. -/
def rackRodsWrong : ChangeSpec := { name := "rackRods", fn := fun _ => fun
  | [d] => { results := [.lit (.bool false)], args := [d] }
  | _ => none }
def RackRodsWrongFalsely : Prop := rackRodsRow.holds Try.pinned (OpenSpec.ofChange rackRodsWrong)

/-- 'tuschelaw05.RackDetours': WHATEVER THE INPUT: true; the input reads as it did. -/
def rackDetoursSpec : ChangeSpec := { name := "rackDetours", fn := fun _ => fun
  | [d1, d2, d3, d4] => { results := [.lit (.bool true)], args := [d1, d2, d3, d4] }
  | _ => none }
def rackDetoursRow : OpenClaim := { program := "ytecbbbocjmdfgaa", sum := "9f29ef1ad7a9183cee66aef22ff6f60d53346ffa87a0a539c3ac8a0ac43c10c4", func := "tusche/tuschelaw05.RackDetours", spec := "rackDetours", unfollowed := true, recurses := true, apart := false }
def RackDetoursSaid : Prop := rackDetoursRow.holds Try.pinned (OpenSpec.ofChange rackDetoursSpec)

/-- ITS FALSE NEIGHBOUR: 'it returns false'. Refute it at one input. -/
def rackDetoursWrong : ChangeSpec := { name := "rackDetours", fn := fun _ => fun
  | [d1, d2, d3, d4] => { results := [.lit (.bool false)], args := [d1, d2, d3, d4] }
  | _ => none }
def RackDetoursWrongFalsely : Prop := rackDetoursRow.holds Try.pinned (OpenSpec.ofChange rackDetoursWrong)

/-- 'tuschelaw05.RackKept': WHATEVER THE INPUT: true; the input reads as it did. -/
def rackKeptSpec : ChangeSpec := { name := "rackKept", fn := fun _ => fun
  | [d1, d2] => { results := [.lit (.bool true)], args := [d1, d2] }
  | _ => none }
def rackKeptRow : OpenClaim := { program := "ytecbbbocjmdfgaa", sum := "9f29ef1ad7a9183cee66aef22ff6f60d53346ffa87a0a539c3ac8a0ac43c10c4", func := "tusche/tuschelaw05.RackKept", spec := "rackKept", unfollowed := true, recurses := true, apart := false }
def RackKeptSaid : Prop := rackKeptRow.holds Try.pinned (OpenSpec.ofChange rackKeptSpec)

/-- ITS FALSE NEIGHBOUR: 'it returns false'. Refute it at one input. -/
def rackKeptWrong : ChangeSpec := { name := "rackKept", fn := fun _ => fun
  | [d1, d2] => { results := [.lit (.bool false)], args := [d1, d2] }
  | _ => none }
def RackKeptWrongFalsely : Prop := rackKeptRow.holds Try.pinned (OpenSpec.ofChange rackKeptWrong)

/-- 'tuschelaw05.RackNeeded': WHATEVER THE INPUT: true; the input reads as it did. -/
def rackNeededSpec : ChangeSpec := { name := "rackNeeded", fn := fun _ => fun
  | [d] => { results := [.lit (.bool true)], args := [d] }
  | _ => none }
def rackNeededRow : OpenClaim := { program := "ytecbbbocjmdfgaa", sum := "9f29ef1ad7a9183cee66aef22ff6f60d53346ffa87a0a539c3ac8a0ac43c10c4", func := "tusche/tuschelaw05.RackNeeded", spec := "rackNeeded", unfollowed := true, recurses := true, apart := false }
def RackNeededSaid : Prop := rackNeededRow.holds Try.pinned (OpenSpec.ofChange rackNeededSpec)

/-- ITS FALSE NEIGHBOUR: 'it returns false'. Refute it at one input. -/
def rackNeededWrong : ChangeSpec := { name := "rackNeeded", fn := fun _ => fun
  | [d] => { results := [.lit (.bool false)], args := [d] }
  | _ => none }
def RackNeededWrongFalsely : Prop := rackNeededRow.holds Try.pinned (OpenSpec.ofChange rackNeededWrong)

/-- 'tuschelaw05.RackFewest': WHATEVER THE INPUT: true; the input reads as it did. -/
def rackFewestSpec : ChangeSpec := { name := "rackFewest", fn := fun _ => fun
  | [d] => { results := [.lit (.bool true)], args := [d] }
  | _ => none }
def rackFewestRow : OpenClaim := { program := "ytecbbbocjmdfgaa", sum := "9f29ef1ad7a9183cee66aef22ff6f60d53346ffa87a0a539c3ac8a0ac43c10c4", func := "tusche/tuschelaw05.RackFewest", spec := "rackFewest", unfollowed := true, recurses := true, apart := false }
def RackFewestSaid : Prop := rackFewestRow.holds Try.pinned (OpenSpec.ofChange rackFewestSpec)

/-- ITS FALSE NEIGHBOUR: 'it returns false'. Refute it at one input. -/
def rackFewestWrong : ChangeSpec := { name := "rackFewest", fn := fun _ => fun
  | [d] => { results := [.lit (.bool false)], args := [d] }
  | _ => none }
def RackFewestWrongFalsely : Prop := rackFewestRow.holds Try.pinned (OpenSpec.ofChange rackFewestWrong)

/-- 'tuschelaw05.RackDetour': WHATEVER THE INPUT: true; the input reads as it did. -/
def rackDetourSpec : ChangeSpec := { name := "rackDetour", fn := fun _ => fun
  | [d1, d2] => { results := [.lit (.bool true)], args := [d1, d2] }
  | _ => none }
def rackDetourRow : OpenClaim := { program := "ytecbbbocjmdfgaa", sum := "9f29ef1ad7a9183cee66aef22ff6f60d53346ffa87a0a539c3ac8a0ac43c10c4", func := "tusche/tuschelaw05.RackDetour", spec := "rackDetour", unfollowed := true, recurses := true, apart := false }
def RackDetourSaid : Prop := rackDetourRow.holds Try.pinned (OpenSpec.ofChange rackDetourSpec)

/-- ITS FALSE NEIGHBOUR: 'it returns false'. Refute it at one input. -/
def rackDetourWrong : ChangeSpec := { name := "rackDetour", fn := fun _ => fun
  | [d1, d2] => { results := [.lit (.bool false)], args := [d1, d2] }
  | _ => none }
def RackDetourWrongFalsely : Prop := rackDetourRow.holds Try.pinned (OpenSpec.ofChange rackDetourWrong)

/-- 'tuschelaw05.RackWays': WHATEVER THE INPUT: true; the input reads as it did. -/
def rackWaysSpec : ChangeSpec := { name := "rackWays", fn := fun _ => fun
  | [d1, d2] => { results := [.lit (.bool true)], args := [d1, d2] }
  | _ => none }
def rackWaysRow : OpenClaim := { program := "ytecbbbocjmdfgaa", sum := "9f29ef1ad7a9183cee66aef22ff6f60d53346ffa87a0a539c3ac8a0ac43c10c4", func := "tusche/tuschelaw05.RackWays", spec := "rackWays", unfollowed := true, recurses := true, apart := false }
def RackWaysSaid : Prop := rackWaysRow.holds Try.pinned (OpenSpec.ofChange rackWaysSpec)

/-- ITS FALSE NEIGHBOUR: 'it returns false'. Refute it at one input. -/
def rackWaysWrong : ChangeSpec := { name := "rackWays", fn := fun _ => fun
  | [d1, d2] => { results := [.lit (.bool false)], args := [d1, d2] }
  | _ => none }
def RackWaysWrongFalsely : Prop := rackWaysRow.holds Try.pinned (OpenSpec.ofChange rackWaysWrong)

/-- 'tuschelaw05.RackMore': WHATEVER THE INPUT: true; the input reads as it did. -/
def rackMoreSpec : ChangeSpec := { name := "rackMore", fn := fun _ => fun
  | [d1, d2, d3] => { results := [.lit (.bool true)], args := [d1, d2, d3] }
  | _ => none }
def rackMoreRow : OpenClaim := { program := "ytecbbbocjmdfgaa", sum := "9f29ef1ad7a9183cee66aef22ff6f60d53346ffa87a0a539c3ac8a0ac43c10c4", func := "tusche/tuschelaw05.RackMore", spec := "rackMore", unfollowed := true, recurses := true, apart := false }
def RackMoreSaid : Prop := rackMoreRow.holds Try.pinned (OpenSpec.ofChange rackMoreSpec)

/-- ITS FALSE NEIGHBOUR: 'it returns false'. Refute it at one input. -/
def rackMoreWrong : ChangeSpec := { name := "rackMore", fn := fun _ => fun
  | [d1, d2, d3] => { results := [.lit (.bool false)], args := [d1, d2, d3] }
  | _ => none }
def RackMoreWrongFalsely : Prop := rackMoreRow.holds Try.pinned (OpenSpec.ofChange rackMoreWrong)

/-- 'tuschelaw05.RackMoves': WHATEVER THE INPUT: true; the input reads as it did. -/
def rackMovesSpec : ChangeSpec := { name := "rackMoves", fn := fun _ => fun
  | [d1, d2] => { results := [.lit (.bool true)], args := [d1, d2] }
  | _ => none }
def rackMovesRow : OpenClaim := { program := "ytecbbbocjmdfgaa", sum := "9f29ef1ad7a9183cee66aef22ff6f60d53346ffa87a0a539c3ac8a0ac43c10c4", func := "tusche/tuschelaw05.RackMoves", spec := "rackMoves", unfollowed := true, recurses := true, apart := false }
def RackMovesSaid : Prop := rackMovesRow.holds Try.pinned (OpenSpec.ofChange rackMovesSpec)

/-- ITS FALSE NEIGHBOUR: 'it returns false'. Refute it at one input. -/
def rackMovesWrong : ChangeSpec := { name := "rackMoves", fn := fun _ => fun
  | [d1, d2] => { results := [.lit (.bool false)], args := [d1, d2] }
  | _ => none }
def RackMovesWrongFalsely : Prop := rackMovesRow.holds Try.pinned (OpenSpec.ofChange rackMovesWrong)

/-- 'tuschelaw05.RackMotion': WHATEVER THE INPUT: true; the input reads as it did. -/
def rackMotionSpec : ChangeSpec := { name := "rackMotion", fn := fun _ => fun
  | [d] => { results := [.lit (.bool true)], args := [d] }
  | _ => none }
def rackMotionRow : OpenClaim := { program := "ytecbbbocjmdfgaa", sum := "9f29ef1ad7a9183cee66aef22ff6f60d53346ffa87a0a539c3ac8a0ac43c10c4", func := "tusche/tuschelaw05.RackMotion", spec := "rackMotion", unfollowed := true, recurses := true, apart := false }
def RackMotionSaid : Prop := rackMotionRow.holds Try.pinned (OpenSpec.ofChange rackMotionSpec)

/-- ITS FALSE NEIGHBOUR: 'it returns false'. Refute it at one input. -/
def rackMotionWrong : ChangeSpec := { name := "rackMotion", fn := fun _ => fun
  | [d] => { results := [.lit (.bool false)], args := [d] }
  | _ => none }
def RackMotionWrongFalsely : Prop := rackMotionRow.holds Try.pinned (OpenSpec.ofChange rackMotionWrong)

/-- 'tuschelaw05.RackKnown': WHATEVER THE INPUT: true; the input reads as it did. -/
def rackKnownSpec : ChangeSpec := { name := "rackKnown", fn := fun _ => fun
  | [] => { results := [.lit (.bool true)], args := [] }
  | _ => none }
def rackKnownRow : OpenClaim := { program := "ytecbbbocjmdfgaa", sum := "9f29ef1ad7a9183cee66aef22ff6f60d53346ffa87a0a539c3ac8a0ac43c10c4", func := "tusche/tuschelaw05.RackKnown", spec := "rackKnown", unfollowed := true, recurses := true, apart := false }
def RackKnownSaid : Prop := rackKnownRow.holds Try.pinned (OpenSpec.ofChange rackKnownSpec)

/-- ITS FALSE NEIGHBOUR: 'it returns false'. Refute it at one input. -/
def rackKnownWrong : ChangeSpec := { name := "rackKnown", fn := fun _ => fun
  | [] => { results := [.lit (.bool false)], args := [] }
  | _ => none }
def RackKnownWrongFalsely : Prop := rackKnownRow.holds Try.pinned (OpenSpec.ofChange rackKnownWrong)

/- THE SECOND FORM. 'bulk': how many values and letters a reading holds, each counted each time it is reached (what is shared counts as often as it is met; a slice's spare places count too). A statement '..UptoSaid' is the law's where the arguments, and the package variables that the reading takes, are together of bulk at most 1048576: NARROWER than '..Said'. Prove '..Said' where nothing that the law and all that it calls make is longer than what came in: it says more and counts as full. Else prove '..UptoSaid'. A law counts once. -/
mutual
def uptoBulk {H : Type} : DataW H → Nat
  | .lit (.string bytes) => bytes.length + 1
  | .lit _ => 1
  | .nil => 1
  | .ptr d => uptoBulk d + 1
  | .slice elems spare => uptoBulkAll elems + uptoBulkAll spare + 1
  | .agg parts => uptoBulkAll parts + 1
  | .iface _ d => uptoBulk d + 1
  | .map entries => uptoBulkEntries entries + 1
  | .held _ => 1
def uptoBulkAll {H : Type} : List (DataW H) → Nat
  | [] => 0
  | d :: r => uptoBulk d + uptoBulkAll r
def uptoBulkEntries {H : Type} : List (Lit × DataW H) → Nat
  | [] => 0
  | x :: r => uptoBulkEntry x + uptoBulkEntries r
def uptoBulkEntry {H : Type} : Lit × DataW H → Nat
  | (.string bytes, d) => bytes.length + uptoBulk d + 1
  | (_, d) => uptoBulk d + 1
 end
def uptoSmall : (H : Type) → List (DataW H) → Bool := fun _ ds => decide (uptoBulkAll ds ≤ 1048576)
def OpenSpec.upto (s : _root_.Go.ChangeSpec) : _root_.Go.OpenSpec := { _root_.Go.OpenSpec.ofChange s with cond := some uptoSmall }

/-- 'tuschelaw05.RackStiff', WHERE WHAT IT READS IS OF BULK AT MOST 1048576: true; the input reads as it did. -/
def rackStiffUptoRow : OpenClaim := { program := "ytecbbbocjmdfgaa", sum := "9f29ef1ad7a9183cee66aef22ff6f60d53346ffa87a0a539c3ac8a0ac43c10c4", func := "tusche/tuschelaw05.RackStiff", spec := "rackStiff", unfollowed := true, recurses := true, apart := false, narrowed := true }
def RackStiffUptoSaid : Prop := rackStiffUptoRow.holds Try.pinned (OpenSpec.upto rackStiffSpec)

/-- 'tuschelaw05.RackRods', WHERE WHAT IT READS IS OF BULK AT MOST 1048576: true; the input reads as it did. -/
def rackRodsUptoRow : OpenClaim := { program := "ytecbbbocjmdfgaa", sum := "9f29ef1ad7a9183cee66aef22ff6f60d53346ffa87a0a539c3ac8a0ac43c10c4", func := "tusche/tuschelaw05.RackRods", spec := "rackRods", unfollowed := true, recurses := true, apart := false, narrowed := true }
def RackRodsUptoSaid : Prop := rackRodsUptoRow.holds Try.pinned (OpenSpec.upto rackRodsSpec)

/-- 'tuschelaw05.RackDetours', WHERE WHAT IT READS IS OF BULK AT MOST 1048576: true; the input reads as it did. -/
def rackDetoursUptoRow : OpenClaim := { program := "ytecbbbocjmdfgaa", sum := "9f29ef1ad7a9183cee66aef22ff6f60d53346ffa87a0a539c3ac8a0ac43c10c4", func := "tusche/tuschelaw05.RackDetours", spec := "rackDetours", unfollowed := true, recurses := true, apart := false, narrowed := true }
def RackDetoursUptoSaid : Prop := rackDetoursUptoRow.holds Try.pinned (OpenSpec.upto rackDetoursSpec)

/-- 'tuschelaw05.RackKept', WHERE WHAT IT READS IS OF BULK AT MOST 1048576: true; the input reads as it did. -/
def rackKeptUptoRow : OpenClaim := { program := "ytecbbbocjmdfgaa", sum := "9f29ef1ad7a9183cee66aef22ff6f60d53346ffa87a0a539c3ac8a0ac43c10c4", func := "tusche/tuschelaw05.RackKept", spec := "rackKept", unfollowed := true, recurses := true, apart := false, narrowed := true }
def RackKeptUptoSaid : Prop := rackKeptUptoRow.holds Try.pinned (OpenSpec.upto rackKeptSpec)

/-- 'tuschelaw05.RackNeeded', WHERE WHAT IT READS IS OF BULK AT MOST 1048576: true; the input reads as it did. -/
def rackNeededUptoRow : OpenClaim := { program := "ytecbbbocjmdfgaa", sum := "9f29ef1ad7a9183cee66aef22ff6f60d53346ffa87a0a539c3ac8a0ac43c10c4", func := "tusche/tuschelaw05.RackNeeded", spec := "rackNeeded", unfollowed := true, recurses := true, apart := false, narrowed := true }
def RackNeededUptoSaid : Prop := rackNeededUptoRow.holds Try.pinned (OpenSpec.upto rackNeededSpec)

/-- 'tuschelaw05.RackFewest', WHERE WHAT IT READS IS OF BULK AT MOST 1048576: true; the input reads as it did. -/
def rackFewestUptoRow : OpenClaim := { program := "ytecbbbocjmdfgaa", sum := "9f29ef1ad7a9183cee66aef22ff6f60d53346ffa87a0a539c3ac8a0ac43c10c4", func := "tusche/tuschelaw05.RackFewest", spec := "rackFewest", unfollowed := true, recurses := true, apart := false, narrowed := true }
def RackFewestUptoSaid : Prop := rackFewestUptoRow.holds Try.pinned (OpenSpec.upto rackFewestSpec)

/-- 'tuschelaw05.RackDetour', WHERE WHAT IT READS IS OF BULK AT MOST 1048576: true; the input reads as it did. -/
def rackDetourUptoRow : OpenClaim := { program := "ytecbbbocjmdfgaa", sum := "9f29ef1ad7a9183cee66aef22ff6f60d53346ffa87a0a539c3ac8a0ac43c10c4", func := "tusche/tuschelaw05.RackDetour", spec := "rackDetour", unfollowed := true, recurses := true, apart := false, narrowed := true }
def RackDetourUptoSaid : Prop := rackDetourUptoRow.holds Try.pinned (OpenSpec.upto rackDetourSpec)

/-- 'tuschelaw05.RackWays', WHERE WHAT IT READS IS OF BULK AT MOST 1048576: true; the input reads as it did. -/
def rackWaysUptoRow : OpenClaim := { program := "ytecbbbocjmdfgaa", sum := "9f29ef1ad7a9183cee66aef22ff6f60d53346ffa87a0a539c3ac8a0ac43c10c4", func := "tusche/tuschelaw05.RackWays", spec := "rackWays", unfollowed := true, recurses := true, apart := false, narrowed := true }
def RackWaysUptoSaid : Prop := rackWaysUptoRow.holds Try.pinned (OpenSpec.upto rackWaysSpec)

/-- 'tuschelaw05.RackMore', WHERE WHAT IT READS IS OF BULK AT MOST 1048576: true; the input reads as it did. -/
def rackMoreUptoRow : OpenClaim := { program := "ytecbbbocjmdfgaa", sum := "9f29ef1ad7a9183cee66aef22ff6f60d53346ffa87a0a539c3ac8a0ac43c10c4", func := "tusche/tuschelaw05.RackMore", spec := "rackMore", unfollowed := true, recurses := true, apart := false, narrowed := true }
def RackMoreUptoSaid : Prop := rackMoreUptoRow.holds Try.pinned (OpenSpec.upto rackMoreSpec)

/-- 'tuschelaw05.RackMoves', WHERE WHAT IT READS IS OF BULK AT MOST 1048576: true; the input reads as it did. -/
def rackMovesUptoRow : OpenClaim := { program := "ytecbbbocjmdfgaa", sum := "9f29ef1ad7a9183cee66aef22ff6f60d53346ffa87a0a539c3ac8a0ac43c10c4", func := "tusche/tuschelaw05.RackMoves", spec := "rackMoves", unfollowed := true, recurses := true, apart := false, narrowed := true }
def RackMovesUptoSaid : Prop := rackMovesUptoRow.holds Try.pinned (OpenSpec.upto rackMovesSpec)

/-- 'tuschelaw05.RackMotion', WHERE WHAT IT READS IS OF BULK AT MOST 1048576: true; the input reads as it did. -/
def rackMotionUptoRow : OpenClaim := { program := "ytecbbbocjmdfgaa", sum := "9f29ef1ad7a9183cee66aef22ff6f60d53346ffa87a0a539c3ac8a0ac43c10c4", func := "tusche/tuschelaw05.RackMotion", spec := "rackMotion", unfollowed := true, recurses := true, apart := false, narrowed := true }
def RackMotionUptoSaid : Prop := rackMotionUptoRow.holds Try.pinned (OpenSpec.upto rackMotionSpec)

/-- 'tuschelaw05.RackKnown', WHERE WHAT IT READS IS OF BULK AT MOST 1048576: true; the input reads as it did. -/
def rackKnownUptoRow : OpenClaim := { program := "ytecbbbocjmdfgaa", sum := "9f29ef1ad7a9183cee66aef22ff6f60d53346ffa87a0a539c3ac8a0ac43c10c4", func := "tusche/tuschelaw05.RackKnown", spec := "rackKnown", unfollowed := true, recurses := true, apart := false, narrowed := true }
def RackKnownUptoSaid : Prop := rackKnownUptoRow.holds Try.pinned (OpenSpec.upto rackKnownSpec)

end Rows
end Go.Proofs.Ytecbbbocjmdfgaa
