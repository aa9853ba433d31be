/-
  No cell of these rows narrows 'for every input' (looked for: loops, veiled, ifaces, maps, wideKeys, modest, calm, conditions, laid).
  DERIVED. THE GIVEN ROWS OF THIS SEAT. 13 by the template 'for every input the law returns true; each argument reads behind the call as it read before'; 0 by the template 'total and deterministic' (their statements: YtokfmcjepkepjaaTotals.lean).
  GIVEN WITH THE SEED: the statements are not yours to turn. If you find one false, say at which input.
  Laid BY PROGRAM, IN A SANDBOX (cutbox-rows.mjs): the forced cells as the released guide's own fill.sh prints them over the translation 91efe3dd6076d415… (all of the seat's roots in one cut). By AI agents, Wed Nov 11 2026. No macro, syntax, notation, axiom, sorry.
-/
import Derived.Test.YtokfmcjepkepjaaChecked
import GoSem.Claim
import GoSem.ClaimJoined
import GoSem.ClaimMapViews
import Derived.JoinedTies
import Derived.KernelRfl
namespace Go.Proofs.Ytokfmcjepkepjaa
/- THE CELL 'sum', in the pinned program and in every row, IS THE sha256 OF THE DUMP (.gsa) THAT YtokfmcjepkepjaaProg.lean LOADS. Nothing in Lean hashes anything: it is a label: what it is worth is what the hold of that sum in a sandbox is worth. -/
noncomputable def Try.pinned : Pinned := { name := "ytokfmcjepkepjaa", sum := "91efe3dd6076d415b65c6ebc1d6c30dd3df67801e49cea280ac3a50c02f953c9", checked := Try.checked }
namespace Rows
def none {H : Type} : Left H := { results := [], args := [] }

/-- 'tuschelaw11.CrossPairs': WHATEVER THE INPUT: true; the input reads as it did. -/
def crossPairsSpec : ChangeSpec := { name := "crossPairs", fn := fun _ => fun
  | [d] => { results := [.lit (.bool true)], args := [d] }
  | _ => none }
def crossPairsRow : OpenClaim := { program := "ytokfmcjepkepjaa", sum := "91efe3dd6076d415b65c6ebc1d6c30dd3df67801e49cea280ac3a50c02f953c9", func := "tusche/tuschelaw11.CrossPairs", spec := "crossPairs", unfollowed := true, recurses := true, apart := false }
def CrossPairsSaid : Prop := crossPairsRow.holds Try.pinned (OpenSpec.ofChange crossPairsSpec)

/-- ITS FALSE NEIGHBOUR: 'it returns false'. Refute it at one input. -/
def crossPairsWrong : ChangeSpec := { name := "crossPairs", fn := fun _ => fun
  | [d] => { results := [.lit (.bool false)], args := [d] }
  | _ => none }
def CrossPairsWrongFalsely : Prop := crossPairsRow.holds Try.pinned (OpenSpec.ofChange crossPairsWrong)

/-- 'tuschelaw11.CrossSeen': WHATEVER THE INPUT: true; the input reads as it did. -/
def crossSeenSpec : ChangeSpec := { name := "crossSeen", fn := fun _ => fun
  | [d1, d2, d3, d4] => { results := [.lit (.bool true)], args := [d1, d2, d3, d4] }
  | _ => none }
def crossSeenRow : OpenClaim := { program := "ytokfmcjepkepjaa", sum := "91efe3dd6076d415b65c6ebc1d6c30dd3df67801e49cea280ac3a50c02f953c9", func := "tusche/tuschelaw11.CrossSeen", spec := "crossSeen", unfollowed := true, recurses := true, apart := false }
def CrossSeenSaid : Prop := crossSeenRow.holds Try.pinned (OpenSpec.ofChange crossSeenSpec)

/-- ITS FALSE NEIGHBOUR: 'it returns false'. Refute it at one input. -/
def crossSeenWrong : ChangeSpec := { name := "crossSeen", fn := fun _ => fun
  | [d1, d2, d3, d4] => { results := [.lit (.bool false)], args := [d1, d2, d3, d4] }
  | _ => none }
def CrossSeenWrongFalsely : Prop := crossSeenRow.holds Try.pinned (OpenSpec.ofChange crossSeenWrong)

/-- 'tuschelaw11.CrossPlaces': WHATEVER THE INPUT: true; the input reads as it did. -/
def crossPlacesSpec : ChangeSpec := { name := "crossPlaces", fn := fun _ => fun
  | [d1, d2] => { results := [.lit (.bool true)], args := [d1, d2] }
  | _ => none }
def crossPlacesRow : OpenClaim := { program := "ytokfmcjepkepjaa", sum := "91efe3dd6076d415b65c6ebc1d6c30dd3df67801e49cea280ac3a50c02f953c9", func := "tusche/tuschelaw11.CrossPlaces", spec := "crossPlaces", unfollowed := true, recurses := true, apart := false }
def CrossPlacesSaid : Prop := crossPlacesRow.holds Try.pinned (OpenSpec.ofChange crossPlacesSpec)

/-- ITS FALSE NEIGHBOUR: 'it returns false'. Refute it at one input. -/
def crossPlacesWrong : ChangeSpec := { name := "crossPlaces", fn := fun _ => fun
  | [d1, d2] => { results := [.lit (.bool false)], args := [d1, d2] }
  | _ => none }
def CrossPlacesWrongFalsely : Prop := crossPlacesRow.holds Try.pinned (OpenSpec.ofChange crossPlacesWrong)

/-- 'tuschelaw11.CrossShortest': WHATEVER THE INPUT: true; the input reads as it did. -/
def crossShortestSpec : ChangeSpec := { name := "crossShortest", fn := fun _ => fun
  | [d1, d2, d3, d4] => { results := [.lit (.bool true)], args := [d1, d2, d3, d4] }
  | _ => none }
def crossShortestRow : OpenClaim := { program := "ytokfmcjepkepjaa", sum := "91efe3dd6076d415b65c6ebc1d6c30dd3df67801e49cea280ac3a50c02f953c9", func := "tusche/tuschelaw11.CrossShortest", spec := "crossShortest", unfollowed := true, recurses := true, apart := false }
def CrossShortestSaid : Prop := crossShortestRow.holds Try.pinned (OpenSpec.ofChange crossShortestSpec)

/-- ITS FALSE NEIGHBOUR: 'it returns false'. Refute it at one input. -/
def crossShortestWrong : ChangeSpec := { name := "crossShortest", fn := fun _ => fun
  | [d1, d2, d3, d4] => { results := [.lit (.bool false)], args := [d1, d2, d3, d4] }
  | _ => none }
def CrossShortestWrongFalsely : Prop := crossShortestRow.holds Try.pinned (OpenSpec.ofChange crossShortestWrong)

/-- 'tuschelaw11.CrossAround': WHATEVER THE INPUT: true; the input reads as it did. -/
def crossAroundSpec : ChangeSpec := { name := "crossAround", fn := fun _ => fun
  | [d1, d2] => { results := [.lit (.bool true)], args := [d1, d2] }
  | _ => none }
def crossAroundRow : OpenClaim := { program := "ytokfmcjepkepjaa", sum := "91efe3dd6076d415b65c6ebc1d6c30dd3df67801e49cea280ac3a50c02f953c9", func := "tusche/tuschelaw11.CrossAround", spec := "crossAround", unfollowed := true, recurses := true, apart := false }
def CrossAroundSaid : Prop := crossAroundRow.holds Try.pinned (OpenSpec.ofChange crossAroundSpec)

/-- ITS FALSE NEIGHBOUR: 'it returns false'. Refute it at one input. -/
def crossAroundWrong : ChangeSpec := { name := "crossAround", fn := fun _ => fun
  | [d1, d2] => { results := [.lit (.bool false)], args := [d1, d2] }
  | _ => none }
def CrossAroundWrongFalsely : Prop := crossAroundRow.holds Try.pinned (OpenSpec.ofChange crossAroundWrong)

/-- 'tuschelaw11.CrossClear': WHATEVER THE INPUT: true; the input reads as it did. -/
def crossClearSpec : ChangeSpec := { name := "crossClear", fn := fun _ => fun
  | [d] => { results := [.lit (.bool true)], args := [d] }
  | _ => none }
def crossClearRow : OpenClaim := { program := "ytokfmcjepkepjaa", sum := "91efe3dd6076d415b65c6ebc1d6c30dd3df67801e49cea280ac3a50c02f953c9", func := "tusche/tuschelaw11.CrossClear", spec := "crossClear", unfollowed := true, recurses := true, apart := false }
def CrossClearSaid : Prop := crossClearRow.holds Try.pinned (OpenSpec.ofChange crossClearSpec)

/-- ITS FALSE NEIGHBOUR: 'it returns false'. Refute it at one input. -/
def crossClearWrong : ChangeSpec := { name := "crossClear", fn := fun _ => fun
  | [d] => { results := [.lit (.bool false)], args := [d] }
  | _ => none }
def CrossClearWrongFalsely : Prop := crossClearRow.holds Try.pinned (OpenSpec.ofChange crossClearWrong)

/-- 'tuschelaw11.CrossLocated': WHATEVER THE INPUT: true; the input reads as it did. -/
def crossLocatedSpec : ChangeSpec := { name := "crossLocated", fn := fun _ => fun
  | [d1, d2, d3] => { results := [.lit (.bool true)], args := [d1, d2, d3] }
  | _ => none }
def crossLocatedRow : OpenClaim := { program := "ytokfmcjepkepjaa", sum := "91efe3dd6076d415b65c6ebc1d6c30dd3df67801e49cea280ac3a50c02f953c9", func := "tusche/tuschelaw11.CrossLocated", spec := "crossLocated", unfollowed := true, recurses := true, apart := false }
def CrossLocatedSaid : Prop := crossLocatedRow.holds Try.pinned (OpenSpec.ofChange crossLocatedSpec)

/-- ITS FALSE NEIGHBOUR: 'it returns false'. Refute it at one input. -/
def crossLocatedWrong : ChangeSpec := { name := "crossLocated", fn := fun _ => fun
  | [d1, d2, d3] => { results := [.lit (.bool false)], args := [d1, d2, d3] }
  | _ => none }
def CrossLocatedWrongFalsely : Prop := crossLocatedRow.holds Try.pinned (OpenSpec.ofChange crossLocatedWrong)

/-- 'tuschelaw11.CrossLeast': WHATEVER THE INPUT: true; the input reads as it did. -/
def crossLeastSpec : ChangeSpec := { name := "crossLeast", fn := fun _ => fun
  | [d] => { results := [.lit (.bool true)], args := [d] }
  | _ => none }
def crossLeastRow : OpenClaim := { program := "ytokfmcjepkepjaa", sum := "91efe3dd6076d415b65c6ebc1d6c30dd3df67801e49cea280ac3a50c02f953c9", func := "tusche/tuschelaw11.CrossLeast", spec := "crossLeast", unfollowed := true, recurses := true, apart := false }
def CrossLeastSaid : Prop := crossLeastRow.holds Try.pinned (OpenSpec.ofChange crossLeastSpec)

/-- ITS FALSE NEIGHBOUR: 'it returns false'. Refute it at one input. -/
def crossLeastWrong : ChangeSpec := { name := "crossLeast", fn := fun _ => fun
  | [d] => { results := [.lit (.bool false)], args := [d] }
  | _ => none }
def CrossLeastWrongFalsely : Prop := crossLeastRow.holds Try.pinned (OpenSpec.ofChange crossLeastWrong)

/-- 'tuschelaw11.CrossAdded': WHATEVER THE INPUT: true; the input reads as it did. -/
def crossAddedSpec : ChangeSpec := { name := "crossAdded", fn := fun _ => fun
  | [d1, d2, d3] => { results := [.lit (.bool true)], args := [d1, d2, d3] }
  | _ => none }
def crossAddedRow : OpenClaim := { program := "ytokfmcjepkepjaa", sum := "91efe3dd6076d415b65c6ebc1d6c30dd3df67801e49cea280ac3a50c02f953c9", func := "tusche/tuschelaw11.CrossAdded", spec := "crossAdded", unfollowed := true, recurses := true, apart := false }
def CrossAddedSaid : Prop := crossAddedRow.holds Try.pinned (OpenSpec.ofChange crossAddedSpec)

/-- ITS FALSE NEIGHBOUR: 'it returns false'. Refute it at one input. -/
def crossAddedWrong : ChangeSpec := { name := "crossAdded", fn := fun _ => fun
  | [d1, d2, d3] => { results := [.lit (.bool false)], args := [d1, d2, d3] }
  | _ => none }
def CrossAddedWrongFalsely : Prop := crossAddedRow.holds Try.pinned (OpenSpec.ofChange crossAddedWrong)

/-- 'tuschelaw11.CrossRound': WHATEVER THE INPUT: true; the input reads as it did. -/
def crossRoundSpec : ChangeSpec := { name := "crossRound", fn := fun _ => fun
  | [d1, d2, d3] => { results := [.lit (.bool true)], args := [d1, d2, d3] }
  | _ => none }
def crossRoundRow : OpenClaim := { program := "ytokfmcjepkepjaa", sum := "91efe3dd6076d415b65c6ebc1d6c30dd3df67801e49cea280ac3a50c02f953c9", func := "tusche/tuschelaw11.CrossRound", spec := "crossRound", unfollowed := true, recurses := true, apart := false }
def CrossRoundSaid : Prop := crossRoundRow.holds Try.pinned (OpenSpec.ofChange crossRoundSpec)

/-- ITS FALSE NEIGHBOUR: 'it returns false'. Refute it at one input. -/
def crossRoundWrong : ChangeSpec := { name := "crossRound", fn := fun _ => fun
  | [d1, d2, d3] => { results := [.lit (.bool false)], args := [d1, d2, d3] }
  | _ => none }
def CrossRoundWrongFalsely : Prop := crossRoundRow.holds Try.pinned (OpenSpec.ofChange crossRoundWrong)

/-- 'tuschelaw11.CrossRoller': WHATEVER THE INPUT: true; the input reads as it did. -/
def crossRollerSpec : ChangeSpec := { name := "crossRoller", fn := fun _ => fun
  | [d1, d2] => { results := [.lit (.bool true)], args := [d1, d2] }
  | _ => none }
def crossRollerRow : OpenClaim := { program := "ytokfmcjepkepjaa", sum := "91efe3dd6076d415b65c6ebc1d6c30dd3df67801e49cea280ac3a50c02f953c9", func := "tusche/tuschelaw11.CrossRoller", spec := "crossRoller", unfollowed := true, recurses := true, apart := false }
def CrossRollerSaid : Prop := crossRollerRow.holds Try.pinned (OpenSpec.ofChange crossRollerSpec)

/-- ITS FALSE NEIGHBOUR: 'it returns false'. Refute it at one input. -/
def crossRollerWrong : ChangeSpec := { name := "crossRoller", fn := fun _ => fun
  | [d1, d2] => { results := [.lit (.bool false)], args := [d1, d2] }
  | _ => none }
def CrossRollerWrongFalsely : Prop := crossRollerRow.holds Try.pinned (OpenSpec.ofChange crossRollerWrong)

/-- 'tuschelaw11.CrossMirrored': WHATEVER THE INPUT: true; the input reads as it did. -/
def crossMirroredSpec : ChangeSpec := { name := "crossMirrored", fn := fun _ => fun
  | [d1, d2] => { results := [.lit (.bool true)], args := [d1, d2] }
  | _ => none }
def crossMirroredRow : OpenClaim := { program := "ytokfmcjepkepjaa", sum := "91efe3dd6076d415b65c6ebc1d6c30dd3df67801e49cea280ac3a50c02f953c9", func := "tusche/tuschelaw11.CrossMirrored", spec := "crossMirrored", unfollowed := true, recurses := true, apart := false }
def CrossMirroredSaid : Prop := crossMirroredRow.holds Try.pinned (OpenSpec.ofChange crossMirroredSpec)

/-- ITS FALSE NEIGHBOUR: 'it returns false'. Refute it at one input. -/
def crossMirroredWrong : ChangeSpec := { name := "crossMirrored", fn := fun _ => fun
  | [d1, d2] => { results := [.lit (.bool false)], args := [d1, d2] }
  | _ => none }
def CrossMirroredWrongFalsely : Prop := crossMirroredRow.holds Try.pinned (OpenSpec.ofChange crossMirroredWrong)

/-- 'tuschelaw11.CrossKnown': WHATEVER THE INPUT: true; the input reads as it did. -/
def crossKnownSpec : ChangeSpec := { name := "crossKnown", fn := fun _ => fun
  | [] => { results := [.lit (.bool true)], args := [] }
  | _ => none }
def crossKnownRow : OpenClaim := { program := "ytokfmcjepkepjaa", sum := "91efe3dd6076d415b65c6ebc1d6c30dd3df67801e49cea280ac3a50c02f953c9", func := "tusche/tuschelaw11.CrossKnown", spec := "crossKnown", unfollowed := true, recurses := true, apart := false }
def CrossKnownSaid : Prop := crossKnownRow.holds Try.pinned (OpenSpec.ofChange crossKnownSpec)

/-- ITS FALSE NEIGHBOUR: 'it returns false'. Refute it at one input. -/
def crossKnownWrong : ChangeSpec := { name := "crossKnown", fn := fun _ => fun
  | [] => { results := [.lit (.bool false)], args := [] }
  | _ => none }
def CrossKnownWrongFalsely : Prop := crossKnownRow.holds Try.pinned (OpenSpec.ofChange crossKnownWrong)

/- THE SECOND FORM. 'bulk': how many values and letters a reading holds, each counted each time it is reached (what is shared counts as often as it is met; a slice's spare places count too). A statement '..UptoSaid' is the law's where the arguments, and the package variables that the reading takes, are together of bulk at most 1048576: NARROWER than '..Said'. Prove '..Said' where nothing that the law and all that it calls make is longer than what came in: it says more and counts as full. Else prove '..UptoSaid'. A law counts once. -/
mutual
def uptoBulk {H : Type} : DataW H → Nat
  | .lit (.string bytes) => bytes.length + 1
  | .lit _ => 1
  | .nil => 1
  | .ptr d => uptoBulk d + 1
  | .slice elems spare => uptoBulkAll elems + uptoBulkAll spare + 1
  | .agg parts => uptoBulkAll parts + 1
  | .iface _ d => uptoBulk d + 1
  | .map entries => uptoBulkEntries entries + 1
  | .held _ => 1
def uptoBulkAll {H : Type} : List (DataW H) → Nat
  | [] => 0
  | d :: r => uptoBulk d + uptoBulkAll r
def uptoBulkEntries {H : Type} : List (Lit × DataW H) → Nat
  | [] => 0
  | x :: r => uptoBulkEntry x + uptoBulkEntries r
def uptoBulkEntry {H : Type} : Lit × DataW H → Nat
  | (.string bytes, d) => bytes.length + uptoBulk d + 1
  | (_, d) => uptoBulk d + 1
 end
def uptoSmall : (H : Type) → List (DataW H) → Bool := fun _ ds => decide (uptoBulkAll ds ≤ 1048576)
def OpenSpec.upto (s : _root_.Go.ChangeSpec) : _root_.Go.OpenSpec := { _root_.Go.OpenSpec.ofChange s with cond := some uptoSmall }

/-- 'tuschelaw11.CrossPairs', WHERE WHAT IT READS IS OF BULK AT MOST 1048576: true; the input reads as it did. -/
def crossPairsUptoRow : OpenClaim := { program := "ytokfmcjepkepjaa", sum := "91efe3dd6076d415b65c6ebc1d6c30dd3df67801e49cea280ac3a50c02f953c9", func := "tusche/tuschelaw11.CrossPairs", spec := "crossPairs", unfollowed := true, recurses := true, apart := false, narrowed := true }
def CrossPairsUptoSaid : Prop := crossPairsUptoRow.holds Try.pinned (OpenSpec.upto crossPairsSpec)

/-- 'tuschelaw11.CrossSeen', WHERE WHAT IT READS IS OF BULK AT MOST 1048576: true; the input reads as it did. -/
def crossSeenUptoRow : OpenClaim := { program := "ytokfmcjepkepjaa", sum := "91efe3dd6076d415b65c6ebc1d6c30dd3df67801e49cea280ac3a50c02f953c9", func := "tusche/tuschelaw11.CrossSeen", spec := "crossSeen", unfollowed := true, recurses := true, apart := false, narrowed := true }
def CrossSeenUptoSaid : Prop := crossSeenUptoRow.holds Try.pinned (OpenSpec.upto crossSeenSpec)

/-- 'tuschelaw11.CrossPlaces', WHERE WHAT IT READS IS OF BULK AT MOST 1048576: true; the input reads as it did. -/
def crossPlacesUptoRow : OpenClaim := { program := "ytokfmcjepkepjaa", sum := "91efe3dd6076d415b65c6ebc1d6c30dd3df67801e49cea280ac3a50c02f953c9", func := "tusche/tuschelaw11.CrossPlaces", spec := "crossPlaces", unfollowed := true, recurses := true, apart := false, narrowed := true }
def CrossPlacesUptoSaid : Prop := crossPlacesUptoRow.holds Try.pinned (OpenSpec.upto crossPlacesSpec)

/-- 'tuschelaw11.CrossShortest', WHERE WHAT IT READS IS OF BULK AT MOST 1048576: true; the input reads as it did. -/
def crossShortestUptoRow : OpenClaim := { program := "ytokfmcjepkepjaa", sum := "91efe3dd6076d415b65c6ebc1d6c30dd3df67801e49cea280ac3a50c02f953c9", func := "tusche/tuschelaw11.CrossShortest", spec := "crossShortest", unfollowed := true, recurses := true, apart := false, narrowed := true }
def CrossShortestUptoSaid : Prop := crossShortestUptoRow.holds Try.pinned (OpenSpec.upto crossShortestSpec)

/-- 'tuschelaw11.CrossAround', WHERE WHAT IT READS IS OF BULK AT MOST 1048576: true; the input reads as it did. -/
def crossAroundUptoRow : OpenClaim := { program := "ytokfmcjepkepjaa", sum := "91efe3dd6076d415b65c6ebc1d6c30dd3df67801e49cea280ac3a50c02f953c9", func := "tusche/tuschelaw11.CrossAround", spec := "crossAround", unfollowed := true, recurses := true, apart := false, narrowed := true }
def CrossAroundUptoSaid : Prop := crossAroundUptoRow.holds Try.pinned (OpenSpec.upto crossAroundSpec)

/-- 'tuschelaw11.CrossClear', WHERE WHAT IT READS IS OF BULK AT MOST 1048576: true; the input reads as it did. -/
def crossClearUptoRow : OpenClaim := { program := "ytokfmcjepkepjaa", sum := "91efe3dd6076d415b65c6ebc1d6c30dd3df67801e49cea280ac3a50c02f953c9", func := "tusche/tuschelaw11.CrossClear", spec := "crossClear", unfollowed := true, recurses := true, apart := false, narrowed := true }
def CrossClearUptoSaid : Prop := crossClearUptoRow.holds Try.pinned (OpenSpec.upto crossClearSpec)

/-- 'tuschelaw11.CrossLocated', WHERE WHAT IT READS IS OF BULK AT MOST 1048576: true; the input reads as it did. -/
def crossLocatedUptoRow : OpenClaim := { program := "ytokfmcjepkepjaa", sum := "91efe3dd6076d415b65c6ebc1d6c30dd3df67801e49cea280ac3a50c02f953c9", func := "tusche/tuschelaw11.CrossLocated", spec := "crossLocated", unfollowed := true, recurses := true, apart := false, narrowed := true }
def CrossLocatedUptoSaid : Prop := crossLocatedUptoRow.holds Try.pinned (OpenSpec.upto crossLocatedSpec)

/-- 'tuschelaw11.CrossLeast', WHERE WHAT IT READS IS OF BULK AT MOST 1048576: true; the input reads as it did. -/
def crossLeastUptoRow : OpenClaim := { program := "ytokfmcjepkepjaa", sum := "91efe3dd6076d415b65c6ebc1d6c30dd3df67801e49cea280ac3a50c02f953c9", func := "tusche/tuschelaw11.CrossLeast", spec := "crossLeast", unfollowed := true, recurses := true, apart := false, narrowed := true }
def CrossLeastUptoSaid : Prop := crossLeastUptoRow.holds Try.pinned (OpenSpec.upto crossLeastSpec)

/-- 'tuschelaw11.CrossAdded', WHERE WHAT IT READS IS OF BULK AT MOST 1048576: true; the input reads as it did. -/
def crossAddedUptoRow : OpenClaim := { program := "ytokfmcjepkepjaa", sum := "91efe3dd6076d415b65c6ebc1d6c30dd3df67801e49cea280ac3a50c02f953c9", func := "tusche/tuschelaw11.CrossAdded", spec := "crossAdded", unfollowed := true, recurses := true, apart := false, narrowed := true }
def CrossAddedUptoSaid : Prop := crossAddedUptoRow.holds Try.pinned (OpenSpec.upto crossAddedSpec)

/-- 'tuschelaw11.CrossRound', WHERE WHAT IT READS IS OF BULK AT MOST 1048576: true; the input reads as it did. -/
def crossRoundUptoRow : OpenClaim := { program := "ytokfmcjepkepjaa", sum := "91efe3dd6076d415b65c6ebc1d6c30dd3df67801e49cea280ac3a50c02f953c9", func := "tusche/tuschelaw11.CrossRound", spec := "crossRound", unfollowed := true, recurses := true, apart := false, narrowed := true }
def CrossRoundUptoSaid : Prop := crossRoundUptoRow.holds Try.pinned (OpenSpec.upto crossRoundSpec)

/-- 'tuschelaw11.CrossRoller', WHERE WHAT IT READS IS OF BULK AT MOST 1048576: true; the input reads as it did. -/
def crossRollerUptoRow : OpenClaim := { program := "ytokfmcjepkepjaa", sum := "91efe3dd6076d415b65c6ebc1d6c30dd3df67801e49cea280ac3a50c02f953c9", func := "tusche/tuschelaw11.CrossRoller", spec := "crossRoller", unfollowed := true, recurses := true, apart := false, narrowed := true }
def CrossRollerUptoSaid : Prop := crossRollerUptoRow.holds Try.pinned (OpenSpec.upto crossRollerSpec)

/-- 'tuschelaw11.CrossMirrored', WHERE WHAT IT READS IS OF BULK AT MOST 1048576: true; the input reads as it did. -/
def crossMirroredUptoRow : OpenClaim := { program := "ytokfmcjepkepjaa", sum := "91efe3dd6076d415b65c6ebc1d6c30dd3df67801e49cea280ac3a50c02f953c9", func := "tusche/tuschelaw11.CrossMirrored", spec := "crossMirrored", unfollowed := true, recurses := true, apart := false, narrowed := true }
def CrossMirroredUptoSaid : Prop := crossMirroredUptoRow.holds Try.pinned (OpenSpec.upto crossMirroredSpec)

/-- 'tuschelaw11.CrossKnown', WHERE WHAT IT READS IS OF BULK AT MOST 1048576: true; the input reads as it did. -/
def crossKnownUptoRow : OpenClaim := { program := "ytokfmcjepkepjaa", sum := "91efe3dd6076d415b65c6ebc1d6c30dd3df67801e49cea280ac3a50c02f953c9", func := "tusche/tuschelaw11.CrossKnown", spec := "crossKnown", unfollowed := true, recurses := true, apart := false, narrowed := true }
def CrossKnownUptoSaid : Prop := crossKnownUptoRow.holds Try.pinned (OpenSpec.upto crossKnownSpec)

end Rows
end Go.Proofs.Ytokfmcjepkepjaa
