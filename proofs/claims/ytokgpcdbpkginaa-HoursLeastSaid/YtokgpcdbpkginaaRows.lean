/-
  No cell of these rows narrows 'for every input' (looked for: loops, veiled, ifaces, maps, wideKeys, modest, calm, conditions, laid).
  DERIVED. THE GIVEN ROWS OF THIS SEAT. 11 by the template 'for every input the law returns true; each argument reads behind the call as it read before'; 0 by the template 'total and deterministic' (their statements: YtokgpcdbpkginaaTotals.lean).
  GIVEN WITH THE SEED: the statements are not yours to turn. If you find one false, say at which input.
  Laid BY PROGRAM, IN A SANDBOX (cutbox-rows.mjs): the forced cells as the released guide's own fill.sh prints them over the translation 65f41287a14f793c… (all of the seat's roots in one cut). By AI agents, Wed Nov 11 2026. No macro, syntax, notation, axiom, sorry.
-/
import Derived.Test.YtokgpcdbpkginaaChecked
import GoSem.Claim
import GoSem.ClaimJoined
import GoSem.ClaimMapViews
import Derived.JoinedTies
import Derived.KernelRfl
namespace Go.Proofs.Ytokgpcdbpkginaa
/- THE CELL 'sum', in the pinned program and in every row, IS THE sha256 OF THE DUMP (.gsa) THAT YtokgpcdbpkginaaProg.lean LOADS. Nothing in Lean hashes anything: it is a label: what it is worth is what the hold of that sum in a sandbox is worth. -/
noncomputable def Try.pinned : Pinned := { name := "ytokgpcdbpkginaa", sum := "65f41287a14f793cd90b69ffa708e9c0eb379180d7ff7ff87db0738418cdf5c3", checked := Try.checked }
namespace Rows
def none {H : Type} : Left H := { results := [], args := [] }

/-- 'tuschelaw07.HoursPlans': WHATEVER THE INPUT: true; the input reads as it did. -/
def hoursPlansSpec : ChangeSpec := { name := "hoursPlans", fn := fun _ => fun
  | [d1, d2] => { results := [.lit (.bool true)], args := [d1, d2] }
  | _ => none }
def hoursPlansRow : OpenClaim := { program := "ytokgpcdbpkginaa", sum := "65f41287a14f793cd90b69ffa708e9c0eb379180d7ff7ff87db0738418cdf5c3", func := "tusche/tuschelaw07.HoursPlans", spec := "hoursPlans", unfollowed := true, recurses := true, plainKeys := false, apart := false }
def HoursPlansSaid : Prop := hoursPlansRow.holds Try.pinned (OpenSpec.ofChange hoursPlansSpec)

/-- ITS FALSE NEIGHBOUR: 'it returns false'. Refute it at one input. -/
def hoursPlansWrong : ChangeSpec := { name := "hoursPlans", fn := fun _ => fun
  | [d1, d2] => { results := [.lit (.bool false)], args := [d1, d2] }
  | _ => none }
def HoursPlansWrongFalsely : Prop := hoursPlansRow.holds Try.pinned (OpenSpec.ofChange hoursPlansWrong)

/-- 'tuschelaw07.HoursLengths': WHATEVER THE INPUT: true; the input reads as it did. -/
def hoursLengthsSpec : ChangeSpec := { name := "hoursLengths", fn := fun _ => fun
  | [d1, d2, d3] => { results := [.lit (.bool true)], args := [d1, d2, d3] }
  | _ => none }
def hoursLengthsRow : OpenClaim := { program := "ytokgpcdbpkginaa", sum := "65f41287a14f793cd90b69ffa708e9c0eb379180d7ff7ff87db0738418cdf5c3", func := "tusche/tuschelaw07.HoursLengths", spec := "hoursLengths", unfollowed := true, recurses := true, plainKeys := false, apart := false }
def HoursLengthsSaid : Prop := hoursLengthsRow.holds Try.pinned (OpenSpec.ofChange hoursLengthsSpec)

/-- ITS FALSE NEIGHBOUR: 'it returns false'. Refute it at one input. -/
def hoursLengthsWrong : ChangeSpec := { name := "hoursLengths", fn := fun _ => fun
  | [d1, d2, d3] => { results := [.lit (.bool false)], args := [d1, d2, d3] }
  | _ => none }
def HoursLengthsWrongFalsely : Prop := hoursLengthsRow.holds Try.pinned (OpenSpec.ofChange hoursLengthsWrong)

/-- 'tuschelaw07.HoursRooms': WHATEVER THE INPUT: true; the input reads as it did. -/
def hoursRoomsSpec : ChangeSpec := { name := "hoursRooms", fn := fun _ => fun
  | [d1, d2, d3, d4, d5] => { results := [.lit (.bool true)], args := [d1, d2, d3, d4, d5] }
  | _ => none }
def hoursRoomsRow : OpenClaim := { program := "ytokgpcdbpkginaa", sum := "65f41287a14f793cd90b69ffa708e9c0eb379180d7ff7ff87db0738418cdf5c3", func := "tusche/tuschelaw07.HoursRooms", spec := "hoursRooms", unfollowed := true, recurses := true, plainKeys := false, apart := false }
def HoursRoomsSaid : Prop := hoursRoomsRow.holds Try.pinned (OpenSpec.ofChange hoursRoomsSpec)

/-- ITS FALSE NEIGHBOUR: 'it returns false'. Refute it at one input. -/
def hoursRoomsWrong : ChangeSpec := { name := "hoursRooms", fn := fun _ => fun
  | [d1, d2, d3, d4, d5] => { results := [.lit (.bool false)], args := [d1, d2, d3, d4, d5] }
  | _ => none }
def HoursRoomsWrongFalsely : Prop := hoursRoomsRow.holds Try.pinned (OpenSpec.ofChange hoursRoomsWrong)

/-- 'tuschelaw07.HoursLeast': WHATEVER THE INPUT: true; the input reads as it did. -/
def hoursLeastSpec : ChangeSpec := { name := "hoursLeast", fn := fun _ => fun
  | [d] => { results := [.lit (.bool true)], args := [d] }
  | _ => none }
def hoursLeastRow : OpenClaim := { program := "ytokgpcdbpkginaa", sum := "65f41287a14f793cd90b69ffa708e9c0eb379180d7ff7ff87db0738418cdf5c3", func := "tusche/tuschelaw07.HoursLeast", spec := "hoursLeast", unfollowed := true, recurses := true, plainKeys := false, apart := false }
def HoursLeastSaid : Prop := hoursLeastRow.holds Try.pinned (OpenSpec.ofChange hoursLeastSpec)

/-- ITS FALSE NEIGHBOUR: 'it returns false'. Refute it at one input. -/
def hoursLeastWrong : ChangeSpec := { name := "hoursLeast", fn := fun _ => fun
  | [d] => { results := [.lit (.bool false)], args := [d] }
  | _ => none }
def HoursLeastWrongFalsely : Prop := hoursLeastRow.holds Try.pinned (OpenSpec.ofChange hoursLeastWrong)

/-- 'tuschelaw07.HoursWait': WHATEVER THE INPUT: true; the input reads as it did. -/
def hoursWaitSpec : ChangeSpec := { name := "hoursWait", fn := fun _ => fun
  | [d1, d2, d3] => { results := [.lit (.bool true)], args := [d1, d2, d3] }
  | _ => none }
def hoursWaitRow : OpenClaim := { program := "ytokgpcdbpkginaa", sum := "65f41287a14f793cd90b69ffa708e9c0eb379180d7ff7ff87db0738418cdf5c3", func := "tusche/tuschelaw07.HoursWait", spec := "hoursWait", unfollowed := true, recurses := true, plainKeys := false, apart := false }
def HoursWaitSaid : Prop := hoursWaitRow.holds Try.pinned (OpenSpec.ofChange hoursWaitSpec)

/-- ITS FALSE NEIGHBOUR: 'it returns false'. Refute it at one input. -/
def hoursWaitWrong : ChangeSpec := { name := "hoursWait", fn := fun _ => fun
  | [d1, d2, d3] => { results := [.lit (.bool false)], args := [d1, d2, d3] }
  | _ => none }
def HoursWaitWrongFalsely : Prop := hoursWaitRow.holds Try.pinned (OpenSpec.ofChange hoursWaitWrong)

/-- 'tuschelaw07.HoursMore': WHATEVER THE INPUT: true; the input reads as it did. -/
def hoursMoreSpec : ChangeSpec := { name := "hoursMore", fn := fun _ => fun
  | [d1, d2, d3] => { results := [.lit (.bool true)], args := [d1, d2, d3] }
  | _ => none }
def hoursMoreRow : OpenClaim := { program := "ytokgpcdbpkginaa", sum := "65f41287a14f793cd90b69ffa708e9c0eb379180d7ff7ff87db0738418cdf5c3", func := "tusche/tuschelaw07.HoursMore", spec := "hoursMore", unfollowed := true, recurses := true, plainKeys := false, apart := false }
def HoursMoreSaid : Prop := hoursMoreRow.holds Try.pinned (OpenSpec.ofChange hoursMoreSpec)

/-- ITS FALSE NEIGHBOUR: 'it returns false'. Refute it at one input. -/
def hoursMoreWrong : ChangeSpec := { name := "hoursMore", fn := fun _ => fun
  | [d1, d2, d3] => { results := [.lit (.bool false)], args := [d1, d2, d3] }
  | _ => none }
def HoursMoreWrongFalsely : Prop := hoursMoreRow.holds Try.pinned (OpenSpec.ofChange hoursMoreWrong)

/-- 'tuschelaw07.HoursSeats': WHATEVER THE INPUT: true; the input reads as it did. -/
def hoursSeatsSpec : ChangeSpec := { name := "hoursSeats", fn := fun _ => fun
  | [d1, d2] => { results := [.lit (.bool true)], args := [d1, d2] }
  | _ => none }
def hoursSeatsRow : OpenClaim := { program := "ytokgpcdbpkginaa", sum := "65f41287a14f793cd90b69ffa708e9c0eb379180d7ff7ff87db0738418cdf5c3", func := "tusche/tuschelaw07.HoursSeats", spec := "hoursSeats", unfollowed := true, recurses := true, plainKeys := false, apart := false }
def HoursSeatsSaid : Prop := hoursSeatsRow.holds Try.pinned (OpenSpec.ofChange hoursSeatsSpec)

/-- ITS FALSE NEIGHBOUR: 'it returns false'. Refute it at one input. -/
def hoursSeatsWrong : ChangeSpec := { name := "hoursSeats", fn := fun _ => fun
  | [d1, d2] => { results := [.lit (.bool false)], args := [d1, d2] }
  | _ => none }
def HoursSeatsWrongFalsely : Prop := hoursSeatsRow.holds Try.pinned (OpenSpec.ofChange hoursSeatsWrong)

/-- 'tuschelaw07.HoursHalves': WHATEVER THE INPUT: true; the input reads as it did. -/
def hoursHalvesSpec : ChangeSpec := { name := "hoursHalves", fn := fun _ => fun
  | [d1, d2] => { results := [.lit (.bool true)], args := [d1, d2] }
  | _ => none }
def hoursHalvesRow : OpenClaim := { program := "ytokgpcdbpkginaa", sum := "65f41287a14f793cd90b69ffa708e9c0eb379180d7ff7ff87db0738418cdf5c3", func := "tusche/tuschelaw07.HoursHalves", spec := "hoursHalves", unfollowed := true, recurses := true, plainKeys := false, apart := false }
def HoursHalvesSaid : Prop := hoursHalvesRow.holds Try.pinned (OpenSpec.ofChange hoursHalvesSpec)

/-- ITS FALSE NEIGHBOUR: 'it returns false'. Refute it at one input. -/
def hoursHalvesWrong : ChangeSpec := { name := "hoursHalves", fn := fun _ => fun
  | [d1, d2] => { results := [.lit (.bool false)], args := [d1, d2] }
  | _ => none }
def HoursHalvesWrongFalsely : Prop := hoursHalvesRow.holds Try.pinned (OpenSpec.ofChange hoursHalvesWrong)

/-- 'tuschelaw07.HoursKnown': WHATEVER THE INPUT: true; the input reads as it did. -/
def hoursKnownSpec : ChangeSpec := { name := "hoursKnown", fn := fun _ => fun
  | [] => { results := [.lit (.bool true)], args := [] }
  | _ => none }
def hoursKnownRow : OpenClaim := { program := "ytokgpcdbpkginaa", sum := "65f41287a14f793cd90b69ffa708e9c0eb379180d7ff7ff87db0738418cdf5c3", func := "tusche/tuschelaw07.HoursKnown", spec := "hoursKnown", unfollowed := true, recurses := true, plainKeys := false, apart := false }
def HoursKnownSaid : Prop := hoursKnownRow.holds Try.pinned (OpenSpec.ofChange hoursKnownSpec)

/-- ITS FALSE NEIGHBOUR: 'it returns false'. Refute it at one input. -/
def hoursKnownWrong : ChangeSpec := { name := "hoursKnown", fn := fun _ => fun
  | [] => { results := [.lit (.bool false)], args := [] }
  | _ => none }
def HoursKnownWrongFalsely : Prop := hoursKnownRow.holds Try.pinned (OpenSpec.ofChange hoursKnownWrong)

/-- 'tuschelaw07.HoursSums': WHATEVER THE INPUT: true; the input reads as it did. -/
def hoursSumsSpec : ChangeSpec := { name := "hoursSums", fn := fun _ => fun
  | [d1, d2, d3] => { results := [.lit (.bool true)], args := [d1, d2, d3] }
  | _ => none }
def hoursSumsRow : OpenClaim := { program := "ytokgpcdbpkginaa", sum := "65f41287a14f793cd90b69ffa708e9c0eb379180d7ff7ff87db0738418cdf5c3", func := "tusche/tuschelaw07.HoursSums", spec := "hoursSums", unfollowed := true, recurses := true, plainKeys := false, apart := false }
def HoursSumsSaid : Prop := hoursSumsRow.holds Try.pinned (OpenSpec.ofChange hoursSumsSpec)

/-- ITS FALSE NEIGHBOUR: 'it returns false'. Refute it at one input. -/
def hoursSumsWrong : ChangeSpec := { name := "hoursSums", fn := fun _ => fun
  | [d1, d2, d3] => { results := [.lit (.bool false)], args := [d1, d2, d3] }
  | _ => none }
def HoursSumsWrongFalsely : Prop := hoursSumsRow.holds Try.pinned (OpenSpec.ofChange hoursSumsWrong)

/-- 'tuschelaw07.HoursPlan': WHATEVER THE INPUT: true; the input reads as it did. -/
def hoursPlanSpec : ChangeSpec := { name := "hoursPlan", fn := fun _ => fun
  | [d] => { results := [.lit (.bool true)], args := [d] }
  | _ => none }
def hoursPlanRow : OpenClaim := { program := "ytokgpcdbpkginaa", sum := "65f41287a14f793cd90b69ffa708e9c0eb379180d7ff7ff87db0738418cdf5c3", func := "tusche/tuschelaw07.HoursPlan", spec := "hoursPlan", unfollowed := true, recurses := true, plainKeys := false, apart := false }
def HoursPlanSaid : Prop := hoursPlanRow.holds Try.pinned (OpenSpec.ofChange hoursPlanSpec)

/-- ITS FALSE NEIGHBOUR: 'it returns false'. Refute it at one input. -/
def hoursPlanWrong : ChangeSpec := { name := "hoursPlan", fn := fun _ => fun
  | [d] => { results := [.lit (.bool false)], args := [d] }
  | _ => none }
def HoursPlanWrongFalsely : Prop := hoursPlanRow.holds Try.pinned (OpenSpec.ofChange hoursPlanWrong)

/- THE SECOND FORM. 'bulk': how many values and letters a reading holds, each counted each time it is reached (what is shared counts as often as it is met; a slice's spare places count too). A statement '..UptoSaid' is the law's where the arguments, and the package variables that the reading takes, are together of bulk at most 1048576: NARROWER than '..Said'. Prove '..Said' where nothing that the law and all that it calls make is longer than what came in: it says more and counts as full. Else prove '..UptoSaid'. A law counts once. -/
mutual
def uptoBulk {H : Type} : DataW H → Nat
  | .lit (.string bytes) => bytes.length + 1
  | .lit _ => 1
  | .nil => 1
  | .ptr d => uptoBulk d + 1
  | .slice elems spare => uptoBulkAll elems + uptoBulkAll spare + 1
  | .agg parts => uptoBulkAll parts + 1
  | .iface _ d => uptoBulk d + 1
  | .map entries => uptoBulkEntries entries + 1
  | .held _ => 1
def uptoBulkAll {H : Type} : List (DataW H) → Nat
  | [] => 0
  | d :: r => uptoBulk d + uptoBulkAll r
def uptoBulkEntries {H : Type} : List (Lit × DataW H) → Nat
  | [] => 0
  | x :: r => uptoBulkEntry x + uptoBulkEntries r
def uptoBulkEntry {H : Type} : Lit × DataW H → Nat
  | (.string bytes, d) => bytes.length + uptoBulk d + 1
  | (_, d) => uptoBulk d + 1
 end
def uptoSmall : (H : Type) → List (DataW H) → Bool := fun _ ds => decide (uptoBulkAll ds ≤ 1048576)
def OpenSpec.upto (s : _root_.Go.ChangeSpec) : _root_.Go.OpenSpec := { _root_.Go.OpenSpec.ofChange s with cond := some uptoSmall }

/-- 'tuschelaw07.HoursPlans', WHERE WHAT IT READS IS OF BULK AT MOST 1048576: true; the input reads as it did. -/
def hoursPlansUptoRow : OpenClaim := { program := "ytokgpcdbpkginaa", sum := "65f41287a14f793cd90b69ffa708e9c0eb379180d7ff7ff87db0738418cdf5c3", func := "tusche/tuschelaw07.HoursPlans", spec := "hoursPlans", unfollowed := true, recurses := true, plainKeys := false, apart := false, narrowed := true }
def HoursPlansUptoSaid : Prop := hoursPlansUptoRow.holds Try.pinned (OpenSpec.upto hoursPlansSpec)

/-- 'tuschelaw07.HoursLengths', WHERE WHAT IT READS IS OF BULK AT MOST 1048576: true; the input reads as it did. -/
def hoursLengthsUptoRow : OpenClaim := { program := "ytokgpcdbpkginaa", sum := "65f41287a14f793cd90b69ffa708e9c0eb379180d7ff7ff87db0738418cdf5c3", func := "tusche/tuschelaw07.HoursLengths", spec := "hoursLengths", unfollowed := true, recurses := true, plainKeys := false, apart := false, narrowed := true }
def HoursLengthsUptoSaid : Prop := hoursLengthsUptoRow.holds Try.pinned (OpenSpec.upto hoursLengthsSpec)

/-- 'tuschelaw07.HoursRooms', WHERE WHAT IT READS IS OF BULK AT MOST 1048576: true; the input reads as it did. -/
def hoursRoomsUptoRow : OpenClaim := { program := "ytokgpcdbpkginaa", sum := "65f41287a14f793cd90b69ffa708e9c0eb379180d7ff7ff87db0738418cdf5c3", func := "tusche/tuschelaw07.HoursRooms", spec := "hoursRooms", unfollowed := true, recurses := true, plainKeys := false, apart := false, narrowed := true }
def HoursRoomsUptoSaid : Prop := hoursRoomsUptoRow.holds Try.pinned (OpenSpec.upto hoursRoomsSpec)

/-- 'tuschelaw07.HoursLeast', WHERE WHAT IT READS IS OF BULK AT MOST 1048576: true; the input reads as it did. -/
def hoursLeastUptoRow : OpenClaim := { program := "ytokgpcdbpkginaa", sum := "65f41287a14f793cd90b69ffa708e9c0eb379180d7ff7ff87db0738418cdf5c3", func := "tusche/tuschelaw07.HoursLeast", spec := "hoursLeast", unfollowed := true, recurses := true, plainKeys := false, apart := false, narrowed := true }
def HoursLeastUptoSaid : Prop := hoursLeastUptoRow.holds Try.pinned (OpenSpec.upto hoursLeastSpec)

/-- 'tuschelaw07.HoursWait', WHERE WHAT IT READS IS OF BULK AT MOST 1048576: true; the input reads as it did. -/
def hoursWaitUptoRow : OpenClaim := { program := "ytokgpcdbpkginaa", sum := "65f41287a14f793cd90b69ffa708e9c0eb379180d7ff7ff87db0738418cdf5c3", func := "tusche/tuschelaw07.HoursWait", spec := "hoursWait", unfollowed := true, recurses := true, plainKeys := false, apart := false, narrowed := true }
def HoursWaitUptoSaid : Prop := hoursWaitUptoRow.holds Try.pinned (OpenSpec.upto hoursWaitSpec)

/-- 'tuschelaw07.HoursMore', WHERE WHAT IT READS IS OF BULK AT MOST 1048576: true; the input reads as it did. -/
def hoursMoreUptoRow : OpenClaim := { program := "ytokgpcdbpkginaa", sum := "65f41287a14f793cd90b69ffa708e9c0eb379180d7ff7ff87db0738418cdf5c3", func := "tusche/tuschelaw07.HoursMore", spec := "hoursMore", unfollowed := true, recurses := true, plainKeys := false, apart := false, narrowed := true }
def HoursMoreUptoSaid : Prop := hoursMoreUptoRow.holds Try.pinned (OpenSpec.upto hoursMoreSpec)

/-- 'tuschelaw07.HoursSeats', WHERE WHAT IT READS IS OF BULK AT MOST 1048576: true; the input reads as it did. -/
def hoursSeatsUptoRow : OpenClaim := { program := "ytokgpcdbpkginaa", sum := "65f41287a14f793cd90b69ffa708e9c0eb379180d7ff7ff87db0738418cdf5c3", func := "tusche/tuschelaw07.HoursSeats", spec := "hoursSeats", unfollowed := true, recurses := true, plainKeys := false, apart := false, narrowed := true }
def HoursSeatsUptoSaid : Prop := hoursSeatsUptoRow.holds Try.pinned (OpenSpec.upto hoursSeatsSpec)

/-- 'tuschelaw07.HoursHalves', WHERE WHAT IT READS IS OF BULK AT MOST 1048576: true; the input reads as it did. -/
def hoursHalvesUptoRow : OpenClaim := { program := "ytokgpcdbpkginaa", sum := "65f41287a14f793cd90b69ffa708e9c0eb379180d7ff7ff87db0738418cdf5c3", func := "tusche/tuschelaw07.HoursHalves", spec := "hoursHalves", unfollowed := true, recurses := true, plainKeys := false, apart := false, narrowed := true }
def HoursHalvesUptoSaid : Prop := hoursHalvesUptoRow.holds Try.pinned (OpenSpec.upto hoursHalvesSpec)

/-- 'tuschelaw07.HoursKnown', WHERE WHAT IT READS IS OF BULK AT MOST 1048576: true; the input reads as it did. -/
def hoursKnownUptoRow : OpenClaim := { program := "ytokgpcdbpkginaa", sum := "65f41287a14f793cd90b69ffa708e9c0eb379180d7ff7ff87db0738418cdf5c3", func := "tusche/tuschelaw07.HoursKnown", spec := "hoursKnown", unfollowed := true, recurses := true, plainKeys := false, apart := false, narrowed := true }
def HoursKnownUptoSaid : Prop := hoursKnownUptoRow.holds Try.pinned (OpenSpec.upto hoursKnownSpec)

/-- 'tuschelaw07.HoursSums', WHERE WHAT IT READS IS OF BULK AT MOST 1048576: true; the input reads as it did. -/
def hoursSumsUptoRow : OpenClaim := { program := "ytokgpcdbpkginaa", sum := "65f41287a14f793cd90b69ffa708e9c0eb379180d7ff7ff87db0738418cdf5c3", func := "tusche/tuschelaw07.HoursSums", spec := "hoursSums", unfollowed := true, recurses := true, plainKeys := false, apart := false, narrowed := true }
def HoursSumsUptoSaid : Prop := hoursSumsUptoRow.holds Try.pinned (OpenSpec.upto hoursSumsSpec)

/-- 'tuschelaw07.HoursPlan', WHERE WHAT IT READS IS OF BULK AT MOST 1048576: true; the input reads as it did. -/
def hoursPlanUptoRow : OpenClaim := { program := "ytokgpcdbpkginaa", sum := "65f41287a14f793cd90b69ffa708e9c0eb379180d7ff7ff87db0738418cdf5c3", func := "tusche/tuschelaw07.HoursPlan", spec := "hoursPlan", unfollowed := true, recurses := true, plainKeys := false, apart := false, narrowed := true }
def HoursPlanUptoSaid : Prop := hoursPlanUptoRow.holds Try.pinned (OpenSpec.upto hoursPlanSpec)

end Rows
end Go.Proofs.Ytokgpcdbpkginaa
