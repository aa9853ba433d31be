/-
  No cell of these rows narrows 'for every input' (looked for: loops, veiled, ifaces, maps, wideKeys, modest, calm, conditions, laid).
  DERIVED. THE GIVEN ROWS OF THIS SEAT. 12 by the template 'for every input the law returns true; each argument reads behind the call as it read before'; 0 by the template 'total and deterministic' (their statements: YtnmpdegnpaggkaaTotals.lean).
  GIVEN WITH THE SEED: the statements are not yours to turn. If you find one false, say at which input.
  Laid BY PROGRAM, IN A SANDBOX (cutbox-rows.mjs): the forced cells as the released guide's own fill.sh prints them over the translation f3698ba4fef9ffde… (all of the seat's roots in one cut). By AI agents, Wed Nov 11 2026. No macro, syntax, notation, axiom, sorry.
-/
import Derived.Test.YtnmpdegnpaggkaaChecked
import GoSem.Claim
import GoSem.ClaimJoined
import GoSem.ClaimMapViews
import Derived.JoinedTies
import Derived.KernelRfl
namespace Go.Proofs.Ytnmpdegnpaggkaa
/- THE CELL 'sum', in the pinned program and in every row, IS THE sha256 OF THE DUMP (.gsa) THAT YtnmpdegnpaggkaaProg.lean LOADS. Nothing in Lean hashes anything: it is a label: what it is worth is what the hold of that sum in a sandbox is worth. -/
noncomputable def Try.pinned : Pinned := { name := "ytnmpdegnpaggkaa", sum := "f3698ba4fef9ffdeefc59e3557acee175504f687c8949e39c2a8e94db3e4870e", checked := Try.checked }
namespace Rows
def none {H : Type} : Left H := { results := [], args := [] }

/-- 'tuschelaw04.TransferChains': WHATEVER THE INPUT: true; the input reads as it did. -/
def transferChainsSpec : ChangeSpec := { name := "transferChains", fn := fun _ => fun
  | [d] => { results := [.lit (.bool true)], args := [d] }
  | _ => none }
def transferChainsRow : OpenClaim := { program := "ytnmpdegnpaggkaa", sum := "f3698ba4fef9ffdeefc59e3557acee175504f687c8949e39c2a8e94db3e4870e", func := "tusche/tuschelaw04.TransferChains", spec := "transferChains", unfollowed := true, recurses := true, apart := false }
def TransferChainsSaid : Prop := transferChainsRow.holds Try.pinned (OpenSpec.ofChange transferChainsSpec)

/-- ITS FALSE NEIGHBOUR: 'it returns false'. Refute it at one input. -/
def transferChainsWrong : ChangeSpec := { name := "transferChains", fn := fun _ => fun
  | [d] => { results := [.lit (.bool false)], args := [d] }
  | _ => none }
def TransferChainsWrongFalsely : Prop := transferChainsRow.holds Try.pinned (OpenSpec.ofChange transferChainsWrong)

/-- 'tuschelaw04.TransferShortest': WHATEVER THE INPUT: true; the input reads as it did. -/
def transferShortestSpec : ChangeSpec := { name := "transferShortest", fn := fun _ => fun
  | [d1, d2] => { results := [.lit (.bool true)], args := [d1, d2] }
  | _ => none }
def transferShortestRow : OpenClaim := { program := "ytnmpdegnpaggkaa", sum := "f3698ba4fef9ffdeefc59e3557acee175504f687c8949e39c2a8e94db3e4870e", func := "tusche/tuschelaw04.TransferShortest", spec := "transferShortest", unfollowed := true, recurses := true, apart := false }
def TransferShortestSaid : Prop := transferShortestRow.holds Try.pinned (OpenSpec.ofChange transferShortestSpec)

/-- ITS FALSE NEIGHBOUR: 'it returns false'. Refute it at one input. -/
def transferShortestWrong : ChangeSpec := { name := "transferShortest", fn := fun _ => fun
  | [d1, d2] => { results := [.lit (.bool false)], args := [d1, d2] }
  | _ => none }
def TransferShortestWrongFalsely : Prop := transferShortestRow.holds Try.pinned (OpenSpec.ofChange transferShortestWrong)

/-- 'tuschelaw04.TransferSpoilt': WHATEVER THE INPUT: true; the input reads as it did. -/
def transferSpoiltSpec : ChangeSpec := { name := "transferSpoilt", fn := fun _ => fun
  | [d1, d2] => { results := [.lit (.bool true)], args := [d1, d2] }
  | _ => none }
def transferSpoiltRow : OpenClaim := { program := "ytnmpdegnpaggkaa", sum := "f3698ba4fef9ffdeefc59e3557acee175504f687c8949e39c2a8e94db3e4870e", func := "tusche/tuschelaw04.TransferSpoilt", spec := "transferSpoilt", unfollowed := true, recurses := true, apart := false }
def TransferSpoiltSaid : Prop := transferSpoiltRow.holds Try.pinned (OpenSpec.ofChange transferSpoiltSpec)

/-- ITS FALSE NEIGHBOUR: 'it returns false'. Refute it at one input. -/
def transferSpoiltWrong : ChangeSpec := { name := "transferSpoilt", fn := fun _ => fun
  | [d1, d2] => { results := [.lit (.bool false)], args := [d1, d2] }
  | _ => none }
def TransferSpoiltWrongFalsely : Prop := transferSpoiltRow.holds Try.pinned (OpenSpec.ofChange transferSpoiltWrong)

/-- 'tuschelaw04.TransferCosts': WHATEVER THE INPUT: true; the input reads as it did. -/
def transferCostsSpec : ChangeSpec := { name := "transferCosts", fn := fun _ => fun
  | [d1, d2, d3] => { results := [.lit (.bool true)], args := [d1, d2, d3] }
  | _ => none }
def transferCostsRow : OpenClaim := { program := "ytnmpdegnpaggkaa", sum := "f3698ba4fef9ffdeefc59e3557acee175504f687c8949e39c2a8e94db3e4870e", func := "tusche/tuschelaw04.TransferCosts", spec := "transferCosts", unfollowed := true, recurses := true, apart := false }
def TransferCostsSaid : Prop := transferCostsRow.holds Try.pinned (OpenSpec.ofChange transferCostsSpec)

/-- ITS FALSE NEIGHBOUR: 'it returns false'. Refute it at one input. -/
def transferCostsWrong : ChangeSpec := { name := "transferCosts", fn := fun _ => fun
  | [d1, d2, d3] => { results := [.lit (.bool false)], args := [d1, d2, d3] }
  | _ => none }
def TransferCostsWrongFalsely : Prop := transferCostsRow.holds Try.pinned (OpenSpec.ofChange transferCostsWrong)

/-- 'tuschelaw04.TransferLeast': WHATEVER THE INPUT: true; the input reads as it did. -/
def transferLeastSpec : ChangeSpec := { name := "transferLeast", fn := fun _ => fun
  | [d] => { results := [.lit (.bool true)], args := [d] }
  | _ => none }
def transferLeastRow : OpenClaim := { program := "ytnmpdegnpaggkaa", sum := "f3698ba4fef9ffdeefc59e3557acee175504f687c8949e39c2a8e94db3e4870e", func := "tusche/tuschelaw04.TransferLeast", spec := "transferLeast", unfollowed := true, recurses := true, apart := false }
def TransferLeastSaid : Prop := transferLeastRow.holds Try.pinned (OpenSpec.ofChange transferLeastSpec)

/-- ITS FALSE NEIGHBOUR: 'it returns false'. Refute it at one input. -/
def transferLeastWrong : ChangeSpec := { name := "transferLeast", fn := fun _ => fun
  | [d] => { results := [.lit (.bool false)], args := [d] }
  | _ => none }
def TransferLeastWrongFalsely : Prop := transferLeastRow.holds Try.pinned (OpenSpec.ofChange transferLeastWrong)

/-- 'tuschelaw04.TransferCount': WHATEVER THE INPUT: true; the input reads as it did. -/
def transferCountSpec : ChangeSpec := { name := "transferCount", fn := fun _ => fun
  | [d] => { results := [.lit (.bool true)], args := [d] }
  | _ => none }
def transferCountRow : OpenClaim := { program := "ytnmpdegnpaggkaa", sum := "f3698ba4fef9ffdeefc59e3557acee175504f687c8949e39c2a8e94db3e4870e", func := "tusche/tuschelaw04.TransferCount", spec := "transferCount", unfollowed := true, recurses := true, apart := false }
def TransferCountSaid : Prop := transferCountRow.holds Try.pinned (OpenSpec.ofChange transferCountSpec)

/-- ITS FALSE NEIGHBOUR: 'it returns false'. Refute it at one input. -/
def transferCountWrong : ChangeSpec := { name := "transferCount", fn := fun _ => fun
  | [d] => { results := [.lit (.bool false)], args := [d] }
  | _ => none }
def TransferCountWrongFalsely : Prop := transferCountRow.holds Try.pinned (OpenSpec.ofChange transferCountWrong)

/-- 'tuschelaw04.TransferGrown': WHATEVER THE INPUT: true; the input reads as it did. -/
def transferGrownSpec : ChangeSpec := { name := "transferGrown", fn := fun _ => fun
  | [d1, d2] => { results := [.lit (.bool true)], args := [d1, d2] }
  | _ => none }
def transferGrownRow : OpenClaim := { program := "ytnmpdegnpaggkaa", sum := "f3698ba4fef9ffdeefc59e3557acee175504f687c8949e39c2a8e94db3e4870e", func := "tusche/tuschelaw04.TransferGrown", spec := "transferGrown", unfollowed := true, recurses := true, apart := false }
def TransferGrownSaid : Prop := transferGrownRow.holds Try.pinned (OpenSpec.ofChange transferGrownSpec)

/-- ITS FALSE NEIGHBOUR: 'it returns false'. Refute it at one input. -/
def transferGrownWrong : ChangeSpec := { name := "transferGrown", fn := fun _ => fun
  | [d1, d2] => { results := [.lit (.bool false)], args := [d1, d2] }
  | _ => none }
def TransferGrownWrongFalsely : Prop := transferGrownRow.holds Try.pinned (OpenSpec.ofChange transferGrownWrong)

/-- 'tuschelaw04.TransferProducts': WHATEVER THE INPUT: true; the input reads as it did. -/
def transferProductsSpec : ChangeSpec := { name := "transferProducts", fn := fun _ => fun
  | [d1, d2] => { results := [.lit (.bool true)], args := [d1, d2] }
  | _ => none }
def transferProductsRow : OpenClaim := { program := "ytnmpdegnpaggkaa", sum := "f3698ba4fef9ffdeefc59e3557acee175504f687c8949e39c2a8e94db3e4870e", func := "tusche/tuschelaw04.TransferProducts", spec := "transferProducts", unfollowed := true, recurses := true, apart := false }
def TransferProductsSaid : Prop := transferProductsRow.holds Try.pinned (OpenSpec.ofChange transferProductsSpec)

/-- ITS FALSE NEIGHBOUR: 'it returns false'. Refute it at one input. -/
def transferProductsWrong : ChangeSpec := { name := "transferProducts", fn := fun _ => fun
  | [d1, d2] => { results := [.lit (.bool false)], args := [d1, d2] }
  | _ => none }
def TransferProductsWrongFalsely : Prop := transferProductsRow.holds Try.pinned (OpenSpec.ofChange transferProductsWrong)

/-- 'tuschelaw04.TransferWithout': WHATEVER THE INPUT: true; the input reads as it did. -/
def transferWithoutSpec : ChangeSpec := { name := "transferWithout", fn := fun _ => fun
  | [d1, d2] => { results := [.lit (.bool true)], args := [d1, d2] }
  | _ => none }
def transferWithoutRow : OpenClaim := { program := "ytnmpdegnpaggkaa", sum := "f3698ba4fef9ffdeefc59e3557acee175504f687c8949e39c2a8e94db3e4870e", func := "tusche/tuschelaw04.TransferWithout", spec := "transferWithout", unfollowed := true, recurses := true, apart := false }
def TransferWithoutSaid : Prop := transferWithoutRow.holds Try.pinned (OpenSpec.ofChange transferWithoutSpec)

/-- ITS FALSE NEIGHBOUR: 'it returns false'. Refute it at one input. -/
def transferWithoutWrong : ChangeSpec := { name := "transferWithout", fn := fun _ => fun
  | [d1, d2] => { results := [.lit (.bool false)], args := [d1, d2] }
  | _ => none }
def TransferWithoutWrongFalsely : Prop := transferWithoutRow.holds Try.pinned (OpenSpec.ofChange transferWithoutWrong)

/-- 'tuschelaw04.TransferPrices': WHATEVER THE INPUT: true; the input reads as it did. -/
def transferPricesSpec : ChangeSpec := { name := "transferPrices", fn := fun _ => fun
  | [d1, d2, d3, d4] => { results := [.lit (.bool true)], args := [d1, d2, d3, d4] }
  | _ => none }
def transferPricesRow : OpenClaim := { program := "ytnmpdegnpaggkaa", sum := "f3698ba4fef9ffdeefc59e3557acee175504f687c8949e39c2a8e94db3e4870e", func := "tusche/tuschelaw04.TransferPrices", spec := "transferPrices", unfollowed := true, recurses := true, apart := false }
def TransferPricesSaid : Prop := transferPricesRow.holds Try.pinned (OpenSpec.ofChange transferPricesSpec)

/-- ITS FALSE NEIGHBOUR: 'it returns false'. Refute it at one input. -/
def transferPricesWrong : ChangeSpec := { name := "transferPrices", fn := fun _ => fun
  | [d1, d2, d3, d4] => { results := [.lit (.bool false)], args := [d1, d2, d3, d4] }
  | _ => none }
def TransferPricesWrongFalsely : Prop := transferPricesRow.holds Try.pinned (OpenSpec.ofChange transferPricesWrong)

/-- 'tuschelaw04.TransferReach': WHATEVER THE INPUT: true; the input reads as it did. -/
def transferReachSpec : ChangeSpec := { name := "transferReach", fn := fun _ => fun
  | [d] => { results := [.lit (.bool true)], args := [d] }
  | _ => none }
def transferReachRow : OpenClaim := { program := "ytnmpdegnpaggkaa", sum := "f3698ba4fef9ffdeefc59e3557acee175504f687c8949e39c2a8e94db3e4870e", func := "tusche/tuschelaw04.TransferReach", spec := "transferReach", unfollowed := true, recurses := true, apart := false }
def TransferReachSaid : Prop := transferReachRow.holds Try.pinned (OpenSpec.ofChange transferReachSpec)

/-- ITS FALSE NEIGHBOUR: 'it returns false'. Refute it at one input. -/
def transferReachWrong : ChangeSpec := { name := "transferReach", fn := fun _ => fun
  | [d] => { results := [.lit (.bool false)], args := [d] }
  | _ => none }
def TransferReachWrongFalsely : Prop := transferReachRow.holds Try.pinned (OpenSpec.ofChange transferReachWrong)

/-- 'tuschelaw04.TransferKnown': WHATEVER THE INPUT: true; the input reads as it did. -/
def transferKnownSpec : ChangeSpec := { name := "transferKnown", fn := fun _ => fun
  | [] => { results := [.lit (.bool true)], args := [] }
  | _ => none }
def transferKnownRow : OpenClaim := { program := "ytnmpdegnpaggkaa", sum := "f3698ba4fef9ffdeefc59e3557acee175504f687c8949e39c2a8e94db3e4870e", func := "tusche/tuschelaw04.TransferKnown", spec := "transferKnown", unfollowed := true, recurses := true, apart := false }
def TransferKnownSaid : Prop := transferKnownRow.holds Try.pinned (OpenSpec.ofChange transferKnownSpec)

/-- ITS FALSE NEIGHBOUR: 'it returns false'. Refute it at one input. -/
def transferKnownWrong : ChangeSpec := { name := "transferKnown", fn := fun _ => fun
  | [] => { results := [.lit (.bool false)], args := [] }
  | _ => none }
def TransferKnownWrongFalsely : Prop := transferKnownRow.holds Try.pinned (OpenSpec.ofChange transferKnownWrong)

/- THE SECOND FORM. 'bulk': how many values and letters a reading holds, each counted each time it is reached (what is shared counts as often as it is met; a slice's spare places count too). A statement '..UptoSaid' is the law's where the arguments, and the package variables that the reading takes, are together of bulk at most 1048576: NARROWER than '..Said'. Prove '..Said' where nothing that the law and all that it calls make is longer than what came in: it says more and counts as full. Else prove '..UptoSaid'. A law counts once. -/
mutual
def uptoBulk {H : Type} : DataW H → Nat
  | .lit (.string bytes) => bytes.length + 1
  | .lit _ => 1
  | .nil => 1
  | .ptr d => uptoBulk d + 1
  | .slice elems spare => uptoBulkAll elems + uptoBulkAll spare + 1
  | .agg parts => uptoBulkAll parts + 1
  | .iface _ d => uptoBulk d + 1
  | .map entries => uptoBulkEntries entries + 1
  | .held _ => 1
def uptoBulkAll {H : Type} : List (DataW H) → Nat
  | [] => 0
  | d :: r => uptoBulk d + uptoBulkAll r
def uptoBulkEntries {H : Type} : List (Lit × DataW H) → Nat
  | [] => 0
  | x :: r => uptoBulkEntry x + uptoBulkEntries r
def uptoBulkEntry {H : Type} : Lit × DataW H → Nat
  | (.string bytes, d) => bytes.length + uptoBulk d + 1
  | (_, d) => uptoBulk d + 1
 end
def uptoSmall : (H : Type) → List (DataW H) → Bool := fun _ ds => decide (uptoBulkAll ds ≤ 1048576)
def OpenSpec.upto (s : _root_.Go.ChangeSpec) : _root_.Go.OpenSpec := { _root_.Go.OpenSpec.ofChange s with cond := some uptoSmall }

/-- 'tuschelaw04.TransferChains', WHERE WHAT IT READS IS OF BULK AT MOST 1048576: true; the input reads as it did. -/
def transferChainsUptoRow : OpenClaim := { program := "ytnmpdegnpaggkaa", sum := "f3698ba4fef9ffdeefc59e3557acee175504f687c8949e39c2a8e94db3e4870e", func := "tusche/tuschelaw04.TransferChains", spec := "transferChains", unfollowed := true, recurses := true, apart := false, narrowed := true }
def TransferChainsUptoSaid : Prop := transferChainsUptoRow.holds Try.pinned (OpenSpec.upto transferChainsSpec)

/-- 'tuschelaw04.TransferShortest', WHERE WHAT IT READS IS OF BULK AT MOST 1048576: true; the input reads as it did. -/
def transferShortestUptoRow : OpenClaim := { program := "ytnmpdegnpaggkaa", sum := "f3698ba4fef9ffdeefc59e3557acee175504f687c8949e39c2a8e94db3e4870e", func := "tusche/tuschelaw04.TransferShortest", spec := "transferShortest", unfollowed := true, recurses := true, apart := false, narrowed := true }
def TransferShortestUptoSaid : Prop := transferShortestUptoRow.holds Try.pinned (OpenSpec.upto transferShortestSpec)

/-- 'tuschelaw04.TransferSpoilt', WHERE WHAT IT READS IS OF BULK AT MOST 1048576: true; the input reads as it did. -/
def transferSpoiltUptoRow : OpenClaim := { program := "ytnmpdegnpaggkaa", sum := "f3698ba4fef9ffdeefc59e3557acee175504f687c8949e39c2a8e94db3e4870e", func := "tusche/tuschelaw04.TransferSpoilt", spec := "transferSpoilt", unfollowed := true, recurses := true, apart := false, narrowed := true }
def TransferSpoiltUptoSaid : Prop := transferSpoiltUptoRow.holds Try.pinned (OpenSpec.upto transferSpoiltSpec)

/-- 'tuschelaw04.TransferCosts', WHERE WHAT IT READS IS OF BULK AT MOST 1048576: true; the input reads as it did. -/
def transferCostsUptoRow : OpenClaim := { program := "ytnmpdegnpaggkaa", sum := "f3698ba4fef9ffdeefc59e3557acee175504f687c8949e39c2a8e94db3e4870e", func := "tusche/tuschelaw04.TransferCosts", spec := "transferCosts", unfollowed := true, recurses := true, apart := false, narrowed := true }
def TransferCostsUptoSaid : Prop := transferCostsUptoRow.holds Try.pinned (OpenSpec.upto transferCostsSpec)

/-- 'tuschelaw04.TransferLeast', WHERE WHAT IT READS IS OF BULK AT MOST 1048576: true; the input reads as it did. -/
def transferLeastUptoRow : OpenClaim := { program := "ytnmpdegnpaggkaa", sum := "f3698ba4fef9ffdeefc59e3557acee175504f687c8949e39c2a8e94db3e4870e", func := "tusche/tuschelaw04.TransferLeast", spec := "transferLeast", unfollowed := true, recurses := true, apart := false, narrowed := true }
def TransferLeastUptoSaid : Prop := transferLeastUptoRow.holds Try.pinned (OpenSpec.upto transferLeastSpec)

/-- 'tuschelaw04.TransferCount', WHERE WHAT IT READS IS OF BULK AT MOST 1048576: true; the input reads as it did. -/
def transferCountUptoRow : OpenClaim := { program := "ytnmpdegnpaggkaa", sum := "f3698ba4fef9ffdeefc59e3557acee175504f687c8949e39c2a8e94db3e4870e", func := "tusche/tuschelaw04.TransferCount", spec := "transferCount", unfollowed := true, recurses := true, apart := false, narrowed := true }
def TransferCountUptoSaid : Prop := transferCountUptoRow.holds Try.pinned (OpenSpec.upto transferCountSpec)

/-- 'tuschelaw04.TransferGrown', WHERE WHAT IT READS IS OF BULK AT MOST 1048576: true; the input reads as it did. -/
def transferGrownUptoRow : OpenClaim := { program := "ytnmpdegnpaggkaa", sum := "f3698ba4fef9ffdeefc59e3557acee175504f687c8949e39c2a8e94db3e4870e", func := "tusche/tuschelaw04.TransferGrown", spec := "transferGrown", unfollowed := true, recurses := true, apart := false, narrowed := true }
def TransferGrownUptoSaid : Prop := transferGrownUptoRow.holds Try.pinned (OpenSpec.upto transferGrownSpec)

/-- 'tuschelaw04.TransferProducts', WHERE WHAT IT READS IS OF BULK AT MOST 1048576: true; the input reads as it did. -/
def transferProductsUptoRow : OpenClaim := { program := "ytnmpdegnpaggkaa", sum := "f3698ba4fef9ffdeefc59e3557acee175504f687c8949e39c2a8e94db3e4870e", func := "tusche/tuschelaw04.TransferProducts", spec := "transferProducts", unfollowed := true, recurses := true, apart := false, narrowed := true }
def TransferProductsUptoSaid : Prop := transferProductsUptoRow.holds Try.pinned (OpenSpec.upto transferProductsSpec)

/-- 'tuschelaw04.TransferWithout', WHERE WHAT IT READS IS OF BULK AT MOST 1048576: true; the input reads as it did. -/
def transferWithoutUptoRow : OpenClaim := { program := "ytnmpdegnpaggkaa", sum := "f3698ba4fef9ffdeefc59e3557acee175504f687c8949e39c2a8e94db3e4870e", func := "tusche/tuschelaw04.TransferWithout", spec := "transferWithout", unfollowed := true, recurses := true, apart := false, narrowed := true }
def TransferWithoutUptoSaid : Prop := transferWithoutUptoRow.holds Try.pinned (OpenSpec.upto transferWithoutSpec)

/-- 'tuschelaw04.TransferPrices', WHERE WHAT IT READS IS OF BULK AT MOST 1048576: true; the input reads as it did. -/
def transferPricesUptoRow : OpenClaim := { program := "ytnmpdegnpaggkaa", sum := "f3698ba4fef9ffdeefc59e3557acee175504f687c8949e39c2a8e94db3e4870e", func := "tusche/tuschelaw04.TransferPrices", spec := "transferPrices", unfollowed := true, recurses := true, apart := false, narrowed := true }
def TransferPricesUptoSaid : Prop := transferPricesUptoRow.holds Try.pinned (OpenSpec.upto transferPricesSpec)

/-- 'tuschelaw04.TransferReach', WHERE WHAT IT READS IS OF BULK AT MOST 1048576: true; the input reads as it did. -/
def transferReachUptoRow : OpenClaim := { program := "ytnmpdegnpaggkaa", sum := "f3698ba4fef9ffdeefc59e3557acee175504f687c8949e39c2a8e94db3e4870e", func := "tusche/tuschelaw04.TransferReach", spec := "transferReach", unfollowed := true, recurses := true, apart := false, narrowed := true }
def TransferReachUptoSaid : Prop := transferReachUptoRow.holds Try.pinned (OpenSpec.upto transferReachSpec)

/-- 'tuschelaw04.TransferKnown', WHERE WHAT IT READS IS OF BULK AT MOST 1048576: true; the input reads as it did. -/
def transferKnownUptoRow : OpenClaim := { program := "ytnmpdegnpaggkaa", sum := "f3698ba4fef9ffdeefc59e3557acee175504f687c8949e39c2a8e94db3e4870e", func := "tusche/tuschelaw04.TransferKnown", spec := "transferKnown", unfollowed := true, recurses := true, apart := false, narrowed := true }
def TransferKnownUptoSaid : Prop := transferKnownUptoRow.holds Try.pinned (OpenSpec.upto transferKnownSpec)

end Rows
end Go.Proofs.Ytnmpdegnpaggkaa
