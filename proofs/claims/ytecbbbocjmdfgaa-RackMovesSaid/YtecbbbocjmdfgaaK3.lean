/-
  RackMoves, RackWays: the joined rows, proved; no conditions. Own work, after the template that the seat lays.
-/
import Derived.Test.YtecbbbocjmdfgaaRows
import Derived.Test.YtecbbbocjmdfgaaG4
import Derived.Test.YtecbbbocjmdfgaaFw3
set_option linter.unusedVariables false
set_option linter.unusedSimpArgs false
namespace Go.Proofs.Ytecbbbocjmdfgaa
open Go.ChangeShapes Go.WideShapes Go.ChangeAt Go.RowKit Fw

set_option maxRecDepth 100000 in
theorem rackMoves_lifted (os : Os) (started : os.Started) (H : Type) (enc : TypeId × Value → H) :
    ReturnsInHanded {} Try.checked os 12 .any (Rows.rackMovesSpec.pre6 enc Try.prog Try.f12 Rows.rackMovesRow.domain false) (Rows.rackMovesSpec.post enc Try.prog Try.f12 false true false false) :=
  law_lifted (C := Try.checked) (enc := enc) (s := Rows.rackMovesSpec) (conds := Rows.rackMovesRow.domain) [TRk, TMo] 4 (by kernel_rfl) started (by kernel_rfl) Try.func12
    (ChangeSpec.witness6 (enc := enc) (C := Try.checked) false ⟨#[], #[.agg #[.int .i64 0, .int .i64 0, .slice none 0 0], .agg #[.slice none 0 0, .slice none 0 0]], []⟩ 12 (by kernel_rfl) (by kernel_rfl) (by kernel_rfl) (by kernel_rfl))
    rfl rfl (by kernel_rfl) (fun ds h => by match ds, h with | [_, _], _ => rfl) (by kernel_rfl) Try.underlying4 (moves_typed)
theorem rackMoves_holds : Rows.RackMovesSaid :=
  OpenClaim.holds_of_wide 12 Try.f12 rfl rfl rfl rfl rfl rfl rfl ⟨rfl, rfl, rfl, rfl, rfl⟩ rfl rfl rfl rfl rfl (by kernel_rfl) Try.func12 (by kernel_rfl)
    (of_decide_eq_true (by kernel_rfl)) (by unfold Func.isWrapper; first | (rw [if_pos (by decide +kernel)]; kernel_rfl) | (rw [if_neg (by decide +kernel)]; exact ⟨rfl, rfl⟩))
    (fun os started H enc _ => rackMoves_lifted os started H enc)
set_option maxRecDepth 100000 in
theorem rackWays_lifted (os : Os) (started : os.Started) (H : Type) (enc : TypeId × Value → H) :
    ReturnsInHanded {} Try.checked os 10 .any (Rows.rackWaysSpec.pre6 enc Try.prog Try.f10 Rows.rackWaysRow.domain false) (Rows.rackWaysSpec.post enc Try.prog Try.f10 false true false false) :=
  law_lifted (C := Try.checked) (enc := enc) (s := Rows.rackWaysSpec) (conds := Rows.rackWaysRow.domain) [.int .u8, .int .u8] 4 (by kernel_rfl) started (by kernel_rfl) Try.func10
    (ChangeSpec.witness6 (enc := enc) (C := Try.checked) false ⟨#[], #[.int .u8 0, .int .u8 0], []⟩ 12 (by kernel_rfl) (by kernel_rfl) (by kernel_rfl) (by kernel_rfl))
    rfl rfl (by kernel_rfl) (fun ds h => by match ds, h with | [_, _], _ => rfl) (by kernel_rfl) Try.underlying4 (ways_typed)
theorem rackWays_holds : Rows.RackWaysSaid :=
  OpenClaim.holds_of_wide 10 Try.f10 rfl rfl rfl rfl rfl rfl rfl ⟨rfl, rfl, rfl, rfl, rfl⟩ rfl rfl rfl rfl rfl (by kernel_rfl) Try.func10 (by kernel_rfl)
    (of_decide_eq_true (by kernel_rfl)) (by unfold Func.isWrapper; first | (rw [if_pos (by decide +kernel)]; kernel_rfl) | (rw [if_neg (by decide +kernel)]; exact ⟨rfl, rfl⟩))
    (fun os started H enc _ => rackWays_lifted os started H enc)
end Go.Proofs.Ytecbbbocjmdfgaa
