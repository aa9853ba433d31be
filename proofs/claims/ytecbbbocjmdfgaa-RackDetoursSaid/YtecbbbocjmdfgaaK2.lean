/-
  RackRods, RackDetours: the joined rows, proved; no conditions. Own work, after the template that the seat lays.
-/
import Derived.Test.YtecbbbocjmdfgaaRows
import Derived.Test.YtecbbbocjmdfgaaG3
import Derived.Test.YtecbbbocjmdfgaaFw3
set_option linter.unusedVariables false
set_option linter.unusedSimpArgs false
namespace Go.Proofs.Ytecbbbocjmdfgaa
open Go.ChangeShapes Go.WideShapes Go.ChangeAt Go.RowKit Fw

set_option maxRecDepth 100000 in
theorem rackRods_lifted (os : Os) (started : os.Started) (H : Type) (enc : TypeId × Value → H) :
    ReturnsInHanded {} Try.checked os 4 .any (Rows.rackRodsSpec.pre6 enc Try.prog Try.f4 Rows.rackRodsRow.domain false) (Rows.rackRodsSpec.post enc Try.prog Try.f4 false true false false) :=
  law_lifted (C := Try.checked) (enc := enc) (s := Rows.rackRodsSpec) (conds := Rows.rackRodsRow.domain) [TRk] 4 (by kernel_rfl) started (by kernel_rfl) Try.func4
    (ChangeSpec.witness6 (enc := enc) (C := Try.checked) false ⟨#[], #[.agg #[.int .i64 0, .int .i64 0, .slice none 0 0]], []⟩ 12 (by kernel_rfl) (by kernel_rfl) (by kernel_rfl) (by kernel_rfl))
    rfl rfl (by kernel_rfl) (fun ds h => by match ds, h with | [_], _ => rfl) (by kernel_rfl) Try.underlying4 (rods_typed)
theorem rackRods_holds : Rows.RackRodsSaid :=
  OpenClaim.holds_of_wide 4 Try.f4 rfl rfl rfl rfl rfl rfl rfl ⟨rfl, rfl, rfl, rfl, rfl⟩ rfl rfl rfl rfl rfl (by kernel_rfl) Try.func4 (by kernel_rfl)
    (of_decide_eq_true (by kernel_rfl)) (by unfold Func.isWrapper; first | (rw [if_pos (by decide +kernel)]; kernel_rfl) | (rw [if_neg (by decide +kernel)]; exact ⟨rfl, rfl⟩))
    (fun os started H enc _ => rackRods_lifted os started H enc)
set_option maxRecDepth 100000 in
theorem rackDetours_lifted (os : Os) (started : os.Started) (H : Type) (enc : TypeId × Value → H) :
    ReturnsInHanded {} Try.checked os 5 .any (Rows.rackDetoursSpec.pre6 enc Try.prog Try.f5 Rows.rackDetoursRow.domain false) (Rows.rackDetoursSpec.post enc Try.prog Try.f5 false true false false) :=
  law_lifted (C := Try.checked) (enc := enc) (s := Rows.rackDetoursSpec) (conds := Rows.rackDetoursRow.domain) [TRk, .int .i64, .int .i64, .int .i64] 4 (by kernel_rfl) started (by kernel_rfl) Try.func5
    (ChangeSpec.witness6 (enc := enc) (C := Try.checked) false ⟨#[], #[.agg #[.int .i64 0, .int .i64 0, .slice none 0 0], .int .i64 0, .int .i64 0, .int .i64 0], []⟩ 12 (by kernel_rfl) (by kernel_rfl) (by kernel_rfl) (by kernel_rfl))
    rfl rfl (by kernel_rfl) (fun ds h => by match ds, h with | [_, _, _, _], _ => rfl) (by kernel_rfl) Try.underlying4 (detours_typed)
theorem rackDetours_holds : Rows.RackDetoursSaid :=
  OpenClaim.holds_of_wide 5 Try.f5 rfl rfl rfl rfl rfl rfl rfl ⟨rfl, rfl, rfl, rfl, rfl⟩ rfl rfl rfl rfl rfl (by kernel_rfl) Try.func5 (by kernel_rfl)
    (of_decide_eq_true (by kernel_rfl)) (by unfold Func.isWrapper; first | (rw [if_pos (by decide +kernel)]; kernel_rfl) | (rw [if_neg (by decide +kernel)]; exact ⟨rfl, rfl⟩))
    (fun os started H enc _ => rackDetours_lifted os started H enc)
end Go.Proofs.Ytecbbbocjmdfgaa
