/-
  RackNeeded, RackMotion: the joined rows, proved; no conditions. Own work, after the template that the seat lays.
-/
import Derived.Test.YtecbbbocjmdfgaaRows
import Derived.Test.YtecbbbocjmdfgaaG5
import Derived.Test.YtecbbbocjmdfgaaFw3
set_option linter.unusedVariables false
set_option linter.unusedSimpArgs false
namespace Go.Proofs.Ytecbbbocjmdfgaa
open Go.ChangeShapes Go.WideShapes Go.ChangeAt Go.RowKit Fw

set_option maxRecDepth 100000 in
theorem rackNeeded_lifted (os : Os) (started : os.Started) (H : Type) (enc : TypeId × Value → H) :
    ReturnsInHanded {} Try.checked os 7 .any (Rows.rackNeededSpec.pre6 enc Try.prog Try.f7 Rows.rackNeededRow.domain false) (Rows.rackNeededSpec.post enc Try.prog Try.f7 false true false false) :=
  law_lifted (C := Try.checked) (enc := enc) (s := Rows.rackNeededSpec) (conds := Rows.rackNeededRow.domain) [TSh] 4 (by kernel_rfl) started (by kernel_rfl) Try.func7
    (ChangeSpec.witness6 (enc := enc) (C := Try.checked) false ⟨#[], #[.agg #[.int .u8 0, .int .u8 0, .slice none 0 0]], []⟩ 12 (by kernel_rfl) (by kernel_rfl) (by kernel_rfl) (by kernel_rfl))
    rfl rfl (by kernel_rfl) (fun ds h => by match ds, h with | [_], _ => rfl) (by kernel_rfl) Try.underlying4 (needed_typed)
theorem rackNeeded_holds : Rows.RackNeededSaid :=
  OpenClaim.holds_of_wide 7 Try.f7 rfl rfl rfl rfl rfl rfl rfl ⟨rfl, rfl, rfl, rfl, rfl⟩ rfl rfl rfl rfl rfl (by kernel_rfl) Try.func7 (by kernel_rfl)
    (of_decide_eq_true (by kernel_rfl)) (by unfold Func.isWrapper; first | (rw [if_pos (by decide +kernel)]; kernel_rfl) | (rw [if_neg (by decide +kernel)]; exact ⟨rfl, rfl⟩))
    (fun os started H enc _ => rackNeeded_lifted os started H enc)
set_option maxRecDepth 100000 in
theorem rackMotion_lifted (os : Os) (started : os.Started) (H : Type) (enc : TypeId × Value → H) :
    ReturnsInHanded {} Try.checked os 13 .any (Rows.rackMotionSpec.pre6 enc Try.prog Try.f13 Rows.rackMotionRow.domain false) (Rows.rackMotionSpec.post enc Try.prog Try.f13 false true false false) :=
  law_lifted (C := Try.checked) (enc := enc) (s := Rows.rackMotionSpec) (conds := Rows.rackMotionRow.domain) [TSh] 4 (by kernel_rfl) started (by kernel_rfl) Try.func13
    (ChangeSpec.witness6 (enc := enc) (C := Try.checked) false ⟨#[], #[.agg #[.int .u8 0, .int .u8 0, .slice none 0 0]], []⟩ 12 (by kernel_rfl) (by kernel_rfl) (by kernel_rfl) (by kernel_rfl))
    rfl rfl (by kernel_rfl) (fun ds h => by match ds, h with | [_], _ => rfl) (by kernel_rfl) Try.underlying4 (motion_typed')
theorem rackMotion_holds : Rows.RackMotionSaid :=
  OpenClaim.holds_of_wide 13 Try.f13 rfl rfl rfl rfl rfl rfl rfl ⟨rfl, rfl, rfl, rfl, rfl⟩ rfl rfl rfl rfl rfl (by kernel_rfl) Try.func13 (by kernel_rfl)
    (of_decide_eq_true (by kernel_rfl)) (by unfold Func.isWrapper; first | (rw [if_pos (by decide +kernel)]; kernel_rfl) | (rw [if_neg (by decide +kernel)]; exact ⟨rfl, rfl⟩))
    (fun os started H enc _ => rackMotion_lifted os started H enc)
end Go.Proofs.Ytecbbbocjmdfgaa
