/-
  CrossMirrored, CrossLocated: the joined rows, proved; no conditions. Own work, after the template that the seat lays.
-/
import Derived.Test.YtokfmcjepkepjaaRows
import Derived.Test.YtokfmcjepkepjaaG5
import Derived.Test.YtokfmcjepkepjaaFw3
set_option linter.unusedVariables false
set_option linter.unusedSimpArgs false
namespace Go.Proofs.Ytokfmcjepkepjaa
open Go.ChangeShapes Go.WideShapes Go.ChangeAt Go.RowKit Fw

set_option maxRecDepth 100000 in
theorem crossMirrored_lifted (os : Os) (started : os.Started) (H : Type) (enc : TypeId × Value → H) :
    ReturnsInHanded {} Try.checked os 14 .any (Rows.crossMirroredSpec.pre6 enc Try.prog Try.f14 Rows.crossMirroredRow.domain false) (Rows.crossMirroredSpec.post enc Try.prog Try.f14 false true false false) :=
  law_lifted (C := Try.checked) (enc := enc) (s := Rows.crossMirroredSpec) (conds := Rows.crossMirroredRow.domain) [.sl (.int .u8), .int .u8] 4 (by kernel_rfl) started (by kernel_rfl) Try.func14
    (ChangeSpec.witness6 (enc := enc) (C := Try.checked) false ⟨#[], #[.slice none 0 0, .int .u8 0], []⟩ 12 (by kernel_rfl) (by kernel_rfl) (by kernel_rfl) (by kernel_rfl))
    rfl rfl (by kernel_rfl) (fun ds h => by match ds, h with | [_, _], _ => rfl) (by kernel_rfl) Try.underlying4 (mirrored_typed)
theorem crossMirrored_holds : Rows.CrossMirroredSaid :=
  OpenClaim.holds_of_wide 14 Try.f14 rfl rfl rfl rfl rfl rfl rfl ⟨rfl, rfl, rfl, rfl, rfl⟩ rfl rfl rfl rfl rfl (by kernel_rfl) Try.func14 (by kernel_rfl)
    (of_decide_eq_true (by kernel_rfl)) (by unfold Func.isWrapper; first | (rw [if_pos (by decide +kernel)]; kernel_rfl) | (rw [if_neg (by decide +kernel)]; exact ⟨rfl, rfl⟩))
    (fun os started H enc _ => crossMirrored_lifted os started H enc)
set_option maxRecDepth 100000 in
theorem crossLocated_lifted (os : Os) (started : os.Started) (H : Type) (enc : TypeId × Value → H) :
    ReturnsInHanded {} Try.checked os 9 .any (Rows.crossLocatedSpec.pre6 enc Try.prog Try.f9 Rows.crossLocatedRow.domain false) (Rows.crossLocatedSpec.post enc Try.prog Try.f9 false true false false) :=
  law_lifted (C := Try.checked) (enc := enc) (s := Rows.crossLocatedSpec) (conds := Rows.crossLocatedRow.domain) [.sl (.int .u8), .int .i8, .int .u8] 4 (by kernel_rfl) started (by kernel_rfl) Try.func9
    (ChangeSpec.witness6 (enc := enc) (C := Try.checked) false ⟨#[], #[.slice none 0 0, .int .i8 0, .int .u8 0], []⟩ 12 (by kernel_rfl) (by kernel_rfl) (by kernel_rfl) (by kernel_rfl))
    rfl rfl (by kernel_rfl) (fun ds h => by match ds, h with | [_, _, _], _ => rfl) (by kernel_rfl) Try.underlying4 (located_typed)
theorem crossLocated_holds : Rows.CrossLocatedSaid :=
  OpenClaim.holds_of_wide 9 Try.f9 rfl rfl rfl rfl rfl rfl rfl ⟨rfl, rfl, rfl, rfl, rfl⟩ rfl rfl rfl rfl rfl (by kernel_rfl) Try.func9 (by kernel_rfl)
    (of_decide_eq_true (by kernel_rfl)) (by unfold Func.isWrapper; first | (rw [if_pos (by decide +kernel)]; kernel_rfl) | (rw [if_neg (by decide +kernel)]; exact ⟨rfl, rfl⟩))
    (fun os started H enc _ => crossLocated_lifted os started H enc)
end Go.Proofs.Ytokfmcjepkepjaa
