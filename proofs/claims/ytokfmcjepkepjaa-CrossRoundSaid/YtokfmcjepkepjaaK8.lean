/-
  CrossRound: the joined row, proved; no conditions. Own work, after the template that the seat lays.
-/
import Derived.Test.YtokfmcjepkepjaaRows
import Derived.Test.YtokfmcjepkepjaaG10
import Derived.Test.YtokfmcjepkepjaaFw3
set_option linter.unusedVariables false
set_option linter.unusedSimpArgs false
namespace Go.Proofs.Ytokfmcjepkepjaa
open Go.ChangeShapes Go.WideShapes Go.ChangeAt Go.RowKit Fw

set_option maxRecDepth 100000 in
theorem crossRound_lifted (os : Os) (started : os.Started) (H : Type) (enc : TypeId × Value → H) :
    ReturnsInHanded {} Try.checked os 12 .any (Rows.crossRoundSpec.pre6 enc Try.prog Try.f12 Rows.crossRoundRow.domain false) (Rows.crossRoundSpec.post enc Try.prog Try.f12 false true false false) :=
  law_lifted (C := Try.checked) (enc := enc) (s := Rows.crossRoundSpec) (conds := Rows.crossRoundRow.domain) [.sl (.int .u8), .int .u8, .int .u8] 4 (by kernel_rfl) started (by kernel_rfl) Try.func12
    (ChangeSpec.witness6 (enc := enc) (C := Try.checked) false ⟨#[], #[.slice none 0 0, .int .u8 0, .int .u8 0], []⟩ 12 (by kernel_rfl) (by kernel_rfl) (by kernel_rfl) (by kernel_rfl))
    rfl rfl (by kernel_rfl) (fun ds h => by match ds, h with | [_, _, _], _ => rfl) (by kernel_rfl) Try.underlying4 (round_typed)
theorem crossRound_holds : Rows.CrossRoundSaid :=
  OpenClaim.holds_of_wide 12 Try.f12 rfl rfl rfl rfl rfl rfl rfl ⟨rfl, rfl, rfl, rfl, rfl⟩ rfl rfl rfl rfl rfl (by kernel_rfl) Try.func12 (by kernel_rfl)
    (of_decide_eq_true (by kernel_rfl)) (by unfold Func.isWrapper; first | (rw [if_pos (by decide +kernel)]; kernel_rfl) | (rw [if_neg (by decide +kernel)]; exact ⟨rfl, rfl⟩))
    (fun os started H enc _ => crossRound_lifted os started H enc)
end Go.Proofs.Ytokfmcjepkepjaa
