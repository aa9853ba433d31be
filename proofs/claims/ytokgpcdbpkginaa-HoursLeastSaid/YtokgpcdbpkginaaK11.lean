/-
  HoursLeast: the joined row, proved; no conditions. Own work, after the template that the seat lays.
-/
import Derived.Test.YtokgpcdbpkginaaRows
import Derived.Test.YtokgpcdbpkginaaG19
import Derived.Test.YtokgpcdbpkginaaFx4
set_option linter.unusedVariables false
set_option linter.unusedSimpArgs false
namespace Go.Proofs.Ytokgpcdbpkginaa
open Go.ChangeShapes Go.WideShapes Go.ChangeAt Go.RowKit Fw

set_option maxRecDepth 100000 in
theorem hoursLeast_lifted (os : Os) (started : os.Started) (H : Type) (enc : TypeId × Value → H) :
    ReturnsInHanded {} Try.checked os 6 .any (Rows.hoursLeastSpec.pre6 enc Try.prog Try.f6 Rows.hoursLeastRow.domain false) (Rows.hoursLeastSpec.post enc Try.prog Try.f6 false true false false) :=
  law_lifted (C := Try.checked) (enc := enc) (s := Rows.hoursLeastSpec) (conds := Rows.hoursLeastRow.domain) [TBe] 4 (by kernel_rfl) started (by kernel_rfl) Try.func6
    (ChangeSpec.witness6 (enc := enc) (C := Try.checked) false ⟨#[], #[.agg #[.int .u8 0, .int .u8 0, .int .u8 0, .int .u8 0, .int .u8 0, .int .u8 0, .int .u8 0, .int .u8 0, .int .u8 0, .int .u8 0, .int .u8 0, .int .u8 0, .int .u8 0, .int .u8 0, .int .u8 0, .int .u8 0, .int .u8 0, .int .u8 0, .int .u8 0]], []⟩ 12 (by kernel_rfl) (by kernel_rfl) (by kernel_rfl) (by kernel_rfl))
    rfl rfl (by kernel_rfl) (fun ds h => by match ds, h with | [_], _ => rfl) (by kernel_rfl) Try.underlying4 (least_typed)
theorem hoursLeast_holds : Rows.HoursLeastSaid :=
  OpenClaim.holds_of_wide 6 Try.f6 rfl rfl rfl rfl rfl rfl rfl ⟨rfl, rfl, rfl, rfl, rfl⟩ rfl rfl rfl rfl rfl (by kernel_rfl) Try.func6 (by kernel_rfl)
    (of_decide_eq_true (by kernel_rfl)) (by unfold Func.isWrapper; first | (rw [if_pos (by decide +kernel)]; kernel_rfl) | (rw [if_neg (by decide +kernel)]; exact ⟨rfl, rfl⟩))
    (fun os started H enc _ => hoursLeast_lifted os started H enc)
end Go.Proofs.Ytokgpcdbpkginaa
