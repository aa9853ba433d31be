/-
  HoursWait: the joined row, proved; no conditions. Own work, after the template that the seat lays.
-/
import Derived.Test.YtokgpcdbpkginaaRows
import Derived.Test.YtokgpcdbpkginaaG13
import Derived.Test.YtokgpcdbpkginaaFx4
set_option linter.unusedVariables false
set_option linter.unusedSimpArgs false
namespace Go.Proofs.Ytokgpcdbpkginaa
open Go.ChangeShapes Go.WideShapes Go.ChangeAt Go.RowKit Fw

set_option maxRecDepth 100000 in
theorem hoursWait_lifted (os : Os) (started : os.Started) (H : Type) (enc : TypeId × Value → H) :
    ReturnsInHanded {} Try.checked os 7 .any (Rows.hoursWaitSpec.pre6 enc Try.prog Try.f7 Rows.hoursWaitRow.domain false) (Rows.hoursWaitSpec.post enc Try.prog Try.f7 false true false false) :=
  law_lifted (C := Try.checked) (enc := enc) (s := Rows.hoursWaitSpec) (conds := Rows.hoursWaitRow.domain) [TBe, .int .u8, .int .u8] 4 (by kernel_rfl) started (by kernel_rfl) Try.func7
    (ChangeSpec.witness6 (enc := enc) (C := Try.checked) false ⟨#[], #[.agg #[.int .u8 0, .int .u8 0, .int .u8 0, .int .u8 0, .int .u8 0, .int .u8 0, .int .u8 0, .int .u8 0, .int .u8 0, .int .u8 0, .int .u8 0, .int .u8 0, .int .u8 0, .int .u8 0, .int .u8 0, .int .u8 0, .int .u8 0, .int .u8 0, .int .u8 0], .int .u8 0, .int .u8 0], []⟩ 12 (by kernel_rfl) (by kernel_rfl) (by kernel_rfl) (by kernel_rfl))
    rfl rfl (by kernel_rfl) (fun ds h => by match ds, h with | [_, _, _], _ => rfl) (by kernel_rfl) Try.underlying4 (wait_typed)
theorem hoursWait_holds : Rows.HoursWaitSaid :=
  OpenClaim.holds_of_wide 7 Try.f7 rfl rfl rfl rfl rfl rfl rfl ⟨rfl, rfl, rfl, rfl, rfl⟩ rfl rfl rfl rfl rfl (by kernel_rfl) Try.func7 (by kernel_rfl)
    (of_decide_eq_true (by kernel_rfl)) (by unfold Func.isWrapper; first | (rw [if_pos (by decide +kernel)]; kernel_rfl) | (rw [if_neg (by decide +kernel)]; exact ⟨rfl, rfl⟩))
    (fun os started H enc _ => hoursWait_lifted os started H enc)
end Go.Proofs.Ytokgpcdbpkginaa
