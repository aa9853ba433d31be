/-
  HoursKnown: the joined row, proved; no conditions. Own work, after the template that the seat lays.
-/
import Derived.Test.YtokgpcdbpkginaaRows
import Derived.Test.YtokgpcdbpkginaaG4
import Derived.Test.YtokgpcdbpkginaaFx4
set_option linter.unusedVariables false
set_option linter.unusedSimpArgs false
namespace Go.Proofs.Ytokgpcdbpkginaa
open Go.ChangeShapes Go.WideShapes Go.ChangeAt Go.RowKit Fw

set_option maxRecDepth 100000 in
theorem hoursKnown_lifted (os : Os) (started : os.Started) (H : Type) (enc : TypeId × Value → H) :
    ReturnsInHanded {} Try.checked os 11 .any (Rows.hoursKnownSpec.pre6 enc Try.prog Try.f11 Rows.hoursKnownRow.domain false) (Rows.hoursKnownSpec.post enc Try.prog Try.f11 false true false false) :=
  law_lifted (C := Try.checked) (enc := enc) (s := Rows.hoursKnownSpec) (conds := Rows.hoursKnownRow.domain) [] 4 (by kernel_rfl) started (by kernel_rfl) Try.func11
    (ChangeSpec.witness6 (enc := enc) (C := Try.checked) false ⟨#[], #[], []⟩ 12 (by kernel_rfl) (by kernel_rfl) (by kernel_rfl) (by kernel_rfl))
    rfl rfl (by kernel_rfl) (fun ds h => by match ds, h with | [], _ => rfl) (by kernel_rfl) Try.underlying4 (fun xs h => by match xs, h with | [], _ => exact p11)
theorem hoursKnown_holds : Rows.HoursKnownSaid :=
  OpenClaim.holds_of_wide 11 Try.f11 rfl rfl rfl rfl rfl rfl rfl ⟨rfl, rfl, rfl, rfl, rfl⟩ rfl rfl rfl rfl rfl (by kernel_rfl) Try.func11 (by kernel_rfl)
    (of_decide_eq_true (by kernel_rfl)) (by unfold Func.isWrapper; first | (rw [if_pos (by decide +kernel)]; kernel_rfl) | (rw [if_neg (by decide +kernel)]; exact ⟨rfl, rfl⟩))
    (fun os started H enc _ => hoursKnown_lifted os started H enc)
end Go.Proofs.Ytokgpcdbpkginaa
