/-
  RackStiff, RackKnown: the joined rows, proved; no conditions. Own work, after the template that the seat lays.
-/
import Derived.Test.YtecbbbocjmdfgaaRows
import Derived.Test.YtecbbbocjmdfgaaG2
import Derived.Test.YtecbbbocjmdfgaaFw3
set_option linter.unusedVariables false
set_option linter.unusedSimpArgs false
namespace Go.Proofs.Ytecbbbocjmdfgaa
open Go.ChangeShapes Go.WideShapes Go.ChangeAt Go.RowKit Fw

set_option maxRecDepth 100000 in
theorem rackStiff_lifted (os : Os) (started : os.Started) (H : Type) (enc : TypeId × Value → H) :
    ReturnsInHanded {} Try.checked os 3 .any (Rows.rackStiffSpec.pre6 enc Try.prog Try.f3 Rows.rackStiffRow.domain false) (Rows.rackStiffSpec.post enc Try.prog Try.f3 false true false false) :=
  law_lifted (C := Try.checked) (enc := enc) (s := Rows.rackStiffSpec) (conds := Rows.rackStiffRow.domain) [TRk] 4 (by kernel_rfl) started (by kernel_rfl) Try.func3
    (ChangeSpec.witness6 (enc := enc) (C := Try.checked) false ⟨#[], #[.agg #[.int .i64 0, .int .i64 0, .slice none 0 0]], []⟩ 12 (by kernel_rfl) (by kernel_rfl) (by kernel_rfl) (by kernel_rfl))
    rfl rfl (by kernel_rfl) (fun ds h => by match ds, h with | [_], _ => rfl) (by kernel_rfl) Try.underlying4 (stiff_typed)
theorem rackStiff_holds : Rows.RackStiffSaid :=
  OpenClaim.holds_of_wide 3 Try.f3 rfl rfl rfl rfl rfl rfl rfl ⟨rfl, rfl, rfl, rfl, rfl⟩ rfl rfl rfl rfl rfl (by kernel_rfl) Try.func3 (by kernel_rfl)
    (of_decide_eq_true (by kernel_rfl)) (by unfold Func.isWrapper; first | (rw [if_pos (by decide +kernel)]; kernel_rfl) | (rw [if_neg (by decide +kernel)]; exact ⟨rfl, rfl⟩))
    (fun os started H enc _ => rackStiff_lifted os started H enc)
set_option maxRecDepth 100000 in
theorem rackKnown_lifted (os : Os) (started : os.Started) (H : Type) (enc : TypeId × Value → H) :
    ReturnsInHanded {} Try.checked os 14 .any (Rows.rackKnownSpec.pre6 enc Try.prog Try.f14 Rows.rackKnownRow.domain false) (Rows.rackKnownSpec.post enc Try.prog Try.f14 false true false false) :=
  law_lifted (C := Try.checked) (enc := enc) (s := Rows.rackKnownSpec) (conds := Rows.rackKnownRow.domain) [] 4 (by kernel_rfl) started (by kernel_rfl) Try.func14
    (ChangeSpec.witness6 (enc := enc) (C := Try.checked) false ⟨#[], #[], []⟩ 12 (by kernel_rfl) (by kernel_rfl) (by kernel_rfl) (by kernel_rfl))
    rfl rfl (by kernel_rfl) (fun ds h => by match ds, h with | [], _ => rfl) (by kernel_rfl) Try.underlying4 (known_typed)
theorem rackKnown_holds : Rows.RackKnownSaid :=
  OpenClaim.holds_of_wide 14 Try.f14 rfl rfl rfl rfl rfl rfl rfl ⟨rfl, rfl, rfl, rfl, rfl⟩ rfl rfl rfl rfl rfl (by kernel_rfl) Try.func14 (by kernel_rfl)
    (of_decide_eq_true (by kernel_rfl)) (by unfold Func.isWrapper; first | (rw [if_pos (by decide +kernel)]; kernel_rfl) | (rw [if_neg (by decide +kernel)]; exact ⟨rfl, rfl⟩))
    (fun os started H enc _ => rackKnown_lifted os started H enc)
end Go.Proofs.Ytecbbbocjmdfgaa
