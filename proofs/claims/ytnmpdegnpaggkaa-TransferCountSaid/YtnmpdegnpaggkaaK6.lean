/-
  TransferCount, TransferGrown, TransferWithout: the joined rows, proved; no conditions. Own work, after the template that the seat lays.
-/
import Derived.Test.YtnmpdegnpaggkaaRows
import Derived.Test.YtnmpdegnpaggkaaG4
import Derived.Test.YtnmpdegnpaggkaaFw3
set_option linter.unusedVariables false
set_option linter.unusedSimpArgs false
namespace Go.Proofs.Ytnmpdegnpaggkaa
open Go.ChangeShapes Go.WideShapes Go.ChangeAt Go.RowKit Fw

set_option maxRecDepth 100000 in
theorem transferCount_lifted (os : Os) (started : os.Started) (H : Type) (enc : TypeId × Value → H) :
    ReturnsInHanded {} Try.checked os 8 .any (Rows.transferCountSpec.pre6 enc Try.prog Try.f8 Rows.transferCountRow.domain false) (Rows.transferCountSpec.post enc Try.prog Try.f8 false true false false) :=
  law_lifted (C := Try.checked) (enc := enc) (s := Rows.transferCountSpec) (conds := Rows.transferCountRow.domain) [.int .u8] 4 (by kernel_rfl) started (by kernel_rfl) Try.func8
    (ChangeSpec.witness6 (enc := enc) (C := Try.checked) false ⟨#[], #[.int .u8 0], []⟩ 12 (by kernel_rfl) (by kernel_rfl) (by kernel_rfl) (by kernel_rfl))
    rfl rfl (by kernel_rfl) (fun ds h => by match ds, h with | [_], _ => rfl) (by kernel_rfl) Try.underlying4 (count_typed)
theorem transferCount_holds : Rows.TransferCountSaid :=
  OpenClaim.holds_of_wide 8 Try.f8 rfl rfl rfl rfl rfl rfl rfl ⟨rfl, rfl, rfl, rfl, rfl⟩ rfl rfl rfl rfl rfl (by kernel_rfl) Try.func8 (by kernel_rfl)
    (of_decide_eq_true (by kernel_rfl)) (by unfold Func.isWrapper; first | (rw [if_pos (by decide +kernel)]; kernel_rfl) | (rw [if_neg (by decide +kernel)]; exact ⟨rfl, rfl⟩))
    (fun os started H enc _ => transferCount_lifted os started H enc)
set_option maxRecDepth 100000 in
theorem transferGrown_lifted (os : Os) (started : os.Started) (H : Type) (enc : TypeId × Value → H) :
    ReturnsInHanded {} Try.checked os 9 .any (Rows.transferGrownSpec.pre6 enc Try.prog Try.f9 Rows.transferGrownRow.domain false) (Rows.transferGrownSpec.post enc Try.prog Try.f9 false true false false) :=
  law_lifted (C := Try.checked) (enc := enc) (s := Rows.transferGrownSpec) (conds := Rows.transferGrownRow.domain) [.sl (.ar 2 (.int .u8)), .int .u8] 4 (by kernel_rfl) started (by kernel_rfl) Try.func9
    (ChangeSpec.witness6 (enc := enc) (C := Try.checked) false ⟨#[], #[.slice none 0 0, .int .u8 0], []⟩ 12 (by kernel_rfl) (by kernel_rfl) (by kernel_rfl) (by kernel_rfl))
    rfl rfl (by kernel_rfl) (fun ds h => by match ds, h with | [_, _], _ => rfl) (by kernel_rfl) Try.underlying4 (grown_typed)
theorem transferGrown_holds : Rows.TransferGrownSaid :=
  OpenClaim.holds_of_wide 9 Try.f9 rfl rfl rfl rfl rfl rfl rfl ⟨rfl, rfl, rfl, rfl, rfl⟩ rfl rfl rfl rfl rfl (by kernel_rfl) Try.func9 (by kernel_rfl)
    (of_decide_eq_true (by kernel_rfl)) (by unfold Func.isWrapper; first | (rw [if_pos (by decide +kernel)]; kernel_rfl) | (rw [if_neg (by decide +kernel)]; exact ⟨rfl, rfl⟩))
    (fun os started H enc _ => transferGrown_lifted os started H enc)
set_option maxRecDepth 100000 in
theorem transferWithout_lifted (os : Os) (started : os.Started) (H : Type) (enc : TypeId × Value → H) :
    ReturnsInHanded {} Try.checked os 11 .any (Rows.transferWithoutSpec.pre6 enc Try.prog Try.f11 Rows.transferWithoutRow.domain false) (Rows.transferWithoutSpec.post enc Try.prog Try.f11 false true false false) :=
  law_lifted (C := Try.checked) (enc := enc) (s := Rows.transferWithoutSpec) (conds := Rows.transferWithoutRow.domain) [.int .u8, .sl (.int .u8)] 4 (by kernel_rfl) started (by kernel_rfl) Try.func11
    (ChangeSpec.witness6 (enc := enc) (C := Try.checked) false ⟨#[], #[.int .u8 0, .slice none 0 0], []⟩ 12 (by kernel_rfl) (by kernel_rfl) (by kernel_rfl) (by kernel_rfl))
    rfl rfl (by kernel_rfl) (fun ds h => by match ds, h with | [_, _], _ => rfl) (by kernel_rfl) Try.underlying4 (without_typed)
theorem transferWithout_holds : Rows.TransferWithoutSaid :=
  OpenClaim.holds_of_wide 11 Try.f11 rfl rfl rfl rfl rfl rfl rfl ⟨rfl, rfl, rfl, rfl, rfl⟩ rfl rfl rfl rfl rfl (by kernel_rfl) Try.func11 (by kernel_rfl)
    (of_decide_eq_true (by kernel_rfl)) (by unfold Func.isWrapper; first | (rw [if_pos (by decide +kernel)]; kernel_rfl) | (rw [if_neg (by decide +kernel)]; exact ⟨rfl, rfl⟩))
    (fun os started H enc _ => transferWithout_lifted os started H enc)
end Go.Proofs.Ytnmpdegnpaggkaa
