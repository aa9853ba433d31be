/-
  TransferLeast, TransferReach, TransferKnown, TransferProducts: the joined rows, proved; no conditions. Own work, after the template that the seat lays.
-/
import Derived.Test.YtnmpdegnpaggkaaRows
import Derived.Test.YtnmpdegnpaggkaaG3
import Derived.Test.YtnmpdegnpaggkaaFw3
set_option linter.unusedVariables false
set_option linter.unusedSimpArgs false
namespace Go.Proofs.Ytnmpdegnpaggkaa
open Go.ChangeShapes Go.WideShapes Go.ChangeAt Go.RowKit Fw

set_option maxRecDepth 100000 in
theorem transferLeast_lifted (os : Os) (started : os.Started) (H : Type) (enc : TypeId × Value → H) :
    ReturnsInHanded {} Try.checked os 7 .any (Rows.transferLeastSpec.pre6 enc Try.prog Try.f7 Rows.transferLeastRow.domain false) (Rows.transferLeastSpec.post enc Try.prog Try.f7 false true false false) :=
  law_lifted (C := Try.checked) (enc := enc) (s := Rows.transferLeastSpec) (conds := Rows.transferLeastRow.domain) [.int .u8] 4 (by kernel_rfl) started (by kernel_rfl) Try.func7
    (ChangeSpec.witness6 (enc := enc) (C := Try.checked) false ⟨#[], #[.int .u8 0], []⟩ 12 (by kernel_rfl) (by kernel_rfl) (by kernel_rfl) (by kernel_rfl))
    rfl rfl (by kernel_rfl) (fun ds h => by match ds, h with | [_], _ => rfl) (by kernel_rfl) Try.underlying4 (least_typed)
theorem transferLeast_holds : Rows.TransferLeastSaid :=
  OpenClaim.holds_of_wide 7 Try.f7 rfl rfl rfl rfl rfl rfl rfl ⟨rfl, rfl, rfl, rfl, rfl⟩ rfl rfl rfl rfl rfl (by kernel_rfl) Try.func7 (by kernel_rfl)
    (of_decide_eq_true (by kernel_rfl)) (by unfold Func.isWrapper; first | (rw [if_pos (by decide +kernel)]; kernel_rfl) | (rw [if_neg (by decide +kernel)]; exact ⟨rfl, rfl⟩))
    (fun os started H enc _ => transferLeast_lifted os started H enc)
set_option maxRecDepth 100000 in
theorem transferReach_lifted (os : Os) (started : os.Started) (H : Type) (enc : TypeId × Value → H) :
    ReturnsInHanded {} Try.checked os 13 .any (Rows.transferReachSpec.pre6 enc Try.prog Try.f13 Rows.transferReachRow.domain false) (Rows.transferReachSpec.post enc Try.prog Try.f13 false true false false) :=
  law_lifted (C := Try.checked) (enc := enc) (s := Rows.transferReachSpec) (conds := Rows.transferReachRow.domain) [.int .u8] 4 (by kernel_rfl) started (by kernel_rfl) Try.func13
    (ChangeSpec.witness6 (enc := enc) (C := Try.checked) false ⟨#[], #[.int .u8 0], []⟩ 12 (by kernel_rfl) (by kernel_rfl) (by kernel_rfl) (by kernel_rfl))
    rfl rfl (by kernel_rfl) (fun ds h => by match ds, h with | [_], _ => rfl) (by kernel_rfl) Try.underlying4 (reach_typed)
theorem transferReach_holds : Rows.TransferReachSaid :=
  OpenClaim.holds_of_wide 13 Try.f13 rfl rfl rfl rfl rfl rfl rfl ⟨rfl, rfl, rfl, rfl, rfl⟩ rfl rfl rfl rfl rfl (by kernel_rfl) Try.func13 (by kernel_rfl)
    (of_decide_eq_true (by kernel_rfl)) (by unfold Func.isWrapper; first | (rw [if_pos (by decide +kernel)]; kernel_rfl) | (rw [if_neg (by decide +kernel)]; exact ⟨rfl, rfl⟩))
    (fun os started H enc _ => transferReach_lifted os started H enc)
set_option maxRecDepth 100000 in
theorem transferKnown_lifted (os : Os) (started : os.Started) (H : Type) (enc : TypeId × Value → H) :
    ReturnsInHanded {} Try.checked os 14 .any (Rows.transferKnownSpec.pre6 enc Try.prog Try.f14 Rows.transferKnownRow.domain false) (Rows.transferKnownSpec.post enc Try.prog Try.f14 false true false false) :=
  law_lifted (C := Try.checked) (enc := enc) (s := Rows.transferKnownSpec) (conds := Rows.transferKnownRow.domain) [] 4 (by kernel_rfl) started (by kernel_rfl) Try.func14
    (ChangeSpec.witness6 (enc := enc) (C := Try.checked) false ⟨#[], #[], []⟩ 12 (by kernel_rfl) (by kernel_rfl) (by kernel_rfl) (by kernel_rfl))
    rfl rfl (by kernel_rfl) (fun ds h => by match ds, h with | [], _ => rfl) (by kernel_rfl) Try.underlying4 (known_typed)
theorem transferKnown_holds : Rows.TransferKnownSaid :=
  OpenClaim.holds_of_wide 14 Try.f14 rfl rfl rfl rfl rfl rfl rfl ⟨rfl, rfl, rfl, rfl, rfl⟩ rfl rfl rfl rfl rfl (by kernel_rfl) Try.func14 (by kernel_rfl)
    (of_decide_eq_true (by kernel_rfl)) (by unfold Func.isWrapper; first | (rw [if_pos (by decide +kernel)]; kernel_rfl) | (rw [if_neg (by decide +kernel)]; exact ⟨rfl, rfl⟩))
    (fun os started H enc _ => transferKnown_lifted os started H enc)
set_option maxRecDepth 100000 in
theorem transferProducts_lifted (os : Os) (started : os.Started) (H : Type) (enc : TypeId × Value → H) :
    ReturnsInHanded {} Try.checked os 10 .any (Rows.transferProductsSpec.pre6 enc Try.prog Try.f10 Rows.transferProductsRow.domain false) (Rows.transferProductsSpec.post enc Try.prog Try.f10 false true false false) :=
  law_lifted (C := Try.checked) (enc := enc) (s := Rows.transferProductsSpec) (conds := Rows.transferProductsRow.domain) [.int .u8, .int .u8] 4 (by kernel_rfl) started (by kernel_rfl) Try.func10
    (ChangeSpec.witness6 (enc := enc) (C := Try.checked) false ⟨#[], #[.int .u8 0, .int .u8 0], []⟩ 12 (by kernel_rfl) (by kernel_rfl) (by kernel_rfl) (by kernel_rfl))
    rfl rfl (by kernel_rfl) (fun ds h => by match ds, h with | [_, _], _ => rfl) (by kernel_rfl) Try.underlying4 (products_typed)
theorem transferProducts_holds : Rows.TransferProductsSaid :=
  OpenClaim.holds_of_wide 10 Try.f10 rfl rfl rfl rfl rfl rfl rfl ⟨rfl, rfl, rfl, rfl, rfl⟩ rfl rfl rfl rfl rfl (by kernel_rfl) Try.func10 (by kernel_rfl)
    (of_decide_eq_true (by kernel_rfl)) (by unfold Func.isWrapper; first | (rw [if_pos (by decide +kernel)]; kernel_rfl) | (rw [if_neg (by decide +kernel)]; exact ⟨rfl, rfl⟩))
    (fun os started H enc _ => transferProducts_lifted os started H enc)
end Go.Proofs.Ytnmpdegnpaggkaa
