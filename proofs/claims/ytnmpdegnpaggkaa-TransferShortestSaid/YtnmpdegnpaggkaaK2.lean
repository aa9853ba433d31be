/-
  TransferShortest: the joined row, proved; no conditions. Own work, after the template that the seat lays.
-/
import Derived.Test.YtnmpdegnpaggkaaRows
import Derived.Test.YtnmpdegnpaggkaaG2
import Derived.Test.YtnmpdegnpaggkaaFw3
set_option linter.unusedVariables false
set_option linter.unusedSimpArgs false
namespace Go.Proofs.Ytnmpdegnpaggkaa
open Go.ChangeShapes Go.WideShapes Go.ChangeAt Go.RowKit Fw

set_option maxRecDepth 100000 in
theorem transferShortest_lifted (os : Os) (started : os.Started) (H : Type) (enc : TypeId × Value → H) :
    ReturnsInHanded {} Try.checked os 4 .any (Rows.transferShortestSpec.pre6 enc Try.prog Try.f4 Rows.transferShortestRow.domain false) (Rows.transferShortestSpec.post enc Try.prog Try.f4 false true false false) :=
  law_lifted (C := Try.checked) (enc := enc) (s := Rows.transferShortestSpec) (conds := Rows.transferShortestRow.domain) [.int .i64, .int .i64] 4 (by kernel_rfl) started (by kernel_rfl) Try.func4
    (ChangeSpec.witness6 (enc := enc) (C := Try.checked) false ⟨#[], #[.int .i64 0, .int .i64 0], []⟩ 12 (by kernel_rfl) (by kernel_rfl) (by kernel_rfl) (by kernel_rfl))
    rfl rfl (by kernel_rfl) (fun ds h => by match ds, h with | [_, _], _ => rfl) (by kernel_rfl) Try.underlying4 (shortest_typed)
theorem transferShortest_holds : Rows.TransferShortestSaid :=
  OpenClaim.holds_of_wide 4 Try.f4 rfl rfl rfl rfl rfl rfl rfl ⟨rfl, rfl, rfl, rfl, rfl⟩ rfl rfl rfl rfl rfl (by kernel_rfl) Try.func4 (by kernel_rfl)
    (of_decide_eq_true (by kernel_rfl)) (by unfold Func.isWrapper; first | (rw [if_pos (by decide +kernel)]; kernel_rfl) | (rw [if_neg (by decide +kernel)]; exact ⟨rfl, rfl⟩))
    (fun os started H enc _ => transferShortest_lifted os started H enc)
end Go.Proofs.Ytnmpdegnpaggkaa
