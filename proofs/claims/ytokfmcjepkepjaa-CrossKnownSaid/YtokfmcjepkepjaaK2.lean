/-
  CrossShortest, CrossKnown: the joined rows, proved; no conditions. Own work, after the template that the seat lays.
-/
import Derived.Test.YtokfmcjepkepjaaRows
import Derived.Test.YtokfmcjepkepjaaG4
import Derived.Test.YtokfmcjepkepjaaFw3
set_option linter.unusedVariables false
set_option linter.unusedSimpArgs false
namespace Go.Proofs.Ytokfmcjepkepjaa
open Go.ChangeShapes Go.WideShapes Go.ChangeAt Go.RowKit Fw

set_option maxRecDepth 100000 in
theorem crossShortest_lifted (os : Os) (started : os.Started) (H : Type) (enc : TypeId × Value → H) :
    ReturnsInHanded {} Try.checked os 6 .any (Rows.crossShortestSpec.pre6 enc Try.prog Try.f6 Rows.crossShortestRow.domain false) (Rows.crossShortestSpec.post enc Try.prog Try.f6 false true false false) :=
  law_lifted (C := Try.checked) (enc := enc) (s := Rows.crossShortestSpec) (conds := Rows.crossShortestRow.domain) [TL, .int .i64, .int .i64, .int .i64] 4 (by kernel_rfl) started (by kernel_rfl) Try.func6
    (ChangeSpec.witness6 (enc := enc) (C := Try.checked) false ⟨#[], #[.slice none 0 0, .int .i64 0, .int .i64 0, .int .i64 0], []⟩ 12 (by kernel_rfl) (by kernel_rfl) (by kernel_rfl) (by kernel_rfl))
    rfl rfl (by kernel_rfl) (fun ds h => by match ds, h with | [_, _, _, _], _ => rfl) (by kernel_rfl) Try.underlying4 (shortest_typed)
theorem crossShortest_holds : Rows.CrossShortestSaid :=
  OpenClaim.holds_of_wide 6 Try.f6 rfl rfl rfl rfl rfl rfl rfl ⟨rfl, rfl, rfl, rfl, rfl⟩ rfl rfl rfl rfl rfl (by kernel_rfl) Try.func6 (by kernel_rfl)
    (of_decide_eq_true (by kernel_rfl)) (by unfold Func.isWrapper; first | (rw [if_pos (by decide +kernel)]; kernel_rfl) | (rw [if_neg (by decide +kernel)]; exact ⟨rfl, rfl⟩))
    (fun os started H enc _ => crossShortest_lifted os started H enc)
set_option maxRecDepth 100000 in
theorem crossKnown_lifted (os : Os) (started : os.Started) (H : Type) (enc : TypeId × Value → H) :
    ReturnsInHanded {} Try.checked os 15 .any (Rows.crossKnownSpec.pre6 enc Try.prog Try.f15 Rows.crossKnownRow.domain false) (Rows.crossKnownSpec.post enc Try.prog Try.f15 false true false false) :=
  law_lifted (C := Try.checked) (enc := enc) (s := Rows.crossKnownSpec) (conds := Rows.crossKnownRow.domain) [] 4 (by kernel_rfl) started (by kernel_rfl) Try.func15
    (ChangeSpec.witness6 (enc := enc) (C := Try.checked) false ⟨#[], #[], []⟩ 12 (by kernel_rfl) (by kernel_rfl) (by kernel_rfl) (by kernel_rfl))
    rfl rfl (by kernel_rfl) (fun ds h => by match ds, h with | [], _ => rfl) (by kernel_rfl) Try.underlying4 (known_typed)
theorem crossKnown_holds : Rows.CrossKnownSaid :=
  OpenClaim.holds_of_wide 15 Try.f15 rfl rfl rfl rfl rfl rfl rfl ⟨rfl, rfl, rfl, rfl, rfl⟩ rfl rfl rfl rfl rfl (by kernel_rfl) Try.func15 (by kernel_rfl)
    (of_decide_eq_true (by kernel_rfl)) (by unfold Func.isWrapper; first | (rw [if_pos (by decide +kernel)]; kernel_rfl) | (rw [if_neg (by decide +kernel)]; exact ⟨rfl, rfl⟩))
    (fun os started H enc _ => crossKnown_lifted os started H enc)
end Go.Proofs.Ytokfmcjepkepjaa
