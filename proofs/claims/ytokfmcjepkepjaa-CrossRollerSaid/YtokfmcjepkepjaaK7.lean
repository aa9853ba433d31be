/-
  CrossRoller, joined. Own work.
  CrossRoller: the joined row, proved; no conditions. Own work, after the template that the seat lays.
-/
import Derived.Test.YtokfmcjepkepjaaV2
import Derived.Test.YtokfmcjepkepjaaV3
import Derived.Test.YtokfmcjepkepjaaV4
import Derived.Test.YtokfmcjepkepjaaRows
import Derived.Test.YtokfmcjepkepjaaFw3
set_option linter.unusedVariables false
set_option linter.unusedSimpArgs false
namespace Go.Proofs.Ytokfmcjepkepjaa
open Go Fw

theorem rl_fin : ∀ n size : Nat, 2 ≤ n → n ≤ 4 → 2 ≤ size → size ≤ 14 → RlFin n size := by
  intro n size h1 h2 h3 h4
  have : n = 2 ∨ n = 3 ∨ n = 4 := by omega
  rcases this with rfl | rfl | rfl
  · exact rl_all h1 h2 rv2 rw2 h3 h4
  · exact rl_all h1 h2 rv3 rw3 h3 h4
  · exact rl_all h1 h2 rv4 rw4 h3 h4
theorem roller_typed (xs : List AV) (h : Typed [.int .u8, .int .u8] xs) : PCall Try.prog 13 xs (.bool true) := by
  obtain ⟨x, y, rfl, h1, h2⟩ := h.two
  obtain ⟨a, rfl, ha⟩ := shv_int h1
  obtain ⟨b, rfl, hb⟩ := shv_int h2
  obtain ⟨a0, a1⟩ := u8_bd ha
  obtain ⟨b0, b1⟩ := u8_bd hb
  exact p13 rl_fin a0 a1 b0 b1
end Go.Proofs.Ytokfmcjepkepjaa
set_option linter.unusedVariables false
set_option linter.unusedSimpArgs false
namespace Go.Proofs.Ytokfmcjepkepjaa
open Go.ChangeShapes Go.WideShapes Go.ChangeAt Go.RowKit Fw

set_option maxRecDepth 100000 in
theorem crossRoller_lifted (os : Os) (started : os.Started) (H : Type) (enc : TypeId × Value → H) :
    ReturnsInHanded {} Try.checked os 13 .any (Rows.crossRollerSpec.pre6 enc Try.prog Try.f13 Rows.crossRollerRow.domain false) (Rows.crossRollerSpec.post enc Try.prog Try.f13 false true false false) :=
  law_lifted (C := Try.checked) (enc := enc) (s := Rows.crossRollerSpec) (conds := Rows.crossRollerRow.domain) [.int .u8, .int .u8] 4 (by kernel_rfl) started (by kernel_rfl) Try.func13
    (ChangeSpec.witness6 (enc := enc) (C := Try.checked) false ⟨#[], #[.int .u8 0, .int .u8 0], []⟩ 12 (by kernel_rfl) (by kernel_rfl) (by kernel_rfl) (by kernel_rfl))
    rfl rfl (by kernel_rfl) (fun ds h => by match ds, h with | [_, _], _ => rfl) (by kernel_rfl) Try.underlying4 (roller_typed)
theorem crossRoller_holds : Rows.CrossRollerSaid :=
  OpenClaim.holds_of_wide 13 Try.f13 rfl rfl rfl rfl rfl rfl rfl ⟨rfl, rfl, rfl, rfl, rfl⟩ rfl rfl rfl rfl rfl (by kernel_rfl) Try.func13 (by kernel_rfl)
    (of_decide_eq_true (by kernel_rfl)) (by unfold Func.isWrapper; first | (rw [if_pos (by decide +kernel)]; kernel_rfl) | (rw [if_neg (by decide +kernel)]; exact ⟨rfl, rfl⟩))
    (fun os started H enc _ => crossRoller_lifted os started H enc)
end Go.Proofs.Ytokfmcjepkepjaa
