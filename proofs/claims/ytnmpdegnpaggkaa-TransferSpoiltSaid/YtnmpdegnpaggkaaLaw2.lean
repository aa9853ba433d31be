/-
  The second law, walked: spoilt numbers. Own work.
-/
import Derived.Test.YtnmpdegnpaggkaaLaw
set_option linter.unusedVariables false
set_option linter.unusedSimpArgs false
namespace Go.Proofs.Ytnmpdegnpaggkaa
open Go Fw

theorem without_eq (n : Int) (sp : List Int) : ∃ z e, withoutR n sp = .tup [z, .int .i64 e] ∧ S27 [z, z] = some (.bool true) := by
  unfold withoutR
  split
  · rename_i h
    obtain ⟨h1, h2⟩ := btw_iff.1 h
    split
    · exact ⟨_, _, rfl, rfl⟩
    · split
      · exact ⟨_, _, rfl, rfl⟩
      · rename_i hne
        obtain ⟨m, hm, hm0, hc⟩ := sh_mem h2 (hd_mem (n := n) (sp := sp) (by omega))
        have hl := hc.len
        refine ⟨_, _, rfl, ?_⟩
        simp [S27, asI_chV (show (hdL n sp).length ≤ 100 by omega)]
  · exact ⟨_, _, rfl, rfl⟩
theorem p5 (n : Int) {y : AV} {sp : List Int} (hy : IsList y sp) : PCall Try.prog 5 [.int .i64 n, y] (.bool true) := by
  refine PCall.of D18ok ok5 (by simp) rfl fun hs' hb => ?_
  simp [A5, R5, hy.len, S15]
  refine At.dec (fun h => ?_) (fun h => ?_)
  · simp [S15]
  · have ha := hy.as (by omega)
    obtain ⟨z, e, hw, hs⟩ := without_eq n sp
    simp [SWithout, ha, hw, hs, S15]
end Go.Proofs.Ytnmpdegnpaggkaa
