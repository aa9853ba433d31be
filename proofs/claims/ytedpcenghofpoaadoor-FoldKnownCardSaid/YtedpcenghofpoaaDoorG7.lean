/-
  Plain: how many orders of equal layers fit, evaluated in the kernel. Own work.
  The examples of the chapter, and stamps: the law's contract. Own work.
-/
import Derived.Test.YtedpcenghofpoaaDoorG4
import Derived.Test.YtedpcenghofpoaaDoorG6
set_option linter.unusedVariables false
namespace Go.Proofs.YtedpcenghofpoaaDoor
open Go Fw

def l7 : List Int := [1, 1, 1, 1, 1, 1, 1]
def cnt7 (k : Int) : Nat := ((extL 7 6 [k]).filter fun o => fitB l7 (hO o)).length
theorem c7_0 : cnt7 0 = 66 := by decide +kernel
theorem c7_1 : cnt7 1 = 66 := by decide +kernel
theorem c7_2 : cnt7 2 = 66 := by decide +kernel
theorem c7_3 : cnt7 3 = 66 := by decide +kernel
theorem c7_4 : cnt7 4 = 66 := by decide +kernel
theorem c7_5 : cnt7 5 = 66 := by decide +kernel
theorem c7_6 : cnt7 6 = 66 := by decide +kernel
theorem flat7 : (flatL l7).length = 462 := by
  have e : permsL 7 = extL 7 6 [0] ++ (extL 7 6 [1] ++ (extL 7 6 [2] ++ (extL 7 6 [3] ++ (extL 7 6 [4] ++ (extL 7 6 [5] ++ extL 7 6 [6]))))) := perms7
  have hl : flatL l7 = (permsL 7).filter fun o => fitB l7 (hO o) := rfl
  have h0 := c7_0
  have h1 := c7_1
  have h2 := c7_2
  have h3 := c7_3
  have h4 := c7_4
  have h5 := c7_5
  have h6 := c7_6
  unfold cnt7 at h0 h1 h2 h3 h4 h5 h6
  rw [hl, e]
  simp only [List.filter_append, List.length_append, h0, h1, h2, h3, h4, h5, h6]
theorem flat6 : (flatL [4, 4, 4, 4, 4, 4]).length = 144 := by decide +kernel
theorem flat3 : (flatL [1, 1, 1]).length = 6 := by decide +kernel
end Go.Proofs.YtedpcenghofpoaaDoor
set_option linter.unusedVariables false
set_option linter.unusedSimpArgs false
namespace Go.Proofs.YtedpcenghofpoaaDoor
open Go Fw

set_option maxRecDepth 100000 in
theorem p13 : PCall Tryd.prog 13 [] (.bool true) := by
  obtain ⟨C, hC, h15, h43, h42, h44, h39, up⟩ := ctxL
  have h43 : C 43 [] = some (.agg [.sl 1 [.int .i64 3, .int .i64 1, .int .i64 2] .exact, .str (bs [118, 109])]) := h43
  have h42 : C 42 [] = some (.agg [.sl 1 [.int .i64 2, .int .i64 1, .int .i64 1, .int .i64 2] .exact, .str (bs [118, 118, 118])]) := h42
  have a1 : C 44 [.sl 1 [.int .i64 1, .int .i64 1, .int .i64 1] .exact] = some (.sl 1 [.int .i64 1, .int .i64 1, .int .i64 1] .exact) := h44 [1, 1, 1]
  have a2 : C 44 [.sl 1 [.int .i64 4, .int .i64 4, .int .i64 4, .int .i64 4, .int .i64 4, .int .i64 4] .exact] = some (.sl 1 [.int .i64 4, .int .i64 4, .int .i64 4, .int .i64 4, .int .i64 4, .int .i64 4] .exact) := h44 [4, 4, 4, 4, 4, 4]
  have a3 : C 44 [.sl 1 [.int .i64 1, .int .i64 1, .int .i64 1, .int .i64 1, .int .i64 1, .int .i64 1, .int .i64 1] .exact] = some (.sl 1 [.int .i64 1, .int .i64 1, .int .i64 1, .int .i64 1, .int .i64 1, .int .i64 1, .int .i64 1] .exact) := h44 [1, 1, 1, 1, 1, 1, 1]
  have a4 : C 44 [.sl 1 [.int .i64 1, .int .i64 1] .exact] = some (.sl 1 [.int .i64 1, .int .i64 1] .exact) := h44 [1, 1]
  have b30 : C 30 [.agg [.sl 1 [.int .i64 2, .int .i64 1, .int .i64 1, .int .i64 2] .exact, .str (bs [118, 118, 118])]] = some (.tup [.nilsl, .int .i64 0]) := by
    rw [up 30 (by decide) (by decide) (by decide) (by decide) (by decide), CA_30 (l := [2, 1, 1, 2]) rfl]; congr 1
  have b25 : C 25 [.agg [.sl 1 [.int .i64 3, .int .i64 1, .int .i64 2] .exact, .str (bs [118, 109])]] = some (.tup [.int .i64 1, .int .i64 0]) := by
    rw [up 25 (by decide) (by decide) (by decide) (by decide) (by decide), CA_25 (l := [3, 1, 2]) rfl]; congr 1
  have b3 : C 27 [.sl 1 [.int .i64 1, .int .i64 1, .int .i64 1] .exact] = some (.tup [.int .i64 6, .int .i64 0]) := by
    rw [up 27 (by decide) (by decide) (by decide) (by decide) (by decide), CA_27 (l := [1, 1, 1]) rfl]
    unfold allV; rw [if_neg (by decide), flat3]; rfl
  have b6 : C 27 [.sl 1 [.int .i64 4, .int .i64 4, .int .i64 4, .int .i64 4, .int .i64 4, .int .i64 4] .exact] = some (.tup [.int .i64 144, .int .i64 0]) := by
    rw [up 27 (by decide) (by decide) (by decide) (by decide) (by decide), CA_27 (l := [4, 4, 4, 4, 4, 4]) rfl]
    unfold allV; rw [if_neg (by decide), flat6]; rfl
  have b7 : C 27 [.sl 1 [.int .i64 1, .int .i64 1, .int .i64 1, .int .i64 1, .int .i64 1, .int .i64 1, .int .i64 1] .exact] = some (.tup [.int .i64 462, .int .i64 0]) := by
    rw [up 27 (by decide) (by decide) (by decide) (by decide) (by decide), CA_27 (l := l7) rfl]
    unfold allV; rw [if_neg (by decide), flat7]; rfl
  have b19 : C 19 [.agg [.sl 1 [.int .i64 1, .int .i64 1] .exact, .str (bs [120])]] = some (.int .i64 9) := by
    rw [up 19 (by decide) (by decide) (by decide) (by decide) (by decide), CA_19 (l := [1, 1]) rfl]; congr 1
  refine PCall.of hC ok13 (by simp) rfl fun hs hb => ?_
  simp only [A13, R13]
  simp [h43, h42, h15, a1, a2, a3, a4, b30, b25, b3, b6, b7, b19, astoAll, sto_in, cel_in, sto_sl, cel_sl, afill, setL, AV.sto, AV.cells]
end Go.Proofs.YtedpcenghofpoaaDoor
