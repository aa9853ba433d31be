/-
  crossedWorks: the example holds. Own work.
-/
import Derived.Test.YtdcpkgedaflnmaaDoorB2
import Derived.Test.YtdcpkgedaflnmaaDoorX3
set_option linter.unusedVariables false
set_option linter.unusedSimpArgs false
namespace Go.Proofs.YtdcpkgedaflnmaaDoor.Bw
open Go Fw

theorem p11 : PCall Tryd.prog 11 [] (.bool true) := by
  obtain ⟨C1, hC1, k32, _⟩ := ctx_pt CtxOk.nil 32 _ _ Xs.p32
  obtain ⟨C, hC, k33, n2⟩ := ctx_pt hC1 33 _ _ p33
  have k32 : C 32 [.int .i64 4] = some (.tup [.sl 1 (ints [0, 1, 4, 6]) .shared, .int .i64 0]) := by rw [n2 32 (by decide)]; exact k32
  simp only [ints, List.map] at k32
  have i3 : aidxS 1 (.sl 1 [.int .i64 0, .int .i64 1, .int .i64 4, .int .i64 6] .shared) (.int .i64 3) = some (.ptr (.int .i64 6)) := rfl
  have l0 : ∀ (hp : Nat → Option (List AV)) (n : Int), aload hp false 1 (.ptr (.int .i64 n)) = some (.int .i64 n) := fun _ _ => rfl
  refine PCall.of hC ok11 (by simp) rfl fun hs hb => ?_
  simp [A11, R11, k32, k33, i3, l0]
end Go.Proofs.YtdcpkgedaflnmaaDoor.Bw
