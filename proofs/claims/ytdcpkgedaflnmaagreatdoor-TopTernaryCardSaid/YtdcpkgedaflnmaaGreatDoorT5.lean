/-
  swappedWorks and toldWorks: the examples hold. Own work.
  TopTernary over all arguments of its types. Own work.
-/
import Derived.Test.YtdcpkgedaflnmaaGreatDoorT3
import Derived.Test.YtdcpkgedaflnmaaGreatDoorT2
import Derived.Test.YtdcpkgedaflnmaaGreatDoorR3
import Derived.Test.YtdcpkgedaflnmaaGreatDoorT4
import Derived.Test.YtdcpkgedaflnmaaGreatDoorG5
set_option linter.unusedVariables false
set_option linter.unusedSimpArgs false
namespace Go.Proofs.YtdcpkgedaflnmaaGreatDoor.Wm
open Go Fw

theorem p88 : PCall Tryz.prog 88 [] (.bool true) := by
  obtain ⟨C1, hC1, k129, _⟩ := ctx_pt CtxOk.nil 129 _ _ p129
  obtain ⟨C, hC, k9, n2⟩ := ctx_pt hC1 9 _ _ Rp.p9
  have k129 : C 129 [offA, .str (bs logL)] = some (.tup [.int .i64 3, .int .i64 0]) := by rw [n2 129 (by decide)]; exact k129
  simp only [offA, logL] at k129
  refine PCall.of hC ok88 (by simp) rfl fun hs hb => ?_
  have s1 : astoAll 2 [.agg [.int .i64 0, .int .i64 2], .agg [.int .i64 0, .int .i64 3], .agg [.int .i64 1, .int .i64 3]] = true := rfl
  have s2 : afill [.int .i64 0, .nilsl] [(0, 1, .int .i64 4), (1, 1, .sl 2 [.agg [.int .i64 0, .int .i64 2], .agg [.int .i64 0, .int .i64 3], .agg [.int .i64 1, .int .i64 3]] .exact)] = some [.int .i64 4, .sl 2 [.agg [.int .i64 0, .int .i64 2], .agg [.int .i64 0, .int .i64 3], .agg [.int .i64 1, .int .i64 3]] .exact] := rfl
  simp [A88, R88, s1, s2, k129, k9]
theorem p36 : PCall Tryz.prog 36 [] (.bool true) := by
  have h33 := We.p33 (x := .sl 1 (ints [1, 3, 9]) .exact) (ws := [1, 3, 9]) (by decide) (by decide) (load := 5) (by decide) (by decide)
  have e : We.layA [1, 3, 9] 5 = some [-1, -1, 1] := We.layA_bal (k := 3) (N := 18) (by decide)
  rw [e] at h33
  obtain ⟨C1, hC1, k33, _⟩ := ctx_pt CtxOk.nil 33 _ _ h33
  obtain ⟨C2, hC2, k87, n2⟩ := ctx_pt hC1 87 _ _ p87
  obtain ⟨C, hC, k88, n3⟩ := ctx_pt hC2 88 _ _ p88
  have k33 : C 33 [.sl 1 (ints [1, 3, 9]) .exact, .int .i64 5] = some (We.layV (some [-1, -1, 1])) := by rw [n3 33 (by decide), n2 33 (by decide)]; exact k33
  have k87 : C 87 [.agg [.int .i64 3, .sl 1 [.sl 1 (ints [0, 0, 0]) .exact, .sl 1 (ints [1, 1, 1]) .exact, .sl 1 (ints [2, 2, 2]) .exact] .exact]] = some (.tup [.int .i64 3, .int .i64 0]) := by rw [n3 87 (by decide)]; exact k87
  simp only [ints, List.map, We.layV, outV] at k33 k87
  refine PCall.of hC ok36 (by simp) rfl fun hs hb => ?_
  have s1 : astoAll 1 [.sl 1 [.int .i64 0, .int .i64 0, .int .i64 0] .exact, .sl 1 [.int .i64 1, .int .i64 1, .int .i64 1] .exact, .sl 1 [.int .i64 2, .int .i64 2, .int .i64 2] .exact] = true := rfl
  have s2 : afill [.int .i64 0, .nilsl] [(0, 1, .int .i64 3), (1, 1, .sl 1 [.sl 1 [.int .i64 0, .int .i64 0, .int .i64 0] .exact, .sl 1 [.int .i64 1, .int .i64 1, .int .i64 1] .exact, .sl 1 [.int .i64 2, .int .i64 2, .int .i64 2] .exact] .exact)] = some [.int .i64 3, .sl 1 [.sl 1 [.int .i64 0, .int .i64 0, .int .i64 0] .exact, .sl 1 [.int .i64 1, .int .i64 1, .int .i64 1] .exact, .sl 1 [.int .i64 2, .int .i64 2, .int .i64 2] .exact] .exact] := rfl
  have s0 : ∀ a b c : Int, astoAll 1 [.int .i64 a, .int .i64 b, .int .i64 c] = true := fun _ _ _ => rfl
  have i0 : aidxS 1 (.sl 1 [.int .i64 (-1), .int .i64 (-1), .int .i64 1] .shared) (.int .i64 0) = some (.ptr (.int .i64 (-1))) := rfl
  have i2 : aidxS 1 (.sl 1 [.int .i64 (-1), .int .i64 (-1), .int .i64 1] .shared) (.int .i64 2) = some (.ptr (.int .i64 1)) := rfl
  have l0 : ∀ (hp : Nat → Option (List AV)) (n : Int), aload hp false 1 (.ptr (.int .i64 n)) = some (.int .i64 n) := fun _ _ => rfl
  simp [A36, R36, k33, s0, s1, s2, k87, k88, i0, i2, l0]
end Go.Proofs.YtdcpkgedaflnmaaGreatDoor.Wm
set_option linter.unusedVariables false
set_option linter.unusedSimpArgs false
namespace Go.Proofs.YtdcpkgedaflnmaaGreatDoor
open Go Fw

theorem u16_bd {n : Int} (h : (Lit.int .u16 n).wf = true) : 0 ≤ n ∧ n ≤ 65535 := by
  simp [Lit.wf, IntKind.min, IntKind.max, IntKind.signed, IntKind.bits] at h
  omega
theorem u16_nat {x : AV} (h : ShV (.int .u16) x) : ∃ n : Nat, n < 65536 ∧ x = .int .u16 (n : Int) := by
  obtain ⟨n, rfl, h2⟩ := shv_int h
  have := u16_bd h2
  exact ⟨n.toNat, by omega, by congr 1; omega⟩
theorem ternary_typed (xs : List AV) (h : Typed [.int .u8, .int .u16] xs) : PCall Tryz.prog 8 xs (.bool true) := by
  obtain ⟨a, b, rfl, ha, hb⟩ := h.two
  obtain ⟨ca, hca, rfl⟩ := Se.u8_nat ha
  obtain ⟨cb, hcb, rfl⟩ := u16_nat hb
  exact We.p8 Wm.p36 hca hcb
end Go.Proofs.YtdcpkgedaflnmaaGreatDoor
