/-
  Periods by value; the examples of the chapters 3, 7 and 8. Own work.
-/
import Derived.Test.YtdcpkgedaflnmaaGreatDoorR2
import Derived.Test.YtdcpkgedaflnmaaGreatDoorC5
import Derived.Test.YtdcpkgedaflnmaaGreatDoorI1
import Derived.Test.YtdcpkgedaflnmaaGreatDoorH2
import Derived.Test.YtdcpkgedaflnmaaGreatDoorH4
set_option linter.unusedVariables false
set_option linter.unusedSimpArgs false
namespace Go.Proofs.YtdcpkgedaflnmaaGreatDoor.Rp
open Go Fw

theorem p37 : PCall Tryz.prog 37 [] (.bool true) := by
  have hst : Sn.zD (Se.linT 5 2) (Se.aft (Se.linT 5 2) [1, 2] 0).toNat = 2 := by decide
  have h59 := Sn.p59 (Se.lin_as (n := 5) (st := 2) (by decide)) Se.lin52 (z := .sl 1 [.int .i64 1, .int .i64 2] .exact) (l := [1, 2]) (asI_sl (l := [1, 2]) (by decide)) (by decide) (by decide)
  rw [hst] at h59
  have h40 := Se.p40 (n := 5) (st := 2) (by decide) (by decide) (by decide) (by decide) (by decide)
  have hv : ∃ xs, Se.madV (Se.linT 5 2) = .sl 1 xs .exact ∧ xs.length = 5 := ⟨_, rfl, by decide⟩
  obtain ⟨xs, hv, hx⟩ := hv
  rw [hv] at h59 h40
  obtain ⟨sz, ys, c, hy, h89⟩ := Ik.few
  obtain ⟨C1, hC1, k32, _⟩ := ctx_pt CtxOk.nil 32 _ _ h40
  obtain ⟨C2, hC2, k59, n2⟩ := ctx_pt hC1 59 _ _ h59
  obtain ⟨C, hC, k89, n3⟩ := ctx_pt hC2 89 _ _ h89
  have k32 : C 32 [.int .i64 5, .int .i64 2] = some (.tup [.sl 1 xs .exact, .int .i64 0]) := by rw [n3 32 (by decide), n2 32 (by decide)]; exact k32
  have k59 : C 59 [.sl 1 xs .exact, .sl 1 [.int .i64 1, .int .i64 2] .exact] = some (.tup [.int .i64 2, .int .i64 0]) := by rw [n3 59 (by decide)]; exact k59
  have a1 : astoAll 1 (ints [1, 1, 3, 3, 4]) = true := rfl
  have fl : afill [.int .i64 0, .nilsl] [(0, 1, .int .i64 5), (1, 1, .sl 1 Ik.inkA .exact)] = some [.int .i64 5, .sl 1 Ik.inkA .exact] := by
    simp [afill, setL, AV.sto, AV.cells]
  refine PCall.of hC ok37 (by simp) rfl fun hs hb => ?_
  simp [A37, R37, k32, k59, hx, astoAll]
  simp [Ik.inkA, ints] at k89 fl
  simp [fl, k89, hy, astoAll]
theorem ab_isB : IsB [97, 98, 97, 98] := ⟨by simp, by simp, by decide⟩
theorem p9 : PCall Tryz.prog 9 [] (.bool true) := by
  have h11 := p11 ab_isB
  have e : rootA [97, 98, 97, 98] = .tup [.str (bs [97, 98]), .int .i64 2, .int .i64 0] := by
    have : rootX [97, 98, 97, 98] = 2 := by decide
    unfold rootA
    rw [this]
    rfl
  rw [e] at h11
  obtain ⟨C1, hC1, k11, _⟩ := ctx_pt CtxOk.nil 11 _ _ h11
  obtain ⟨C2, hC2, k25, n2⟩ := ctx_pt hC1 25 _ _ Ct.p25
  obtain ⟨C, hC, k37, n3⟩ := ctx_pt hC2 37 _ _ p37
  have k11 : C 11 [.str (bs [97, 98, 97, 98])] = some (.tup [.str (bs [97, 98]), .int .i64 2, .int .i64 0]) := by rw [n3 11 (by decide), n2 11 (by decide)]; exact k11
  have k25 : C 25 [] = some (.bool true) := by rw [n3 25 (by decide)]; exact k25
  refine PCall.of hC ok9 (by simp) rfl fun hs hb => ?_
  simp [A9, R9, k11, k25, k37]
end Go.Proofs.YtdcpkgedaflnmaaGreatDoor.Rp
