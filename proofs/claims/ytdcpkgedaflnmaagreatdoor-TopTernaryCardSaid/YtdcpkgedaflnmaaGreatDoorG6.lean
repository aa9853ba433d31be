/-
  The examples of the chapters 1, 2 and 4. Own work.
-/
import Derived.Test.YtdcpkgedaflnmaaGreatDoorC1
import Derived.Test.YtdcpkgedaflnmaaGreatDoorG5
import Derived.Test.YtdcpkgedaflnmaaGreatDoorG3
import Derived.Test.YtdcpkgedaflnmaaGreatDoorG4
set_option linter.unusedVariables false
set_option linter.unusedSimpArgs false
namespace Go.Proofs.YtdcpkgedaflnmaaGreatDoor.Cw
open Go Fw

theorem ord312 : ∃ a c : Int, Fo.ordV [3, 1, 2] [118, 109] = .tup [outV 1 (ints [a, 1, c]), .int .i64 0] := by
  have h0 : Fo.chk [3, 1, 2] [118, 109] = 0 := by decide
  have h1 : ((Fo.foldL [3, 1, 2] [118, 109]).head?.getD []).length = 3 ∧ ((Fo.foldL [3, 1, 2] [118, 109]).head?.getD []).getD 1 0 = 1 ∧ Fo.foldL [3, 1, 2] [118, 109] ≠ [] := by decide +kernel
  unfold Fo.ordV
  rw [if_neg (by simp [h0]), if_neg h1.2.2]
  generalize (Fo.foldL [3, 1, 2] [118, 109]).head?.getD [] = o at h1
  obtain ⟨e1, e2, _⟩ := h1
  match o, e1, e2 with
  | [a, b, c], _, e2 =>
    simp at e2
    subst e2
    exact ⟨a, c, rfl⟩
theorem dist23 : Tr.distR 23 = .tup [.int .i64 6, .int .i64 0] := by
  have h : (Tr.hdL 23 []).length = 7 := by decide +kernel
  unfold Tr.distR
  rw [if_pos (by decide), h]
  rfl
theorem p16 : PCall Tryz.prog 63 [] (.bool true) := by
  have hst : Se.aft (Se.linT 5 2) [1, 2] 0 = 4 := by decide
  have h15 := Se.p15 (Se.lin_as (n := 5) (st := 2) (by decide)) Se.lin52 (z := .sl 1 [.int .i64 1, .int .i64 2] .exact) (l := [1, 2]) (asI_sl (l := [1, 2]) (by decide)) (by decide) (by decide)
  rw [hst] at h15
  have h23 := Fo.p23 (x := .sl 1 [.int .i64 3, .int .i64 1, .int .i64 2] .exact) (l := [3, 1, 2]) (asI_sl (l := [3, 1, 2]) (by decide)) [118, 109]
  obtain ⟨a, c, ho⟩ := ord312
  rw [ho] at h23
  have hd := Tr.p23 23
  rw [dist23] at hd
  have h40 := Se.p40 (n := 5) (st := 2) (by decide) (by decide) (by decide) (by decide) (by decide)
  generalize Se.madV (Se.linT 5 2) = v at h15 h40
  obtain ⟨C1, hC1, k40, _⟩ := ctx_pt CtxOk.nil 32 _ _ h40
  obtain ⟨C2, hC2, k15, n2⟩ := ctx_pt hC1 17 _ _ h15
  obtain ⟨C3, hC3, k19, n3⟩ := ctx_pt hC2 27 _ _ h23
  obtain ⟨C, hC, k41, n4⟩ := ctx_pt hC3 116 _ _ hd
  have k40 : C 32 [.int .i64 5, .int .i64 2] = some (.tup [v, .int .i64 0]) := by rw [n4 32 (by decide), n3 32 (by decide), n2 32 (by decide)]; exact k40
  have k15 : C 17 [v, .sl 1 [.int .i64 1, .int .i64 2] .exact] = some (.tup [.int .i64 4, .int .i64 0]) := by rw [n4 17 (by decide), n3 17 (by decide)]; exact k15
  have k19 : C 27 [.agg [.sl 1 [.int .i64 3, .int .i64 1, .int .i64 2] .exact, .str (bs [118, 109])]] = some (.tup [outV 1 (ints [a, 1, c]), .int .i64 0]) := by rw [n4 27 (by decide)]; exact k19
  have fl : afill [.nilsl, .str (bs [])] [(0, 1, .sl 1 [.int .i64 3, .int .i64 1, .int .i64 2] .exact), (1, 1, .str (bs [118, 109]))] = some [.sl 1 [.int .i64 3, .int .i64 1, .int .i64 2] .exact, .str (bs [118, 109])] := by
    simp [afill, setL, AV.sto, AV.cells]
  have ov : outV 1 (ints [a, 1, c]) = .sl 1 [.int .i64 a, .int .i64 1, .int .i64 c] .shared := rfl
  rw [ov] at k19
  refine PCall.of hC ok16 (by simp) rfl fun hs hb => ?_
  simp [A16, R16, k40, k15, k19, k41, fl, astoAll, aidxS]
end Go.Proofs.YtdcpkgedaflnmaaGreatDoor.Cw
