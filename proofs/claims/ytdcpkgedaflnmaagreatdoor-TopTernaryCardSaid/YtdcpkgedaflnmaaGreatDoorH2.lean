/-
  The best worth of a sheet; the example of chapter 6. Own work.
-/
import Derived.Test.YtdcpkgedaflnmaaGreatDoorH1
import Derived.Test.YtdcpkgedaflnmaaGreatDoorG6
set_option linter.unusedVariables false
set_option linter.unusedSimpArgs false
namespace Go.Proofs.YtdcpkgedaflnmaaGreatDoor.Ct
open Go Fw

theorem p12 {x : AV} {ks : List Kd} (hx : IsK x ks) {w h : Nat} (h1 : 1 ≤ w) (h2 : w ≤ 12) (h3 : 1 ≤ h) (h4 : h ≤ 12) : PCall Tryz.prog 12 [.int .i64 (w : Int), .int .i64 (h : Int), x] (.tup [.int .i64 ((gT ks w h).wo : Int), .int .i64 0]) := by
  obtain ⟨C, hC, k1, _⟩ := ctx_pt CtxOk.nil 41 _ _ (p41 hx h1 h2 h3 h4)
  refine PCall.of hC ok12 (by simp) rfl fun hs hb => ?_
  simp [A12, R12, k1]
  refine At.hc (p42 hx h2 h4 hs) ?_ ?_
  · rintro r hs' ⟨hr, hq, _⟩
    injection hr with hr; subst hr
    have i1 := idx1 (q := hs.nh) (a := w) (by omega)
    have i2 := idx2 (q := hs.nh) (a := w) (b := h) (by omega)
    have l1 := tab_cell (o := 0) hq (show w < 13 by omega) (show h < 13 by omega) (by omega)
    rw [show resT ks w h w h = gT ks w h from if_pos ⟨Nat.le_refl _, Nat.le_refl _⟩] at l1
    have l2 : aload hs'.heap false 1 (.ref hs.nh (5 * (13 * w + h))) = some (.int .i64 ((gT ks w h).wo : Int)) := l1
    simp [anilchk, i1, i2, afaddr, l2]
  · rintro r hs' ⟨hr, _⟩; cases hr
def ksW : List Kd := [⟨2, 2, 3⟩, ⟨3, 1, 2⟩]
theorem best54 : (gT ksW 5 4).wo = 14 := by decide +kernel
theorem isK_sl {ks : List Kd} {c : Cap} (h1 : ks ≠ []) (h2 : ks.length ≤ 6) (h3 : ∀ k ∈ ks, k.ok) : IsK (.sl 3 (ks.map kA) c) ks := ⟨asV_sl (by simp; omega), h1, h2, h3⟩
theorem p25 : PCall Tryz.prog 25 [] (.bool true) := by
  have h12 := p12 (isK_sl (ks := ksW) (c := .exact) (by simp [ksW]) (by simp [ksW]) (by simp [ksW, Kd.ok])) (w := 5) (h := 4) (by omega) (by omega) (by omega) (by omega)
  rw [best54] at h12
  obtain ⟨C1, hC1, k12, _⟩ := ctx_pt CtxOk.nil 12 _ _ h12
  obtain ⟨C, hC, k63, n⟩ := ctx_pt hC1 63 _ _ Cw.p16
  have k12' : C 12 [.int .i64 5, .int .i64 4, .sl 3 [.agg [.int .i64 2, .int .i64 2, .int .i64 3], .agg [.int .i64 3, .int .i64 1, .int .i64 2]] .exact] = some (.tup [.int .i64 14, .int .i64 0]) := by
    rw [n 12 (by decide)]; exact k12
  refine PCall.of hC ok25 (by simp) rfl fun hs hb => ?_
  have f1 : afill [.int .i64 0, .int .i64 0, .int .i64 0] [(0, 1, .int .i64 2), (1, 1, .int .i64 2), (2, 1, .int .i64 3)] = some [.int .i64 2, .int .i64 2, .int .i64 3] := rfl
  have f2 : afill [.int .i64 0, .int .i64 0, .int .i64 0] [(0, 1, .int .i64 3), (1, 1, .int .i64 1), (2, 1, .int .i64 2)] = some [.int .i64 3, .int .i64 1, .int .i64 2] := rfl
  have f3 : astoAll 3 [.agg [.int .i64 2, .int .i64 2, .int .i64 3], .agg [.int .i64 3, .int .i64 1, .int .i64 2]] = true := rfl
  simp [A25, R25, f1, f2, f3, k12', k63]
end Go.Proofs.YtdcpkgedaflnmaaGreatDoor.Ct
