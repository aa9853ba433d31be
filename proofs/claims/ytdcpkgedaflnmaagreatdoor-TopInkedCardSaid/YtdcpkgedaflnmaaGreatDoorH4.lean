/-
  Digits of numbers; codes: plain. Own work.
  Numbers with a check digit: the walks. Own work.
-/
import Derived.Test.YtdcpkgedaflnmaaGreatDoorG5
import Derived.Test.YtdcpkgedaflnmaaGreatDoorFx3
import Derived.Test.YtdcpkgedaflnmaaGreatDoorC3
import Derived.Test.YtdcpkgedaflnmaaGreatDoorFx5
set_option linter.unusedVariables false
set_option linter.unusedSimpArgs false
namespace Go.Proofs.YtdcpkgedaflnmaaGreatDoor.Sn
open Go Fw Se

/-- the digit that leads to 0 -/
def zD (m : List (List Int)) (s : Nat) : Int := fstF (fun j => decide (mI m s j = 0)) m.length 0
end Go.Proofs.YtdcpkgedaflnmaaGreatDoor.Sn
set_option linter.unusedVariables false
set_option linter.unusedSimpArgs false
namespace Go.Proofs.YtdcpkgedaflnmaaGreatDoor.Sn
open Go Fw Se

theorem p115 {x : AV} {l : List Int} (hx : asI x = some l) (v : Int) : PCall Tryz.prog 115 [x, .int .i64 v] (.int .i64 (fstF (fun j => decide (gI l j = v)) l.length 0)) := by
  have hl := asI_len hx
  refine PCall.of CtxOk.nil ok115 (by simp) rfl fun hs hb => ?_
  simp [A115, R115, alen_of hx]
  refine At.loop (fun (i : Nat) s => i ≤ l.length ∧ fstF (fun j => decide (gI l j = v)) l.length 0 = fstF (fun j => decide (gI l j = v)) (l.length - i) i ∧ s.env 0 = x ∧ s.env 1 = .int .i64 v ∧ s.env 7 = .int .i64 (l.length : Int) ∧ s.env 8 = .int .i64 (i : Int)) (fun i => l.length - i) 0 ?_ ?_
  · simp
  rintro N i s hN ⟨hi, hf, e0, e1, e7, e8⟩
  simp [e7, e8]
  refine At.dec (fun hlt => ?_) (fun hlt => ?_)
  rotate_left
  · have : i = l.length := by omega
    subst this
    simp [hf, fstF]
  have hi' : i < l.length := by omega
  have ix := idx_g hx (k := .i64) hi'
  rw [show l.length - i = (l.length - (i + 1)) + 1 by omega, fstF] at hf
  by_cases h : gI l i = v
  · rw [if_pos (by simpa using h)] at hf
    simp [e0, e1, e8, ix, h, hf]
  · rw [if_neg (by simpa using h)] at hf
    have h' : ¬ v = gI l i := fun e => h e.symm
    simp [e0, e1, e8, ix, h, h']
    exact hN (i + 1) _ (by omega) ⟨by omega, hf, by simp [e0], by simp [e1], by simp [e7], by simp [wrap_nat1 (show i < _ by omega)]⟩
theorem p59 {x : AV} {m : List (List Int)} (hx : asM x = some m) (g : GoodT m) {z : AV} {l : List Int} (hz : asI z = some l) (hl : ∀ a ∈ l, 0 ≤ a ∧ a < m.length) (h12 : l.length ≤ 12) : PCall Tryz.prog 59 [x, z] (.tup [.int .i64 (zD m (aft m l 0).toNat), .int .i64 0]) := by
  have hn := g.n2
  obtain ⟨R, hM⟩ := asM.isM hx
  have hb := aft_bd g (l := l) (s := 0) hl ⟨by omega, by omega⟩
  obtain ⟨a, ha⟩ : ∃ a : Nat, aft m l 0 = (a : Int) := ⟨(aft m l 0).toNat, by omega⟩
  have ham : a < m.length := by omega
  have h15 := p15 hx g hz hl h12
  rw [ha] at h15
  have hrow := rowI_ne (hM.row a ham) (by have := g.row a ham; omega)
  obtain ⟨C1, hC1, k17, _⟩ := ctx_pt CtxOk.nil 17 _ _ h15
  obtain ⟨C, hC, k115, n⟩ := ctx_pt hC1 115 _ _ (p115 hrow 0)
  have k17' : C 17 [x, z] = some (.tup [.int .i64 (a : Int), .int .i64 0]) := by rw [n 17 (by decide)]; exact k17
  have hzd : fstF (fun j => decide (gI m[a] j = 0)) m[a].length 0 = zD m a := by
    unfold zD
    rw [g.row a ham]
    congr 1
    funext j
    simp [mI, gI, ham]
  rw [hzd] at k115
  rw [ha]
  have g1 := hM.get (k := .i64) ham
  have l1 := hM.ld ham
  refine PCall.of hC ok59 (by simp) rfl fun hs hb => ?_
  simp [A59, R59, k17', g1, l1, k115]
end Go.Proofs.YtdcpkgedaflnmaaGreatDoor.Sn
