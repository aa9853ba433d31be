/-
  HoursKnown, walked. Own work.
-/
import Derived.Test.YtokgpcdbpkginaaG3
set_option linter.unusedVariables false
set_option linter.unusedSimpArgs false
namespace Go.Proofs.Ytokgpcdbpkginaa
open Go Fw

theorem isNil : IsM .nilsl [] (fun _ => .nilsl) := ⟨by simp, .inl ⟨rfl, rfl⟩, fun i h => by simp at h⟩
theorem p11 : PCall Try.prog 11 [] (.bool true) := by
  have q25 := p25 isW 2 1 1
  rw [roomV, if_pos chW, if_pos (by decide), shW] at q25
  have q23 := p23 isW 1
  rw [busV, if_pos (by decide), show posI (arts mW) (short mW 1) = [] by decide, show posI (machs mW) (short mW 1) = [] by decide] at q23
  have q27a := p27 isV (t := 2) (by omega)
  rw [show enoV mV3 2 = .tup [.int .i64 0, .int .i64 14] by unfold enoV; rw [if_neg (by decide)]; rfl] at q27a
  have q27b := p27 isV (t := 3) (by omega)
  rw [show enoV mV3 3 = .tup [.int .i64 3, .int .i64 0] by unfold enoV; rw [if_pos (by decide)]; rfl] at q27b
  have q32w := p32 isW 1
  rw [shV, if_pos (by decide), show short mW 1 = 6 by decide] at q32w
  have q32v := p32 isV 3
  rw [shV, if_pos (by decide), show short mV3 3 = 3 by decide] at q32v
  have q39 := p39 isNil
  rw [show chkE [] = 1 by decide] at q39
  have n32 : [wV, AV.int .i64 1] ≠ [vV, AV.int .i64 3] := by intro h; injection h with h; exact wv_ne h
  have n27 : [vV, AV.int .i64 2] ≠ [vV, AV.int .i64 3] := by intro h; injection h with _ h; injection h with h; injection h with _ h; exact absurd h (by decide)
  have hD := (((((((((D0ok.pt p37).pt p38).pt p15).pt q39).pt q32w).pt q32v).pt q27a).pt q27b).pt q25).pt q23
  obtain ⟨E, hE, e37, e38, e15, e39, e32w, e32v, e27a, e27b, e25, e23⟩ : ∃ E, CtxOk Try.prog E ∧ E 37 [] = some wV ∧ E 38 [] = some vV ∧ E 15 [] = some (.bool true) ∧ E 39 [.nilsl] = some (.int .i64 1) ∧ E 32 [wV, .int .i64 1] = some (.tup [.int .i64 6, .int .i64 0]) ∧ E 32 [vV, .int .i64 3] = some (.tup [.int .i64 3, .int .i64 0]) ∧ E 27 [vV, .int .i64 2] = some (.tup [.int .i64 0, .int .i64 14]) ∧ E 27 [vV, .int .i64 3] = some (.tup [.int .i64 3, .int .i64 0]) ∧
      E 25 [wV, .int .i64 2, .int .i64 1, .int .i64 1] = some (.tup [.int .i64 0, .int .i64 0]) ∧ E 23 [wV, .int .i64 1] = some (.tup [.nilsl, .nilsl, .int .i64 0]) := by
    refine ⟨_, hD, by simp, by simp, by simp, by simp, by simp [pt_na n32], by simp, by simp [pt_na n27], by simp, ?_, ?_⟩
    · rw [pt_ne (by decide), pt_eq]; rfl
    · rw [pt_eq]; rfl
  have a32w : ∀ hs, alcall E 32 hs [wV, .int .i64 1] = some (.tup [.int .i64 6, .int .i64 0]) := fun hs => alcall_of (by simp [isW.frz, e32w]) rfl
  have a32v : ∀ hs, alcall E 32 hs [vV, .int .i64 3] = some (.tup [.int .i64 3, .int .i64 0]) := fun hs => alcall_of (by simp [isV.frz, e32v]) rfl
  refine PCall.of hE ok11 (by simp) rfl fun hs hb => ?_
  have w0 : IntKind.i64.wrap 0 = 0 := by decide
  simp [A11, R11, w0, e37, e38, a32w, a32v, e27a, e27b, e25, e23, e39, e15]
end Go.Proofs.Ytokgpcdbpkginaa
