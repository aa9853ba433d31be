/-
  From a contract to the whole program's world: nothing of the caller's memory may be written, so all of it is as it was. Own work; over any program.
-/
import Derived.Test.YtnmpdegnpaggkaaFwV
import Derived.RowKit3
set_option linter.unusedVariables false
set_option linter.unusedSimpArgs false
namespace Fw
open Go Go.RowKit

def cm0 (W : World) : CM := { cl := fun b o => match W.cell? ⟨b, o, none⟩ with | some v => .imm v | none => .no, loc := fun _ => (0, 0), nh := 0, nt := 0, val := fun _ => false }
def hs0 : HS := ⟨fun _ => none, 0, 0, fun _ => false⟩
theorem cm0_nw (W : World) (b o : Nat) : ((cm0 W).cl b o).writable = false := by
  simp only [cm0]
  split <;> rfl
theorem inv0 (W : World) : Inv (cm0 W) hs0 W := by
  refine ⟨rfl, rfl, fun _ => rfl, fun k h => by simp [cm0] at h, fun b o v h => ?_, fun b o k h => ?_, fun i ys h => by simp [hs0] at h, fun b o hb => ?_⟩
  · simp only [cm0] at h
    split at h
    · rename_i u hu; injection h with h; subst h; exact hu
    · cases h
  · simp only [cm0] at h
    split at h <;> cases h
  · simp only [cm0]
    have : W.cell? ⟨b, o, none⟩ = none := by
      simp [World.cell?, hb]
    rw [this]
theorem grown0 {W W' : World} {c : CM} (h : Fr (cm0 W) W c W') : Grown W W' := by
  refine ⟨⟨h.os, h.out, fun i hi => ?_⟩, h.frz, h.size⟩
  have := h.blk i hi
  generalize hx : W.heap[i]? = x at this
  cases x with
  | none => simp at hx; omega
  | some x =>
    cases x with
    | cells cs e fr =>
      simp only [FrB] at this
      obtain ⟨cs', e1, e2, e3⟩ := this
      rw [e1]
      exact ⟨rfl, rfl, e2, fun j _ => e3 j (cm0_nw W i j)⟩
    | map es clock =>
      simp only [FrB] at this
      rw [this]
      exact .inr ⟨rfl, rfl⟩
    | _ =>
      simp only [FrB] at this
      rw [this]
theorem lift_true {P : Program} {f : FuncId} {args : List AV} (h : PCall P f args (.bool true)) {W : World} {vs : List Value} (hv : RepL (cm0 W) vs args) :
    Calls P f vs.toArray W fun e W' => e = .returned (.bool true) ∧ Grown W W' := by
  refine (h.sound (inv0 W) hv).mono ?_
  rintro e W' ⟨v, c', rfl, hr, _, hf⟩
  cases hr
  exact ⟨rfl, grown0 hf⟩
/-- a slice of numbers of the caller reads as one -/
theorem rep_ints {W : World} {b o cap : Nat} {zs : List Int} (hc : zs.length ≤ cap) (hcell : ∀ i, i < zs.length → W.cell? ⟨b, o + i, none⟩ = some (.int .i64 (zs.getD i 0))) :
    Rep (cm0 W) (.slice (some ⟨b, o, none⟩) zs.length cap) (.sl 1 (ints zs) .shared) := by
  have hflat : ∀ l : List Int, flat (ints l) = ints l := by
    intro l
    induction l with
    | nil => rfl
    | cons a l ih => simp only [ints, List.map_cons, flat, AV.cells]; rw [show List.map (AV.int .i64) l = ints l from rfl, ih]; rfl
  have := Rep.sl (c := cm0 W) b o cap 1 (ints zs) .shared (zs.map (Value.int .i64)) (by rw [hflat]; simp [ints]) (by
    intro x hx
    simp only [ints, List.mem_map] at hx
    obtain ⟨a, _, rfl⟩ := hx
    rfl) ?_ ?_ ?_ (by simpa [CapOk, ints] using hc)
  · simpa [ints] using this
  · intro j v hj
    rw [List.getElem?_map] at hj
    cases hz : zs[j]? with
    | none => rw [hz] at hj; cases hj
    | some a =>
      rw [hz] at hj; injection hj with hj; subst hj
      have hjl : j < zs.length := by
        rcases Nat.lt_or_ge j zs.length with h' | h'
        · exact h'
        · rw [List.getElem?_eq_none h'] at hz; cases hz
      have := hcell j hjl
      simp only [cm0, this]
      simp [List.getD, hz]
  · intro j v y hj hy
    rw [hflat] at hy
    simp only [ints, List.getElem?_map] at hj hy
    cases hz : zs[j]? with
    | none => rw [hz] at hj; cases hj
    | some a =>
      rw [hz] at hj hy
      injection hj with hj; injection hy with hy
      subst hj; subst hy
      exact .int .i64 a
  · intro j y hy
    rw [hflat] at hy
    simp only [ints, List.getElem?_map] at hy
    cases hz : zs[j]? with
    | none => rw [hz] at hy; cases hy
    | some a => rw [hz] at hy; injection hy with hy; subst hy; rfl
end Fw
