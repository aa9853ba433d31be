/-
  The laws, walked. Own work.
-/
import Derived.Test.YtnmpdegnpaggkaaWrk
set_option linter.unusedVariables false
set_option linter.unusedSimpArgs false
namespace Go.Proofs.Ytnmpdegnpaggkaa
open Go Fw

def S15 : List AV → Option AV
  | [] => some (.bool true)
  | _ => none
theorem c15 : ∀ a r, S15 a = some r → PCall Try.prog 15 a r := by
  intro a r h
  unfold S15 at h
  split at h <;> (try (cases h; done))
  injection h with h; subst h
  exact p15
def D18 : PCtx := D17.add 15 S15
theorem D18ok : CtxOk Try.prog D18 := D17ok.add c15
@[simp] theorem D18_15 : D18 15 = S15 := id rfl
@[simp] theorem D18_16 : D18 16 = SWays := id rfl
@[simp] theorem D18_17 : D18 17 = SWays := id rfl
@[simp] theorem D18_18 : D18 18 = SRow := id rfl
@[simp] theorem D18_19 : D18 19 = SRow := id rfl
@[simp] theorem D18_20 : D18 20 = S20 := id rfl
@[simp] theorem D18_21 : D18 21 = SChk := id rfl
@[simp] theorem D18_22 : D18 22 = SChk := id rfl
@[simp] theorem D18_23 : D18 23 = SDist := id rfl
@[simp] theorem D18_24 : D18 24 = SDist := id rfl
@[simp] theorem D18_25 : D18 25 = SChain := id rfl
@[simp] theorem D18_26 : D18 26 = SChain := id rfl
@[simp] theorem D18_27 : D18 27 = S27 := id rfl
@[simp] theorem D18_28 : D18 28 = SInt1 countR := id rfl
@[simp] theorem D18_29 : D18 29 = SInt1 countR := id rfl
@[simp] theorem D18_30 : D18 30 = SInt1 inrowP := id rfl
@[simp] theorem D18_31 : D18 31 = SInt1 inrowR := id rfl
@[simp] theorem D18_32 : D18 32 = SInt1 reachR := id rfl
@[simp] theorem D18_33 : D18 33 = SInt1 reachR := id rfl
@[simp] theorem D18_34 : D18 34 = SWithout := id rfl
@[simp] theorem D18_35 : D18 35 = SWithout := id rfl
@[simp] theorem D18_36 : D18 36 = SCost := id rfl
@[simp] theorem D18_37 : D18 37 = SCost := id rfl
@[simp] theorem D18_38 : D18 38 = SPrice cheapR := id rfl
@[simp] theorem D18_39 : D18 39 = SPrice leastR := id rfl

/-- a list of numbers of any length -/
def IsList (x : AV) (l : List Int) : Prop := (x = .nilsl ∧ l = []) ∨ ∃ c, x = .sl 1 (ints l) c
theorem IsList.len {x : AV} {l : List Int} (h : IsList x l) : alenK false x = some (.int .i64 l.length) := by
  rcases h with ⟨rfl, rfl⟩ | ⟨c, rfl⟩
  · rfl
  · simp
theorem IsList.as {x : AV} {l : List Int} (h : IsList x l) (hl : l.length ≤ 40) : asI x = some l := by
  rcases h with ⟨rfl, rfl⟩ | ⟨c, rfl⟩
  · rfl
  · exact asI_sl (by omega)
theorem ways_eq (l : List Int) : ∃ y e, waysR l = .tup [y, .int .i64 e] ∧ S20 [y, y] = some (.bool true) := by
  unfold waysR
  split
  · refine ⟨_, _, rfl, ?_⟩
    have hv : asV 2 (outV 2 (prs (waysP l))) = some (prs (waysP l)) := by
      rename_i h
      have hwl : (waysP l).length = l.length - 1 := by simp [waysP]
      have gl := (Good.of h).len
      cases h : prs (waysP l) with
      | nil => rfl
      | cons a r =>
        rw [outV_ne (by simp)]
        refine asV_sl ?_
        rw [← h]; simp [prs, hwl]; omega
    simp only [S20, hv, Option.bind_some, dePrs_prs, Option.map_some, decide_true]
  · exact ⟨_, _, rfl, rfl⟩
theorem p3 {x : AV} {l : List Int} (hx : IsList x l) : PCall Try.prog 3 [x] (.bool true) := by
  refine PCall.of D18ok ok3 (by simp) rfl fun hs' hb => ?_
  simp [A3, R3, hx.len, S15]
  refine At.dec (fun h => ?_) (fun h => ?_)
  · simp [S15]
  · have ha := hx.as (by omega)
    obtain ⟨y, e, hw, hs⟩ := ways_eq l
    simp [SWays, SRow, SChk, ha, hw, hs, rowR, S15]
end Go.Proofs.Ytnmpdegnpaggkaa
