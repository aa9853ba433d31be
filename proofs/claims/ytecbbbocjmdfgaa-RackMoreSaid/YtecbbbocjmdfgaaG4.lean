/-
  Lists of turns: bounds, the greatest and the smallest. Own work.
  Verify, twice. Own work.
  Verify, after the reference. Own work.
  Move. Own work.
  Move, walked. Own work.
  The law of motions. Own work.
  Racks that are one piece. Own work.
  The law of ways: all sets of squares. Own work.
-/
import Derived.Test.YtecbbbocjmdfgaaG3
import Derived.Test.YtecbbbocjmdfgaaFw4
set_option linter.unusedVariables false
set_option linter.unusedSimpArgs false
namespace Go.Proofs.Ytecbbbocjmdfgaa
open Go Fw

def inT (n : Int) : Bool := btw (-1000000) n 1000000
theorem p70 {C : PCtx} (hC : CtxOk Try.prog C) (h60 : C 60 = SBtw) (n : Int) : PCall Try.prog 70 [.int .i64 n] (.bool (!inT n)) := by
  refine PCall.of hC ok70 (by simp) rfl fun hs' hb => ?_
  simp [A70, R70, h60, SBtw, inT]
/-- the first place where a number is out of bounds, or -1 -/
def outI (l : List Int) : Int := if l.all inT = true then -1 else ((l.findIdx fun n => !inT n : Nat) : Int)
theorem outI_neg {l : List Int} : 0 ≤ outI l ↔ l.all inT = false := by
  unfold outI
  cases l.all inT <;> simp
theorem first_of {α : Type} {l : List α} {p : α → Bool} (h : l.all p = false) : ∃ k, ∃ hk : k < l.length, p l[k] = false ∧ ∀ j (hj : j < l.length), j < k → p l[j] = true := by
  rw [List.all_eq_false] at h
  obtain ⟨b, hb, hbn⟩ := h
  obtain ⟨i, hi, rfl⟩ := List.getElem_of_mem hb
  obtain ⟨m, h1, ⟨h2, h3⟩, h4⟩ := least_of (p := fun k => ∃ h : k < l.length, p l[k] = false) (x := i) ⟨hi, by simpa using hbn⟩
  refine ⟨m, h2, h3, fun j hj hji => ?_⟩
  cases hp : p l[j] with
  | true => rfl
  | false => exact absurd ⟨hj, hp⟩ (h4 j hji)
theorem p80 {x : AV} {l : List Int} (hx : asI x = some l) : PCall Try.prog 80 [x, .fn (.func 70) [] []] (.int .i64 (outI l)) := by
  have hl := asI_len hx
  have hp := fun n => p70 D18ok D18_60 n
  by_cases ha : l.all inT = true
  · have hout : outI l = -1 := by simp [outI, ha]
    rw [hout]
    refine PCall.of D18ok ok80 (by simp) rfl fun hs' hb => ?_
    simp [A80, R80, alen_of hx]
    refine At.loop (fun (i : Nat) s => i ≤ l.length ∧ s.env 0 = x ∧ s.env 1 = .fn (.func 70) [] [] ∧ s.env 7 = .int .i64 (l.length : Int) ∧ s.env 8 = .int .i64 (i : Int)) (fun i => l.length - i) 0 (by simp) ?_
    rintro N i s hN ⟨hi, e0, e1, e7, e8⟩
    simp [e7, e8]
    refine At.dec (fun h => ?_) (fun h => ?_)
    · have hi' : i < l.length := by omega
      simp [e0, e1, e8, aidx_nat hx hi']
      refine At.hc (PCall.asF (hp l[i]) s.hs) ?_ ?_
      · rintro v hs2 ⟨hv, rfl⟩
        injection hv with hv; subst hv
        have h0 : inT l[i] = true := (List.all_eq_true.1 ha) _ (List.getElem_mem hi')
        simp [h0, e8]
        refine hN (i + 1) _ (by omega) ⟨by omega, ?_⟩
        simp [e0, e1, e7, wrap_nat1 (show i < _ by omega)]
      · rintro v hs2 ⟨hv, _⟩; cases hv
    · simp
  · have ha' : l.all inT = false := by simpa using ha
    obtain ⟨k, hk, hkn, hmin⟩ := first_of ha'
    have hout : outI l = (k : Int) := by
      have : l.findIdx (fun n => !inT n) = k := (List.findIdx_eq hk).2 ⟨by simp [hkn], fun j hj => by simp [hmin j (by omega) hj]⟩
      simp only [outI, ha', this]; simp
    rw [hout]
    refine PCall.of D18ok ok80 (by simp) rfl fun hs' hb => ?_
    simp [A80, R80, alen_of hx]
    refine At.loop (fun (i : Nat) s => i ≤ k ∧ s.env 0 = x ∧ s.env 1 = .fn (.func 70) [] [] ∧ s.env 7 = .int .i64 (l.length : Int) ∧ s.env 8 = .int .i64 (i : Int)) (fun i => k - i) 0 (by simp) ?_
    rintro N i s hN ⟨hi, e0, e1, e7, e8⟩
    simp [e7, e8]
    refine At.dec (fun h => ?_) (fun h => ?_)
    · have hi' : i < l.length := by omega
      simp [e0, e1, e8, aidx_nat hx hi']
      refine At.hc (PCall.asF (hp l[i]) s.hs) ?_ ?_
      · rintro v hs2 ⟨hv, rfl⟩
        injection hv with hv; subst hv
        by_cases hik : i = k
        · subst hik
          simp [hkn, e8]
        · have h0 := hmin i hi' (by omega)
          simp [h0, e8]
          refine hN (i + 1) _ (by omega) ⟨by omega, ?_⟩
          simp [e0, e1, e7, wrap_nat1 (show i < _ by omega)]
      · rintro v hs2 ⟨hv, _⟩; cases hv
    · omega
def SOut : List AV → Option AV
  | [x, .fn (.func 70) [] []] => (asI x).map fun l => .int .i64 (outI l)
  | _ => none
theorem c80 : ∀ a r, SOut a = some r → PCall Try.prog 80 a r := by
  intro a r h
  unfold SOut at h
  split at h <;> (try (cases h; done))
  obtain ⟨l, h1, rfl⟩ := optmap_some h
  exact p80 h1
def D21 : PCtx := D18.add 80 SOut
theorem D21ok : CtxOk Try.prog D21 := D18ok.add c80
@[simp] theorem D21_80 : D21 80 = SOut := id rfl
theorem p69 {x : AV} {l : List Int} (hx : asI x = some l) : PCall Try.prog 69 [x, .fn (.func 70) [] []] (.bool (!l.all inT)) := by
  refine PCall.of D21ok ok69 (by simp) rfl fun hs' hb => ?_
  simp [A69, R69, SOut, hx]
  cases h : l.all inT with
  | true => simp [outI, h]
  | false => simp [outI, h]
/-- the greatest, and the smallest, of the first -/
def mxK (l : List Int) : Nat → Int
  | 0 => l.getD 0 0
  | i + 1 => if mxK l i ≤ l.getD i 0 then l.getD i 0 else mxK l i
def mnK (l : List Int) : Nat → Int
  | 0 => l.getD 0 0
  | i + 1 => if mnK l i ≤ l.getD i 0 then mnK l i else l.getD i 0
theorem mx_ge (l : List Int) : ∀ {i j : Nat}, j < i → l.getD j 0 ≤ mxK l i
  | 0, j, h => by omega
  | i + 1, j, h => by
    simp only [mxK]
    by_cases hj : j = i
    · subst hj; split <;> omega
    · have := mx_ge l (i := i) (j := j) (by omega)
      split <;> omega
theorem mn_le (l : List Int) : ∀ {i j : Nat}, j < i → mnK l i ≤ l.getD j 0
  | 0, j, h => by omega
  | i + 1, j, h => by
    simp only [mnK]
    by_cases hj : j = i
    · subst hj; split <;> omega
    · have := mn_le l (i := i) (j := j) (by omega)
      split <;> omega
theorem mx_eq {l : List Int} {v : Int} : ∀ {i : Nat}, l.getD 0 0 = v → (∀ j, j < i → l.getD j 0 = v) → mxK l i = v ∧ mnK l i = v
  | 0, h0, _ => ⟨h0, h0⟩
  | i + 1, h0, h => by
    obtain ⟨h1, h2⟩ := mx_eq (i := i) h0 fun j hj => h j (by omega)
    have h3 := h i (by omega)
    simp only [mxK, mnK, h1, h2, h3]
    simp
/-- all numbers are the first one -/
def allEq (l : List Int) : Bool := l.all fun n => decide (n = l.getD 0 0)
theorem mx_mn {l : List Int} (hl : l ≠ []) : decide (mxK l l.length = mnK l l.length) = allEq l := by
  have hp : 0 < l.length := List.length_pos_iff.2 hl
  rw [Bool.eq_iff_iff, decide_eq_true_eq]
  unfold allEq
  rw [List.all_eq_true]
  constructor
  · intro h n hn
    obtain ⟨i, hi, rfl⟩ := List.getElem_of_mem hn
    have h1 := mx_ge l hi
    have h2 := mn_le l hi
    have h3 := mx_ge l hp
    have h4 := mn_le l hp
    have : l.getD i 0 = l[i] := by rw [List.getD_eq_getElem?_getD, List.getElem?_eq_getElem hi]; rfl
    simp only [decide_eq_true_eq]
    omega
  · intro h
    obtain ⟨h1, h2⟩ := mx_eq (l := l) (v := l.getD 0 0) (i := l.length) rfl fun j hj => by
      have := h l[j] (List.getElem_mem hj)
      have e : l.getD j 0 = l[j] := by rw [List.getD_eq_getElem?_getD, List.getElem?_eq_getElem hj]; rfl
      rw [e]; simpa using this
    rw [h1, h2]
theorem getD_of {l : List Int} {i : Nat} (hi : i < l.length) : l.getD i 0 = l[i] := by rw [List.getD_eq_getElem?_getD, List.getElem?_eq_getElem hi]; rfl
theorem p71 {x : AV} {l : List Int} (hx : asI x = some l) (hne : l ≠ []) : PCall Try.prog 71 [x] (.int .i64 (mxK l l.length)) := by
  have hl := asI_len hx
  have hp : 0 < l.length := List.length_pos_iff.2 hne
  refine PCall.of D18ok ok71 (by simp) rfl fun hs' hb => ?_
  have h1 : ¬ ((l.length : Int) < 1) := by omega
  have hi0 := aidx_nat hx hp (k := .i64)
  rw [Int.natCast_zero] at hi0
  simp [A71, R71, alen_of hx, h1, hi0]
  refine At.loop (fun (i : Nat) s => 1 ≤ i ∧ i ≤ l.length ∧ s.env 0 = x ∧ s.env 3 = .int .i64 (mxK l i) ∧ s.env 4 = .int .i64 (i : Int)) (fun i => l.length - i) 1 ?_ ?_
  · refine ⟨by omega, by omega, by simp, ?_, by simp⟩
    simp only [mxK, getD_of hp]; simp
  rintro N i s hN ⟨hi1, hi, e0, e3, e4⟩
  simp [e0, e4, alen_of hx]
  refine At.dec (fun h => ?_) (fun h => ?_)
  · have hi' : i < l.length := by omega
    simp [e0, e3, e4, aidx_nat hx hi']
    refine hN (i + 1) _ (by omega) ⟨by omega, by omega, ?_⟩
    simp [e0, wrap_nat1 (show i < _ by omega), mxK]
    rw [List.getElem?_eq_getElem hi']; rfl
  · have : i = l.length := by omega
    subst this
    simp [e3]
theorem p72 {x : AV} {l : List Int} (hx : asI x = some l) (hne : l ≠ []) : PCall Try.prog 72 [x] (.int .i64 (mnK l l.length)) := by
  have hl := asI_len hx
  have hp : 0 < l.length := List.length_pos_iff.2 hne
  refine PCall.of D18ok ok72 (by simp) rfl fun hs' hb => ?_
  have h1 : ¬ ((l.length : Int) < 1) := by omega
  have hi0 := aidx_nat hx hp (k := .i64)
  rw [Int.natCast_zero] at hi0
  simp [A72, R72, alen_of hx, h1, hi0]
  refine At.loop (fun (i : Nat) s => 1 ≤ i ∧ i ≤ l.length ∧ s.env 0 = x ∧ s.env 3 = .int .i64 (mnK l i) ∧ s.env 4 = .int .i64 (i : Int)) (fun i => l.length - i) 1 ?_ ?_
  · refine ⟨by omega, by omega, by simp, ?_, by simp⟩
    simp only [mnK, getD_of hp]; simp
  rintro N i s hN ⟨hi1, hi, e0, e3, e4⟩
  simp [e0, e4, alen_of hx]
  refine At.dec (fun h => ?_) (fun h => ?_)
  · have hi' : i < l.length := by omega
    simp [e0, e3, e4, aidx_nat hx hi']
    refine hN (i + 1) _ (by omega) ⟨by omega, by omega, ?_⟩
    simp [e0, wrap_nat1 (show i < _ by omega), mnK]
    rw [List.getElem?_eq_getElem hi']; rfl
  · have : i = l.length := by omega
    subst this
    simp [e3]
end Go.Proofs.Ytecbbbocjmdfgaa
set_option linter.unusedVariables false
set_option linter.unusedSimpArgs false
namespace Go.Proofs.Ytecbbbocjmdfgaa
open Go Fw

def asMo : AV → Option (List Int × List Int)
  | .agg [a, b] => match asI a, asI b with
    | some l, some m => some (l, m)
    | _, _ => none
  | _ => none
theorem asMo_inv {x : AV} {p : List Int × List Int} (h : asMo x = some p) : ∃ a b, x = .agg [a, b] ∧ asI a = some p.1 ∧ asI b = some p.2 := by
  unfold asMo at h
  split at h <;> (try (cases h; done))
  rename_i a b
  split at h <;> (try (cases h; done))
  rename_i h1 h2
  injection h with h; subst h
  exact ⟨a, b, rfl, h1, h2⟩
/-- a brace that a motion breaks -/
def brk (la lb : List Int) (b : Br) : Bool := (decide (b.2.2 ≠ 2) && decide (lb.getD b.2.1.toNat 0 < la.getD b.1.toNat 0)) || (decide (b.2.2 ≠ 1) && decide (la.getD b.1.toNat 0 < lb.getD b.2.1.toNat 0))
/-- the error of a motion -/
def vfR (R : Rk) (la lb : List Int) : Int :=
  if chkR R = 0 then (if (la.length : Int) = R.r ∧ (lb.length : Int) = R.c then (if (la ++ lb).all inT = true then (if allEq (la ++ lb) = true then 20 else (if R.b.any (brk la lb) = true then 13 else 0)) else 4) else 3) else chkR R
theorem cat_two {x y : AV} {la lb : List Int} (hx : asI x = some la) (hy : asI y = some lb) (hl : la.length + lb.length ≤ 1000000) : PCall Try.prog 68 [.sl 1 [x, y] .exact] (outV 1 (ints (la ++ lb))) := by
  have h := p68 (xs := [x, y]) (c := .exact) (ls := fun i => if i = 0 then la else lb) (fun i h => by
    match i, h with
    | 0, _ => exact hx
    | 1, _ => exact hy) (fun i h => by
    have := catL_le (fun i => if i = 0 then la else lb) (i := i) (j := 2) h
    simp only [catL, List.length_append] at this
    simp at this
    omega) (by simp)
  simpa [catL] using h
open Classical in
noncomputable def SCt : List AV → Option AV
  | [.sl 1 [x, y] .exact] => match asI x, asI y with
    | some la, some lb => if la.length + lb.length ≤ 1000000 then some (outV 1 (ints (la ++ lb))) else none
    | _, _ => none
  | _ => none
theorem SCt_i {x y : AV} {la lb : List Int} (hx : asI x = some la) (hy : asI y = some lb) (hl : la.length + lb.length ≤ 1000000) : SCt [.sl 1 [x, y] .exact] = some (outV 1 (ints (la ++ lb))) := by simp [SCt, hx, hy, hl]
theorem c68' : ∀ a r, SCt a = some r → PCall Try.prog 68 a r := by
  intro a r h
  unfold SCt at h
  split at h <;> (try (cases h; done))
  split at h <;> (try (cases h; done))
  split at h <;> (try (cases h; done))
  rename_i h1 h2 h3
  injection h with h; subst h
  exact cat_two h1 h2 h3
def SAny : List AV → Option AV
  | [x, .fn (.func 70) [] []] => (asI x).map fun l => .bool (!l.all inT)
  | _ => none
theorem c69 : ∀ a r, SAny a = some r → PCall Try.prog 69 a r := by
  intro a r h
  unfold SAny at h
  split at h <;> (try (cases h; done))
  obtain ⟨l, h1, rfl⟩ := optmap_some h
  exact p69 h1
def SMax : List AV → Option AV
  | [x] => (asI x).bind fun l => if l = [] then none else some (.int .i64 (mxK l l.length))
  | _ => none
theorem c71 : ∀ a r, SMax a = some r → PCall Try.prog 71 a r := by
  intro a r h
  unfold SMax at h
  split at h <;> (try (cases h; done))
  obtain ⟨l, h1, h2⟩ := Option.bind_eq_some_iff.1 h
  split at h2 <;> (try (cases h2; done))
  rename_i hne
  injection h2 with h2; subst h2
  exact p71 h1 hne
def SMin : List AV → Option AV
  | [x] => (asI x).bind fun l => if l = [] then none else some (.int .i64 (mnK l l.length))
  | _ => none
theorem c72 : ∀ a r, SMin a = some r → PCall Try.prog 72 a r := by
  intro a r h
  unfold SMin at h
  split at h <;> (try (cases h; done))
  obtain ⟨l, h1, h2⟩ := Option.bind_eq_some_iff.1 h
  split at h2 <;> (try (cases h2; done))
  rename_i hne
  injection h2 with h2; subst h2
  exact p72 h1 hne
noncomputable def D22 : PCtx := ((((D18.add 68 SCt).add 69 SAny).add 71 SMax).add 72 SMin)
theorem D22ok : CtxOk Try.prog D22 := (((D18ok.add c68').add c69).add c71).add c72
theorem D22_68 : D22 68 = SCt := id rfl
theorem D22_69 : D22 69 = SAny := id rfl
theorem D22_71 : D22 71 = SMax := id rfl
theorem D22_72 : D22 72 = SMin := id rfl
theorem D22_25 : D22 25 = SChkR := id rfl
theorem D22_26 : D22 26 = SChkR := id rfl
theorem D22_61 : D22 61 = SIs := id rfl
/-- a motion, by value -/
structure MoV (x a b : AV) (la lb : List Int) : Prop where
  eq : x = .agg [a, b]
  sto : x.sto = true
  ld : ∀ h, aload h true 2 (.ptr x) = some x
  f0 : afaddr false 1 0 (.ptr x) = some (.ptr a)
  f1 : afaddr false 1 1 (.ptr x) = some (.ptr b)
  l1 : ∀ h, aload h false 1 (.ptr a) = some a
  l2 : ∀ h, aload h false 1 (.ptr b) = some b
  ia : asI a = some la
  ib : asI b = some lb
theorem MoV.of {x : AV} {p : List Int × List Int} (h : asMo x = some p) : ∃ a b, MoV x a b p.1 p.2 := by
  obtain ⟨a, b, rfl, h1, h2⟩ := asMo_inv h
  have lf : ∀ {a : AV} {l : List Int}, asI a = some l → ∀ h, aload h false 1 (.ptr a) = some a := fun h1 h => by
    rcases asI_inv h1 with ⟨rfl, _⟩ | ⟨c, rfl⟩ <;> rfl
  exact ⟨a, b, rfl, rfl, fun _ => rfl, by simp, by simp, lf h1, lf h2, h1, h2⟩
theorem brk_any {l : List Br} {f : Br → Bool} {i : Nat} (hi : i < l.length) : (l.take (i + 1)).any f = ((l.take i).any f || f l[i]) := any_take_succ hi
theorem any_full {α : Type} {l : List α} {f : α → Bool} {i : Nat} (hi : i < l.length) (h : f l[i] = true) : l.any f = true := List.any_eq_true.2 ⟨_, List.getElem_mem hi, h⟩
theorem p40 {x m : AV} {R : Rk} {p : List Int × List Int} (hx : asR x = some R) (hm : asMo m = some p) (hl : p.1.length + p.2.length ≤ 1000000) : PCall Try.prog 40 [x, m] (.int .i64 (vfR R p.1 p.2)) := by
  obtain ⟨v1, v2, v3, v4, v5, v6, v7, v8⟩ := RkV.of hx
  obtain ⟨a, b, m1, m2, m3, m4, m5, m6, m7, m8, m9⟩ := MoV.of hm
  generalize hla : p.1 = xa at *
  generalize hlb : p.2 = xb at *
  refine PCall.of D22ok ok40 (by simp) rfl fun hs' hb => ?_
  have sab : ∀ {a : AV} {l : List Int}, asI a = some l → a.sto = true ∧ a.cells.length = 1 := fun h1 => by
    rcases asI_inv h1 with ⟨rfl, _⟩ | ⟨c, rfl⟩ <;> exact ⟨rfl, rfl⟩
  have hct := SCt_i m8 m9 hl
  by_cases h0 : chkR R = 0
  rotate_left
  · simp [A40, R40, v2, m2, v3, D22_25, D22_68, SChkR_i hx, m4, m5, m6, m7, astoAll, (sab m8).1, (sab m8).2, (sab m9).1, (sab m9).2, hct, h0, vfR]
  by_cases h1 : (xa.length : Int) = R.r
  rotate_left
  · simp [A40, R40, v2, m2, v3, v4, D22_25, D22_68, SChkR_i hx, m4, m5, m6, m7, astoAll, (sab m8).1, (sab m8).2, (sab m9).1, (sab m9).2, hct, h0, alen_of m8, h1, vfR]
  by_cases h2 : (xb.length : Int) = R.c
  rotate_left
  · simp [A40, R40, v2, m2, v3, v4, v5, D22_25, D22_68, SChkR_i hx, m4, m5, m6, m7, astoAll, (sab m8).1, (sab m8).2, (sab m9).1, (sab m9).2, hct, h0, alen_of m8, alen_of m9, h1, h2, vfR]
  obtain ⟨hok, hlen⟩ := chkR_zero.1 h0
  have hr1 := hok.r1
  have hne : xa ++ xb ≠ [] := by
    intro h
    have := congrArg List.length h
    rw [List.length_append, List.length_nil] at this
    omega
  have hall := asI_outV (l := xa ++ xb) (by simp; omega)
  have hmx : SMax [outV 1 (ints (xa ++ xb))] = some (.int .i64 (mxK (xa ++ xb) (xa ++ xb).length)) := by simp only [SMax, hall, Option.bind_some]; rw [if_neg hne]
  have hmn : SMin [outV 1 (ints (xa ++ xb))] = some (.int .i64 (mnK (xa ++ xb) (xa ++ xb).length)) := by simp only [SMin, hall, Option.bind_some]; rw [if_neg hne]
  have han : SAny [outV 1 (ints (xa ++ xb)), .fn (.func 70) [] []] = some (.bool (!(xa ++ xb).all inT)) := by simp only [SAny, hall, Option.map_some]
  have hmm := mx_mn hne
  generalize hL : xa ++ xb = L at *
  cases h3 : L.all inT with
  | false =>
    rw [h3] at han
    simp [A40, R40, v2, m2, v3, v4, v5, D22_25, D22_68, D22_69, SChkR_i hx, m4, m5, m6, m7, astoAll, (sab m8).1, (sab m8).2, (sab m9).1, (sab m9).2, hct, h0, alen_of m8, alen_of m9, h1, h2, han, vfR, hL, h3]
  | true =>
  rw [h3] at han
  cases h4 : allEq L with
  | true =>
    rw [h4] at hmm
    simp [A40, R40, v2, m2, v3, v4, v5, D22_25, D22_68, D22_69, D22_71, D22_72, SChkR_i hx, m4, m5, m6, m7, astoAll, (sab m8).1, (sab m8).2, (sab m9).1, (sab m9).2, hct, h0, alen_of m8, alen_of m9, h1, h2, han, vfR, hL, h3, hmx, hmn, hmm, h4]
  | false =>
  rw [h4] at hmm
  have hres : vfR R xa xb = if R.b.any (brk xa xb) = true then 13 else 0 := by
    rw [vfR, if_pos h0, if_pos ⟨h1, h2⟩, hL, if_pos h3, if_neg (by rw [h4]; decide)]
  rw [hres]
  simp [A40, R40, v2, m2, v3, v4, v5, v6, v7, D22_25, D22_68, D22_69, D22_71, D22_72, SChkR_i hx, m4, m5, m6, m7, astoAll, (sab m8).1, (sab m8).2, (sab m9).1, (sab m9).2, hct, h0, alen_of m8, alen_of m9, h1, h2, han, hmx, hmn, hmm, blen v8]
  refine At.loop (fun (i : Nat) s => i ≤ R.b.length ∧ s.env 3 = .ptr m ∧ s.env 48 = rb x ∧ s.env 49 = .int .i64 (R.b.length : Int) ∧ s.env 50 = .int .i64 (i : Int) ∧ (R.b.take i).any (brk xa xb) = false) (fun i => R.b.length - i) 0 (by simp) ?_
  rintro N i s hN ⟨hi, e3, e48, e49, e50, hany⟩
  simp [e49, e50]
  refine At.dec (fun hlt => ?_) (fun hlt => ?_)
  · have hi' : i < R.b.length := by omega
    obtain ⟨c, hc⟩ : ∃ c, c = R.b[i] := ⟨_, rfl⟩
    obtain ⟨k1, k2, k3, k4, k5, k6⟩ : okB R.r R.c c := by rw [hc]; exact hok.b _ (List.getElem_mem hi')
    obtain ⟨ρ, hρ⟩ : ∃ ρ : Nat, c.1 = (ρ : Int) := ⟨c.1.toNat, by omega⟩
    obtain ⟨κ, hκ⟩ : ∃ κ : Nat, c.2.1 = (κ : Int) := ⟨c.2.1.toNat, by omega⟩
    have hbi := bidx v8 hi' (k := .i64)
    rw [← hc, hρ, hκ] at hbi
    have gl : ∀ h, aload h true 3 (.ptr (.agg [.int .i64 (ρ : Int), .int .i64 (κ : Int), .int .i64 c.2.2])) = some (.agg [.int .i64 (ρ : Int), .int .i64 (κ : Int), .int .i64 c.2.2]) := fun _ => rfl
    have ga := aidx_nat m8 (k := .i64) (i := ρ) (by omega)
    have gb := aidx_nat m9 (k := .i64) (i := κ) (by omega)
    have hbr := brk_any (f := brk xa xb) hi'
    rw [hany, Bool.false_or, ← hc] at hbr
    have hbk : brk xa xb c = ((decide (c.2.2 ≠ 2) && decide (xb[κ] < xa[ρ])) || (decide (c.2.2 ≠ 1) && decide (xa[ρ] < xb[κ]))) := by
      unfold brk
      rw [hρ, hκ, Int.toNat_natCast, Int.toNat_natCast, getD_of, getD_of]
    generalize xa[ρ] = u at *
    generalize xb[κ] = w at *
    have hfin : ∀ t : Bool, t = brk xa xb c → (t = true → R.b.any (brk xa xb) = true) ∧ (t = false → (R.b.take (i + 1)).any (brk xa xb) = false) := fun t ht => ⟨fun h => any_full hi' (by rw [← hc, ← ht, h]), fun h => by rw [hbr, ← ht, h]⟩
    by_cases q2 : c.2.2 = 2 <;> by_cases q1 : c.2.2 = 1 <;> by_cases q3 : u < w <;> by_cases q4 : w < u <;> (try omega) <;>
    first
    | (have hv := (hfin true (by rw [hbk]; simp [q1, q2, q3, q4])).1 rfl
       simp [e3, e48, e50, hbi, gl, astore, sa, ca, setL, env_none, la, apart, fa, m4, m5, m6, m7, ga, gb, q1, q2, q3, q4, hv]
       done)
    | (have hv := (hfin false (by rw [hbk]; simp [q1, q2, q3, q4])).2 rfl
       simp [e3, e48, e50, hbi, gl, astore, sa, ca, setL, env_none, la, apart, fa, m4, m5, m6, m7, ga, gb, q1, q2, q3, q4]
       refine hN (i + 1) _ (by omega) ⟨by omega, ?_⟩
       simp [e3, e48, e49, wrap_nat1 (show i < _ by omega)]
       simpa using hv)
  · have hiL : i = R.b.length := by omega
    subst hiL
    rw [List.take_length] at hany
    simp [hany]
end Go.Proofs.Ytecbbbocjmdfgaa
set_option linter.unusedVariables false
set_option linter.unusedSimpArgs false
namespace Go.Proofs.Ytecbbbocjmdfgaa
open Go Fw

theorem copyI2 {hs : HS} {x y : AV} {l m : List Int} (hx : asI x = some l) (hy : asI y = some m) (hl : l ≠ []) (hm : m ≠ []) (hlen : l.length + m.length ≤ 1000000) :
    ∃ y1 hs1 z hs2, aappend 1 hs (.sl 1 [] .exact) x = some (y1, hs1) ∧ aappend 1 hs1 y1 y = some (z, hs2) ∧ asI z = some (l ++ m) ∧ SameMem hs hs1 ∧ SameMem hs hs2 := by
  obtain ⟨y1, hs1, b1, b2, b3, b4, b5, b6, b7⟩ := append_fresh (sz := 1) (hs := hs) (x := .sl 1 [] .exact) (q := x) (l := []) (ys := ints l) trivial rfl rfl (asI_asV hx) (by rw [ints_len]; simp; omega)
  obtain ⟨z, hs2, d1, d2, d3, d4, d5, d6, d7⟩ := append_fresh (sz := 1) (q := y) (ys := ints m) b2 b3 b4 (asI_asV hy) (by simp; omega)
  refine ⟨y1, hs1, z, hs2, b1, d1, ?_, b6, b6.trans d6⟩
  rcases d5 with ⟨_, h⟩ | ⟨k, e⟩
  · exact absurd (List.map_eq_nil_iff.1 h) hm
  · rw [e]
    have : [] ++ ints l ++ ints m = ints (l ++ m) := by simp [ints]
    rw [this]; exact asI_sl (by simp; omega)
theorem p48 {x m : AV} {R : Rk} {p : List Int × List Int} (hx : asR x = some R) (hm : asMo m = some p) (hl : p.1.length + p.2.length ≤ 1000000) : PCall Try.prog 48 [x, m] (.int .i64 (vfR R p.1 p.2)) := by
  obtain ⟨v1, v2, v3, v4, v5, v6, v7, v8⟩ := RkV.of hx
  obtain ⟨a, b, m1, m2, m3, m4, m5, m6, m7, m8, m9⟩ := MoV.of hm
  generalize hla : p.1 = xa at *
  generalize hlb : p.2 = xb at *
  refine PCall.of D22ok ok48 (by simp) rfl fun hs' hb => ?_
  by_cases h0 : chkR R = 0
  rotate_left
  · simp [A48, R48, v2, m2, v3, D22_26, SChkR_i hx, h0, vfR]
  by_cases h1 : (xa.length : Int) = R.r
  rotate_left
  · simp [A48, R48, v2, m2, v3, v4, D22_26, SChkR_i hx, m4, m5, m6, m7, h0, alen_of m8, h1, vfR]
  by_cases h2 : (xb.length : Int) = R.c
  rotate_left
  · simp [A48, R48, v2, m2, v3, v4, v5, D22_26, SChkR_i hx, m4, m5, m6, m7, h0, alen_of m8, alen_of m9, h1, h2, vfR]
  obtain ⟨hok, hlen⟩ := chkR_zero.1 h0
  have hr1 := hok.r1
  have hc1 := hok.c1
  have na : xa ≠ [] := fun h => by rw [h] at h1; simp at h1; omega
  have nb : xb ≠ [] := fun h => by rw [h] at h2; simp at h2; omega
  have hr6 := hok.r6
  have hc6 := hok.c6
  obtain ⟨y1, hs1, z, hs2, a1, a2, a3, a4, a5⟩ := copyI2 (hs := hs') m8 m9 na nb hl
  simp [A48, R48, v2, m2, v3, v4, v5, D22_26, SChkR_i hx, m4, m5, m6, m7, h0, alen_of m8, alen_of m9, h1, h2, astoAll, a1, a2]
  have hL0 : 0 < (xa ++ xb).length := by simp; omega
  have hLl : (xa ++ xb).length ≤ 12 := by simp; omega
  generalize hL : xa ++ xb = L at *
  obtain ⟨w0, hw0⟩ : ∃ w0, w0 = L.getD 0 0 := ⟨_, rfl⟩
  have z0 := aidx_nat a3 hL0 (k := .i64)
  rw [Int.natCast_zero, ← getD_of hL0, ← hw0] at z0
  have hal : allEq L = L.all fun n => decide (n = w0) := by rw [allEq, hw0]
  refine At.loop (fun (i : Nat) s => i ≤ L.length ∧ s.env 2 = .ptr x ∧ s.env 3 = .ptr m ∧ s.env 6 = z ∧ s.env 8 = .int .i64 (i : Int) ∧ s.env 7 = .bool ((L.take i).all fun n => decide (n = w0)) ∧ (L.take i).all inT = true) (fun i => L.length - i) 0 (by simp) ?_
  rintro N i s hN ⟨hi, e2, e3, e6, e8, e7, hin⟩
  simp [e6, e8, alen_of a3]
  refine At.dec (fun hlt => ?_) (fun hlt => ?_)
  · have hi' : i < L.length := by omega
    have zi := aidx_nat a3 hi' (k := .i64)
    have t1 : (L.take (i + 1)).all (fun n => decide (n = w0)) = ((L.take i).all (fun n => decide (n = w0)) && decide (L[i] = w0)) := by rw [take_snoc hi']; simp only [List.all_append, List.all_cons, List.all_nil, Bool.and_true]
    have t2 : (L.take (i + 1)).all inT = ((L.take i).all inT && inT L[i]) := by rw [take_snoc hi']; simp only [List.all_append, List.all_cons, List.all_nil, Bool.and_true]
    rw [hin, Bool.true_and] at t2
    cases hti : inT L[i] with
    | false =>
      have hb1 : btw (-1000000) L[i] 1000000 = false := hti
      have hnall : L.all inT = false := by
        rw [List.all_eq_false]
        exact ⟨_, List.getElem_mem hi', by rw [hti]; decide⟩
      have hres : vfR R xa xb = 4 := by rw [vfR, if_pos h0, if_pos ⟨h1, h2⟩, hL, if_neg (by rw [hnall]; decide)]
      simp [e6, e8, zi, D22_61, SIs, hb1, hres]
    | true =>
      have hb1 : btw (-1000000) L[i] 1000000 = true := hti
      rw [hti] at t2
      cases hse : (L.take i).all fun n => decide (n = w0) with
      | false =>
        rw [hse] at e7 t1
        simp [e6, e7, e8, zi, D22_61, SIs, hb1]
        refine hN (i + 1) _ (by omega) ⟨by omega, ?_⟩
        simp only [t1, t2]
        simp [e2, e3, e6, wrap_nat1 (show i < _ by omega)]
      | true =>
        rw [hse] at e7 t1
        simp [e6, e7, e8, zi, z0, D22_61, SIs, hb1]
        refine hN (i + 1) _ (by omega) ⟨by omega, ?_⟩
        simp only [t1, t2]
        simp [e2, e3, e6, wrap_nat1 (show i < _ by omega)]
  have hiL : i = L.length := by omega
  subst hiL
  rw [List.take_length] at e7 hin
  rw [← hal] at e7
  cases h4 : allEq L with
  | true =>
    rw [h4] at e7
    have hres : vfR R xa xb = 20 := by rw [vfR, if_pos h0, if_pos ⟨h1, h2⟩, hL, if_pos hin, if_pos h4]
    simp [e7, hres]
  | false =>
  rw [h4] at e7
  have hres : vfR R xa xb = if R.b.any (brk xa xb) = true then 13 else 0 := by
    rw [vfR, if_pos h0, if_pos ⟨h1, h2⟩, hL, if_pos hin, if_neg (by rw [h4]; decide)]
  rw [hres]
  simp [e7]
  refine At.loop (fun (i : Nat) s => i ≤ R.b.length ∧ s.env 2 = .ptr x ∧ s.env 3 = .ptr m ∧ s.env 9 = .int .i64 (i : Int) ∧ (R.b.take i).any (brk xa xb) = false) (fun i => R.b.length - i) 0 (by simp [e2, e3]) ?_
  rintro N i s hN ⟨hi, e2, e3, e9, hany⟩
  simp [e2, e9, v6, v7, blen v8]
  refine At.dec (fun hlt => ?_) (fun hlt => ?_)
  · have hi' : i < R.b.length := by omega
    obtain ⟨c, hc⟩ : ∃ c, c = R.b[i] := ⟨_, rfl⟩
    obtain ⟨k1, k2, k3, k4, k5, k6⟩ : okB R.r R.c c := by rw [hc]; exact hok.b _ (List.getElem_mem hi')
    obtain ⟨ρ, hρ⟩ : ∃ ρ : Nat, c.1 = (ρ : Int) := ⟨c.1.toNat, by omega⟩
    obtain ⟨κ, hκ⟩ : ∃ κ : Nat, c.2.1 = (κ : Int) := ⟨c.2.1.toNat, by omega⟩
    have hbi := bidx v8 hi' (k := .i64)
    rw [← hc, hρ, hκ] at hbi
    have gl : ∀ h, aload h true 3 (.ptr (.agg [.int .i64 (ρ : Int), .int .i64 (κ : Int), .int .i64 c.2.2])) = some (.agg [.int .i64 (ρ : Int), .int .i64 (κ : Int), .int .i64 c.2.2]) := fun _ => rfl
    have ga := aidx_nat m8 (k := .i64) (i := ρ) (by omega)
    have gb := aidx_nat m9 (k := .i64) (i := κ) (by omega)
    have hbr := brk_any (f := brk xa xb) hi'
    rw [hany, Bool.false_or, ← hc] at hbr
    have hbk : brk xa xb c = ((decide (c.2.2 ≠ 2) && decide (xb[κ] < xa[ρ])) || (decide (c.2.2 ≠ 1) && decide (xa[ρ] < xb[κ]))) := by
      unfold brk
      rw [hρ, hκ, Int.toNat_natCast, Int.toNat_natCast, getD_of, getD_of]
    generalize xa[ρ] = u at *
    generalize xb[κ] = w at *
    have hfin : ∀ t : Bool, t = brk xa xb c → (t = true → R.b.any (brk xa xb) = true) ∧ (t = false → (R.b.take (i + 1)).any (brk xa xb) = false) := fun t ht => ⟨fun h => any_full hi' (by rw [← hc, ← ht, h]), fun h => by rw [hbr, ← ht, h]⟩
    by_cases q2 : c.2.2 = 2 <;> by_cases q1 : c.2.2 = 1 <;> by_cases q3 : u < w <;> by_cases q4 : w < u <;> (try omega) <;>
    first
    | (have hv := (hfin true (by rw [hbk]; simp [q1, q2, q3, q4])).1 rfl
       simp [e2, e3, e9, v6, v7, hbi, gl, astore, sa, ca, setL, env_none, la, apart, fa, m4, m5, m6, m7, ga, gb, q1, q2, q3, q4, hv]
       done)
    | (have hv := (hfin false (by rw [hbk]; simp [q1, q2, q3, q4])).2 rfl
       simp [e2, e3, e9, v6, v7, hbi, gl, astore, sa, ca, setL, env_none, la, apart, fa, m4, m5, m6, m7, ga, gb, q1, q2, q3, q4]
       refine hN (i + 1) _ (by omega) ⟨by omega, ?_⟩
       simp [e2, e3, wrap_nat1 (show i < _ by omega)]
       simpa using hv)
  · have hiL : i = R.b.length := by omega
    subst hiL
    rw [List.take_length] at hany
    simp [hany]
end Go.Proofs.Ytecbbbocjmdfgaa
set_option linter.unusedVariables false
set_option linter.unusedSimpArgs false
namespace Go.Proofs.Ytecbbbocjmdfgaa
open Go Fw

@[simp] theorem D18_25 : D18 25 = SChkR := id rfl
@[simp] theorem D18_54 : D18 54 = SFrame := id rfl
@[simp] theorem D18_74 : D18 74 = SFrom := id rfl
@[simp] theorem D18_75 : D18 75 = SAll := id rfl
@[simp] theorem D18_56 : D18 56 = SHas := id rfl
/-- the turns of what is in a set: some of them, from a place on -/
def bits (s from_ n : Nat) : List Int := (List.range n).map fun j => if s.testBit (from_ + j) = true then 1 else 0
theorem bits_succ {s f n : Nat} : bits s f (n + 1) = bits s f n ++ [if s.testBit (f + n) = true then 1 else 0] := by
  simp [bits, List.range_succ]
@[simp] theorem bits_len {s f n : Nat} : (bits s f n).length = n := by simp [bits]
/-- the first row or column from which not all can be reached, among those from i on -/
def mvF (A : List Nat) (n : Nat) (all : Nat) : Nat → Nat → Option Nat
  | 0, _ => none
  | m + 1, i => if fromS A i = all then mvF A n all m (i + 1) else some i
def mvI (R : Rk) : Option Nat := mvF (frF R (-1)).arr (nR R) (2 ^ nR R - 1) (nR R) 0
def mvOut (A : List Nat) (r c : Nat) : Option Nat → AV
  | some i => .tup [.agg [outV 1 (ints (bits (fromS A i) 0 r)), outV 1 (ints (bits (fromS A i) r c))], .int .i64 0]
  | none => .tup [.agg [.nilsl, .nilsl], .int .i64 14]
def mvV (R : Rk) : AV := if chkR R = 0 then mvOut (frF R (-1)).arr R.r.toNat R.c.toNat (mvI R) else .tup [.agg [.nilsl, .nilsl], .int .i64 (chkR R)]
theorem mvV_plain (R : Rk) : (mvV R).plain = true := by
  unfold mvV
  split
  · unfold mvOut
    split
    · simp only [AV.plain, plainL, plain_outI, Bool.and_self]
    · rfl
  · rfl
/-- no row or column before i is one from which not all can be reached -/
theorem mvF_skip {A : List Nat} {n all : Nat} : ∀ {i m : Nat}, (∀ j, j < i → fromS A j = all) → i ≤ m → mvF A n all m 0 = mvF A n all (m - i) i
  | 0, m, _, _ => rfl
  | i + 1, m, h, hm => by
    rw [mvF_skip (i := i) (fun j hj => h j (by omega)) (by omega), show m - i = (m - (i + 1)) + 1 by omega]
    simp only [mvF]
    rw [if_pos (h i (by omega))]
end Go.Proofs.Ytecbbbocjmdfgaa
set_option linter.unusedVariables false
set_option linter.unusedSimpArgs false
namespace Go.Proofs.Ytecbbbocjmdfgaa
open Go Fw

theorem from_lt {A : List Nat} (h : ∀ a ∈ A, a < 65536) {i : Nat} (hi : i < 16) : fromS A i < 65536 := itS_lt h (Nat.pow_lt_pow_right (by decide) hi) _
theorem p46 {x : AV} {R : Rk} (hx : asR x = some R) : PCall Try.prog 46 [x] (mvV R) := by
  obtain ⟨v1, v2, v3, v4, v5, v6, v7, v8⟩ := RkV.of hx
  refine PCall.of D18ok ok46 (by simp) (mvV_plain R) fun hs' hb => ?_
  by_cases h : chkR R = 0
  rotate_left
  · simp [A46, R46, v2, v3, SChkR_i hx, h, afill, astore, sa, ca, setL, la, apart, mvV, env_none]
  have hok := (chkR_zero.1 h).1
  have hF := asF_frV (x := x) hok (-1)
  obtain ⟨n, hn⟩ : ∃ n : Nat, n = R.r.toNat + R.c.toNat := ⟨_, rfl⟩
  obtain ⟨r, hr⟩ : ∃ r : Nat, r = R.r.toNat := ⟨_, rfl⟩
  obtain ⟨c, hc⟩ : ∃ c : Nat, c = R.c.toNat := ⟨_, rfl⟩
  have h1 := hok.r1
  have h2 := hok.c1
  have h3 := hok.r6
  have h4 := hok.c6
  have hrr : R.r = (r : Int) := by omega
  have hFl : (frF R (-1)).arr.length = n := by simp only [frF, arrS_len, hn]
  have hF2 := asF_inv hF
  obtain ⟨_, hlt, _, _⟩ := hF2
  have hmv : mvV R = mvOut (frF R (-1)).arr r c (mvF (frF R (-1)).arr n (2 ^ n - 1) n 0) := by
    rw [mvV, if_pos h, mvI, ← hr, ← hc, show nR R = n from hn.symm]
  have hall : u16 (2 ^ ((frF R (-1)).r + (frF R (-1)).c) - 1) = u16 (2 ^ n - 1) := by rw [hn]; rfl
  have hSA := SAll_i hF
  rw [hall] at hSA
  generalize hA : (frF R (-1)).arr = A at *
  have hV : frV x R (-1) = .agg [.int .i64 R.r, .int .i64 R.c, brV x, .sl 1 (us A) .exact] := by rw [frV, hA]
  rw [hV] at hSA
  have hSF : ∀ i : Nat, i < n → SFrom [.agg [.int .i64 R.r, .int .i64 R.c, brV x, .sl 1 (us A) .exact], .int .i64 (i : Int)] = some (u16 (fromS A i)) := fun i hi => by
    rw [← hV]
    have := SFrom_i hF (i := i) (by rw [hA, hFl]; exact hi)
    rw [hA] at this
    exact this
  generalize mvV R = G at hmv ⊢
  generalize hq : hs'.nh = q
  generalize hbb : brV x = bb at *
  have hld3 : ∀ h xs c, aload h false 1 (.ptr (.sl 1 xs c)) = some (.sl 1 xs c) := fun _ _ _ => rfl
  have nq : ¬ q = q + 1 := by omega
  have nq2 : ¬ q + 1 = q := by omega
  have hbs : bb.cells = [bb] ∧ bb.sto = true := by
    rw [← hbb, v1]
    rcases (asB_inv v8).2.1 with ⟨e, _⟩ | ⟨c, e⟩ <;> simp [brV, e, AV.share] <;> simp [AV.cells, AV.sto, AV.leaf]
  simp [A46, R46, v2, v3, SChkR_i hx, h, SFrame_i hx hok, hV, hq, astore, sa, ca, setL, env_none, fa, la, apart, hFl, nq, nq2]
  refine At.loop (fun (i : Nat) s => i ≤ n ∧ s.env 1 = .ptr x ∧ s.env 2 = .ref q 0 ∧ s.env 5 = .ref (q + 1) 0 ∧ s.env 22 = .int .i64 (n : Int) ∧ s.env 23 = .int .i64 (i : Int) ∧ q + 1 < s.hs.nh ∧ s.hs.heap q = some [.nilsl, .nilsl] ∧ s.hs.heap (q + 1) = some [.int .i64 R.r, .int .i64 R.c, bb, .sl 1 (us A) .exact] ∧ ∀ j, j < i → fromS A j = 2 ^ n - 1) (fun i => n - i) 0 ?_ ?_
  · simp [nq, nq2]
  rintro N i s hN ⟨hi, e1, e2, e5, e22, e23, hnh, hhq, hhq1, hall2⟩
  simp [e22, e23]
  refine At.dec (fun hlt2 => ?_) (fun hlt2 => ?_)
  rotate_left
  · have hin : i = n := by omega
    subst hin
    have hnone : mvF A i (2 ^ i - 1) i 0 = none := by
      rw [mvF_skip hall2 (Nat.le_refl _), Nat.sub_self]; rfl
    rw [hnone] at hmv
    simp only [mvOut] at hmv
    simp [e2, afill, astore, hhq, sa, ca, setL, env_none, la, apart, hmv]
  have hi' : i < n := by omega
  have hnn : n ≤ 12 := by omega
  have hfl := from_lt (A := A) hlt (i := i) (by omega)
  generalize hS : fromS A i = S at *
  simp [e5, e23, la, hhq1, apart, hSF i hi', hSA, hS]
  refine At.dec (fun hSa => ?_) (fun hSa => ?_)
  · simp [e23]
    refine hN (i + 1) _ (by omega) ⟨by omega, ?_⟩
    simp [e1, e2, e5, e22, hnh, hhq, hhq1, wrap_nat1 (show i < _ by omega)]
    intro j hj
    by_cases hji : j = i
    · subst hji; rw [hS, hSa]
    · exact hall2 j (by omega)
  have hmi : mvF A n (2 ^ n - 1) n 0 = some i := by
    rw [mvF_skip hall2 (by omega : i ≤ n), show n - i = (n - (i + 1)) + 1 by omega]
    simp only [mvF]
    rw [if_neg (by rw [hS]; exact hSa)]
  rw [hmi] at hmv
  simp only [mvOut, hS] at hmv
  generalize hp : s.hs.nh = p
  have np : ¬ q = p := by omega
  have np1 : ¬ q + 1 = p := by omega
  simp [hp]
  refine At.loop (fun (k : Nat) s' => k ≤ n ∧ s'.env 2 = .ref q 0 ∧ s'.env 5 = .ref (q + 1) 0 ∧ s'.env 8 = .ref p 0 ∧ s'.env 9 = .int .i64 (k : Int) ∧ s'.env 10 = .fn (.func 56) [u16 S] [] ∧ s'.hs.heap q = some [.nilsl, .nilsl] ∧ s'.hs.heap (q + 1) = some [.int .i64 R.r, .int .i64 R.c, bb, .sl 1 (us A) .exact] ∧
    ∃ x0 x1, s'.hs.heap p = some [x0, x1] ∧ Outs 1 s'.hs x0 (ints (bits S 0 (min k r))) ∧ Outs 1 s'.hs x1 (ints (bits S r (k - r))) ∧ Apart x0 x1) (fun k => n - k) 0 ?_ ?_
  · simp [e2, e5, np, np1, hhq, hhq1, bits]
    exact ⟨.nilsl, .nilsl, ⟨rfl, rfl⟩, .nil, .nil, by simp⟩
  rintro N' k s' hN' ⟨hk, g2, g5, g8, g9, g10, gq, gq1, x0, x1, gp, o0, o1, a01⟩
  simp [g5, g9, fa, la, lpa, gq1, apart, hFl]
  refine At.dec (fun hlt3 => ?_) (fun hlt3 => ?_)
  rotate_left
  · have hkn : k = n := by omega
    subst hkn
    have hm1 : min k r = r := by omega
    have hm2 : k - r = c := by omega
    rw [hm1] at o0
    rw [hm2] at o1
    obtain ⟨c1, c2, c3⟩ := out_cells o0
    obtain ⟨d1, d2, d3⟩ := out_cells o1
    simp [g2, g8, la, gp, gq, apart, astore, sa, ca, setL, env_none, hmv, np]
    simp [AV.share, shareL, o0.sh, o1.sh]
  have hk' : k < n := by omega
  simp [g9, g10]
  refine At.hc (PCall.asF (p56 D18ok hfl (show k < 16 by omega)) _) ?_ ?_
  rotate_left
  · rintro v hs2 ⟨hv, _⟩; cases hv
  rintro v hs2 ⟨hv, rfl⟩
  injection hv with hv; subst hv
  have hrc : ((k : Int) < R.r) ↔ k < r := by omega
  have hw0 : ∀ w : Int, w = (if S.testBit k = true then 1 else 0) → (k < r → bits S 0 (min (k + 1) r) = bits S 0 (min k r) ++ [w] ∧ bits S r (k + 1 - r) = bits S r (k - r)) ∧ (¬ k < r → bits S 0 (min (k + 1) r) = bits S 0 (min k r) ∧ bits S r (k + 1 - r) = bits S r (k - r) ++ [w]) := by
    intro w hw
    constructor
    · intro hkr
      rw [show min (k + 1) r = k + 1 by omega, show min k r = k by omega, show k + 1 - r = k - r by omega, bits_succ, Nat.zero_add, hw]
      exact ⟨rfl, rfl⟩
    · intro hkr
      rw [show min (k + 1) r = min k r by omega, show k + 1 - r = (k - r) + 1 by omega, bits_succ, show r + (k - r) = k by omega, hw]
      exact ⟨rfl, rfl⟩
  have lenb : (bits S 0 (min k r)).length ≤ 1000000 ∧ (bits S r (k - r)).length ≤ 1000000 := by simp; omega
  cases hbit : S.testBit k with
  | true =>
    obtain ⟨b1, b2⟩ := hw0 1 (by simp [hbit])
    by_cases hkr : k < r
    · obtain ⟨y, hs3, q1, q2, q3, q4⟩ := add_apart o0 lenb.1 1
      obtain ⟨z1, z2⟩ := q4 o1 a01
      obtain ⟨c1, c2, c3⟩ := out_cells q2
      simp [g5, g8, g9, fa, la, lpa, gq1, apart, hrc, hkr, gp, astoAll, si, ci, q1, astore, q3.heap, c1, c2, setL, env_none]
      refine hN' (k + 1) _ (by omega) ⟨by omega, ?_⟩
      simp [g2, g5, g8, g10, np, np1, gq, gq1, wrap_nat1 (show k < _ by omega), env_none]
      rw [(b1 hkr).1, (b1 hkr).2]
      exact ⟨_, _, ⟨rfl, rfl⟩, q2.cong rfl rfl, z1.cong rfl rfl, z2⟩
    · obtain ⟨y, hs3, q1, q2, q3, q4⟩ := add_apart o1 lenb.2 1
      obtain ⟨z1, z2⟩ := q4 o0 a01.symm
      obtain ⟨c1, c2, c3⟩ := out_cells q2
      simp [g5, g8, g9, fa, la, lpa, gq1, apart, hrc, hkr, gp, astoAll, si, ci, q1, astore, q3.heap, c1, c2, setL, env_none]
      refine hN' (k + 1) _ (by omega) ⟨by omega, ?_⟩
      simp [g2, g5, g8, g10, np, np1, gq, gq1, wrap_nat1 (show k < _ by omega), env_none]
      rw [(b2 hkr).1, (b2 hkr).2]
      exact ⟨_, _, ⟨rfl, rfl⟩, z1.cong rfl rfl, q2.cong rfl rfl, z2.symm⟩
  | false =>
    obtain ⟨b1, b2⟩ := hw0 0 (by simp [hbit])
    by_cases hkr : k < r
    · obtain ⟨y, hs3, q1, q2, q3, q4⟩ := add_apart o0 lenb.1 0
      obtain ⟨z1, z2⟩ := q4 o1 a01
      obtain ⟨c1, c2, c3⟩ := out_cells q2
      simp [g5, g8, g9, fa, la, lpa, gq1, apart, hrc, hkr, gp, astoAll, si, ci, q1, astore, q3.heap, c1, c2, setL, env_none]
      refine hN' (k + 1) _ (by omega) ⟨by omega, ?_⟩
      simp [g2, g5, g8, g10, np, np1, gq, gq1, wrap_nat1 (show k < _ by omega), env_none]
      rw [(b1 hkr).1, (b1 hkr).2]
      exact ⟨_, _, ⟨rfl, rfl⟩, q2.cong rfl rfl, z1.cong rfl rfl, z2⟩
    · obtain ⟨y, hs3, q1, q2, q3, q4⟩ := add_apart o1 lenb.2 0
      obtain ⟨z1, z2⟩ := q4 o0 a01.symm
      obtain ⟨c1, c2, c3⟩ := out_cells q2
      simp [g5, g8, g9, fa, la, lpa, gq1, apart, hrc, hkr, gp, astoAll, si, ci, q1, astore, q3.heap, c1, c2, setL, env_none]
      refine hN' (k + 1) _ (by omega) ⟨by omega, ?_⟩
      simp [g2, g5, g8, g10, np, np1, gq, gq1, wrap_nat1 (show k < _ by omega), env_none]
      rw [(b2 hkr).1, (b2 hkr).2]
      exact ⟨_, _, ⟨rfl, rfl⟩, z1.cong rfl rfl, q2.cong rfl rfl, z2.symm⟩
end Go.Proofs.Ytecbbbocjmdfgaa
set_option linter.unusedVariables false
set_option linter.unusedSimpArgs false
namespace Go.Proofs.Ytecbbbocjmdfgaa
open Go Fw

@[simp] theorem D18_18' : D18 18 = SSm := id rfl
theorem from_bit {R : Rk} (h : OkR R) {i k : Nat} (hi : i < nR R) : (fromS (frF R (-1)).arr i).testBit k = true ↔ k < nR R ∧ Rt (Ed R) i k := by
  have hs := same_of h (-1) (R' := R) rfl rfl (fun x y => arrow_all)
  rw [hs.bit i hi k, rc_iff h hi]
  exact ⟨fun hr => ⟨hr.lt h hi, hr⟩, fun hr => hr.2⟩
theorem from_all {R : Rk} (h : OkR R) {i : Nat} (hi : i < nR R) : fromS (frF R (-1)).arr i = 2 ^ nR R - 1 ↔ ∀ k, k < nR R → Rt (Ed R) i k := by
  constructor
  · intro e k hk
    refine ((from_bit h hi).1 ?_).2
    rw [e, Nat.testBit_two_pow_sub_one]; simpa using hk
  · intro ha
    apply Nat.eq_of_testBit_eq
    intro k
    rw [Nat.testBit_two_pow_sub_one, Bool.eq_iff_iff, from_bit h hi]
    simp only [decide_eq_true_eq]
    exact ⟨fun h => h.1, fun hk => ⟨hk, ha k hk⟩⟩
theorem mvF_some {A : List Nat} {n all : Nat} : ∀ {m i j : Nat}, mvF A n all m i = some j → i ≤ j ∧ j < i + m ∧ fromS A j ≠ all
  | 0, i, j, h => by cases h
  | m + 1, i, j, h => by
    simp only [mvF] at h
    split at h
    · obtain ⟨h1, h2, h3⟩ := mvF_some h
      exact ⟨by omega, by omega, h3⟩
    · rename_i hne
      injection h with h
      subst h
      exact ⟨Nat.le_refl _, by omega, hne⟩
theorem mvF_none {A : List Nat} {n all : Nat} : ∀ {m i : Nat}, mvF A n all m i = none → ∀ j, i ≤ j → j < i + m → fromS A j = all
  | 0, i, h, j, h1, h2 => by omega
  | m + 1, i, h, j, h1, h2 => by
    simp only [mvF] at h
    split at h
    · rename_i he
      by_cases hji : j = i
      · subst hji; exact he
      · exact mvF_none h j (by omega) (by omega)
    · cases h
theorem stM_iff {R : Rk} (h : OkR R) : stM R = true ↔ ∀ i k, i < nR R → k < nR R → Rt (Ed R) i k := by
  have hn := pos_n h
  unfold stM
  rw [decide_eq_true_eq, one_of h]
  exact ⟨fun ha i k hi hk => (ha i hi).2.trans (ha k hk).1, fun ha k hk => ⟨ha 0 k hn hk, ha k 0 hk hn⟩⟩
theorem mv_none {R : Rk} (h : OkR R) : mvI R = none ↔ stM R = true := by
  rw [stM_iff h]
  constructor
  · intro hm i k hi hk
    exact (from_all h hi).1 (mvF_none hm i (by omega) (by omega)) k hk
  · intro ha
    cases hm : mvI R with
    | none => rfl
    | some j =>
      obtain ⟨h1, h2, h3⟩ := mvF_some hm
      exact absurd ((from_all h (by omega)).2 fun k hk => ha j k (by omega) hk) h3
/-- the error of Move -/
def loR (R : Rk) : Int := if chkR R = 0 then (if stM R = true then 14 else 0) else chkR R
theorem p47 {x : AV} {R : Rk} (hx : asR x = some R) : PCall Try.prog 47 [x] (.int .i64 (loR R)) := by
  obtain ⟨v1, v2, v3, v4, v5, v6, v7, v8⟩ := RkV.of hx
  refine PCall.of D18ok ok47 (by simp) rfl fun hs' hb => ?_
  by_cases h : chkR R = 0
  · have hsm : smV R = .tup [.bool (stM R), .int .i64 0] := by rw [smV, if_pos h]; rfl
    cases hst : stM R with
    | true => simp [A47, R47, v2, v3, SSm_i hx, hsm, hst, loR, h]
    | false => simp [A47, R47, v2, v3, SSm_i hx, hsm, hst, loR, h]
  · have hsm : smV R = .tup [.bool false, .int .i64 (chkR R)] := by rw [smV, if_neg h]
    simp [A47, R47, v2, v3, SSm_i hx, hsm, loR, h]
theorem bits_get {s f n i : Nat} (hi : i < n) : (bits s f n).getD i 0 = if s.testBit (f + i) = true then 1 else 0 := by
  rw [List.getD_eq_getElem?_getD, bits, List.getElem?_map, List.getElem?_range hi]; rfl
theorem bits_01 {s f n : Nat} {x : Int} (h : x ∈ bits s f n) : x = 0 ∨ x = 1 := by
  simp only [bits, List.mem_map, List.mem_range] at h
  obtain ⟨j, _, rfl⟩ := h
  split
  · exact .inr rfl
  · exact .inl rfl
theorem bits_app {s r c : Nat} : bits s 0 r ++ bits s r c = bits s 0 (r + c) := by
  apply List.ext_getElem?
  intro i
  rcases Nat.lt_or_ge i r with h | h
  · rw [List.getElem?_append_left (by simpa using h)]
    simp [bits, h, show i < r + c by omega]
  · rw [List.getElem?_append_right (by simpa using h)]
    simp only [bits_len]
    rcases Nat.lt_or_ge (i - r) c with h2 | h2
    · simp [bits, h2, show i < r + c by omega, show r + (i - r) = i by omega]
    · simp [bits, h2, show r + c ≤ i by omega]
/-- the motion of what can be reached keeps all braces -/
theorem mv_ok {R : Rk} (h : OkR R) (hc : chkR R = 0) {i : Nat} (hi : i < nR R) (hne : fromS (frF R (-1)).arr i ≠ 2 ^ nR R - 1) : vfR R (bits (fromS (frF R (-1)).arr i) 0 R.r.toNat) (bits (fromS (frF R (-1)).arr i) R.r.toNat R.c.toNat) = 0 := by
  have hr1 := h.r1
  have hc1 := h.c1
  have hbit := fun k => from_bit h (k := k) hi
  have hnn : nR R = R.r.toNat + R.c.toNat := rfl
  generalize fromS (frF R (-1)).arr i = S at *
  unfold vfR
  rw [if_pos hc, if_pos ⟨by simp; omega, by simp; omega⟩, if_pos, if_neg, if_neg]
  · rw [List.any_eq_true]
    rintro ⟨b, hb, hbk⟩
    obtain ⟨k1, k2, k3, k4, k5, k6⟩ := h.b b hb
    unfold brk at hbk
    rw [bits_get (by omega), bits_get (by omega), Nat.zero_add] at hbk
    simp only [Bool.or_eq_true, Bool.and_eq_true, decide_eq_true_eq] at hbk
    rcases hbk with ⟨g1, g2⟩ | ⟨g1, g2⟩
    · by_cases q : S.testBit b.1.toNat = true
      · have := ((hbit b.1.toNat).1 q).2.tail ⟨b, hb, .inl ⟨g1, rfl, rfl⟩⟩
        have := (hbit (R.r.toNat + b.2.1.toNat)).2 ⟨by omega, this⟩
        rw [if_pos q, if_pos this] at g2; omega
      · rw [if_neg q] at g2; split at g2 <;> omega
    · by_cases q : S.testBit (R.r.toNat + b.2.1.toNat) = true
      · have := ((hbit (R.r.toNat + b.2.1.toNat)).1 q).2.tail ⟨b, hb, .inr ⟨g1, rfl, rfl⟩⟩
        have := (hbit b.1.toNat).2 ⟨by omega, this⟩
        rw [if_pos q, if_pos this] at g2; omega
      · rw [if_neg q] at g2; split at g2 <;> omega
  · intro hae
    rw [bits_app] at hae
    unfold allEq at hae
    rw [List.all_eq_true] at hae
    have hg : ∀ k, k < nR R → (if S.testBit k = true then (1 : Int) else 0) = (if S.testBit 0 = true then 1 else 0) := by
      intro k hk
      have hm : (if S.testBit k = true then (1 : Int) else 0) ∈ bits S 0 (R.r.toNat + R.c.toNat) := by
        simp only [bits, List.mem_map, List.mem_range]
        exact ⟨k, by omega, by rw [Nat.zero_add]⟩
      have := hae _ hm
      rw [bits_get (by omega)] at this
      simpa using this
    have hii := (hbit i).2 ⟨hi, .refl i⟩
    apply hne
    apply Nat.eq_of_testBit_eq
    intro k
    rw [Nat.testBit_two_pow_sub_one, Bool.eq_iff_iff, decide_eq_true_eq]
    constructor
    · intro hk; exact ((hbit k).1 hk).1
    · intro hk
      have e1 := hg k hk
      have e2 := hg i hi
      rw [if_pos hii] at e2
      rw [← e2] at e1
      cases hb : S.testBit k with
      | true => rfl
      | false => rw [hb] at e1; simp at e1
  · rw [bits_app, List.all_eq_true]
    intro x hx
    rcases bits_01 hx with rfl | rfl <;> rfl
def SLo : List AV → Option AV
  | [x] => (asR x).map fun R => .int .i64 (loR R)
  | _ => none
theorem c47 : ∀ a r, SLo a = some r → PCall Try.prog 47 a r := by
  intro a r h
  unfold SLo at h
  split at h <;> (try (cases h; done))
  obtain ⟨R, h1, rfl⟩ := optmap_some h
  exact p47 h1
def SMv : List AV → Option AV
  | [x] => (asR x).map mvV
  | _ => none
theorem c46 : ∀ a r, SMv a = some r → PCall Try.prog 46 a r := by
  intro a r h
  unfold SMv at h
  split at h <;> (try (cases h; done))
  obtain ⟨R, h1, rfl⟩ := optmap_some h
  exact p46 h1
def SVf : List AV → Option AV
  | [x, m] => match asR x, asMo m with
    | some R, some p => if p.1.length + p.2.length ≤ 1000000 then some (.int .i64 (vfR R p.1 p.2)) else none
    | _, _ => none
  | _ => none
theorem SVf_i {x m : AV} {R : Rk} {p : List Int × List Int} (hx : asR x = some R) (hm : asMo m = some p) (hl : p.1.length + p.2.length ≤ 1000000) : SVf [x, m] = some (.int .i64 (vfR R p.1 p.2)) := by simp [SVf, hx, hm, hl]
theorem c40 : ∀ a r, SVf a = some r → PCall Try.prog 40 a r := by
  intro a r h
  unfold SVf at h
  split at h <;> (try (cases h; done))
  split at h <;> (try (cases h; done))
  split at h <;> (try (cases h; done))
  rename_i h1 h2 h3
  injection h with h; subst h
  exact p40 h1 h2 h3
theorem c48 : ∀ a r, SVf a = some r → PCall Try.prog 48 a r := by
  intro a r h
  unfold SVf at h
  split at h <;> (try (cases h; done))
  split at h <;> (try (cases h; done))
  split at h <;> (try (cases h; done))
  rename_i h1 h2 h3
  injection h with h; subst h
  exact p48 h1 h2 h3
def D23 : PCtx := ((((D18.add 46 SMv).add 47 SLo).add 40 SVf).add 48 SVf)
theorem D23ok : CtxOk Try.prog D23 := (((D18ok.add c46).add c47).add c40).add c48
@[simp] theorem D23_15 : D23 15 = SWk := id rfl
@[simp] theorem D23_40 : D23 40 = SVf := id rfl
@[simp] theorem D23_48 : D23 48 = SVf := id rfl
@[simp] theorem D23_46 : D23 46 = SMv := id rfl
@[simp] theorem D23_47 : D23 47 = SLo := id rfl
theorem p12 {x m : AV} {R : Rk} {p : List Int × List Int} (hx : asR x = some R) (hl60 : R.b.length ≤ 60) (hm : asMo m = some p) (hp1 : p.1.length ≤ 40) (hp2 : p.2.length ≤ 40) : PCall Try.prog 12 [x, m] (.bool true) := by
  obtain ⟨v1, v2, v3, v4, v5, v6, v7, v8⟩ := RkV.of hx
  obtain ⟨a, b, m1, m2, m3, m4, m5, m6, m7, m8, m9⟩ := MoV.of hm
  refine PCall.of D23ok ok12 (by simp) rfl fun hs' hb => ?_
  have g1 : ¬ ((60 : Int) < R.b.length) := by omega
  have g2 : ¬ ((40 : Int) < p.1.length) := by omega
  have g3 : ¬ ((40 : Int) < p.2.length) := by omega
  simp [A12, R12, v2, m2, v3, v6, v7, m4, m5, m6, m7, blen v8, alen_of m8, alen_of m9, g1, g2, g3]
  refine At.hc (p16 hx (by omega) _) ?_ ?_
  rotate_left
  · rintro v hs2 ⟨y, hv, _⟩; cases hv
  rintro v hs2 ⟨y, hv, ho, hext⟩
  injection hv with hv; subst hv
  have hg := asR_outs (r := R.r) (c := R.c) ho (by omega)
  obtain ⟨c1, c2, c3⟩ := out_cells ho
  have hV := SVf_i hx hm (by omega)
  have hV2 := SVf_i hg hm (by omega)
  have hMv : SMv [x] = some (mvV R) := by simp [SMv, hx]
  have hLo : SLo [.agg [.int .i64 R.r, .int .i64 R.c, y]] = some (.int .i64 (loR R)) := by simp [SLo, hg]
  generalize hq : hs2.nh = q
  have nq : ¬ q = q + 1 := by omega
  have nq2 : ¬ q + 1 = q := by omega
  have w00 : IntKind.i64.wrap 0 = 0 := wrap64 (by decide) (by decide)
  by_cases hc : chkR R = 0
  rotate_left
  · have h1 : mvV R = .tup [.agg [.nilsl, .nilsl], .int .i64 (chkR R)] := by rw [mvV, if_neg hc]
    have h2 : loR R = chkR R := by rw [loR, if_neg hc]
    rw [h1] at hMv
    rw [h2] at hLo
    simp [v3, m3, c1, c2, hq, nq, nq2, astore, sa, ca, setL, env_none, la, lpa, fa, apart, hMv, hLo, hV, hV2, hc, w00]
  obtain ⟨hok, hlen⟩ := chkR_zero.1 hc
  cases hmi : mvI R with
  | none =>
    have hst := (mv_none hok).1 hmi
    have h1 : mvV R = .tup [.agg [.nilsl, .nilsl], .int .i64 14] := by rw [mvV, if_pos hc, hmi]; rfl
    have h2 : loR R = 14 := by rw [loR, if_pos hc, if_pos hst]
    rw [h1] at hMv
    rw [h2] at hLo
    simp [v3, m3, c1, c2, hq, nq, nq2, astore, sa, ca, setL, env_none, la, lpa, fa, apart, hMv, hLo, hV, hV2, w00]
  | some i =>
    have hst : ¬ stM R = true := fun h => by rw [(mv_none hok).2 h] at hmi; cases hmi
    obtain ⟨_, hi, hne⟩ := mvF_some hmi
    rw [Nat.zero_add] at hi
    have hv0 := mv_ok hok hc hi hne
    have h1 : mvV R = .tup [.agg [outV 1 (ints (bits (fromS (frF R (-1)).arr i) 0 R.r.toNat)), outV 1 (ints (bits (fromS (frF R (-1)).arr i) R.r.toNat R.c.toNat))], .int .i64 0] := by rw [mvV, if_pos hc, hmi]; rfl
    have h2 : loR R = 0 := by rw [loR, if_pos hc, if_neg hst]
    have hr6 := hok.r6
    have hc6 := hok.c6
    generalize fromS (frF R (-1)).arr i = S at *
    have i1 := asI_outV (l := bits S 0 R.r.toNat) (by simp; omega)
    have i2 := asI_outV (l := bits S R.r.toNat R.c.toNat) (by simp; omega)
    have hV3 := SVf_i (m := .agg [outV 1 (ints (bits S 0 R.r.toNat)), outV 1 (ints (bits S R.r.toNat R.c.toNat))]) hg (p := (bits S 0 R.r.toNat, bits S R.r.toNat R.c.toNat)) (by simp [asMo, i1, i2]) (by simp; omega)
    have hb1 : ∀ k (h : k < (bits S 0 R.r.toNat).length), (bits S 0 R.r.toNat)[k] = 0 ∨ (bits S 0 R.r.toNat)[k] = 1 := fun k h => bits_01 (List.getElem_mem h)
    have hb2 : ∀ k (h : k < (bits S R.r.toNat R.c.toNat).length), (bits S R.r.toNat R.c.toNat)[k] = 0 ∨ (bits S R.r.toNat R.c.toNat)[k] = 1 := fun k h => bits_01 (List.getElem_mem h)
    have z1 : ∀ l : List Int, (outV 1 (ints l)).sto = true ∧ (outV 1 (ints l)).cells = [outV 1 (ints l)] := fun l => by cases l <;> exact ⟨rfl, rfl⟩
    rw [h1] at hMv
    rw [h2] at hLo
    simp only at hV3
    rw [hv0] at hV3
    generalize hLA : bits S 0 R.r.toNat = LA at *
    generalize hLB : bits S R.r.toNat R.c.toNat = LB at *
    have z1a := (z1 LA).1
    have z1b := (z1 LA).2
    have z2a := (z1 LB).1
    have z2b := (z1 LB).2
    have laA : LA.length ≤ 6 := by rw [← hLA]; simp; omega
    have laB : LB.length ≤ 6 := by rw [← hLB]; simp; omega
    generalize outV 1 (ints LA) = xa at *
    generalize outV 1 (ints LB) = xb at *
    simp [v3, m3, c1, c2, hq, nq, nq2, astore, sa, ca, setL, env_none, la, lpa, fa, apart, hMv, hLo, hV, hV2, z1a, z1b, z2a, z2b]
    refine At.loop (fun (k : Nat) s => k ≤ LA.length ∧ s.env 5 = .ref q 0 ∧ s.env 6 = .ref (q + 1) 0 ∧ s.env 9 = .int .i64 (k : Int) ∧ s.hs.heap q = some [.int .i64 R.r, .int .i64 R.c, y] ∧ s.hs.heap (q + 1) = some [xa, xb]) (fun k => LA.length - k) 0 ?_ ?_
    · simp [nq, nq2]
    rintro N k s hN ⟨hk, e5, e6, e9, hh1, hh2⟩
    simp [e6, e9, fa, la, lpa, hh2, apart, alen_of i1]
    refine At.dec (fun hlt => ?_) (fun hlt => ?_)
    · have hk' : k < LA.length := by omega
      have hi := aidx_nat i1 hk' (k := .i64)
      rcases hb1 k hk' with h01 | h01
      · rw [h01] at hi
        simp [e6, e9, fa, la, lpa, hh2, apart, hi]
        refine hN (k + 1) _ (by omega) ⟨by omega, ?_⟩
        simp [e5, e6, hh1, hh2, wrap_nat1 (show k < _ by omega)]
      · rw [h01] at hi
        simp [e6, e9, fa, la, lpa, hh2, apart, hi]
        refine hN (k + 1) _ (by omega) ⟨by omega, ?_⟩
        simp [e5, e6, hh1, hh2, wrap_nat1 (show k < _ by omega)]
    simp
    refine At.loop (fun (k : Nat) s => k ≤ LB.length ∧ s.env 5 = .ref q 0 ∧ s.env 6 = .ref (q + 1) 0 ∧ s.env 10 = .int .i64 (k : Int) ∧ s.hs.heap q = some [.int .i64 R.r, .int .i64 R.c, y] ∧ s.hs.heap (q + 1) = some [xa, xb]) (fun k => LB.length - k) 0 ?_ ?_
    · simp [e5, e6, hh1, hh2]
    rintro N2 k2 s2 hN2 ⟨hk2, f5, f6, f10, ii1, ii2⟩
    simp [f6, f10, fa, la, lpa, ii2, apart, alen_of i2]
    refine At.dec (fun hlt2 => ?_) (fun hlt2 => ?_)
    · have hk' : k2 < LB.length := by omega
      have hi := aidx_nat i2 hk' (k := .i64)
      rcases hb2 k2 hk' with h01 | h01
      · rw [h01] at hi
        simp [f6, f10, fa, la, lpa, ii2, apart, hi]
        refine hN2 (k2 + 1) _ (by omega) ⟨by omega, ?_⟩
        simp [f5, f6, ii1, ii2, wrap_nat1 (show k2 < _ by omega)]
      · rw [h01] at hi
        simp [f6, f10, fa, la, lpa, ii2, apart, hi]
        refine hN2 (k2 + 1) _ (by omega) ⟨by omega, ?_⟩
        simp [f5, f6, ii1, ii2, wrap_nat1 (show k2 < _ by omega)]
    simp [f5, f6, la, ii1, ii2, apart, hV3]
/-! motions as arguments -/
def TMo : Ty := .st (.fcons (.sl (.int .i64)) (.fcons (.sl (.int .i64)) .fnil))
/-- a list that is not too long, or one that is -/
def LI (a : AV) : Prop := (∃ l, asI a = some l ∧ l.length ≤ 40) ∨ ∃ l : List Int, a = .sl 1 (ints l) .shared ∧ 40 < l.length
theorem sh_sl1 {cs : List AV} (h : Sh (.sl (.int .i64)) cs) : ∃ a, cs = [a] ∧ LI a := by
  rcases (show cs = [.nilsl] ∨ ∃ xs, cs = [.sl (Ty.int .i64).size xs .shared] ∧ xs.length ≤ Go.maxLen ∧ ∀ x ∈ xs, ShV (.int .i64) x from h) with rfl | ⟨xs, rfl, hl, hx⟩
  · exact ⟨_, rfl, .inl ⟨[], rfl, by simp⟩⟩
  · have : ∀ xs : List AV, (∀ y ∈ xs, ShV (.int .i64) y) → ∃ l : List Int, xs = ints l := by
      intro xs
      induction xs with
      | nil => intro _; exact ⟨[], rfl⟩
      | cons y xs ih =>
        intro h
        obtain ⟨n, rfl, hn⟩ := shv_int (h y (by simp))
        obtain ⟨l, rfl⟩ := ih (fun z hz => h z (by simp [hz]))
        exact ⟨n :: l, rfl⟩
    obtain ⟨l, rfl⟩ := this xs hx
    refine ⟨_, rfl, ?_⟩
    rcases Nat.lt_or_ge 40 l.length with h' | h'
    · exact .inr ⟨l, rfl, h'⟩
    · exact .inl ⟨l, asI_sl (by omega), h'⟩
theorem motion_typed {x : AV} (h : ShV TMo x) : ∃ a b, x = .agg [a, b] ∧ LI a ∧ LI b := by
  obtain ⟨cs, rfl, h1⟩ := shv_agg rfl h
  obtain ⟨u, v, rfl, hu, hv⟩ := sh_cons (show Sh (.fcons _ _) cs from h1)
  obtain ⟨u2, v2, rfl, hu2, hv2⟩ := sh_cons hv
  rw [sh_nil hv2]
  obtain ⟨a, rfl, ha⟩ := sh_sl1 hu
  obtain ⟨b, rfl, hb⟩ := sh_sl1 hu2
  exact ⟨a, b, rfl, ha, hb⟩
theorem LI.ld {a : AV} (h : LI a) : (∀ h, aload h false 1 (.ptr a) = some a) ∧ ∃ n : Nat, alenK false a = some (.int .i64 (n : Int)) ∧ ((∃ l, asI a = some l ∧ l.length ≤ 40 ∧ n = l.length) ∨ 40 < n) := by
  rcases h with ⟨l, h1, h2⟩ | ⟨l, rfl, h2⟩
  · refine ⟨fun h => ?_, l.length, alen_of h1, .inl ⟨l, h1, h2, rfl⟩⟩
    rcases asI_inv h1 with ⟨rfl, _⟩ | ⟨c, rfl⟩ <;> rfl
  · exact ⟨fun _ => rfl, l.length, by simp, .inr h2⟩
theorem p12l {x a b rbx : AV} {r c : Int} {n0 n1 n2 : Nat} (hx : x = .agg [.int .i64 r, .int .i64 c, rbx]) (h0 : ∀ h, aload h false 1 (.ptr rbx) = some rbx) (l0 : alenK false rbx = some (.int .i64 (n0 : Int)))
    (h1 : ∀ h, aload h false 1 (.ptr a) = some a) (l1 : alenK false a = some (.int .i64 (n1 : Int))) (h2 : ∀ h, aload h false 1 (.ptr b) = some b) (l2 : alenK false b = some (.int .i64 (n2 : Int)))
    (hlong : 60 < n0 ∨ 40 < n1 ∨ 40 < n2) : PCall Try.prog 12 [x, .agg [a, b]] (.bool true) := by
  refine PCall.of D23ok ok12 (by simp) rfl fun hs' hb => ?_
  subst hx
  have s1 : (AV.agg [.int .i64 r, .int .i64 c, rbx]).sto = true := rfl
  have s2 : (AV.agg [a, b]).sto = true := rfl
  have f0 : afaddr false 1 2 (.ptr (.agg [.int .i64 r, .int .i64 c, rbx])) = some (.ptr rbx) := by simp
  have f1 : afaddr false 1 0 (.ptr (.agg [a, b])) = some (.ptr a) := by simp
  have f2 : afaddr false 1 1 (.ptr (.agg [a, b])) = some (.ptr b) := by simp
  by_cases g0 : (60 : Int) < n0
  · simp [A12, R12, s1, s2, f0, h0, l0, g0]
  · by_cases g1 : (40 : Int) < n1
    · simp [A12, R12, s1, s2, f0, h0, l0, g0, f1, h1, l1, g1]
    · have g2 : (40 : Int) < n2 := by omega
      simp [A12, R12, s1, s2, f0, h0, l0, g0, f1, h1, l1, g1, f2, h2, l2, g2]
theorem moves_typed (xs : List AV) (h : Typed [TRk, TMo] xs) : PCall Try.prog 12 xs (.bool true) := by
  obtain ⟨x, m, rfl, hx, hm⟩ := h.two
  obtain ⟨a, b, rfl, ha, hb⟩ := motion_typed hm
  obtain ⟨h1, n1, l1, c1⟩ := ha.ld
  obtain ⟨h2, n2, l2, c2⟩ := hb.ld
  rcases rack_typed hx with ⟨R, hR, hl⟩ | ⟨r, c, l, rfl, hl⟩
  · obtain ⟨v1, v2, v3, v4, v5, v6, v7, v8⟩ := RkV.of hR
    rcases c1 with ⟨la1, i1, j1, rfl⟩ | c1
    · rcases c2 with ⟨la2, i2, j2, rfl⟩ | c2
      · exact p12 hR hl (p := (la1, la2)) (by simp [asMo, i1, i2]) j1 j2
      · exact p12l v1 v7 (blen v8) h1 l1 h2 l2 (.inr (.inr c2))
    · exact p12l v1 v7 (blen v8) h1 l1 h2 l2 (.inr (.inl c1))
  · exact p12l (r := r) (c := c) (rbx := .sl 3 (brs l) .shared) (n0 := l.length) rfl (fun _ => rfl) (by simp) h1 l1 h2 l2 (.inl hl)
end Go.Proofs.Ytecbbbocjmdfgaa
set_option linter.unusedVariables false
set_option linter.unusedSimpArgs false
namespace Go.Proofs.Ytecbbbocjmdfgaa
open Go Fw

/-- a brace, with what was met -/
def jnS (r m : Nat) (b : Br) : Nat := if m &&& (2 ^ b.1.toNat ||| 2 ^ (r + b.2.1.toNat)) = 0 then m else m ||| (2 ^ b.1.toNat ||| 2 ^ (r + b.2.1.toNat))
def jnR (r : Nat) (l : List Br) (m : Nat) : Nat := l.foldl (jnS r) m
def jnN (r : Nat) (l : List Br) : Nat → Nat
  | 0 => 1
  | k + 1 => jnR r l (jnN r l k)
def joB (R : Rk) : Bool := decide (jnN R.r.toNat R.b (nR R) = 2 ^ nR R - 1)
theorem jnS_lt {r m : Nat} {b : Br} (hm : m < 4096) (h1 : b.1.toNat < 12) (h2 : r + b.2.1.toNat < 12) : jnS r m b < 4096 := by
  unfold jnS
  split
  · exact hm
  · refine Nat.or_lt_two_pow (n := 12) hm (Nat.or_lt_two_pow (n := 12) ?_ ?_)
    · exact Nat.pow_lt_pow_right (by decide) h1
    · exact Nat.pow_lt_pow_right (by decide) h2
theorem jnR_lt {R : Rk} (hok : OkR R) {m : Nat} (hm : m < 4096) : ∀ {l : List Br}, (∀ b ∈ l, b ∈ R.b) → jnR R.r.toNat l m < 4096 := by
  intro l
  induction l generalizing m with
  | nil => intro _; exact hm
  | cons b l ih =>
    intro h
    obtain ⟨k1, k2, k3, k4, _⟩ := hok.b b (h b (by simp))
    have := hok.r6
    have := hok.c6
    exact ih (jnS_lt hm (by omega) (by omega)) fun x hx => h x (by simp [hx])
theorem jnN_lt {R : Rk} (hok : OkR R) : ∀ k, jnN R.r.toNat R.b k < 4096
  | 0 => by simp [jnN]
  | k + 1 => jnR_lt hok (jnN_lt hok k) fun _ h => h
theorem jnR_snoc {r m : Nat} {l : List Br} {i : Nat} (hi : i < l.length) : jnR r (l.take (i + 1)) m = jnS r (jnR r (l.take i) m) l[i] := by
  rw [take_snoc hi, jnR, List.foldl_append]; rfl
theorem p44 {x : AV} {R : Rk} (hx : asR x = some R) (hok : OkR R) : PCall Try.prog 44 [x] (.bool (joB R)) := by
  obtain ⟨v1, v2, v3, v4, v5, v6, v7, v8⟩ := RkV.of hx
  refine PCall.of D18ok ok44 (by simp) rfl fun hs' hb => ?_
  have hlen := (asB_inv v8).2.2
  have hr1 := hok.r1
  have hr6 := hok.r6
  have hc1 := hok.c1
  have hc6 := hok.c6
  obtain ⟨n, hn⟩ : ∃ n : Nat, n = nR R := ⟨_, rfl⟩
  have hnn : nR R = R.r.toNat + R.c.toNat := rfl
  have hsum : IntKind.i64.wrap (R.r + R.c) = (n : Int) := by rw [wrap64 (by omega) (by omega)]; omega
  obtain ⟨r, hr⟩ : ∃ r : Nat, R.r = (r : Int) := ⟨R.r.toNat, by omega⟩
  have hjo : joB R = decide (jnN r R.b n = 2 ^ n - 1) := by rw [joB, ← hn, hr]; rfl
  have hJl := jnN_lt hok
  have hRl := fun {m : Nat} (hm : m < 4096) (i : Nat) => jnR_lt hok hm (l := R.b.take i) fun b hb => List.mem_of_mem_take hb
  rw [hr, Int.toNat_natCast] at hJl hRl
  rw [hjo]
  simp [A44, R44, v2, v4, v5, hsum]
  refine At.loop (fun (k : Nat) s => k ≤ n ∧ s.env 1 = .ptr x ∧ s.env 3 = .int .i64 (jnN r R.b k : Int) ∧ s.env 11 = .int .i64 (n : Int) ∧ s.env 12 = .int .i64 (k : Int)) (fun k => n - k) 0 (by simp [jnN]) ?_
  rintro N k s hN ⟨hk, e1, e3, e11, e12⟩
  simp [e11, e12]
  refine At.dec (fun hlt => ?_) (fun hlt => ?_)
  rotate_left
  · have hkn : k = n := by omega
    subst hkn
    obtain ⟨P, hP⟩ : ∃ P : Nat, P = 2 ^ k := ⟨_, rfl⟩
    have hPl : 1 ≤ P ∧ P ≤ 4096 := by
      rw [hP]
      exact ⟨Nat.one_le_two_pow, Nat.le_trans (Nat.pow_le_pow_right (by decide) (show k ≤ 12 by omega)) (by decide)⟩
    have sh := shl64 (kd := 0) (n := k) (k := .i64) (by omega)
    rw [← hP] at sh
    have w1 : IntKind.i64.wrap ((P : Int) - 1) = ((P - 1 : Nat) : Int) := by rw [wrap64 (by omega) (by omega)]; omega
    generalize jnN r R.b k = J at *
    simp [e1, e3, v4, v5, hsum, sh, w1]
    rw [← hP]
    norm_cast
  simp [e1, v6, v7, blen v8]
  have hJk := hJl k
  have hs1 : jnN r R.b (k + 1) = jnR r R.b (jnN r R.b k) := rfl
  generalize jnN r R.b k = J at *
  refine At.loop (fun (i : Nat) s => i ≤ R.b.length ∧ s.env 1 = .ptr x ∧ s.env 3 = .int .i64 (jnR r (R.b.take i) J : Int) ∧ s.env 11 = .int .i64 (n : Int) ∧ s.env 12 = .int .i64 (k : Int) ∧ s.env 15 = rb x ∧ s.env 16 = .int .i64 (R.b.length : Int) ∧ s.env 17 = .int .i64 (i : Int)) (fun i => R.b.length - i) 0 (by simp [e1, e3, e11, e12, jnR]) ?_
  rintro N2 i s2 hN2 ⟨hi, f1, f3, f11, f12, f15, f16, f17⟩
  simp [f16, f17]
  refine At.dec (fun hlt2 => ?_) (fun hlt2 => ?_)
  · have hi' : i < R.b.length := by omega
    obtain ⟨b, hbb⟩ : ∃ b, b = R.b[i] := ⟨_, rfl⟩
    obtain ⟨k1, k2, k3, k4, k5, k6⟩ : okB R.r R.c b := by rw [hbb]; exact hok.b _ (List.getElem_mem hi')
    obtain ⟨ρ, hρ⟩ : ∃ ρ : Nat, b.1 = (ρ : Int) := ⟨b.1.toNat, by omega⟩
    obtain ⟨κ, hκ⟩ : ∃ κ : Nat, b.2.1 = (κ : Int) := ⟨b.2.1.toNat, by omega⟩
    have hbi := bidx v8 hi' (k := .i64)
    rw [← hbb, hρ, hκ] at hbi
    have gl : ∀ h, aload h true 3 (.ptr (.agg [.int .i64 (ρ : Int), .int .i64 (κ : Int), .int .i64 b.2.2])) = some (.agg [.int .i64 (ρ : Int), .int .i64 (κ : Int), .int .i64 b.2.2]) := fun _ => rfl
    have sh1 := shl64 (kd := 0) (n := ρ) (k := .i64) (by omega)
    obtain ⟨τ, hτ⟩ : ∃ τ : Nat, τ = r + κ := ⟨_, rfl⟩
    have hws : IntKind.i64.wrap (R.r + (κ : Int)) = (τ : Int) := by rw [wrap64 (by omega) (by omega)]; omega
    have sh2 := shl64 (kd := 0) (n := τ) (k := .i64) (by omega)
    have hp1 : 2 ^ ρ < 4096 := Nat.pow_lt_pow_right (by decide) (show ρ < 12 by omega)
    have hp2 : 2 ^ τ < 4096 := Nat.pow_lt_pow_right (by decide) (show τ < 12 by omega)
    have hsn := jnR_snoc (r := r) (m := J) hi'
    have hst : jnS r (jnR r (R.b.take i) J) R.b[i] = if jnR r (R.b.take i) J &&& (2 ^ ρ ||| 2 ^ τ) = 0 then jnR r (R.b.take i) J else jnR r (R.b.take i) J ||| (2 ^ ρ ||| 2 ^ τ) := by
      rw [jnS, ← hbb, hρ, hκ, Int.toNat_natCast, Int.toNat_natCast, ← hτ]
    have hMl := hRl hJk i
    have ort := or64 (kd := 0) (a := 2 ^ ρ) (b := 2 ^ τ) (by omega) (by omega)
    have hTl : 2 ^ ρ ||| 2 ^ τ < 4096 := Nat.or_lt_two_pow (n := 12) hp1 hp2
    generalize 2 ^ ρ = P1 at *
    generalize 2 ^ τ = P2 at *
    generalize P1 ||| P2 = T at *
    generalize jnR r (R.b.take i) J = M at *
    have an := and64 (kd := 0) (a := M) (b := T) (by omega) (by omega)
    have om := or64 (kd := 0) (a := M) (b := T) (by omega) (by omega)
    simp [f1, f3, f15, f17, hbi, gl, v4, astore, sa, ca, setL, env_none, la, apart, fa, hws, sh1, sh2, ort, an]
    by_cases hz : M &&& T = 0
    · rw [if_pos hz] at hst
      simp [hz, f17]
      refine hN2 (i + 1) _ (by omega) ⟨by omega, ?_⟩
      simp [f1, f11, f12, f15, f16, wrap_nat1 (show i < _ by omega), f3]
      rw [hsn, hst]
    · rw [if_neg hz] at hst
      simp [hz, f3, f17, om]
      refine hN2 (i + 1) _ (by omega) ⟨by omega, ?_⟩
      simp [f1, f11, f12, f15, f16, wrap_nat1 (show i < _ by omega)]
      rw [hsn, hst]
  · have hiL : i = R.b.length := by omega
    subst hiL
    rw [List.take_length, ← hs1] at f3
    simp [f12]
    refine hN (k + 1) _ (by omega) ⟨by omega, ?_⟩
    simp [f1, f3, f11, wrap_nat1 (show k < _ by omega)]
end Go.Proofs.Ytecbbbocjmdfgaa
set_option linter.unusedVariables false
set_option linter.unusedSimpArgs false
namespace Go.Proofs.Ytecbbbocjmdfgaa
open Go Fw

/-- the squares of a set, among the first k -/
def sqK (n s : Nat) : Nat → List Br
  | 0 => []
  | k + 1 => if s.testBit k = true then sqK n s k ++ [(((k / n : Nat) : Int), ((k % n : Nat) : Int), 0)] else sqK n s k
theorem sqK_len {n s : Nat} : ∀ k, (sqK n s k).length ≤ k
  | 0 => by simp [sqK]
  | k + 1 => by
    have := sqK_len (n := n) (s := s) k
    simp only [sqK]
    split
    · simp; omega
    · omega
theorem sqK_ok {m n s : Nat} (hm : 1 ≤ m) (hm3 : m ≤ 3) (hn : 1 ≤ n) (hn3 : n ≤ 3) : ∀ {k}, k ≤ m * n → OkR ⟨m, n, sqK n s k⟩
  | 0, _ => ⟨by show (1 : Int) ≤ m; omega, by show (m : Int) ≤ 6; omega, by show (1 : Int) ≤ n; omega, by show (n : Int) ≤ 6; omega, by simp [sqK]⟩
  | k + 1, hk => by
    have ih := sqK_ok (s := s) hm hm3 hn hn3 (k := k) (by omega)
    simp only [sqK]
    split
    · refine ok_add (R := ⟨m, n, sqK n s k⟩) ih ?_
      have h1 : k / n < m := Nat.div_lt_of_lt_mul (by rw [Nat.mul_comm]; omega)
      have h2 : k % n < n := Nat.mod_lt _ (by omega)
      exact ⟨Int.natCast_nonneg _, by show ((k / n : Nat) : Int) < (m : Int); exact_mod_cast h1, Int.natCast_nonneg _, by show ((k % n : Nat) : Int) < (n : Int); exact_mod_cast h2, by show (0 : Int) ≤ 0; decide, by show (0 : Int) ≤ 2; decide⟩
    · exact ih
def wayT (m n s : Nat) (p : Nat × Nat) : Nat × Nat :=
  if joB ⟨m, n, sqK n s (m * n)⟩ = true then
    (if (sqK n s (m * n)).length < p.2 then (1, (sqK n s (m * n)).length) else if (sqK n s (m * n)).length = p.2 then (p.1 + 1, p.2) else p)
  else p
def wayS (m n : Nat) : Nat → Nat × Nat
  | 0 => (0, 100)
  | s + 1 => wayT m n s (wayS m n s)
theorem wayS_1 {m n : Nat} : ∀ s, (wayS m n s).1 ≤ s ∧ (wayS m n s).2 ≤ 100
  | 0 => by simp [wayS]
  | s + 1 => by
    obtain ⟨h1, h2⟩ := wayS_1 (m := m) (n := n) s
    simp only [wayS, wayT]
    split
    · split
      · exact ⟨by simp, by simp; omega⟩
      · split
        · exact ⟨by simp; omega, by simpa using h2⟩
        · exact ⟨by omega, h2⟩
    · exact ⟨by omega, h2⟩
theorem way_all : ∀ m, m < 3 → ∀ n, n < 3 → wayS (m + 1) (n + 1) (2 ^ ((m + 1) * (n + 1))) = (pm (m + 1) n (n + 1) m, m + n + 1) := by decide +kernel
def SJo : List AV → Option AV
  | [x] => (asR x).bind fun R => if OkR R then some (.bool (joB R)) else none
  | _ => none
theorem SJo_i {x : AV} {R : Rk} (hx : asR x = some R) (h : OkR R) : SJo [x] = some (.bool (joB R)) := by simp [SJo, hx, h]
theorem c44 : ∀ a r, SJo a = some r → PCall Try.prog 44 a r := by
  intro a r h
  unfold SJo at h
  split at h <;> (try (cases h; done))
  obtain ⟨R, h1, h2⟩ := Option.bind_eq_some_iff.1 h
  split at h2 <;> (try (cases h2; done))
  rename_i hok
  injection h2 with h2; subst h2
  exact p44 h1 hok
def D24 : PCtx := (D18.add 44 SJo).add 34 SWy
theorem D24ok : CtxOk Try.prog D24 := (D18ok.add c44).add c34
@[simp] theorem D24_15 : D24 15 = SWk := id rfl
@[simp] theorem D24_44 : D24 44 = SJo := id rfl
@[simp] theorem D24_34 : D24 34 = SWy := id rfl
structure WI (m n s : Nat) (t : AS) : Prop where
  le : s ≤ 2 ^ (m * n)
  e5 : t.env 5 = .int .i64 (m : Int)
  e6 : t.env 6 = .int .i64 (n : Int)
  e7 : t.env 7 = .int .i64 ((wayS m n s).1 : Int)
  e8 : t.env 8 = .int .i64 ((wayS m n s).2 : Int)
  e9 : t.env 9 = .int .i64 (s : Int)
structure WJ (m n s q k : Nat) (t : AS) : Prop where
  le : k ≤ m * n
  e5 : t.env 5 = .int .i64 (m : Int)
  e6 : t.env 6 = .int .i64 (n : Int)
  e7 : t.env 7 = .int .i64 ((wayS m n s).1 : Int)
  e8 : t.env 8 = .int .i64 ((wayS m n s).2 : Int)
  e9 : t.env 9 = .int .i64 (s : Int)
  e10 : t.env 10 = .ref q 0
  e11 : t.env 11 = .int .i64 (k : Int)
  ex : ∃ y, t.hs.heap q = some [.int .i64 (m : Int), .int .i64 (n : Int), y] ∧ Outs 3 t.hs y (brs (sqK n s k))
theorem mod3 {a : Int} (h0 : 0 ≤ a) : ∃ k : Nat, k < 3 ∧ a.tmod 3 = (k : Int) := ⟨(a % 3).toNat, by omega, by rw [Int.tmod_eq_emod_of_nonneg h0]; omega⟩
theorem p10 {a b : Int} (ha : 0 ≤ a) (ha2 : a ≤ 255) (hb : 0 ≤ b) (hb2 : b ≤ 255) : PCall Try.prog 10 [.int .u8 a, .int .u8 b] (.bool true) := by
  obtain ⟨m0, hm0, hma⟩ := mod3 ha
  obtain ⟨n0, hn0, hnb⟩ := mod3 hb
  refine PCall.of D24ok ok10 (by simp) rfl fun hs' hbb => ?_
  have r1 : abin 0 .rem (.int .i64 a) (.int .i64 3) = some (.int .i64 (m0 : Int)) := by rw [abin_rem (by decide), hma]
  have r2 : abin 0 .rem (.int .i64 b) (.int .i64 3) = some (.int .i64 (n0 : Int)) := by rw [abin_rem (by decide), hnb]
  have hway := way_all m0 hm0 n0 hn0
  obtain ⟨m, hm⟩ : ∃ m, m = m0 + 1 := ⟨_, rfl⟩
  obtain ⟨n, hn⟩ : ∃ n, n = n0 + 1 := ⟨_, rfl⟩
  have s1 : IntKind.i64.wrap (1 + (m0 : Int)) = (m : Int) := by rw [wrap64 (by omega) (by omega)]; omega
  have s2 : IntKind.i64.wrap (1 + (n0 : Int)) = (n : Int) := by rw [wrap64 (by omega) (by omega)]; omega
  simp [A10, R10, wrap8 ha ha2, wrap8 hb hb2, r1, r2, s1, s2]
  rw [← hm, ← hn] at hway
  have hmn9 : m * n ≤ 9 := Nat.mul_le_mul (show m ≤ 3 by omega) (show n ≤ 3 by omega)
  have hw := fun s => wayS_1 (m := m) (n := n) s
  refine At.loop (fun (s : Nat) t => WI m n s t) (fun s => 2 ^ (m * n) - s) 0 ⟨Nat.zero_le _, by simp, by simp, by simp [wayS], by simp [wayS], by simp⟩ ?_
  rintro N s t hN ⟨hs, e5, e6, e7, e8, e9⟩
  obtain ⟨p, hp⟩ : ∃ p : Nat, p = m * n := ⟨_, rfl⟩
  have hmul : IntKind.i64.wrap ((m : Int) * (n : Int)) = (p : Int) := by rw [← Int.natCast_mul, ← hp, wrap64 (by omega) (by omega)]
  have hP512 : 2 ^ p ≤ 512 := Nat.le_trans (Nat.pow_le_pow_right (by decide) (show p ≤ 9 by omega)) (by decide)
  have sh := shl64 (kd := 0) (n := p) (k := .i64) (by omega)
  rw [← hp] at hs hway hN
  have hws := hw s
  obtain ⟨P, hP⟩ : ∃ P : Nat, P = 2 ^ p := ⟨_, rfl⟩
  rw [← hP] at sh hs hway hP512 hN
  simp [e5, e6, e9, hmul, sh]
  refine At.dec (fun hlt => ?_) (fun hlt => ?_)
  rotate_left
  · have hsP : s = P := by omega
    subst hsP
    rw [hway] at e7 e8
    have y1 : SWy [.int .i64 (m : Int), .int .i64 (n : Int)] = some (.tup [.int .i64 (pm m n0 n m0 : Int), .int .i64 0]) := by
      have : btw 1 (m : Int) 6 = true ∧ btw 1 (n : Int) 6 = true := by unfold btw; simp; omega
      simp [SWy, wyV, this.1, this.2]
      rw [show n - 1 = n0 by omega, show m - 1 = m0 by omega]
    have y2 : SWy [.int .i64 (n : Int), .int .i64 (m : Int)] = some (.tup [.int .i64 (pm m n0 n m0 : Int), .int .i64 0]) := by
      have : btw 1 (m : Int) 6 = true ∧ btw 1 (n : Int) 6 = true := by unfold btw; simp; omega
      simp [SWy, wyV, this.1, this.2]
      rw [show n - 1 = n0 by omega, show m - 1 = m0 by omega]
      simp only [pm, Nat.mul_comm]
    have w1 : IntKind.i64.wrap ((m : Int) + (n : Int)) = (m : Int) + (n : Int) := wrap64 (by omega) (by omega)
    have w2 : IntKind.i64.wrap ((m : Int) + (n : Int) - 1) = ((m0 + n : Nat) : Int) := by rw [wrap64 (by omega) (by omega)]; omega
    generalize (pm m n0 n m0) = W at *
    have hmn : m0 + n0 + 1 = m0 + n := by omega
    rw [hmn] at e8
    generalize hM : m0 + n = M at *
    simp [e5, e6, e7, e8, y1, y2, w1, w2]
  have hsl : s < P := by omega
  simp [e5, e6, afill, si, ci, sa, ca, setL, astore, env_none]
  generalize hq : t.hs.nh = q
  refine At.loop (fun (k : Nat) t => WJ m n s q k t) (fun k => m * n - k) 0 ?_ ?_
  · refine ⟨Nat.zero_le _, by simp [e5], by simp [e6], by simp [e7], by simp [e8], by simp [e9], by simp [hq], by simp, .nilsl, by simp, ?_⟩
    exact .nil
  rintro N2 k t2 hN2 ⟨hk, f5, f6, f7, f8, f9, f10, f11, y, hy, ho⟩
  rw [← hp] at hk hN2
  simp [f5, f6, f11, hmul]
  refine At.dec (fun hlt2 => ?_) (fun hlt2 => ?_)
  · have hk' : k < p := by omega
    have sr := shr64 (kd := 0) (a := s) (n := k) (k := .i64) (by omega)
    have an := and64 (kd := 0) (a := s / 2 ^ k) (b := 1) (by have := Nat.div_le_self s (2 ^ k); omega) (by decide)
    rw [bit64] at an
    have hsk : sqK n s (k + 1) = if s.testBit k = true then sqK n s k ++ [(((k / n : Nat) : Int), ((k % n : Nat) : Int), 0)] else sqK n s k := rfl
    have qu := quo64 (kd := 0) (a := k) (b := n) (by omega) (by omega)
    have re := rem64 (kd := 0) (k := .i64) (a := k) (b := n) (by omega)
    rw [Int.natCast_one] at an
    generalize s / 2 ^ k = S2 at *
    generalize k / n = KQ at *
    generalize k % n = KR at *
    cases hbit : s.testBit k with
    | false =>
      rw [hbit, if_neg (by decide)] at hsk
      rw [hbit] at an
      simp only [Bool.toNat_false, Int.natCast_zero] at an
      simp [f9, f11, sr, an]
      refine hN2 (k + 1) _ (by omega) ⟨by omega, by simp [f5], by simp [f6], by simp [f7], by simp [f8], by simp [f9], by simp [f10], by simp [wrap_nat1 (show k < _ by omega)], y, by simp [hy], ?_⟩
      rw [hsk]; exact ho
    | true =>
      rw [hbit, if_pos rfl] at hsk
      rw [hbit] at an
      simp only [Bool.toNat_true, Int.natCast_one] at an
      have hlen := sqK_len (n := n) (s := s) k
      obtain ⟨y2, hs2, b1, b2, b3⟩ := append_outs ho (q := .sl 3 [.agg [.int .i64 (KQ : Int), .int .i64 (KR : Int), .int .i64 0]] .exact) (ys := [.agg [.int .i64 (KQ : Int), .int .i64 (KR : Int), .int .i64 0]]) (asV_sl (by simp)) (by simp; omega)
      obtain ⟨c1, c2, c3⟩ := out_cells b2
      simp [f6, f9, f10, f11, sr, an, fa, la, lpa, hy, apart, qu, re, afill, si, ci, sa, ca, setL, astoAll, b1, astore, b3.heap, c1, c2, env_none]
      refine hN2 (k + 1) _ (by omega) ⟨by omega, by simp [f5], by simp [f6], by simp [f7], by simp [f8], by simp [f9], by simp [f10], by simp [wrap_nat1 (show k < _ by omega)], y2, by simp, ?_⟩
      rw [hsk]
      have := b2.cong (hs' := { heap := fun k => if k = q then some [.int .i64 (m : Int), .int .i64 (n : Int), y2] else t2.hs.heap k, nh := hs2.nh, nt := hs2.nt, tok := hs2.tok }) rfl rfl
      simpa [brs] using this
  have hkp : k = p := by omega
  subst hkp
  have hlen := sqK_len (n := n) (s := s) k
  have hok := sqK_ok (s := s) (m := m) (n := n) (k := k) (by omega) (by omega) (by omega) (by omega) (by omega)
  have hy3 := asB_outs ho (by omega)
  have hR := asR_mk (r := (m : Int)) (c := (n : Int)) hy3
  have hJ := SJo_i hR hok
  have hws1 : wayS m n (s + 1) = wayT m n s (wayS m n s) := rfl
  have hwT : wayT m n s (wayS m n s) = if joB ⟨m, n, sqK n s k⟩ = true then (if (sqK n s k).length < (wayS m n s).2 then (1, (sqK n s k).length) else if (sqK n s k).length = (wayS m n s).2 then ((wayS m n s).1 + 1, (wayS m n s).2) else wayS m n s) else wayS m n s := by
    unfold wayT
    rw [← hp]
  rw [hwT] at hws1
  have hbl := blen hy3
  have hly : ∀ h, aload h false 1 (.ptr y) = some y := by
    intro h
    rcases (asB_inv hy3).2.1 with ⟨e, _⟩ | ⟨c, e⟩ <;> rw [e] <;> rfl
  generalize joB ⟨m, n, sqK n s k⟩ = JB at *
  generalize (sqK n s k).length = LL at *
  generalize hWW : wayS m n s = WW at *
  cases JB with
  | false =>
    rw [if_neg (by decide)] at hws1
    simp [f10, la, hy, apart, hJ, f9]
    refine hN (s + 1) _ (by omega) ⟨by rw [← hp, ← hP]; omega, by simp [f5], by simp [f6], by simp [f7, hws1], by simp [f8, hws1], by simp [wrap_nat1 (show s < _ by omega)]⟩
  | true =>
    rw [if_pos rfl] at hws1
    by_cases h1 : LL < WW.2
    · rw [if_pos h1] at hws1
      have h1' : ((LL : Int) < (WW.2 : Int)) := by omega
      simp [f8, f9, f10, fa, la, lpa, hy, apart, hJ, hbl, h1]
      refine hN (s + 1) _ (by omega) ⟨by rw [← hp, ← hP]; omega, by simp [f5], by simp [f6], by simp [hws1]; exact wrap64 (by decide) (by decide), by simp [hws1], by simp [wrap_nat1 (show s < _ by omega)]⟩
    · rw [if_neg h1] at hws1
      by_cases h2 : LL = WW.2
      · rw [if_pos h2] at hws1
        have hw1 : IntKind.i64.wrap ((WW.1 : Int) + 1) = ((WW.1 + 1 : Nat) : Int) := by rw [wrap64 (by omega) (by omega)]; omega
        simp [f7, f8, f9, f10, fa, la, lpa, hy, apart, hJ, hbl, h2, hw1]
        refine hN (s + 1) _ (by omega) ⟨by rw [← hp, ← hP]; omega, by simp [f5], by simp [f6], by simp [hws1], by simp [f8, hws1], by simp [wrap_nat1 (show s < _ by omega)]⟩
      · rw [if_neg h2] at hws1
        have h2' : ¬ ((LL : Int) = (WW.2 : Int)) := by omega
        simp [f8, f9, f10, fa, la, lpa, hy, apart, hJ, hbl, h1, h2']
        refine hN (s + 1) _ (by omega) ⟨by rw [← hp, ← hP]; omega, by simp [f5], by simp [f6], by simp [f7, hws1], by simp [f8, hws1], by simp [wrap_nat1 (show s < _ by omega)]⟩
theorem ways_typed (xs : List AV) (h : Typed [.int .u8, .int .u8] xs) : PCall Try.prog 10 xs (.bool true) := by
  obtain ⟨x, y, rfl, hx, hy⟩ := h.two
  obtain ⟨a, rfl, ha⟩ := shv_int hx
  obtain ⟨b, rfl, hb⟩ := shv_int hy
  obtain ⟨a1, a2⟩ := u8_bd ha
  obtain ⟨b1, b2⟩ := u8_bd hb
  exact p10 a1 a2 b1 b2
end Go.Proofs.Ytecbbbocjmdfgaa
