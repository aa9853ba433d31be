/-
  The chapter's examples. Own work.
-/
import Derived.Test.YtnmpdegnpaggkaaChp
set_option linter.unusedVariables false
set_option linter.unusedSimpArgs false
namespace Go.Proofs.Ytnmpdegnpaggkaa
open Go Fw

def SInt1 (f : Int → AV) : List AV → Option AV
  | [.int .i64 n] => some (f n)
  | _ => none
theorem cInt1 {g : FuncId} {f : Int → AV} (h : ∀ n, PCall Try.prog g [.int .i64 n] (f n)) : ∀ a r, SInt1 f a = some r → PCall Try.prog g a r := by
  intro a r e
  unfold SInt1 at e
  split at e <;> (try (cases e; done))
  injection e with e; subst e
  exact h _
def SWithout : List AV → Option AV
  | [.int .i64 n, y] => (asI y).map fun sp => withoutR n sp
  | _ => none
theorem c34 : ∀ a r, SWithout a = some r → PCall Try.prog 34 a r := by
  intro a r h
  unfold SWithout at h
  split at h <;> (try (cases h; done))
  obtain ⟨l, hl, rfl⟩ := optmap_some h
  exact p34 _ hl
theorem c35 : ∀ a r, SWithout a = some r → PCall Try.prog 35 a r := by
  intro a r h
  unfold SWithout at h
  split at h <;> (try (cases h; done))
  obtain ⟨l, hl, rfl⟩ := optmap_some h
  exact p35 _ hl
def SPrice (f : Int → Int → Int → AV) : List AV → Option AV
  | [.int .i64 n, .agg [.int .i64 s, .int .i64 t]] => some (f n s t)
  | _ => none
theorem cPrice {g : FuncId} {f : Int → Int → Int → AV} (h : ∀ n s t, PCall Try.prog g [.int .i64 n, .agg [.int .i64 s, .int .i64 t]] (f n s t)) : ∀ a r, SPrice f a = some r → PCall Try.prog g a r := by
  intro a r e
  unfold SPrice at e
  split at e <;> (try (cases e; done))
  injection e with e; subst e
  exact h _ _ _
def D17 : PCtx := (((((((((((D16.add 24 SDist).add 26 SChain).add 28 (SInt1 countR)).add 29 (SInt1 countR)).add 30 (SInt1 inrowP)).add 31 (SInt1 inrowR)).add 32 (SInt1 reachR)).add 33 (SInt1 reachR)).add 34 SWithout).add 35 SWithout).add 38 (SPrice cheapR)).add 39 (SPrice leastR)
theorem D17ok : CtxOk Try.prog D17 := (((((((((((D16ok.add c24).add c26).add (cInt1 p28)).add (cInt1 p29)).add (cInt1 p30)).add (cInt1 p31)).add (cInt1 p32)).add (cInt1 p33)).add c34).add c35).add (cPrice p38)).add (cPrice p39)
@[simp] theorem D17_23 : D17 23 = SDist := id rfl
@[simp] theorem D17_24 : D17 24 = SDist := id rfl
@[simp] theorem D17_25 : D17 25 = SChain := id rfl
@[simp] theorem D17_26 : D17 26 = SChain := id rfl
@[simp] theorem D17_28 : D17 28 = SInt1 countR := id rfl
@[simp] theorem D17_29 : D17 29 = SInt1 countR := id rfl
@[simp] theorem D17_30 : D17 30 = SInt1 inrowP := id rfl
@[simp] theorem D17_31 : D17 31 = SInt1 inrowR := id rfl
@[simp] theorem D17_32 : D17 32 = SInt1 reachR := id rfl
@[simp] theorem D17_33 : D17 33 = SInt1 reachR := id rfl
@[simp] theorem D17_34 : D17 34 = SWithout := id rfl
@[simp] theorem D17_35 : D17 35 = SWithout := id rfl
@[simp] theorem D17_38 : D17 38 = SPrice cheapR := id rfl
@[simp] theorem D17_39 : D17 39 = SPrice leastR := id rfl
@[simp] theorem D17_42 : D17 42 = S42 := id rfl
@[simp] theorem D17_16 : D17 16 = SWays := id rfl
@[simp] theorem D17_17 : D17 17 = SWays := id rfl
@[simp] theorem D17_18 : D17 18 = SRow := id rfl
@[simp] theorem D17_19 : D17 19 = SRow := id rfl
@[simp] theorem D17_20 : D17 20 = S20 := id rfl
@[simp] theorem D17_21 : D17 21 = SChk := id rfl
@[simp] theorem D17_22 : D17 22 = SChk := id rfl
@[simp] theorem D17_27 : D17 27 = S27 := id rfl
@[simp] theorem D17_36 : D17 36 = SCost := id rfl
@[simp] theorem D17_37 : D17 37 = SCost := id rfl

theorem w1 : (hdL 23 []).length = 7 := by decide +kernel
theorem w2 : hdL 15 [] = [1, 2, 3, 5, 10, 15] := by decide +kernel
theorem w3 : waysP [1, 2, 3, 6, 7] = [(0, 0), (1, 0), (2, 2), (3, 0)] ∧ chk [1, 2, 3, 6, 7] = 0 := by decide +kernel
theorem w4 : rowB [1, 2, 4, 5, 8] = false ∧ chk [1, 2, 4, 5, 8] = 0 := by decide +kernel
theorem w5 : reachTo 3 46 = [1, 2, 3, 4, 5, 6, 8] := by decide +kernel
theorem w6 : (shL 7 []).length = 5 := by decide +kernel
theorem w7 : hdL 7 [3] = [1, 2, 4, 5, 7] ∧ (shL 7 [3]).length ≠ 0 := by decide +kernel
theorem w8 : (shL 7 [2]).length = 0 := by decide +kernel
theorem w9 : costL 1 5 [1, 2, 4, 8] = 3 ∧ chk [1, 2, 4, 8] = 0 := by decide +kernel
theorem w10 : boV (bestAll 8 1 5) = 3 := by decide +kernel
theorem w11 : (fstK 7 [] true).map (fun k => (visL 7 [] true k [1]).headD []) = some [1, 2, 3, 4, 7] := by decide +kernel
theorem w12 : chk [1, 2, 5] = 13 := by decide +kernel

theorem v1 : distR 23 = .tup [.int .i64 6, .int .i64 0] := by simp [distR, w1, btw]
theorem v2 : chainR 15 = .tup [chV [1, 2, 3, 5, 10, 15], .int .i64 0] := by simp [chainR, w2, btw]
theorem v3 : waysR [1, 2, 3, 6, 7] = .tup [.sl 2 [.agg [.int .i64 0, .int .i64 0], .agg [.int .i64 1, .int .i64 0], .agg [.int .i64 2, .int .i64 2], .agg [.int .i64 3, .int .i64 0]] .shared, .int .i64 0] := by simp [waysR, w3, outV]
theorem v4 : rowR [1, 2, 4, 5, 8] = .tup [.bool false, .int .i64 0] := by simp [rowR, w4]
theorem v5 : reachR 3 = .tup [.sl 1 (ints [1, 2, 3, 4, 5, 6, 8]) .shared, .int .i64 0] := by simp [reachR, w5, btw, outV]
theorem v6 : countR 7 = .tup [.int .i64 5, .int .i64 0] := by simp [countR, w6, btw]
theorem v7 : withoutR 7 [3] = .tup [chV [1, 2, 4, 5, 7], .int .i64 0] := by
  unfold withoutR
  rw [if_pos (by decide), if_neg (by decide), if_neg w7.2, w7.1]
theorem v8 : withoutR 7 [2] = .tup [.nilsl, .int .i64 14] := by
  unfold withoutR
  rw [if_pos (by decide), if_neg (by decide), if_pos w8]
theorem v9 : costR 1 5 [1, 2, 4, 8] = .tup [.int .i64 3, .int .i64 0] := by simp [costR, w9, goodP, btw]
theorem v10 : cheapR 8 1 5 = .tup [boC (bestAll 8 1 5), .int .i64 3, .int .i64 0] := by simp [cheapR, w10, goodP, btw]
theorem v11 : inrowP 7 = .tup [chV [1, 2, 3, 4, 7], .int .i64 0] := by
  have h := w11
  unfold inrowP
  rw [if_pos (by decide)]
  unfold fstV
  rw [if_neg (by simp)]
  cases hk : fstK 7 [] true with
  | none => rw [hk] at h; cases h
  | some k =>
    rw [hk] at h
    simp only [Option.map_some, Option.some.injEq] at h
    simp only [h]
theorem u1 : asI (.sl 1 [.int .i64 1, .int .i64 2, .int .i64 3, .int .i64 6, .int .i64 7] .exact) = some [1, 2, 3, 6, 7] := by decide
theorem s1 : S42 [.sl 1 [.int .i64 1, .int .i64 2, .int .i64 3, .int .i64 6, .int .i64 7] .exact] = some (.sl 1 [.int .i64 1, .int .i64 2, .int .i64 3, .int .i64 6, .int .i64 7] .exact) := rfl
theorem u2 : asI (.sl 1 [.int .i64 1, .int .i64 2, .int .i64 4, .int .i64 5, .int .i64 8] .exact) = some [1, 2, 4, 5, 8] := by decide
theorem s2 : S42 [.sl 1 [.int .i64 1, .int .i64 2, .int .i64 4, .int .i64 5, .int .i64 8] .exact] = some (.sl 1 [.int .i64 1, .int .i64 2, .int .i64 4, .int .i64 5, .int .i64 8] .exact) := rfl
theorem u3 : asI (.sl 1 [.int .i64 3] .exact) = some [3] := by decide
theorem s3 : S42 [.sl 1 [.int .i64 3] .exact] = some (.sl 1 [.int .i64 3] .exact) := rfl
theorem u4 : asI (.sl 1 [.int .i64 2] .exact) = some [2] := by decide
theorem s4 : S42 [.sl 1 [.int .i64 2] .exact] = some (.sl 1 [.int .i64 2] .exact) := rfl
theorem u5 : asI (.sl 1 [.int .i64 1, .int .i64 2, .int .i64 4, .int .i64 8] .exact) = some [1, 2, 4, 8] := by decide
theorem s5 : S42 [.sl 1 [.int .i64 1, .int .i64 2, .int .i64 4, .int .i64 8] .exact] = some (.sl 1 [.int .i64 1, .int .i64 2, .int .i64 4, .int .i64 8] .exact) := rfl
theorem u6 : asI (.sl 1 [.int .i64 1, .int .i64 2, .int .i64 3, .int .i64 5, .int .i64 10, .int .i64 15] .exact) = some [1, 2, 3, 5, 10, 15] := by decide
theorem s6 : S42 [.sl 1 [.int .i64 1, .int .i64 2, .int .i64 3, .int .i64 5, .int .i64 10, .int .i64 15] .exact] = some (.sl 1 [.int .i64 1, .int .i64 2, .int .i64 3, .int .i64 5, .int .i64 10, .int .i64 15] .exact) := rfl
theorem u7 : asI (.sl 1 [.int .i64 1, .int .i64 2, .int .i64 3, .int .i64 4, .int .i64 5, .int .i64 6, .int .i64 8] .exact) = some [1, 2, 3, 4, 5, 6, 8] := by decide
theorem s7 : S42 [.sl 1 [.int .i64 1, .int .i64 2, .int .i64 3, .int .i64 4, .int .i64 5, .int .i64 6, .int .i64 8] .exact] = some (.sl 1 [.int .i64 1, .int .i64 2, .int .i64 3, .int .i64 4, .int .i64 5, .int .i64 6, .int .i64 8] .exact) := rfl
theorem u8 : asI (.sl 1 [.int .i64 1, .int .i64 2, .int .i64 4, .int .i64 5, .int .i64 7] .exact) = some [1, 2, 4, 5, 7] := by decide
theorem s8 : S42 [.sl 1 [.int .i64 1, .int .i64 2, .int .i64 4, .int .i64 5, .int .i64 7] .exact] = some (.sl 1 [.int .i64 1, .int .i64 2, .int .i64 4, .int .i64 5, .int .i64 7] .exact) := rfl
theorem u9 : asI (.sl 1 [.int .i64 1, .int .i64 2, .int .i64 3, .int .i64 4, .int .i64 7] .exact) = some [1, 2, 3, 4, 7] := by decide
theorem s9 : S42 [.sl 1 [.int .i64 1, .int .i64 2, .int .i64 3, .int .i64 4, .int .i64 7] .exact] = some (.sl 1 [.int .i64 1, .int .i64 2, .int .i64 3, .int .i64 4, .int .i64 7] .exact) := rfl
theorem u10 : asI (.sl 1 [.int .i64 1, .int .i64 2, .int .i64 5] .exact) = some [1, 2, 5] := by decide
theorem s10 : S42 [.sl 1 [.int .i64 1, .int .i64 2, .int .i64 5] .exact] = some (.sl 1 [.int .i64 1, .int .i64 2, .int .i64 5] .exact) := rfl
set_option maxRecDepth 100000 in
theorem p15 : PCall Try.prog 15 [] (.bool true) := by
  refine PCall.of D17ok ok15 (by simp) rfl fun hs' hb => ?_
  have a2 : asI (chV [1, 2, 3, 5, 10, 15]) = some [1, 2, 3, 5, 10, 15] := asI_chV (by simp)
  have a7 : asI (chV [1, 2, 4, 5, 7]) = some [1, 2, 4, 5, 7] := asI_chV (by simp)
  have a11 : asI (chV [1, 2, 3, 4, 7]) = some [1, 2, 3, 4, 7] := asI_chV (by simp)
  have a5 : asI (.sl 1 [.int .i64 1, .int .i64 2, .int .i64 3, .int .i64 4, .int .i64 5, .int .i64 6, .int .i64 8] .shared) = some [1, 2, 3, 4, 5, 6, 8] := by decide
  have hp : S20 [.sl 2 [.agg [.int .i64 0, .int .i64 0], .agg [.int .i64 1, .int .i64 0], .agg [.int .i64 2, .int .i64 2], .agg [.int .i64 3, .int .i64 0]] .shared, .sl 2 [.agg [.int .i64 0, .int .i64 0], .agg [.int .i64 1, .int .i64 0], .agg [.int .i64 2, .int .i64 2], .agg [.int .i64 3, .int .i64 0]] .exact] = some (.bool true) := by
    simp [S20, asV, dePrs]
  simp only [A15, R15]
  simp [astoAll, AV.cells, SDist, SChain, SWays, SRow, SInt1, SWithout, SCost, SPrice, SChk, v1, v2, v3, v4, v5, v6, v7, v8, v9, v10, v11, s1, s2, s3, s4, s5, s6, s7, s8, s9, s10, u1, u2, u3, u4, u5, u6, u7, u8, u9, u10, hp, w12, S27, a2, a5, a7, a11]
end Go.Proofs.Ytnmpdegnpaggkaa
