/-
  What is reached, and the cheapest chain. Own work.
-/
import Derived.Test.YtnmpdegnpaggkaaPrg
set_option linter.unusedVariables false
set_option linter.unusedSimpArgs false
namespace Go.Proofs.Ytnmpdegnpaggkaa
open Go Fw

theorem firstK_min {f : Nat → Bool} : ∀ {m k r}, firstK f m k = some r → ∀ j, k ≤ j → j < r → f j = false
  | 0, k, r, h, j, h1, h2 => by cases h
  | m + 1, k, r, h, j, h1, h2 => by
    simp only [firstK] at h
    split at h
    · injection h with h; omega
    · rename_i hf
      rcases Nat.lt_or_ge k j with h' | h'
      · exact firstK_min h j (by omega) h2
      · have : j = k := by omega
        subst this; simpa using hf
theorem sh_some {n : Int} (h1 : 1 ≤ n) (h2 : n ≤ 46) : ∃ k, shK n [] = some k ∧ k ≤ 7 ∧ (hdL n []).length = k + 1 := by
  have hne := shL_ne h1 h2
  cases hs : shK n [] with
  | none => simp [shL, hs] at hne
  | some k =>
    have hsl : shL n [] = extL n [] k [1] := by simp [shL, hs]
    exact ⟨k, rfl, (shK_le hs).1, (ext_mem1 h2 (hsl ▸ hd_mem hne : hdL n [] ∈ extL n [] k [1])).len⟩
theorem reachP_is {n : Int} (h1 : 1 ≤ n) (h2 : n ≤ 46) {k : Int} (hk0 : 0 ≤ k) (hk7 : k ≤ 7) : reachP k n = decide (((hdL n []).length : Int) - 1 ≤ k) := by
  obtain ⟨r, hr, hr7, hlen⟩ := sh_some h1 h2
  have hpos := (shK_le hr).2
  unfold shK at hr
  rw [if_neg (by simp)] at hr
  rw [Bool.eq_iff_iff]
  unfold reachP
  rw [List.any_eq_true, decide_eq_true_eq, hlen]
  constructor
  · rintro ⟨j, hj, h⟩
    simp only [List.mem_range] at hj
    rcases Nat.lt_or_ge j r with h' | h'
    · have := firstK_min hr j (by omega) h'
      rw [this] at h; cases h
    · omega
  · intro h
    exact ⟨r, by simp only [List.mem_range]; omega, by simpa using hpos⟩
theorem p32 (k : Int) : PCall Try.prog 32 [.int .i64 k] (reachR k) := by
  refine PCall.of D16ok ok32 (by simp) (reachR_plain k) fun hs' hb => ?_
  simp [A32, R32, S50]
  refine At.split (fun h => ?_) (fun h => ?_)
  · simp at h
    simp [reachR, h]
  · simp at h
    obtain ⟨h1, h2⟩ := btw_iff.1 h
    simp
    refine At.loop (fun (i : Nat) s0 => i ≤ 46 ∧ s0.env 0 = .int .i64 k ∧ s0.env 5 = .int .i64 ((i : Int) + 1) ∧ Outs 1 s0.hs (s0.env 4) (ints (reachTo k i))) (fun i => 46 - i) 0 ?_ ?_
    · simp
      exact .nil
    rintro N i s1 hN ⟨hi, e0, e5, ho⟩
    have w1 : IntKind.i64.wrap ((i : Int) + 1 + 1) = (i : Int) + 1 + 1 := wrap64 (by omega) (by omega)
    simp [e0, e5]
    refine At.dec (fun h3 => ?_) (fun h3 => ?_)
    · have hbt : btw 1 ((i : Int) + 1) 46 = true := btw_iff.2 ⟨by omega, h3⟩
      have hP := reachP_is (n := (i : Int) + 1) (by omega) h3 h1 h2
      simp [e0, e5, SDist, distR, hbt]
      refine At.dec (fun h4 => ?_) (fun h4 => ?_)
      · have hP' : reachP k ((i : Int) + 1) = true := by rw [hP]; simpa using h4
        have hln := reachTo_len k i
        obtain ⟨z, hs3, z1, z2, z3⟩ := append_outs ho (q := .sl 1 [.int .i64 ((i : Int) + 1)] .exact) (ys := [.int .i64 ((i : Int) + 1)]) (asV_sl (by simp)) (by simp; omega)
        simp [e0, e5, w1, astoAll, z1]
        refine hN (i + 1) _ (by omega) ⟨by omega, ?_⟩
        simp [e0, e5, w1, reachTo_succ, hP']
        simpa using z2
      · have hP' : reachP k ((i : Int) + 1) = false := by rw [hP]; simpa using h4
        simp [e0, e5, w1]
        refine hN (i + 1) _ (by omega) ⟨by omega, ?_⟩
        simp [e0, e5, w1, reachTo_succ, hP']
        exact ho
    · have : i = 46 := by omega
      subst this
      simp [e0, e5]
      simp [reachR, h, ho.sh]

/-! the cheapest chain -/
def bestS (s t : Int) (o : Option (List Int × Int)) (c : List Int) : Option (List Int × Int) :=
  match o with
  | none => some (c, costL s t c)
  | some (b, v) => if costL s t c < v then some (c, costL s t c) else some (b, v)
def boC : Option (List Int × Int) → AV
  | none => .nilsl
  | some (c, _) => chV c
def boV : Option (List Int × Int) → Int
  | none => 0
  | some (_, v) => v
def bestAll (n s t : Int) : Option (List Int × Int) := (List.range 8).foldl (fun o k => (extL n [] k [1]).foldl (bestS s t) o) none
def cheapR (n s t : Int) : AV := if btw 1 n 46 = true ∧ goodP s t = true then .tup [boC (bestAll n s t), .int .i64 (boV (bestAll n s t)), .int .i64 0] else .tup [.nilsl, .int .i64 0, .int .i64 3]
theorem boC_plain (o : Option (List Int × Int)) : (boC o).plain = true := by
  cases o with
  | none => rfl
  | some p => exact plain_chV _
theorem cheapR_plain (n s t : Int) : (cheapR n s t).plain = true := by
  unfold cheapR; split
  · simp only [AV.plain, plainL, boC_plain, Bool.and_self]
  · rfl
def JB (s t : Int) (o0 : Option (List Int × Int)) (i0 : Nat) : List (List Int) → HS → Prop := fun d hs =>
  hs.heap i0 = some [boC (d.foldl (bestS s t) o0)] ∧ hs.heap (i0 + 1) = some [.int .i64 (boV (d.foldl (bestS s t) o0))] ∧ i0 + 1 < hs.nh
@[simp] theorem D16_58 : D16 58 = S58 := id rfl
@[simp] theorem D16_62 : D16 62 = S62 := id rfl
theorem eachB {s t : Int} (hg : goodP s t = true) (o0 : Option (List Int × Int)) (i0 : Nat) : Each 61 [] [.ptr (.agg [.int .i64 s, .int .i64 t]), .ref i0 0, .ref (i0 + 1) 0] (JB s t o0 i0) (fun _ _ _ _ => False) := by
  refine ⟨?_, ?_⟩
  · rintro d hs hs' hx ⟨h1, h2, h3⟩
    exact ⟨by rw [hx.heap _ (by omega)]; exact h1, by rw [hx.heap _ h3]; exact h2, Nat.lt_of_lt_of_le h3 hx.nh⟩
  · rintro d hs x c hx hb hl hne ⟨h1, h2, h3⟩
    have hps : Ps c := fun a ha => by have := hb a ha; omega
    have hfold : (d ++ [c]).foldl (bestS s t) o0 = bestS s t (d.foldl (bestS s t) o0) c := by rw [List.foldl_append]; rfl
    generalize ho : d.foldl (bestS s t) o0 = o at h1 h2 hfold
    refine FCall.of_body D16ok ok61 (by simp) (At.i ?_)
    have hcl : cloneV x = chV c := cloneV_ch hx hne
    cases o with
    | none =>
      simp only [boC, boV] at h1 h2
      have hs1 : ∀ v : AV, v.sto = true → v.cells = [v] → astore hs.heap 1 (.ref i0 0) v = some (fun k => if k = i0 then some [v] else hs.heap k) := fun v a b => store_one h1 a b
      have hs2 := hs1 (chV c) (by simp [chV]) (by simp [chV])
      have hs3 : astore (fun k => if k = i0 then some [chV c] else hs.heap k) 1 (.ref (i0 + 1) 0) (.int .i64 (costL s t c)) = some (fun k => if k = i0 + 1 then some [.int .i64 (costL s t c)] else (if k = i0 then some [chV c] else hs.heap k)) := store_one (u := .int .i64 0) (by simp [h2]) (by simp) (by simp)
      simp [A61, R61, S58, hx, hps, hg, show c.length ≤ 1000 by omega, load_one h1, load_one h2, S62, hcl, hs2, hs3]
      refine At.of ⟨?_, ?_, h3⟩
      · rw [hfold]; simp [bestS, boC]
      · rw [hfold]; simp [bestS, boV]
    | some p =>
      obtain ⟨b, v⟩ := p
      simp only [boC, boV] at h1 h2
      have hs2 := store_one (v := chV c) h1 (by simp [chV]) (by simp [chV])
      have hs3 : astore (fun k => if k = i0 then some [chV c] else hs.heap k) 1 (.ref (i0 + 1) 0) (.int .i64 (costL s t c)) = some (fun k => if k = i0 + 1 then some [.int .i64 (costL s t c)] else (if k = i0 then some [chV c] else hs.heap k)) := store_one (u := .int .i64 v) (by simp [h2]) (by simp) (by simp)
      have hb0 : abin 2 .eql (chV b) .nilsl = some (.bool false) := rfl
      simp [A61, R61, S58, hx, hps, hg, show c.length ≤ 1000 by omega, load_one h1, load_one h2, hb0]
      refine At.dec (fun h4 => ?_) (fun h4 => ?_)
      · simp [S62, hx, show c.length ≤ 1000 by omega, hcl, hs2, hs3, load_one h2, h4]
        refine At.of ⟨?_, ?_, h3⟩
        · rw [hfold]; simp [bestS, boC, h4]
        · rw [hfold]; simp [bestS, boV, h4]
      · simp [load_one h2, h4]
        refine At.of ⟨?_, ?_, h3⟩
        · rw [hfold]; simp [bestS, boC, h4, h1]
        · rw [hfold]; simp [bestS, boV, h4, h2]
end Go.Proofs.Ytnmpdegnpaggkaa
