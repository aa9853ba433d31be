/-
  Ways and rows, twice. Own work.
-/
import Derived.Test.YtnmpdegnpaggkaaCheck
set_option linter.unusedVariables false
set_option linter.unusedSimpArgs false
namespace Go.Proofs.Ytnmpdegnpaggkaa
open Go Fw

def SChk : List AV → Option AV
  | [x] => (asI x).map fun l => .int .i64 (chk l)
  | _ => none
theorem c21 : ∀ a r, SChk a = some r → PCall Try.prog 21 a r := by
  intro a r h
  unfold SChk at h
  split at h <;> (try (cases h; done))
  obtain ⟨l, hl, rfl⟩ := optmap_some h
  exact p21 hl
theorem c22 : ∀ a r, SChk a = some r → PCall Try.prog 22 a r := by
  intro a r h
  unfold SChk at h
  split at h <;> (try (cases h; done))
  obtain ⟨l, hl, rfl⟩ := optmap_some h
  exact p22 hl
def D5 : PCtx := (D4.add 21 SChk).add 22 SChk
theorem D5ok : CtxOk Try.prog D5 := (D4ok.add c21).add c22
@[simp] theorem D5_21 : D5 21 = SChk := id rfl
@[simp] theorem D5_22 : D5 22 = SChk := id rfl
@[simp] theorem D5_47 : D5 47 = S47 := id rfl
@[simp] theorem D5_48 : D5 48 = S48 := id rfl

/-- the way of the number at a place -/
def wayAt (l : List Int) (i : Nat) : Option (Nat × Nat) := wayL (l.take i) (l.getD i 0)
def toP : Option (Nat × Nat) → Int × Int
  | some (i, k) => (i, k)
  | none => (0, 0)
def waysP (l : List Int) : List (Int × Int) := (List.range (l.length - 1)).map fun j => toP (wayAt l (j + 1))
def rowB (l : List Int) : Bool := (List.range (l.length - 1)).all fun j => (wayAt l (j + 1)).map (·.1) == some j

structure Good (l : List Int) : Prop where
  pos : 0 < l.length
  len : l.length ≤ 20
  sorted : l.Pairwise (· < ·)
  bound : ∀ a ∈ l, 1 ≤ a ∧ a ≤ 46
  one : l.getD 0 0 = 1
  ways : ∀ k, 0 < k → k < l.length → ∃ p, wayAt l k = some p
theorem Good.of {l : List Int} (h : chk l = 0) : Good l := by
  obtain ⟨h1, h2, h3, h4, h5⟩ := chk_zero h
  obtain ⟨s1, s2⟩ := scan_all h3
  refine ⟨h1, h2, s1, s2, h4, fun k hk hkl => ?_⟩
  have := h5 k hkl
  unfold proofAt at this
  split at this
  · rename_i hc
    rcases hc with hc | hc
    · omega
    · exact Option.isSome_iff_exists.1 hc
  · cases this
theorem Good.sm {l : List Int} (h : Good l) : Sm l := sm_of h.bound

/-- the result of Ways -/
def waysR (l : List Int) : AV := if chk l = 0 then .tup [outV 2 (prs (waysP l)), .int .i64 0] else .tup [.nilsl, .int .i64 (chk l)]
theorem waysR_plain (l : List Int) : (waysR l).plain = true := by
  unfold waysR
  split
  · cases h : prs (waysP l) with
    | nil => rfl
    | cons a r =>
      rw [outV_ne (by simp)]
      simp only [AV.plain, plainL, Bool.and_true]
      have := plain_prs (waysP l)
      rw [h] at this
      simpa only [plainL] using this
  · rfl
theorem prs_append (a b : List (Int × Int)) : prs (a ++ b) = prs a ++ prs b := List.map_append
theorem range_snoc {α : Type} (f : Nat → α) (j : Nat) : (List.range (j + 1)).map f = (List.range j).map f ++ [f j] := by rw [List.range_succ, List.map_append]; rfl

theorem p16 {x : AV} {l : List Int} (hx : asI x = some l) : PCall Try.prog 16 [x] (waysR l) := by
  have hl := asI_len hx
  refine PCall.of D5ok ok16 (by simp) (waysR_plain l) fun hs' hb => ?_
  simp [A16, R16, SChk, hx]
  refine At.decn (fun h0 => ?_) (fun h0 => ?_)
  · have g := Good.of h0
    have gp := g.pos
    have gl := g.len
    have ed : aslice 1 x (some (.int .i64 1)) none none = some (dropV 1 x) := by
      have := slice_drop (asI_asV hx) (n := 1) (k := .i64) (by rw [ints_len]; omega)
      simpa using this
    have hd := asI_drop hx 1
    simp [ed, alen_of hd]
    refine At.loop (fun (j : Nat) s => j + 1 ≤ l.length ∧ s.env 0 = x ∧ s.env 16 = dropV 1 x ∧ s.env 17 = .int .i64 ((l.length - 1 : Nat) : Int) ∧ s.env 18 = .int .i64 j ∧ Outs 2 s.hs (s.env 5) (prs ((List.range j).map fun j => toP (wayAt l (j + 1))))) (fun j => l.length - j) 0 ?_ ?_
    · simp
      exact ⟨by omega, .nil⟩
    rintro N j s hN ⟨hj, e0, e16, e17, e18, ho⟩
    simp [e0, e16, e17, e18]
    refine At.dec (fun h3 => ?_) (fun h3 => ?_)
    · have hj1 : j + 1 < l.length := by omega
      have hjd : j < (l.drop 1).length := by simp; omega
      have ai := aidx_nat hd (k := .i64) hjd
      have hgd : (l.drop 1)[j] = l[j + 1] := by rw [List.getElem_drop]; congr 1; omega
      rw [hgd] at ai
      have et : aslice 1 x none (some (.int .i64 ((j : Int) + 1))) none = some (takeV (j + 1) x) := by
        have := slice_take (asI_asV hx) (n := j + 1) (k := .i64) (by rw [ints_len]; omega)
        simpa using this
      have w1 : IntKind.i64.wrap ((j : Int) + 1) = (j : Int) + 1 := wrap64 (by omega) (by omega)
      have hb2 := g.sm l[j + 1] (List.getElem_mem hj1)
      obtain ⟨⟨a, b⟩, hw⟩ := g.ways (j + 1) (by omega) hj1
      have hw' : wayL (l.take (j + 1)) l[j + 1] = some (a, b) := by rw [← hw, wayAt, getD_get hj1]
      have ho' : Outs 2 { s.hs with heap := (fun k => if k = s.hs.nh then some [.int .i64 (a : Int), .int .i64 (b : Int)] else if k = s.hs.nh then some [.int .i64 0, .int .i64 0] else s.hs.heap k), nh := s.hs.nh + 1 } (s.env 5) (prs ((List.range j).map fun j => toP (wayAt l (j + 1)))) := ho.cong rfl rfl
      obtain ⟨y, hs2, e1, e2, e3⟩ := append_outs ho' (q := .sl 2 [.agg [.int .i64 (a : Int), .int .i64 (b : Int)]] .exact) (ys := [.agg [.int .i64 (a : Int), .int .i64 (b : Int)]]) (asV_sl (by simp)) (by simp; omega)
      simp [e0, e16, e17, e18, ai, w1, et, S47, asI_take hx, sorted_take g.sorted, sm_take g.sm, hb2, hw', wayR, astoAll, AV.sto, AV.cells, AV.leaf, e1]
      refine hN (j + 1) _ (by omega) ⟨by omega, ?_⟩
      simp [e0, e16, e17, e18, w1]
      rw [range_snoc]
      simpa [toP, hw, prs] using e2
    · have hj' : j + 1 = l.length := by omega
      simp [e0, e16, e17, e18]
      simp [waysR, h0, ho.sh, waysP]
      rw [show l.length - 1 = j by omega]
  · simp [waysR, h0]
theorem p17 {x : AV} {l : List Int} (hx : asI x = some l) : PCall Try.prog 17 [x] (waysR l) := by
  have hl := asI_len hx
  refine PCall.of D5ok ok17 (by simp) (waysR_plain l) fun hs' hb => ?_
  simp [A17, R17, SChk, hx]
  refine At.decn (fun h0 => ?_) (fun h0 => ?_)
  · have g := Good.of h0
    have gp := g.pos
    have gl := g.len
    simp
    refine At.loop (fun (j : Nat) s => j + 1 ≤ l.length ∧ s.env 0 = x ∧ s.env 6 = .int .i64 ((j + 1 : Nat) : Int) ∧ Outs 2 s.hs (s.env 5) (prs ((List.range j).map fun j => toP (wayAt l (j + 1))))) (fun j => l.length - j) 0 ?_ ?_
    · simp
      exact ⟨by omega, .nil⟩
    rintro N j s hN ⟨hj, e0, e6, ho⟩
    have cj : ((j + 1 : Nat) : Int) = (j : Int) + 1 := by omega
    simp [e0, e6, alen_of hx]
    refine At.dec (fun h3 => ?_) (fun h3 => ?_)
    · have hj1 : j + 1 < l.length := by omega
      have ai := aidx_nat hx (k := .i64) hj1
      rw [cj] at ai
      have et : aslice 1 x none (some (.int .i64 ((j : Int) + 1))) none = some (takeV (j + 1) x) := by
        have := slice_take (asI_asV hx) (n := j + 1) (k := .i64) (by rw [ints_len]; omega)
        simpa using this
      have w1 : IntKind.i64.wrap ((j : Int) + 1 + 1) = (j : Int) + 1 + 1 := wrap64 (by omega) (by omega)
      have hb2 := g.sm l[j + 1] (List.getElem_mem hj1)
      obtain ⟨⟨a, b⟩, hw⟩ := g.ways (j + 1) (by omega) hj1
      have hw' : wayL (l.take (j + 1)) l[j + 1] = some (a, b) := by rw [← hw, wayAt, getD_get hj1]
      obtain ⟨y, hs2, e1, e2, e3⟩ := append_outs ho (q := .sl 2 [.agg [.int .i64 (a : Int), .int .i64 (b : Int)]] .exact) (ys := [.agg [.int .i64 (a : Int), .int .i64 (b : Int)]]) (asV_sl (by simp)) (by simp; omega)
      simp [e0, e6, ai, et, S48, asI_take hx, sm_take g.sm, hb2, hw', wayR2, astoAll, AV.sto, AV.cells, AV.leaf, e1]
      refine hN (j + 1) _ (by omega) ⟨by omega, ?_⟩
      simp [e0, e6, w1]
      rw [range_snoc]
      simpa [toP, hw, prs] using e2
    · have hj' : j + 1 = l.length := by omega
      simp [e0, e6]
      simp [waysR, h0, ho.sh, waysP]
      rw [show l.length - 1 = j by omega]
  · simp [waysR, h0]

def SWays : List AV → Option AV
  | [x] => (asI x).map waysR
  | _ => none
theorem c16 : ∀ a r, SWays a = some r → PCall Try.prog 16 a r := by
  intro a r h
  unfold SWays at h
  split at h <;> (try (cases h; done))
  obtain ⟨l, hl, rfl⟩ := optmap_some h
  exact p16 hl
theorem c17 : ∀ a r, SWays a = some r → PCall Try.prog 17 a r := by
  intro a r h
  unfold SWays at h
  split at h <;> (try (cases h; done))
  obtain ⟨l, hl, rfl⟩ := optmap_some h
  exact p17 hl
theorem rowB_hit {l : List Int} {j : Nat} (hj : j + 1 < l.length) (h : (wayAt l (j + 1)).map (·.1) ≠ some j) : rowB l = false := by
  unfold rowB
  rw [List.all_eq_false]
  exact ⟨j, by simp; omega, by simpa using h⟩
theorem rowB_all {l : List Int} (h : ∀ j, j + 1 < l.length → (wayAt l (j + 1)).map (·.1) = some j) : rowB l = true := by
  unfold rowB
  rw [List.all_eq_true]
  intro j hj
  simp only [List.mem_range] at hj
  simpa using h j (by omega)
theorem p49 {x : AV} {l : List Int} (hx : asI x = some l) (hsm : Sm l) : PCall Try.prog 49 [x] (.bool (rowB l)) := by
  have hl := asI_len hx
  refine PCall.of D5ok ok49 (by simp) rfl fun hs' hb => ?_
  simp [A49, R49]
  refine At.loop (fun (j : Nat) s => s.env 0 = x ∧ s.env 3 = .int .i64 ((j + 1 : Nat) : Int) ∧ j ≤ l.length ∧ ∀ k, k < j → k + 1 < l.length → (wayAt l (k + 1)).map (·.1) = some k) (fun j => l.length + 1 - j) 0 ?_ ?_
  · simp
  rintro N j s hN ⟨e0, e3, hjl, hall⟩
  have cj : ((j + 1 : Nat) : Int) = (j : Int) + 1 := by omega
  simp [e0, e3, alen_of hx]
  refine At.dec (fun h3 => ?_) (fun h3 => ?_)
  · have hj1 : j + 1 < l.length := by omega
    have ai := aidx_nat hx (k := .i64) hj1
    rw [cj] at ai
    have et : aslice 1 x none (some (.int .i64 ((j : Int) + 1))) none = some (takeV (j + 1) x) := by
      have := slice_take (asI_asV hx) (n := j + 1) (k := .i64) (by rw [ints_len]; omega)
      simpa using this
    have w1 : IntKind.i64.wrap ((j : Int) + 1 + 1) = (j : Int) + 1 + 1 := wrap64 (by omega) (by omega)
    have w2 : IntKind.i64.wrap (j : Int) = (j : Int) := wrap64 (by omega) (by omega)
    have hb2 := hsm l[j + 1] (List.getElem_mem hj1)
    simp [e0, e3, ai, et, S48, asI_take hx, sm_take hsm, hb2]
    have hwa : wayAt l (j + 1) = wayL (l.take (j + 1)) l[j + 1] := by rw [wayAt, getD_get hj1]
    rcases hw : wayL (l.take (j + 1)) l[j + 1] with _ | ⟨a, b⟩
    · have := rowB_hit hj1 (by rw [hwa, hw]; simp)
      have hne : ¬ (-1 : Int) = (j : Int) := by omega
      simp [wayR2, w2, this, hne, e0, e3]
    · simp [wayR2, w2, e0, e3]
      refine At.decn (fun h4 => ?_) (fun h4 => ?_)
      · simp [e0, e3]
        refine hN (j + 1) _ (by omega) ⟨by simp [e0], by simp [w1], by omega, fun k hk hkl => ?_⟩
        rcases Nat.lt_or_ge k j with h' | h'
        · exact hall k h' hkl
        · have : k = j := by omega
          subst this
          rw [hwa, hw]; simp; omega
      · have := rowB_hit hj1 (by rw [hwa, hw]; simp; omega)
        simp [this]
  · have := rowB_all (l := l) (fun k hk => hall k (by omega) hk)
    simp [this]
def S49 : List AV → Option AV
  | [x] => (asI x).bind fun l => if Sm l then some (.bool (rowB l)) else none
  | _ => none
theorem c49 : ∀ a r, S49 a = some r → PCall Try.prog 49 a r := by
  intro a r h
  unfold S49 at h
  split at h <;> (try (cases h; done))
  obtain ⟨l, hl, h⟩ := Option.bind_eq_some_iff.1 h
  split at h <;> (try (cases h; done))
  injection h with h; subst h
  exact p49 hl (by assumption)
def D6 : PCtx := ((D5.add 16 SWays).add 17 SWays).add 49 S49
theorem D6ok : CtxOk Try.prog D6 := ((D5ok.add c16).add c17).add c49
@[simp] theorem D6_16 : D6 16 = SWays := id rfl
@[simp] theorem D6_17 : D6 17 = SWays := id rfl
@[simp] theorem D6_49 : D6 49 = S49 := id rfl
@[simp] theorem D6_21 : D6 21 = SChk := id rfl
@[simp] theorem D6_22 : D6 22 = SChk := id rfl
def rowR (l : List Int) : AV := .tup [.bool (decide (chk l = 0) && rowB l), .int .i64 (chk l)]
theorem p19 {x : AV} {l : List Int} (hx : asI x = some l) : PCall Try.prog 19 [x] (rowR l) := by
  refine PCall.of D6ok ok19 (by simp) rfl fun hs' hb => ?_
  simp [A19, R19, SChk, hx]
  refine At.dec (fun h0 => ?_) (fun h0 => ?_)
  · have g := Good.of h0
    simp [h0, S49, hx, g.sm, rowR]
  · simp [h0, rowR]
theorem p18 {x : AV} {l : List Int} (hx : asI x = some l) : PCall Try.prog 18 [x] (rowR l) := by
  refine PCall.of D6ok ok18 (by simp) rfl fun hs' hb => ?_
  simp [A18, R18, SWays, hx]
  by_cases h0 : chk l = 0
  · have g := Good.of h0
    have gp := g.pos
    have gl := g.len
    have hw : waysR l = .tup [outV 2 (prs (waysP l)), .int .i64 0] := by simp [waysR, h0]
    have hwl : (waysP l).length = l.length - 1 := by simp [waysP]
    have hv : asV 2 (outV 2 (prs (waysP l))) = some (prs (waysP l)) := by
      cases h : prs (waysP l) with
      | nil => rfl
      | cons a r =>
        rw [outV_ne (by simp)]
        refine asV_sl ?_
        rw [← h]; simp [prs, hwl]; omega
    simp [hw, lenV hv]
    refine At.loop (fun (j : Nat) s => j + 1 ≤ l.length ∧ s.env 5 = .int .i64 0 ∧ s.env 13 = outV 2 (prs (waysP l)) ∧ s.env 14 = .int .i64 ((l.length - 1 : Nat) : Int) ∧ s.env 15 = .int .i64 j ∧ ∀ k, k < j → (wayAt l (k + 1)).map (·.1) = some k) (fun j => l.length - j) 0 ?_ ?_
    · simp [hwl]; omega
    rintro N j s hN ⟨hj, e5, e13, e14, e15, hall⟩
    simp [e5, e13, e14, e15]
    refine At.dec (fun h3 => ?_) (fun h3 => ?_)
    · have hj1 : j + 1 < l.length := by omega
      obtain ⟨⟨a, b⟩, hwa⟩ := g.ways (j + 1) (by omega) hj1
      have hjw : j < (prs (waysP l)).length := by simp [prs, hwl]; omega
      have ai := idxV hv (k := .i64) hjw
      have hge : (prs (waysP l))[j] = .agg [.int .i64 (a : Int), .int .i64 (b : Int)] := by
        simp [prs, waysP, hwa, toP]
      rw [hge] at ai
      have w1 : IntKind.i64.wrap ((j : Int) + 1) = (j : Int) + 1 := wrap64 (by omega) (by omega)
      simp [e5, e13, e14, e15, ai]
      refine At.decn (fun h4 => ?_) (fun h4 => ?_)
      · simp [e5, e13, e14, e15]
        refine hN (j + 1) _ (by omega) ⟨by omega, ?_⟩
        simp [e5, e13, e14, e15, w1]
        intro k hk
        rcases Nat.lt_or_ge k j with h' | h'
        · have := hall k h'; simpa using this
        · have : k = j := by omega
          subst this
          exact ⟨b, by rw [hwa]; congr 2; omega⟩
      · have := rowB_hit hj1 (by rw [hwa]; simp; omega)
        simp [rowR, h0, this]
    · have := rowB_all (l := l) (fun k hk => hall k (by omega))
      simp [e5, e13, e14, e15]
      simp [rowR, h0, this]
  · have hw : waysR l = .tup [.nilsl, .int .i64 (chk l)] := by simp [waysR, h0]
    simp [hw]
    refine At.loop (fun (j : Nat) s => s.env 5 = .int .i64 (chk l) ∧ s.env 14 = .int .i64 0 ∧ s.env 15 = .int .i64 0) (fun j => 0) 0 (by simp) ?_
    rintro N j s hN ⟨e5, e14, e15⟩
    simp [e5, e14, e15]
    simp [rowR, h0]
def SRow : List AV → Option AV
  | [x] => (asI x).map rowR
  | _ => none
theorem c18 : ∀ a r, SRow a = some r → PCall Try.prog 18 a r := by
  intro a r h
  unfold SRow at h
  split at h <;> (try (cases h; done))
  obtain ⟨l, hl, rfl⟩ := optmap_some h
  exact p18 hl
theorem c19 : ∀ a r, SRow a = some r → PCall Try.prog 19 a r := by
  intro a r h
  unfold SRow at h
  split at h <;> (try (cases h; done))
  obtain ⟨l, hl, rfl⟩ := optmap_some h
  exact p19 hl
end Go.Proofs.Ytnmpdegnpaggkaa
