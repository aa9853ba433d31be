/-
  One step of a plan: the law. Own work.
  A plan step by step: the law. Own work.
  Plans in memory. Own work.
  Plan: the walk. Own work.
  What a plan is worth. Own work.
  One step of a given plan, checked. Own work.
  Length of a given plan. Own work.
  Length: the walk. Own work.
  Length: the walk, joined. Own work.
  Verify; the plans that Plan makes pass. Own work.
  The two works that the laws ask about. Own work.
  works: the two works answer as they should. Own work.
-/
import Derived.Test.YtokgpcdbpkginaaG2
set_option linter.unusedVariables false
set_option linter.unusedSimpArgs false
namespace Go.Proofs.Ytokgpcdbpkginaa
open Go Fw

/-- the hours of a step taken away -/
structure Sub (M : List (List Int)) (O : List Int) (v : Int) (M' : List (List Int)) : Prop where
  len : M'.length = M.length
  cell : ∀ r k : Nat, r < M.length → k < M.length → mm M' r k = mm M r k - if O.getD r 0 = k then v else 0
theorem sumF_sub2 {α : Type} (l : List α) (f g : α → Int) : sumF l (fun a => f a - g a) = sumF l f - sumF l g := by
  induction l with
  | nil => rfl
  | cons a l ih => rw [sumF_cons, sumF_cons, sumF_cons, ih]; omega
theorem sub_sqr {M M' : List (List Int)} {O : List Int} {L v : Int} (hS : Sqr M L) (hO : MOk M O) (h : Sub M O v M') (hv : ∀ r, r < M.length → v ≤ mm M r (O.getD r 0).toNat) : Sqr M' (L - v) := by
  refine ⟨fun r k hr hk => ?_, fun r hr => ?_, fun k hk => ?_⟩
  · rw [h.len] at hr hk
    rw [h.cell r k hr hk]
    have := hS.nn r k hr hk
    split
    · rename_i e
      have := hv r hr
      rw [e] at this
      rw [show ((k : Int)).toNat = k by omega] at this
      omega
    · omega
  · rw [h.len] at hr ⊢
    obtain ⟨k0, hk0, e0, _⟩ := hO.ex r hr
    have : sumF (List.range M.length) (mm M' r) = sumF (List.range M.length) fun k => mm M r k - if k = k0 then v else 0 := sumF_congr fun k hk => by
      rw [h.cell r k hr (by simpa using hk), e0]
      congr 1
      by_cases e : k = k0
      · rw [if_pos e, if_pos (by omega)]
      · rw [if_neg e, if_neg (by omega)]
    rw [this, sumF_sub2, sumF_delta hk0]
    have := hS.row r hr
    have e : sumF (List.range M.length) (fun k => mm M r k) = sumF (List.range M.length) (mm M r) := rfl
    omega
  · rw [h.len] at hk ⊢
    obtain ⟨r0, hr0, e0⟩ := hO.sur k hk
    have : sumF (List.range M.length) (fun r => mm M' r k) = sumF (List.range M.length) fun r => mm M r k - if r = r0 then v else 0 := sumF_congr fun r hr => by
      have hr' : r < M.length := by simpa using hr
      rw [h.cell r k hr' hk]
      congr 1
      by_cases e : r = r0
      · rw [if_pos e, if_pos (by rw [e]; exact e0)]
      · rw [if_neg e, if_neg (fun e2 => e (hO.inj r r0 hr' hr0 (by rw [e2, e0])))]
    rw [this, sumF_sub2, sumF_delta hr0, hS.col k hk]
theorem nz_nn (M : List (List Int)) : 0 ≤ nz M := sumF_nn fun r _ => sumF_nn fun k _ => by unfold nzI; split <;> omega
theorem sub_nz {M M' : List (List Int)} {O : List Int} {v : Int} (hO : MOk M O) (h : Sub M O v M') {r0 k0 : Nat} (hr0 : r0 < M.length) (hk0 : k0 < M.length) (e0 : O.getD r0 0 = k0) (ev : mm M r0 k0 = v) : nz M' + 1 ≤ nz M := by
  unfold nz
  rw [h.len]
  have hle : ∀ r k, r < M.length → k < M.length → nzI M' r k ≤ nzI M r k := fun r k hr hk => by
    unfold nzI
    by_cases e : mm M r k = 0
    · have hz : ¬ O.getD r 0 = k := fun e2 => by
        obtain ⟨k1, hk1, e1, hne⟩ := hO.ex r hr
        have : k1 = k := by omega
        subst this
        exact hne e
      rw [h.cell r k hr hk, e, if_neg hz]
      simp
    · rw [if_neg e]; split <;> omega
  have hnz : mm M r0 k0 ≠ 0 := by
    obtain ⟨k1, hk1, e1, hne⟩ := hO.ex r0 hr0
    have : k1 = k0 := by omega
    subst this
    exact hne
  have hlt : nzI M' r0 k0 + 1 ≤ nzI M r0 k0 := by
    unfold nzI
    rw [h.cell r0 k0 hr0 hk0, if_pos e0, ev, if_pos (by omega), if_neg (by omega)]; omega
  have row : ∀ r, r < M.length → sumF (List.range M.length) (nzI M' r) ≤ sumF (List.range M.length) (nzI M r) := fun r hr => sumF_le fun k hk => hle r k hr (by simpa using hk)
  have hr0m : r0 ∈ List.range M.length := by simpa using hr0
  have hk0m : k0 ∈ List.range M.length := by simpa using hk0
  rw [sumF_erase hr0m, sumF_erase (l := List.range M.length) (f := fun r => sumF (List.range M.length) (nzI M r)) hr0m]
  have a1 : sumF ((List.range M.length).erase r0) (fun r => sumF (List.range M.length) (nzI M' r)) ≤ sumF ((List.range M.length).erase r0) fun r => sumF (List.range M.length) (nzI M r) := sumF_le fun r hr => row r (by simpa using List.mem_of_mem_erase hr)
  have a2 : sumF (List.range M.length) (nzI M' r0) + 1 ≤ sumF (List.range M.length) (nzI M r0) := by
    rw [sumF_erase hk0m, sumF_erase (f := nzI M r0) hk0m]
    have : sumF ((List.range M.length).erase k0) (nzI M' r0) ≤ sumF ((List.range M.length).erase k0) (nzI M r0) := sumF_le fun k hk => hle r0 k hr0 (by simpa using List.mem_of_mem_erase hk)
    omega
  omega
/-- no cell has more than the line's sum -/
theorem Sqr.le {M : List (List Int)} {L : Int} (h : Sqr M L) {r k : Nat} (hr : r < M.length) (hk : k < M.length) : mm M r k ≤ L := by
  have hm : k ∈ List.range M.length := by simpa using hk
  have := h.row r hr
  rw [sumF_erase hm] at this
  have : 0 ≤ sumF ((List.range M.length).erase k) (mm M r) := sumF_nn fun j hj => h.nn r j hr (by simpa using List.mem_of_mem_erase hj)
  omega
/-- the artists' places in a step -/
def atOf (R C0 : Nat) (O : List Int) : List Int := (List.range R).map fun i => if O.getD i 0 < C0 then O.getD i 0 else -1
/-- a step that may stand in a plan -/
structure StepOk (m : List (List Int)) (seats : Int) (s : Int × List Int) : Prop where
  len : s.2.length = m.length
  h1 : 1 ≤ s.1
  h2 : s.1 ≤ 1100
  pl : ∀ v ∈ s.2, -1 ≤ v ∧ v < (cols m : Int)
  one : ∀ k : Nat, k < cols m → s.2.count (k : Int) ≤ 1
  few : ((s.2.filter fun v => decide (v ≠ -1)).length : Int) ≤ seats
/-- what a plan leaves of the hours of artist i at machine k -/
def remP (m : List (List Int)) : List (Int × List Int) → Nat → Nat → Int
  | [], i, k => xg m i k
  | s :: p, i, k => remP m p i k - if s.2.getD i 0 = k then s.1 else 0
theorem remP_app (m : List (List Int)) (s : Int × List Int) (i k : Nat) : ∀ p : List (Int × List Int), remP m (p ++ [s]) i k = remP m p i k - if s.2.getD i 0 = k then s.1 else 0
  | [] => rfl
  | t :: p => by
    simp only [List.cons_append, remP, remP_app m s i k p]; omega
end Go.Proofs.Ytokgpcdbpkginaa
set_option linter.unusedVariables false
set_option linter.unusedSimpArgs false
namespace Go.Proofs.Ytokgpcdbpkginaa
open Go Fw

theorem count_le_one {v : Int} : ∀ {l : List Int}, (∀ i j, i < l.length → j < l.length → l.getD i 0 = v → l.getD j 0 = v → i = j) → l.count v ≤ 1
  | [], _ => by simp
  | a :: l, h => by
    have ih := count_le_one (v := v) (l := l) (fun i j hi hj e1 e2 => by
      have := h (i + 1) (j + 1) (by simpa using hi) (by simpa using hj) (by simpa using e1) (by simpa using e2)
      omega)
    rw [List.count_cons]
    by_cases e : a = v
    · have : l.count v = 0 := List.count_eq_zero.2 fun hm => by
        obtain ⟨i, hi, ei⟩ := List.getElem_of_mem hm
        have := h 0 (i + 1) (by simp) (by simpa using hi) (by simpa using e) (by simp [List.getD, hi, ei])
        omega
      rw [this]; split <;> omega
    · rw [if_neg (by simpa using e)]; omega
theorem filter_sumF {α : Type} (l : List α) (p : α → Bool) : ((l.filter p).length : Int) = sumF l fun a => if p a = true then 1 else 0 := by
  induction l with
  | nil => rfl
  | cons a l ih =>
    rw [sumF_cons, List.filter_cons]
    split
    · rw [List.length_cons]; omega
    · omega
theorem sumF_map {α β : Type} (l : List α) (f : α → β) (g : β → Int) : sumF (l.map f) g = sumF l fun a => g (f a) := by
  unfold sumF; rw [List.map_map]; rfl
theorem atOf_len (R C0 : Nat) (O : List Int) : (atOf R C0 O).length = R := by simp [atOf]
theorem atOf_get {R C0 : Nat} {O : List Int} {i : Nat} (hi : i < R) : (atOf R C0 O).getD i 0 = if O.getD i 0 < C0 then O.getD i 0 else -1 := by
  rw [getD_of (by rw [atOf_len]; exact hi)]; simp [atOf]
theorem atOf_ok {m : List (List Int)} {seats : Int} (hse : 1 ≤ seats ∧ seats ≤ 6) {M : List (List Int)} {O : List Int} (hl : M.length = m.length + (cols m + (m.length - seats.toNat))) (hO : MOk M O)
    (hz : ∀ r k, m.length ≤ r → r < M.length → cols m ≤ k → k < cols m + (m.length - seats.toNat) → mm M r k = 0) {v : Int} (hv : 1 ≤ v ∧ v ≤ 1100) : StepOk m seats (v, atOf m.length (cols m) O) := by
  refine ⟨atOf_len _ _ _, hv.1, hv.2, fun w hw => ?_, fun k hk => ?_, ?_⟩
  · simp only [atOf, List.mem_map, List.mem_range] at hw
    obtain ⟨i, hi, rfl⟩ := hw
    obtain ⟨k, hk, e, _⟩ := hO.ex i (by omega)
    split <;> omega
  · refine count_le_one fun i j hi hj e1 e2 => ?_
    simp only [atOf_len] at hi hj
    simp only at e1 e2
    rw [atOf_get hi] at e1
    rw [atOf_get hj] at e2
    refine hO.inj i j (by omega) (by omega) ?_
    split at e1 <;> split at e2 <;> omega
  · simp only
    rw [filter_sumF]
    unfold atOf
    rw [sumF_map]
    generalize he : m.length - seats.toNat = e at *
    -- every extra column takes one of the artists
    have a1 : (e : Int) ≤ sumF (List.range e) fun j => sumF (List.range m.length) fun i => if O.getD i 0 = ((cols m + j : Nat) : Int) then 1 else 0 := by
      have : sumF (List.range e) (fun _ => (1 : Int)) ≤ sumF (List.range e) fun j => sumF (List.range m.length) fun i => if O.getD i 0 = ((cols m + j : Nat) : Int) then 1 else 0 := sumF_le fun j hj => by
        have hj' : j < e := by simpa using hj
        obtain ⟨i, hi, ei⟩ := hO.sur (cols m + j) (by omega)
        obtain ⟨k, hk, ek, hne⟩ := hO.ex i hi
        have : k = cols m + j := by omega
        subst this
        have him : i < m.length := by
          rcases Nat.lt_or_ge i m.length with h | h
          · exact h
          · exact absurd (hz i (cols m + j) h hi (by omega) (by omega)) hne
        have hm : i ∈ List.range m.length := by simpa using him
        rw [sumF_erase hm, if_pos ei]
        have : 0 ≤ sumF ((List.range m.length).erase i) (fun i => if O.getD i 0 = ((cols m + j : Nat) : Int) then (1 : Int) else 0) := sumF_nn fun a _ => by split <;> omega
        omega
      rw [sumF_const, List.length_range] at this
      omega
    rw [sumF_swap] at a1
    have a2 : sumF (List.range m.length) (fun i => sumF (List.range e) fun j => if O.getD i 0 = ((cols m + j : Nat) : Int) then 1 else 0) ≤ sumF (List.range m.length) fun i => if (cols m : Int) ≤ O.getD i 0 then 1 else 0 := sumF_le fun i hi => by
      have hi' : i < m.length := by simpa using hi
      obtain ⟨k, hk, ek, _⟩ := hO.ex i (by omega)
      by_cases h : (cols m : Int) ≤ O.getD i 0
      · rw [if_pos h]
        have : sumF (List.range e) (fun j => if O.getD i 0 = ((cols m + j : Nat) : Int) then (1 : Int) else 0) = sumF (List.range e) fun j => if j = k - cols m then 1 else 0 := sumF_congr fun j hj => by
          by_cases e : j = k - cols m
          · rw [if_pos e, if_pos (by omega)]
          · rw [if_neg e, if_neg (by omega)]
        rw [this]
        by_cases h2 : k - cols m < e
        · rw [sumF_delta h2]; omega
        · have : sumF (List.range e) (fun j => if j = k - cols m then (1 : Int) else 0) = sumF (List.range e) fun _ => 0 := sumF_congr fun j hj => by
            have : j < e := by simpa using hj
            rw [if_neg (by omega)]
          rw [this, sumF_const]; omega
      · rw [if_neg h]
        have : sumF (List.range e) (fun j => if O.getD i 0 = ((cols m + j : Nat) : Int) then (1 : Int) else 0) = sumF (List.range e) fun _ => 0 := sumF_congr fun j hj => by
          rw [if_neg (by omega)]
        rw [this, sumF_const]; omega
    have a3 : sumF (List.range m.length) (fun i => if decide ((if O.getD i 0 < (cols m : Int) then O.getD i 0 else -1) ≠ -1) = true then (1 : Int) else 0) = sumF (List.range m.length) fun i => 1 - if (cols m : Int) ≤ O.getD i 0 then 1 else 0 := sumF_congr fun i hi => by
      have hi' : i < m.length := by simpa using hi
      obtain ⟨k, hk, ek, _⟩ := hO.ex i (by omega)
      by_cases h : (cols m : Int) ≤ O.getD i 0
      · rw [if_pos h, if_neg (by rw [decide_eq_true_eq, if_neg (by omega)]; simp)]; rfl
      · rw [if_neg h, if_pos (by rw [decide_eq_true_eq, if_pos (by omega)]; omega)]; rfl
    rw [a3, sumF_sub2, sumF_const, List.length_range]
    omega
/-- where the making of a plan stands -/
structure PI (m : List (List Int)) (seats L : Int) (left : Int) (M : List (List Int)) (p : List (Int × List Int)) : Prop where
  Ml : M.length = m.length + (cols m + (m.length - seats.toNat))
  sq : Sqr M left
  l0 : 0 ≤ left
  nz : nz M + p.length ≤ 149
  z : ∀ r k, m.length ≤ r → r < M.length → cols m ≤ k → k < cols m + (m.length - seats.toNat) → mm M r k = 0
  rem : ∀ i k, i < m.length → k < cols m → mm M i k = remP m p i k
  st : ∀ s ∈ p, StepOk m seats s
  tot : (p.map Prod.fst).sum = L - left
theorem PI.zero {m : List (List Int)} (hw : OkW m) {seats L : Int} (hL : 0 ≤ L) (hse : 1 ≤ seats ∧ seats ≤ 6) {X : List (List Int)} {A Mc : List Int} (hF : Fil m L (m.length - seats.toNat) X A Mc) {M : List (List Int)} (hn : M.length = m.length + (cols m + (m.length - seats.toNat))) (hM : ∀ r k, r < M.length → k < M.length → mm M r k = tgt m.length (cols m + (m.length - seats.toNat)) L X A Mc r k) : PI m seats L L M [] := by
  have h6 := hw.r6
  have hc6 : cols m ≤ 6 := hw.c6
  refine ⟨hn, tgt_sqr hF hn hM, hL, ?_, fun r k h1 h2 h3 h4 => ?_, fun i k hi hk => ?_, fun s hs => by simp at hs, by simp⟩
  · have := nz_bd hn hM
    have e1 : (m.length : Int) * (((cols m + (m.length - seats.toNat) : Nat) : Int) + 1) ≤ 6 * 12 := Int.mul_le_mul (by omega) (by omega) (by omega) (by omega)
    have e2 : ((cols m + (m.length - seats.toNat) : Nat) : Int) * ((m.length : Int) + 1) ≤ 11 * 7 := Int.mul_le_mul (by omega) (by omega) (by omega) (by omega)
    simp only [List.length_nil]
    omega
  · rw [hM r k h2 (by omega)]
    unfold tgt
    rw [if_neg (by omega), if_pos h4]
    split
    · rw [hF.full k h3 h4]; omega
    · rfl
  · rw [hM i k (by omega) (by omega)]
    unfold tgt
    rw [if_pos hi, if_pos (by omega)]
    exact hF.pre i hi k hk
theorem PI.step {m : List (List Int)} {seats L left : Int} (hse : 1 ≤ seats ∧ seats ≤ 6) (hc : 0 < m.length) {M : List (List Int)} {p : List (Int × List Int)} (h : PI m seats L left M p) (hl : left ≤ 1085) {O : List Int} (hO : MOk M O) {v : Int} (hv1 : v ≤ left) (hv2 : ∀ r, r < M.length → v ≤ mm M r (O.getD r 0).toNat) (hv3 : (v = left ∧ 0 < left) ∨ ∃ r, r < M.length ∧ v = mm M r (O.getD r 0).toNat) {M' : List (List Int)} (hM : Sub M O v M') : 1 ≤ v ∧ PI m seats L (left - v) M' (p ++ [(v, atOf m.length (cols m) O)]) := by
  have hpos : ∀ r, r < M.length → 1 ≤ mm M r (O.getD r 0).toNat := fun r hr => by
    obtain ⟨k, hk, e, hne⟩ := hO.ex r hr
    rw [e, show ((k : Int)).toNat = k by omega]
    have := h.sq.nn r k hr hk
    omega
  have hM0 : 0 < M.length := by have := h.Ml; omega
  -- a cell that becomes zero
  have hcell : ∃ r k, r < M.length ∧ k < M.length ∧ O.getD r 0 = (k : Int) ∧ mm M r k = v := by
    rcases hv3 with ⟨e, _⟩ | ⟨r, hr, e⟩
    · obtain ⟨k, hk, ek, hne⟩ := hO.ex 0 hM0
      refine ⟨0, k, hM0, hk, ek, ?_⟩
      have a := hv2 0 hM0
      rw [ek, show ((k : Int)).toNat = k by omega] at a
      have b := h.sq.le hM0 hk
      omega
    · obtain ⟨k, hk, ek, hne⟩ := hO.ex r hr
      refine ⟨r, k, hr, hk, ek, ?_⟩
      rw [e, ek, show ((k : Int)).toNat = k by omega]
  have hv : 1 ≤ v := by
    rcases hv3 with ⟨e, _⟩ | ⟨r, hr, e⟩
    · omega
    · rw [e]; exact hpos r hr
  obtain ⟨r0, k0, hr0, hk0, e0, ev⟩ := hcell
  have hnz := sub_nz hO hM hr0 hk0 e0 ev
  refine ⟨hv, by rw [hM.len]; exact h.Ml, sub_sqr h.sq hO hM hv2, by omega, ?_, fun r k h1 h2 h3 h4 => ?_, fun i k hi hk => ?_, fun s hs => ?_, ?_⟩
  · rw [List.length_append]; have := h.nz; simp only [List.length_cons, List.length_nil]; omega
  · rw [hM.len] at h2
    have h5 := h.Ml
    rw [hM.cell r k h2 (by omega), h.z r k h1 h2 h3 h4]
    have hne : ¬ O.getD r 0 = k := fun e => by
      obtain ⟨k1, hk1, e1, hne⟩ := hO.ex r h2
      have : k1 = k := by omega
      subst this
      exact hne (h.z r k1 h1 h2 h3 h4)
    rw [if_neg hne]; rfl
  · have h5 := h.Ml
    rw [hM.cell i k (by omega) (by omega), h.rem i k hi hk, remP_app, atOf_get hi]
    congr 1
    split
    · rename_i e; rw [if_pos (by omega)]
    · rename_i e
      rw [if_neg (by split <;> omega)]
  · rcases List.mem_append.1 hs with hs | hs
    · exact h.st s hs
    · rw [List.mem_singleton] at hs
      subst hs
      exact atOf_ok hse h.Ml hO h.z ⟨hv, by omega⟩
  · rw [List.map_append, List.sum_append, h.tot]; simp; omega
end Go.Proofs.Ytokgpcdbpkginaa
set_option linter.unusedVariables false
set_option linter.unusedSimpArgs false
namespace Go.Proofs.Ytokgpcdbpkginaa
open Go Fw

def stepV (s : Int × List Int) : AV := .agg [.int .i64 s.1, .sl 1 (ints s.2) .exact]
def planV (p : List (Int × List Int)) : AV := outV 2 (p.map stepV)
/-- a step in memory: its places lie in a block from n0 on -/
def ElP (hs : HS) (n0 : Nat) (x : AV) (s : Int × List Int) : Prop := ∃ j, x = .agg [.int .i64 s.1, .msl false 1 j 0 s.2.length true] ∧ n0 ≤ j ∧ j < hs.nh ∧ hs.heap j = some (ints s.2)
/-- a plan under way -/
def OutP (hs : HS) (n0 : Nat) (y : AV) (p : List (Int × List Int)) : Prop := (y = .nilsl ∧ p = []) ∨ ∃ xs k, y = .sl 2 xs (.own k) ∧ p ≠ [] ∧ hs.tok k = true ∧ k < hs.nt ∧ xs.length = p.length ∧ ∀ (i : Nat) (h : i < xs.length) (h' : i < p.length), ElP hs n0 xs[i] p[i]
theorem ElP.up {hs hs' : HS} {n0 : Nat} {x : AV} {s : Int × List Int} (h : ElP hs n0 x s) (hn : hs.nh ≤ hs'.nh) (hh : ∀ j, n0 ≤ j → j < hs.nh → hs'.heap j = hs.heap j) : ElP hs' n0 x s := by
  obtain ⟨j, h1, h2, h3, h4⟩ := h
  exact ⟨j, h1, h2, by omega, by rw [hh j h2 h3]; exact h4⟩
theorem OutP.up {hs hs' : HS} {n0 : Nat} {y : AV} {p : List (Int × List Int)} (h : OutP hs n0 y p) (hn : hs.nh ≤ hs'.nh) (hh : ∀ j, n0 ≤ j → j < hs.nh → hs'.heap j = hs.heap j) (ht : hs'.tok = hs.tok) (hnt : hs'.nt = hs.nt) : OutP hs' n0 y p := by
  rcases h with h | ⟨xs, k, h1, h0, h2, h3, h4, h5⟩
  · exact .inl h
  · exact .inr ⟨xs, k, h1, h0, by rw [ht]; exact h2, by omega, h4, fun i a b => (h5 i a b).up hn hh⟩
theorem OutP.add {hs : HS} {n0 : Nat} {y x : AV} {p : List (Int × List Int)} {s : Int × List Int} (h : OutP hs n0 y p) (hx : ElP hs n0 x s) (hl : p.length ≤ 1000) :
    ∃ y' hs', aappend 2 hs y (.sl 2 [x] .exact) = some (y', hs') ∧ OutP hs' n0 y' (p ++ [s]) ∧ SameMem hs hs' := by
  have hq : aelemsH hs.heap (.sl 2 [x] .exact) = some [x] := rfl
  rcases h with ⟨rfl, rfl⟩ | ⟨xs, k, rfl, h0, h2, h3, h4, h5⟩
  · refine ⟨.sl 2 [x] (.own hs.nt), { hs with nt := hs.nt + 1, tok := fun t => if t = hs.nt then true else hs.tok t }, ?_, .inr ⟨[x], hs.nt, rfl, by simp, by simp, by simp, rfl, fun i a b => ?_⟩, ⟨rfl, rfl⟩⟩
    · have hp : aelemsH hs.heap .nilsl = some [] := rfl
      unfold aappend
      rw [hp, hq]
      simp only
      rw [if_pos ⟨rfl, rfl, by simp⟩, if_neg (by simp)]
    · have : i = 0 := by simp at a; exact a
      subst this
      exact hx
  · refine ⟨.sl 2 (xs ++ [x]) (.own hs.nt), { hs with nt := hs.nt + 1, tok := fun t => if t = hs.nt then true else if t = k then false else hs.tok t }, ?_, .inr ⟨xs ++ [x], hs.nt, rfl, by simp, by simp, by simp, by simp [h4], fun i a b => ?_⟩, ⟨rfl, rfl⟩⟩
    · have hp : aelemsH hs.heap (.sl 2 xs (.own k)) = some xs := rfl
      unfold aappend
      rw [hp, hq]
      simp only
      rw [if_pos ⟨rfl, rfl, by simp; omega⟩, if_neg (by simp), if_pos h2]
    · rw [List.getElem_append, List.getElem_append]
      by_cases e : i < xs.length
      · rw [dif_pos e, dif_pos (by omega)]; exact h5 i e (by omega)
      · rw [dif_neg e, dif_neg (by omega)]
        simp only [List.getElem_singleton]
        exact hx
theorem OutP.fz {hs : HS} {n0 : Nat} {y : AV} {p : List (Int × List Int)} (h : OutP hs n0 y p) : (frzC (frzL hs.heap 2) y).share = planV p := by
  rcases h with ⟨rfl, rfl⟩ | ⟨xs, k, rfl, h0, h2, h3, h4, h5⟩
  · rfl
  · rw [frzC_sl, frzL_sls, planV, outV_ne (by simpa using h0)]
    have : xs.map (frzC (frzL hs.heap 1)) = p.map stepV := by
      apply List.ext_getElem
      · simp [h4]
      · intro i a b
        have ha : i < xs.length := by simpa using a
        have hb : i < p.length := by simpa using b
        rw [List.getElem_map, List.getElem_map]
        obtain ⟨j, e, j1, j2, j3⟩ := h5 i ha hb
        rw [e]
        simp only [frzC_agg, List.map_cons, List.map_nil, frzL_int]
        rw [frzL_msl j3 (ints_cont _), map_frz_ints]
        rfl
    rw [this]
    simp only [share_sl, List.map_map, capshare_o]
    congr 1
    apply List.map_congr_left
    intro s _
    simp [stepV]
theorem planV_plain (p : List (Int × List Int)) : (planV p).plain = true := by
  unfold planV
  cases p with
  | nil => rfl
  | cons s p =>
    have : ∀ l : List (Int × List Int), plainL (l.map stepV) = true := by
      intro l
      induction l with
      | nil => rfl
      | cons a l ih => simp [plainL, stepV, AV.plain, plain_ints, ih]
    simp only [List.map_cons, outV]
    have := this (s :: p)
    simpa [AV.plain] using this
end Go.Proofs.Ytokgpcdbpkginaa
set_option linter.unusedVariables false
set_option linter.unusedSimpArgs false
namespace Go.Proofs.Ytokgpcdbpkginaa
open Go Fw

def subM (M : List (List Int)) (O : List Int) (v : Int) : List (List Int) := (List.range M.length).map fun r => (List.range M.length).map fun k => mm M r k - if O.getD r 0 = (k : Int) then v else 0
theorem subM_sub (M : List (List Int)) (O : List Int) (v : Int) : Sub M O v (subM M O v) := ⟨by simp [subM], fun r k hr hk => by unfold subM; rw [tab_mm hr hk]⟩
def vF (left : Int) (M : List (List Int)) (O : List Int) : Nat → Int
  | 0 => left
  | i + 1 => min (vF left M O i) (mm M i (O.getD i 0).toNat)
theorem vF_le (left : Int) (M : List (List Int)) (O : List Int) : ∀ i, vF left M O i ≤ left ∧ (∀ r, r < i → vF left M O i ≤ mm M r (O.getD r 0).toNat) ∧ (vF left M O i = left ∨ ∃ r, r < i ∧ vF left M O i = mm M r (O.getD r 0).toNat)
  | 0 => ⟨Int.le_refl _, fun r h => by omega, .inl rfl⟩
  | i + 1 => by
    obtain ⟨a, b, c⟩ := vF_le left M O i
    simp only [vF]
    refine ⟨by omega, fun r hr => ?_, ?_⟩
    · by_cases e : r = i
      · subst e; omega
      · have := b r (by omega); omega
    · by_cases e : mm M i (O.getD i 0).toNat < vF left M O i
      · exact .inr ⟨i, by omega, by omega⟩
      · rcases c with c | ⟨r, hr, c⟩
        · exact .inl (by omega)
        · exact .inr ⟨r, by omega, by omega⟩
abbrev PSt := Int × List (List Int) × List (Int × List Int)
def nxtP (R C0 : Nat) (x : PSt) : PSt := (x.1 - vF x.1 x.2.1 (OF x.2.1) x.2.1.length, subM x.2.1 (OF x.2.1) (vF x.1 x.2.1 (OF x.2.1) x.2.1.length), x.2.2 ++ [(vF x.1 x.2.1 (OF x.2.1) x.2.1.length, atOf R C0 (OF x.2.1))])
def stF (m : List (List Int)) (seats L : Int) : Nat → PSt
  | 0 => (L, sqM m seats L, [])
  | j + 1 => if 0 < (stF m seats L j).1 then nxtP m.length (cols m) (stF m seats L j) else stF m seats L j
def planP (m : List (List Int)) (seats : Int) : List (Int × List Int) := (stF m seats (short m seats) (short m seats).toNat).2.2
theorem stF_stop {m : List (List Int)} {seats L : Int} {j : Nat} (h : ¬ 0 < (stF m seats L j).1) : ∀ d, stF m seats L (j + d) = stF m seats L j
  | 0 => rfl
  | d + 1 => by
    have ih := stF_stop h d
    show stF m seats L (j + d + 1) = _
    rw [stF, ih, if_neg h]
def plnV (m : List (List Int)) (seats : Int) : AV := if chsE m seats = 0 then .tup [planV (planP m seats), .int .i64 0] else .tup [.nilsl, .int .i64 (chsE m seats)]
theorem plnV_plain (m : List (List Int)) (seats : Int) : (plnV m seats).plain = true := by
  unfold plnV
  split
  · simp [AV.plain, plainL, planV_plain]
  · rfl
/-- the places, the first i set -/
def atT (R C0 : Nat) (O : List Int) (i : Nat) : List Int := (List.range R).map fun r => if r < i then (if O.getD r 0 < C0 then O.getD r 0 else -1) else 0
theorem atT_0 (R C0 : Nat) (O : List Int) : atT R C0 O 0 = List.replicate R 0 := by
  rw [atT, List.eq_replicate_iff]
  refine ⟨by simp, fun b hb => ?_⟩
  simp at hb; exact hb.2.symm
theorem atT_len {R C0 : Nat} {O : List Int} {i : Nat} : (atT R C0 O i).length = R := by simp [atT]
theorem atT_s {R C0 : Nat} {O : List Int} {i : Nat} (h : i < R) {v : Int} (hv : v = if O.getD i 0 < C0 then O.getD i 0 else -1) : (atT R C0 O i).set i v = atT R C0 O (i + 1) := by
  apply List.ext_getElem
  · simp [atT]
  · intro r h1 h2
    rw [List.getElem_set]
    simp only [atT, List.getElem_map, List.getElem_range]
    split
    · rename_i e; subst e; rw [hv, if_pos (show i < i + 1 by omega)]
    · by_cases e2 : r < i
      · rw [if_pos e2, if_pos (show r < i + 1 by omega)]
      · rw [if_neg e2, if_neg (show ¬ r < i + 1 by omega)]
theorem atT_n (R C0 : Nat) (O : List Int) {i : Nat} (h : R ≤ i) : atT R C0 O i = atOf R C0 O := by
  unfold atT atOf
  exact List.map_congr_left fun r hr => by
    have : r < R := by simpa using hr
    rw [if_pos (by omega)]
set_option maxHeartbeats 4000000 in
theorem p16 {x : AV} {m : List (List Int)} {R : Nat → AV} (hx : IsM x m R) (seats : Int) : PCall Try.prog 16 [x, .int .i64 seats] (plnV m seats) := by
  obtain ⟨C, hC, k32⟩ : ∃ C, CtxOk Try.prog C ∧ C 32 [x, .int .i64 seats] = some (shV m seats) := ⟨_, D0ok.pt (p32 hx seats), by simp⟩
  refine PCall.ofZ hC ok16 (by simp) (plnV_plain _ _) fun hs hb => ?_
  simp [A16, R16, al32 hx seats k32]
  by_cases h : chsE m seats = 0
  rotate_left
  · simp [shV, plnV, h]
  obtain ⟨hw, hse⟩ := chsE_zero.1 h
  have h6 := hw.r6
  have h1 := hw.r1
  have hc6 : cols m ≤ 6 := hw.c6
  have hL := short_bd hw hse
  have r0 := hx.rlen h1
  rw [hw.len h1] at r0
  simp [shV, h]
  refine At.hc (p48 hx hw hse _) ?_ (fun v hs' h => by obtain ⟨S, h⟩ := h; obtain ⟨_, _, _, _, _, _, h, _⟩ := h; cases h)
  rintro S hs1 ⟨v, M0, is, b, X, A, Mc, hv, hM0, hMat, hi1, hi2, hb1, hE, hF, hMl, hMm⟩
  injection hv with hv; subst hv
  have hPI := PI.zero hw hL.1 hse hF hMl hMm
  clear hE hi1 hF hMm
  have hbn : ∀ r, r < m.length + (cols m + (m.length - seats.toNat)) → b r < hs1.nh := fun r hr => (hb1 r (by omega)).2
  clear hb1
  simp
  refine At.loop (fun (y : Nat × PSt) s => y.2 = stF m seats (short m seats) y.1 ∧ PI m seats (short m seats) y.2.1 y.2.2.1 y.2.2.2 ∧ y.2.1 + y.1 ≤ short m seats ∧ s.env 0 = x ∧ s.env 6 = .int .i64 y.2.1 ∧ s.env 8 = S ∧ Mat s.hs.heap S y.2.2.1 is b ∧ hs1.nh ≤ s.hs.nh ∧ OutP s.hs hs1.nh (s.env 9) y.2.2.2) (fun y => y.2.1.toNat) (0, short m seats, M0, []) ?_ ?_
  · exact ⟨by rw [hM0]; rfl, hPI, by simp, by simp, by simp, by simp, by simpa using hMat, by simp, by simp; exact .inl ⟨rfl, rfl⟩⟩
  clear hPI hMat hM0 hMl
  rintro N ⟨j, left, M, p⟩ s hN ⟨hst, hPI, hj, e0, e6, e8, hMat, hnh, hO⟩
  simp only at hst hPI hj e6 hMat hO
  simp [e6]
  refine At.dec (fun hlt => ?_) (fun hlt => ?_)
  · have hMl := hPI.Ml
    have hn1 : 1 ≤ M.length := by omega
    have hn17 : M.length < 18 := by omega
    simp [e8]
    refine At.hc (p49 (hs := s.hs) hMat (by omega) (fun r hr => by have := hbn r (by omega); omega) hPI.sq hlt hn1 hn17) ?_ (fun v hs' h => by obtain ⟨io, O, h, _⟩ := h; cases h)
    rintro v hs2 ⟨io, O, hv, hio1, hio2, hOh, hOk, hE2, hnt2, htok2, hOe⟩
    injection hv with hv; subst hv
    have hnh2 := hE2.nh
    have hMat2 : Mat hs2.heap S M is b := hMat.cong (hE2.heap _ (by omega)) fun r hr => hE2.heap _ (by have := hbn r (by omega); omega)
    have hO2 : OutP hs2 hs1.nh (s.env 9) p := hO.up hnh2 (fun j _ hj => hE2.heap j hj) htok2 hnt2
    have hlow : left ≤ 1085 := by omega
    clear hMat hO hE2
    have hidxS : ∀ i : Nat, i < M.length → aidxS 1 S (.int .i64 (i : Int)) = some (.ref is i) := fun i hi => by rw [hMat2.x]; exact aidx_msln hi
    simp [e6]
    generalize hy : s.env 9 = y at hO2
    have hOl := hOk.len
    refine At.loop (fun (i : Nat) s2 => i ≤ M.length ∧ s2.hs = hs2 ∧ s2.env 0 = x ∧ s2.env 6 = .int .i64 left ∧ s2.env 8 = S ∧ s2.env 9 = y ∧ s2.env 10 = .msl false 1 io 0 M.length true ∧ s2.env 11 = .int .i64 (vF left M O i) ∧ s2.env 35 = .msl false 1 io 0 M.length true ∧ s2.env 36 = .int .i64 (M.length : Int) ∧ s2.env 37 = .int .i64 (i : Int)) (fun i => M.length - i) 0 ?_ ?_
    · exact ⟨by omega, by simp, by simp [e0], by simp [e6], by simp [e8], by simp [hy], by simp, by simp [vF], by simp, by simp, by simp⟩
    clear e0 e6 e8 hy
    rintro N2 i s2 hN2 ⟨hi, eh, e0, e6, e8, e9, e10, e11, e35, e36, e37⟩
    simp [e36, e37]
    refine At.dec (fun hlt2 => ?_) (fun hlt2 => ?_)
    · have hi' : i < M.length := by omega
      have wi : IntKind.i64.wrap ((i : Int) + 1) = (i : Int) + 1 := wrap64 (by omega) (by omega)
      obtain ⟨k, hk, ek, hne⟩ := hOk.ex i hi'
      have hiO : i < O.length := by omega
      have ekO : O[i] = (k : Int) := by rw [← getD_of hiO]; exact ek
      have hldO := ld_ints hOh hiO
      rw [ekO] at hldO
      have hldr := hMat2.ld hi'
      have hrow := hMat2.row i hi'
      have hrl := hMat2.len i hi'
      have hkr : k < (M.getD i []).length := by omega
      have hldc := ld_ints hrow hkr
      have hmm : (M.getD i [])[k] = mm M i k := by unfold mm; rw [getD_of hkr]
      rw [hmm] at hldc
      have hmin : min (vF left M O i) (mm M i k) = vF left M O (i + 1) := by simp only [vF]; rw [ek, show ((k : Int)).toNat = k by omega]
      simp [e8, e11, e35, e37, eh, hi', hldO, hidxS i hi', hldr, hk, hldc]
      refine hN2 (i + 1) _ (by omega) ⟨by omega, by simp [eh], by simp [e0], by simp [e6], by simp [e8], by simp [e9], by simp [e10], by simp [← hmin, Int.min_def], by simp [e35], by simp [e36], by simp [wi]⟩
    · have : i = M.length := by omega
      subst this
      subst eh
      have hv := vF_le left M O M.length
      have hO3 := hO2
      generalize hvv : vF left M O M.length = v at *
      have hstep := fun hM' => hPI.step (M' := subM M O v) hse h1 hlow hOk hv.1 hv.2.1 (hv.2.2.imp (fun e => ⟨e, hlt⟩) id) hM'
      obtain ⟨hv1, hPI2⟩ := hstep (subM_sub M O v)
      clear hstep
      have mk : ∀ (z : AV) (hs : HS) (n : Nat), n ≤ 1000 → amake false 1 [z] hs (.int .i64 (n : Int)) (.int .i64 (n : Int)) = some (.msl false 1 hs.nh 0 n true, hs.blk (List.replicate n z)) := fun z hs n hn => amake_eq (k1 := .i64) (k2 := .i64) (z := z) (hs := hs) (n := n) (by omega)
      simp [e0, e11, hx.len, mk _ _ m.length (by omega), afill, setL, ci, cm, si, sm]
      have hst1 := store_ag (hp := fun j => if j = s2.hs.nh + 1 then some [AV.int .i64 0, .nilsl] else (s2.hs.blk (List.replicate m.length (AV.int .i64 0))).heap j) (i := s2.hs.nh + 1) (u1 := .int .i64 0) (u2 := .nilsl) (v1 := .int .i64 v) (v2 := .msl false 1 s2.hs.nh 0 m.length true) (by simp)
      simp [hst1, e10]
      generalize hjt : s2.hs.nh = jt at *
      refine At.loop (fun (z : Nat × List (List Int)) s3 => z.1 ≤ M.length ∧ z.2.length = M.length ∧ (∀ r k : Nat, r < M.length → k < M.length → mm z.2 r k = mm M r k - if r < z.1 ∧ O.getD r 0 = k then v else 0) ∧ s3.env 0 = x ∧ s3.env 6 = .int .i64 left ∧ s3.env 8 = S ∧ s3.env 9 = y ∧ s3.env 11 = .int .i64 v ∧ s3.env 14 = .ref (jt + 1) 0 ∧ s3.env 57 = .msl false 1 io 0 M.length true ∧ s3.env 58 = .int .i64 (M.length : Int) ∧ s3.env 59 = .int .i64 (z.1 : Int) ∧
        Mat s3.hs.heap S z.2 is b ∧ s3.hs.heap jt = some (ints (atT m.length (cols m) O z.1)) ∧ s3.hs.heap (jt + 1) = some [.int .i64 v, .msl false 1 jt 0 m.length true] ∧ s3.hs.nh = jt + 2 ∧ s3.hs.nt = s2.hs.nt ∧ s3.hs.tok = s2.hs.tok ∧ ∀ j, hs1.nh ≤ j → j < jt → s3.hs.heap j = s2.hs.heap j) (fun z => M.length - z.1) (0, M) ?_ ?_
      · refine ⟨by omega, rfl, fun r k _ _ => by simp, by simp [e0], by simp [e6], by simp [e8], by simp [e9], by simp [e11], by simp, by simp, by simp, by simp, ?_, ?_, by simp, by simp, by simp [HS.blk], by simp [HS.blk], fun j h1 h2 => ?_⟩
        · refine hMat2.cong ?_ fun r hr => ?_
          · show (if is = jt + 1 then _ else if is = jt + 1 then _ else (HS.blk s2.hs _).heap is) = _
            rw [if_neg (by omega), if_neg (by omega), HS.blk_old (by omega)]
          · have := hbn r (by omega)
            show (if b r = jt + 1 then _ else if b r = jt + 1 then _ else (HS.blk s2.hs _).heap (b r)) = _
            rw [if_neg (by omega), if_neg (by omega), HS.blk_old (by omega)]
        · show (if jt = jt + 1 then _ else if jt = jt + 1 then _ else (HS.blk s2.hs _).heap jt) = _
          rw [if_neg (by omega), if_neg (by omega), ← hjt, HS.blk_new, ints_rep, atT_0]
        · show (if j = jt + 1 then _ else if j = jt + 1 then _ else (HS.blk s2.hs _).heap j) = _
          rw [if_neg (by omega), if_neg (by omega), HS.blk_old (by omega)]
      clear hst1 e0 e6 e8 e9 e10 e11 e35 e36 e37 hN2
      rintro N3 ⟨i, M1⟩ s3 hN3 ⟨hi, hM1l, hPt, e0, e6, e8, e9, e11, e14, e57, e58, e59, hMat1, hat, hc14, hnh3, hnt3, htok3, hkeep⟩
      simp only at hi hM1l hPt e59 hMat1 hat
      simp [e58, e59]
      refine At.dec (fun hlt3 => ?_) (fun hlt3 => ?_)
      · have hi' : i < M.length := by omega
        have wi : IntKind.i64.wrap ((i : Int) + 1) = (i : Int) + 1 := wrap64 (by omega) (by omega)
        obtain ⟨k, hk, ek, hne⟩ := hOk.ex i hi'
        have hiO : i < O.length := by omega
        have ekO : O[i] = (k : Int) := by rw [← getD_of hiO]; exact ek
        have hldO := ld_ints (hp := s3.hs.heap) (by rw [hkeep io (by omega) (by omega)]; exact hOh) hiO
        rw [ekO] at hldO
        have hldr := hMat1.ld (r := i) (by omega)
        rw [hM1l] at hldr
        have hrow := hMat1.row i (by omega)
        have hrl := hMat1.len i (by omega)
        have hkr : k < (M1.getD i []).length := by omega
        have hldc := ld_ints hrow hkr
        have hmm : (M1.getD i [])[k] = mm M i k := by
          have := hPt i k hi' hk
          rw [if_neg (by omega)] at this
          unfold mm at this ⊢
          rw [getD_of hkr] at this
          omega
        have hvc := hv.2.1 i hi'
        rw [ek, show ((k : Int)).toNat = k by omega] at hvc
        have hcl := hPI.sq.le hi' hk
        have hcn := hPI.sq.nn i k hi' hk
        have wc : IntKind.i64.wrap (mm M i k - v) = mm M i k - v := wrap64 (by omega) (by omega)
        rw [hmm] at hldc
        have hst := st_ints (v := mm M i k - v) hrow hkr
        have hM2 := hMat1.setRow (r := i) (by omega) (l := (M1.getD i []).set k (mm M i k - v)) (by rw [List.length_set]; exact hrl)
        have hPt2 : ∀ r k' : Nat, r < M.length → k' < M.length → mm (M1.set i ((M1.getD i []).set k (mm M i k - v))) r k' = mm M r k' - if r < i + 1 ∧ O.getD r 0 = k' then v else 0 := by
          intro r k' hr hk'
          have := hPt r k' hr hk'
          unfold mm at this ⊢
          rw [getD_setX (by omega)]
          by_cases e : r = i
          · subst e
            rw [if_pos rfl, getD_set hkr]
            by_cases e2 : k' = k
            · subst e2
              rw [if_pos rfl, if_pos ⟨by omega, ek⟩]
            · rw [if_neg e2, if_neg (by omega)]
              rw [if_neg (by omega)] at this
              exact this
          · rw [if_neg e, this]
            congr 1
            by_cases e2 : r < i ∧ O.getD r 0 = (k' : Int)
            · rw [if_pos e2, if_pos ⟨by omega, e2.2⟩]
            · rw [if_neg e2, if_neg (fun h => e2 ⟨by omega, h.2⟩)]
        have hbi := hbn i (by omega)
        generalize hrw : M1.getD i [] = rw0 at *
        generalize hz1 : ints (rw0.set k (mm M i k - v)) = z1 at *
        generalize hG : (fun j => if j = b i then some z1 else s3.hs.heap j) = G at hM2 hst
        have G1 : ∀ j, hs1.nh ≤ j → G j = s3.hs.heap j := fun j hj => by rw [← hG]; simp only; rw [if_neg (by omega)]
        have hld14 : aload G false 1 (.ref (jt + 1) 1) = some (.msl false 1 jt 0 m.length true) := by
          simp only [la]
          rw [G1 _ (by omega), hc14]
          rfl
        simp [e0, e8, e11, e57, e59, hi', hldO, hidxS i hi', hldr, hk, hldc, wc, hst, hx.len]
        generalize hM2e : M1.set i (rw0.set k (mm M i k - v)) = M2 at *
        have hM2l : M2.length = M.length := by rw [← hM2e, List.length_set]; exact hM1l
        refine At.dec (fun hiR => ?_) (fun hiR => ?_)
        · have hat1 : G jt = some (ints (atT m.length (cols m) O i)) := by rw [G1 _ (by omega)]; exact hat
          have hsa := st_ints (v := (k : Int)) hat1 (o := i) (by rw [atT_len]; exact hiR)
          have hgt : ∀ w : Int, ((atT m.length (cols m) O i).set i w).length = m.length := fun w => by rw [List.length_set, atT_len]
          have hs1 : (atT m.length (cols m) O i).set i (if (cols m : Int) ≤ (k : Int) then -1 else (k : Int)) = atT m.length (cols m) O (i + 1) := atT_s hiR (by rw [ek]; split <;> split <;> omega)
          generalize hz2 : ints ((atT m.length (cols m) O i).set i (k : Int)) = z2 at *
          generalize hG2 : (fun j => if j = jt then some z2 else G j) = G2 at hsa
          have G2o : ∀ j, j ≠ jt → G2 j = G j := fun j hj => by rw [← hG2]; simp only; rw [if_neg hj]
          have G2j : G2 jt = some z2 := by rw [← hG2]; simp
          have hMat3 : Mat G2 S M2 is b := hM2.cong (G2o _ (by omega)) fun r hr => G2o _ (by have := hbn r (by omega); omega)
          have hld15 : aload G2 false 1 (.ref (jt + 1) 1) = some (.msl false 1 jt 0 m.length true) := by
            simp only [la]
            rw [G2o _ (by omega), G1 _ (by omega), hc14]
            rfl
          simp [e0, e14, fa, hld14, hiR, hsa, hx.get0 h1, hx.ld h1, r0]
          refine At.dec (fun hge => ?_) (fun hge => ?_)
          · rw [if_pos (by omega)] at hs1
            have hsa2 := st_ints (hp := G2) (i := jt) (l := (atT m.length (cols m) O i).set i (k : Int)) (v := (-1 : Int)) (o := i) (by rw [G2j, hz2]) (by rw [hgt]; exact hiR)
            rw [List.set_set, hs1] at hsa2
            generalize hz3 : ints (atT m.length (cols m) O (i + 1)) = z3 at *
            generalize hG3 : (fun j => if j = jt then some z3 else G2 j) = G3 at hsa2
            have G3o : ∀ j, j ≠ jt → G3 j = G2 j := fun j hj => by rw [← hG3]; simp only; rw [if_neg hj]
            have G3j : G3 jt = some z3 := by rw [← hG3]; simp
            simp [e14, fa, hld15, hiR, hsa2, e59]
            refine hN3 (i + 1, M2) _ (by simp only; omega) ⟨by simp only; omega, hM2l, hPt2, by simp [e0], by simp [e6], by simp [e8], by simp [e9], by simp [e11], by simp [e14], by simp [e57], by simp [e58], by simp [wi], ?_, ?_, ?_, by simp [hnh3], by simp [hnt3], by simp [htok3], fun j h1 h2 => ?_⟩
            · simp only [put_hs]; exact hMat3.cong (G3o _ (by omega)) fun r hr => G3o _ (by have := hbn r (by omega); omega)
            · simp only [put_hs]; rw [G3j, hz3]
            · simp only [put_hs]; rw [G3o _ (by omega), G2o _ (by omega), G1 _ (by omega), hc14]
            · simp only [put_hs]; rw [G3o _ (by omega), G2o _ (by omega), G1 _ h1, hkeep j h1 h2]
          · rw [if_neg (by omega)] at hs1
            simp [e59]
            refine hN3 (i + 1, M2) _ (by simp only; omega) ⟨by simp only; omega, hM2l, hPt2, by simp [e0], by simp [e6], by simp [e8], by simp [e9], by simp [e11], by simp [e14], by simp [e57], by simp [e58], by simp [wi], ?_, ?_, ?_, by simp [hnh3], by simp [hnt3], by simp [htok3], fun j h1 h2 => ?_⟩
            · simp only [put_hs]; exact hMat3
            · simp only [put_hs]; rw [G2j, ← hz2, hs1]
            · simp only [put_hs]; rw [G2o _ (by omega), G1 _ (by omega), hc14]
            · simp only [put_hs]; rw [G2o _ (by omega), G1 _ h1, hkeep j h1 h2]
        · simp [e59]
          refine hN3 (i + 1, M2) _ (by simp only; omega) ⟨by simp only; omega, hM2l, hPt2, by simp [e0], by simp [e6], by simp [e8], by simp [e9], by simp [e11], by simp [e14], by simp [e57], by simp [e58], by simp [wi], by simp only [put_hs]; exact hM2, ?_, ?_, by simp [hnh3], by simp [hnt3], by simp [htok3], fun j h1 h2 => ?_⟩
          · simp only [put_hs]; rw [G1 _ (by omega), hat, atT_n _ _ _ (by omega), atT_n _ _ _ (by omega)]
          · simp only [put_hs]; rw [G1 _ (by omega), hc14]
          · simp only [put_hs]; rw [G1 _ h1, hkeep j h1 h2]
      · have : i = M.length := by omega
        subst this
        rw [atT_n _ _ _ (by have := hPI.Ml; omega)] at hat
        have hMe : M1 = subM M O v := sq_ext hM1l (by simp [subM]) (fun r hr => by rw [hMat1.len r (by omega)]; exact hM1l) (fun r hr => by unfold subM; rw [tab_row hr]; simp) (fun r k hr hk => by
          rw [hPt r k hr hk, (subM_sub M O v).cell r k hr hk]
          congr 1
          by_cases e : O.getD r 0 = (k : Int)
          · rw [if_pos e, if_pos ⟨hr, e⟩]
          · rw [if_neg e, if_neg (fun h => e h.2)])
        have hEl : ElP s3.hs hs1.nh (.agg [.int .i64 v, .msl false 1 jt 0 m.length true]) (v, atOf m.length (cols m) O) := ⟨jt, by simp [atOf_len], by omega, by omega, hat⟩
        have hO4 : OutP s3.hs hs1.nh y p := hO3.up (by omega) (fun j a b => hkeep j a (by omega)) htok3 hnt3
        have hpl : p.length ≤ 1000 := by have := hPI.nz; have := nz_nn M; omega
        obtain ⟨y', hs4, b1, b2, b3⟩ := hO4.add hEl hpl
        have wl : IntKind.i64.wrap (left - v) = left - v := wrap64 (by have := hv.1; omega) (by omega)
        have hld : aload s3.hs.heap true 2 (.ref (jt + 1) 0) = some (.agg [.int .i64 v, .msl false 1 jt 0 m.length true]) := by
          simp only [la]
          rw [hc14]
          rfl
        have hnext : stF m seats (short m seats) (j + 1) = (left - v, subM M O v, p ++ [(v, atOf m.length (cols m) O)]) := by
          rw [stF, ← hst, if_pos hlt]
          simp only [nxtP]
          rw [← hOe, hvv]
        simp [e6, e9, e11, e14, hld, astoAll, sa, ca, b1, wl]
        refine hN (j + 1, left - v, subM M O v, p ++ [(v, atOf m.length (cols m) O)]) _ (by simp only; omega) ⟨hnext.symm, hPI2, by simp only; omega, by simp [e0], by simp, by simp [e8], ?_, by simp [b3.nh, hnh3]; omega, by simpa using b2⟩
        simp only [put_hs]
        rw [← hMe, b3.heap]; exact hMat1
  · have hl0 : left = 0 := by have := hPI.l0; omega
    have hstop : stF m seats (short m seats) (short m seats).toNat = stF m seats (short m seats) j := by
      have := stF_stop (m := m) (seats := seats) (L := short m seats) (j := j) (by rw [← hst]; exact hlt) ((short m seats).toNat - j)
      rwa [show j + ((short m seats).toNat - j) = (short m seats).toNat by omega] at this
    have hp : planP m seats = p := by unfold planP; rw [hstop, ← hst]
    simp [plnV, h, hp, hO.fz]
end Go.Proofs.Ytokgpcdbpkginaa
set_option linter.unusedVariables false
set_option linter.unusedSimpArgs false
namespace Go.Proofs.Ytokgpcdbpkginaa
open Go Fw

theorem rowF_fin {m : List (List Int)} {L : Int} {t : Nat} {X : List (List Int)} {A Mc : List Int} (h : Fil m L t X A Mc) (hL : 0 ≤ L) : ∀ i, i ≤ m.length → Fin1 m L t i (rowF L X A i).1 (rowF L X A i).2.1 (rowF L X A i).2.2 Mc
  | 0, _ => h.start hL
  | i + 1, hi => ((rowF_fin h hL i (by omega)).step (by omega)).1
theorem colF_fil {m : List (List Int)} (hw : OkW m) {seats : Int} (hse : 1 ≤ seats ∧ seats ≤ 6) (hs : tot m ≤ seats * short m seats) : ∀ t, t ≤ m.length - seats.toNat → Fil m (short m seats) t (colF m (short m seats) t).1 (colF m (short m seats) t).2.1 (colF m (short m seats) t).2.2
  | 0, _ => Fil.zero hw
  | t + 1, ht => by
    have ih := colF_fil hw hse hs t (by omega)
    have hL := (short_bd hw hse).1
    have := rowF_fin ih hL m.length (Nat.le_refl _)
    obtain ⟨e, h⟩ := this.done (seats := seats) hs (by omega) hL
    simp only [colF]
    rw [e, Int.sub_zero] at h
    exact h
theorem wf_pld {M : List (List Int)} {L : Int} (hS : Sqr M L) (hL : 0 < L) : ∀ i, i ≤ M.length → Pld M i (WF M i)
  | 0, _ => Pld.zero M
  | i + 1, hi => (wf_pld hS hL i (by omega)).next hS hL (by omega) (T := List.replicate M.length false) (by simp) (fun k => isT_f) (f := M.length) (by simp [unt])
theorem ol_ok {M : List (List Int)} (hP : Pld M M.length (WF M M.length)) : ∀ k, k ≤ M.length → (OL M k).length = M.length ∧ ∀ j, j < k → (OL M k).getD ((WF M M.length).getD j 0).toNat 0 = (j : Int)
  | 0, _ => ⟨by simp [OL], fun j h => by omega⟩
  | k + 1, hk => by
    obtain ⟨h1, h2⟩ := ol_ok hP k (by omega)
    obtain ⟨r, hr, er⟩ := hP.val (show k < M.length by omega)
    have hrl : ((WF M M.length).getD k 0).toNat < (OL M k).length := by rw [er, h1]; omega
    refine ⟨by simp [OL, h1], fun j hj => ?_⟩
    simp only [OL]
    rw [getD_set hrl]
    by_cases e : j = k
    · subst e; rw [if_pos rfl]
    · rw [if_neg]
      · exact h2 j (by omega)
      · intro e2
        obtain ⟨r2, hr2, er2⟩ := hP.val (show j < M.length by omega)
        exact e (hP.one (by omega) (by omega) (by rw [er2, er]; rw [er2, er] at e2; omega))
theorem of_ok {M : List (List Int)} {L : Int} (hS : Sqr M L) (hL : 0 < L) : MOk M (OF M) := by
  have hP := wf_pld hS hL M.length (Nat.le_refl _)
  obtain ⟨h1, h2⟩ := ol_ok hP M.length (Nat.le_refl _)
  exact mOk_of hP h1 fun k hk => h2 k hk
theorem tot_le {m : List (List Int)} (hw : OkW m) {seats : Int} (hse : 1 ≤ seats ∧ seats ≤ 6) : tot m ≤ seats * short m seats := by
  have := short_ge hw 2 (seats := seats) (upN m seats) (by simp [bndL])
  have e : tot m ≤ seats * upN m seats := by
    unfold upN
    have := Int.lt_mul_ediv_self_add (x := tot m + seats - 1) (k := seats) (by omega)
    omega
  exact Int.le_trans e (Int.mul_le_mul_of_nonneg_left this (by omega))
theorem stF_pi {m : List (List Int)} (hw : OkW m) {seats : Int} (hse : 1 ≤ seats ∧ seats ≤ 6) : ∀ j, PI m seats (short m seats) (stF m seats (short m seats) j).1 (stF m seats (short m seats) j).2.1 (stF m seats (short m seats) j).2.2 ∧ ((stF m seats (short m seats) j).1 = 0 ∨ (stF m seats (short m seats) j).1 + j ≤ short m seats)
  | 0 => by
    have hL := (short_bd hw hse).1
    have hF := colF_fil hw hse (tot_le hw hse) _ (Nat.le_refl _)
    refine ⟨PI.zero hw hL hse hF (M := sqM m seats (short m seats)) (by simp [sqM]) fun r k hr hk => ?_, .inr (by simp [stF])⟩
    have hn : (sqM m seats (short m seats)).length = m.length + (cols m + (m.length - seats.toNat)) := by simp [sqM]
    unfold sqM
    exact tab_mm (by omega) (by omega)
  | j + 1 => by
    obtain ⟨hP, hb⟩ := stF_pi hw hse j
    have hL := short_bd hw hse
    simp only [stF]
    split
    · rename_i hpos
      generalize stF m seats (short m seats) j = x at *
      have hlb : x.1 ≤ 1085 := by omega
      have hO := of_ok hP.sq hpos
      have hv := vF_le x.1 x.2.1 (OF x.2.1) x.2.1.length
      obtain ⟨a, b⟩ := hP.step hse hw.r1 hlb hO hv.1 hv.2.1 (hv.2.2.imp (fun e => ⟨e, hpos⟩) id) (subM_sub _ _ _)
      refine ⟨b, ?_⟩
      simp only [nxtP]
      omega
    · exact ⟨hP, .inl (by have := hP.l0; omega)⟩
/-- a plan that is right -/
structure Good (m : List (List Int)) (seats : Int) (p : List (Int × List Int)) : Prop where
  st : ∀ s ∈ p, StepOk m seats s
  rem : ∀ i k, i < m.length → k < cols m → remP m p i k = 0
  tot : (p.map Prod.fst).sum = short m seats
  len : p.length ≤ 149
theorem plan_good {m : List (List Int)} (hw : OkW m) {seats : Int} (hse : 1 ≤ seats ∧ seats ≤ 6) : Good m seats (planP m seats) := by
  obtain ⟨hP, hb⟩ := stF_pi hw hse (short m seats).toNat
  have hL := short_bd hw hse
  have h0 : (stF m seats (short m seats) (short m seats).toNat).1 = 0 := by
    have := hP.l0; omega
  rw [h0] at hP
  have hn := nz_nn (stF m seats (short m seats) (short m seats).toNat).2.1
  have hl := hP.nz
  have hMl := hP.Ml
  refine ⟨hP.st, fun i k hi hk => ?_, by have := hP.tot; rw [Int.sub_zero] at this; exact this, by unfold planP; omega⟩
  have a := hP.rem i k hi hk
  have b := hP.sq.le (r := i) (k := k) (by omega) (by omega)
  have c := hP.sq.nn i k (by omega) (by omega)
  unfold planP
  omega
end Go.Proofs.Ytokgpcdbpkginaa
set_option linter.unusedVariables false
set_option linter.unusedSimpArgs false
namespace Go.Proofs.Ytokgpcdbpkginaa
open Go Fw

/-- the machines' turns in a step -/
def cnts (C0 : Nat) (l : List Int) : List Int := (List.range C0).map fun (k : Nat) => ((l.count (k : Int) : Nat) : Int)
def stepE (m : List (List Int)) (seats : Int) (s : Int × List Int) : Int :=
  if s.2.length ≠ m.length then 3 else if btw 1 s.1 1100 = false then 4 else if (s.2.any fun v => !btw (-1) v ((cols m : Int) - 1)) = true then 5
  else if 1 < gtr 0 (cnts (cols m) s.2) then 6 else if seats < (cnts (cols m) s.2).sum then 16 else 0
theorem p74 {hs : HS} {q : Nat} {n v : Int} (hn : 1 ≤ n ∧ n ≤ 6) (hq : hs.heap q = some [.int .i64 n]) : FCall Try.prog 74 [.int .i64 v, .ref q 0] hs fun e hs' => e = .ret (.bool (!btw (-1) v (n - 1))) ∧ hs' = hs := by
  have w : IntKind.i64.wrap (n - 1) = n - 1 := wrap64 (by omega) (by omega)
  refine FCall.ofAt D0ok ok74 (by simp) ?_
  simp [A74, R74, load_one hq, w]
theorem p58 (n : Int) : PCall Try.prog 58 [.int .i64 n] (.bool (!decide (n = 0))) := by
  refine PCall.of D0ok ok58 (by simp) rfl fun hs hb => ?_
  simp [A58, R58]
theorem p60 {n : Int} {a : AV} (ha : a.leaf = true) : PCall Try.prog 60 [.agg [.int .i64 n, a]] (.int .i64 n) := by
  have li : ∀ (k : IntKind) (n : Int) hp, aload hp false 1 (.ptr (.int k n)) = some (.int k n) := fun k n hp => rfl
  refine PCall.of D0ok ok60 (by simp) rfl fun hs hb => ?_
  simp [A60, R60, sa, afaddr, ca, apart, li]
/-- turns while the places are read -/
theorem cnts_len (C0 : Nat) (l : List Int) : (cnts C0 l).length = C0 := by simp [cnts]
theorem cnts_get {C0 : Nat} {l : List Int} {k : Nat} (h : k < (cnts C0 l).length) : (cnts C0 l)[k] = (l.count (k : Int) : Int) := by simp [cnts]
theorem cnts_s {C0 : Nat} {l : List Int} {i k : Nat} (hi : i < l.length) (hk : k < C0) (e : l[i] = (k : Int)) : (cnts C0 (l.take i)).set k (((l.take i).count (k : Int) : Int) + 1) = cnts C0 (l.take (i + 1)) := by
  apply List.ext_getElem
  · simp [cnts]
  · intro j h1 h2
    rw [List.getElem_set, cnts_get h2, take_snoc hi, List.count_append, e]
    split
    · rename_i e2; subst e2; simp
    · rename_i e2
      rw [cnts_get, List.count_cons_of_ne (by intro h; omega)]
      simp
theorem cnts_n {C0 : Nat} {l : List Int} {i : Nat} (hi : i < l.length) (e : l[i] = -1) : cnts C0 (l.take i) = cnts C0 (l.take (i + 1)) := by
  unfold cnts
  exact List.map_congr_left fun k _ => by
    rw [take_snoc hi, List.count_append, e, List.count_cons_of_ne (by intro h; omega)]
    simp
theorem p55 {x : AV} {m : List (List Int)} {R : Nat → AV} (hx : IsM x m R) (hw : OkW m) {seats : Int} (hse : 1 ≤ seats ∧ seats ≤ 6) {a : AV} {s : Int × List Int} (ha : rowI a = some s.2) :
    PCall Try.prog 55 [x, .int .i64 seats, .agg [.int .i64 s.1, a]] (.int .i64 (stepE m seats s)) := by
  have h6 := hw.r6
  have h1 := hw.r1
  have hc1 : 1 ≤ cols m := hw.c1
  have hc6 : cols m ≤ 6 := hw.c6
  have r0 := hx.rlen h1
  rw [hw.len h1] at r0
  have li : ∀ (k : IntKind) (n : Int) hp, aload hp false 1 (.ptr (.int k n)) = some (.int k n) := fun k n hp => rfl
  have lal : ∀ hp, aload hp false 1 (.ptr a) = some a := leaf_ld (rowI_leaf ha)
  obtain ⟨C, hC, k65, k67, k64⟩ : ∃ C, CtxOk Try.prog C ∧ (∀ y l, asI y = some l → ((∀ n ∈ l, 0 ≤ n) ∧ l.sum ≤ 1000000000) → C 65 [y, .fn (.func 66) [] []] = some (.int .i64 l.sum)) ∧ (∀ y l, asI y = some l → (0 < l.length) → C 67 [y] = some (.int .i64 (gtr (l.getD 0 0) (l.drop 1)))) ∧ C 64 = SBtw := by
    obtain ⟨C, hC, k65, n65⟩ := ctx_lg D0ok (f := 65) (zs := [.fn (.func 66) [] []]) (fun (l : List Int) => (∀ n ∈ l, 0 ≤ n) ∧ l.sum ≤ 1000000000) (r := fun l => .int .i64 l.sum) (fun {y l} hy hg => p65 hy hg.1 hg.2)
    obtain ⟨C2, hC2, k67, n67⟩ := ctx_lg hC (f := 67) (zs := []) (fun (l : List Int) => 0 < l.length) (r := fun l => .int .i64 (gtr (l.getD 0 0) (l.drop 1))) (fun {y l} hy hg => p67 hy hg)
    exact ⟨C2, hC2, fun y l a b => by rw [n67 65 (by decide)]; exact k65 y l a b, k67, by rw [n67 64 (by decide), n65 64 (by decide)]; funext a; simp⟩
  refine PCall.of hC ok55 (by simp) rfl fun hs hb => ?_
  have hst0 := store_one (hp := fun j => if j = hs.nh then some [AV.int .i64 0] else hs.heap j) (i := hs.nh) (u := .int .i64 0) (v := .int .i64 (cols m)) (by simp) rfl rfl
  have w1 : IntKind.i64.wrap ((cols m : Int) - 1) = (cols m : Int) - 1 := wrap64 (by omega) (by omega)
  simp [A55, R55, sa, hx.get0 h1, hx.ld h1, r0, hst0, afaddr, ca, apart, lal, rowI_len ha, hx.len, li, k64]
  refine At.decn (fun hl => ?_) (fun hl => ?_)
  rotate_left
  · have : s.2.length ≠ m.length := by omega
    simp [stepE, this]
  have hl' : s.2.length = m.length := by omega
  have ha := rowI_ne ha (by omega)
  simp [li, k64]
  cases hb1 : btw 1 s.1 1100 with
  | false => simp [stepE, hl', hb1]
  | true =>
  simp [lal]
  refine At.hc (f56 ha (q := fun i => !btw (-1) (s.2.getD i 0) ((cols m : Int) - 1)) (a1 := []) (a2 := [.ref hs.nh 0]) fun i hi => by
    have := p74 (hs := ⟨fun j => if j = hs.nh then some [AV.int .i64 (cols m)] else if j = hs.nh then some [AV.int .i64 0] else hs.heap j, hs.nh + 1, hs.nt, hs.tok, hs.mp⟩) (q := hs.nh) (n := cols m) (v := s.2[i]) (by omega) (by simp)
    simpa [getD_of hi, hi] using this) ?_ (fun v hs' h => by cases h.1)
  rintro v hs2 ⟨hv, rfl⟩
  injection hv with hv; subst hv
  rw [any_range (f := fun v => !btw (-1) v ((cols m : Int) - 1))]
  cases hb2 : (s.2.any fun v => !btw (-1) v ((cols m : Int) - 1)) with
  | true => simp [stepE, hl', hb1, hb2]
  | false =>
  have hpl : ∀ i (h : i < s.2.length), s.2[i] = -1 ∨ ∃ k : Nat, k < cols m ∧ s.2[i] = k := fun i h => by
    have := List.any_eq_false.1 hb2 s.2[i] (List.getElem_mem _)
    simp [btw] at this
    rcases Int.lt_or_le s.2[i] 0 with h2 | h2
    · exact .inl (by omega)
    · exact .inr ⟨s.2[i].toNat, by omega, by omega⟩
  have mk : ∀ (hs : HS), amake false 1 [.int .i64 0] hs (.int .i64 (cols m : Int)) (.int .i64 (cols m : Int)) = some (.msl false 1 hs.nh 0 (cols m) true, hs.blk (List.replicate (cols m) (.int .i64 0))) := fun hs => amake_eq (k1 := .i64) (k2 := .i64) (z := .int .i64 0) (hs := hs) (n := cols m) (by omega)
  have hz : List.replicate (cols m) (AV.int .i64 0) = ints (cnts (cols m) (s.2.take 0)) := by
    rw [ints_rep]; congr 1
    symm
    rw [cnts, List.eq_replicate_iff]
    exact ⟨by simp, fun b hb => by simp at hb; exact hb.2.symm⟩
  simp [la, apart, mk, afaddr, ca, lal, alen_of ha]
  rw [hz]
  refine At.loop (fun (i : Nat) s2 => i ≤ s.2.length ∧ s2.env 1 = .int .i64 seats ∧ s2.env 8 = .msl false 1 (hs.nh + 1) 0 (cols m) true ∧ s2.env 35 = a ∧ s2.env 36 = .int .i64 (s.2.length : Int) ∧ s2.env 37 = .int .i64 (i : Int) ∧ s2.hs.heap (hs.nh + 1) = some (ints (cnts (cols m) (s.2.take i))) ∧ hs.nh + 1 < s2.hs.nh) (fun i => s.2.length - i) 0 ?_ ?_
  · exact ⟨by omega, by simp, by simp, by simp, by simp, by simp, by simp [HS.blk], by simp⟩
  rintro N i s2 hN ⟨hi, e1, e8, e35, e36, e37, hh, hn⟩
  simp [e36, e37]
  refine At.dec (fun hlt => ?_) (fun hlt => ?_)
  · have hi' : i < s.2.length := by omega
    have wi : IntKind.i64.wrap ((i : Int) + 1) = (i : Int) + 1 := wrap64 (by omega) (by omega)
    rcases hpl i hi' with e | ⟨k, hk, e⟩
    · simp [e35, e37, aidx_nat ha hi', e]
      refine hN (i + 1) _ (by omega) ⟨by omega, by simp [e1], by simp [e8], by simp [e35], by simp [e36], by simp [wi], by rw [← cnts_n hi' e]; simpa using hh, by simpa using hn⟩
    · have hkl : k < (cnts (cols m) (s.2.take i)).length := by rw [cnts_len]; exact hk
      have hld := ld_ints hh hkl
      rw [cnts_get] at hld
      have hct : (s.2.take i).count (k : Int) ≤ 6 := Nat.le_trans List.count_le_length (by rw [List.length_take]; omega)
      have wc : IntKind.i64.wrap (((s.2.take i).count (k : Int) : Int) + 1) = ((s.2.take i).count (k : Int) : Int) + 1 := wrap64 (by omega) (by omega)
      have hst := st_ints (v := ((s.2.take i).count (k : Int) : Int) + 1) hh hkl
      rw [cnts_s hi' hk e] at hst
      generalize hz2 : ints (cnts (cols m) (s.2.take (i + 1))) = z2 at *
      simp [e8, e35, e37, aidx_nat ha hi', e, show ¬ ((k : Int) = -1) by omega, hk, hld, wc, hst]
      refine hN (i + 1) _ (by omega) ⟨by omega, by simp [e1], by simp [e8], by simp [e35], by simp [e36], by simp [wi], by rw [hz2]; simp, by simpa using hn⟩
  · have : i = s.2.length := by omega
    subst this
    rw [List.take_length] at hh
    have hcl := cnts_len (cols m) s.2
    have hnn : ∀ n ∈ cnts (cols m) s.2, 0 ≤ n ∧ n ≤ 6 := fun n hn => by
      obtain ⟨k, hk, rfl⟩ := List.getElem_of_mem hn
      rw [cnts_get]
      have := List.count_le_length (a := (k : Int)) (l := s.2)
      omega
    have hsum := sum_bd (b := 6) hnn
    rw [hcl] at hsum
    have hRd : RdI s2.hs.nh s2.hs.heap (.msl false 1 (hs.nh + 1) 0 (cols m) true) (cnts (cols m) s.2) := ⟨by omega, .inr (.inr ⟨hs.nh + 1, true, by rw [hcl], hn, hh⟩)⟩
    have hl1 : alcall C 67 s2.hs [.msl false 1 (hs.nh + 1) 0 (cols m) true] = some (.int .i64 (gtr 0 (cnts (cols m) s.2))) := alcall_of (by
      have := k67 _ _ (hRd.frz 1) (by omega)
      rw [gtr_hd (fun n hn => (hnn n hn).1) (by omega)] at this
      simpa using this) rfl
    have hl2 : alcall C 65 s2.hs [.msl false 1 (hs.nh + 1) 0 (cols m) true, .fn (.func 66) [] []] = some (.int .i64 (cnts (cols m) s.2).sum) := alcall_of (by
      have := k65 _ _ (hRd.frz 1) ⟨fun n hn => (hnn n hn).1, by omega⟩
      simpa using this) rfl
    simp [e8, hl1]
    refine At.dec (fun h3 => ?_) (fun h3 => ?_)
    · simp [stepE, hl', hb1, hb2, h3]
    simp [e1, e8, hl2]
    refine At.dec (fun h4 => ?_) (fun h4 => ?_)
    · simp [stepE, hl', hb1, hb2, h3, h4]
    · simp [stepE, hl', hb1, hb2, h3, h4]
end Go.Proofs.Ytokgpcdbpkginaa
set_option linter.unusedVariables false
set_option linter.unusedSimpArgs false
namespace Go.Proofs.Ytokgpcdbpkginaa
open Go Fw

/-- a plan as a value -/
structure IsP (x : AV) (p : List (Int × List Int)) : Prop where
  len : alenK false x = some (.int .i64 p.length)
  get : ∀ (i : Nat) (h : i < p.length), ∃ a, aidxS 2 x (.int .i64 (i : Int)) = some (.ptr (.agg [.int .i64 p[i].1, a])) ∧ rowI a = some p[i].2
  frz : ∀ hp n, Fw.frz hp n x = x
def ferr (m : List (List Int)) (seats : Int) : List (Int × List Int) → Int
  | [] => 0
  | s :: p => if stepE m seats s = 0 then ferr m seats p else stepE m seats s
def remZ (m : List (List Int)) (p : List (Int × List Int)) : Bool := (List.range m.length).all fun i => (List.range (cols m)).all fun k => decide (remP m p i k = 0)
def lenE (m : List (List Int)) (seats : Int) (p : List (Int × List Int)) : Int :=
  if chsE m seats = 0 then (if 200 < p.length then 2 else if ferr m seats p = 0 then (if remZ m p = true then 0 else 13) else ferr m seats p) else chsE m seats
def lenV (m : List (List Int)) (seats : Int) (p : List (Int × List Int)) : AV := if lenE m seats p = 0 then .tup [.int .i64 (p.map Prod.fst).sum, .int .i64 0] else .tup [.int .i64 0, .int .i64 (lenE m seats p)]
theorem lenV_plain (m : List (List Int)) (seats : Int) (p : List (Int × List Int)) : (lenV m seats p).plain = true := by unfold lenV; split <;> rfl
theorem p54 {x : AV} {l : List Int} (hx : asI x = some l) (hl : 0 < l.length) (hl2 : l.length ≤ 1000) (hs : HS) : FCall Try.prog 54 [x] hs fun e hs' => e = .ret (.osl false 1 hs.nh l.length hs.nt) ∧ hs' = { hs with heap := fun i => if i = hs.nh then some (ints l) else hs.heap i, nh := hs.nh + 1, nt := hs.nt + 1, tok := fun t => if t = hs.nt then true else hs.tok t } := by
  obtain ⟨c, rfl⟩ : ∃ c, x = .sl 1 (ints l) c := by
    rcases asI_inv hx with ⟨_, rfl⟩ | h
    · simp at hl
    · exact h
  have hne : ints l ≠ [] := by
    intro h; have := congrArg List.length h; rw [ints_len, List.length_nil] at this; omega
  have ha : aappm 1 hs (.sl 1 [] .exact) (.sl 1 (ints l) c) = some (.osl false 1 hs.nh l.length hs.nt, { hs with heap := fun i => if i = hs.nh then some (ints l) else hs.heap i, nh := hs.nh + 1, nt := hs.nt + 1, tok := fun t => if t = hs.nt then true else hs.tok t }) := by
    have hp : aelemsH hs.heap (.sl 1 [] .exact) = some [] := rfl
    have hq : aelemsH hs.heap (.sl 1 (ints l) c) = some (ints l) := rfl
    unfold aappm
    rw [hp, hq]
    simp only
    rw [if_pos ⟨rfl, rfl, rfl, by rw [ints_len]; simp; omega⟩, if_neg hne, List.nil_append, flat_ints, ints_len]
    cases l with
    | nil => simp at hl
    | cons a l => simp [agOf, ints, kilH, kilT]
  refine FCall.ofAt D0ok ok54 (by simp) ?_
  simp [A54, R54, astoAll, ha]
def psum (p : List (Int × List Int)) (i : Nat) : Int := ((p.take i).map Prod.fst).sum
theorem p59 {x : AV} {p : List (Int × List Int)} (hx : IsP x p) (hb : ∀ s ∈ p, 0 ≤ s.1 ∧ s.1 ≤ 1100) (hl : p.length ≤ 200) : PCall Try.prog 59 [x, .fn (.func 60) [] []] (.int .i64 (p.map Prod.fst).sum) := by
  have hbd : ∀ i, 0 ≤ psum p i ∧ psum p i ≤ 220000 := fun i => by
    unfold psum
    have := sum_bd (b := 1100) (l := (p.take i).map Prod.fst) (fun n hn => by
      obtain ⟨s, hs, rfl⟩ := List.mem_map.1 hn
      exact hb s (List.mem_of_mem_take hs))
    rw [List.length_map, List.length_take] at this
    omega
  refine PCall.of D0ok ok59 (by simp) rfl fun hs hbr => ?_
  simp [A59, R59, hx.len]
  refine At.loop (fun (i : Nat) s => i ≤ p.length ∧ s.env 1 = .fn (.func 60) [] [] ∧ s.env 5 = .int .i64 (psum p i) ∧ s.env 8 = x ∧ s.env 9 = .int .i64 (p.length : Int) ∧ s.env 10 = .int .i64 (i : Int)) (fun i => p.length - i) 0 ?_ ?_
  · exact ⟨by omega, by simp, by simp [psum], by simp, by simp [hx.len], by simp⟩
  rintro N i s hN ⟨hi, e1, e5, e8, e9, e10⟩
  simp [e9, e10]
  refine At.dec (fun hlt => ?_) (fun hlt => ?_)
  · have hi' : i < p.length := by omega
    obtain ⟨a, g1, g2⟩ := hx.get i hi'
    have wi : IntKind.i64.wrap ((i : Int) + 1) = (i : Int) + 1 := wrap64 (by omega) (by omega)
    have hst := store_ag (hp := fun k => if k = s.hs.nh then some [.int .i64 0, .nilsl] else s.hs.heap k) (i := s.hs.nh) (u1 := .int .i64 0) (u2 := .nilsl) (v1 := .int .i64 p[i].1) (v2 := a) (by simp)
    have hld : ∀ hp, aload hp true 2 (.ptr (.agg [.int .i64 p[i].1, a])) = some (.agg [.int .i64 p[i].1, a]) := fun hp => rfl
    have hs1 : psum p (i + 1) = psum p i + p[i].1 := by unfold psum; rw [take_snoc hi', List.map_append, List.sum_append]; simp
    have b1 := hbd (i + 1)
    have w : IntKind.i64.wrap (psum p i + p[i].1) = psum p i + p[i].1 := by rw [← hs1]; exact wrap64 (by omega) (by omega)
    simp [e1, e5, e8, e10, g1, hld, hst, la, apart]
    refine At.hp (by simpa using p60 (n := p[i].1) (rowI_leaf g2)) ?_
    simp [e5, e10, w]
    refine hN (i + 1) _ (by omega) ⟨by omega, by simp [e1], by rw [hs1]; simp, by simp [e8], by simp [e9], by simp [wi]⟩
  · have : i = p.length := by omega
    subst this
    have e : psum p p.length = (p.map Prod.fst).sum := by unfold psum; rw [List.take_length]
    rw [e] at e5
    simp [e5]
end Go.Proofs.Ytokgpcdbpkginaa
set_option linter.unusedVariables false
set_option linter.unusedSimpArgs false
namespace Go.Proofs.Ytokgpcdbpkginaa
open Go Fw

def dR (m : List (List Int)) (p : List (Int × List Int)) (r : Nat) : List Int := (List.range (cols m)).map (remP m p r)
theorem dR_len (m : List (List Int)) (p : List (Int × List Int)) (r : Nat) : (dR m p r).length = cols m := by simp [dR]
theorem dR_get {m : List (List Int)} {p : List (Int × List Int)} {r k : Nat} (h : k < (dR m p r).length) : (dR m p r)[k] = remP m p r k := by simp [dR]
theorem dR_0 {m : List (List Int)} (hw : OkW m) {r : Nat} (hr : r < m.length) : dR m [] r = m[r] := by
  apply List.ext_getElem
  · rw [dR_len, hw.len hr]
  · intro k h1 h2
    rw [dR_get]
    simp only [remP, xg]
    rw [getD_row hr, getD_of h2]
/-- the hours left, in memory -/
structure Lf (hs : HS) (n0 : Nat) (R C0 : Nat) (D : Nat → List Int) (n : Nat) (xs : List AV) : Prop where
  len : xs.length = n
  el : ∀ (r : Nat) (h : r < xs.length), ∃ k, xs[r] = .osl false 1 (n0 + r) C0 k
  row : ∀ r, r < n → hs.heap (n0 + r) = some (ints (D r))
  dl : ∀ r, r < n → (D r).length = C0
  nh : n0 + n ≤ hs.nh
theorem remP_bd {m : List (List Int)} (hw : OkW m) {seats : Int} : ∀ {p : List (Int × List Int)}, ferr m seats p = 0 → ∀ {i k : Nat}, i < m.length → - (1100 * (p.length : Int)) ≤ remP m p i k ∧ remP m p i k ≤ 30
  | [], _, i, k, hi => by
    have := hw.el (List.getElem_mem hi) k
    simp only [remP, xg, getD_row hi, List.length_nil]; omega
  | s :: p, h, i, k, hi => by
    have hs : stepE m seats s = 0 := by
      rw [ferr] at h; split at h
      · rename_i e; exact e
      · exact h
    rw [ferr, if_pos hs] at h
    have ih := remP_bd hw h (k := k) hi
    have hb : btw 1 s.1 1100 = true := by
      unfold stepE at hs
      split at hs
      · omega
      · split at hs
        · omega
        · rename_i e; simpa using e
    simp [btw] at hb
    simp only [remP, List.length_cons]
    split <;> omega
theorem ferr_take {m : List (List Int)} {seats : Int} : ∀ {p : List (Int × List Int)} {i : Nat} (h : i < p.length), ferr m seats (p.take i) = 0 → (stepE m seats p[i] = 0 → ferr m seats (p.take (i + 1)) = 0) ∧ (stepE m seats p[i] ≠ 0 → ferr m seats p = stepE m seats p[i])
  | [], i, h, _ => by simp at h
  | s :: p, 0, h, _ => by
    refine ⟨fun e => ?_, fun e => ?_⟩
    · simp only [List.getElem_cons_zero] at e; simp [ferr, e]
    · simp only [List.getElem_cons_zero] at e; simp [ferr, e]
  | s :: p, i + 1, h, h0 => by
    have hs : stepE m seats s = 0 := by
      simp only [List.take_succ_cons] at h0
      rw [ferr] at h0; split at h0
      · rename_i e; exact e
      · exact h0
    simp only [List.take_succ_cons] at h0
    rw [ferr, if_pos hs] at h0
    obtain ⟨a, b⟩ := ferr_take (p := p) (i := i) (by simpa using h) h0
    simp only [List.getElem_cons_succ, List.take_succ_cons]
    exact ⟨fun e => by rw [ferr, if_pos hs]; exact a e, fun e => by rw [ferr, if_pos hs]; exact b e⟩
theorem Lf.put {hs hs' : HS} {n0 R C0 n : Nat} {D : Nat → List Int} {xs : List AV} (h : Lf hs n0 R C0 D n xs) {r : Nat} (hr : r < n) {l : List Int} (hl : l.length = C0) (hh : hs'.heap (n0 + r) = some (ints l)) (ho : ∀ j, j ≠ n0 + r → n0 ≤ j → j < n0 + n → hs'.heap j = hs.heap j) (hn : hs.nh ≤ hs'.nh) : Lf hs' n0 R C0 (fun r' => if r' = r then l else D r') n xs := by
  refine ⟨h.len, h.el, fun r' hr' => ?_, fun r' hr' => ?_, by have := h.nh; omega⟩
  · by_cases e : r' = r
    · subst e; rw [if_pos rfl]; exact hh
    · rw [if_neg e, ho _ (by omega) (by omega) (by omega)]; exact h.row r' hr'
  · by_cases e : r' = r
    · rw [if_pos e]; exact hl
    · rw [if_neg e]; exact h.dl r' hr'
theorem Lf.up {hs hs' : HS} {n0 R C0 n : Nat} {D : Nat → List Int} {xs : List AV} (h : Lf hs n0 R C0 D n xs) (hh : ∀ j, j < n0 + n → n0 ≤ j → hs'.heap j = hs.heap j) (hn : hs.nh ≤ hs'.nh) : Lf hs' n0 R C0 D n xs :=
  ⟨h.len, h.el, fun r hr => by rw [hh _ (by omega) (by omega)]; exact h.row r hr, h.dl, by have := h.nh; omega⟩
/-- a list of values under way -/
theorem own_add {hs : HS} {x y : AV} {xs : List AV} (hx : (x = .nilsl ∧ xs = []) ∨ ∃ k, x = .sl 1 xs (.own k) ∧ hs.tok k = true ∧ k < hs.nt) (hl : xs.length ≤ 1000) :
    ∃ k, aappend 1 hs x (.sl 1 [y] .exact) = some (.sl 1 (xs ++ [y]) (.own hs.nt), { hs with nt := hs.nt + 1, tok := k }) ∧ k hs.nt = true := by
  have hq : aelemsH hs.heap (.sl 1 [y] .exact) = some [y] := rfl
  rcases hx with ⟨rfl, rfl⟩ | ⟨k, rfl, h1, h2⟩
  · have hp : aelemsH hs.heap .nilsl = some [] := rfl
    refine ⟨fun t => if t = hs.nt then true else hs.tok t, ?_, by simp⟩
    unfold aappend
    rw [hp, hq]
    simp only
    rw [if_pos ⟨rfl, rfl, by simp⟩, if_neg (by simp)]; rfl
  · have hp : aelemsH hs.heap (.sl 1 xs (.own k)) = some xs := rfl
    refine ⟨fun t => if t = hs.nt then true else if t = k then false else hs.tok t, ?_, by simp⟩
    unfold aappend
    rw [hp, hq]
    simp only
    rw [if_pos ⟨rfl, rfl, by simp; omega⟩, if_neg (by simp), if_pos h1]
end Go.Proofs.Ytokgpcdbpkginaa
set_option linter.unusedVariables false
set_option linter.unusedSimpArgs false
namespace Go.Proofs.Ytokgpcdbpkginaa
open Go Fw

theorem ctx55 {C : PCtx} (hC : CtxOk Try.prog C) {x : AV} {m : List (List Int)} {R : Nat → AV} (hx : IsM x m R) (hw : OkW m) {seats : Int} (hse : 1 ≤ seats ∧ seats ≤ 6) : ∃ C', CtxOk Try.prog C' ∧ (∀ (a : AV) (s : Int × List Int), rowI a = some s.2 → C' 55 [x, .int .i64 seats, .agg [.int .i64 s.1, a]] = some (.int .i64 (stepE m seats s))) ∧ ∀ g, ¬ g = 55 → C' g = C g := by
  refine ⟨C.fam (ι := {q : AV × (Int × List Int) // rowI q.1 = some q.2.2}) 55 (fun q => [x, .int .i64 seats, .agg [.int .i64 q.1.2.1, q.1.1]]) (fun q => .int .i64 (stepE m seats q.1.2)), hC.fam fun q => p55 hx hw hse q.2, fun a s ha => ?_, fun g hg => funext fun b => fam_ne hg⟩
  refine fam_eq (g := fun q : {q : AV × (Int × List Int) // rowI q.1 = some q.2.2} => [x, .int .i64 seats, .agg [.int .i64 q.1.2.1, q.1.1]]) (r := fun q => .int .i64 (stepE m seats q.1.2)) (fun i j e => ?_) ⟨(a, s), ha⟩
  simp at e
  have e1 := i.2
  rw [e.2, j.2] at e1
  injection e1 with e1
  show AV.int .i64 (stepE m seats i.1.2) = .int .i64 (stepE m seats j.1.2)
  congr 2
  exact Prod.ext e.1 e1.symm
theorem p54b {x : AV} {l : List Int} (hx : asI x = some l) (hl : 0 < l.length) (hl2 : l.length ≤ 1000) (hs : HS) : FCall Try.prog 54 [x] hs fun e hs' => e = .ret (.osl false 1 hs.nh l.length hs.nt) ∧ ∃ tk : Nat → Bool, hs' = ⟨fun i => if i = hs.nh then some (ints l) else hs.heap i, hs.nh + 1, hs.nt + 1, tk, hs.mp⟩ ∧ ∀ t, hs.tok t = true → tk t = true :=
  (p54 hx hl hl2 hs).mono fun e hs' ⟨h1, h2⟩ => ⟨h1, _, h2, fun t ht => by show (if t = hs.nt then true else hs.tok t) = true; split <;> first | rfl | exact ht⟩
theorem stepE_0 {m : List (List Int)} {seats : Int} {s : Int × List Int} (h : stepE m seats s = 0) : s.2.length = m.length ∧ (1 ≤ s.1 ∧ s.1 ≤ 1100) ∧ ∀ v ∈ s.2, v = -1 ∨ ∃ k : Nat, k < cols m ∧ v = k := by
  unfold stepE at h
  split at h <;> (try omega)
  rename_i a
  split at h <;> (try omega)
  rename_i b
  split at h <;> (try omega)
  rename_i c
  simp [btw] at b
  refine ⟨by omega, by omega, fun v hv => ?_⟩
  have c' : ∀ x ∈ s.2, btw (-1) x ((cols m : Int) - 1) = true := by simpa using c
  have := c' v hv
  simp [btw] at this
  rcases Int.lt_or_le v 0 with h2 | h2
  · exact .inl (by omega)
  · exact .inr ⟨v.toNat, by omega, by omega⟩
theorem dR_same {m : List (List Int)} {p : List (Int × List Int)} {s : Int × List Int} {i : Nat} (h : s.2.getD i 0 = -1) : dR m (p ++ [s]) i = dR m p i := by
  unfold dR
  exact List.map_congr_left fun k _ => by rw [remP_app, h, if_neg (by omega)]; omega
theorem dR_set {m : List (List Int)} {p : List (Int × List Int)} {s : Int × List Int} {i k : Nat} (hk : k < cols m) (h : s.2.getD i 0 = (k : Int)) : (dR m p i).set k (remP m p i k - s.1) = dR m (p ++ [s]) i := by
  apply List.ext_getElem
  · simp [dR]
  · intro j h1 h2
    rw [List.getElem_set, dR_get h2, remP_app, h]
    split
    · rename_i e; subst e; rw [if_pos rfl]
    · rename_i e; rw [dR_get, if_neg (by omega)]; omega
set_option maxHeartbeats 4000000 in
theorem p20 {x : AV} {m : List (List Int)} {R : Nat → AV} (hx : IsM x m R) (seats : Int) {y : AV} {p : List (Int × List Int)} (hy : IsP y p) : PCall Try.prog 20 [x, .int .i64 seats, y] (lenV m seats p) := by
  by_cases h : chsE m seats = 0
  rotate_left
  · obtain ⟨C, hC, k53⟩ : ∃ C, CtxOk Try.prog C ∧ C 53 [x, .int .i64 seats] = some (.int .i64 (chsE m seats)) := ⟨_, D0ok.pt (p53 hx seats), by simp⟩
    refine PCall.of hC ok20 (by simp) (lenV_plain _ _ _) fun hs hb => ?_
    simp [A20, R20, k53, h, lenV, lenE]
  obtain ⟨hw, hse⟩ := chsE_zero.1 h
  have h6 := hw.r6
  have h1 := hw.r1
  have hc1 : 1 ≤ cols m := hw.c1
  have hc6 : cols m ≤ 6 := hw.c6
  obtain ⟨C, hC, k53, k55, k59⟩ : ∃ C, CtxOk Try.prog C ∧ C 53 [x, .int .i64 seats] = some (.int .i64 (chsE m seats)) ∧ (∀ (a : AV) (s : Int × List Int), rowI a = some s.2 → C 55 [x, .int .i64 seats, .agg [.int .i64 s.1, a]] = some (.int .i64 (stepE m seats s))) ∧ ((∀ s ∈ p, 0 ≤ s.1 ∧ s.1 ≤ 1100) ∧ p.length ≤ 200 → C 59 [y, .fn (.func 60) [] []] = some (.int .i64 (p.map Prod.fst).sum)) := by
    obtain ⟨C, hC, k, n⟩ := ctx55 (D0ok.pt (p53 hx seats)) hx hw hse
    by_cases hb : (∀ s ∈ p, 0 ≤ s.1 ∧ s.1 ≤ 1100) ∧ p.length ≤ 200
    · exact ⟨_, hC.pt (p59 hy hb.1 hb.2), by rw [pt_ne (by decide), n 53 (by decide)]; simp, fun a s ha => by rw [pt_ne (by decide)]; exact k a s ha, fun _ => by simp⟩
    · exact ⟨C, hC, by rw [n 53 (by decide)]; simp, k, fun h => absurd h hb⟩
  refine PCall.of hC ok20 (by simp) (lenV_plain _ _ _) fun hs hb => ?_
  simp [A20, R20, k53, h, hy.len]
  refine At.dec (fun hl => ?_) (fun hl => ?_)
  · have : 200 < p.length := by omega
    simp [lenV, lenE, h, this]
  have hpl : ¬ 200 < p.length := by omega
  simp [hx.len]
  refine At.loop (fun (i : Nat) s => i ≤ m.length ∧ s.env 0 = x ∧ s.env 1 = .int .i64 seats ∧ s.env 2 = y ∧ s.env 28 = x ∧ s.env 29 = .int .i64 (m.length : Int) ∧ s.env 30 = .int .i64 (i : Int) ∧ s.hs.nh = hs.nh + i ∧ ∃ xs, Lf s.hs hs.nh m.length (cols m) (dR m []) i xs ∧ ((s.env 9 = .nilsl ∧ xs = []) ∨ ∃ k, s.env 9 = .sl 1 xs (.own k) ∧ s.hs.tok k = true ∧ k < s.hs.nt)) (fun i => m.length - i) 0 ?_ ?_
  · exact ⟨by omega, by simp, by simp, by simp, by simp, by simp [hx.len], by simp, by simp, [], ⟨rfl, fun r h => by simp at h, fun r h => by omega, fun r h => by omega, by simp⟩, .inl ⟨by simp, rfl⟩⟩
  rintro N i s hN ⟨hi, e0, e1, e2, e28, e29, e30, hnh, xs, hLf, h9⟩
  simp [e29, e30]
  refine At.dec (fun hlt => ?_) (fun hlt => ?_)
  · have hi' : i < m.length := by omega
    have wi : IntKind.i64.wrap ((i : Int) + 1) = (i : Int) + 1 := wrap64 (by omega) (by omega)
    have hrow := hw.rows hx hi'
    have hil := hw.len hi'
    simp [e28, e30, hx.get hi', hx.ld hi']
    refine At.hc (p54b (hs := s.hs) hrow (by omega) (by omega)) ?_ (fun v hs' h => by cases h.1)
    rintro v hs2 ⟨hv, tk, rfl, htk⟩
    injection hv with hv; subst hv
    obtain ⟨kf, ha, hk⟩ := own_add (hs := ⟨fun j => if j = s.hs.nh then some (ints m[i]) else s.hs.heap j, s.hs.nh + 1, s.hs.nt + 1, tk, s.hs.mp⟩) (x := s.env 9) (y := .osl false 1 s.hs.nh (m[i]).length s.hs.nt) (xs := xs) (by
      rcases h9 with h9 | ⟨k, h9, h2, h3⟩
      · exact .inl h9
      · exact .inr ⟨k, h9, htk k h2, by simp only; omega⟩) (by rw [hLf.len]; omega)
    generalize hz : ints m[i] = z at *
    simp [astoAll, so, co, ha, e30]
    refine hN (i + 1) _ (by omega) ⟨by omega, by simp [e0], by simp [e1], by simp [e2], by simp [e28], by simp [e29], by simp [wi], by simp; omega, xs ++ [.osl false 1 s.hs.nh (m[i]).length s.hs.nt], ⟨by simp [hLf.len], fun r hr => ?_, fun r hr => ?_, fun r hr => dR_len _ _ _, by simp; omega⟩, .inr ⟨_, by simp; rfl, by simpa using hk, by simp⟩⟩
    · by_cases e : r < xs.length
      · rw [List.getElem_append_left e]; exact hLf.el r e
      · have hr2 : r = i := by have := hLf.len; simp at hr; omega
        have hxl := hLf.len
        refine ⟨s.hs.nt, ?_⟩
        rw [List.getElem_append_right (by omega)]
        simp only [List.getElem_singleton]
        rw [hil, hnh, hr2]
    · simp only [put_hs]
      by_cases e : r = i
      · subst e; rw [if_pos (by omega), ← hz, dR_0 hw hi']
      · rw [if_neg (by omega)]; exact hLf.row r (by omega)
  · have : i = m.length := by omega
    subst this
    obtain ⟨k9, h9, ht9, hk9⟩ : ∃ k, s.env 9 = .sl 1 xs (.own k) ∧ s.hs.tok k = true ∧ k < s.hs.nt := by
      rcases h9 with ⟨_, h9⟩ | h9
      · have := hLf.len; rw [h9] at this; simp at this; omega
      · exact h9
    generalize hL9 : s.env 9 = L9 at h9
    simp [e2, hy.len]
    refine At.loop (fun (t : Nat) s => t ≤ p.length ∧ ferr m seats (p.take t) = 0 ∧ s.env 0 = x ∧ s.env 1 = .int .i64 seats ∧ s.env 2 = y ∧ s.env 9 = L9 ∧ s.env 40 = y ∧ s.env 41 = .int .i64 (p.length : Int) ∧ s.env 42 = .int .i64 (t : Int) ∧ Lf s.hs hs.nh m.length (cols m) (dR m (p.take t)) m.length xs) (fun t => p.length - t) 0 ?_ ?_
    · exact ⟨by omega, rfl, by simp [e0], by simp [e1], by simp [e2], by simp [hL9], by simp, by simp, by simp, by simpa using hLf⟩
    clear hLf ht9 hk9 e0 e1 e2 e28 e29 e30 hnh hL9 hN
    rintro N2 t s hN2 ⟨ht, hfe, e0, e1, e2, e9, e40, e41, e42, hLf⟩
    simp [e41, e42]
    refine At.dec (fun hlt2 => ?_) (fun hlt2 => ?_)
    · have ht' : t < p.length := by omega
      have wt : IntKind.i64.wrap ((t : Int) + 1) = (t : Int) + 1 := wrap64 (by omega) (by omega)
      obtain ⟨a, g1, ha⟩ := hy.get t ht'
      have htk := take_snoc ht'
      have hbd := fun (i k : Nat) (hi : i < m.length) => remP_bd hw hfe (k := k) hi
      have hft := ferr_take (m := m) (seats := seats) ht' hfe
      have hst := store_ag (hp := fun k => if k = s.hs.nh then some [.int .i64 0, .nilsl] else s.hs.heap k) (i := s.hs.nh) (u1 := .int .i64 0) (u2 := .nilsl) (v1 := .int .i64 p[t].1) (v2 := a) (by simp)
      have hld : ∀ hp, aload hp true 2 (.ptr (.agg [.int .i64 p[t].1, a])) = some (.agg [.int .i64 p[t].1, a]) := fun hp => rfl
      simp [e0, e1, e40, e42, g1, hld, hst, la, apart, k55 a p[t] ha]
      refine At.decn (fun hE => ?_) (fun hE => ?_)
      rotate_left
      · have := hft.2 hE
        simp [lenV, lenE, h, hpl, this, hE]
      have hfe2 := hft.1 hE
      obtain ⟨hsl, hsh, hsv⟩ := stepE_0 hE
      have ha := rowI_ne ha (by omega)
      simp [fa, la, apart, alen_of ha]
      have hnh0 := hLf.nh
      generalize hc : s.hs.nh = c13 at *
      refine At.loop (fun (i : Nat) s2 => i ≤ m.length ∧ s2.env 0 = x ∧ s2.env 1 = .int .i64 seats ∧ s2.env 2 = y ∧ s2.env 9 = L9 ∧ s2.env 13 = .ref c13 0 ∧ s2.env 40 = y ∧ s2.env 41 = .int .i64 (p.length : Int) ∧ s2.env 42 = .int .i64 (t : Int) ∧ s2.env 54 = a ∧ s2.env 55 = .int .i64 (m.length : Int) ∧ s2.env 56 = .int .i64 (i : Int) ∧ s2.hs.heap c13 = some [.int .i64 p[t].1, a] ∧ Lf s2.hs hs.nh m.length (cols m) (fun r => if r < i then dR m (p.take (t + 1)) r else dR m (p.take t) r) m.length xs) (fun i => m.length - i) 0 ?_ ?_
      · refine ⟨by omega, by simp [e0], by simp [e1], by simp [e2], by simp [e9], by simp, by simp [e40], by simp [e41], by simp [e42], by simp, by simp [hsl], by simp, by simp, ?_⟩
        have hD : (fun r => if r < 0 then dR m (p.take (t + 1)) r else dR m (p.take t) r) = dR m (p.take t) := by funext r; rw [if_neg (by omega)]
        rw [hD]
        refine hLf.up (fun j hj _ => ?_) (by simp; omega)
        simp
        rw [if_neg (by omega), if_neg (by omega)]
      clear hst e0 e1 e2 e9 e40 e41 e42 hLf hc
      rintro N3 i s2 hN3 ⟨hi, e0, e1, e2, e9, e13, e40, e41, e42, e54, e55, e56, hc13, hLf⟩
      simp [e55, e56]
      refine At.dec (fun hlt3 => ?_) (fun hlt3 => ?_)
      · have hi' : i < m.length := by omega
        have wi : IntKind.i64.wrap ((i : Int) + 1) = (i : Int) + 1 := wrap64 (by omega) (by omega)
        have hia : i < p[t].2.length := by omega
        have hgi : p[t].2.getD i 0 = p[t].2[i] := getD_of hia
        have hxi : i < xs.length := by rw [hLf.len]; exact hi'
        rcases hsv p[t].2[i] (List.getElem_mem hia) with e | ⟨k, hk, e⟩
        · simp [e54, e56, aidx_nat ha hia, e]
          refine hN3 (i + 1) _ (by omega) ⟨by omega, by simp [e0], by simp [e1], by simp [e2], by simp [e9], by simp [e13], by simp [e40], by simp [e41], by simp [e42], by simp [e54], by simp [e55], by simp [wi], by simp [hc13], ?_⟩
          have hD : (fun r => if r < i + 1 then dR m (p.take (t + 1)) r else dR m (p.take t) r) = (fun r => if r < i then dR m (p.take (t + 1)) r else dR m (p.take t) r) := by
            funext r
            by_cases e2 : r = i
            · subst e2
              rw [if_pos (by omega), if_neg (by omega), htk, dR_same (by rw [hgi, e])]
            · by_cases e3 : r < i
              · rw [if_pos (by omega), if_pos e3]
              · rw [if_neg (by omega), if_neg e3]
          rw [hD]; simpa using hLf
        · obtain ⟨kk, hx1⟩ := hLf.el i hxi
          have hrow := hLf.row i hi'
          rw [if_neg (by omega)] at hrow
          have hkd : k < (dR m (p.take t) i).length := by rw [dR_len]; exact hk
          have hldc := ld_ints hrow hkd
          rw [dR_get] at hldc
          have hst := st_ints (v := remP m (p.take t) i k - p[t].1) hrow hkd
          rw [dR_set hk (by rw [hgi, e]), ← htk] at hst
          have hb := hbd i k hi'
          have htl : (p.take t).length ≤ 200 := by rw [List.length_take]; omega
          have wc : IntKind.i64.wrap (remP m (p.take t) i k - p[t].1) = remP m (p.take t) i k - p[t].1 := wrap64 (by omega) (by omega)
          have hidL : aidxS 1 L9 (.int .i64 (i : Int)) = some (.ptr xs[i]) := by rw [h9]; simp [aidxS, hxi]
          have hldL : ∀ hp, aload hp false 1 (.ptr xs[i]) = some (.osl false 1 (hs.nh + i) (cols m) kk) := fun hp => by rw [hx1]; rfl
          have hidk : aidxS 1 (.osl false 1 (hs.nh + i) (cols m) kk) (.int .i64 (k : Int)) = some (.ref (hs.nh + i) k) := by simp [aidxS, hk]
          have hnh2 := hLf.nh
          generalize hz : ints (dR m (p.take (t + 1)) i) = z at hst
          simp [e9, e13, e54, e56, aidx_nat ha hia, e, show ¬ ((k : Int) = -1) by omega, hidL, hldL, hidk, hldc, fa, load_one, la, hc13, apart, wc]
          simp [hst, e56]
          refine hN3 (i + 1) _ (by omega) ⟨by omega, by simp [e0], by simp [e1], by simp [e2], by simp [e9], by simp [e13], by simp [e40], by simp [e41], by simp [e42], by simp [e54], by simp [e55], by simp [wi], ?_, ?_⟩
          · simp only [put_hs]; rw [if_neg (by omega)]; exact hc13
          · have hD : (fun r => if r < i + 1 then dR m (p.take (t + 1)) r else dR m (p.take t) r) = fun r => if r = i then dR m (p.take (t + 1)) i else (if r < i then dR m (p.take (t + 1)) r else dR m (p.take t) r) := by
              funext r
              by_cases e2 : r = i
              · subst e2; rw [if_pos (by omega), if_pos rfl]
              · rw [if_neg e2]
                by_cases e3 : r < i
                · rw [if_pos (by omega), if_pos e3]
                · rw [if_neg (by omega), if_neg e3]
            rw [hD]
            simp only [put_hs]
            exact hLf.put hi' (dR_len _ _ _) (by simp only; rw [if_pos trivial, hz]) (fun j hj _ _ => by simp only; rw [if_neg hj]) (Nat.le_refl _)
      · have : i = m.length := by omega
        subst this
        simp [e42]
        refine hN2 (t + 1) _ (by omega) ⟨by omega, hfe2, by simp [e0], by simp [e1], by simp [e2], by simp [e9], by simp [e40], by simp [e41], by simp [wt], ?_⟩
        simp only [put_hs]
        exact ⟨hLf.len, hLf.el, fun r hr => by have := hLf.row r hr; rwa [if_pos hr] at this, fun r hr => dR_len _ _ _, hLf.nh⟩
    · have : t = p.length := by omega
      subst this
      rw [List.take_length] at hLf hfe
      have hxl := hLf.len
      have hcl : ∀ i, i ≤ m.length → (catL (dR m p) i).length = cols m * i := by
        intro i
        induction i with
        | zero => intro _; rfl
        | succ i ih => intro hi; simp only [catL, List.length_append, dR_len]; rw [ih (by omega), Nat.mul_succ]
      have hc36 : cols m * m.length ≤ 6 * 6 := Nat.mul_le_mul hc6 h6
      simp [e2, e9]
      refine At.hc (p57 (n := hs.nh + m.length) (hs := s.hs) (xs := xs) (c := .own k9) (ls := dR m p) (.inr h9) (fun i hi => ?_) (fun i hi => by rw [hcl i (by omega)]; have := Nat.mul_le_mul (Nat.le_refl (cols m)) (show i ≤ m.length by omega); omega) (by omega)) ?_ (fun v hs' h => by obtain ⟨y, h, _⟩ := h; cases h)
      · obtain ⟨kk, hx1⟩ := hLf.el i hi
        have hrow := hLf.row i (by omega)
        rw [hx1]
        exact ⟨by rw [dR_len]; omega, .inr (.inl ⟨hs.nh + i, kk, by rw [dR_len], by omega, hrow⟩)⟩
      rintro v hs2 ⟨z, hv, hz, hsm⟩
      injection hv with hv; subst hv
      rw [hxl] at hz
      have hza := hz.asI (by rw [hcl _ (Nat.le_refl _)]; omega)
      simp
      refine At.hp (p56 hza (f := 58) (a1 := []) (a2 := []) (q := fun i => !decide ((catL (dR m p) m.length).getD i 0 = 0)) (fun i hi => by simpa [getD_of hi, hi] using p58 _)) ?_
      rw [any_range (f := fun v => !decide (v = 0))]
      have hany : ((catL (dR m p) m.length).any fun v => !decide (v = 0)) = !remZ m p := by
        have hmem : ∀ i v, v ∈ catL (dR m p) i ↔ ∃ r, r < i ∧ v ∈ dR m p r := by
          intro i v
          induction i with
          | zero => simp [catL]
          | succ i ih =>
            simp only [catL, List.mem_append, ih]
            constructor
            · rintro (⟨r, h1, h2⟩ | h)
              · exact ⟨r, by omega, h2⟩
              · exact ⟨i, by omega, h⟩
            · rintro ⟨r, h1, h2⟩
              by_cases e : r = i
              · subst e; exact .inr h2
              · exact .inl ⟨r, by omega, h2⟩
        rw [Bool.eq_iff_iff, List.any_eq_true]
        simp only [Bool.not_eq_true', decide_eq_false_iff_not, remZ]
        constructor
        · rintro ⟨v, hv, hne⟩
          obtain ⟨r, hr, hv⟩ := (hmem _ _).1 hv
          simp only [dR, List.mem_map, List.mem_range] at hv
          obtain ⟨k, hk, rfl⟩ := hv
          rw [← Bool.not_eq_true, List.all_eq_true]
          intro hall
          have := List.all_eq_true.1 (hall r (by simpa using hr)) k (by simpa using hk)
          exact hne (by simpa using this)
        · intro hf
          rw [← Bool.not_eq_true] at hf
          apply Classical.byContradiction
          intro hno
          apply hf
          rw [List.all_eq_true]
          intro r hr
          rw [List.all_eq_true]
          intro k hk
          have hr' : r < m.length := by simpa using hr
          have hk' : k < cols m := by simpa using hk
          simp only [decide_eq_true_eq]
          apply Classical.byContradiction
          intro hne
          exact hno ⟨remP m p r k, (hmem _ _).2 ⟨r, hr', by simp only [dR, List.mem_map, List.mem_range]; exact ⟨k, hk', rfl⟩⟩, hne⟩
      rw [hany]
      cases hrz : remZ m p with
      | false => simp [lenV, lenE, h, hpl, hfe, hrz]
      | true =>
        have hall : ∀ s ∈ p, 0 ≤ s.1 ∧ s.1 ≤ 1100 := by
          have : ∀ q : List (Int × List Int), ferr m seats q = 0 → ∀ s ∈ q, 0 ≤ s.1 ∧ s.1 ≤ 1100 := by
            intro q
            induction q with
            | nil => intro _ s hs; simp at hs
            | cons s0 q ih =>
              intro hq s hs
              have h0 : stepE m seats s0 = 0 := by
                rw [ferr] at hq; split at hq
                · rename_i e; exact e
                · exact hq
              rw [ferr, if_pos h0] at hq
              rcases List.mem_cons.1 hs with rfl | hs
              · have := (stepE_0 h0).2.1; omega
              · exact ih hq s hs
          exact this p hfe
        simp [e2, k59 ⟨hall, by omega⟩, lenV, lenE, h, hpl, hfe, hrz]
end Go.Proofs.Ytokgpcdbpkginaa
set_option linter.unusedVariables false
set_option linter.unusedSimpArgs false
namespace Go.Proofs.Ytokgpcdbpkginaa
open Go Fw

def verE (m : List (List Int)) (seats : Int) (p : List (Int × List Int)) : Int := if lenE m seats p = 0 then (if short m seats < (p.map Prod.fst).sum then 14 else 0) else lenE m seats p
theorem lenE_chs {m : List (List Int)} {seats : Int} {p : List (Int × List Int)} (h : lenE m seats p = 0) : chsE m seats = 0 := by
  unfold lenE at h
  split at h
  · rename_i e; exact e
  · exact h
theorem p22 {x : AV} {m : List (List Int)} {R : Nat → AV} (hx : IsM x m R) (seats : Int) {y : AV} {p : List (Int × List Int)} (hy : IsP y p) : PCall Try.prog 22 [x, .int .i64 seats, y] (.int .i64 (verE m seats p)) := by
  obtain ⟨C, hC, k20, k32⟩ : ∃ C, CtxOk Try.prog C ∧ C 20 [x, .int .i64 seats, y] = some (lenV m seats p) ∧ C 32 [x, .int .i64 seats] = some (shV m seats) := ⟨_, (D0ok.pt (p32 hx seats)).pt (p20 hx seats hy), by simp, by simp⟩
  refine PCall.of hC ok22 (by simp) rfl fun hs hb => ?_
  have hal : alcall C 20 hs [x, .int .i64 seats, y] = some (lenV m seats p) := alcall_of (by simp [hx.frz, hy.frz, k20]) (by unfold lenV; split <;> rfl)
  simp [A22, R22, hal]
  by_cases h : lenE m seats p = 0
  · have hc := lenE_chs h
    simp [lenV, h, al32 hx seats k32, shV, hc]
    refine At.dec (fun h2 => ?_) (fun h2 => ?_)
    · have : short m seats < (p.map Prod.fst).sum := by omega
      simp [verE, h, this]
    · have : ¬ short m seats < (p.map Prod.fst).sum := by omega
      simp [verE, h, this]
  · simp [lenV, h, verE]
theorem good_step {m : List (List Int)} (hw : OkW m) {seats : Int} (hse : 1 ≤ seats ∧ seats ≤ 6) {s : Int × List Int} (h : StepOk m seats s) : stepE m seats s = 0 := by
  have hb : btw 1 s.1 1100 = true := by simp [btw, h.h1, h.h2]
  have ha : (s.2.any fun v => !btw (-1) v ((cols m : Int) - 1)) = false := by
    rw [List.any_eq_false]
    intro v hv
    have := h.pl v hv
    simp [btw]; omega
  have hg : ¬ 1 < gtr 0 (cnts (cols m) s.2) := by
    have := gtr_bd (a := 0) (b := 1) (l := cnts (cols m) s.2) (by omega) (fun n hn => by
      simp only [cnts, List.mem_map, List.mem_range] at hn
      obtain ⟨k, hk, rfl⟩ := hn
      have := h.one k hk
      omega)
    omega
  have hsum : (cnts (cols m) s.2).sum = ((s.2.filter fun v => decide (v ≠ -1)).length : Int) := by
    have gen : ∀ l : List Int, (∀ v ∈ l, -1 ≤ v ∧ v < (cols m : Int)) → (cnts (cols m) l).sum = ((l.filter fun v => decide (v ≠ -1)).length : Int) := by
      intro l
      induction l with
      | nil =>
        intro _
        have := sumF_const (List.range (cols m)) 0
        simp only [sumF] at this
        simp [cnts]; omega
      | cons a l ih =>
        intro hl
        have ih := ih fun v hv => hl v (by simp [hv])
        have ha := hl a (by simp)
        have e : (cnts (cols m) (a :: l)).sum = sumF (List.range (cols m)) (fun k => ((l.count (k : Int) : Nat) : Int) + if a = (k : Int) then 1 else 0) := by
          unfold cnts sumF
          congr 1
          exact List.map_congr_left fun k _ => by
            rw [List.count_cons]
            by_cases e : a = (k : Int)
            · simp [e]
            · simp [e]
        rw [e, sumF_add]
        have e2 : sumF (List.range (cols m)) (fun k => ((l.count (k : Int) : Nat) : Int)) = (cnts (cols m) l).sum := rfl
        rw [e2, ih, List.filter_cons]
        by_cases h1 : a = -1
        · have : sumF (List.range (cols m)) (fun k => if a = (k : Int) then (1 : Int) else 0) = sumF (List.range (cols m)) fun _ => 0 := sumF_congr fun k _ => by rw [if_neg (by omega)]
          rw [this, sumF_const, if_neg (by simp [h1])]; omega
        · have hk : a.toNat < cols m := by omega
          have : sumF (List.range (cols m)) (fun k => if a = (k : Int) then (1 : Int) else 0) = sumF (List.range (cols m)) fun k => if k = a.toNat then 1 else 0 := sumF_congr fun k _ => by
            by_cases e : k = a.toNat
            · rw [if_pos e, if_pos (by omega)]
            · rw [if_neg e, if_neg (by omega)]
          rw [this, sumF_delta hk, if_pos (by simpa using h1), List.length_cons]; omega
    exact gen s.2 h.pl
  have hf := h.few
  rw [← hsum] at hf
  simp [stepE, h.len, hb, ha, hg, show ¬ seats < (cnts (cols m) s.2).sum by omega]
theorem good_ver {m : List (List Int)} (hw : OkW m) {seats : Int} (hse : 1 ≤ seats ∧ seats ≤ 6) {p : List (Int × List Int)} (h : Good m seats p) : lenE m seats p = 0 ∧ verE m seats p = 0 := by
  have hc := chsE_zero.2 ⟨hw, hse⟩
  have hf : ferr m seats p = 0 := by
    have : ∀ q : List (Int × List Int), (∀ s ∈ q, StepOk m seats s) → ferr m seats q = 0 := by
      intro q
      induction q with
      | nil => intro _; rfl
      | cons s q ih => intro hq; rw [ferr, if_pos (good_step hw hse (hq s (by simp)))]; exact ih fun t ht => hq t (by simp [ht])
    exact this p h.st
  have hr : remZ m p = true := by
    unfold remZ
    rw [List.all_eq_true]
    intro i hi
    rw [List.all_eq_true]
    intro k hk
    simpa using h.rem i k (by simpa using hi) (by simpa using hk)
  have hl := h.len
  have h0 : lenE m seats p = 0 := by
    rw [lenE, if_pos hc, if_neg (by omega), if_pos hf, if_pos hr]
  refine ⟨h0, ?_⟩
  rw [verE, if_pos h0, h.tot, if_neg (by omega)]
end Go.Proofs.Ytokgpcdbpkginaa
set_option linter.unusedVariables false
set_option linter.unusedSimpArgs false
namespace Go.Proofs.Ytokgpcdbpkginaa
open Go Fw

def mW : List (List Int) := [[2, 1], [0, 3]]
def mV3 : List (List Int) := [[1, 1, 1], [1, 1, 1], [1, 1, 1]]
def rowsV (M : List (List Int)) (r : Nat) : AV := .sl 1 (ints (M.getD r [])) .exact
def wV : AV := .sl 1 ((List.range 2).map (rowsV mW)) .exact
def vV : AV := .sl 1 ((List.range 3).map (rowsV mV3)) .exact
theorem p37 : PCall Try.prog 37 [] wV := by
  refine PCall.of D0ok ok37 (by simp) rfl fun hs hb => ?_
  simp [A37, R37, astoAll, wV, rowsV, mW, ints, si, ci]
  rfl
theorem p38 : PCall Try.prog 38 [] vV := by
  refine PCall.of D0ok ok38 (by simp) rfl fun hs hb => ?_
  simp [A38, R38, astoAll, vV, rowsV, mV3, ints, si, ci]
  rfl
theorem isW : IsM wV mW (rowsV mW) := isM_sl (m := mW) (by decide) fun i h => by
  rw [← getD_row h]
  exact rowI_of (asI_sl (by rcases i with _ | _ | i <;> simp [mW] at h ⊢))
theorem isV : IsM vV mV3 (rowsV mV3) := isM_sl (m := mV3) (by decide) fun i h => by
  rw [← getD_row h]
  exact rowI_of (asI_sl (by rcases i with _ | _ | _ | i <;> simp [mV3] at h ⊢))
theorem okW : OkW mW := chkE_zero.1 (by decide)
theorem okV : OkW mV3 := chkE_zero.1 (by decide)
theorem shW : short mW 2 = 4 := by decide
theorem shV3 : short mV3 2 = 5 := by decide
theorem chW : chsE mW 2 = 0 := by decide
theorem chV : chsE mV3 2 = 0 := by decide
theorem whW : IsWhy mW 2 1 1 := ⟨by omega, by decide, by decide, fun w k h1 h2 => by
  rcases w with _ | _ | w
  · have : k < 2 := by simpa [bndL, arts, mW] using h1
    rcases k with _ | _ | k
    · decide
    · decide
    · omega
  · have : k = 0 := by omega
    subst this
    decide
  · omega⟩
theorem whV : IsWhy mV3 2 2 0 := ⟨by omega, by decide, by decide, fun w k h1 h2 => by
  rcases w with _ | _ | w
  · have : k < 3 := by simpa [bndL, arts, mV3] using h1
    rcases k with _ | _ | _ | k
    · decide
    · decide
    · decide
    · omega
  · have : k < 3 := by simpa [bndL, machs, cols, mV3] using h1
    rcases k with _ | _ | _ | k
    · decide
    · decide
    · decide
    · omega
  · omega⟩
theorem busW : busV mW 2 = .tup [.nilsl, outV 1 (ints [1]), .int .i64 0] := by
  unfold busV; rw [if_pos chW, shW]; rfl
theorem roomW : roomV mW 2 0 0 = .tup [.int .i64 1, .int .i64 0] := by
  unfold roomV; rw [if_pos chW, if_pos (by decide), shW]; rfl
theorem enoV5 : enoV mV3 5 = .tup [.int .i64 2, .int .i64 0] := by
  unfold enoV; rw [if_pos (by decide)]; rfl
def gP : List (Int × List Int) := [(1, [1, -1]), (2, [0, 1]), (1, [-1, 1])]
theorem lenW : lenV mW 2 gP = .tup [.int .i64 4, .int .i64 0] := by
  unfold lenV; rw [if_pos (by decide)]; rfl
theorem isP_plan (p : List (Int × List Int)) (hp : p.length ≤ 1000) (hl : ∀ s ∈ p, s.2.length ≤ 1000) : IsP (planV p) p := by
  refine ⟨?_, fun i h => ⟨.sl 1 (ints p[i].2) .exact, ?_, rowI_of (asI_sl (c := .exact) (by have := hl _ (List.getElem_mem h); omega))⟩, fun hp n => ?_⟩
  · unfold planV; rw [alen_out, List.length_map]
  · unfold planV
    rw [outV_ne (by intro e; have := congrArg List.length e; simp at this; rw [this] at h; simp at h)]
    simp [aidxS, h, stepV]
  · unfold planV
    cases p with
    | nil => cases n <;> rfl
    | cons s q =>
      rw [outV_ne (by simp)]
      refine frzL_noM ?_
      cases n with
      | zero => rfl
      | succ n =>
        simp only [noM, List.all_map, List.all_eq_true, Function.comp]
        intro t ht
        simp only [stepV, List.all_cons, List.all_nil, Bool.and_true, Bool.and_eq_true]
        exact ⟨by cases n <;> rfl, noM_ints n _ _⟩
end Go.Proofs.Ytokgpcdbpkginaa
set_option linter.unusedVariables false
set_option linter.unusedSimpArgs false
namespace Go.Proofs.Ytokgpcdbpkginaa
open Go Fw

theorem pt_na {C : PCtx} {f g : FuncId} {az a : List AV} {r : AV} (h : a ≠ az) : (C.pt f az r) g a = C g a := by unfold PCtx.pt; rw [if_neg (fun e => h e.2)]
theorem wv_ne : wV ≠ vV := by
  intro h; injection h with _ h _; have := congrArg List.length h; simp at this
def gV : AV := .sl 2 [.agg [.int .i64 1, .sl 1 (ints [1, -1]) .exact], .agg [.int .i64 2, .sl 1 (ints [0, 1]) .exact], .agg [.int .i64 1, .sl 1 (ints [-1, 1]) .exact]] .exact
theorem isP_g : IsP gV gP := by
  refine ⟨rfl, fun i h => ?_, fun hp n => ?_⟩
  · rcases i with _ | _ | _ | i
    · exact ⟨_, rfl, rowI_of (asI_sl (c := .exact) (by decide))⟩
    · exact ⟨_, rfl, rowI_of (asI_sl (c := .exact) (by decide))⟩
    · exact ⟨_, rfl, rowI_of (asI_sl (c := .exact) (by decide))⟩
    · simp [gP] at h; omega
  · refine frzL_noM ?_
    cases n with
    | zero => rfl
    | succ n =>
      simp only [gV, noM, List.all_cons, List.all_nil, Bool.and_true, noM_ints, Bool.and_eq_true]
      refine ⟨?_, ?_, ?_⟩ <;> (cases n <;> rfl)
theorem ctx29 {C : PCtx} (hC : CtxOk Try.prog C) : ∃ C', CtxOk Try.prog C' ∧ (∀ x y l n, asI x = some l → asI y = some n → C' 29 [x, y] = some (.bool (decide (l = n)))) ∧ ∀ g, ¬ g = 29 → C' g = C g := by
  refine ⟨C.fam (ι := {q : (AV × AV) × (List Int × List Int) // asI q.1.1 = some q.2.1 ∧ asI q.1.2 = some q.2.2}) 29 (fun q => [q.1.1.1, q.1.1.2]) (fun q => .bool (decide (q.1.2.1 = q.1.2.2))), hC.fam fun q => p29 q.2.1 q.2.2, fun x y l n hx hy => ?_, fun g hg => funext fun b => fam_ne hg⟩
  refine fam_eq (g := fun q : {q : (AV × AV) × (List Int × List Int) // asI q.1.1 = some q.2.1 ∧ asI q.1.2 = some q.2.2} => [q.1.1.1, q.1.1.2]) (r := fun q => .bool (decide (q.1.2.1 = q.1.2.2))) (fun i j e => ?_) ⟨((x, y), (l, n)), hx, hy⟩
  simp at e
  have a := i.2.1
  have b := i.2.2
  rw [e.1, j.2.1] at a
  rw [e.2, j.2.2] at b
  injection a with a
  injection b with b
  show AV.bool _ = .bool _
  rw [a, b]
theorem ctx32 {C : PCtx} (hC : CtxOk Try.prog C) (seats : Int) : ∃ C', CtxOk Try.prog C' ∧ (∀ x m, asM x = some m → C' 32 [x, .int .i64 seats] = some (shV m seats)) ∧ ∀ g, ¬ g = 32 → C' g = C g :=
  ctx_m hC (f := 32) (zs := [.int .i64 seats]) (r := fun m => shV m seats) fun {x m} hx => by
    obtain ⟨R, hR⟩ := asM.isM hx
    exact p32 hR seats
theorem ctx47 {C : PCtx} (hC : CtxOk Try.prog C) : ∃ C', CtxOk Try.prog C' ∧ (∀ l : List Int, l.length < 4294967296 → C' 47 [.sl 1 (ints l) .exact] = some (.sl 1 (ints l) .exact)) ∧ ∀ g, ¬ g = 47 → C' g = C g := by
  refine ⟨C.fam (ι := {l : List Int // l.length < 4294967296}) 47 (fun q => [.sl 1 (ints q.1) .exact]) (fun q => .sl 1 (ints q.1) .exact), hC.fam fun q => ?_, fun l hl => ?_, fun g hg => funext fun b => fam_ne hg⟩
  · have := p47 (asI_sl (c := .exact) q.2)
    rw [share_sl, share_ints] at this
    exact this
  · refine fam_eq (g := fun q : {l : List Int // l.length < 4294967296} => [.sl 1 (ints q.1) .exact]) (r := fun q => .sl 1 (ints q.1) .exact) (fun i j e => ?_) ⟨l, hl⟩
    injection e with e
theorem plan_len (m : List (List Int)) (hw : OkW m) {seats : Int} (hse : 1 ≤ seats ∧ seats ≤ 6) : IsP (planV (planP m seats)) (planP m seats) := by
  have h := plan_good hw hse
  exact isP_plan _ (by have := h.len; omega) fun s hs => by rw [(h.st s hs).len]; have := hw.r6; omega
set_option maxHeartbeats 2000000 in
theorem p15 : PCall Try.prog 15 [] (.bool true) := by
  have hs22 : verE mW 2 (planP mW 2) = 0 := (good_ver okW (by omega) (plan_good okW (by omega))).2
  have q22 := p22 isW 2 (plan_len mW okW (seats := 2) (by omega))
  rw [hs22] at q22
  have q20 := p20 isW 2 isP_g
  rw [lenW] at q20
  have q25 := p25 isW 2 0 0
  rw [roomW] at q25
  have q27 := p27 isV (t := 5) (by omega)
  rw [enoV5] at q27
  have q23 := p23 isW 2
  rw [busW] at q23
  have q16 := p16 isW 2
  rw [plnV, if_pos chW] at q16
  have q42a := p42 isW 2 okW (by omega) whW
  have q42b := p42 isV 2 okV (by omega) whV
  have q40 := p40 isW
  rw [sumsR, if_pos (chkE_zero.2 okW)] at q40
  obtain ⟨C0, hC0, k32, n32⟩ := ctx32 D0ok 2
  obtain ⟨C1, hC1, k29, n29⟩ := ctx29 hC0
  obtain ⟨C2, hC2, k47, n47⟩ := ctx47 hC1
  have f32 : ∀ x m, asM x = some m → C2 32 [x, .int .i64 2] = some (shV m 2) := fun x m hx => by rw [n47 32 (by decide), n29 32 (by decide)]; exact k32 x m hx
  have f29 : ∀ x y l n, asI x = some l → asI y = some n → C2 29 [x, y] = some (.bool (decide (l = n))) := fun x y l n a b => by rw [n47 29 (by decide)]; exact k29 x y l n a b
  have hD := ((((((((((hC2.pt p37).pt p38).pt q40).pt q42a).pt q42b).pt q16).pt q23).pt q25).pt q27).pt q20).pt q22
  have n42 : [wV, AV.int .i64 2] ≠ [vV, AV.int .i64 2] := by intro h; injection h with h; exact wv_ne h
  obtain ⟨E, hE, e37, e38, e40, e42a, e42b, e16, e23, e25, e27, e20, e22, e32w, e32v, e29, e47⟩ : ∃ E, CtxOk Try.prog E ∧ E 37 [] = some wV ∧ E 38 [] = some vV ∧ E 40 [wV] = some (.tup [.sl 1 (ints (arts mW)) .shared, .sl 1 (ints (machs mW)) .shared, .int .i64 0]) ∧ E 42 [wV, .int .i64 2] = some (whyK 1 1) ∧ E 42 [vV, .int .i64 2] = some (whyK 2 0) ∧
      E 16 [wV, .int .i64 2] = some (.tup [planV (planP mW 2), .int .i64 0]) ∧ E 23 [wV, .int .i64 2] = some (.tup [.nilsl, outV 1 (ints [1]), .int .i64 0]) ∧ E 25 [wV, .int .i64 2, .int .i64 0, .int .i64 0] = some (.tup [.int .i64 1, .int .i64 0]) ∧ E 27 [vV, .int .i64 5] = some (.tup [.int .i64 2, .int .i64 0]) ∧ E 20 [wV, .int .i64 2, gV] = some (.tup [.int .i64 4, .int .i64 0]) ∧ E 22 [wV, .int .i64 2, planV (planP mW 2)] = some (.int .i64 0) ∧
      E 32 [wV, .int .i64 2] = some (.tup [.int .i64 4, .int .i64 0]) ∧ E 32 [vV, .int .i64 2] = some (.tup [.int .i64 5, .int .i64 0]) ∧ (∀ x y l n, asI x = some l → asI y = some n → E 29 [x, y] = some (.bool (decide (l = n)))) ∧ (∀ l : List Int, l.length < 4294967296 → E 47 [.sl 1 (ints l) .exact] = some (.sl 1 (ints l) .exact)) := by
    refine ⟨_, hD, by simp, by simp, by simp, by simp [pt_na n42], by simp, by simp, by simp, by simp, by simp, by simp, by simp, ?_, ?_, fun x y l n a b => ?_, fun l hl => ?_⟩
    · have := f32 _ _ isW.asM
      rw [shV, if_pos chW, shW] at this
      simpa using this
    · have := f32 _ _ isV.asM
      rw [shV, if_pos chV, shV3] at this
      simpa using this
    · have := f29 x y l n a b
      simpa using this
    · have := k47 l hl
      simpa using this
  have a32w : ∀ hs, alcall E 32 hs [wV, .int .i64 2] = some (.tup [.int .i64 4, .int .i64 0]) := fun hs => alcall_of (by simp [isW.frz, e32w]) rfl
  have a32v : ∀ hs, alcall E 32 hs [vV, .int .i64 2] = some (.tup [.int .i64 5, .int .i64 0]) := fun hs => alcall_of (by simp [isV.frz, e32v]) rfl
  have a20 : ∀ hs, alcall E 20 hs [wV, .int .i64 2, .sl 2 [.agg [.int .i64 1, .sl 1 [.int .i64 1, .int .i64 (-1)] .exact], .agg [.int .i64 2, .sl 1 [.int .i64 0, .int .i64 1] .exact], .agg [.int .i64 1, .sl 1 [.int .i64 (-1), .int .i64 1] .exact]] .exact] = some (.tup [.int .i64 4, .int .i64 0]) := fun hs => alcall_of (f := 20) (args := [wV, .int .i64 2, gV]) (by simp only [List.map_cons, List.map_nil, isW.frz, isP_g.frz, frz_int]; exact e20) rfl
  have a22 : ∀ hs, alcall E 22 hs [wV, .int .i64 2, planV (planP mW 2)] = some (.int .i64 0) := fun hs => alcall_of (by simp only [List.map_cons, List.map_nil, isW.frz, (plan_len mW okW (seats := 2) (by omega)).frz, frz_int]; exact e22) rfl
  have a29 : ∀ hs x y l n, asI x = some l → asI y = some n → alcall E 29 hs [x, y] = some (.bool (decide (l = n))) := fun hs x y l n hx hy => alcall_of (by simp only [List.map_cons, List.map_nil, frz_asI hx, frz_asI hy]; exact e29 x y l n hx hy) rfl
  have b1 := e47 [1, -1] (by decide)
  have b2 := e47 [0, 1] (by decide)
  have b3 := e47 [-1, 1] (by decide)
  have b4 := e47 [3, 3] (by decide)
  have b5 := e47 [2, 4] (by decide)
  have b6 := e47 [1] (by decide)
  have c1 : ∀ hs, alcall E 29 hs [.sl 1 (ints (arts mW)) .shared, .sl 1 (ints [3, 3]) .exact] = some (.bool true) := fun hs => by
    have := a29 hs _ _ _ _ (asI_sl (c := .shared) (l := arts mW) (by decide)) (asI_sl (c := .exact) (l := [3, 3]) (by decide))
    rw [show decide (arts mW = [3, 3]) = true by decide] at this; exact this
  have c2 : ∀ hs, alcall E 29 hs [.sl 1 (ints (machs mW)) .shared, .sl 1 (ints [2, 4]) .exact] = some (.bool true) := fun hs => by
    have := a29 hs _ _ _ _ (asI_sl (c := .shared) (l := machs mW) (by decide)) (asI_sl (c := .exact) (l := [2, 4]) (by decide))
    rw [show decide (machs mW = [2, 4]) = true by decide] at this; exact this
  have c3 : ∀ hs, alcall E 29 hs [outV 1 (ints [1]), .sl 1 (ints [1]) .exact] = some (.bool true) := fun hs => by
    have := a29 hs (outV 1 (ints [1])) _ [1] _ rfl (asI_sl (c := .exact) (l := [1]) (by decide))
    simpa using this
  simp only [ints, List.map_cons, List.map_nil] at b1 b2 b3 b4 b5 b6 c1 c2 c3 e40 e23
  refine PCall.of hE ok15 (by simp) rfl fun hs hb => ?_
  simp [A15, R15, e37, e38, e40, a32w, a32v, e42a, e42b, e16, e23, e25, e27, whyK]
  have csl : ∀ sz xs c, (AV.sl sz xs c).cells = [.sl sz xs c] := fun _ _ _ => rfl
  simp [astoAll, si, ci, b1, b2, b3, b4, b5, b6, afill, setL, csl, sa, ca, a20, c1, c2, c3, a22, la, apart, abin_pair, alen_out]
  simp only [e37, At.optS]
  simp [a22]
  simp [astoAll, si, ci, b6, c3]
end Go.Proofs.Ytokgpcdbpkginaa
