/-
  Chains that are found are valid. Own work.
  The third law, walked: costs. Own work.
  The law of shortest chains, walked; rows among the shortest chains. Own work.
-/
import Derived.Test.YtnmpdegnpaggkaaG1
import Derived.Test.YtnmpdegnpaggkaaFw3
set_option linter.unusedVariables false
set_option linter.unusedSimpArgs false
namespace Go.Proofs.Ytnmpdegnpaggkaa
open Go Fw

/-- a chain that begins with 1, ascends, and has ways -/
structure Vld (c : List Int) : Prop where
  ne : 0 < c.length
  one : c.getD 0 0 = 1
  sorted : c.Pairwise (· < ·)
  bound : ∀ a ∈ c, 1 ≤ a ∧ a ≤ 46
  ways : ∀ j, 0 < j → j < c.length → wayAt c j ≠ none
theorem Vld.one1 : Vld [1] := ⟨by simp, by simp, by simp, fun a ha => by simp at ha; subst ha; omega, fun j h1 h2 => by simp at h2; omega⟩
theorem Vld.snoc {c : List Int} (h : Vld c) {a : Int} (h1 : lastL c < a) (h2 : a ≤ 46) (hw : wayL c a ≠ none) : Vld (c ++ [a]) := by
  have hne := h.ne
  have hlm : lastL c ∈ c := by rw [lastL_get hne]; exact List.getElem_mem _
  refine ⟨by simp, ?_, sorted_snoc h.sorted h1, fun b hb => ?_, fun j hj0 hj => ?_⟩
  · have := h.one
    rw [getD_get hne] at this
    rw [getD_get (by simp)]
    rw [List.getElem_append_left hne]; exact this
  · simp only [List.mem_append, List.mem_singleton] at hb
    rcases hb with hb | hb
    · exact h.bound b hb
    · subst hb
      have := h.bound _ hlm
      omega
  · simp only [List.length_append, List.length_singleton] at hj
    rcases Nat.lt_or_ge j c.length with h' | h'
    · have := h.ways j hj0 h'
      unfold wayAt at this ⊢
      rw [List.take_append_of_le_length (by omega), getD_get (by simp; omega), List.getElem_append_left h']
      rw [getD_get h'] at this
      exact this
    · have : j = c.length := by omega
      subst this
      unfold wayAt
      rw [List.take_append_of_le_length (Nat.le_refl _), List.take_length, getD_get (by simp)]
      simpa using hw
theorem ext_vld {n : Int} (hn : n ≤ 46) (sp : List Int) : ∀ (k : Nat) (c0 c : List Int), Vld c0 → c ∈ extL n sp k c0 → Vld c
  | 0, c0, c, hv, h => by
    unfold extL at h
    split at h
    · simp at h; subst h; exact hv
    · simp at h
  | k + 1, c0, c, hv, h => by
    rw [extL] at h
    split at h
    · simp at h
    · rw [List.mem_flatMap] at h
      obtain ⟨j, hj, h⟩ := h
      split at h
      · simp at h
      · rename_i hc
        simp only [List.mem_range] at hj
        have hcc := @cands_le (lastL c0) n
        exact ext_vld hn sp k _ c (hv.snoc (by omega) (by omega) (fun e => hc (.inr e))) h
theorem Vld.chk {c : List Int} (h : Vld c) (hl : c.length ≤ 20) : chk c = 0 := by
  have hne := h.ne
  have hs : firstE (scanAt c) c.length = 0 := firstE_zero fun k hk => by
    have hb := h.bound c[k] (List.getElem_mem hk)
    unfold scanAt
    rw [getD_get hk, if_pos (btw_iff.2 ⟨hb.1, hb.2⟩), if_neg]
    rintro ⟨h0, h1⟩
    rw [getD_get (by omega)] at h1
    have := sorted_get h.sorted hk (show k - 1 < k by omega)
    omega
  refine chk_5 (by omega) (by omega) hs h.one (firstE_zero fun k hk => ?_)
  unfold proofAt
  rw [if_pos]
  rcases Nat.eq_zero_or_pos k with h' | h'
  · exact .inl h'
  · have := h.ways k h' hk
    unfold wayAt at this
    exact .inr (Option.isSome_iff_ne_none.2 this)
end Go.Proofs.Ytnmpdegnpaggkaa
set_option linter.unusedVariables false
set_option linter.unusedSimpArgs false
namespace Go.Proofs.Ytnmpdegnpaggkaa
open Go Fw

/-- how the two searches for the least cost stand to each other -/
def Rel (n s t : Int) (o : Option (List Int × Int)) (b : Int) : Prop :=
  (o = none ∧ b = -1) ∨ ∃ c k, o = some (c, b) ∧ k ≤ 7 ∧ c ∈ extL n [] k [1] ∧ b = costL s t c ∧ 0 ≤ b
theorem costL_nonneg {s t : Int} (hg : goodP s t = true) (c : List Int) : 0 ≤ costL s t c := (sumC_bound (costF_bound hg c) _).1
theorem rel_step {n s t : Int} (hg : goodP s t = true) {o : Option (List Int × Int)} {b : Int} (h : Rel n s t o b) {k : Nat} (hk : k ≤ 7) {c : List Int} (hc : c ∈ extL n [] k [1]) : Rel n s t (bestS s t o c) (bestF s t b c) := by
  have h0 := costL_nonneg hg c
  rcases h with ⟨rfl, rfl⟩ | ⟨c', k', rfl, hk', hc', hb, hb0⟩
  · exact .inr ⟨c, k, by simp [bestS, bestF], hk, hc, by simp [bestF], by simp [bestF, h0]⟩
  · by_cases hlt : costL s t c < b
    · exact .inr ⟨c, k, by simp [bestS, bestF, hlt], hk, hc, by simp [bestF, hlt], by simp [bestF, hlt, h0]⟩
    · have : bestF s t b c = b := by unfold bestF; rw [if_neg (by omega)]
      rw [this]
      exact .inr ⟨c', k', by simp [bestS, hlt], hk', hc', hb, hb0⟩
theorem rel_inner {n s t : Int} (hg : goodP s t = true) {k : Nat} (hk : k ≤ 7) : ∀ (l : List (List Int)) (o : Option (List Int × Int)) (b : Int), (∀ c ∈ l, c ∈ extL n [] k [1]) → Rel n s t o b → Rel n s t (l.foldl (bestS s t) o) (l.foldl (bestF s t) b)
  | [], o, b, _, h => h
  | c :: l, o, b, hl, h => rel_inner hg hk l _ _ (fun c hc => hl c (by simp [hc])) (rel_step hg h hk (hl c (by simp)))
theorem rel_all {n s t : Int} (hg : goodP s t = true) : Rel n s t (bestAll n s t) (leastL n s t) := by
  unfold bestAll leastL
  have : ∀ m, m ≤ 8 → Rel n s t ((List.range m).foldl (fun o k => (extL n [] k [1]).foldl (bestS s t) o) none) ((List.range m).foldl (fun b k => (extL n [] k [1]).foldl (bestF s t) b) (-1)) := by
    intro m
    induction m with
    | zero => intro _; exact .inl ⟨rfl, rfl⟩
    | succ m ih =>
      intro hm
      rw [foldl_range_succ, foldl_range_succ]
      exact rel_inner hg (by omega) _ _ _ (fun c hc => hc) (ih (by omega))
  exact this 8 (Nat.le_refl _)

theorem bestS_some (s t : Int) (o : Option (List Int × Int)) (c : List Int) : (bestS s t o c).isSome = true := by
  unfold bestS
  split
  · rfl
  · split <;> rfl
theorem inner_some (s t : Int) : ∀ (l : List (List Int)) (o : Option (List Int × Int)), (o.isSome = true ∨ 0 < l.length) → (l.foldl (bestS s t) o).isSome = true
  | [], o, h => by
    rcases h with h | h
    · exact h
    · simp at h
  | c :: l, o, _ => inner_some s t l _ (.inl (bestS_some s t o c))
theorem all_some {n s t : Int} (h1 : 1 ≤ n) (h2 : n ≤ 46) : (bestAll n s t).isSome = true := by
  obtain ⟨r, hr, hr7, _⟩ := sh_some h1 h2
  have hpos := (shK_le hr).2
  unfold bestAll
  have : ∀ m, r < m → ((List.range m).foldl (fun o k => (extL n [] k [1]).foldl (bestS s t) o) none).isSome = true := by
    intro m
    induction m with
    | zero => intro h; omega
    | succ m ih =>
      intro hm
      rw [foldl_range_succ]
      rcases Nat.lt_or_ge r m with h' | h'
      · exact inner_some s t _ _ (.inl (ih h'))
      · have : m = r := by omega
        subst this
        exact inner_some s t _ _ (.inr hpos)
  exact this 8 (by omega)

theorem p6 {x : AV} {l : List Int} (hx : IsList x l) (n s t : Int) : PCall Try.prog 6 [x, .int .i64 n, .agg [.int .i64 s, .int .i64 t]] (.bool true) := by
  refine PCall.of D18ok ok6 (by simp) rfl fun hs' hb => ?_
  simp [A6, R6, hx.len, S15]
  refine At.dec (fun h => ?_) (fun h => ?_)
  · simp [S15]
  · have ha := hx.as (by omega)
    have hc1 : ∃ a e, costR s t l = .tup [.int .i64 a, .int .i64 e] := by
      unfold costR
      split
      · split <;> exact ⟨_, _, rfl⟩
      · exact ⟨_, _, rfl⟩
    obtain ⟨a, e, hc⟩ := hc1
    by_cases hg : btw 1 n 46 = true ∧ goodP s t = true
    · obtain ⟨h1, h2⟩ := btw_iff.1 hg.1
      rcases rel_all (n := n) hg.2 with ⟨e1, e2⟩ | ⟨c, k, e1, hk, hm, hb, hb0⟩
      · have := all_some (s := s) (t := t) h1 h2
        rw [e1] at this; cases this
      · have hch := ext_mem1 h2 hm
        have hcl := hch.len
        have hv := ext_vld h2 [] k [1] c .one1 hm
        have hcr : costR s t c = .tup [.int .i64 (leastL n s t), .int .i64 0] := by
          unfold costR
          rw [if_pos (hv.chk (by omega)), if_pos hg.2, ← hb]
        have hcheap : cheapR n s t = .tup [chV c, .int .i64 (leastL n s t), .int .i64 0] := by simp [cheapR, hg, e1, boC, boV]
        have hleast : leastR n s t = .tup [.int .i64 (leastL n s t), .int .i64 0] := by simp [leastR, hg]
        have hac := asI_chV (c := c) (by omega)
        have hlen := alen_of hac
        rw [hcl] at hlen
        have hla : c[k]? = some n := by
          have := hch.last
          rw [lastL_get (by omega)] at this
          rw [List.getElem?_eq_getElem (by omega)]
          congr 1
          rw [← this]; congr 1; omega
        have hi := aidx_of hac (k := .i64) (n := (k : Int)) (by omega) (by simpa using hla)
        have wk : IntKind.i64.wrap (k : Int) = k := wrap_nat (by omega)
        have hk8 : (k : Int) + 1 ≤ 8 := by omega
        have hk0 : (0 : Int) < (k : Int) + 1 := by omega
        simp [SCost, SPrice, ha, hc, hcheap, hleast, hac, hcr, hlen, wk, hi, hk8, hk0, S15]
    · have hcheap : cheapR n s t = .tup [.nilsl, .int .i64 0, .int .i64 3] := by unfold cheapR; rw [if_neg hg]
      have hleast : leastR n s t = .tup [.int .i64 0, .int .i64 3] := by unfold leastR; rw [if_neg hg]
      simp [SCost, SPrice, ha, hc, hcheap, hleast, S15]
theorem list_of {x : AV} (h : ShV (.sl (.int .i64)) x) : ∃ l, IsList x l := by
  obtain ⟨l, h1, _⟩ := shv_intsK h
  rcases h1 with h1 | h1
  · exact ⟨l, .inl h1⟩
  · exact ⟨l, .inr ⟨_, h1⟩⟩
theorem pair_of {j k : IntKind} {x : AV} (h : ShV (.st (.fcons (.int j) (.fcons (.int k) .fnil))) x) : ∃ a b, x = .agg [.int j a, .int k b] := by
  obtain ⟨cs, rfl, g⟩ := shv_agg rfl h
  obtain ⟨c1, c2, rfl, ⟨a, rfl, _⟩, c3, c4, rfl, ⟨b, rfl, _⟩, h4⟩ := g
  rw [show c4 = [] from h4]
  exact ⟨a, b, rfl⟩
theorem costs_typed : ∀ xs, Typed [.sl (.int .i64), .int .i64, .st (.fcons (.int .i64) (.fcons (.int .i64) .fnil))] xs → PCall Try.prog 6 xs (.bool true) := by
  intro xs h
  obtain ⟨x, y, z, rfl, h1, h2, h3⟩ := h.three
  obtain ⟨l, hl⟩ := list_of h1
  obtain ⟨n, rfl, _⟩ := shv_int h2
  obtain ⟨a, b, rfl⟩ := pair_of h3
  exact p6 hl n a b
end Go.Proofs.Ytnmpdegnpaggkaa
set_option linter.unusedVariables false
set_option linter.unusedSimpArgs false
namespace Go.Proofs.Ytnmpdegnpaggkaa
open Go Fw

def rowAt (l : List Int) (i : Nat) : Bool := (wayAt l i).map (fun p => p.1 + 1) == some i
def rowFrom (m : Nat) (l : List Int) : Bool := (List.range' m (l.length - m)).all (rowAt l)
theorem rowFrom_succ {m : Nat} {l : List Int} (h : m < l.length) : rowFrom m l = (rowAt l m && rowFrom (m + 1) l) := by
  unfold rowFrom
  rw [show l.length - m = (l.length - (m + 1)) + 1 by omega, List.range'_succ]
  rfl
theorem rowFrom_1 (l : List Int) : rowFrom 1 l = rowB l := by
  unfold rowFrom rowB
  rw [List.range'_eq_map_range, List.all_map]
  congr 1
  funext j
  simp only [Function.comp, rowAt, Nat.add_comm 1 j]
  cases wayAt l (j + 1) with
  | none => rfl
  | some p => simp
theorem ext_prefix (n : Int) (sp : List Int) : ∀ (k : Nat) (c0 c : List Int), c ∈ extL n sp k c0 → c0 <+: c ∧ c.length = c0.length + k
  | 0, c0, c, h => by
    unfold extL at h
    split at h
    · simp at h; subst h; exact ⟨List.prefix_rfl, rfl⟩
    · simp at h
  | k + 1, c0, c, h => by
    rw [extL] at h
    split at h
    · simp at h
    · rw [List.mem_flatMap] at h
      obtain ⟨j, hj, h⟩ := h
      split at h
      · simp at h
      · obtain ⟨h1, h2⟩ := ext_prefix n sp k _ c h
        exact ⟨(List.prefix_append _ _).trans h1, by simp at h2; omega⟩
theorem wayAt_prefix {c : List Int} {a : Int} {l : List Int} (h : c ++ [a] <+: l) : wayAt l c.length = wayL c a := by
  obtain ⟨r, rfl⟩ := h
  unfold wayAt
  simp
theorem vis_filter (n : Int) (sp : List Int) : ∀ (k : Nat) (c : List Int), visL n sp true k c = (extL n sp k c).filter (rowFrom c.length)
  | 0, c => by
    unfold visL extL
    split
    · simp [rowFrom]
    · rfl
  | k + 1, c => by
    rw [visL, extL]
    split
    · rfl
    · rw [List.filter_flatMap]
      congr 1
      funext j
      generalize ha : lastL c + 1 + (j : Int) = a
      have hmem : ∀ l ∈ extL n sp k (c ++ [a]), rowFrom c.length l = ((wayL c a).map (fun p => p.1 + 1) == some c.length && rowFrom (c.length + 1) l) := fun l hl => by
        obtain ⟨h1, h2⟩ := ext_prefix n sp k _ l hl
        rw [rowFrom_succ (by simp at h2; omega)]
        unfold rowAt
        rw [wayAt_prefix h1]
      rw [vis_filter n sp k (c ++ [a])]
      unfold okX
      cases hw : wayL c a with
      | none => simp
      | some p =>
        by_cases hsp : a ∈ sp
        · simp [hsp]
        · simp only [hsp, hw] at hmem ⊢
          simp only [List.length_append, List.length_singleton, Bool.not_true, Bool.false_or, decide_false, Bool.not_false, Bool.and_true, decide_eq_true_eq, reduceCtorEq, or_self, if_false]
          have hm2 : (extL n sp k (c ++ [a])).filter (rowFrom c.length) = (extL n sp k (c ++ [a])).filter (fun l => (Option.map (fun p => p.1 + 1) (some p) == some c.length && rowFrom (c.length + 1) l)) :=
            List.filter_congr hmem
          rw [hm2]
          by_cases hp : p.1 + 1 = c.length
          · simp [hp]
          · simp [hp]

/-! whether there is a row -/
def hasR (n : Int) : Nat → List Int → Bool
  | 0, c => decide (lastL c = n)
  | k + 1, c => if lastL c * 2 ^ (k + 1) < n then false else
      (List.range (cands (lastL c) n)).any fun (j : Nat) => if okX [] true c (lastL c + 1 + (j : Int)) = true then hasR n k (c ++ [lastL c + 1 + (j : Int)]) else false
theorem hasR_iff (n : Int) : ∀ (k : Nat) (c : List Int), hasR n k c = decide (0 < (visL n [] true k c).length)
  | 0, c => by simp only [hasR, visL]; split <;> simp [*]
  | k + 1, c => by
    rw [hasR, visL]
    split
    · simp
    · rw [Bool.eq_iff_iff, List.any_eq_true, decide_eq_true_eq, flat_ne]
      constructor
      · rintro ⟨j, hj, h⟩
        refine ⟨j, hj, ?_⟩
        split at h
        · rename_i hc; rw [if_pos hc]; rw [hasR_iff] at h; simpa using h
        · cases h
      · rintro ⟨j, hj, h⟩
        refine ⟨j, hj, ?_⟩
        split at h
        · rename_i hc; rw [if_pos hc]; rw [hasR_iff]; simpa using h
        · simp at h
theorem some_row : ∀ n : Nat, n < 46 → firstK (fun k => hasX ((n : Int) + 1) [] k [1]) 8 0 = firstK (fun k => hasR ((n : Int) + 1) k [1]) 8 0 := by decide +kernel
theorem row_first {n : Int} (h1 : 1 ≤ n) (h2 : n ≤ 46) : fstK n [] true = shK n [] := by
  have := some_row (n - 1).toNat (by omega)
  rw [show (((n - 1).toNat : Nat) : Int) + 1 = n by omega] at this
  unfold fstK shK
  rw [if_neg (by simp)]
  rw [show (fun k => hasX n [] k [1]) = fun k => decide (0 < (extL n [] k [1]).length) from funext fun k => hasX_iff n [] k [1],
    show (fun k => hasR n k [1]) = fun k => decide (0 < (visL n [] true k [1]).length) from funext fun k => hasR_iff n k [1]] at this
  exact this.symm
theorem inrow_eq (n : Int) : inrowP n = inrowR n := by
  unfold inrowP inrowR
  split
  · rename_i h
    obtain ⟨h1, h2⟩ := btw_iff.1 h
    obtain ⟨k, hk, hk7, _⟩ := sh_some h1 h2
    have hr := row_first h1 h2
    rw [hk] at hr
    have hpos : 0 < (visL n [] true k [1]).length := by
      have := firstK_some (show firstK (fun k => decide (0 < (visL n [] true k [1]).length)) 8 0 = some k from hr)
      simpa using this.1
    have hv : visL n [] true k [1] = (extL n [] k [1]).filter rowB := by
      rw [vis_filter]
      congr 1
      funext l
      exact rowFrom_1 l
    have hsl : shL n [] = extL n [] k [1] := by simp [shL, hk]
    have hf : fstV n [] true = chV ((visL n [] true k [1]).headD []) := by
      unfold fstV
      rw [if_neg (by simp), hr]
    rw [hf, hsl]
    cases hfd : (extL n [] k [1]).find? rowB with
    | none =>
      rw [← List.head?_filter, ← hv] at hfd
      cases hL : visL n [] true k [1] with
      | nil => rw [hL] at hpos; simp at hpos
      | cons a r => rw [hL] at hfd; simp at hfd
    | some c =>
      rw [← List.head?_filter, ← hv] at hfd
      cases hL : visL n [] true k [1] with
      | nil => rw [hL] at hpos; simp at hpos
      | cons a r => rw [hL] at hfd; simp at hfd; subst hfd; rfl
  · rfl
theorem s27_same {z : AV} {l : List Int} (h : asI z = some l) : S27 [z, z] = some (.bool true) := by simp [S27, h]
theorem chain_eq (n : Int) : ∃ z e, chainR n = .tup [z, .int .i64 e] ∧ S27 [z, z] = some (.bool true) := by
  unfold chainR
  split
  · rename_i h
    obtain ⟨h1, h2⟩ := btw_iff.1 h
    obtain ⟨m, hm, hm0, hc⟩ := hd_chn h1 h2
    have := hc.len
    exact ⟨_, _, rfl, s27_same (asI_chV (by omega))⟩
  · exact ⟨_, _, rfl, rfl⟩
theorem inrow_form (n : Int) : ∃ z e, inrowR n = .tup [z, .int .i64 e] ∧ S27 [z, z] = some (.bool true) := by
  unfold inrowR
  split
  · rename_i h
    obtain ⟨h1, h2⟩ := btw_iff.1 h
    split
    · rename_i c hc
      obtain ⟨m, hm, hm0, hc'⟩ := sh_mem h2 (List.mem_of_find?_eq_some hc)
      have := hc'.len
      exact ⟨_, _, rfl, s27_same (asI_chV (by omega))⟩
    · exact ⟨_, _, rfl, rfl⟩
  · exact ⟨_, _, rfl, rfl⟩
theorem reach_form (k : Int) : ∃ z e, reachR k = .tup [z, .int .i64 e] ∧ S27 [z, z] = some (.bool true) := by
  unfold reachR
  split
  · have hl := reachTo_len k 46
    refine ⟨_, _, rfl, s27_same (l := reachTo k 46) ?_⟩
    cases h : reachTo k 46 with
    | nil => rfl
    | cons a r =>
      rw [outV_ne (by simp), ← h]
      exact asI_sl (by omega)
  · exact ⟨_, _, rfl, rfl⟩
theorem dist_form (n : Int) : ∃ a e, distR n = .tup [.int .i64 a, .int .i64 e] := by unfold distR; split <;> exact ⟨_, _, rfl⟩
theorem count_form (n : Int) : ∃ a e, countR n = .tup [.int .i64 a, .int .i64 e] := by unfold countR; split <;> exact ⟨_, _, rfl⟩
set_option maxRecDepth 100000 in
theorem p4 (n k : Int) : PCall Try.prog 4 [.int .i64 n, .int .i64 k] (.bool true) := by
  refine PCall.of D18ok ok4 (by simp) rfl fun hs' hb => ?_
  obtain ⟨a1, e1, d1⟩ := dist_form n
  obtain ⟨z2, e2, d2, s2⟩ := chain_eq n
  obtain ⟨a3, e3, d3⟩ := count_form n
  obtain ⟨z4, e4, d4, s4⟩ := inrow_form n
  obtain ⟨z5, e5, d5, s5⟩ := reach_form k
  simp [A4, R4, SDist, SChain, SInt1, d1, d2, d3, d4, d5, s2, s4, s5, inrow_eq, S15]
theorem shortest_typed : ∀ xs, Typed [.int .i64, .int .i64] xs → PCall Try.prog 4 xs (.bool true) := by
  intro xs h
  obtain ⟨x, y, rfl, h1, h2⟩ := h.two
  obtain ⟨n, rfl, _⟩ := shv_int h1
  obtain ⟨m, rfl, _⟩ := shv_int h2
  exact p4 n m
end Go.Proofs.Ytnmpdegnpaggkaa
