/-
  Checks of chains, twice. Own work.
-/
import Derived.Test.YtnmpdegnpaggkaaWay
set_option linter.unusedVariables false
set_option linter.unusedSimpArgs false
namespace Go.Proofs.Ytnmpdegnpaggkaa
open Go Fw

def S47 : List AV → Option AV
  | [x, .int .i64 n] => (asI x).bind fun l => if l.Pairwise (· < ·) ∧ Sm l ∧ -100000 ≤ n ∧ n ≤ 100000 then some (wayR (wayL l n)) else none
  | _ => none
theorem c47 : ∀ a r, S47 a = some r → PCall Try.prog 47 a r := by
  intro a r h
  unfold S47 at h
  split at h <;> (try (cases h; done))
  obtain ⟨l, hl, h⟩ := Option.bind_eq_some_iff.1 h
  split at h <;> (try (cases h; done))
  rename_i hc
  injection h with h; subst h
  exact p47 hl hc.1 hc.2.1 _ hc.2.2
def S48 : List AV → Option AV
  | [x, .int .i64 n] => (asI x).bind fun l => if Sm l ∧ -100000 ≤ n ∧ n ≤ 100000 then some (wayR2 (wayL l n)) else none
  | _ => none
theorem c48 : ∀ a r, S48 a = some r → PCall Try.prog 48 a r := by
  intro a r h
  unfold S48 at h
  split at h <;> (try (cases h; done))
  obtain ⟨l, hl, h⟩ := Option.bind_eq_some_iff.1 h
  split at h <;> (try (cases h; done))
  rename_i hc
  injection h with h; subst h
  exact p48 hl hc.1 _ hc.2
def D4 : PCtx := (D3.add 47 S47).add 48 S48
theorem D4ok : CtxOk Try.prog D4 := (D3ok.add c47).add c48
@[simp] theorem D4_47 : D4 47 = S47 := id rfl
@[simp] theorem D4_48 : D4 48 = S48 := id rfl
@[simp] theorem D4_50 : D4 50 = S50 := id rfl
@[simp] theorem D4_51 : D4 51 = S64 := id rfl
@[simp] theorem D4_65 : D4 65 = SHas := id rfl
@[simp] theorem D4_68 : D4 68 = SHas := id rfl
@[simp] theorem D4_69 : D4 69 = S69 := id rfl
@[simp] theorem D4_62 : D4 62 = S62 := id rfl

def scanAt (l : List Int) (i : Nat) : Int := if btw 1 (l.getD i 0) 46 = true then (if 0 < i ∧ l.getD i 0 ≤ l.getD (i - 1) 0 then 7 else 0) else 3
def proofAt (l : List Int) (i : Nat) : Int := if i = 0 ∨ (wayL (l.take i) (l.getD i 0)).isSome = true then 0 else 13
def chk (l : List Int) : Int :=
  if l.length = 0 then 1 else if 20 < l.length then 2 else if firstE (scanAt l) l.length ≠ 0 then firstE (scanAt l) l.length else if l.getD 0 0 ≠ 1 then 13 else firstE (proofAt l) l.length

theorem chk_1 {l : List Int} (h : l = []) : chk l = 1 := by subst h; rfl
theorem chk_2 {l : List Int} (h : 20 < l.length) : chk l = 2 := by unfold chk; rw [if_neg (by omega), if_pos h]
theorem chk_3 {l : List Int} (h0 : l.length ≠ 0) (h1 : ¬ 20 < l.length) {v : Int} (e : firstE (scanAt l) l.length = v) (hv : v ≠ 0) : chk l = v := by unfold chk; rw [if_neg h0, if_neg h1, if_pos (by rw [e]; exact hv), e]
theorem chk_4 {l : List Int} (h0 : l.length ≠ 0) (h1 : ¬ 20 < l.length) (e : firstE (scanAt l) l.length = 0) (h : l.getD 0 0 ≠ 1) : chk l = 13 := by unfold chk; rw [if_neg h0, if_neg h1, if_neg (by rw [e]; simp), if_pos h]
theorem chk_5 {l : List Int} (h0 : l.length ≠ 0) (h1 : ¬ 20 < l.length) (e : firstE (scanAt l) l.length = 0) (h : l.getD 0 0 = 1) {v : Int} (ev : firstE (proofAt l) l.length = v) : chk l = v := by unfold chk; rw [if_neg h0, if_neg h1, if_neg (by rw [e]; simp), if_neg (by simpa using h), ev]
theorem chk_zero {l : List Int} (h : chk l = 0) : 0 < l.length ∧ l.length ≤ 20 ∧ (∀ k, k < l.length → scanAt l k = 0) ∧ l.getD 0 0 = 1 ∧ ∀ k, k < l.length → proofAt l k = 0 := by
  unfold chk at h
  split at h <;> (try (cases h; done))
  split at h <;> (try (cases h; done))
  split at h
  · rename_i h'; exact absurd h h'
  · rename_i h1 h2 h3
    split at h <;> (try (cases h; done))
    rename_i h4
    exact ⟨by omega, by omega, firstE_all (by simpa using h3), by simpa using h4, firstE_all h⟩

theorem getD_get {l : List Int} {i : Nat} (h : i < l.length) : l.getD i 0 = l[i] := by simp [h]
theorem scan_get {l : List Int} {k : Nat} (h : scanAt l k = 0) (hk : k < l.length) : 1 ≤ l[k] ∧ l[k] ≤ 46 ∧ (0 < k → l[k - 1] < l[k]) := by
  unfold scanAt at h
  split at h <;> (try (cases h; done))
  rename_i hb
  split at h <;> (try (cases h; done))
  rename_i hc
  rw [getD_get hk] at hb hc
  simp only [btw, Bool.and_eq_true, decide_eq_true_eq] at hb
  refine ⟨hb.1, hb.2, fun h0 => ?_⟩
  rw [getD_get (by omega)] at hc
  omega
theorem scan_all {l : List Int} (h : ∀ k, k < l.length → scanAt l k = 0) : l.Pairwise (· < ·) ∧ ∀ a ∈ l, 1 ≤ a ∧ a ≤ 46 := by
  refine ⟨pair_of_adj fun k hk => (scan_get (h (k + 1) hk) hk).2.2 (by omega), fun a ha => ?_⟩
  obtain ⟨k, hk, rfl⟩ := List.getElem_of_mem ha
  have := scan_get (h k hk) hk
  exact ⟨this.1, this.2.1⟩
theorem sm_of {l : List Int} (h : ∀ a ∈ l, 1 ≤ a ∧ a ≤ 46) : Sm l := fun a ha => by have := h a ha; omega
theorem sm_take {l : List Int} (h : Sm l) (n : Nat) : Sm (l.take n) := fun a ha => h a (List.mem_of_mem_take ha)
theorem sorted_take {l : List Int} (h : l.Pairwise (· < ·)) (n : Nat) : (l.take n).Pairwise (· < ·) := h.sublist (List.take_sublist _ _)

theorem p21 {x : AV} {l : List Int} (hx : asI x = some l) : PCall Try.prog 21 [x] (.int .i64 (chk l)) := by
  have hl := asI_len hx
  refine PCall.of D4ok ok21 (by simp) rfl fun hs' hb => ?_
  simp [A21, R21, alen_of hx]
  refine At.dec (fun h0 => ?_) (fun h0 => ?_)
  · simp [chk_1 h0]
  have hne : l.length ≠ 0 := by simpa using h0
  simp [alen_of hx]
  refine At.dec (fun h1 => ?_) (fun h1 => ?_)
  · simp [chk_2 (l := l) (by omega)]
  have h1 : ¬ 20 < l.length := by omega
  simp [alen_of hx]
  refine At.loop (fun (i : Nat) s => i ≤ l.length ∧ s.env 0 = x ∧ s.env 3 = .int .i64 (if i = 0 then 0 else l.getD (i - 1) 0) ∧ s.env 18 = x ∧ s.env 19 = .int .i64 l.length ∧ s.env 20 = .int .i64 i ∧ ∀ k, k < i → scanAt l k = 0) (fun i => l.length - i) 0 (by simp) ?_
  rintro N i s hN ⟨hi, e0, e3, e18, e19, e20, hsc⟩
  simp [e0, e3, e18, e19, e20]
  refine At.dec (fun h => ?_) (fun h => ?_)
  · simp [e0, e3, e18, e19, e20, aidx_nat hx h, S50]
    have hg := getD_get h
    refine At.split (fun hb => ?_) (fun hb => ?_)
    · have hs : scanAt l i = 3 := by unfold scanAt; rw [hg]; simp at hb; simp [hb]
      have : firstE (scanAt l) l.length = 3 := by rw [firstE_hit hsc (by rw [hs]; decide) h, hs]
      simp [chk_3 hne h1 this (by decide)]
    · have hb' : btw 1 l[i] 46 = true := by simpa using hb
      have hb2 : 1 ≤ l[i] ∧ l[i] ≤ 46 := by simpa [btw] using hb'
      simp [e0, e3, e18, e19, e20]
      refine At.dec (fun h2 => ?_) (fun h2 => ?_)
      · have hi0 : 0 < i := by
          rcases Nat.eq_zero_or_pos i with h' | h'
          · subst h'; simp at h2; omega
          · exact h'
        have hs : scanAt l i = 7 := by
          unfold scanAt
          rw [hg, if_pos hb', if_pos]
          refine ⟨hi0, ?_⟩
          have : i ≠ 0 := by omega
          simp [this] at h2
          simpa using h2
        have : firstE (scanAt l) l.length = 7 := by rw [firstE_hit hsc (by rw [hs]; decide) h, hs]
        simp [chk_3 hne h1 this (by decide)]
      · have hs : scanAt l i = 0 := by
          unfold scanAt
          rw [hg, if_pos hb', if_neg]
          rintro ⟨hi0, h3⟩
          apply h2
          have : i ≠ 0 := by omega
          simp [this]
          simpa using h3
        simp [e0, e3, e18, e19, e20]
        refine hN (i + 1) _ (by omega) ⟨by omega, ?_⟩
        simp [e0, e3, e18, e19, e20, wrap_nat1 (show i < _ by omega), h]
        intro k hk
        rcases Nat.lt_or_ge k i with h' | h'
        · exact hsc k h'
        · have : k = i := by omega
          subst this; exact hs
  · have : i = l.length := by omega
    subst this
    obtain ⟨hsort, hbd⟩ := scan_all hsc
    have hsm := sm_of hbd
    have hf0 := firstE_zero hsc
    have hpos : 0 < l.length := by omega
    have a0 := aidx_nat hx (k := .i64) hpos
    simp only [Int.natCast_zero] at a0
    simp [e0, a0]
    refine At.decn (fun h2 => ?_) (fun h2 => ?_)
    · have ed : aslice 1 x (some (.int .i64 1)) none none = some (dropV 1 x) := by
        have := slice_drop (asI_asV hx) (n := 1) (k := .i64) (by rw [ints_len]; omega)
        simpa using this
      have hd := asI_drop hx 1
      have h2' : l.getD 0 0 = 1 := by rw [getD_get hpos]; exact h2
      simp [e0, ed, alen_of hd]
      refine At.loop (fun (j : Nat) s => j + 1 ≤ l.length ∧ s.env 0 = x ∧ s.env 39 = dropV 1 x ∧ s.env 40 = .int .i64 ((l.length - 1 : Nat) : Int) ∧ s.env 41 = .int .i64 j ∧ ∀ k, k < j + 1 → proofAt l k = 0) (fun j => l.length - j) 0 ?_ ?_
      · simp [e0]
        refine ⟨by omega, ?_⟩
        simp [proofAt]
      rintro N' j s' hN' ⟨hj, e0, e39, e40, e41, hpr⟩
      simp [e0, e39, e40, e41]
      refine At.dec (fun h3 => ?_) (fun h3 => ?_)
      · have hj1 : j + 1 < l.length := by omega
        have hjd : j < (l.drop 1).length := by simp; omega
        have ai := aidx_nat hd (k := .i64) hjd
        have hgd : (l.drop 1)[j] = l[j + 1] := by rw [List.getElem_drop]; congr 1; omega
        rw [hgd] at ai
        have et : aslice 1 x none (some (.int .i64 ((j : Int) + 1))) none = some (takeV (j + 1) x) := by
          have := slice_take (asI_asV hx) (n := j + 1) (k := .i64) (by rw [ints_len]; omega)
          simpa using this
        have w1 : IntKind.i64.wrap ((j : Int) + 1) = (j : Int) + 1 := wrap64 (by omega) (by omega)
        have hb2 := hsm l[j + 1] (List.getElem_mem hj1)
        simp [e0, e39, e40, e41, ai, w1, et, S47, asI_take hx, sorted_take hsort, sm_take hsm, hb2]
        have hpa : proofAt l (j + 1) = if (wayL (l.take (j + 1)) l[j + 1]).isSome = true then 0 else 13 := by
          unfold proofAt; rw [getD_get hj1]; simp
        rcases hw : wayL (l.take (j + 1)) l[j + 1] with _ | ⟨a, b⟩
        · have hs : proofAt l (j + 1) = 13 := by rw [hpa, hw]; rfl
          have : firstE (proofAt l) l.length = 13 := by rw [firstE_hit hpr (by rw [hs]; decide) hj1, hs]
          simp [wayR, e0, e39, e40, e41]
          simp [chk_5 hne h1 hf0 h2' this]
        · have hs : proofAt l (j + 1) = 0 := by rw [hpa, hw]; rfl
          simp [wayR, e0, e39, e40, e41]
          refine hN' (j + 1) _ (by omega) ⟨by omega, ?_⟩
          simp [e0, e39, e40, e41, w1]
          intro k hk
          rcases Nat.lt_or_ge k (j + 1) with h' | h'
          · exact hpr k h'
          · have : k = j + 1 := by omega
            subst this; exact hs
      · have hj' : j + 1 = l.length := by omega
        rw [hj'] at hpr
        have := firstE_zero hpr
        simp [e0, e39, e40, e41]
        simp [chk_5 hne h1 hf0 h2' this]
    · have h2' : ¬ l.getD 0 0 = 1 := by rw [getD_get hpos]; exact h2
      simp [chk_4 hne h1 hf0 h2']

theorem p22 {x : AV} {l : List Int} (hx : asI x = some l) : PCall Try.prog 22 [x] (.int .i64 (chk l)) := by
  have hl := asI_len hx
  refine PCall.of D4ok ok22 (by simp) rfl fun hs' hb => ?_
  simp [A22, R22, alen_of hx]
  refine At.dec (fun h0 => ?_) (fun h0 => ?_)
  · simp [chk_1 h0]
  have hne : l.length ≠ 0 := by simpa using h0
  simp [alen_of hx]
  refine At.dec (fun h1 => ?_) (fun h1 => ?_)
  · simp [chk_2 (l := l) (by omega)]
  have h1 : ¬ 20 < l.length := by omega
  simp [alen_of hx]
  refine At.loop (fun (i : Nat) s => i ≤ l.length ∧ s.env 0 = x ∧ s.env 3 = .int .i64 i ∧ ∀ k, k < i → scanAt l k = 0) (fun i => l.length - i) 0 (by simp) ?_
  rintro N i s hN ⟨hi, e0, e3, hsc⟩
  simp [e0, e3, alen_of hx]
  refine At.dec (fun h => ?_) (fun h => ?_)
  · simp [e0, e3, aidx_nat hx h, S64]
    have hg := getD_get h
    refine At.split (fun hb => ?_) (fun hb => ?_)
    · have hs : scanAt l i = 3 := by unfold scanAt; rw [hg]; simp at hb; simp [hb]
      have : firstE (scanAt l) l.length = 3 := by rw [firstE_hit hsc (by rw [hs]; decide) h, hs]
      simp [chk_3 hne h1 this (by decide)]
    · have hb' : btw 1 l[i] 46 = true := by simpa using hb
      simp [e0, e3]
      refine At.dec (fun h2 => ?_) (fun h2 => ?_)
      · have wp : IntKind.i64.wrap ((i : Int) - 1) = ((i - 1 : Nat) : Int) := by rw [wrap64 (by omega) (by omega)]; omega
        have hi1 : i - 1 < l.length := by omega
        simp [e0, e3, h2, aidx_nat hx h, aidx_nat hx hi1, wp]
        refine At.dec (fun h3 => ?_) (fun h3 => ?_)
        · have hs : scanAt l i = 7 := by
            unfold scanAt
            rw [hg, if_pos hb', if_pos]
            exact ⟨h2, by rw [getD_get hi1]; exact h3⟩
          have : firstE (scanAt l) l.length = 7 := by rw [firstE_hit hsc (by rw [hs]; decide) h, hs]
          simp [chk_3 hne h1 this (by decide)]
        · have hs : scanAt l i = 0 := by
            unfold scanAt
            rw [hg, if_pos hb', if_neg]
            rw [getD_get hi1]
            exact fun h => h3 h.2
          simp [e0, e3]
          refine hN (i + 1) _ (by omega) ⟨by omega, ?_⟩
          simp [e0, e3, wrap_nat1 (show i < _ by omega)]
          intro k hk
          rcases Nat.lt_or_ge k i with h' | h'
          · exact hsc k h'
          · have : k = i := by omega
            subst this; exact hs
      · have hs : scanAt l i = 0 := by
          unfold scanAt
          rw [hg, if_pos hb', if_neg]
          exact fun h => h2 h.1
        simp [e0, e3, h2]
        refine hN (i + 1) _ (by omega) ⟨by omega, ?_⟩
        simp [e0, e3, wrap_nat1 (show i < _ by omega)]
        intro k hk
        rcases Nat.lt_or_ge k i with h' | h'
        · exact hsc k h'
        · have : k = i := by omega
          subst this; exact hs
  · have : i = l.length := by omega
    subst this
    obtain ⟨hsort, hbd⟩ := scan_all hsc
    have hsm := sm_of hbd
    have hf0 := firstE_zero hsc
    have hpos : 0 < l.length := by omega
    have a0 := aidx_nat hx (k := .i64) hpos
    simp only [Int.natCast_zero] at a0
    simp [e0, a0]
    refine At.decn (fun h2 => ?_) (fun h2 => ?_)
    · have h2' : l.getD 0 0 = 1 := by rw [getD_get hpos]; exact h2
      simp [e0]
      refine At.loop (fun (j : Nat) s => j + 1 ≤ l.length ∧ s.env 0 = x ∧ s.env 4 = .int .i64 ((j + 1 : Nat) : Int) ∧ ∀ k, k < j + 1 → proofAt l k = 0) (fun j => l.length - j) 0 ?_ ?_
      · simp [e0]
        refine ⟨by omega, ?_⟩
        simp [proofAt]
      rintro N' j s' hN' ⟨hj, e0, e4, hpr⟩
      have cj : ((j + 1 : Nat) : Int) = (j : Int) + 1 := by omega
      simp [e0, e4, alen_of hx]
      refine At.dec (fun h3 => ?_) (fun h3 => ?_)
      · have hj1 : j + 1 < l.length := by omega
        have ai := aidx_nat hx (k := .i64) hj1
        rw [cj] at ai
        have et : aslice 1 x none (some (.int .i64 ((j : Int) + 1))) none = some (takeV (j + 1) x) := by
          have := slice_take (asI_asV hx) (n := j + 1) (k := .i64) (by rw [ints_len]; omega)
          simpa using this
        have hb2 := hsm l[j + 1] (List.getElem_mem hj1)
        simp [e0, e4, ai, et, S48, asI_take hx, sm_take hsm, hb2]
        have hpa : proofAt l (j + 1) = if (wayL (l.take (j + 1)) l[j + 1]).isSome = true then 0 else 13 := by
          unfold proofAt; rw [getD_get hj1]; simp
        rcases hw : wayL (l.take (j + 1)) l[j + 1] with _ | ⟨a, b⟩
        · have hs : proofAt l (j + 1) = 13 := by rw [hpa, hw]; rfl
          have : firstE (proofAt l) l.length = 13 := by rw [firstE_hit hpr (by rw [hs]; decide) hj1, hs]
          simp [wayR2, e0, e4]
          simp [chk_5 hne h1 hf0 h2' this]
        · have hs : proofAt l (j + 1) = 0 := by rw [hpa, hw]; rfl
          have w1 : IntKind.i64.wrap ((j : Int) + 1 + 1) = (j : Int) + 1 + 1 := wrap64 (by omega) (by omega)
          have : ¬ ((a : Int) < 0) := by omega
          simp [wayR2, e0, e4, this]
          refine hN' (j + 1) _ (by omega) ⟨by omega, ?_⟩
          simp [e0, e4, w1]
          intro k hk
          rcases Nat.lt_or_ge k (j + 1) with h' | h'
          · exact hpr k h'
          · have : k = j + 1 := by omega
            subst this; exact hs
      · have hj' : j + 1 = l.length := by omega
        rw [hj'] at hpr
        have := firstE_zero hpr
        simp [e0, e4]
        simp [chk_5 hne h1 hf0 h2' this]
    · have h2' : ¬ l.getD 0 0 = 1 := by rw [getD_get hpos]; exact h2
      simp [chk_4 hne h1 hf0 h2']
end Go.Proofs.Ytnmpdegnpaggkaa
