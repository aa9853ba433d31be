/-
  What can be reached along rods, by rounds of all braces. Own work.
  The law of detours that are needed: paths. Own work.
  The law of detours that are needed: the walk. Own work.
-/
import Derived.Test.YtecbbbocjmdfgaaG5
import Derived.Test.YtecbbbocjmdfgaaG3
import Derived.Test.YtecbbbocjmdfgaaG4
set_option linter.unusedVariables false
set_option linter.unusedSimpArgs false
namespace Go.Proofs.Ytecbbbocjmdfgaa
open Go Fw

/-- rounds over all braces -/
def jmN (r : Nat) (l : List Br) (m : Nat) : Nat → Nat
  | 0 => m
  | k + 1 => jnR r l (jmN r l m k)
theorem jmN_1 {r : Nat} {l : List Br} : ∀ k, jmN r l 1 k = jnN r l k
  | 0 => rfl
  | k + 1 => by simp only [jmN, jnN]; rw [jmN_1 k]
theorem and_two {m p q : Nat} : m &&& (2 ^ p ||| 2 ^ q) = 0 ↔ m.testBit p = false ∧ m.testBit q = false := by
  constructor
  · intro h
    have hb : ∀ x, (m &&& (2 ^ p ||| 2 ^ q)).testBit x = false := fun x => by rw [h]; simp
    constructor
    · have := hb p
      rw [Nat.testBit_and, Nat.testBit_or, Nat.testBit_two_pow_self, Bool.true_or, Bool.and_true] at this
      exact this
    · have := hb q
      rw [Nat.testBit_and, Nat.testBit_or, Nat.testBit_two_pow_self (n := q), Bool.or_true, Bool.and_true] at this
      exact this
  · rintro ⟨h1, h2⟩
    apply Nat.eq_of_testBit_eq
    intro x
    rw [Nat.testBit_and, Nat.testBit_or, Nat.testBit_two_pow, Nat.testBit_two_pow, Nat.zero_testBit]
    by_cases hp : p = x
    · subst hp; rw [h1]; simp
    · by_cases hq : q = x
      · subst hq; rw [h2]; simp
      · simp [hp, hq]
theorem jnS_bit {r m : Nat} {b : Br} {x : Nat} : (jnS r m b).testBit x = true ↔ m.testBit x = true ∨ ((m.testBit b.1.toNat = true ∨ m.testBit (r + b.2.1.toNat) = true) ∧ (x = b.1.toNat ∨ x = r + b.2.1.toNat)) := by
  unfold jnS
  generalize b.1.toNat = p
  generalize r + b.2.1.toNat = q
  split
  · rename_i h
    obtain ⟨h1, h2⟩ := and_two.1 h
    rw [h1, h2]
    simp
  · rename_i h
    have h' : m.testBit p = true ∨ m.testBit q = true := by
      apply Classical.byContradiction
      intro hn
      apply h
      rw [and_two]
      constructor
      · cases hb : m.testBit p with
        | false => rfl
        | true => exact absurd (.inl hb) hn
      · cases hb : m.testBit q with
        | false => rfl
        | true => exact absurd (.inr hb) hn
    rw [or_bit, or_bit, pow_bit, pow_bit]
    constructor
    · rintro (h1 | h1 | h1)
      · exact .inl h1
      · exact .inr ⟨h', .inl h1.symm⟩
      · exact .inr ⟨h', .inr h1.symm⟩
    · rintro (h1 | ⟨_, h1 | h1⟩)
      · exact .inl h1
      · exact .inr (.inl h1.symm)
      · exact .inr (.inr h1.symm)
theorem jnR_mono {r : Nat} {l : List Br} : ∀ {m x : Nat}, m.testBit x = true → (jnR r l m).testBit x = true := by
  induction l with
  | nil => intro m x h; exact h
  | cons b l ih => intro m x h; exact ih (jnS_bit.2 (.inl h))
theorem jnR_sound {r : Nat} {P : Nat → Prop} {l : List Br} (hP : ∀ b ∈ l, P b.1.toNat ↔ P (r + b.2.1.toNat)) : ∀ {m : Nat}, (∀ x, m.testBit x = true → P x) → ∀ x, (jnR r l m).testBit x = true → P x := by
  induction l with
  | nil => intro m h; exact h
  | cons b l ih =>
    intro m h
    refine ih (fun c hc => hP c (by simp [hc])) (m := jnS r m b) fun x hx => ?_
    have hb := hP b (by simp)
    rcases jnS_bit.1 hx with hx | ⟨h1, rfl | rfl⟩
    · exact h x hx
    · rcases h1 with h1 | h1
      · exact h _ h1
      · exact hb.2 (h _ h1)
    · rcases h1 with h1 | h1
      · exact hb.1 (h _ h1)
      · exact h _ h1
theorem jnR_edge {r : Nat} {b : Br} {l : List Br} (hb : b ∈ l) : ∀ {m : Nat}, (m.testBit b.1.toNat = true ∨ m.testBit (r + b.2.1.toNat) = true) → (jnR r l m).testBit b.1.toNat = true ∧ (jnR r l m).testBit (r + b.2.1.toNat) = true := by
  induction l with
  | nil => cases hb
  | cons c l ih =>
    intro m h
    rcases List.mem_cons.1 hb with rfl | hb
    · exact ⟨jnR_mono (l := l) (jnS_bit.2 (.inr ⟨h, .inl rfl⟩)), jnR_mono (l := l) (jnS_bit.2 (.inr ⟨h, .inr rfl⟩))⟩
    · refine ih hb (m := jnS r m c) ?_
      rcases h with h | h
      · exact .inl (jnS_bit.2 (.inl h))
      · exact .inr (jnS_bit.2 (.inl h))
theorem jmN_sound {r : Nat} {P : Nat → Prop} {l : List Br} (hP : ∀ b ∈ l, P b.1.toNat ↔ P (r + b.2.1.toNat)) {m : Nat} (h : ∀ x, m.testBit x = true → P x) : ∀ k x, (jmN r l m k).testBit x = true → P x
  | 0 => h
  | k + 1 => jnR_sound hP (jmN_sound hP h k)
theorem jmN_stable {r n i : Nat} {l : List Br} (hi : i < n) (hl : ∀ b ∈ l, b.1.toNat < n ∧ r + b.2.1.toNat < n) : ∀ m, jnR r l (jmN r l (2 ^ i) m) = jmN r l (2 ^ i) m ∨ m + 1 ≤ card n (jmN r l (2 ^ i) m)
  | 0 => by
    right
    have := card_lt (o := 0) (o' := 2 ^ i) (fun x hx => by simp at hx) (x := i) (by simp) (by simp [pow_bit]) hi
    simp only [jmN]
    omega
  | m + 1 => by
    simp only [jmN]
    rcases jmN_stable hi hl m with h | h
    · left; rw [h, h]
    · by_cases hs : jnR r l (jmN r l (2 ^ i) m) = jmN r l (2 ^ i) m
      · left; rw [hs, hs]
      · right
        obtain ⟨x, hx⟩ : ∃ x, (jnR r l (jmN r l (2 ^ i) m)).testBit x ≠ (jmN r l (2 ^ i) m).testBit x := by
          apply Classical.byContradiction
          intro hn
          apply hs
          apply Nat.eq_of_testBit_eq
          intro x
          apply Classical.byContradiction
          exact fun h => hn ⟨x, h⟩
        have h1 : (jmN r l (2 ^ i) m).testBit x = false := by
          cases hc : (jmN r l (2 ^ i) m).testBit x with
          | false => rfl
          | true => rw [jnR_mono hc, hc] at hx; exact absurd rfl hx
        have h2 : (jnR r l (jmN r l (2 ^ i) m)).testBit x = true := by
          rw [h1] at hx
          cases hc : (jnR r l (jmN r l (2 ^ i) m)).testBit x with
          | false => rw [hc] at hx; exact absurd rfl hx
          | true => rfl
        have hxn : x < n := by
          refine jmN_sound (r := r) (l := l) (P := fun a => a < n) (fun b hb => ⟨fun _ => (hl b hb).2, fun _ => (hl b hb).1⟩) (m := 2 ^ i) (fun y hy => ?_) (m + 1) x h2
          rw [pow_bit] at hy; omega
        have := card_lt (fun y hy => jnR_mono hy) h1 h2 hxn
        omega
/-- what is met is what can be reached -/
theorem met_rt {R : Rk} (hok : OkR R) (hrod : allRod R.b = true) {a : Nat} (ha : a < nR R) {y : Nat} : (jmN R.r.toNat R.b (2 ^ a) (nR R)).testBit y = true ↔ Rt (Ed R) a y := by
  have hl : ∀ b ∈ R.b, b.1.toNat < nR R ∧ R.r.toNat + b.2.1.toNat < nR R := by
    intro b hb
    obtain ⟨k1, k2, k3, k4, _⟩ := hok.b b hb
    have : nR R = R.r.toNat + R.c.toNat := rfl
    constructor <;> omega
  have hE : ∀ b ∈ R.b, Ed R b.1.toNat (R.r.toNat + b.2.1.toNat) := fun b hb => ⟨b, hb, .inl ⟨by rw [allRod_iff.1 hrod b hb]; decide, rfl, rfl⟩⟩
  constructor
  · refine jmN_sound (P := fun x => Rt (Ed R) a x) (fun b hb => ⟨fun h => h.tail (hE b hb), fun h => h.tail (Ed.symm hrod (hE b hb))⟩) (m := 2 ^ a) (fun x hx => ?_) (nR R) y
    rw [pow_bit] at hx; subst hx; exact .refl _
  · intro h
    have hst : jnR R.r.toNat R.b (jmN R.r.toNat R.b (2 ^ a) (nR R)) = jmN R.r.toNat R.b (2 ^ a) (nR R) := by
      rcases jmN_stable ha hl (nR R) with h | h
      · exact h
      · have := card_le (nR R) (jmN R.r.toNat R.b (2 ^ a) (nR R)); omega
    have hself : ∀ k, (jmN R.r.toNat R.b (2 ^ a) k).testBit a = true := by
      intro k
      induction k with
      | zero => simp [jmN, pow_bit]
      | succ k ih => exact jnR_mono ih
    refine h.closed (S := fun x => (jmN R.r.toNat R.b (2 ^ a) (nR R)).testBit x = true) (fun x z he hx => ?_) (hself _)
    obtain ⟨b, hb, he⟩ := he
    rcases he with ⟨_, rfl, rfl⟩ | ⟨_, rfl, rfl⟩
    · rw [← hst]; exact (jnR_edge hb (.inl hx)).2
    · rw [← hst]; exact (jnR_edge hb (.inr hx)).1
theorem jo_st {R : Rk} (hok : OkR R) (hrod : allRod R.b = true) : joB R = stM R := by
  have hn := pos_n hok
  rw [Bool.eq_iff_iff, stM_iff hok]
  unfold joB
  rw [decide_eq_true_eq, ← jmN_1, show (1 : Nat) = 2 ^ 0 from rfl]
  have hm := fun y => met_rt hok hrod hn (y := y)
  constructor
  · intro h i k hi hk
    have h0 : ∀ y, y < nR R → Rt (Ed R) 0 y := fun y hy => (hm y).1 (by rw [h, Nat.testBit_two_pow_sub_one]; simpa using hy)
    exact ((h0 i hi).symm fun _ _ => Ed.symm hrod).trans (h0 k hk)
  · intro h
    apply Nat.eq_of_testBit_eq
    intro y
    rw [Nat.testBit_two_pow_sub_one, Bool.eq_iff_iff, hm]
    simp only [decide_eq_true_eq]
    exact ⟨fun k => k.lt hok hn, fun hy => h 0 y hn hy⟩
/-- a rod of a stiff rack can go just if there is a detour -/
theorem st_wo {R : Rk} (hok : OkR R) (hrod : allRod R.b = true) {k : Nat} (hk : k < R.b.length) (hst : stM R = true) : stM (woR R k) = true ↔ Rt (Ed (woR R k)) R.b[k].1.toNat (R.r.toNat + R.b[k].2.1.toNat) := by
  obtain ⟨k1, k2, k3, k4, _⟩ := hok.b _ (List.getElem_mem hk)
  have hokw : OkR (woR R k) := hok.wo k
  have hrw : allRod (woR R k).b = true := allRod_iff.2 fun b hb => by
    refine allRod_iff.1 hrod b ?_
    rcases List.mem_append.1 hb with hb | hb
    · exact List.mem_of_mem_take hb
    · exact List.mem_of_mem_drop hb
  have hn : nR (woR R k) = R.r.toNat + R.c.toNat := rfl
  constructor
  · intro h
    exact (stM_iff hokw).1 h _ _ (by omega) (by omega)
  · intro h
    rw [stM_iff hok] at hst
    rw [stM_iff hokw]
    intro x y hx hy
    have := hst x y hx hy
    refine (Rt.closed (S := fun z => Rt (Ed (woR R k)) x z) (fun u v he hu => ?_) this) (.refl x)
    obtain ⟨b, hb, he⟩ := he
    obtain ⟨j, hj, rfl⟩ := List.getElem_of_mem hb
    by_cases hjk : j = k
    · subst hjk
      rcases he with ⟨_, rfl, rfl⟩ | ⟨_, rfl, rfl⟩
      · exact hu.trans h
      · exact hu.trans (h.symm fun _ _ => Ed.symm hrw)
    · exact hu.tail ((ed_wo hk).2 ⟨j, hj, hjk, he⟩)
end Go.Proofs.Ytecbbbocjmdfgaa
set_option linter.unusedVariables false
set_option linter.unusedSimpArgs false
namespace Go.Proofs.Ytecbbbocjmdfgaa
open Go Fw

/-- where a path is, what it passed, and whether in a row -/
structure Wk where
  cur : Nat
  ps : Nat
  par : Bool
def wkT (R : Rk) (p : Bool) (x : Int) : Nat := if p = true then R.r.toNat + (R.b.getD x.toNat (0, 0, 0)).2.1.toNat else (R.b.getD x.toNat (0, 0, 0)).1.toNat
def wkS (R : Rk) (s : Wk) (x : Int) : Wk := ⟨wkT R s.par x, s.ps ||| 2 ^ wkT R s.par x, !s.par⟩
def wkL (R : Rk) (a0 : Nat) (W : List Int) : Wk := W.foldl (wkS R) ⟨a0, 2 ^ a0, true⟩
theorem wkL_snoc {R : Rk} {a0 : Nat} {W : List Int} {x : Int} : wkL R a0 (W ++ [x]) = wkS R (wkL R a0 W) x := by simp [wkL, List.foldl_append]
theorem getD_nat {R : Rk} {i : Nat} (h : i < R.b.length) : R.b.getD ((i : Int)).toNat (0, 0, 0) = R.b[i] := by
  rw [Int.toNat_natCast, List.getD_eq_getElem?_getD, List.getElem?_eq_getElem h]; rfl
theorem wkT_lt {R : Rk} (hok : OkR R) (p : Bool) (x : Int) : wkT R p x < 12 := by
  have hr1 := hok.r1
  have hr6 := hok.r6
  have hc6 := hok.c6
  have : ∀ i, (R.b.getD i (0, 0, 0)).1.toNat < 6 ∧ R.r.toNat + (R.b.getD i (0, 0, 0)).2.1.toNat < 12 := by
    intro i
    rw [List.getD_eq_getElem?_getD]
    rcases Nat.lt_or_ge i R.b.length with h | h
    · rw [List.getElem?_eq_getElem h, Option.getD_some]
      obtain ⟨k1, k2, k3, k4, _⟩ := hok.b _ (List.getElem_mem h)
      constructor <;> omega
    · rw [List.getElem?_eq_none h]
      constructor
      · decide
      · show R.r.toNat + 0 < 12; omega
  have := this x.toNat
  unfold wkT
  split <;> omega
theorem wk_lt {R : Rk} (hok : OkR R) {W : List Int} : ∀ {s : Wk}, s.cur < 12 → s.ps < 4096 → (W.foldl (wkS R) s).cur < 12 ∧ (W.foldl (wkS R) s).ps < 4096 := by
  induction W with
  | nil => intro s h1 h2; exact ⟨h1, h2⟩
  | cons x W ih =>
    intro s h1 h2
    have ht := wkT_lt hok s.par x
    exact ih (s := wkS R s x) ht (Nat.or_lt_two_pow (n := 12) h2 (Nat.pow_lt_pow_right (by decide) ht))
theorem wk_par {R : Rk} {W : List Int} : ∀ {s : Wk}, (W.foldl (wkS R) s).par = (s.par == decide (W.length % 2 = 0)) := by
  induction W with
  | nil => intro s; simp
  | cons x W ih =>
    intro s
    rw [List.foldl_cons, ih, List.length_cons]
    have e : (wkS R s x).par = !s.par := rfl
    rw [e]
    have : decide ((W.length + 1) % 2 = 0) = !decide (W.length % 2 = 0) := by
      rcases Nat.mod_two_eq_zero_or_one W.length with h | h
      · have h1 : (W.length + 1) % 2 = 1 := by omega
        rw [h, h1]; rfl
      · have h1 : (W.length + 1) % 2 = 0 := by omega
        rw [h, h1]; rfl
    rw [this]
    cases s.par <;> cases decide (W.length % 2 = 0) <;> rfl
theorem wk_of {R : Rk} (hok : OkR R) {k a0 : Nat} (ha : a0 < R.r.toNat) {W : List Int} {b : Bool} {cur : Nat} {ps qs : List Nat} (h : Pth R k a0 W b cur ps qs) :
    (wkL R a0 W).cur = (if b = true then cur else R.r.toNat + cur) ∧ (wkL R a0 W).par = b ∧ ∀ x, (wkL R a0 W).ps.testBit x = true ↔ (x < R.r.toNat ∧ x ∈ ps) ∨ (R.r.toNat ≤ x ∧ x - R.r.toNat ∈ qs) := by
  induction h with
  | nil =>
    refine ⟨rfl, rfl, fun x => ?_⟩
    show (2 ^ a0).testBit x = true ↔ _
    rw [pow_bit]
    constructor
    · rintro rfl; exact .inl ⟨ha, by simp⟩
    · rintro (⟨_, h⟩ | ⟨_, h⟩)
      · exact (List.mem_singleton.1 h).symm
      · cases h
  | @col W a ps qs i h hi hne hb hn ih =>
    obtain ⟨i1, i2, i3⟩ := ih
    have hT : wkT R true (i : Int) = R.r.toNat + R.b[i].2.1.toNat := by rw [wkT, if_pos rfl, getD_nat hi]
    rw [wkL_snoc, wkS, i2, hT]
    refine ⟨by simp, rfl, fun x => ?_⟩
    rw [or_bit, pow_bit, i3]
    constructor
    · rintro ((⟨h1, h2⟩ | ⟨h1, h2⟩) | h1)
      · exact .inl ⟨h1, h2⟩
      · exact .inr ⟨h1, by simp [h2]⟩
      · exact .inr ⟨by omega, by rw [← h1, Nat.add_sub_cancel_left]; simp⟩
    · rintro (⟨h1, h2⟩ | ⟨h1, h2⟩)
      · exact .inl (.inl ⟨h1, h2⟩)
      · rcases List.mem_cons.1 h2 with h2 | h2
        · exact .inr (by omega)
        · exact .inl (.inr ⟨h1, h2⟩)
  | @row W c ps qs i h hi hne hb hn ih =>
    obtain ⟨i1, i2, i3⟩ := ih
    obtain ⟨k1, k2, _⟩ := hok.b _ (List.getElem_mem hi)
    have hT : wkT R false (i : Int) = R.b[i].1.toNat := by rw [wkT, if_neg (by simp), getD_nat hi]
    rw [wkL_snoc, wkS, i2, hT]
    refine ⟨by simp, rfl, fun x => ?_⟩
    rw [or_bit, pow_bit, i3]
    constructor
    · rintro ((⟨h1, h2⟩ | ⟨h1, h2⟩) | h1)
      · exact .inl ⟨h1, by simp [h2]⟩
      · exact .inr ⟨h1, h2⟩
      · exact .inl ⟨by omega, by simp [h1]⟩
    · rintro (⟨h1, h2⟩ | ⟨h1, h2⟩)
      · rcases List.mem_cons.1 h2 with h2 | h2
        · exact .inr h2.symm
        · exact .inl (.inl ⟨h1, h2⟩)
      · exact .inl (.inr ⟨h1, h2⟩)
theorem pth_pre {R : Rk} {k a0 : Nat} {W : List Int} {b : Bool} {cur : Nat} {ps qs : List Nat} (h : Pth R k a0 W b cur ps qs) : ∀ i, i ≤ W.length → ∃ b' cur' ps' qs', Pth R k a0 (W.take i) b' cur' ps' qs' := by
  induction h with
  | nil => intro i hi; exact ⟨_, _, _, _, by simpa using Pth.nil⟩
  | @col W a ps qs j h hj hne hb hn ih =>
    intro i hi
    by_cases hiW : i ≤ W.length
    · rw [List.take_append_of_le_length hiW]; exact ih i hiW
    · rw [List.take_of_length_le (by simp at hi ⊢; omega)]; exact ⟨_, _, _, _, .col h hj hne hb hn⟩
  | @row W a ps qs j h hj hne hb hn ih =>
    intro i hi
    by_cases hiW : i ≤ W.length
    · rw [List.take_append_of_le_length hiW]; exact ih i hiW
    · rw [List.take_of_length_le (by simp at hi ⊢; omega)]; exact ⟨_, _, _, _, .row h hj hne hb hn⟩
theorem pth_step {R : Rk} (hok : OkR R) {k a0 : Nat} (ha : a0 < R.r.toNat) {W : List Int} {x : Int} {b : Bool} {cur : Nat} {ps qs : List Nat} (h : Pth R k a0 (W ++ [x]) b cur ps qs) :
    ∃ j, ∃ hj : j < R.b.length, x = (j : Int) ∧ j ≠ k ∧ wkT R (!(wkL R a0 W).par) x = (wkL R a0 W).cur ∧ (wkL R a0 W).ps.testBit (wkT R (wkL R a0 W).par x) = false := by
  generalize hV : W ++ [x] = V at h
  cases h with
  | nil => simp at hV
  | @col W' a ps qs i h hi hne hb hn =>
    obtain ⟨rfl, h2⟩ := List.append_inj' hV rfl
    injection h2 with h2; subst h2
    obtain ⟨i1, i2, i3⟩ := wk_of hok ha h
    refine ⟨i, hi, rfl, hne, ?_, ?_⟩
    · rw [i2, i1, wkT, if_neg (by simp), getD_nat hi, if_pos rfl]; exact hb
    · rw [i2, wkT, if_pos rfl, getD_nat hi]
      cases hc : (wkL R a0 W).ps.testBit (R.r.toNat + R.b[i].2.1.toNat) with
      | false => rfl
      | true =>
        rcases (i3 _).1 hc with ⟨h1, _⟩ | ⟨_, h2⟩
        · omega
        · rw [Nat.add_sub_cancel_left] at h2; exact absurd h2 hn
  | @row W' c ps qs i h hi hne hb hn =>
    obtain ⟨rfl, h2⟩ := List.append_inj' hV rfl
    injection h2 with h2; subst h2
    obtain ⟨i1, i2, i3⟩ := wk_of hok ha h
    obtain ⟨k1, k2, _⟩ := hok.b _ (List.getElem_mem hi)
    refine ⟨i, hi, rfl, hne, ?_, ?_⟩
    · rw [i2, i1, wkT, if_pos (by simp), getD_nat hi, if_neg (by simp), hb]
    · rw [i2, wkT, if_neg (by simp), getD_nat hi]
      cases hc : (wkL R a0 W).ps.testBit R.b[i].1.toNat with
      | false => rfl
      | true =>
        rcases (i3 _).1 hc with ⟨_, h2⟩ | ⟨h1, _⟩
        · exact absurd h2 hn
        · omega
end Go.Proofs.Ytecbbbocjmdfgaa
set_option linter.unusedVariables false
set_option linter.unusedSimpArgs false
namespace Go.Proofs.Ytecbbbocjmdfgaa
open Go Fw

noncomputable def D28 : PCtx := D26.add 44 SJo
theorem D28ok : CtxOk Try.prog D28 := D26ok.add c44
@[simp] theorem D28_37 : D28 37 = SMade := id rfl
@[simp] theorem D28_21 : D28 21 = SNd := id rfl
@[simp] theorem D28_15 : D28 15 = SWk := id rfl
@[simp] theorem D28_44 : D28 44 = SJo := id rfl
/-- a rack without one brace, copied -/
structure FW9 (R : Rk) (i : Nat) (s0 s : AS) : Prop where
  env : ∀ k, k < 11 → s.env k = s0.env k
  env35 : s.env 33 = s0.env 33 ∧ s.env 34 = s0.env 34 ∧ s.env 35 = s0.env 35
  low : ∀ k, k < s0.hs.nh → s.hs.heap k = s0.hs.heap k
  nh : s0.hs.nh ≤ s.hs.nh
  ex : ∃ p y, s.env 11 = .ref p 0 ∧ s0.hs.nh ≤ p ∧ p < s.hs.nh ∧ s.hs.heap p = some [.int .i64 R.r, .int .i64 R.c, y] ∧ asB y = some (wo R.b i)
theorem reg9 {R : Rk} {i q : Nat} {y0 : AV} {s : AS} {Q : AEx → AS → Prop} (hy : asB y0 = some R.b) (hi : i < R.b.length) (hl : R.b.length ≤ 1000) (e3 : s.env 5 = .ref q 0) (e7 : s.env 8 = .int .i64 (i : Int)) (hq : s.hs.heap q = some [.int .i64 R.r, .int .i64 R.c, y0]) (hlt : q < s.hs.nh)
    (h2 : ∀ s', FW9 R i s s' → At (Q .normal s')) : At (anyW Try.prog D28 [[], [0], [], [2], [], [], [5], [], [6, 7], [4, 8], [], [10], [], [12], [11, 13], [9, 14, 9], [1, 3, 15], [], [17, 16, 15, 0, 1, 2, 3, 4, 5, 6, 7, 8, 9, 10, 11, 12, 13, 14, 15, 16, 17]] [⟨some 55, none, .faddr false 1 0 (.t 5)⟩, ⟨some 56, none, .load false 1 (.t 55)⟩, ⟨some 57, none, .faddr false 1 1 (.t 5)⟩, ⟨some 58, none, .load false 1 (.t 57)⟩, ⟨some 59, none, .buildSl 3 []⟩, ⟨some 60, none, .faddr false 1 2 (.t 5)⟩, ⟨some 61, none, .load false 1 (.t 60)⟩, ⟨some 62, none, .mv (.t 8)⟩, ⟨some 63, none, .slice 3 (.t 61) none (some (.t 62)) none⟩, ⟨some 64, none, .append 3 (.t 59) (.t 63)⟩, ⟨some 65, none, .faddr false 1 2 (.t 5)⟩, ⟨some 66, none, .load false 1 (.t 65)⟩, ⟨some 67, none, .mv (.t 8)⟩, ⟨some 68, none, .bin 0 .add (.t 67) (.c (.int .i64 1))⟩, ⟨some 69, none, .slice 3 (.t 66) (some (.t 68)) none none⟩, ⟨some 70, none, .append 3 (.t 64) (.t 69)⟩, ⟨some 71, none, .build [.int .i64 0, .int .i64 0, .nilsl] [(0, 1, (.t 56)), (1, 1, (.t 58)), (2, 1, (.t 70))]⟩, ⟨some 11, none, .alloc [.int .i64 0, .int .i64 0, .nilsl]⟩, ⟨none, none, .store 3 (.t 11) (.t 71)⟩] 19 [] Q s) := by
  have hV := (asB_inv hy).1
  have t1 := slice_take hV (n := i) (k := .i64) (by simp; omega)
  have t2 := slice_drop hV (n := i + 1) (k := .i64) (by simp; omega)
  rw [show ((i + 1 : Nat) : Int) = (i : Int) + 1 by omega] at t2
  have w1 : IntKind.i64.wrap ((i : Int) + 1) = (i : Int) + 1 := wrap64 (by omega) (by omega)
  have eT : (brs R.b).take i = brs (R.b.take i) := List.map_take.symm
  have eD : (brs R.b).drop (i + 1) = brs (R.b.drop (i + 1)) := List.map_drop.symm
  have aT := asV_take hV i
  have aD := asV_drop hV (i + 1)
  rw [eT] at aT
  rw [eD] at aD
  have cp := fun hs : HS => copyW (hs := hs) aT aD (by simp; omega)
  refine At.any_to (FW9 R i s) ?_ h2
  refine At.any_q 0 endN_p rfl rfl rfl ?_
  simp [e3, fa]
  refine At.any_r 1 endN_p rfl rfl ⟨q, 0, by simp, by simpa using hlt⟩ ?_
  simp [la, hq, apart]
  refine At.any_q 2 endN_p rfl rfl rfl ?_
  simp [e3, fa]
  refine At.any_r 3 endN_p rfl rfl ⟨q, 1, by simp, by simpa using hlt⟩ ?_
  simp [la, hq, apart]
  refine At.any_q 4 endN_p rfl rfl rfl ?_
  simp [astoAll]
  refine At.any_q 5 endN_p rfl rfl rfl ?_
  simp [e3, fa]
  refine At.any_r 6 endN_p rfl rfl ⟨q, 2, by simp, by simpa using hlt⟩ ?_
  simp [la, hq, apart]
  refine At.any_q 7 endN_p rfl rfl rfl ?_
  simp [e7]
  refine At.any_q 8 endN_p rfl rfl rfl ?_
  simp [t1]
  refine At.any_q 10 endN_p rfl rfl rfl ?_
  simp [e3, fa]
  refine At.any_r 11 endN_p rfl rfl ⟨q, 2, by simp, by simpa using hlt⟩ ?_
  simp [la, hq, apart]
  refine At.any_q 12 endN_p rfl rfl rfl ?_
  simp [e7]
  refine At.any_q 13 endN_p rfl rfl rfl ?_
  simp [w1]
  refine At.any_q 14 endN_p rfl rfl rfl ?_
  simp [t2]
  obtain ⟨y1, hs1, b1, b2, b3⟩ := cp s.hs
  obtain ⟨y1', hs1', b1', b2', b3'⟩ := cp ⟨fun k => if k = s.hs.nh then some [.int .i64 0, .int .i64 0, .nilsl] else s.hs.heap k, s.hs.nh + 1, s.hs.nt, s.hs.tok⟩
  refine At.any_2 9 17 rfl rfl rfl ?_ ?_
  · simp [b1]
    refine At.any_2 15 17 rfl rfl rfl ?_ ?_
    · obtain ⟨y2, hs3, c1, c2, c3, c4, c5⟩ := b3 hs1 rfl rfl
      simp [c1]
      refine At.any_q 16 endN_p rfl rfl rfl ?_
      simp [afill, si, ci, c4, c5, setL]
      refine At.any_o 17 rfl rfl ?_
      simp
      refine At.any_o 18 rfl rfl ?_
      simp [astore, sa, ca, c4, c5, setL]
      refine At.any_e rfl ?_
      simp
      exact At.of ⟨fun k hk => by have hm : ∀ m, 11 ≤ m → ¬ k = m := fun m h e => (by omega); simp [env_none, hm], by simp [env_none], fun k hk => by have z1 := c2.nh; have z2 := b2.nh; simp [show ¬ k = hs3.nh by omega, c2.heap, b2.heap], by have z1 := c2.nh; have z2 := b2.nh; simp; omega, hs3.nh, y2, by simp [env_none], by have z1 := c2.nh; have z2 := b2.nh; simp; omega, by simp, by simp, c3⟩
    · obtain ⟨y2, hs3, c1, c2, c3, c4, c5⟩ := b3 ⟨fun k => if k = hs1.nh then some [.int .i64 0, .int .i64 0, .nilsl] else hs1.heap k, hs1.nh + 1, hs1.nt, hs1.tok⟩ rfl rfl
      simp
      refine At.any_o 15 rfl rfl ?_
      simp [c1]
      refine At.any_q 16 endN_p rfl rfl rfl ?_
      simp [afill, si, ci, c4, c5, setL]
      refine At.any_o 18 rfl rfl ?_
      simp [astore, sa, ca, c4, c5, setL, c2.heap]
      refine At.any_e rfl ?_
      simp
      exact At.of ⟨fun k hk => by have hm : ∀ m, 11 ≤ m → ¬ k = m := fun m h e => (by omega); simp [env_none, hm], by simp [env_none], fun k hk => by have z1 := c2.nh; have z2 := b2.nh; simp [show ¬ k = hs1.nh by omega, c2.heap, b2.heap], by have z1 := c2.nh; have z2 := b2.nh; simp at z1; simp; omega, hs1.nh, y2, by simp [env_none], by have z2 := b2.nh; simp; omega, by have z1 := c2.nh; simp at z1; simp; omega, by simp, c3⟩
  · simp
    refine At.any_o 9 rfl rfl ?_
    simp [b1']
    refine At.any_o 15 rfl rfl ?_
    obtain ⟨y2, hs3, c1, c2, c3, c4, c5⟩ := b3' hs1' rfl rfl
    simp [c1]
    refine At.any_q 16 endN_p rfl rfl rfl ?_
    simp [afill, si, ci, c4, c5, setL]
    refine At.any_o 18 rfl rfl ?_
    simp [astore, sa, ca, c4, c5, setL, c2.heap, b2'.heap]
    refine At.any_e rfl ?_
    simp
    exact At.of ⟨fun k hk => by have hm : ∀ m, 11 ≤ m → ¬ k = m := fun m h e => (by omega); simp [env_none, hm], by simp [env_none], fun k hk => by have z1 := c2.nh; have z2 := b2'.nh; simp at z2; simp [show ¬ k = s.hs.nh by omega, c2.heap, b2'.heap], by have z1 := c2.nh; have z2 := b2'.nh; simp at z2; simp; omega, s.hs.nh, y2, by simp [env_none], by simp, by have z1 := c2.nh; have z2 := b2'.nh; simp at z2; simp; omega, by simp [c2.heap, b2'.heap], c3⟩
theorem nd_mem {f : Nat → Bool} {k : Nat} : ∀ {n : Nat}, (k : Int) ∈ ndK f n ↔ k < n ∧ f k = true
  | 0 => by simp [ndK]
  | n + 1 => by
    have ih := nd_mem (f := f) (k := k) (n := n)
    simp only [ndK]
    by_cases hf : f n = true
    · rw [if_pos hf, List.mem_append, ih, List.mem_singleton]
      constructor
      · rintro (⟨h1, h2⟩ | h)
        · exact ⟨by omega, h2⟩
        · have : k = n := by omega
          subst this; exact ⟨by omega, hf⟩
      · rintro ⟨h1, h2⟩
        by_cases hk : k = n
        · exact .inr (by omega)
        · exact .inl ⟨by omega, h2⟩
    · rw [if_neg hf, ih]
      constructor
      · rintro ⟨h1, h2⟩; exact ⟨by omega, h2⟩
      · rintro ⟨h1, h2⟩
        by_cases hk : k = n
        · subst hk; exact absurd h2 hf
        · exact ⟨by omega, h2⟩
theorem p9 {x : AV} {a b : Nat} {l : List Nt} (hx : IsSh x a b l) {wh : Int} (hwh : 0 ≤ wh ∧ wh ≤ 255) : PCall Try.prog 9 [x, .int .u8 wh] (.bool true) := by
  obtain ⟨R, hR⟩ : ∃ R, R = mkR a b l false := ⟨_, rfl⟩
  have hv : asR (mkV a b l false) = some R := by rw [hR]; exact asR_mkV a b l false
  have hok : OkR R := by rw [hR]; exact mkR_ok a b l false
  have hlen : R.b.length ≤ 9 := by rw [hR]; exact mkR_len a b l false
  have hrod : allRod R.b = true := by rw [hR]; exact mkR_rod a b l
  have hchk : chkR R = 0 := chkR_zero.2 ⟨hok, by omega⟩
  have hre : rodE R = 0 := rodE_iff.2 ⟨hchk, hrod⟩
  have hS37 := SMade_i hx false
  obtain ⟨y0, hV, hy⟩ := asR_inv hv
  rw [hV] at hv hS37
  have hS21 := SNd_i hv
  rw [nd_law hok (by omega), rg_all hok] at hS21
  have hS44 := SJo_i hv hok
  rw [jo_st hok hrod] at hS44
  have sx : x.sto = true := by obtain ⟨⟨z, rfl, hz⟩, _⟩ := hx; rfl
  have lx : ∀ h, aload h true 3 (.ptr x) = some x := by obtain ⟨⟨z, rfl, hz⟩, _⟩ := hx; exact fun _ => rfl
  obtain ⟨hyc, hys⟩ := asB_cells hy
  have hlz : ∀ h, aload h false 1 (.ptr y0) = some y0 := by
    intro h
    rcases (asB_inv hy).2.1 with ⟨e, _⟩ | ⟨c, e⟩ <;> rw [e] <;> rfl
  have hr1 := hok.r1
  have hr6 := hok.r6
  have hc1 := hok.c1
  have hc6 := hok.c6
  obtain ⟨n, hn⟩ : ∃ n : Nat, n = nR R := ⟨_, rfl⟩
  have hnn : nR R = R.r.toNat + R.c.toNat := rfl
  have hsum : IntKind.i64.wrap (R.r + R.c) = (n : Int) := by rw [wrap64 (by omega) (by omega)]; omega
  obtain ⟨r, hr⟩ : ∃ r : Nat, R.r = (r : Int) := ⟨R.r.toNat, by omega⟩
  have hrt : R.r.toNat = r := by omega
  refine PCall.of D28ok ok9 (by simp) rfl fun hs' hbb => ?_
  generalize hq : hs'.nh = q
  by_cases hb0 : R.b.length = 0
  · simp [A9, R9, sx, lx, hS37, astoAll, afill, si, ci, sa, ca, setL, astore, env_none, hq, hyc, hys, la, lpa, fa, apart, hlz, blen hy, hb0]
    refine At.hc (p32 hv (by omega) (n := 0) _) ?_ ?_
    rotate_left
    · rintro v hs3 ⟨w, er, hv, _⟩; cases hv
    rintro v hs3 ⟨w, er, hv, hdet, hext3⟩
    injection hv with hv; subst hv
    have he : er = 5 := by
      rcases hdet with ⟨h1, _⟩ | ⟨_, _, _, h⟩ | ⟨_, j, hj, _⟩
      · exact absurd hre h1
      · exact h
      · omega
    subst he
    simp
  obtain ⟨wn, hwn⟩ : ∃ wn : Nat, wh = (wn : Int) := ⟨wh.toNat, by omega⟩
  subst hwn
  have cv : IntKind.i64.wrap (wn : Int) = (wn : Int) := wrap8 hwh.1 hwh.2
  have rm := rem64 (kd := 0) (k := .i64) (a := wn) (b := R.b.length) (by omega)
  obtain ⟨k, hk⟩ : ∃ k, k = wn % R.b.length := ⟨_, rfl⟩
  have hkl : k < R.b.length := by rw [hk]; exact Nat.mod_lt _ (by omega)
  rw [← hk] at rm
  have hb0' : ¬ ((R.b.length : Int) = 0) := by omega
  simp [A9, R9, sx, lx, hS37, astoAll, afill, si, ci, sa, ca, setL, astore, env_none, hq, hyc, hys, la, lpa, fa, apart, hlz, blen hy, hb0', hb0, cv, rm]
  refine At.hc (p32 hv (by omega) (n := (k : Int)) _) ?_ ?_
  rotate_left
  · rintro v hs3 ⟨w, er, hv, _⟩; cases hv
  rintro v hs3 ⟨w, er, hv2, hdet, hext3⟩
  injection hv2 with hv2; subst hv2
  have h3 : hs3.heap q = some [.int .i64 R.r, .int .i64 R.c, y0] := by rw [hext3.heap q (by simp)]; simp
  have h3n : q < hs3.nh := by have := hext3.nh; simp at this; omega
  have hcase : (w = .nilsl ∧ er = 14 ∧ ¬ Rt (Ed (woR R k)) R.b[k].1.toNat (R.r.toNat + R.b[k].2.1.toNat)) ∨ (er = 0 ∧ ∃ W ps qs, asI w = some W ∧ Pth R k R.b[k].1.toNat W false R.b[k].2.1.toNat ps qs) := by
    rcases hdet with ⟨h1, _⟩ | ⟨_, h1, _⟩ | ⟨_, j, hj, e, hc⟩
    · exact absurd hre h1
    · exact absurd (by omega) h1
    · have : j = k := by omega
      subst this
      rcases hc with h | ⟨h1, _, h2⟩
      · exact .inl h
      · exact .inr ⟨h1, h2⟩
  clear hdet
  simp
  refine reg9 (q := q) (R := R) (i := k) (y0 := y0) hy hkl (by omega) ?_ ?_ ?_ ?_ ?_
  · simp
  · simp
  · simpa using h3
  · simpa using h3n
  rintro s2 ⟨g1, ⟨_, _, _⟩, glow, gnh, p, y2, g11, gp1, gp2, gp, gy⟩
  have q5 := g1 5 (by omega)
  have q8 := g1 8 (by omega)
  have q9 := g1 9 (by omega)
  have q10 := g1 10 (by omega)
  have qh := glow q (by simpa using h3n)
  simp at q5 q8 q9 q10 qh gp1 gnh
  rw [h3] at qh
  have hpq : ¬ q = p := by omega
  have hpq2 : ¬ p = q := by omega
  obtain ⟨c, hcc⟩ : ∃ c, c = R.b[k] := ⟨_, rfl⟩
  have hcok : okB R.r R.c c := by rw [hcc]; exact hok.b _ (List.getElem_mem hkl)
  obtain ⟨k1, k2, k3, k4, k5, k6⟩ := hcok
  obtain ⟨ρ, hρ⟩ : ∃ ρ : Nat, c.1 = (ρ : Int) := ⟨c.1.toNat, by omega⟩
  obtain ⟨κ, hκ⟩ : ∃ κ : Nat, c.2.1 = (κ : Int) := ⟨c.2.1.toNat, by omega⟩
  have hbk := bidx hy hkl (k := .i64)
  rw [← hcc, hρ, hκ] at hbk
  rw [← hcc, hρ, hκ, hrt, Int.toNat_natCast, Int.toNat_natCast] at hcase
  have f0 : ∀ a b d, afaddr false 1 0 (.ptr (.agg [a, b, d])) = some (.ptr a) := fun _ _ _ => rfl
  have f1 : ∀ a b d, afaddr false 1 1 (.ptr (.agg [a, b, d])) = some (.ptr b) := fun _ _ _ => rfl
  have hlz2 : ∀ h, aload h false 1 (.ptr y2) = some y2 := by
    intro h
    rcases (asB_inv gy).2.1 with ⟨e, _⟩ | ⟨c, e⟩ <;> rw [e] <;> rfl
  have sh0 := shl64 (kd := 0) (n := ρ) (k := .i64) (by omega)
  have hokw : OkR (woR R k) := hok.wo k
  have hrw : allRod (woR R k).b = true := allRod_iff.2 fun b hb => by
    refine allRod_iff.1 hrod b ?_
    rcases List.mem_append.1 hb with hb | hb
    · exact List.mem_of_mem_take hb
    · exact List.mem_of_mem_drop hb
  have hmet := fun y => met_rt hokw hrw (a := ρ) (y := y) (by show ρ < R.r.toNat + R.c.toNat; omega)
  have hnw : nR (woR R k) = n := hn.symm
  rw [hnw] at hmet
  have hrw' : (woR R k).r.toNat = r := hrt
  have hbw : (woR R k).b = wo R.b k := rfl
  rw [hrw', hbw] at hmet
  have hwl : (wo R.b k).length ≤ 9 := by simp only [wo, List.length_append, List.length_take, List.length_drop]; omega
  have hwm : ∀ b ∈ wo R.b k, okB R.r R.c b := hokw.b
  generalize hwo : wo R.b k = wb at *
  have hJl : ∀ j, jmN r wb (2 ^ ρ) j < 4096 := by
    have hR : ∀ (m : Nat) (l : List Br), (∀ b ∈ l, b ∈ wb) → m < 4096 → jnR r l m < 4096 := by
      intro m l
      induction l generalizing m with
      | nil => intro _ h; exact h
      | cons b l ih =>
        intro h hm
        obtain ⟨j1, j2, j3, j4, _⟩ := hwm b (h b (by simp))
        exact ih _ (fun x hx => h x (by simp [hx])) (jnS_lt hm (by omega) (by omega))
    intro j
    induction j with
    | zero => exact Nat.lt_trans (Nat.pow_lt_pow_right (by decide) (show ρ < 7 by omega)) (by decide)
    | succ j ih => exact hR _ wb (fun _ h => h) ih
  have hRl : ∀ (m i : Nat), m < 4096 → jnR r (wb.take i) m < 4096 := by
    intro m i hm
    have hR : ∀ (m : Nat) (l : List Br), (∀ b ∈ l, b ∈ wb) → m < 4096 → jnR r l m < 4096 := by
      intro m l
      induction l generalizing m with
      | nil => intro _ h; exact h
      | cons b l ih =>
        intro h hm
        obtain ⟨j1, j2, j3, j4, _⟩ := hwm b (h b (by simp))
        exact ih _ (fun x hx => h x (by simp [hx])) (jnS_lt hm (by omega) (by omega))
    exact hR m _ (fun b hb => List.mem_of_mem_take hb) hm
  obtain ⟨J0, hJ0⟩ : ∃ J0, J0 = 2 ^ ρ := ⟨_, rfl⟩
  rw [← hJ0] at sh0 hmet hJl
  simp [q5, q8, fa, la, lpa, qh, apart, hlz, hbk, f0, f1, sh0, hsum]
  refine At.loop (fun (j : Nat) s => j ≤ n ∧ s.env 5 = .ref q 0 ∧ s.env 8 = .int .i64 (k : Int) ∧ s.env 9 = w ∧ s.env 10 = .int .i64 er ∧ s.env 11 = .ref p 0 ∧ s.env 12 = .int .i64 (jmN r wb J0 j : Nat) ∧ s.env 83 = .int .i64 (n : Int) ∧ s.env 84 = .int .i64 (j : Int) ∧ q < s.hs.nh ∧ p < s.hs.nh ∧ s.hs.heap q = some [.int .i64 R.r, .int .i64 R.c, y0] ∧ s.hs.heap p = some [.int .i64 R.r, .int .i64 R.c, y2]) (fun j => n - j) 0 ?_ ?_
  · simp [q5, q8, q9, q10, g11, jmN, qh, gp, gp2]
    omega
  rintro N j s hN ⟨hj, e5, e8, e9, e10, e11, e12, e83, e84, hnq, hnp, hhq, hhp⟩
  simp [e83, e84]
  refine At.dec (fun hlt => ?_) (fun hlt => ?_)
  · have hjn : j < n := by omega
    have hJk := hJl j
    have hs1 : jmN r wb J0 (j + 1) = jnR r wb (jmN r wb J0 j) := rfl
    generalize jmN r wb J0 j = J at *
    simp [e11, fa, la, lpa, hhp, apart, blen gy, hlz2]
    refine At.loop (fun (i : Nat) s => i ≤ wb.length ∧ s.env 5 = .ref q 0 ∧ s.env 8 = .int .i64 (k : Int) ∧ s.env 9 = w ∧ s.env 10 = .int .i64 er ∧ s.env 11 = .ref p 0 ∧ s.env 12 = .int .i64 (jnR r (wb.take i) J : Nat) ∧ s.env 83 = .int .i64 (n : Int) ∧ s.env 84 = .int .i64 (j : Int) ∧ s.env 87 = y2 ∧ s.env 88 = .int .i64 (wb.length : Int) ∧ s.env 89 = .int .i64 (i : Int) ∧ q < s.hs.nh ∧ p < s.hs.nh ∧ s.hs.heap q = some [.int .i64 R.r, .int .i64 R.c, y0] ∧ s.hs.heap p = some [.int .i64 R.r, .int .i64 R.c, y2]) (fun i => wb.length - i) 0 ?_ ?_
    · simp [e5, e8, e9, e10, e11, e12, e83, e84, hnq, hnp, hhq, hhp, jnR]
    rintro N2 i s2 hN2 ⟨hi, t5, t8, t9, t10, t11, t12, t83, t84, t87, t88, t89, tnq, tnp, thq, thp⟩
    simp [t88, t89]
    refine At.dec (fun hlt2 => ?_) (fun hlt2 => ?_)
    · have hi' : i < wb.length := by omega
      obtain ⟨d, hdd⟩ : ∃ d, d = wb[i] := ⟨_, rfl⟩
      obtain ⟨m1, m2, m3, m4, m5, m6⟩ : okB R.r R.c d := by rw [hdd]; exact hwm _ (List.getElem_mem hi')
      obtain ⟨ρ', hρ'⟩ : ∃ ρ' : Nat, d.1 = (ρ' : Int) := ⟨d.1.toNat, by omega⟩
      obtain ⟨κ', hκ'⟩ : ∃ κ' : Nat, d.2.1 = (κ' : Int) := ⟨d.2.1.toNat, by omega⟩
      have hbi := bidx gy hi' (k := .i64)
      rw [← hdd, hρ', hκ'] at hbi
      have gl : ∀ h, aload h true 3 (.ptr (.agg [.int .i64 (ρ' : Int), .int .i64 (κ' : Int), .int .i64 d.2.2])) = some (.agg [.int .i64 (ρ' : Int), .int .i64 (κ' : Int), .int .i64 d.2.2]) := fun _ => rfl
      have sh1 := shl64 (kd := 0) (n := ρ') (k := .i64) (by omega)
      obtain ⟨τ, hτ⟩ : ∃ τ : Nat, τ = r + κ' := ⟨_, rfl⟩
      have hws : IntKind.i64.wrap (R.r + (κ' : Int)) = (τ : Int) := by rw [wrap64 (by omega) (by omega)]; omega
      have sh2 := shl64 (kd := 0) (n := τ) (k := .i64) (by omega)
      have hp1 : 2 ^ ρ' < 4096 := Nat.pow_lt_pow_right (by decide) (show ρ' < 12 by omega)
      have hp2 : 2 ^ τ < 4096 := Nat.pow_lt_pow_right (by decide) (show τ < 12 by omega)
      have hsn := jnR_snoc (r := r) (m := J) hi'
      have hst : jnS r (jnR r (wb.take i) J) wb[i] = if jnR r (wb.take i) J &&& (2 ^ ρ' ||| 2 ^ τ) = 0 then jnR r (wb.take i) J else jnR r (wb.take i) J ||| (2 ^ ρ' ||| 2 ^ τ) := by
        rw [jnS, ← hdd, hρ', hκ', Int.toNat_natCast, Int.toNat_natCast, ← hτ]
      have hMl := hRl J i hJk
      have ort := or64 (kd := 0) (a := 2 ^ ρ') (b := 2 ^ τ) (by omega) (by omega)
      have hTl : 2 ^ ρ' ||| 2 ^ τ < 4096 := Nat.or_lt_two_pow (n := 12) hp1 hp2
      have nn1 : ¬ q = s2.hs.nh := by omega
      have nn2 : ¬ p = s2.hs.nh := by omega
      generalize 2 ^ ρ' = P1 at *
      generalize 2 ^ τ = P2 at *
      generalize P1 ||| P2 = T at *
      generalize jnR r (wb.take i) J = M at *
      have an := and64 (kd := 0) (a := M) (b := T) (by omega) (by omega)
      have om := or64 (kd := 0) (a := M) (b := T) (by omega) (by omega)
      simp [t5, t12, t87, t89, hbi, gl, astore, sa, ca, setL, env_none, la, apart, fa, lpa, thq, hws, sh1, sh2, ort, an, nn1, nn2]
      by_cases hz : M &&& T = 0
      · rw [if_pos hz] at hst
        simp [hz, t89]
        refine hN2 (i + 1) _ (by omega) ⟨by omega, ?_⟩
        simp [t5, t8, t9, t10, t11, t12, t83, t84, t87, t88, wrap_nat1 (show i < _ by omega), thq, thp, nn1, nn2]
        rw [hsn, hst]
        exact ⟨rfl, by omega, by omega⟩
      · rw [if_neg hz] at hst
        simp [hz, t12, t89, om]
        refine hN2 (i + 1) _ (by omega) ⟨by omega, ?_⟩
        simp [t5, t8, t9, t10, t11, t83, t84, t87, t88, wrap_nat1 (show i < _ by omega), thq, thp, nn1, nn2]
        rw [hsn, hst]
        exact ⟨rfl, by omega, by omega⟩
    · have hiL : i = wb.length := by omega
      subst hiL
      rw [List.take_length, ← hs1] at t12
      simp [t84]
      refine hN (j + 1) _ (by omega) ⟨by omega, ?_⟩
      simp [t5, t8, t9, t10, t11, t12, t83, wrap_nat1 (show j < _ by omega), tnq, tnp, thq, thp]
  · have hjn : j = n := by omega
    subst hjn
    have hMl := hJl j
    generalize jmN r wb J0 j = MT at *
    obtain ⟨τ, hτ⟩ : ∃ τ : Nat, τ = r + κ := ⟨_, rfl⟩
    have hws : IntKind.i64.wrap (R.r + (κ : Int)) = (τ : Int) := by rw [wrap64 (by omega) (by omega)]; omega
    have sh1 := shr64 (kd := 0) (a := MT) (n := τ) (k := .i64) (by omega)
    have an1 := and64 (kd := 0) (a := MT / 2 ^ τ) (b := 1) (Nat.lt_of_le_of_lt (Nat.div_le_self _ _) (by omega)) (by omega)
    rw [bit64] at an1
    have n01 : ((1 : Nat) : Int) = 1 := rfl
    rw [n01] at an1
    have hmt := hmet τ
    rw [hτ] at hmt
    generalize MT / 2 ^ τ = K1 at *
    have hneedE : stM R = true → ((ndK (fun i : Nat => !rgB R (i : Int)) R.b.length).any fun z => decide (z = (k : Int))) = !stM (woR R k) := by
      intro _
      rw [Bool.eq_iff_iff, List.any_eq_true]
      constructor
      · rintro ⟨z, hz, hzk⟩
        have hzk : z = (k : Int) := by simpa using hzk
        subst hzk
        have := (nd_mem.1 hz).2
        rw [rg_wo hok hkl] at this
        exact this
      · intro h
        refine ⟨(k : Int), nd_mem.2 ⟨hkl, ?_⟩, by simp⟩
        rw [rg_wo hok hkl]; exact h
    have hstw := st_wo hok hrod hkl
    rw [← hcc, hρ, hκ, hrt, Int.toNat_natCast, Int.toNat_natCast] at hstw
    rcases hcase with ⟨rfl, rfl, hno⟩ | ⟨rfl, W, ps, qs, hW, hP⟩
    · have hbit : MT.testBit τ = false := by
        cases hb : MT.testBit τ with
        | false => rfl
        | true => rw [hτ] at hb; exact absurd (hmt.1 hb) hno
      rw [hbit] at an1
      have hneed0 : stM R = true → ((ndK (fun i : Nat => !rgB R (i : Int)) R.b.length).any fun z => decide (z = (k : Int))) = true := by
        intro h
        rw [hneedE h]
        cases hs : stM (woR R k) with
        | false => rfl
        | true => exact absurd ((hstw h).1 hs) hno
      cases hst : stM R with
      | false =>
        rw [hst, if_neg (by simp)] at hS21
        rw [hst] at hS44
        simp [e12, e8, e9, e10, hlz, hbk, f0, f1, hws, sh1, an1, e5, la, lpa, fa, hhq, apart, hS21, hS44]
      | true =>
        rw [hst, if_pos rfl] at hS21
        rw [hst] at hS44
        have hneed := hneed0 hst
        obtain ⟨L, hL⟩ : ∃ L, L = ndK (fun i : Nat => !rgB R (i : Int)) R.b.length := ⟨_, rfl⟩
        have hLl : L.length ≤ 9 := by have := ndK_len (f := fun i : Nat => !rgB R (i : Int)) R.b.length; rw [hL]; omega
        rw [← hL] at hS21 hneed
        have hLI : asI (outV 1 (ints L)) = some L := asI_outV (by omega)
        generalize outV 1 (ints L) = LV at *
        simp [e12, e8, e9, e10, hlz, hbk, f0, f1, hws, sh1, an1, e5, la, lpa, fa, hhq, apart, hS21, hS44, alen_of hLI]
        refine At.loop (fun (i : Nat) s => i ≤ L.length ∧ s.env 8 = .int .i64 (k : Int) ∧ s.env 10 = .int .i64 14 ∧ s.env 23 = .int .i64 0 ∧ s.env 24 = .bool ((L.take i).any fun z => decide (z = (k : Int))) ∧ s.env 239 = LV ∧ s.env 240 = .int .i64 (L.length : Int) ∧ s.env 241 = .int .i64 (i : Int)) (fun i => L.length - i) 0 ?_ ?_
        · simp [e8, e10]
        rintro N3 i s3 hN3 ⟨hi, w8, w10, w23, w24, w239, w240, w241⟩
        simp [w240, w241]
        refine At.dec (fun hlt3 => ?_) (fun hlt3 => ?_)
        · have hi' : i < L.length := by omega
          have hix := aidx_nat hLI hi' (k := .i64)
          have hsn : (L.take (i + 1)).any (fun z => decide (z = (k : Int))) = ((L.take i).any (fun z => decide (z = (k : Int))) || decide (L[i] = (k : Int))) := by rw [take_snoc hi', List.any_append]; simp
          generalize (L.take i).any (fun z => decide (z = (k : Int))) = A at *
          cases A with
          | true =>
            simp [w239, w241, hix, w24]
            refine hN3 (i + 1) _ (by omega) ⟨by omega, ?_⟩
            rw [Bool.true_or] at hsn
            rw [hsn]
            simp [w8, w10, w23, w239, w240, wrap_nat1 (show i < _ by omega)]
          | false =>
            simp [w239, w241, hix, w24, w8]
            refine hN3 (i + 1) _ (by omega) ⟨by omega, ?_⟩
            rw [Bool.false_or] at hsn
            rw [hsn]
            simp [w8, w10, w23, w239, w240, wrap_nat1 (show i < _ by omega)]
        · have hiL : i = L.length := by omega
          subst hiL
          rw [List.take_length, hneed] at w24
          simp [w23, w24, w10]
    · have hrt2 := pth_rt hrod hkl (W := W) (b := false) (cur := κ) (ps := ps) (qs := qs) hP
      simp only [Bool.false_eq_true, if_false] at hrt2
      rw [hrt] at hrt2
      have hbit : MT.testBit τ = true := by rw [hτ]; exact hmt.2 hrt2
      rw [hbit] at an1
      have hneed0 : stM R = true → ((ndK (fun i : Nat => !rgB R (i : Int)) R.b.length).any fun z => decide (z = (k : Int))) = false := by
        intro h
        rw [hneedE h, (hstw h).2 hrt2]; rfl
      obtain ⟨o1, o2, o3⟩ := wk_of hok (by omega) hP
      rw [if_neg (by simp), hrt, ← hτ] at o1
      have hodd : W.length % 2 = 1 := by
        have := wk_par (R := R) (W := W) (s := ⟨ρ, 2 ^ ρ, true⟩)
        rw [show List.foldl (wkS R) ⟨ρ, 2 ^ ρ, true⟩ W = wkL R ρ W from rfl, o2] at this
        rcases Nat.mod_two_eq_zero_or_one W.length with h | h
        · rw [h] at this; simp at this
        · exact h
      have htm : ∀ m : Nat, ((m : Int)).tmod 2 = ((m % 2 : Nat) : Int) := fun m => rfl
      have rmW := htm W.length
      rw [hodd] at rmW
      have hW0 : ¬ ((W.length : Int) = 0) := by omega
      have hW0' : W ≠ [] := fun h => by rw [h] at hodd; cases hodd
      have hWl := (hP.inv hok (by omega)).short hok
      simp [e12, e5, e8, e9, e10, la, lpa, fa, hhq, apart, hlz, hbk, f0, f1, hws, sh1, an1, alen_of hW, hW0, hW0', rmW, sh0]
      refine At.loop (fun (i : Nat) s => i ≤ W.length ∧ s.env 5 = .ref q 0 ∧ s.env 8 = .int .i64 (k : Int) ∧ s.env 10 = .int .i64 0 ∧ s.env 16 = .int .i64 ((wkL R ρ (W.take i)).ps : Nat) ∧ s.env 17 = .int .i64 ((wkL R ρ (W.take i)).cur : Nat) ∧ s.env 158 = w ∧ s.env 159 = .int .i64 (W.length : Int) ∧ s.env 160 = .int .i64 (i : Int) ∧ s.hs.heap q = some [.int .i64 R.r, .int .i64 R.c, y0]) (fun i => W.length - i) 0 ?_ ?_
      · simp [e5, e8, e10, hhq, wkL, hJ0]
      rintro N2 i s hN2 ⟨hi, e5, e8, e10, e16, e17, e158, e159, e160, hhq⟩
      simp [e159, e160]
      refine At.dec (fun hlt2 => ?_) (fun hlt2 => ?_)
      · have hi' : i < W.length := by omega
        obtain ⟨b', cur', ps', qs', hP'⟩ := pth_pre hP (i + 1) (by omega)
        have hsnW := wkL_snoc (R := R) (a0 := ρ) (W := W.take i) (x := W[i])
        rw [← take_snoc hi'] at hsnW
        rw [take_snoc hi'] at hP'
        obtain ⟨jx, hjx, hxe, hne, hfrom, hto⟩ := pth_step hok (by omega) hP'
        have hpar := wk_par (R := R) (W := W.take i) (s := ⟨ρ, 2 ^ ρ, true⟩)
        rw [show List.foldl (wkS R) ⟨ρ, 2 ^ ρ, true⟩ (W.take i) = wkL R ρ (W.take i) from rfl, List.length_take, Nat.min_eq_left (by omega)] at hpar
        obtain ⟨hcl, hpl⟩ := wk_lt hok (W := W.take i) (s := ⟨ρ, 2 ^ ρ, true⟩) (show ρ < 12 by omega) (show 2 ^ ρ < 4096 from Nat.pow_lt_pow_right (by decide) (show ρ < 12 by omega))
        rw [show List.foldl (wkS R) ⟨ρ, 2 ^ ρ, true⟩ (W.take i) = wkL R ρ (W.take i) from rfl] at hcl hpl
        have hix := aidx_nat hW hi' (k := .i64)
        rw [hxe] at hix hfrom hto hsnW
        obtain ⟨d, hdd⟩ : ∃ d, d = R.b[jx] := ⟨_, rfl⟩
        obtain ⟨m1, m2, m3, m4, m5, m6⟩ : okB R.r R.c d := by rw [hdd]; exact hok.b _ (List.getElem_mem hjx)
        obtain ⟨ρ', hρ'⟩ : ∃ ρ' : Nat, d.1 = (ρ' : Int) := ⟨d.1.toNat, by omega⟩
        obtain ⟨κ', hκ'⟩ : ∃ κ' : Nat, d.2.1 = (κ' : Int) := ⟨d.2.1.toNat, by omega⟩
        have hbi := bidx hy hjx (k := .i64)
        rw [← hdd, hρ', hκ'] at hbi
        obtain ⟨τ', hτ'⟩ : ∃ τ' : Nat, τ' = r + κ' := ⟨_, rfl⟩
        have hws' : IntKind.i64.wrap (R.r + (κ' : Int)) = (τ' : Int) := by rw [wrap64 (by omega) (by omega)]; omega
        have T1 : wkT R true (jx : Int) = τ' := by rw [wkT, if_pos rfl, getD_nat hjx, ← hdd, hκ', hrt, Int.toNat_natCast, hτ']
        have T0 : wkT R false (jx : Int) = ρ' := by rw [wkT, if_neg (by simp), getD_nat hjx, ← hdd, hρ', Int.toNat_natCast]
        have x0 : ¬ ((jx : Int) < 0) := by omega
        have x1 : ¬ ((R.b.length : Int) ≤ (jx : Int)) := by omega
        have x2 : ¬ ((jx : Int) = (k : Int)) := by omega
        have x3 : ¬ (R.b.length ≤ jx) := by omega
        have rmi := htm i
        generalize wkL R ρ (W.take i) = S at *
        have hsucc : wkL R ρ (W.take (i + 1)) = ⟨wkT R S.par (jx : Int), S.ps ||| 2 ^ wkT R S.par (jx : Int), !S.par⟩ := hsnW
        rcases Nat.mod_two_eq_zero_or_one i with hev | hev
        · rw [hev] at rmi hpar
          have hpar : S.par = true := by rw [hpar]; rfl
          rw [hpar] at hfrom hto hsucc
          rw [Bool.not_true, T0] at hfrom
          rw [T1] at hto hsucc
          have sr := shr64 (kd := 0) (a := S.ps) (n := τ') (k := .i64) (by omega)
          have an := and64 (kd := 0) (a := S.ps / 2 ^ τ') (b := 1) (Nat.lt_of_le_of_lt (Nat.div_le_self _ _) (by omega)) (by omega)
          rw [bit64, hto, n01] at an
          have sl := shl64 (kd := 0) (n := τ') (k := .i64) (by omega)
          have orr := or64 (kd := 0) (a := S.ps) (b := 2 ^ τ') (by omega) (Nat.lt_trans (Nat.pow_lt_pow_right (by decide) (show τ' < 12 by omega)) (by decide))
          generalize 2 ^ τ' = P1 at *
          generalize S.ps / P1 = K2 at *
          rw [← hfrom] at e17
          generalize S.ps = SP at *
          simp [e5, e8, e16, e17, e158, e160, hix, x0, x1, x2, x3, hne, la, lpa, fa, hhq, apart, hlz, blen hy, hbi, f0, f1, hws', rmi, sr, an, sl, orr]
          refine hN2 (i + 1) _ (by omega) ⟨by omega, ?_⟩
          rw [hsucc]
          simp [e5, e8, e10, e158, e159, hhq, wrap_nat1 (show i < _ by omega)]
        · rw [hev] at rmi hpar
          have hpar : S.par = false := by rw [hpar]; rfl
          rw [hpar] at hfrom hto hsucc
          rw [Bool.not_false, T1] at hfrom
          rw [T0] at hto hsucc
          have sr := shr64 (kd := 0) (a := S.ps) (n := ρ') (k := .i64) (by omega)
          have an := and64 (kd := 0) (a := S.ps / 2 ^ ρ') (b := 1) (Nat.lt_of_le_of_lt (Nat.div_le_self _ _) (by omega)) (by omega)
          rw [bit64, hto, n01] at an
          have sl := shl64 (kd := 0) (n := ρ') (k := .i64) (by omega)
          have orr := or64 (kd := 0) (a := S.ps) (b := 2 ^ ρ') (by omega) (Nat.lt_trans (Nat.pow_lt_pow_right (by decide) (show ρ' < 12 by omega)) (by decide))
          generalize 2 ^ ρ' = P1 at *
          generalize S.ps / P1 = K2 at *
          rw [← hfrom] at e17
          generalize S.ps = SP at *
          simp [e5, e8, e16, e17, e158, e160, hix, x0, x1, x2, x3, hne, la, lpa, fa, hhq, apart, hlz, blen hy, hbi, f0, f1, hws', rmi, sr, an, sl, orr]
          refine hN2 (i + 1) _ (by omega) ⟨by omega, ?_⟩
          rw [hsucc]
          simp [e5, e8, e10, e158, e159, hhq, wrap_nat1 (show i < _ by omega)]
      · have hiW : i = W.length := by omega
        subst hiW
        rw [List.take_length, o1] at e17
        cases hst : stM R with
        | false =>
          rw [hst, if_neg (by simp)] at hS21
          rw [hst] at hS44
          simp [e17, e8, hlz, hbk, f0, f1, hws, e5, la, lpa, fa, hhq, apart, hS21, hS44]
        | true =>
          rw [hst, if_pos rfl] at hS21
          rw [hst] at hS44
          have hneed := hneed0 hst
          obtain ⟨L, hL⟩ : ∃ L, L = ndK (fun i : Nat => !rgB R (i : Int)) R.b.length := ⟨_, rfl⟩
          have hLl : L.length ≤ 9 := by have := ndK_len (f := fun i : Nat => !rgB R (i : Int)) R.b.length; rw [hL]; omega
          rw [← hL] at hS21 hneed
          have hLI : asI (outV 1 (ints L)) = some L := asI_outV (by omega)
          generalize outV 1 (ints L) = LV at *
          simp [e17, e8, hlz, hbk, f0, f1, hws, e5, la, lpa, fa, hhq, apart, hS21, hS44, alen_of hLI]
          refine At.loop (fun (i : Nat) s => i ≤ L.length ∧ s.env 8 = .int .i64 (k : Int) ∧ s.env 10 = .int .i64 0 ∧ s.env 23 = .int .i64 0 ∧ s.env 24 = .bool ((L.take i).any fun z => decide (z = (k : Int))) ∧ s.env 239 = LV ∧ s.env 240 = .int .i64 (L.length : Int) ∧ s.env 241 = .int .i64 (i : Int)) (fun i => L.length - i) 0 ?_ ?_
          · simp [e8, e10]
          rintro N3 i s3 hN3 ⟨hi, w8, w10, w23, w24, w239, w240, w241⟩
          simp [w240, w241]
          refine At.dec (fun hlt3 => ?_) (fun hlt3 => ?_)
          · have hi' : i < L.length := by omega
            have hix := aidx_nat hLI hi' (k := .i64)
            have hsn : (L.take (i + 1)).any (fun z => decide (z = (k : Int))) = ((L.take i).any (fun z => decide (z = (k : Int))) || decide (L[i] = (k : Int))) := by rw [take_snoc hi', List.any_append]; simp
            generalize (L.take i).any (fun z => decide (z = (k : Int))) = A at *
            cases A with
            | true =>
              simp [w239, w241, hix, w24]
              refine hN3 (i + 1) _ (by omega) ⟨by omega, ?_⟩
              rw [Bool.true_or] at hsn
              rw [hsn]
              simp [w8, w10, w23, w239, w240, wrap_nat1 (show i < _ by omega)]
            | false =>
              simp [w239, w241, hix, w24, w8]
              refine hN3 (i + 1) _ (by omega) ⟨by omega, ?_⟩
              rw [Bool.false_or] at hsn
              rw [hsn]
              simp [w8, w10, w23, w239, w240, wrap_nat1 (show i < _ by omega)]
          · have hiL : i = L.length := by omega
            subst hiL
            rw [List.take_length, hneed] at w24
            simp [w23, w24, w10]
theorem detour_typed (xs : List AV) (h : Typed [TSh, .int .u8] xs) : PCall Try.prog 9 xs (.bool true) := by
  obtain ⟨x, y, rfl, hx, hy⟩ := h.two
  obtain ⟨a, b, l, hs⟩ := shelf_typed hx
  obtain ⟨n, rfl, hn⟩ := shv_int hy
  exact p9 hs (u8_bd hn)
end Go.Proofs.Ytecbbbocjmdfgaa
