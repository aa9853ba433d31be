/-
  The law of prices: plain laws of costs. Own work.
  The law of prices, walked. Own work.
  The law of prices, walked: the law itself. Own work.
-/
import Derived.Test.YtnmpdegnpaggkaaG4
set_option linter.unusedVariables false
set_option linter.unusedSimpArgs false
namespace Go.Proofs.Ytnmpdegnpaggkaa
open Go Fw

theorem Chain1.mem_ext {c : List Int} (h : Chain1 c) : ∀ {d i : Nat}, i + d + 1 = c.length → c ∈ extL (lastL c) [] d (c.take (i + 1))
  | 0, i, hi => by
    rw [List.take_of_length_le (by omega)]
    simp [extL]
  | d + 1, i, hi => by
    have hil : i + 1 < c.length := by omega
    have hu := h.up (i + 1) (by omega) hil
    simp only [Nat.add_sub_cancel] at hu
    have hl : lastL (c.take (i + 1)) = c[i] := by
      rw [lastL_get (by rw [List.length_take]; omega)]
      simp only [List.length_take, List.getElem_take]
      congr 1; omega
    have hY := h.hasY (sp := []) (fun a _ _ h => by simp at h) (d := d + 1) (i := i) hi
    have hasc := (h.take (i := i + 1) (by omega)).asc
    have hle := hasY_le hasc hY
    rw [extL, if_neg (by omega), List.mem_flatMap]
    have hlast := le_last h.sorted (List.getElem_mem hil)
    have h2 := hasc.pw_le hu.2
    rw [hl] at h2
    have hx : c[i] + 1 + ((c[i + 1] - c[i] - 1).toNat : Int) = c[i + 1] := by omega
    refine ⟨(c[i + 1] - c[i] - 1).toNat, ?_, ?_⟩
    · rw [hl]
      simp only [List.mem_range]
      unfold cands
      split <;> omega
    · rw [hl, hx, if_neg (by
        rintro (h' | h')
        · simp at h'
        · exact way_iff.2 hu.2 h'), ← take_snoc hil]
      exact h.mem_ext (by omega)
theorem Chain1.mem1 {c : List Int} (h : Chain1 c) : c ∈ extL (lastL c) [] (c.length - 1) [1] := by
  have h1 := h.mem_ext (d := c.length - 1) (i := 0) (by have := h.ne; omega)
  have : c.take (0 + 1) = [1] := by
    have hne := h.ne
    have := h.head
    cases c with
    | nil => simp at hne
    | cons a r => simp at this; simp [this]
  rwa [this] at h1

/-! the least cost -/
theorem bestF_fold {s t : Int} (hg : goodP s t = true) : ∀ (l : List (List Int)) (b : Int), (∀ c ∈ l, l.foldl (bestF s t) b ≤ costL s t c) ∧ (0 ≤ b → l.foldl (bestF s t) b ≤ b ∧ 0 ≤ l.foldl (bestF s t) b)
  | [], b => ⟨fun c h => by simp at h, fun h => ⟨Int.le_refl _, h⟩⟩
  | c :: l, b => by
    have h0 := costL_nonneg hg c
    obtain ⟨h1, h2⟩ := bestF_fold hg l (bestF s t b c)
    have hb0 : 0 ≤ bestF s t b c := by unfold bestF; split <;> omega
    have hbc : bestF s t b c ≤ costL s t c := by unfold bestF; split <;> omega
    have hbb : 0 ≤ b → bestF s t b c ≤ b := by intro h; unfold bestF; split <;> omega
    obtain ⟨h3, h4⟩ := h2 hb0
    simp only [List.foldl_cons]
    refine ⟨fun c' hc' => ?_, fun h => ⟨by have := hbb h; omega, h4⟩⟩
    simp only [List.mem_cons] at hc'
    rcases hc' with rfl | hc'
    · omega
    · exact h1 c' hc'
theorem least_le {n s t : Int} (hg : goodP s t = true) {k : Nat} (hk : k ≤ 7) {c : List Int} (hc : c ∈ extL n [] k [1]) : leastL n s t ≤ costL s t c := by
  unfold leastL
  have : ∀ m, k < m → (List.range m).foldl (fun b k => (extL n [] k [1]).foldl (bestF s t) b) (-1) ≤ costL s t c ∧ 0 ≤ (List.range m).foldl (fun b k => (extL n [] k [1]).foldl (bestF s t) b) (-1) := by
    intro m
    induction m with
    | zero => intro h; omega
    | succ m ih =>
      intro h
      rw [foldl_range_succ]
      rcases Nat.lt_or_ge k m with h' | h'
      · obtain ⟨h1, h2⟩ := ih h'
        obtain ⟨h3, h4⟩ := (bestF_fold hg (extL n [] m [1]) _).2 h2
        exact ⟨by omega, h4⟩
      · have : k = m := by omega
        subst this
        have h3 := (bestF_fold hg (extL n [] k [1]) ((List.range k).foldl (fun b k => (extL n [] k [1]).foldl (bestF s t) b) (-1))).1 c hc
        refine ⟨h3, ?_⟩
        cases hL : extL n [] k [1] with
        | nil => rw [hL] at hc; simp at hc
        | cons a r =>
          simp only [List.foldl_cons]
          refine ((bestF_fold hg r _).2 ?_).2
          have := costL_nonneg hg a
          unfold bestF; split <;> omega
  exact (this 8 (by omega)).1
/-- the cheapest chain: its cost, and that none costs less -/
structure Chp (n s t : Int) (c : List Int) (k : Nat) : Prop where
  k7 : k ≤ 7
  mem : c ∈ extL n [] k [1]
  val : cheapR n s t = .tup [chV c, .int .i64 (costL s t c), .int .i64 0]
  least : ∀ c' k', k' ≤ 7 → c' ∈ extL n [] k' [1] → costL s t c ≤ costL s t c'
theorem chp_of {n : Int} (h1 : 1 ≤ n) (h2 : n ≤ 46) {s t : Int} (hg : goodP s t = true) : ∃ c k, Chp n s t c k := by
  rcases rel_all (n := n) hg with ⟨e1, e2⟩ | ⟨c, k, e1, hk, hm, hb, hb0⟩
  · have := all_some (s := s) (t := t) h1 h2
    rw [e1] at this; cases this
  · refine ⟨c, k, hk, hm, ?_, fun c' k' hk' hc' => by rw [← hb]; exact least_le hg hk' hc'⟩
    unfold cheapR
    rw [if_pos ⟨btw_iff.2 ⟨h1, h2⟩, hg⟩, e1, ← hb]
    rfl
theorem sumC_cong {f g : Nat → Int} : ∀ {n : Nat}, (∀ j, j < n → f j = g j) → sumC f n = sumC g n
  | 0, _ => rfl
  | n + 1, h => by simp only [sumC]; rw [sumC_cong (fun j hj => h j (by omega)), h n (by omega)]
theorem sumC_le {f g : Nat → Int} : ∀ {n : Nat}, (∀ j, j < n → f j ≤ g j) → sumC f n ≤ sumC g n
  | 0, _ => Int.le_refl _
  | n + 1, h => by
    have h1 := sumC_le (n := n) (fun j hj => h j (by omega))
    have h2 := h n (by omega)
    simp only [sumC]; omega
theorem sumC_mul {f : Nat → Int} (a : Int) : ∀ {n : Nat}, sumC (fun j => a * f j) n = a * sumC f n
  | 0 => by simp [sumC]
  | n + 1 => by simp only [sumC]; rw [sumC_mul a, Int.mul_add]
theorem sumC_const (a : Int) : ∀ {n : Nat}, sumC (fun _ => a) n = a * n
  | 0 => by simp [sumC]
  | n + 1 => by simp only [sumC]; rw [sumC_const a, Int.natCast_add, Int.mul_add]; simp
theorem sumC_ge0 {f : Nat → Int} : ∀ {n : Nat}, (∀ j, j < n → 0 ≤ f j) → 0 ≤ sumC f n
  | 0, _ => Int.le_refl _
  | n + 1, h => by
    have h1 := sumC_ge0 (n := n) (fun j hj => h j (by omega))
    have h2 := h n (by omega)
    simp only [sumC]; omega
theorem sumC_first {f : Nat → Int} : ∀ {n : Nat}, 0 < n → (∀ j, j < n → 0 ≤ f j) → f 0 ≤ sumC f n
  | 0, h, _ => by omega
  | n + 1, _, h => by
    rcases Nat.eq_zero_or_pos n with h' | h'
    · subst h'; simp [sumC]
    · have h1 := sumC_first h' (fun j hj => h j (by omega))
      have h2 := h n (by omega)
      simp only [sumC]; omega
/-- each number of a chain is a double, or a sum of two -/
theorem one_of {c : List Int} (h : Chain1 c) {j : Nat} (hj : j + 1 < c.length) : sameQ (c.take (j + 1)) (c.getD (j + 1) 0) = true ∨ twoQ (c.take (j + 1)) (c.take (j + 1)) (c.getD (j + 1) 0) = true := by
  rw [getD_get hj]
  obtain ⟨a, ha, b, hb, hab⟩ := (h.up (j + 1) (by omega) hj).2
  by_cases he : a = b
  · left
    unfold sameQ
    rw [List.any_eq_true]
    exact ⟨a, ha, by simp; omega⟩
  · right
    unfold twoQ
    rw [List.any_eq_true]
    refine ⟨a, ha, ?_⟩
    rw [show c[j + 1] - a = b by omega]
    simp [hb]; omega
theorem costF_one {c : List Int} (h : Chain1 c) {j : Nat} (hj : j + 1 < c.length) : costF 1 1 c j = 1 := by
  unfold costF costOf cst
  rcases one_of h hj with h1 | h1 <;> rw [h1] <;> (try split) <;> (try split) <;> simp_all
theorem costF_three {c : List Int} (h : Chain1 c) {j : Nat} (hj : j + 1 < c.length) (s t : Int) : costF (3 * s) (3 * t) c j = 3 * costF s t c j := by
  unfold costF costOf cst
  rcases one_of h hj with h1 | h1
  · rw [h1]
    cases twoQ (c.take (j + 1)) (c.take (j + 1)) (c.getD (j + 1) 0) <;> simp <;> (repeat' split) <;> omega
  · rw [h1]
    cases sameQ (c.take (j + 1)) (c.getD (j + 1) 0) <;> simp <;> (repeat' split) <;> omega
theorem costF_mono {c : List Int} (h : Chain1 c) {j : Nat} (hj : j + 1 < c.length) {s t s' t' : Int} (hs : s ≤ s') (ht : t ≤ t') : costF s t c j ≤ costF s' t' c j := by
  unfold costF costOf cst
  rcases one_of h hj with h1 | h1
  · rw [h1]
    cases twoQ (c.take (j + 1)) (c.take (j + 1)) (c.getD (j + 1) 0) <;> simp <;> (repeat' split) <;> omega
  · rw [h1]
    cases sameQ (c.take (j + 1)) (c.getD (j + 1) 0) <;> simp <;> (repeat' split) <;> omega
theorem costF_le {c : List Int} (h : Chain1 c) {j : Nat} (hj : j + 1 < c.length) {s t m : Int} (hs : s ≤ m) (ht : t ≤ m) : costF s t c j ≤ m := by
  unfold costF costOf cst
  rcases one_of h hj with h1 | h1
  · rw [h1]
    cases twoQ (c.take (j + 1)) (c.take (j + 1)) (c.getD (j + 1) 0) <;> simp <;> (repeat' split) <;> omega
  · rw [h1]
    cases sameQ (c.take (j + 1)) (c.getD (j + 1) 0) <;> simp <;> (repeat' split) <;> omega
theorem costL_one {c : List Int} (h : Chain1 c) : costL 1 1 c = (c.length : Int) - 1 := by
  have hne := h.ne
  unfold costL
  rw [sumC_cong (g := fun _ => 1) (fun j hj => costF_one h (by omega)), sumC_const]
  omega
theorem costL_three {c : List Int} (h : Chain1 c) (s t : Int) : costL (3 * s) (3 * t) c = 3 * costL s t c := by
  unfold costL
  rw [sumC_cong (g := fun j => 3 * costF s t c j) (fun j hj => costF_three h (by omega) s t), sumC_mul]
theorem costL_mono {c : List Int} (h : Chain1 c) {s t s' t' : Int} (hs : s ≤ s') (ht : t ≤ t') : costL s t c ≤ costL s' t' c := sumC_le fun j hj => costF_mono h (by omega) hs ht
theorem costL_max {c : List Int} (h : Chain1 c) {s t m : Int} (hs : s ≤ m) (ht : t ≤ m) : costL s t c ≤ m * (c.length - 1 : Nat) := by
  unfold costL
  rw [← sumC_const]
  exact sumC_le fun j hj => costF_le h (by omega) hs ht
theorem costL_first {c : List Int} (h : Chain1 c) {s t : Int} (hg : goodP s t = true) (h2 : 2 ≤ c.length) : s ≤ costL s t c := by
  have h0 : costF s t c 0 = s := by
    unfold costF costOf
    have hh := h.head
    have hu := (h.up 1 (by omega) (by omega)).2
    have ht1 : c.take 1 = [1] := by
      cases c with
      | nil => simp at h2
      | cons a r => simp at hh; simp [hh]
    rw [ht1] at hu
    obtain ⟨a, ha, b, hb, hab⟩ := hu
    simp at ha hb
    subst ha; subst hb
    have e2 : c.getD 1 0 = 2 := by rw [getD_get (by omega), ← hab]; rfl
    rw [e2, ht1]
    rfl
  have := sumC_first (f := costF s t c) (n := c.length - 1) (by omega) (fun j _ => (costF_bound hg c j).1)
  unfold costL
  omega
end Go.Proofs.Ytnmpdegnpaggkaa
set_option linter.unusedVariables false
set_option linter.unusedSimpArgs false
namespace Go.Proofs.Ytnmpdegnpaggkaa
open Go Fw

theorem ld2_0 {hp : Nat → Option (List AV)} {i : Nat} {a b : AV} (h : hp i = some [a, b]) : aload hp false 1 (.ref i 0) = some a := by simp [aload, apart, h]
theorem ld2_1 {hp : Nat → Option (List AV)} {i : Nat} {a b : AV} (h : hp i = some [a, b]) : aload hp false 1 (.ref i 1) = some b := by simp [aload, apart, h]
theorem ld2_a {hp : Nat → Option (List AV)} {i : Nat} {a b : AV} (h : hp i = some [a, b]) : aload hp true 2 (.ref i 0) = some (.agg [a, b]) := by simp [aload, apart, h]
@[simp] theorem fad_0 {i : Nat} : afaddr false 1 0 (.ref i 0) = some (.ref i 0) := id rfl
@[simp] theorem fad_1 {i : Nat} : afaddr false 1 1 (.ref i 0) = some (.ref i 1) := by simp [afaddr]
@[simp] theorem fill2 {a b : AV} {k1 k2 : IntKind} {x y : Int} : afill [a, b] [(0, 1, .int k1 x), (1, 1, .int k2 y)] = some [.int k1 x, .int k2 y] := by simp [afill, setL, AV.cells, AV.sto, AV.leaf]

/-- both kinds of sums among the numbers before, as the closure looks for them -/
def twoC (c : List Int) (x i : Nat) : Bool := (List.range i).any fun a => (c.take a).any fun b => decide (c.getD a 0 + b = c.getD x 0)
theorem twoC_is {c : List Int} (h : Chain1 c) {x : Nat} (hx : x < c.length) : twoC c x x = twoQ (c.take x) (c.take x) (c.getD x 0) := by
  rw [Bool.eq_iff_iff]
  unfold twoC twoQ
  simp only [List.any_eq_true, Bool.and_eq_true, Bool.not_eq_true', decide_eq_true_eq, decide_eq_false_iff_not, List.mem_range]
  constructor
  · rintro ⟨a, ha, b, hb, hab⟩
    rw [getD_get (show a < c.length by omega)] at hab
    refine ⟨c[a]'(by omega), mem_take_of (by omega) _, ?_, ?_⟩
    · obtain ⟨q, hq, rfl⟩ := List.getElem_of_mem hb
      rw [List.length_take] at hq
      rw [List.getElem_take] at hab
      have := sorted_get h.sorted (show a < c.length by omega) (show q < a by omega)
      omega
    · rw [← hab, show c[a]'(by omega) + b - c[a]'(by omega) = b by omega]
      obtain ⟨q, hq, rfl⟩ := List.getElem_of_mem hb
      rw [List.length_take] at hq
      rw [List.getElem_take]
      exact mem_take_of (by omega) (by omega)
  · rintro ⟨a, ha, h1, h2⟩
    obtain ⟨p, hp, rfl⟩ := List.getElem_of_mem ha
    obtain ⟨q, hq, hqe⟩ := List.getElem_of_mem h2
    rw [List.length_take] at hp hq
    simp only [List.getElem_take] at h1 hqe ⊢
    rcases Nat.lt_trichotomy p q with h' | h' | h'
    · refine ⟨q, by omega, c[p]'(by omega), mem_take_of h' (by omega), ?_⟩
      rw [getD_get (show q < c.length by omega)]; omega
    · subst h'; omega
    · refine ⟨p, by omega, c[q]'(by omega), mem_take_of h' (by omega), ?_⟩
      rw [getD_get (show p < c.length by omega)]; omega
theorem twoC_succ {c : List Int} {x i : Nat} (hi : i < c.length) (hx : x < c.length) : twoC c x (i + 1) = (twoC c x i || (c.take i).any fun b => decide (c[i] + b = c[x])) := by
  unfold twoC
  rw [any_range_succ, getD_get hi, getD_get hx]
theorem sameQ_succ {c : List Int} {i : Nat} (hi : i < c.length) (v : Int) : sameQ (c.take (i + 1)) v = (sameQ (c.take i) v || decide (2 * c[i] = v)) := by
  unfold sameQ
  rw [any_take_succ hi]

set_option maxRecDepth 100000 in
theorem f46 {hs : HS} {i10 : Nat} {s t : Int} (hp : hs.heap i10 = some [.int .i64 s, .int .i64 t]) (hg : goodP s t = true) {x : AV} {c : List Int} (hx : asI x = some c) (hc : Chain1 c) (h46 : ∀ a ∈ c, a ≤ 46) (hlen : c.length ≤ 50) :
    FCall Try.prog 46 [x, .ref i10 0] hs fun e hs' => e = .ret (.int .i64 (costL s t c)) ∧ hs' = hs := by
  have hne := hc.ne
  have alx := alen_of hx
  refine FCall.of_body D19ok ok46 (by simp) (At.i ?_)
  simp [A46, R46]
  refine At.loop (fun (j : Nat) s0 => j + 1 ≤ c.length ∧ s0.hs = hs ∧ s0.env 0 = x ∧ s0.env 1 = .ref i10 0 ∧ s0.env 4 = .int .i64 (sumC (costF s t c) j) ∧ s0.env 5 = .int .i64 ((j : Int) + 1)) (fun j => c.length - j) 0 ?_ ?_
  · simp [sumC]; omega
  rintro N j s1 hN ⟨hj, hh, e0, e1, e4, e5⟩
  simp [e0, e1, e4, e5, alx]
  refine At.dec (fun h => ?_) (fun h => ?_)
  · have hj1 : j + 1 < c.length := by omega
    have ij := aidx_nat hx (k := .i64) hj1
    rw [show ((j + 1 : Nat) : Int) = (j : Int) + 1 by omega] at ij
    have hbs := sumC_bound (costF_bound hg c) j
    have hbf := costF_bound hg c j
    have hone := one_of hc hj1
    simp [e0, e1, e4, e5]
    refine At.loop (fun (i : Nat) s0 => i ≤ j + 1 ∧ s0.hs = hs ∧ s0.env 0 = x ∧ s0.env 1 = .ref i10 0 ∧ s0.env 4 = .int .i64 (sumC (costF s t c) j) ∧ s0.env 5 = .int .i64 ((j : Int) + 1) ∧ s0.env 8 = .int .i64 i ∧ s0.env 6 = .bool (sameQ (c.take i) (c.getD (j + 1) 0)) ∧ s0.env 7 = .bool (twoC c (j + 1) i)) (fun i => j + 1 - i) 0 ?_ ?_
    · simp [hh, e0, e1, e4, e5, sameQ, twoC]
    rintro N2 i s2 hN2 ⟨hi, kh, k0, k1, k4, k5, k8, k6, k7⟩
    simp [k0, k1, k4, k5, k6, k7, k8]
    refine At.dec (fun h2 => ?_) (fun h2 => ?_)
    · have hil : i < c.length := by omega
      have bi := h46 c[i] (List.getElem_mem hil)
      have bi1 := hc.pos c[i] (List.getElem_mem hil)
      have w2 : IntKind.i64.wrap (2 * c[i]) = 2 * c[i] := wrap64 (by omega) (by omega)
      have hss := sameQ_succ hil (c.getD (j + 1) 0)
      have hts := twoC_succ hil hj1
      generalize sameQ (c.take i) (c.getD (j + 1) 0) = S at k6 hss
      generalize twoC c (j + 1) i = T at k7 hts
      rw [getD_get hj1] at hss hN2
      simp [k0, k1, k4, k5, k6, k7, k8]
      refine At.loop (fun (k : Nat) s0 => k ≤ i ∧ s0.hs = hs ∧ s0.env 0 = x ∧ s0.env 1 = .ref i10 0 ∧ s0.env 4 = .int .i64 (sumC (costF s t c) j) ∧ s0.env 5 = .int .i64 ((j : Int) + 1) ∧ s0.env 8 = .int .i64 i ∧ s0.env 6 = .bool S ∧ s0.env 9 = .int .i64 k ∧ s0.env 7 = .bool (T || (c.take k).any fun b => decide (c[i] + b = c[j + 1]))) (fun k => i - k) 0 ?_ ?_
      · simp [kh, k0, k1, k4, k5, k6, k7, k8]
      rintro N3 k s3 hN3 ⟨hk, qh, q0, q1, q4, q5, q8, q6, q9, q7⟩
      have hsu : ∀ h3 : k < c.length, (T || (c.take (k + 1)).any fun b => decide (c[i] + b = c[j + 1])) = ((T || (c.take k).any fun b => decide (c[i] + b = c[j + 1])) || decide (c[i] + c[k] = c[j + 1])) := fun h3 => by
        rw [any_take_succ h3, Bool.or_assoc]
      generalize hU : (T || (c.take k).any fun b => decide (c[i] + b = c[j + 1])) = U at q7 hsu
      simp [q0, q1, q4, q5, q6, q7, q8, q9]
      refine At.dec (fun h3 => ?_) (fun h3 => ?_)
      · have hkl : k < c.length := by omega
        have bk := h46 c[k] (List.getElem_mem hkl)
        have bk1 := hc.pos c[k] (List.getElem_mem hkl)
        have w3 : IntKind.i64.wrap (c[i] + c[k]) = c[i] + c[k] := wrap64 (by omega) (by omega)
        cases U
        · simp [q0, q1, q4, q5, q6, q7, q8, q9, aidx_nat hx (k := .i64) hil, aidx_nat hx (k := .i64) hkl, w3, ij]
          refine hN3 (k + 1) _ (by omega) ⟨by omega, ?_⟩
          rw [hsu hkl]
          simp [qh, q0, q1, q4, q5, q6, q8, q9, wrap_nat1 (show k < _ by omega)]
        · simp [q0, q1, q4, q5, q6, q7, q8, q9]
          refine hN3 (k + 1) _ (by omega) ⟨by omega, ?_⟩
          rw [hsu hkl]
          simp [qh, q0, q1, q4, q5, q6, q8, q9, wrap_nat1 (show k < _ by omega)]
      · have hki : k = i := by omega
        subst hki
        rw [← hts] at hU
        cases S
        · simp [q0, q1, q4, q5, q6, q7, q8, q9, aidx_nat hx (k := .i64) hil, w2, ij]
          refine hN2 (k + 1) _ (by omega) ⟨by omega, ?_⟩
          rw [hss, hU]
          simp [qh, q0, q1, q4, q5, q7, q8, wrap_nat1 (show k < _ by omega)]
        · simp [q0, q1, q4, q5, q6, q7, q8, q9]
          refine hN2 (k + 1) _ (by omega) ⟨by omega, ?_⟩
          rw [hss, hU]
          simp [qh, q0, q1, q4, q5, q7, q8, wrap_nat1 (show k < _ by omega)]
    · have hij : i = j + 1 := by omega
      subst hij
      rw [twoC_is hc hj1] at k7
      have hcf : costF s t c j = cst s t (sameQ (c.take (j + 1)) (c.getD (j + 1) 0)) (twoQ (c.take (j + 1)) (c.take (j + 1)) (c.getD (j + 1) 0)) := rfl
      generalize sameQ (c.take (j + 1)) (c.getD (j + 1) 0) = S at k6 hone hcf
      generalize twoQ (c.take (j + 1)) (c.take (j + 1)) (c.getD (j + 1) 0) = T at k7 hone hcf
      have hgood : (0 ≤ s ∧ s ≤ 1000) ∧ 0 ≤ t ∧ t ≤ 1000 := by simpa [goodP, btw] using hg
      have wadd : ∀ v, v = costF s t c j → IntKind.i64.wrap (sumC (costF s t c) j + v) = sumC (costF s t c) (j + 1) := fun v hv => by
        subst hv
        exact wrap64 (by omega) (by omega)
      have w5 : IntKind.i64.wrap ((j : Int) + 1 + 1) = (j : Int) + 1 + 1 := wrap64 (by omega) (by omega)
      cases S
      · cases T
        · simp at hone
        · have := wadd t (by rw [hcf]; rfl)
          simp [k0, k1, k4, k5, k6, k7, k8, kh, ld2_0 hp, ld2_1 hp, this]
          refine hN (j + 1) _ (by omega) ⟨by omega, ?_⟩
          simp [kh, k0, k1, k5, w5]
      · cases T
        · have := wadd s (by rw [hcf]; rfl)
          simp [k0, k1, k4, k5, k6, k7, k8, kh, ld2_0 hp, ld2_1 hp, this]
          refine hN (j + 1) _ (by omega) ⟨by omega, ?_⟩
          simp [kh, k0, k1, k5, w5]
        · have := wadd (if s ≤ t then s else t) (by rw [hcf]; rfl)
          simp [k0, k1, k4, k5, k6, k7, k8, kh, ld2_0 hp, ld2_1 hp, amin_int, this]
          refine hN (j + 1) _ (by omega) ⟨by omega, ?_⟩
          simp [kh, k0, k1, k5, w5]
  · have hjl : c.length - 1 = j := by omega
    simp [e4]
    exact At.of ⟨by simp [costL, hjl], hh⟩
end Go.Proofs.Ytnmpdegnpaggkaa
set_option linter.unusedVariables false
set_option linter.unusedSimpArgs false
namespace Go.Proofs.Ytnmpdegnpaggkaa
open Go Fw

theorem good_of {s t : Int} (h1 : 0 ≤ s) (h2 : s ≤ 1000) (h3 : 0 ≤ t) (h4 : t ≤ 1000) : goodP s t = true := by simp [goodP, btw]; omega
set_option maxRecDepth 100000 in
theorem p12 {m : Nat} (hm : m < 24) {b : Int} (hb0 : 0 ≤ b) (hb : b % 24 = (m : Int)) (hb2 : b ≤ 255) {s t u v : Int} (hs : 0 ≤ s ∧ s ≤ 255) (ht : 0 ≤ t ∧ t ≤ 255) (hu : 0 ≤ u ∧ u ≤ 255) (hv : 0 ≤ v ∧ v ≤ 255)
    {x : AV} {ps : List (Int × Int)} (hx : IsPr x ps) : PCall Try.prog 12 [.int .u8 b, prU (s, t), prU (u, v), x] (.bool true) := by
  have hn1 : (1 : Int) ≤ (m : Int) + 1 := by omega
  have hn46 : (m : Int) + 1 ≤ 46 := by omega
  have vd := dist_val (n := m) (by omega)
  have hst := sh_tab (n := m) (by omega)
  have hd7 := dT_le (n := m) (by omega)
  have fc := fnd_of (n := (m : Int) + 1) (by omega) (ch_mem (n := m) (by omega))
  have hcm := ch_mem (n := m) (by omega)
  have g1 : goodP 1 1 = true := by decide
  have g2 : goodP s t = true := good_of (by omega) (by omega) (by omega) (by omega)
  have g3 : goodP (3 * s) (3 * t) = true := good_of (by omega) (by omega) (by omega) (by omega)
  have g4 : goodP (s + u) (t + v) = true := good_of (by omega) (by omega) (by omega) (by omega)
  obtain ⟨ca, ka, pa⟩ := chp_of hn1 hn46 g1
  obtain ⟨cb, kb, pb⟩ := chp_of hn1 hn46 g2
  obtain ⟨cc, kc, pc⟩ := chp_of hn1 hn46 g3
  obtain ⟨ck, kk, pk⟩ := chp_of hn1 hn46 g4
  have fa := fnd_of hn46 pa.mem
  have fb := fnd_of hn46 pb.mem
  have fcc := fnd_of hn46 pc.mem
  have fk := fnd_of hn46 pk.mem
  have la := fa.len
  have lb := fb.len
  have lcc := fcc.len
  have lk := fk.len
  -- the distance
  have e1 : costL 1 1 ca = (dT.getD m 0 : Nat) := by
    have h1 := pa.least _ _ hd7 hcm
    rw [costL_one fa.chain, costL_one fc.chain] at h1
    have h2 := sh_chain hst fa.chain fa.last (fun a _ _ h => by simp at h)
    have := fc.len
    rw [costL_one fa.chain]
    omega
  -- three times
  have e3 : costL (3 * s) (3 * t) cc = 3 * costL s t cb := by
    have h1 := pc.least _ _ pb.k7 pb.mem
    have h2 := pb.least _ _ pc.k7 pc.mem
    rw [costL_three fcc.chain, costL_three fb.chain] at h1
    rw [costL_three fcc.chain]
    omega
  -- greater prices
  have e4 : ¬ costL (s + u) (t + v) ck < costL s t cb := by
    have h1 := pb.least _ _ pk.k7 pk.mem
    have h2 := costL_mono fk.chain (s := s) (t := t) (s' := s + u) (t' := t + v) (by omega) (by omega)
    omega
  have e5 := costL_max fb.chain (s := s) (t := t) (m := 255) (by omega) (by omega)
  have e6 := costL_nonneg g2 cb
  have hkb := pb.k7
  have e7 : 0 < m → ¬ costL s t cb < s := fun h => by
    have hl := fb.last
    have : 2 ≤ cb.length := by
      rcases Nat.lt_or_ge cb.length 2 with h' | h'
      · have h1 : cb.length = 1 := by omega
        have h2 := fb.chain.one
        have h3 : lastL cb = cb.getD 0 0 := by unfold lastL; rw [h1]
        omega
      · exact h'
    have := costL_first fb.chain g2 this
    omega
  have va := pa.val
  have vb := pb.val
  have vcc := pc.val
  have vk := pk.val
  rw [e1] at va
  rw [e3] at vcc
  generalize hn : (m : Int) + 1 = n at *
  generalize dT.getD m 0 = d at *
  have ab := asI_chV (c := cb) (by omega)
  have alb := alen_of ab
  rw [lb] at alb
  have sb : sumsB cb = true := fb.chain.sums fun a ha => by have := fb.le a ha; omega
  have smb := sm_of fb.le
  have ib := aidx_of ab (k := .i64) (n := (kb : Int)) (by omega) (by simpa using fb.lastAt)
  have hcost46 : ∀ a ∈ cb, a ≤ 46 := fun a ha => (fb.le a ha).2
  have hcbl : cb.length ≤ 50 := by omega
  have fbc := fb.chain
  have hm1 : (1 : Int) < n ↔ 0 < m := by omega
  generalize hB : costL s t cb = B at *
  generalize costL (s + u) (t + v) ck = K at *
  have hmod : b.tmod 24 = (m : Int) := by rw [Int.tmod_eq_emod_of_nonneg hb0]; exact hb
  have wb : IntKind.i64.wrap b = b := wrap64 (by omega) (by omega)
  have wn : IntKind.i64.wrap (1 + (m : Int)) = n := by rw [wrap64 (by omega) (by omega)]; omega
  have ws : IntKind.i64.wrap s = s := wrap64 (by omega) (by omega)
  have wt : IntKind.i64.wrap t = t := wrap64 (by omega) (by omega)
  have wu : IntKind.i64.wrap u = u := wrap64 (by omega) (by omega)
  have wv : IntKind.i64.wrap v = v := wrap64 (by omega) (by omega)
  have w3s : IntKind.i64.wrap (3 * s) = 3 * s := wrap64 (by omega) (by omega)
  have w3t : IntKind.i64.wrap (3 * t) = 3 * t := wrap64 (by omega) (by omega)
  have wsu : IntKind.i64.wrap (s + u) = s + u := wrap64 (by omega) (by omega)
  have wtv : IntKind.i64.wrap (t + v) = t + v := wrap64 (by omega) (by omega)
  have w3B : IntKind.i64.wrap (3 * B) = 3 * B := wrap64 (by omega) (by omega)
  have wkb : IntKind.i64.wrap (kb : Int) = kb := wrap_nat (by omega)
  obtain ⟨ip0, ip1⟩ := idxA_pr (s, t)
  obtain ⟨iq0, iq1⟩ := idxA_pr (u, v)
  have sto1 : (prU (s, t)).sto = true := rfl
  have sto2 : (prU (u, v)).sto = true := rfl
  have hst1 : (S42 [.sl 1 [.int .i64 1] .exact]) = some (.sl 1 [.int .i64 1] .exact) := rfl
  have nB0 : ¬ B < 0 := by omega
  have nB1 : ¬ 1785 < B := by omega
  have nkb : ¬ (8 : Int) < (kb : Int) + 1 := by omega
  have nkb' : ¬ 8 < kb + 1 := by omega
  refine PCall.of D19ok ok12 (by simp) rfl fun hs' hb => ?_
  simp only [A12, R12]
  simp [sto1, sto2, wb, hmod, wn, ip0, ip1, iq0, iq1, ws, wt, wu, wv, aload, apart, w3s, w3t, wsu, wtv, astoAll]
  have q1 : ¬ hs'.nh = hs'.nh + 1 + 1 := by omega
  have q2 : ¬ hs'.nh + 1 = hs'.nh + 1 + 1 := by omega
  have q3 : ¬ hs'.nh = hs'.nh + 1 := by omega
  by_cases hm0 : 0 < m
  case' pos =>
    have ne7 := e7 hm0
    simp [SDist, vd, SPrice, va, vb, vcc, vk, nB0, nB1, w3B, e4, S40, ab, smb, sb, alb, nkb, nkb', wkb, ib, hm1, aload, apart, q1, q2, q3, hm0, ne7, hst1, AV.cells]
  case' neg =>
    simp [SDist, vd, SPrice, va, vb, vcc, vk, nB0, nB1, w3B, e4, S40, ab, smb, sb, alb, nkb, nkb', wkb, ib, hm1, aload, apart, q1, q2, q3, hm0, hst1, AV.cells]
  all_goals
    generalize hi10 : hs'.nh = i10 at q1 q2 q3
    refine At.loop (fun (q : Nat × List Int) s0 => q.1 ≤ 7 ∧ s0.env 3 = x ∧ s0.env 10 = .ref i10 0 ∧ s0.env 18 = chV cb ∧ s0.env 19 = .int .i64 B ∧ s0.env 27 = .fn (.func 46) [] [.ref i10 0] ∧ s0.env 29 = .int .i64 q.1 ∧ s0.hs.heap i10 = some [.int .i64 s, .int .i64 t] ∧ Grow s0.hs (s0.env 28) q.2 ∧ Chain1 q.2 ∧ (∀ a ∈ q.2, a ≤ 46) ∧ q.2.length ≤ q.1 + 1) (fun q => 7 - q.1) (0, [1]) ?_ ?_
    · simp [hi10, q1, q2, q3]
      exact ⟨⟨trivial, asI_one⟩, Chain1.one1⟩
    rintro N ⟨i, c⟩ s0 hN ⟨hi, e3', e10, e18, e19, e27, e29, hp, e28, hc, h46, hlen⟩
    simp only at hi e29 e28 hc h46 hlen hN
    have hne := hc.ne
    have ac := e28.as
    have alc := alen_of ac
    generalize hy : s0.env 28 = y at e28 ac alc
    obtain ⟨w, hw⟩ : ∃ w, c.length = w + 1 := ⟨c.length - 1, by omega⟩
    have hlast : c[w]'(by omega) = lastL c := by rw [lastL_get hne]; congr 1; omega
    have il := aidx_nat ac (k := .i64) (i := w) (by omega)
    rw [hlast] at il
    have wm : IntKind.i64.wrap (w : Int) = w := wrap_nat (by omega)
    rw [show ((c.length : Nat) : Int) = (w : Int) + 1 by omega] at alc
    have hw0 : ¬ (w : Int) + 1 = 0 := by omega
    have hlas := hc.asc.last
    have hla46 := h46 _ hlas
    have hla1 := hc.pos _ hlas
    simp [e3', e29, hx.len]
    by_cases h : i < ps.length ∧ i < 7
    · obtain ⟨h1, h2⟩ := h
      have h2i : (i : Int) < 7 := by omega
      have hpp := hx.2 ps[i] (List.getElem_mem h1)
      obtain ⟨jp0, jp1⟩ := idxA_pr ps[i]
      have wp0 : IntKind.i64.wrap (ps[i]).1 = (ps[i]).1 := wrap64 (by omega) (by omega)
      have wp1 : IntKind.i64.wrap (ps[i]).2 = (ps[i]).2 := wrap64 (by omega) (by omega)
      have ht0 : ∃ u : Nat, (ps[i]).1.tmod ((w : Int) + 1) = (u : Int) ∧ u < c.length := by
        have h1 := Int.emod_nonneg (ps[i]).1 hw0
        have h2 := Int.emod_lt_of_pos (ps[i]).1 (show 0 < (w : Int) + 1 by omega)
        rw [Int.tmod_eq_emod_of_nonneg (by omega)]
        exact ⟨((ps[i]).1 % ((w : Int) + 1)).toNat, by omega, by omega⟩
      have ht1 : ∃ u : Nat, (ps[i]).2.tmod ((w : Int) + 1) = (u : Int) ∧ u < c.length := by
        have h1 := Int.emod_nonneg (ps[i]).2 hw0
        have h2 := Int.emod_lt_of_pos (ps[i]).2 (show 0 < (w : Int) + 1 by omega)
        rw [Int.tmod_eq_emod_of_nonneg (by omega)]
        exact ⟨((ps[i]).2 % ((w : Int) + 1)).toNat, by omega, by omega⟩
      obtain ⟨u', hu', hul⟩ := ht0
      obtain ⟨v', hv', hvl⟩ := ht1
      have bu := h46 c[u'] (List.getElem_mem hul)
      have bu1 := hc.pos c[u'] (List.getElem_mem hul)
      have bv := h46 c[v'] (List.getElem_mem hvl)
      have bv1 := hc.pos c[v'] (List.getElem_mem hvl)
      have wss : IntKind.i64.wrap (c[u'] + c[v']) = c[u'] + c[v'] := wrap64 (by omega) (by omega)
      have hrem0 := abin_rem (kd := 0) (k := .i64) (a := (ps[i]).1) hw0
      have hrem1 := abin_rem (kd := 0) (k := .i64) (a := (ps[i]).2) hw0
      rw [hu'] at hrem0
      rw [hv'] at hrem1
      simp [e3', e29, hy, h1, h2i, hx.get h1, jp0, jp1, wp0, wp1, alc, hrem0, hrem1, aidx_nat ac (k := .i64) hul, aidx_nat ac (k := .i64) hvl, wss, wm, il]
      by_cases h3 : lastL c < c[u'] + c[v'] ∧ c[u'] + c[v'] ≤ 46
      · obtain ⟨h3, h4⟩ := h3
        obtain ⟨z, hs2, r1, r2, r3⟩ := e28.add (by omega) (c[u'] + c[v'])
        simp [e3', e29, hy, h3, h4, astoAll, r1]
        refine hN (i + 1, c ++ [c[u'] + c[v']]) _ (by simp only; omega) ⟨by simp only; omega, ?_⟩
        simp [e3', e10, e18, e19, e27, wrap_nat1 (show i < _ by omega)]
        refine ⟨by rw [r3.heap]; exact hp, r2, hc.snoc h3 ⟨_, List.getElem_mem hul, _, List.getElem_mem hvl, rfl⟩, fun a ha => ?_, by omega⟩
        rcases ha with ha | ha
        · exact h46 a ha
        · omega
      · by_cases h4 : lastL c < c[u'] + c[v']
        · have h5 : ¬ c[u'] + c[v'] ≤ 46 := fun h5 => h3 ⟨h4, h5⟩
          simp [e3', e29, hy, h4, h5]
          refine hN (i + 1, c) _ (by simp only; omega) ⟨by simp only; omega, ?_⟩
          simp [e3', e10, e18, e19, e27, hy, wrap_nat1 (show i < _ by omega)]
          exact ⟨hp, e28, hc, h46, by omega⟩
        · simp [e3', e29, hy, h4]
          refine hN (i + 1, c) _ (by simp only; omega) ⟨by simp only; omega, ?_⟩
          simp [e3', e10, e18, e19, e27, hy, wrap_nat1 (show i < _ by omega)]
          exact ⟨hp, e28, hc, h46, by omega⟩
    · have hstop : i < ps.length → ¬ (i : Int) < 7 := fun h1 h2 => h ⟨h1, by omega⟩
      have hvld := hc.vld h46
      have hchk := hvld.chk (by omega)
      have hcost : costR s t c = .tup [.int .i64 (costL s t c), .int .i64 0] := by simp [costR, hchk, g2]
      obtain ⟨cz, kz, pz⟩ := chp_of hla1 hla46 g2
      have hz := pz.least c (c.length - 1) (by omega) hc.mem1
      have vz := pz.val
      have hcallb : ∀ hs2 : HS, hs2.heap i10 = some [.int .i64 s, .int .i64 t] → FCall Try.prog 46 [chV cb, .ref i10 0] hs2 fun e hs' => e = .ret (.int .i64 B) ∧ hs' = hs2 := fun hs2 h2 => by
        rw [← hB]
        exact f46 h2 g2 ab fbc hcost46 hcbl
      have hcallc : ∀ hs2 : HS, hs2.heap i10 = some [.int .i64 s, .int .i64 t] → FCall Try.prog 46 [y, .ref i10 0] hs2 fun e hs' => e = .ret (.int .i64 (costL s t c)) ∧ hs' = hs2 := fun hs2 h2 => f46 h2 g2 ac hc h46 (by omega)
      generalize costL s t cz = Z at hz vz
      generalize costL s t c = Y at hz hcost hcallc
      by_cases hi1 : i < ps.length
      case' pos => have hi2 := hstop hi1; simp [hi1, hi2, e3', e29]
      case' neg => simp [hi1]
      all_goals
        simp [e3', e10, e18, e19, e27, e29, hy, ld2_a hp, SCost, ac, hcost, alc, wm, il, SPrice, vz]
        refine At.hc (hcallb _ hp) ?_ ?_
        · rintro r1 hs2 ⟨hr, rfl⟩
          injection hr with hr; subst hr
          simp [e3', e10, e18, e19, e27, e29, hy]
          refine At.hc (hcallc _ hp) ?_ ?_
          · rintro r2 hs3 ⟨hr2, rfl⟩
            injection hr2 with hr2; subst hr2
            simp [e3', e10, e18, e19, e27, e29, hy, hz, S15]
          · rintro r2 hs3 ⟨hr2, _⟩
            cases hr2
        · rintro r1 hs2 ⟨hr, _⟩
          cases hr
theorem prices_typed : ∀ xs, Typed [.int .u8, .ar 2 (.int .u8), .ar 2 (.int .u8), .sl (.ar 2 (.int .u8))] xs → PCall Try.prog 12 xs (.bool true) := by
  intro xs h
  obtain ⟨x, y, z, w, rfl, h1, h2, h3, h4⟩ := h.four
  obtain ⟨b, rfl, b1, b2⟩ := u8_of h1
  obtain ⟨p, rfl, hp⟩ := pair_u8 h2
  obtain ⟨q, rfl, hq⟩ := pair_u8 h3
  obtain ⟨ps, hps⟩ := pairs_u8 h4
  exact p12 (m := (b % 24).toNat) (by omega) b1 (by omega) b2 hp.1 hp.2 hq.1 hq.2 hps
end Go.Proofs.Ytnmpdegnpaggkaa
