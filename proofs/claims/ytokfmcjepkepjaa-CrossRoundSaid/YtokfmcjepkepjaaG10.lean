/-
  CrossRound, plainly: ways that are all different; the first arrows with the same way; turned rules. Own work.
  CrossRound, walked. Own work; printed by wip/tools/genrn2.py.
-/
import Derived.Test.YtokfmcjepkepjaaG9
import Derived.Test.YtokfmcjepkepjaaG6
import Derived.Test.YtokfmcjepkepjaaG7
set_option linter.unusedVariables false
set_option linter.unusedSimpArgs false
namespace Go.Proofs.Ytokfmcjepkepjaa
open Go Fw

/-- how many arrows have a way -/
def cwN (l : List Int) (size : Int) (j : Nat) : Nat := cwP l size (resG l.length 0) j
/-- all ways are different -/
def rnB (l : List Int) (size : Int) : Bool := (tw (wyN l size) (resG l.length 0)).isNone
theorem rn_iff {l : List Int} {size : Int} : rnB l size = true ↔ ∀ p ∈ resG l.length 0, ∀ q ∈ resG l.length 0, p ≠ q → wyN l size p ≠ wyN l size q := by
  rw [rnB, Option.isNone_iff_eq_none, tw_none]
theorem cw_one {l : List Int} {size : Int} {p : Pr} (h : ∀ q ∈ resG l.length 0, p ≠ q → wyN l size p ≠ wyN l size q) {d : Nat} (hd : wyN l size p = (d : Int)) : cwN l size d ≤ 1 := by
  have h1 : cwN l size d ≤ (resG l.length 0).countP (fun q => q == p) := by
    unfold cwN cwP
    refine List.countP_mono_left fun q hq e => ?_
    simp only [decide_eq_true_eq] at e
    by_cases hqp : q = p
    · simpa using hqp
    · exact absurd (by omega) (h q hq (fun e => hqp e.symm))
  have h2 : (resG l.length 0).count p ≤ 1 := List.nodup_iff_count.1 (resG_nodup _ _) p
  have h3 : (resG l.length 0).countP (fun q => q == p) = (resG l.length 0).count p := rfl
  omega
theorem cw_two {l : List Int} {size : Int} {p q : Pr} (hp : p ∈ resG l.length 0) (hq : q ∈ resG l.length 0) (hne : p ≠ q) {d : Nat} (hd : wyN l size p = (d : Int)) (hd2 : wyN l size q = (d : Int)) : 2 ≤ cwN l size d := by
  unfold cwN cwP
  rw [List.countP_eq_length_filter]
  have m1 : p ∈ (resG l.length 0).filter fun p => decide (wyN l size p = (d : Int)) := List.mem_filter.2 ⟨hp, by simpa using hd⟩
  have m2 : q ∈ (resG l.length 0).filter fun p => decide (wyN l size p = (d : Int)) := List.mem_filter.2 ⟨hq, by simpa using hd2⟩
  generalize (resG l.length 0).filter (fun p => decide (wyN l size p = (d : Int))) = L at *
  match L, m1, m2 with
  | [], m1, _ => cases m1
  | [a], m1, m2 =>
    rw [List.mem_singleton] at m1 m2
    exact absurd (m1.trans m2.symm) hne
  | a :: b :: L, _, _ => simp
theorem rn_cnt {l : List Int} {size : Int} (h1 : 1 ≤ size) (h40 : size ≤ 40) (hb : ∀ n ∈ l, 0 ≤ n ∧ n < size) : rnB l size = true ↔ ∀ j, j < 41 → cwN l size j ≤ 1 := by
  rw [rn_iff]
  constructor
  · intro h j _
    by_cases h0 : cwN l size j = 0
    · omega
    · have hpos : 0 < cwN l size j := by omega
      unfold cwN cwP at hpos
      obtain ⟨p, hp, hd⟩ := List.countP_pos_iff.1 hpos
      exact cw_one (h p hp) (by simpa using hd)
  · intro h p hp q hq hne e
    obtain ⟨g1, g2, _⟩ := mem_resG.1 hp
    have hd := wyN_bd h1 hb g1 g2
    obtain ⟨d, hdd⟩ : ∃ d : Nat, wyN l size p = (d : Int) := ⟨(wyN l size p).toNat, by omega⟩
    have := cw_two hp hq hne hdd (by omega)
    have := h d (by omega)
    omega
/-! the order of arrows -/
def lx (p q : Pr) : Prop := p.1 < q.1 ∨ (p.1 = q.1 ∧ p.2 < q.2)
theorem rowG_lx (n i k : Nat) : (rowG n i k).Pairwise lx := by
  unfold rowG
  rw [List.pairwise_map]
  exact ((List.pairwise_lt_range' (s := k) (n := n - k)).filter _).imp fun hab => .inr ⟨rfl, hab⟩
theorem rowG_fst {n i k : Nat} {p : Pr} (h : p ∈ rowG n i k) : p.1 = i := by
  simp only [rowG, List.mem_map] at h
  obtain ⟨k, _, rfl⟩ := h
  rfl
theorem resG_lx (n : Nat) : (resG n 0).Pairwise lx := by
  have h : ∀ m i, n - i = m → (resG n i).Pairwise lx ∧ ∀ p ∈ resG n i, i ≤ p.1 := by
    intro m
    induction m with
    | zero => intro i h; rw [resG_n (by omega)]; simp
    | succ m ih =>
      intro i h
      obtain ⟨h1, h2⟩ := ih (i + 1) (by omega)
      rw [resG_c (by omega)]
      refine ⟨List.pairwise_append.2 ⟨rowG_lx _ _ _, h1, fun a ha b hb => ?_⟩, fun p hp => ?_⟩
      · have := h2 b hb
        have := rowG_fst ha
        exact .inl (by omega)
      · rcases List.mem_append.1 hp with hp | hp
        · have := rowG_fst hp; omega
        · have := h2 p hp; omega
  exact (h _ 0 rfl).1
theorem lx_before {ps l1 l2 : List Pr} {p x : Pr} (h : ps = l1 ++ p :: l2) (hp : ps.Pairwise lx) (hx : x ∈ ps) (hl : lx x p) : x ∈ l1 := by
  subst h
  rcases List.mem_append.1 hx with h | h
  · exact h
  · exfalso
    have h2 := (List.pairwise_append.1 hp).2.1
    rcases List.mem_cons.1 h with rfl | h
    · unfold lx at hl; omega
    · have := (List.pairwise_cons.1 h2).1 x h
      unfold lx at hl this; omega
/-- the first arrow whose way another one has, and the first other one -/
structure TwS (l : List Int) (size : Int) (p q : Pr) : Prop where
  p1 : p.1 < l.length
  p2 : p.2 < l.length
  pn : p.1 ≠ p.2
  q1 : q.1 < l.length
  q2 : q.2 < l.length
  qn : q.1 ≠ q.2
  ne : p ≠ q
  eq : wyN l size p = wyN l size q
  b1 : ∀ i k, i < l.length → k < l.length → i ≠ k → lx (i, k) p → ∀ d : Nat, wyN l size (i, k) = (d : Int) → cwN l size d ≤ 1
  b2 : ∀ i k, i < l.length → k < l.length → i ≠ k → lx (i, k) q → (i, k) ≠ p → wyN l size (i, k) ≠ wyN l size p
theorem tw_some {l : List Int} {size : Int} {p q : Pr} (h : tw (wyN l size) (resG l.length 0) = some (p, q)) : TwS l size p q := by
  rw [tw_eq] at h
  obtain ⟨l1, a, l2, hps, ha, hbef⟩ := List.findSome?_eq_some_iff.1 h
  obtain ⟨q', hq', e⟩ := Option.map_eq_some_iff.1 ha
  injection e with e1 e2
  subst e1 e2
  obtain ⟨hq0, l3, l4, hqs, hbef2⟩ := List.find?_eq_some_iff_append.1 hq'
  have hpm : a ∈ resG l.length 0 := by rw [hps]; simp
  have hqm : q' ∈ resG l.length 0 := by rw [hqs]; simp
  obtain ⟨a1, a2, a3⟩ := mem_resG.1 hpm
  obtain ⟨c1, c2, c3⟩ := mem_resG.1 hqm
  have hq0' : a ≠ q' ∧ wyN l size a = wyN l size q' := by simpa using hq0
  refine ⟨a1, a2, a3, c1, c2, c3, hq0'.1, hq0'.2, fun i k hi hk hik hlx d hd => ?_, fun i k hi hk hik hlx hne => ?_⟩
  · have hm : (i, k) ∈ resG l.length 0 := mem_resG.2 ⟨hi, hk, hik⟩
    have hb := hbef _ (lx_before hps (resG_lx _) hm hlx)
    rw [Option.map_eq_none_iff, List.find?_eq_none] at hb
    refine cw_one (fun y hy hne e => ?_) hd
    exact hb y hy (by simpa using ⟨hne, e⟩)
  · have hm : (i, k) ∈ resG l.length 0 := mem_resG.2 ⟨hi, hk, hik⟩
    have hb := hbef2 _ (lx_before hqs (resG_lx _) hm hlx)
    intro e
    have : decide (a ≠ (i, k) ∧ wyN l size a = wyN l size (i, k)) = true := by
      rw [decide_eq_true_eq]
      exact ⟨fun h => hne h.symm, e.symm⟩
    rw [this] at hb
    cases hb
/-! all ways are different: by values -/
theorem wyN_val {l : List Int} {size : Int} (h1 : 1 ≤ size) (hb : ∀ n ∈ l, 0 ≤ n ∧ n < size) {i k : Nat} (hi : i < l.length) (hk : k < l.length) : wyN l size (i, k) = (l[k] - l[i]) % size := by
  have b1 := hb _ (List.getElem_mem hi)
  have b2 := hb _ (List.getElem_mem hk)
  rw [wyN, dsN, getD_of hi, getD_of hk, Int.tmod_eq_emod_of_nonneg (by omega), Int.add_emod_right]
theorem rn_val {l : List Int} {size : Int} (h1 : 1 ≤ size) (hb : ∀ n ∈ l, 0 ≤ n ∧ n < size) (ha : l.Pairwise (· < ·)) :
    rnB l size = true ↔ ∀ a ∈ l, ∀ b ∈ l, ∀ c ∈ l, ∀ d ∈ l, a ≠ b → c ≠ d → (b - a) % size = (d - c) % size → a = c ∧ b = d := by
  rw [rn_iff]
  constructor
  · intro h a ha' b hb' c hc' d hd' hab hcd e
    obtain ⟨i, hi, rfl⟩ := List.mem_iff_getElem.1 ha'
    obtain ⟨j, hj, rfl⟩ := List.mem_iff_getElem.1 hb'
    obtain ⟨u, hu, rfl⟩ := List.mem_iff_getElem.1 hc'
    obtain ⟨v, hv, rfl⟩ := List.mem_iff_getElem.1 hd'
    by_cases hne : ((i, j) : Pr) = (u, v)
    · injection hne with e1 e2
      subst e1 e2
      exact ⟨rfl, rfl⟩
    · exfalso
      refine h (i, j) (mem_resG.2 ⟨hi, hj, fun e => hab (by simp at e; simp [e])⟩) (u, v) (mem_resG.2 ⟨hu, hv, fun e => hcd (by simp at e; simp [e])⟩) hne ?_
      rw [wyN_val h1 hb hi hj, wyN_val h1 hb hu hv]
      exact e
  · rintro h ⟨i, j⟩ hp ⟨u, v⟩ hq hne e
    obtain ⟨g1, g2, g3⟩ := mem_resG.1 hp
    obtain ⟨k1, k2, k3⟩ := mem_resG.1 hq
    rw [wyN_val h1 hb g1 g2, wyN_val h1 hb k1 k2] at e
    obtain ⟨e1, e2⟩ := h _ (List.getElem_mem g1) _ (List.getElem_mem g2) _ (List.getElem_mem k1) _ (List.getElem_mem k2) (fun e => g3 (asc_inj ha g1 g2 e)) (fun e => k3 (asc_inj ha k1 k2 e)) e
    have e3 : i = u := asc_inj ha g1 k1 e1
    have e4 : j = v := asc_inj ha g2 k2 e2
    exact hne (by rw [e3, e4])
theorem resG_size : ∀ n, n < 9 → (resG n 0).length = n * (n - 1) := by decide
theorem nodup_le : ∀ {n : Nat} {l : List Nat}, l.Nodup → (∀ x ∈ l, x < n) → l.length ≤ n := by
  intro n
  induction n with
  | zero =>
    intro l _ h
    cases l with
    | nil => simp
    | cons a l => have := h a (by simp); omega
  | succ n ih =>
    intro l hn h
    have h2 : (l.erase n).Nodup := hn.erase n
    have h3 := ih h2 (fun x hx => by
      have hx1 := List.mem_of_mem_erase hx
      have hx2 : x ≠ n := fun e => by
        subst e
        exact (List.Nodup.not_mem_erase hn) hx
      have := h x hx1
      omega)
    have := List.length_erase (a := n) (l := l)
    split at this <;> omega
theorem rn_size {l : List Int} {size : Int} (h1 : 1 ≤ size) (hb : ∀ n ∈ l, 0 ≤ n ∧ n < size) (ha : l.Pairwise (· < ·)) (h8 : l.length ≤ 8) (hr : rnB l size = true) : ((l.length * (l.length - 1) + 1 : Nat) : Int) ≤ size := by
  have hbd : ∀ p ∈ resG l.length 0, 1 ≤ wyN l size p ∧ wyN l size p < size := by
    rintro ⟨i, k⟩ hp
    obtain ⟨g1, g2, g3⟩ := mem_resG.1 hp
    have hw := wyN_bd h1 hb g1 g2
    refine ⟨?_, hw.2⟩
    rcases Int.lt_or_le 0 (wyN l size (i, k)) with h | h
    · exact h
    · exfalso
      have h0 : wyN l size (i, k) = 0 := by omega
      have e1 := wyN_val h1 hb g1 g2
      rw [h0] at e1
      have e2 := (Int.emod_eq_emod_iff_emod_sub_eq_zero (n := size) (m := l[k]) (k := l[i])).2 e1.symm
      have b1 := hb _ (List.getElem_mem g1)
      have b2 := hb _ (List.getElem_mem g2)
      rw [Int.emod_eq_of_lt b1.1 b1.2, Int.emod_eq_of_lt b2.1 b2.2] at e2
      exact g3 (asc_inj ha g1 g2 e2.symm)
  have hn : ((resG l.length 0).map (fun p => (wyN l size p).toNat - 1)).Nodup := by
    unfold List.Nodup
    rw [List.pairwise_map]
    refine List.Pairwise.imp_of_mem ?_ (resG_nodup l.length 0)
    intro p q hp hq hne e
    have := hbd p hp
    have := hbd q hq
    exact rn_iff.1 hr p hp q hq hne (by omega)
  have := nodup_le (n := size.toNat - 1) hn (fun x hx => by
    obtain ⟨p, hp, rfl⟩ := List.mem_map.1 hx
    have := hbd p hp
    omega)
  rw [List.length_map, resG_size _ (by omega)] at this
  omega
theorem rn_clr {l : List Int} {size : Int} (hr : rnB l size = true) : clrB l = true := by
  rw [clr_iff]
  intro p hp q hq hne e
  obtain ⟨g1, g2⟩ := mem_resF.1 hp
  obtain ⟨k1, k2⟩ := mem_resF.1 hq
  refine rn_iff.1 hr p (mem_resG.2 ⟨by omega, g2, by omega⟩) q (mem_resG.2 ⟨by omega, k2, by omega⟩) hne ?_
  rw [wyN, wyN, e]
/-! turned -/
def onB (l : List Int) (turn size : Int) (j : Nat) : Bool := l.any fun x => decide ((x + turn) % size = (j : Int))
def rtN (l : List Int) (turn size : Int) : Nat → List Int
  | 0 => []
  | p + 1 => if onB l turn size p = true then rtN l turn size p ++ [(p : Int)] else rtN l turn size p
theorem rtN_ok (l : List Int) (turn size : Int) : ∀ p, (rtN l turn size p).length ≤ p ∧ (∀ n, n ∈ rtN l turn size p ↔ ∃ j : Nat, j < p ∧ onB l turn size j = true ∧ n = (j : Int)) ∧ (rtN l turn size p).Pairwise (· < ·)
  | 0 => by simp [rtN]
  | p + 1 => by
    obtain ⟨h1, h2, h3⟩ := rtN_ok l turn size p
    rw [rtN]
    split
    · rename_i hon
      refine ⟨by simp; omega, fun n => ?_, ?_⟩
      · rw [List.mem_append, h2, List.mem_singleton]
        constructor
        · rintro (⟨j, a, b, c⟩ | rfl)
          · exact ⟨j, by omega, b, c⟩
          · exact ⟨p, by omega, hon, rfl⟩
        · rintro ⟨j, a, b, c⟩
          by_cases hj : j = p
          · subst hj; exact .inr c
          · exact .inl ⟨j, by omega, b, c⟩
      · rw [List.pairwise_append]
        refine ⟨h3, by simp, fun a ha b hb => ?_⟩
        obtain ⟨j, hj, _, rfl⟩ := (h2 a).1 ha
        rw [List.mem_singleton] at hb; omega
    · rename_i hon
      refine ⟨by omega, fun n => ?_, h3⟩
      rw [h2]
      constructor
      · rintro ⟨j, a, b, c⟩
        exact ⟨j, by omega, b, c⟩
      · rintro ⟨j, a, b, c⟩
        by_cases hj : j = p
        · subst hj; exact absurd b hon
        · exact ⟨j, by omega, b, c⟩
theorem emod_cancel {a b t s : Int} (hs : 1 ≤ s) : ((b + t) % s - (a + t) % s) % s = (b - a) % s := by
  rw [← Int.sub_emod]
  congr 1; omega
theorem emod_inj {a b s : Int} (ha : 0 ≤ a ∧ a < s) (hb : 0 ≤ b ∧ b < s) (e : (b - a) % s = 0) : a = b := by
  have e2 := (Int.emod_eq_emod_iff_emod_sub_eq_zero (n := s) (m := b) (k := a)).2 e
  rw [Int.emod_eq_of_lt ha.1 ha.2, Int.emod_eq_of_lt hb.1 hb.2] at e2
  exact e2.symm
structure Rtd (l : List Int) (turn : Int) (size : Nat) (M : List Int) : Prop where
  len : M.length = l.length
  bd : ∀ n ∈ M, 0 ≤ n ∧ n < (size : Int)
  asc : M.Pairwise (· < ·)
  eq : rnB M (size : Int) = rnB l (size : Int)
theorem rt_ok {l : List Int} {turn : Int} {size : Nat} (h1 : 1 ≤ size) (hb : ∀ n ∈ l, 0 ≤ n ∧ n < (size : Int)) (ha : l.Pairwise (· < ·)) : Rtd l turn size (rtN l turn (size : Int) size) := by
  obtain ⟨g1, g2, g3⟩ := rtN_ok l turn (size : Int) size
  have hs : (1 : Int) ≤ (size : Int) := by omega
  have hmem : ∀ n, n ∈ rtN l turn (size : Int) size ↔ ∃ x ∈ l, (x + turn) % (size : Int) = n := by
    intro n
    rw [g2]
    unfold onB
    simp only [List.any_eq_true, decide_eq_true_eq]
    constructor
    · rintro ⟨j, hj, ⟨x, hx, e⟩, rfl⟩
      exact ⟨x, hx, e⟩
    · rintro ⟨x, hx, rfl⟩
      have h0 := Int.emod_nonneg (x + turn) (show (size : Int) ≠ 0 by omega)
      have h2 := Int.emod_lt_of_pos (x + turn) (show (0 : Int) < (size : Int) by omega)
      exact ⟨((x + turn) % (size : Int)).toNat, by omega, ⟨x, hx, by omega⟩, by omega⟩
  have hbd : ∀ n ∈ rtN l turn (size : Int) size, 0 ≤ n ∧ n < (size : Int) := by
    intro n hn
    obtain ⟨j, hj, _, rfl⟩ := (g2 n).1 hn
    omega
  have hinj : ∀ x ∈ l, ∀ y ∈ l, (x + turn) % (size : Int) = (y + turn) % (size : Int) → x = y := by
    intro x hx y hy e
    refine emod_inj (hb x hx) (hb y hy) ?_
    have := emod_cancel (a := x) (b := y) (t := turn) hs
    rw [e, Int.sub_self, Int.zero_emod] at this
    exact this.symm
  refine ⟨?_, hbd, g3, ?_⟩
  · have n1 : (rtN l turn (size : Int) size).Nodup := g3.imp fun h => by omega
    have n2 : (l.map fun x => (x + turn) % (size : Int)).Nodup := by
      unfold List.Nodup
      rw [List.pairwise_map]
      exact List.Pairwise.imp_of_mem (fun hx hy hxy e => by have := hinj _ hx _ hy e; omega) ha
    have := ((List.perm_ext_iff_of_nodup n1 n2).2 (fun n => by rw [hmem, List.mem_map])).length_eq
    rw [this, List.length_map]
  · rw [Bool.eq_iff_iff, rn_val hs hbd g3, rn_val hs hb ha]
    constructor
    · intro h a ha' b hb' c hc' d hd' hab hcd e
      obtain ⟨e1, e2⟩ := h _ ((hmem _).2 ⟨a, ha', rfl⟩) _ ((hmem _).2 ⟨b, hb', rfl⟩) _ ((hmem _).2 ⟨c, hc', rfl⟩) _ ((hmem _).2 ⟨d, hd', rfl⟩) (fun e => hab (hinj _ ha' _ hb' e)) (fun e => hcd (hinj _ hc' _ hd' e)) (by rw [emod_cancel hs, emod_cancel hs]; exact e)
      exact ⟨hinj _ ha' _ hc' e1, hinj _ hb' _ hd' e2⟩
    · intro h a ha' b hb' c hc' d hd' hab hcd e
      obtain ⟨a, ha1, rfl⟩ := (hmem _).1 ha'
      obtain ⟨b, hb1, rfl⟩ := (hmem _).1 hb'
      obtain ⟨c, hc1, rfl⟩ := (hmem _).1 hc'
      obtain ⟨d, hd1, rfl⟩ := (hmem _).1 hd'
      rw [emod_cancel hs, emod_cancel hs] at e
      obtain ⟨e1, e2⟩ := h _ ha1 _ hb1 _ hc1 _ hd1 (fun e => hab (by rw [e])) (fun e => hcd (by rw [e])) e
      exact ⟨by rw [e1], by rw [e2]⟩
/-- what Around says of a rule that is right -/
theorem arR_ok {l : List Int} {size : Int} (h : OkL l) (h1 : 2 ≤ size) (h2 : size ≤ 40) (hb : ∀ n ∈ l, 0 ≤ n ∧ n < size) : arR l size = twR (twE (tw (wyN l size) (resG l.length 0))) (tw (wyN l size) (resG l.length 0)) := by
  have h3 := h.two
  have : arE l size = 0 := by
    rw [arE, if_pos (chkE_zero.2 h), if_pos]
    refine ⟨by simp [btw, h1, h2], ?_⟩
    rw [getD_of (by omega)]
    exact (hb _ (List.getElem_mem _)).2
  rw [arR, if_pos this]
end Go.Proofs.Ytokfmcjepkepjaa
set_option linter.unusedVariables false
set_option linter.unusedSimpArgs false
namespace Go.Proofs.Ytokfmcjepkepjaa
open Go Fw

theorem ctx_lz {C : PCtx} (hC : CtxOk Try.prog C) {f : FuncId} {zs : List AV} {r : List Int → AV} (h : ∀ {x l}, asI x = some l → PCall Try.prog f (x :: zs) (r l)) : ∃ C' : PCtx, CtxOk Try.prog C' ∧ (∀ x l, asI x = some l → C' f (x :: zs) = some (r l)) ∧ ∀ g, ¬ g = f → C' g = C g := by
  refine ⟨C.fam (ι := {q : AV × List Int // asI q.1 = some q.2}) f (fun q => q.1.1 :: zs) (fun q => r q.1.2), hC.fam fun q => h q.2, fun x l hx => ?_, fun g hg => funext fun a => fam_ne hg⟩
  refine fam_eq (g := fun q : {q : AV × List Int // asI q.1 = some q.2} => q.1.1 :: zs) (r := fun q => r q.1.2) (fun i j e => ?_) ⟨(x, l), hx⟩
  have h1 := i.2
  injection e with e
  rw [e, j.2] at h1
  injection h1 with h1
  show r i.1.2 = r j.1.2
  rw [h1]
theorem At.cut2 {P : Program} {C : PCtx} {b : Bool} {c1 c2 : ACode} {K : AS → Prop} {Q : AEx → AS → Prop} {s1 s2 : AS} (I : AS → Prop)
    (h1 : ∀ N : AS → Prop, (∀ t, I t → At (N t)) → At (condP b (awp P C c1 (thenQ N Q) s1) (awp P C c2 (thenQ N Q) s2))) (h2 : ∀ t, I t → At (K t)) :
    At (condP b (awp P C c1 (thenQ K Q) s1) (awp P C c2 (thenQ K Q) s2)) := h1 K h2
theorem ix22_0 {k : IntKind} {a b c d : AV} : aindex 2 true 2 (.agg [a, b, c, d]) (.int k 0) = some (.agg [a, b]) := rfl
theorem ix22_1 {k : IntKind} {a b c d : AV} : aindex 2 true 2 (.agg [a, b, c, d]) (.int k 1) = some (.agg [c, d]) := rfl
set_option maxHeartbeats 4000000 in
set_option maxRecDepth 100000 in
theorem p12 {x0 : AV} {es : List Int} (hx : IsU8 x0 es) {a : Int} (ha0 : 0 ≤ a) (ha1 : a ≤ 255) {b : Int} (hb0 : 0 ≤ b) (hb1 : b ≤ 255) : PCall Try.prog 12 [x0, .int .u8 a, .int .u8 b] (.bool true) := by
  obtain ⟨hok, hlen6, h00, h45⟩ := madL_ok (es := es) (m := 5) (by omega) (by omega)
  have h40 := p40 hx (m := 5) (by omega) (by omega)
  generalize madL es 5 = l at *
  have h2 := hok.two
  have hrl := hok.rl
  have hXa : asI (outV 1 (ints l)) = some l := asI_outV (by omega)
  generalize hX : outV 1 (ints l) = X at *
  have hlast : l.length - 1 < l.length := by omega
  have hix := aidx_nat hXa hlast (k := .i64)
  have hl1 := lastN_get (l := l) (by omega)
  rw [hl1] at hix
  have hwl : IntKind.i64.wrap ((l.length : Int) - 1) = ((l.length - 1 : Nat) : Int) := by rw [wrap64 (by omega) (by omega)]; omega
  have hlm : lastN l ∈ l := by rw [← hl1]; exact List.getElem_mem _
  have hlb := hok.bd _ hlm
  have hl45 := (h45 _ hlm).1
  have wa : IntKind.i64.wrap a = a := wrap64 (by omega) (by omega)
  have wb : IntKind.i64.wrap b = b := wrap64 (by omega) (by omega)
  have hmod : a.tmod 12 = a % 12 := Int.tmod_eq_emod_of_nonneg ha0
  obtain ⟨size, hsz⟩ : ∃ n : Nat, lastN l + 1 + a % 12 = (n : Int) := ⟨(lastN l + 1 + a % 12).toNat, by omega⟩
  have ws1 : IntKind.i64.wrap (lastN l + 1) = lastN l + 1 := wrap64 (by omega) (by omega)
  have ws2 : IntKind.i64.wrap (lastN l + 1 + a % 12) = (size : Int) := by rw [wrap64 (by omega) (by omega)]; exact hsz
  have hs1 : 1 ≤ size := by omega
  have hs2 : 2 ≤ size := by
    have e0 : l[0]'(by omega) = 0 := by rw [← getD_of (by omega), h00]
    have := List.pairwise_iff_getElem.1 hok.asc 0 (l.length - 1) (by omega) (by omega) (by omega)
    omega
  have ns1 : ¬ size < 2 := by omega
  have ns2 : ¬ (size : Int) < 2 := by omega
  have hbd : ∀ n ∈ l, 0 ≤ n ∧ n < (size : Int) := fun n hn => by have := (h45 n hn).2; have := hok.bd n hn; omega
  have b0 : inF 41 (fun _ => 0) = [AV.int .i64 0, AV.int .i64 0, AV.int .i64 0, AV.int .i64 0, AV.int .i64 0, AV.int .i64 0, AV.int .i64 0, AV.int .i64 0, AV.int .i64 0, AV.int .i64 0, AV.int .i64 0, AV.int .i64 0, AV.int .i64 0, AV.int .i64 0, AV.int .i64 0, AV.int .i64 0, AV.int .i64 0, AV.int .i64 0, AV.int .i64 0, AV.int .i64 0, AV.int .i64 0, AV.int .i64 0, AV.int .i64 0, AV.int .i64 0, AV.int .i64 0, AV.int .i64 0, AV.int .i64 0, AV.int .i64 0, AV.int .i64 0, AV.int .i64 0, AV.int .i64 0, AV.int .i64 0, AV.int .i64 0, AV.int .i64 0, AV.int .i64 0, AV.int .i64 0, AV.int .i64 0, AV.int .i64 0, AV.int .i64 0, AV.int .i64 0, AV.int .i64 0] := rfl
  have b1 : blF 40 (fun _ => false) = [AV.bool false, AV.bool false, AV.bool false, AV.bool false, AV.bool false, AV.bool false, AV.bool false, AV.bool false, AV.bool false, AV.bool false, AV.bool false, AV.bool false, AV.bool false, AV.bool false, AV.bool false, AV.bool false, AV.bool false, AV.bool false, AV.bool false, AV.bool false, AV.bool false, AV.bool false, AV.bool false, AV.bool false, AV.bool false, AV.bool false, AV.bool false, AV.bool false, AV.bool false, AV.bool false, AV.bool false, AV.bool false, AV.bool false, AV.bool false, AV.bool false, AV.bool false, AV.bool false, AV.bool false, AV.bool false, AV.bool false] := rfl
  have h38 := p38 hXa (size : Int)
  have hclr := p41 hXa hrl
  have hM := rt_ok (l := l) (turn := b) (size := size) hs1 hbd hok.asc
  have hMl := hM.len
  have hMbd := hM.bd
  have hMa := hM.asc
  have hMe := hM.eq
  obtain ⟨rt, hrt⟩ : ∃ rt : Nat → List Int, rt = rtN l b (size : Int) := ⟨_, rfl⟩
  have hrtL : ∀ n, (rt n).length ≤ n := fun n => by rw [hrt]; exact (rtN_ok l b (size : Int) n).1
  by_cases h40s : 40 < size
  · have h40i : (40 : Int) < (size : Int) := by omega
    obtain ⟨C, hC, k40, k16⟩ : ∃ C, CtxOk Try.prog C ∧ C 40 [x0, .int .i64 5] = some X ∧ C 16 [] = some (.bool true) := ⟨_, (CtxOk.nil.pt h40).pt p16, by simp, by simp⟩
    refine PCall.of hC ok12 (by simp) rfl fun hs' hb => ?_
    simp [A12, R12, k40, k16, alen_of hXa, hwl, hix, wa, hmod, ws1, ws2, ns1, ns2, h40s, h40i]
  have h40i : ¬ (40 : Int) < (size : Int) := by omega
  rw [arR_ok hok (by omega) (by omega) hbd] at h38
  have hokM : OkL (rt size) := by
    rw [hrt]
    exact ⟨by omega, by omega, fun n hn => by have := hMbd n hn; omega, hMa⟩
  have hVn : (tw (wyN l (size : Int)) (resG l.length 0)).isNone = rnB l (size : Int) := rfl
  have hrc := rn_cnt (l := l) (size := (size : Int)) (by omega) (by omega) hbd
  have hts := fun p q (h : tw (wyN l (size : Int)) (resG l.length 0) = some (p, q)) => tw_some h
  have hrs := rn_size (l := l) (size := (size : Int)) (by omega) hbd hok.asc (by omega)
  have hrcl := rn_clr (l := l) (size := (size : Int))
  generalize hV : tw (wyN l (size : Int)) (resG l.length 0) = V at *
  obtain ⟨G, hG⟩ : ∃ G, rnB l (size : Int) = G := ⟨_, rfl⟩
  have hcw1 : ∀ j, cwN l (size : Int) j ≤ 4096 := fun j => Nat.le_trans List.countP_le_length (resG_len (by omega))
  obtain ⟨C, hC, k38f, n38⟩ := ctx_lz (f := 38) (zs := [.int .i64 (size : Int)]) (r := fun m => arR m (size : Int)) (((CtxOk.nil.pt h40).pt p16).pt hclr) (fun hx => p38 hx (size : Int))
  have k40 : C 40 [x0, .int .i64 5] = some X := by simp [n38]
  have k16 : C 16 [] = some (.bool true) := by simp [n38]
  have k41 : C 41 [X] = some (.bool (clrB l)) := by simp [n38]
  have k38 := k38f X l hXa
  have k38m : ∀ y, asI y = some (rt size) → C 38 [y, .int .i64 (size : Int)] = some (arR (rt size) (size : Int)) := fun y hy => k38f y (rt size) hy
  rw [arR_ok hok (by omega) (by omega) hbd, hV] at k38
  rw [arR_ok hokM (by omega) (by omega) (by rw [hrt]; exact hMbd)] at k38m
  have hVM : (tw (wyN (rt size) (size : Int)) (resG (rt size).length 0)).isNone = G := by
    rw [← hG, ← hMe, hrt]; rfl
  generalize tw (wyN (rt size) (size : Int)) (resG (rt size).length 0) = VM at *
  rw [hG] at hVn hrc hrs hrcl
  have hrt1 : ∀ p, rt (p + 1) = if onB l b (size : Int) p = true then rt p ++ [(p : Int)] else rt p := fun p => by rw [hrt]; rfl
  have hrt0 : rt 0 = [] := by rw [hrt]; rfl
  have hbm := hok.bd
  have ap2 : ∀ a b : AV, apart true 2 0 [a, b] = some (.agg [a, b]) := fun _ _ => rfl
  clear hrt hM hokM hMe hMa hMbd h38 hclr h40 hX
  have hway : ∀ {i k : Nat} (hi : i < l.length) (hk : k < l.length), ∃ d : Nat, d < 41 ∧ wyN l (size : Int) (i, k) = (d : Int) ∧ IntKind.i64.wrap (l[k] - l[i]) = l[k] - l[i] ∧ IntKind.i64.wrap (l[k] - l[i] + (size : Int)) = l[k] - l[i] + (size : Int) ∧ (l[k] - l[i] + (size : Int)).tmod (size : Int) = (d : Int) := by
    intro i k hi hk
    have hwb := wyN_bd (l := l) (size := (size : Int)) (by omega) hbd (p := (i, k)) hi hk
    have bi := hbd _ (List.getElem_mem hi)
    have bk := hbd _ (List.getElem_mem hk)
    refine ⟨(wyN l (size : Int) (i, k)).toNat, by omega, by omega, wrap64 (by omega) (by omega), wrap64 (by omega) (by omega), ?_⟩
    have : wyN l (size : Int) (i, k) = (l[k] - l[i] + (size : Int)).tmod (size : Int) := by rw [wyN, dsN, getD_of hi, getD_of hk]
    rw [← this]; omega
  have wz : ¬ (size : Int) = 0 := by omega
  have wz' : ¬ size = 0 := by omega
  have alX := alen_of hXa
  refine PCall.of hC ok12 (by simp) rfl fun hs' hb => ?_
  generalize hr : hs'.nh = r
  simp only [A12, R12, ← b0, ← b1]
  simp [k40, k16, alX, hwl, hix, wa, hmod, ws1, ws2, ns1, ns2, h40s, h40i, hr]

  refine At.loop (fun (i : Nat) t => i ≤ l.length ∧ t.env 2 = .int .u8 b ∧ t.env 7 = X ∧ t.env 8 = .int .i64 (l.length : Int) ∧ t.env 9 = .int .i64 (size : Int) ∧ t.env 10 = .ref r 0 ∧ t.env 55 = X ∧ t.env 56 = .int .i64 (l.length : Int) ∧ t.env 57 = .int .i64 (i : Int) ∧ t.hs.nh = r + 1 ∧ ∃ f : Nat → Int, t.hs.heap r = some (inF 41 f) ∧ ∀ j : Nat, 0 ≤ f j ∧ f j + (cwP l (size : Int) (resG l.length i) j : Int) = (cwN l (size : Int) j : Int)) (fun i => l.length - i) 0 ?_ ?_
  · exact ⟨by omega, by simp [alX, b0], by simp [alX, b0], by simp [alX, b0], by simp [alX, b0], by simp [alX, b0], by simp [alX, b0], by simp [alX, b0], by simp [alX, b0], by simp, ⟨fun _ => 0, by simp, fun j => ⟨by simp, by simp [cwN]⟩⟩⟩
  rintro N i t hN ⟨hib, e2, e7, e8, e9, e10, e55, e56, e57, wn, ⟨f, w0, hf⟩⟩
  simp [e56, e57]
  refine At.dec (fun hlt => ?_) (fun hlt => ?_)
  · rw [resG_c hlt] at hf
    simp [e7, e57, alX]
    refine At.loop (fun (k : Nat) t => k ≤ l.length ∧ t.env 2 = .int .u8 b ∧ t.env 7 = X ∧ t.env 8 = .int .i64 (l.length : Int) ∧ t.env 9 = .int .i64 (size : Int) ∧ t.env 10 = .ref r 0 ∧ t.env 55 = X ∧ t.env 56 = .int .i64 (l.length : Int) ∧ t.env 57 = .int .i64 (i : Int) ∧ t.env 11 = .int .i64 (i : Int) ∧ t.env 60 = X ∧ t.env 61 = .int .i64 (l.length : Int) ∧ t.env 62 = .int .i64 (k : Int) ∧ t.hs.nh = r + 1 ∧ ∃ f : Nat → Int, t.hs.heap r = some (inF 41 f) ∧ ∀ j : Nat, 0 ≤ f j ∧ f j + (cwP l (size : Int) (rowG l.length i k ++ resG l.length (i + 1)) j : Int) = (cwN l (size : Int) j : Int)) (fun k => l.length - k) 0 ?_ ?_
    · exact ⟨by omega, by simp [e2, e7, e8, e9, e10, e55, e56, e57, alX], by simp [e2, e7, e8, e9, e10, e55, e56, e57, alX], by simp [e2, e7, e8, e9, e10, e55, e56, e57, alX], by simp [e2, e7, e8, e9, e10, e55, e56, e57, alX], by simp [e2, e7, e8, e9, e10, e55, e56, e57, alX], by simp [e2, e7, e8, e9, e10, e55, e56, e57, alX], by simp [e2, e7, e8, e9, e10, e55, e56, e57, alX], by simp [e2, e7, e8, e9, e10, e55, e56, e57, alX], by simp [e2, e7, e8, e9, e10, e55, e56, e57, alX], by simp [e2, e7, e8, e9, e10, e55, e56, e57, alX], by simp [e2, e7, e8, e9, e10, e55, e56, e57, alX], by simp [e2, e7, e8, e9, e10, e55, e56, e57, alX], by simpa using wn, ⟨f, by simpa using w0, hf⟩⟩
    rintro N2 k t hN2 ⟨hkb, e2, e7, e8, e9, e10, e55, e56, e57, e11, e60, e61, e62, wn, ⟨f, w0, hf⟩⟩
    simp [e61, e62]
    refine At.dec (fun hlt2 => ?_) (fun hlt2 => ?_)
    · rw [rowG_c hlt2] at hf
      by_cases hik : i = k
      · rw [if_pos hik] at hf
        simp [e11, e62, hik]
        refine hN2 (k + 1) _ (by omega) ⟨by omega, by simp [e2, e7, e8, e9, e10, e55, e56, e57, e11, e60, e61, e62, hik], by simp [e2, e7, e8, e9, e10, e55, e56, e57, e11, e60, e61, e62, hik], by simp [e2, e7, e8, e9, e10, e55, e56, e57, e11, e60, e61, e62, hik], by simp [e2, e7, e8, e9, e10, e55, e56, e57, e11, e60, e61, e62, hik], by simp [e2, e7, e8, e9, e10, e55, e56, e57, e11, e60, e61, e62, hik], by simp [e2, e7, e8, e9, e10, e55, e56, e57, e11, e60, e61, e62, hik], by simp [e2, e7, e8, e9, e10, e55, e56, e57, e11, e60, e61, e62, hik], by simp [e2, e7, e8, e9, e10, e55, e56, e57, e11, e60, e61, e62, hik], by simp [e2, e7, e8, e9, e10, e55, e56, e57, e11, e60, e61, e62, hik], by simp [e2, e7, e8, e9, e10, e55, e56, e57, e11, e60, e61, e62, hik], by simp [e2, e7, e8, e9, e10, e55, e56, e57, e11, e60, e61, e62, hik], by simp [wrap_nat1 (show k < _ by omega)], by simpa using wn, ⟨f, by simpa using w0, hf⟩⟩
      · rw [if_neg hik, List.cons_append] at hf
        have hik2 : ¬ (i : Int) = (k : Int) := by omega
        obtain ⟨d, hd41, hd, w1, w2, w3⟩ := hway hlt hlt2
        have hfd := hf d
        have hcd := hcw1 d
        have hw5 : IntKind.i64.wrap (f d + 1) = f d + 1 := wrap64 (by omega) (by omega)
        have hf2 : ∀ j : Nat, 0 ≤ (if j = d then f d + 1 else f j) ∧ (if j = d then f d + 1 else f j) + (cwP l (size : Int) (rowG l.length i (k + 1) ++ resG l.length (i + 1)) j : Int) = (cwN l (size : Int) j : Int) := by
          intro j
          have h1 := (hf j).1
          have h2 := (hf j).2
          rw [cwP_cons, hd] at h2
          by_cases hj : j = d
          · subst hj
            rw [if_pos rfl] at h2 ⊢
            omega
          · rw [if_neg (show ¬ (d : Int) = (j : Int) by omega)] at h2
            rw [if_neg hj]
            omega
        simp [e7, e9, e10, e11, e62, hik, hik2, aidx_nat hXa hlt, aidx_nat hXa hlt2, w1, w2, w3, wz, wz', in_ix hd41, in_ld w0 hd41, hw5, in_sc w0 hd41]
        refine hN2 (k + 1) _ (by omega) ⟨by omega, by simp [e2, e7, e8, e9, e10, e55, e56, e57, e11, e60, e61, e62], by simp [e2, e7, e8, e9, e10, e55, e56, e57, e11, e60, e61, e62], by simp [e2, e7, e8, e9, e10, e55, e56, e57, e11, e60, e61, e62], by simp [e2, e7, e8, e9, e10, e55, e56, e57, e11, e60, e61, e62], by simp [e2, e7, e8, e9, e10, e55, e56, e57, e11, e60, e61, e62], by simp [e2, e7, e8, e9, e10, e55, e56, e57, e11, e60, e61, e62], by simp [e2, e7, e8, e9, e10, e55, e56, e57, e11, e60, e61, e62], by simp [e2, e7, e8, e9, e10, e55, e56, e57, e11, e60, e61, e62], by simp [e2, e7, e8, e9, e10, e55, e56, e57, e11, e60, e61, e62], by simp [e2, e7, e8, e9, e10, e55, e56, e57, e11, e60, e61, e62], by simp [e2, e7, e8, e9, e10, e55, e56, e57, e11, e60, e61, e62], by simp [wrap_nat1 (show k < _ by omega)], by simpa using wn, ⟨fun j => if j = d then f d + 1 else f j, by simp, hf2⟩⟩
    · have : k = l.length := by omega
      subst this
      rw [rowG_n (Nat.le_refl _), List.nil_append] at hf
      simp [e57]
      refine hN (i + 1) _ (by omega) ⟨by omega, by simp [e2, e7, e8, e9, e10, e55, e56, e57], by simp [e2, e7, e8, e9, e10, e55, e56, e57], by simp [e2, e7, e8, e9, e10, e55, e56, e57], by simp [e2, e7, e8, e9, e10, e55, e56, e57], by simp [e2, e7, e8, e9, e10, e55, e56, e57], by simp [e2, e7, e8, e9, e10, e55, e56, e57], by simp [e2, e7, e8, e9, e10, e55, e56, e57], by simp [wrap_nat1 (show i < _ by omega)], by simpa using wn, ⟨f, by simpa using w0, hf⟩⟩
  · have : i = l.length := by omega
    subst this
    rw [resG_n (Nat.le_refl _)] at hf
    have hff : inF 41 f = inF 41 fun j => (cwN l (size : Int) j : Int) := by
      congr 1
      funext j
      have := (hf j).2
      simpa [cwP] using this
    rw [hff] at w0
    clear hff hf
    simp [e10, la, w0, inF_ap]
    refine At.loop (fun (j : Nat) t => j ≤ 41 ∧ t.env 2 = .int .u8 b ∧ t.env 7 = X ∧ t.env 8 = .int .i64 (l.length : Int) ∧ t.env 9 = .int .i64 (size : Int) ∧ t.env 10 = .ref r 0 ∧ t.env 87 = .agg (inF 41 fun j => (cwN l (size : Int) j : Int)) ∧ t.env 88 = .int .i64 (j : Int) ∧ t.hs.nh = r + 1 ∧ t.hs.heap r = some (inF 41 fun j => (cwN l (size : Int) j : Int)) ∧ ∃ g : Bool, t.env 13 = .bool g ∧ (g = true ↔ ∀ i, i < j → cwN l (size : Int) i ≤ 1)) (fun j => 41 - j) 0 ?_ ?_
    · exact ⟨by omega, by simp [e2, e7, e8, e9, e10, e55, e56, e57], by simp [e2, e7, e8, e9, e10, e55, e56, e57], by simp [e2, e7, e8, e9, e10, e55, e56, e57], by simp [e2, e7, e8, e9, e10, e55, e56, e57], by simp [e2, e7, e8, e9, e10, e55, e56, e57], by simp [e2, e7, e8, e9, e10, e55, e56, e57], by simp [e2, e7, e8, e9, e10, e55, e56, e57], by simpa using wn, by simpa using w0, ⟨true, by simp, by simp⟩⟩
    rintro N j t hN ⟨hjb, e2, e7, e8, e9, e10, e87, e88, wn, w0, ⟨g, e13, hg⟩⟩
    simp [e88]
    refine At.dec (fun hlt => ?_) (fun hlt => ?_)
    · have hj : j < 41 := by omega
      have hix41 : aindex 41 false 1 (.agg (inF 41 fun j => (cwN l (size : Int) j : Int))) (.int .i64 (j : Int)) = some (.int .i64 (cwN l (size : Int) j : Int)) := in_ag hj
      have hg2 : ∀ g2 : Bool, (g2 = true ↔ g = true ∧ cwN l (size : Int) j ≤ 1) → (g2 = true ↔ ∀ i, i < j + 1 → cwN l (size : Int) i ≤ 1) := by
        intro g2 h
        rw [h, hg]
        constructor
        · rintro ⟨h1, h2⟩ i hi
          by_cases hij : i = j
          · subst hij; exact h2
          · exact h1 i (by omega)
        · intro h
          exact ⟨fun i hi => h i (by omega), h j (by omega)⟩
      cases g with
      | false =>
        simp [e13, e87, e88, hix41]
        refine hN (j + 1) _ (by omega) ⟨by omega, by simp [e2, e7, e8, e9, e10, e87, e88], by simp [e2, e7, e8, e9, e10, e87, e88], by simp [e2, e7, e8, e9, e10, e87, e88], by simp [e2, e7, e8, e9, e10, e87, e88], by simp [e2, e7, e8, e9, e10, e87, e88], by simp [e2, e7, e8, e9, e10, e87, e88], by simp [wrap_nat1 (show j < _ by omega)], by simpa using wn, by simpa using w0, ⟨false, by simp, hg2 false (by simp)⟩⟩
      | true =>
        by_cases hc1 : cwN l (size : Int) j ≤ 1
        · have hc2 : (cwN l (size : Int) j : Int) ≤ 1 := by omega
          simp [e13, e87, e88, hix41, hc1, hc2]
          refine hN (j + 1) _ (by omega) ⟨by omega, by simp [e2, e7, e8, e9, e10, e87, e88], by simp [e2, e7, e8, e9, e10, e87, e88], by simp [e2, e7, e8, e9, e10, e87, e88], by simp [e2, e7, e8, e9, e10, e87, e88], by simp [e2, e7, e8, e9, e10, e87, e88], by simp [e2, e7, e8, e9, e10, e87, e88], by simp [wrap_nat1 (show j < _ by omega)], by simpa using wn, by simpa using w0, ⟨true, by simp, hg2 true (by simp [hc1])⟩⟩
        · have hc2 : ¬ (cwN l (size : Int) j : Int) ≤ 1 := by omega
          simp [e13, e87, e88, hix41, hc1, hc2]
          refine hN (j + 1) _ (by omega) ⟨by omega, by simp [e2, e7, e8, e9, e10, e87, e88], by simp [e2, e7, e8, e9, e10, e87, e88], by simp [e2, e7, e8, e9, e10, e87, e88], by simp [e2, e7, e8, e9, e10, e87, e88], by simp [e2, e7, e8, e9, e10, e87, e88], by simp [e2, e7, e8, e9, e10, e87, e88], by simp [wrap_nat1 (show j < _ by omega)], by simpa using wn, by simpa using w0, ⟨false, by simp, hg2 false (by simp [hc1])⟩⟩
    · have : j = 41 := by omega
      subst this
      have hgG : g = G := by rw [Bool.eq_iff_iff, hg, hrc]
      subst hgG
      simp [e7, e9, e13, k38, twR, wn]
      refine At.one none (by simp [one', zz]) ?_
      simp
      refine At.tw2 none (by simp [two', zz]) ?_
      simp [e13]
      refine At.cut2 (fun t => t.env 2 = .int .u8 b ∧ t.env 7 = X ∧ t.env 9 = .int .i64 (size : Int) ∧ t.env 13 = .bool g) (fun N hN => ?_) ?_
      · cases g with
        | true =>
          have hVnone : V = none := by simpa using hVn
          subst hVnone
          have hw0 : ∀ n : Int, 0 ≤ n → n ≤ 100 → IntKind.i64.wrap n = n := fun n h1 h2 => wrap64 (by omega) (by omega)
          have hcl := hrcl rfl
          have hrs2 := hrs rfl
          have hll : l.length = 2 ∨ l.length = 3 ∨ l.length = 4 ∨ l.length = 5 ∨ l.length = 6 := by omega
          rcases hll with h | h | h | h | h
          · rw [h] at hrs2
            have q1 : ¬ (size : Int) < 3 := by omega
            have q2 : ¬ size < 3 := by omega
            simp [e2, e7, e8, e9, e10, e13, twE, k41, hcl, la, one', two', zz, ap2, abin_pair', h, hw0, q1, q2]
            exact hN _ ⟨by simp [e2], by simp [e7], by simp [e9], by simp [e13]⟩
          · rw [h] at hrs2
            have q1 : ¬ (size : Int) < 7 := by omega
            have q2 : ¬ size < 7 := by omega
            simp [e2, e7, e8, e9, e10, e13, twE, k41, hcl, la, one', two', zz, ap2, abin_pair', h, hw0, q1, q2]
            exact hN _ ⟨by simp [e2], by simp [e7], by simp [e9], by simp [e13]⟩
          · rw [h] at hrs2
            have q1 : ¬ (size : Int) < 13 := by omega
            have q2 : ¬ size < 13 := by omega
            simp [e2, e7, e8, e9, e10, e13, twE, k41, hcl, la, one', two', zz, ap2, abin_pair', h, hw0, q1, q2]
            exact hN _ ⟨by simp [e2], by simp [e7], by simp [e9], by simp [e13]⟩
          · rw [h] at hrs2
            have q1 : ¬ (size : Int) < 21 := by omega
            have q2 : ¬ size < 21 := by omega
            simp [e2, e7, e8, e9, e10, e13, twE, k41, hcl, la, one', two', zz, ap2, abin_pair', h, hw0, q1, q2]
            exact hN _ ⟨by simp [e2], by simp [e7], by simp [e9], by simp [e13]⟩
          · rw [h] at hrs2
            have q1 : ¬ (size : Int) < 31 := by omega
            have q2 : ¬ size < 31 := by omega
            simp [e2, e7, e8, e9, e10, e13, twE, k41, hcl, la, one', two', zz, ap2, abin_pair', h, hw0, q1, q2]
            exact hN _ ⟨by simp [e2], by simp [e7], by simp [e9], by simp [e13]⟩
        | false =>
          cases V with
          | none => cases hVn
          | some pq =>
          obtain ⟨⟨p1, p2⟩, ⟨q1, q2⟩⟩ := pq
          have S := hts _ _ rfl
          have P1 : p1 < l.length := S.p1
          have P2 : p2 < l.length := S.p2
          have Pn : ¬ p1 = p2 := S.pn
          have Q1 : q1 < l.length := S.q1
          have Q2 : q2 < l.length := S.q2
          have Qn : ¬ q1 = q2 := S.qn
          have Hne : ¬ (p1 = q1 ∧ p2 = q2) := fun e => S.ne (by rw [e.1, e.2])
          have B1 := S.b1
          have B2 := S.b2
          obtain ⟨d, hd41, hd, w1, w2, w3⟩ := hway P1 P2
          obtain ⟨d', hd41', hd', v1, v2, v3⟩ := hway Q1 Q2
          have hdd : d' = d := by have := S.eq; omega
          subst hdd
          have hD1 : (decide ((p1 : Int) = (q1 : Int)) && decide ((p2 : Int) = (q2 : Int))) = false := by
            by_cases h1 : p1 = q1
            · have : ¬ p2 = q2 := fun h => Hne ⟨h1, h⟩
              simp; omega
            · simp; omega
          have hD2 : (decide (p1 = q1) && decide (p2 = q2)) = false := by
            by_cases h1 : p1 = q1
            · have : ¬ p2 = q2 := fun h => Hne ⟨h1, h⟩
              simp; omega
            · simp; omega
          have hD3 : p1 = q1 → ¬ p2 = q2 := fun h1 h2 => Hne ⟨h1, h2⟩
          have y1 := aidx_nat hXa P1 (k := .i64)
          have y2 := aidx_nat hXa P2 (k := .i64)
          have y3 := aidx_nat hXa Q1 (k := .i64)
          have y4 := aidx_nat hXa Q2 (k := .i64)
          clear S hts hVn hV
          simp [e2, e7, e8, e9, e10, e13, twE, one', two', prC, la, ap2, abin_pair, hD1, hD2, hD3]
          refine At.loop (fun (u : Nat) t => u ≤ 2 ∧ t.env 2 = .int .u8 b ∧ t.env 7 = X ∧ t.env 8 = .int .i64 (l.length : Int) ∧ t.env 9 = .int .i64 (size : Int) ∧ t.env 10 = .ref r 0 ∧ t.env 13 = .bool false ∧ t.env 16 = .ref (r + 1) 0 ∧ t.env 17 = .ref (r + 1 + 1) 0 ∧ t.env 140 = .agg [.int .i64 (p1 : Int), .int .i64 (p2 : Int), .int .i64 (q1 : Int), .int .i64 (q2 : Int)] ∧ t.env 141 = .int .i64 (u : Int) ∧ r + 3 ≤ t.hs.nh ∧ t.hs.heap r = some (inF 41 fun j => (cwN l (size : Int) j : Int)) ∧ t.hs.heap (r + 1) = some [.int .i64 (p1 : Int), .int .i64 (p2 : Int)] ∧ t.hs.heap (r + 1 + 1) = some [.int .i64 (q1 : Int), .int .i64 (q2 : Int)]) (fun u => 2 - u) 0 ?_ ?_
          · exact ⟨by omega, by simp [e2, e7, e8, e9, e10, e13], by simp [e2, e7, e8, e9, e10, e13], by simp [e2, e7, e8, e9, e10, e13], by simp [e2, e7, e8, e9, e10, e13], by simp [e2, e7, e8, e9, e10, e13], by simp [e2, e7, e8, e9, e10, e13], by simp [e2, e7, e8, e9, e10, e13], by simp [e2, e7, e8, e9, e10, e13], by simp [AV.cells, setL], by simp [e2, e7, e8, e9, e10, e13], by simp, by simp [w0, show ¬ r = r + 1 + 1 by omega], by simp, by simp⟩
          rintro N3 u t hN3 ⟨hub, e2, e7, e8, e9, e10, e13, e16, e17, e140, e141, wn, w0, u1, u2⟩
          have nr0 : ¬ r = t.hs.nh := by omega
          have nr1 : ¬ r + 1 = t.hs.nh := by omega
          have nr2 : ¬ r + 1 + 1 = t.hs.nh := by omega
          simp [e141]
          refine At.dec (fun hlt3 => ?_) (fun hlt3 => ?_)
          · have hu : u = 0 ∨ u = 1 := by omega
            rcases hu with rfl | rfl
            · have z1 : ¬ (p1 : Int) < 0 := by omega
              have z2 : ¬ (p2 : Int) < 0 := by omega
              have z3 : ¬ (l.length : Int) ≤ (p1 : Int) := by omega
              have z4 : ¬ (l.length : Int) ≤ (p2 : Int) := by omega
              have z5 : ¬ l.length ≤ p1 := by omega
              have z6 : ¬ l.length ≤ p2 := by omega
              have z7 : ¬ (p1 : Int) = (p2 : Int) := by omega
              simp [e8, e140, e141, ix22_0, ix22_1, z1, z2, z3, z4, z5, z6, z7, Pn]
              refine hN3 1 _ (by omega) ⟨by omega, by simp [e2, e7, e8, e9, e10, e13, e16, e17, e140, e141], by simp [e2, e7, e8, e9, e10, e13, e16, e17, e140, e141], by simp [e2, e7, e8, e9, e10, e13, e16, e17, e140, e141], by simp [e2, e7, e8, e9, e10, e13, e16, e17, e140, e141], by simp [e2, e7, e8, e9, e10, e13, e16, e17, e140, e141], by simp [e2, e7, e8, e9, e10, e13, e16, e17, e140, e141], by simp [e2, e7, e8, e9, e10, e13, e16, e17, e140, e141], by simp [e2, e7, e8, e9, e10, e13, e16, e17, e140, e141], by simp [e2, e7, e8, e9, e10, e13, e16, e17, e140, e141], by simp [show IntKind.i64.wrap 1 = 1 by decide, show IntKind.i64.wrap 2 = 2 by decide], by simp; omega, by simp [w0, nr0], by simp [u1, nr1], by simp [u2, nr2]⟩
            · have z1 : ¬ (q1 : Int) < 0 := by omega
              have z2 : ¬ (q2 : Int) < 0 := by omega
              have z3 : ¬ (l.length : Int) ≤ (q1 : Int) := by omega
              have z4 : ¬ (l.length : Int) ≤ (q2 : Int) := by omega
              have z5 : ¬ l.length ≤ q1 := by omega
              have z6 : ¬ l.length ≤ q2 := by omega
              have z7 : ¬ (q1 : Int) = (q2 : Int) := by omega
              simp [e8, e140, e141, ix22_0, ix22_1, z1, z2, z3, z4, z5, z6, z7, Qn]
              refine hN3 2 _ (by omega) ⟨by omega, by simp [e2, e7, e8, e9, e10, e13, e16, e17, e140, e141], by simp [e2, e7, e8, e9, e10, e13, e16, e17, e140, e141], by simp [e2, e7, e8, e9, e10, e13, e16, e17, e140, e141], by simp [e2, e7, e8, e9, e10, e13, e16, e17, e140, e141], by simp [e2, e7, e8, e9, e10, e13, e16, e17, e140, e141], by simp [e2, e7, e8, e9, e10, e13, e16, e17, e140, e141], by simp [e2, e7, e8, e9, e10, e13, e16, e17, e140, e141], by simp [e2, e7, e8, e9, e10, e13, e16, e17, e140, e141], by simp [e2, e7, e8, e9, e10, e13, e16, e17, e140, e141], by simp [show IntKind.i64.wrap 1 = 1 by decide, show IntKind.i64.wrap 2 = 2 by decide], by simp; omega, by simp [w0, nr0], by simp [u1, nr1], by simp [u2, nr2]⟩
          · have L1a : aload t.hs.heap false 1 (.ref (r + 1) 0) = some (.int .i64 (p1 : Int)) := by simp [la, u1, apart]
            have L1b : aload t.hs.heap false 1 (.ref (r + 1) 1) = some (.int .i64 (p2 : Int)) := by simp [la, u1, apart]
            have L2a : aload t.hs.heap false 1 (.ref (r + 1 + 1) 0) = some (.int .i64 (q1 : Int)) := by simp [la, u2, apart]
            have L2b : aload t.hs.heap false 1 (.ref (r + 1 + 1) 1) = some (.int .i64 (q2 : Int)) := by simp [la, u2, apart]
            simp [e7, e8, e9, e16, e17, L1a, L1b, L2a, L2b, y1, y2, y3, y4, w1, w2, w3, v1, v2, v3, wz, wz']
            refine At.loop (fun (i : Nat) t => i ≤ p1 + 1 ∧ t.env 2 = .int .u8 b ∧ t.env 7 = X ∧ t.env 8 = .int .i64 (l.length : Int) ∧ t.env 9 = .int .i64 (size : Int) ∧ t.env 10 = .ref r 0 ∧ t.env 13 = .bool false ∧ t.env 16 = .ref (r + 1) 0 ∧ t.env 17 = .ref (r + 1 + 1) 0 ∧ t.env 21 = .int .i64 (d' : Int) ∧ t.env 22 = .int .i64 (i : Int) ∧ r + 3 ≤ t.hs.nh ∧ t.hs.heap r = some (inF 41 fun j => (cwN l (size : Int) j : Int)) ∧ t.hs.heap (r + 1) = some [.int .i64 (p1 : Int), .int .i64 (p2 : Int)] ∧ t.hs.heap (r + 1 + 1) = some [.int .i64 (q1 : Int), .int .i64 (q2 : Int)]) (fun i => p1 + 1 - i) 0 ?_ ?_
            · exact ⟨by omega, by simp [e2, e7, e8, e9, e10, e13, e16, e17, e140, e141], by simp [e2, e7, e8, e9, e10, e13, e16, e17, e140, e141], by simp [e2, e7, e8, e9, e10, e13, e16, e17, e140, e141], by simp [e2, e7, e8, e9, e10, e13, e16, e17, e140, e141], by simp [e2, e7, e8, e9, e10, e13, e16, e17, e140, e141], by simp [e2, e7, e8, e9, e10, e13, e16, e17, e140, e141], by simp [e2, e7, e8, e9, e10, e13, e16, e17, e140, e141], by simp [e2, e7, e8, e9, e10, e13, e16, e17, e140, e141], by simp [e2, e7, e8, e9, e10, e13, e16, e17, e140, e141], by simp [e2, e7, e8, e9, e10, e13, e16, e17, e140, e141], by simpa using wn, by simpa using w0, by simpa using u1, by simpa using u2⟩
            rintro N4 i t hN4 ⟨hib, e2, e7, e8, e9, e10, e13, e16, e17, e21, e22, wn, w0, u1, u2⟩
            have L1a : aload t.hs.heap false 1 (.ref (r + 1) 0) = some (.int .i64 (p1 : Int)) := by simp [la, u1, apart]
            have L1b : aload t.hs.heap false 1 (.ref (r + 1) 1) = some (.int .i64 (p2 : Int)) := by simp [la, u1, apart]
            have L1p : aload t.hs.heap true 2 (.ref (r + 1) 0) = some (.agg [.int .i64 (p1 : Int), .int .i64 (p2 : Int)]) := by simp [la, u1, apart]
            have L2a : aload t.hs.heap false 1 (.ref (r + 1 + 1) 0) = some (.int .i64 (q1 : Int)) := by simp [la, u2, apart]
            have L2b : aload t.hs.heap false 1 (.ref (r + 1 + 1) 1) = some (.int .i64 (q2 : Int)) := by simp [la, u2, apart]
            simp [e22, e16, L1a]
            refine At.dec (fun hlt4 => ?_) (fun hlt4 => ?_)
            · have hi : i < l.length := by omega
              simp
              refine At.loop (fun (k : Nat) t => k ≤ l.length ∧ t.env 2 = .int .u8 b ∧ t.env 7 = X ∧ t.env 8 = .int .i64 (l.length : Int) ∧ t.env 9 = .int .i64 (size : Int) ∧ t.env 10 = .ref r 0 ∧ t.env 13 = .bool false ∧ t.env 16 = .ref (r + 1) 0 ∧ t.env 17 = .ref (r + 1 + 1) 0 ∧ t.env 21 = .int .i64 (d' : Int) ∧ t.env 22 = .int .i64 (i : Int) ∧ t.env 23 = .int .i64 (k : Int) ∧ r + 3 ≤ t.hs.nh ∧ t.hs.heap r = some (inF 41 fun j => (cwN l (size : Int) j : Int)) ∧ t.hs.heap (r + 1) = some [.int .i64 (p1 : Int), .int .i64 (p2 : Int)] ∧ t.hs.heap (r + 1 + 1) = some [.int .i64 (q1 : Int), .int .i64 (q2 : Int)]) (fun k => l.length - k) 0 ?_ ?_
              · exact ⟨by omega, by simp [e2, e7, e8, e9, e10, e13, e16, e17, e21, e22], by simp [e2, e7, e8, e9, e10, e13, e16, e17, e21, e22], by simp [e2, e7, e8, e9, e10, e13, e16, e17, e21, e22], by simp [e2, e7, e8, e9, e10, e13, e16, e17, e21, e22], by simp [e2, e7, e8, e9, e10, e13, e16, e17, e21, e22], by simp [e2, e7, e8, e9, e10, e13, e16, e17, e21, e22], by simp [e2, e7, e8, e9, e10, e13, e16, e17, e21, e22], by simp [e2, e7, e8, e9, e10, e13, e16, e17, e21, e22], by simp [e2, e7, e8, e9, e10, e13, e16, e17, e21, e22], by simp [e2, e7, e8, e9, e10, e13, e16, e17, e21, e22], by simp [e2, e7, e8, e9, e10, e13, e16, e17, e21, e22], by simpa using wn, by simpa using w0, by simpa using u1, by simpa using u2⟩
              rintro N5 k t hN5 ⟨hkb, e2, e7, e8, e9, e10, e13, e16, e17, e21, e22, e23, wn, w0, u1, u2⟩
              have L1a : aload t.hs.heap false 1 (.ref (r + 1) 0) = some (.int .i64 (p1 : Int)) := by simp [la, u1, apart]
              have L1b : aload t.hs.heap false 1 (.ref (r + 1) 1) = some (.int .i64 (p2 : Int)) := by simp [la, u1, apart]
              have L1p : aload t.hs.heap true 2 (.ref (r + 1) 0) = some (.agg [.int .i64 (p1 : Int), .int .i64 (p2 : Int)]) := by simp [la, u1, apart]
              have L2a : aload t.hs.heap false 1 (.ref (r + 1 + 1) 0) = some (.int .i64 (q1 : Int)) := by simp [la, u2, apart]
              have L2b : aload t.hs.heap false 1 (.ref (r + 1 + 1) 1) = some (.int .i64 (q2 : Int)) := by simp [la, u2, apart]
              simp [e23, e8]
              refine At.dec (fun hlt5 => ?_) (fun hlt5 => ?_)
              · have hk : k < l.length := by omega
                obtain ⟨c, hc41, hc, c1, c2, c3⟩ := hway hi hk
                have i1 := aidx_nat hXa hi (k := .i64)
                have i2 := aidx_nat hXa hk (k := .i64)
                by_cases hik : i = k
                · simp [e22, e23, hik]
                  refine hN5 (k + 1) _ (by omega) ⟨by omega, by simp [e2, e7, e8, e9, e10, e13, e16, e17, e21, e22, e23], by simp [e2, e7, e8, e9, e10, e13, e16, e17, e21, e22, e23], by simp [e2, e7, e8, e9, e10, e13, e16, e17, e21, e22, e23], by simp [e2, e7, e8, e9, e10, e13, e16, e17, e21, e22, e23], by simp [e2, e7, e8, e9, e10, e13, e16, e17, e21, e22, e23], by simp [e2, e7, e8, e9, e10, e13, e16, e17, e21, e22, e23], by simp [e2, e7, e8, e9, e10, e13, e16, e17, e21, e22, e23], by simp [e2, e7, e8, e9, e10, e13, e16, e17, e21, e22, e23], by simp [e2, e7, e8, e9, e10, e13, e16, e17, e21, e22, e23], by simp [e2, e7, e8, e9, e10, e13, e16, e17, e21, e22, e23], by simp [wrap_nat1 (show k < _ by omega)], by simpa using wn, by simpa using w0, by simpa using u1, by simpa using u2⟩
                · have hik2 : ¬ (i : Int) = (k : Int) := by omega
                  by_cases hip : i < p1
                  · have hip2 : (i : Int) < (p1 : Int) := by omega
                    have g1 := B1 i k hi hk hik (by unfold lx; simp only; omega) c hc
                    have g2 : ¬ 1 < cwN l (size : Int) c := by omega
                    have g3 : ¬ (1 : Int) < (cwN l (size : Int) c : Int) := by omega
                    simp [e7, e9, e10, e16, e22, e23, L1a, L1b, hik, hik2, hip, hip2, i1, i2, c1, c2, c3, wz, wz', in_ix hc41, in_ld w0 hc41, g2, g3]
                    refine hN5 (k + 1) _ (by omega) ⟨by omega, by simp [e2, e7, e8, e9, e10, e13, e16, e17, e21, e22, e23], by simp [e2, e7, e8, e9, e10, e13, e16, e17, e21, e22, e23], by simp [e2, e7, e8, e9, e10, e13, e16, e17, e21, e22, e23], by simp [e2, e7, e8, e9, e10, e13, e16, e17, e21, e22, e23], by simp [e2, e7, e8, e9, e10, e13, e16, e17, e21, e22, e23], by simp [e2, e7, e8, e9, e10, e13, e16, e17, e21, e22, e23], by simp [e2, e7, e8, e9, e10, e13, e16, e17, e21, e22, e23], by simp [e2, e7, e8, e9, e10, e13, e16, e17, e21, e22, e23], by simp [e2, e7, e8, e9, e10, e13, e16, e17, e21, e22, e23], by simp [e2, e7, e8, e9, e10, e13, e16, e17, e21, e22, e23], by simp [wrap_nat1 (show k < _ by omega)], by simpa using wn, by simpa using w0, by simpa using u1, by simpa using u2⟩
                  · have hip2 : ¬ (i : Int) < (p1 : Int) := by omega
                    by_cases hkp : k < p2
                    · have hkp2 : (k : Int) < (p2 : Int) := by omega
                      have g1 := B1 i k hi hk hik (by unfold lx; simp only; omega) c hc
                      have g2 : ¬ 1 < cwN l (size : Int) c := by omega
                      have g3 : ¬ (1 : Int) < (cwN l (size : Int) c : Int) := by omega
                      simp [e7, e9, e10, e16, e22, e23, L1a, L1b, hik, hik2, hip, hip2, hkp, hkp2, i1, i2, c1, c2, c3, wz, wz', in_ix hc41, in_ld w0 hc41, g2, g3]
                      refine hN5 (k + 1) _ (by omega) ⟨by omega, by simp [e2, e7, e8, e9, e10, e13, e16, e17, e21, e22, e23], by simp [e2, e7, e8, e9, e10, e13, e16, e17, e21, e22, e23], by simp [e2, e7, e8, e9, e10, e13, e16, e17, e21, e22, e23], by simp [e2, e7, e8, e9, e10, e13, e16, e17, e21, e22, e23], by simp [e2, e7, e8, e9, e10, e13, e16, e17, e21, e22, e23], by simp [e2, e7, e8, e9, e10, e13, e16, e17, e21, e22, e23], by simp [e2, e7, e8, e9, e10, e13, e16, e17, e21, e22, e23], by simp [e2, e7, e8, e9, e10, e13, e16, e17, e21, e22, e23], by simp [e2, e7, e8, e9, e10, e13, e16, e17, e21, e22, e23], by simp [e2, e7, e8, e9, e10, e13, e16, e17, e21, e22, e23], by simp [wrap_nat1 (show k < _ by omega)], by simpa using wn, by simpa using w0, by simpa using u1, by simpa using u2⟩
                    · have hkp2 : ¬ (k : Int) < (p2 : Int) := by omega
                      simp [e16, e17, e22, e23, L1a, L1b, hik, hik2, hip, hip2, hkp, hkp2]
                      refine hN5 (k + 1) _ (by omega) ⟨by omega, by simp [e2, e7, e8, e9, e10, e13, e16, e17, e21, e22, e23], by simp [e2, e7, e8, e9, e10, e13, e16, e17, e21, e22, e23], by simp [e2, e7, e8, e9, e10, e13, e16, e17, e21, e22, e23], by simp [e2, e7, e8, e9, e10, e13, e16, e17, e21, e22, e23], by simp [e2, e7, e8, e9, e10, e13, e16, e17, e21, e22, e23], by simp [e2, e7, e8, e9, e10, e13, e16, e17, e21, e22, e23], by simp [e2, e7, e8, e9, e10, e13, e16, e17, e21, e22, e23], by simp [e2, e7, e8, e9, e10, e13, e16, e17, e21, e22, e23], by simp [e2, e7, e8, e9, e10, e13, e16, e17, e21, e22, e23], by simp [e2, e7, e8, e9, e10, e13, e16, e17, e21, e22, e23], by simp [wrap_nat1 (show k < _ by omega)], by simpa using wn, by simpa using w0, by simpa using u1, by simpa using u2⟩
              · simp [e22]
                refine hN4 (i + 1) _ (by omega) ⟨by omega, by simp [e2, e7, e8, e9, e10, e13, e16, e17, e21, e22], by simp [e2, e7, e8, e9, e10, e13, e16, e17, e21, e22], by simp [e2, e7, e8, e9, e10, e13, e16, e17, e21, e22], by simp [e2, e7, e8, e9, e10, e13, e16, e17, e21, e22], by simp [e2, e7, e8, e9, e10, e13, e16, e17, e21, e22], by simp [e2, e7, e8, e9, e10, e13, e16, e17, e21, e22], by simp [e2, e7, e8, e9, e10, e13, e16, e17, e21, e22], by simp [e2, e7, e8, e9, e10, e13, e16, e17, e21, e22], by simp [e2, e7, e8, e9, e10, e13, e16, e17, e21, e22], by simp [wrap_nat1 (show i < _ by omega)], by simpa using wn, by simpa using w0, by simpa using u1, by simpa using u2⟩
            · simp
              refine At.loop (fun (i : Nat) t => i ≤ q1 + 1 ∧ t.env 2 = .int .u8 b ∧ t.env 7 = X ∧ t.env 8 = .int .i64 (l.length : Int) ∧ t.env 9 = .int .i64 (size : Int) ∧ t.env 10 = .ref r 0 ∧ t.env 13 = .bool false ∧ t.env 16 = .ref (r + 1) 0 ∧ t.env 17 = .ref (r + 1 + 1) 0 ∧ t.env 21 = .int .i64 (d' : Int) ∧ t.env 24 = .int .i64 (i : Int) ∧ r + 3 ≤ t.hs.nh ∧ t.hs.heap r = some (inF 41 fun j => (cwN l (size : Int) j : Int)) ∧ t.hs.heap (r + 1) = some [.int .i64 (p1 : Int), .int .i64 (p2 : Int)] ∧ t.hs.heap (r + 1 + 1) = some [.int .i64 (q1 : Int), .int .i64 (q2 : Int)]) (fun i => q1 + 1 - i) 0 ?_ ?_
              · exact ⟨by omega, by simp [e2, e7, e8, e9, e10, e13, e16, e17, e21], by simp [e2, e7, e8, e9, e10, e13, e16, e17, e21], by simp [e2, e7, e8, e9, e10, e13, e16, e17, e21], by simp [e2, e7, e8, e9, e10, e13, e16, e17, e21], by simp [e2, e7, e8, e9, e10, e13, e16, e17, e21], by simp [e2, e7, e8, e9, e10, e13, e16, e17, e21], by simp [e2, e7, e8, e9, e10, e13, e16, e17, e21], by simp [e2, e7, e8, e9, e10, e13, e16, e17, e21], by simp [e2, e7, e8, e9, e10, e13, e16, e17, e21], by simp [e2, e7, e8, e9, e10, e13, e16, e17, e21], by simpa using wn, by simpa using w0, by simpa using u1, by simpa using u2⟩
              rintro N6 i t hN6 ⟨hib, e2, e7, e8, e9, e10, e13, e16, e17, e21, e24, wn, w0, u1, u2⟩
              have L1a : aload t.hs.heap false 1 (.ref (r + 1) 0) = some (.int .i64 (p1 : Int)) := by simp [la, u1, apart]
              have L1b : aload t.hs.heap false 1 (.ref (r + 1) 1) = some (.int .i64 (p2 : Int)) := by simp [la, u1, apart]
              have L1p : aload t.hs.heap true 2 (.ref (r + 1) 0) = some (.agg [.int .i64 (p1 : Int), .int .i64 (p2 : Int)]) := by simp [la, u1, apart]
              have L2a : aload t.hs.heap false 1 (.ref (r + 1 + 1) 0) = some (.int .i64 (q1 : Int)) := by simp [la, u2, apart]
              have L2b : aload t.hs.heap false 1 (.ref (r + 1 + 1) 1) = some (.int .i64 (q2 : Int)) := by simp [la, u2, apart]
              simp [e24, e17, L2a]
              refine At.dec (fun hlt4 => ?_) (fun hlt4 => ?_)
              · have hi : i < l.length := by omega
                simp
                refine At.loop (fun (k : Nat) t => k ≤ l.length ∧ t.env 2 = .int .u8 b ∧ t.env 7 = X ∧ t.env 8 = .int .i64 (l.length : Int) ∧ t.env 9 = .int .i64 (size : Int) ∧ t.env 10 = .ref r 0 ∧ t.env 13 = .bool false ∧ t.env 16 = .ref (r + 1) 0 ∧ t.env 17 = .ref (r + 1 + 1) 0 ∧ t.env 21 = .int .i64 (d' : Int) ∧ t.env 24 = .int .i64 (i : Int) ∧ t.env 25 = .int .i64 (k : Int) ∧ r + 3 ≤ t.hs.nh ∧ t.hs.heap r = some (inF 41 fun j => (cwN l (size : Int) j : Int)) ∧ t.hs.heap (r + 1) = some [.int .i64 (p1 : Int), .int .i64 (p2 : Int)] ∧ t.hs.heap (r + 1 + 1) = some [.int .i64 (q1 : Int), .int .i64 (q2 : Int)]) (fun k => l.length - k) 0 ?_ ?_
                · exact ⟨by omega, by simp [e2, e7, e8, e9, e10, e13, e16, e17, e21, e24], by simp [e2, e7, e8, e9, e10, e13, e16, e17, e21, e24], by simp [e2, e7, e8, e9, e10, e13, e16, e17, e21, e24], by simp [e2, e7, e8, e9, e10, e13, e16, e17, e21, e24], by simp [e2, e7, e8, e9, e10, e13, e16, e17, e21, e24], by simp [e2, e7, e8, e9, e10, e13, e16, e17, e21, e24], by simp [e2, e7, e8, e9, e10, e13, e16, e17, e21, e24], by simp [e2, e7, e8, e9, e10, e13, e16, e17, e21, e24], by simp [e2, e7, e8, e9, e10, e13, e16, e17, e21, e24], by simp [e2, e7, e8, e9, e10, e13, e16, e17, e21, e24], by simp [e2, e7, e8, e9, e10, e13, e16, e17, e21, e24], by simpa using wn, by simpa using w0, by simpa using u1, by simpa using u2⟩
                rintro N7 k t hN7 ⟨hkb, e2, e7, e8, e9, e10, e13, e16, e17, e21, e24, e25, wn, w0, u1, u2⟩
                have L1a : aload t.hs.heap false 1 (.ref (r + 1) 0) = some (.int .i64 (p1 : Int)) := by simp [la, u1, apart]
                have L1b : aload t.hs.heap false 1 (.ref (r + 1) 1) = some (.int .i64 (p2 : Int)) := by simp [la, u1, apart]
                have L1p : aload t.hs.heap true 2 (.ref (r + 1) 0) = some (.agg [.int .i64 (p1 : Int), .int .i64 (p2 : Int)]) := by simp [la, u1, apart]
                have L2a : aload t.hs.heap false 1 (.ref (r + 1 + 1) 0) = some (.int .i64 (q1 : Int)) := by simp [la, u2, apart]
                have L2b : aload t.hs.heap false 1 (.ref (r + 1 + 1) 1) = some (.int .i64 (q2 : Int)) := by simp [la, u2, apart]
                simp [e25, e8]
                refine At.dec (fun hlt5 => ?_) (fun hlt5 => ?_)
                · have hk : k < l.length := by omega
                  obtain ⟨c, hc41, hc, c1, c2, c3⟩ := hway hi hk
                  have i1 := aidx_nat hXa hi (k := .i64)
                  have i2 := aidx_nat hXa hk (k := .i64)
                  by_cases hik : i = k
                  · simp [e24, e25, hik]
                    refine hN7 (k + 1) _ (by omega) ⟨by omega, by simp [e2, e7, e8, e9, e10, e13, e16, e17, e21, e24, e25], by simp [e2, e7, e8, e9, e10, e13, e16, e17, e21, e24, e25], by simp [e2, e7, e8, e9, e10, e13, e16, e17, e21, e24, e25], by simp [e2, e7, e8, e9, e10, e13, e16, e17, e21, e24, e25], by simp [e2, e7, e8, e9, e10, e13, e16, e17, e21, e24, e25], by simp [e2, e7, e8, e9, e10, e13, e16, e17, e21, e24, e25], by simp [e2, e7, e8, e9, e10, e13, e16, e17, e21, e24, e25], by simp [e2, e7, e8, e9, e10, e13, e16, e17, e21, e24, e25], by simp [e2, e7, e8, e9, e10, e13, e16, e17, e21, e24, e25], by simp [e2, e7, e8, e9, e10, e13, e16, e17, e21, e24, e25], by simp [wrap_nat1 (show k < _ by omega)], by simpa using wn, by simpa using w0, by simpa using u1, by simpa using u2⟩
                  · have hik2 : ¬ (i : Int) = (k : Int) := by omega
                    by_cases hip : i < q1
                    · have hip2 : (i : Int) < (q1 : Int) := by omega
                      by_cases hpp : i = p1 ∧ k = p2
                      · obtain ⟨rfl, rfl⟩ := hpp
                        simp [e7, e9, e10, e16, e17, e24, e25, L1a, L1b, L1p, L2a, L2b, hik, hik2, hip, hip2, abin_pair']
                        refine hN7 (k + 1) _ (by omega) ⟨by omega, by simp [e2, e7, e8, e9, e10, e13, e16, e17, e21, e24, e25], by simp [e2, e7, e8, e9, e10, e13, e16, e17, e21, e24, e25], by simp [e2, e7, e8, e9, e10, e13, e16, e17, e21, e24, e25], by simp [e2, e7, e8, e9, e10, e13, e16, e17, e21, e24, e25], by simp [e2, e7, e8, e9, e10, e13, e16, e17, e21, e24, e25], by simp [e2, e7, e8, e9, e10, e13, e16, e17, e21, e24, e25], by simp [e2, e7, e8, e9, e10, e13, e16, e17, e21, e24, e25], by simp [e2, e7, e8, e9, e10, e13, e16, e17, e21, e24, e25], by simp [e2, e7, e8, e9, e10, e13, e16, e17, e21, e24, e25], by simp [e2, e7, e8, e9, e10, e13, e16, e17, e21, e24, e25], by simp [wrap_nat1 (show k < _ by omega)], by simpa using wn, by simpa using w0, by simpa using u1, by simpa using u2⟩
                      · have hpp1 : (decide (i = p1) && decide (k = p2)) = false := by
                          simp only [Bool.and_eq_false_iff, decide_eq_false_iff_not]; omega
                        have hpp2 : (decide ((i : Int) = (p1 : Int)) && decide ((k : Int) = (p2 : Int))) = false := by
                          simp only [Bool.and_eq_false_iff, decide_eq_false_iff_not]; omega
                        have hpp3 : i = p1 → ¬ k = p2 := fun h1 h2 => hpp ⟨h1, h2⟩
                        have g1 := B2 i k hi hk hik (by unfold lx; simp only; omega) (fun e => hpp (by injection e with a b; exact ⟨a, b⟩))
                        rw [hc, hd] at g1
                        have g2 : ¬ c = d' := by omega
                        have g3 : ¬ (c : Int) = (d' : Int) := by omega
                        simp [e7, e9, e10, e16, e17, e21, e24, e25, L1a, L1b, L1p, L2a, L2b, hik, hik2, hip, hip2, abin_pair', hpp1, hpp2, hpp3, i1, i2, c1, c2, c3, wz, wz', g2, g3]
                        refine hN7 (k + 1) _ (by omega) ⟨by omega, by simp [e2, e7, e8, e9, e10, e13, e16, e17, e21, e24, e25], by simp [e2, e7, e8, e9, e10, e13, e16, e17, e21, e24, e25], by simp [e2, e7, e8, e9, e10, e13, e16, e17, e21, e24, e25], by simp [e2, e7, e8, e9, e10, e13, e16, e17, e21, e24, e25], by simp [e2, e7, e8, e9, e10, e13, e16, e17, e21, e24, e25], by simp [e2, e7, e8, e9, e10, e13, e16, e17, e21, e24, e25], by simp [e2, e7, e8, e9, e10, e13, e16, e17, e21, e24, e25], by simp [e2, e7, e8, e9, e10, e13, e16, e17, e21, e24, e25], by simp [e2, e7, e8, e9, e10, e13, e16, e17, e21, e24, e25], by simp [e2, e7, e8, e9, e10, e13, e16, e17, e21, e24, e25], by simp [wrap_nat1 (show k < _ by omega)], by simpa using wn, by simpa using w0, by simpa using u1, by simpa using u2⟩
                    · have hip2 : ¬ (i : Int) < (q1 : Int) := by omega
                      by_cases hkp : k < q2
                      · have hkp2 : (k : Int) < (q2 : Int) := by omega
                        by_cases hpp : i = p1 ∧ k = p2
                        · obtain ⟨rfl, rfl⟩ := hpp
                          simp [e7, e9, e10, e16, e17, e24, e25, L1a, L1b, L1p, L2a, L2b, hik, hik2, hip, hip2, hkp, hkp2, abin_pair']
                          refine hN7 (k + 1) _ (by omega) ⟨by omega, by simp [e2, e7, e8, e9, e10, e13, e16, e17, e21, e24, e25], by simp [e2, e7, e8, e9, e10, e13, e16, e17, e21, e24, e25], by simp [e2, e7, e8, e9, e10, e13, e16, e17, e21, e24, e25], by simp [e2, e7, e8, e9, e10, e13, e16, e17, e21, e24, e25], by simp [e2, e7, e8, e9, e10, e13, e16, e17, e21, e24, e25], by simp [e2, e7, e8, e9, e10, e13, e16, e17, e21, e24, e25], by simp [e2, e7, e8, e9, e10, e13, e16, e17, e21, e24, e25], by simp [e2, e7, e8, e9, e10, e13, e16, e17, e21, e24, e25], by simp [e2, e7, e8, e9, e10, e13, e16, e17, e21, e24, e25], by simp [e2, e7, e8, e9, e10, e13, e16, e17, e21, e24, e25], by simp [wrap_nat1 (show k < _ by omega)], by simpa using wn, by simpa using w0, by simpa using u1, by simpa using u2⟩
                        · have hpp1 : (decide (i = p1) && decide (k = p2)) = false := by
                            simp only [Bool.and_eq_false_iff, decide_eq_false_iff_not]; omega
                          have hpp2 : (decide ((i : Int) = (p1 : Int)) && decide ((k : Int) = (p2 : Int))) = false := by
                            simp only [Bool.and_eq_false_iff, decide_eq_false_iff_not]; omega
                          have hpp3 : i = p1 → ¬ k = p2 := fun h1 h2 => hpp ⟨h1, h2⟩
                          have g1 := B2 i k hi hk hik (by unfold lx; simp only; omega) (fun e => hpp (by injection e with a b; exact ⟨a, b⟩))
                          rw [hc, hd] at g1
                          have g2 : ¬ c = d' := by omega
                          have g3 : ¬ (c : Int) = (d' : Int) := by omega
                          simp [e7, e9, e10, e16, e17, e21, e24, e25, L1a, L1b, L1p, L2a, L2b, hik, hik2, hip, hip2, hkp, hkp2, abin_pair', hpp1, hpp2, hpp3, i1, i2, c1, c2, c3, wz, wz', g2, g3]
                          refine hN7 (k + 1) _ (by omega) ⟨by omega, by simp [e2, e7, e8, e9, e10, e13, e16, e17, e21, e24, e25], by simp [e2, e7, e8, e9, e10, e13, e16, e17, e21, e24, e25], by simp [e2, e7, e8, e9, e10, e13, e16, e17, e21, e24, e25], by simp [e2, e7, e8, e9, e10, e13, e16, e17, e21, e24, e25], by simp [e2, e7, e8, e9, e10, e13, e16, e17, e21, e24, e25], by simp [e2, e7, e8, e9, e10, e13, e16, e17, e21, e24, e25], by simp [e2, e7, e8, e9, e10, e13, e16, e17, e21, e24, e25], by simp [e2, e7, e8, e9, e10, e13, e16, e17, e21, e24, e25], by simp [e2, e7, e8, e9, e10, e13, e16, e17, e21, e24, e25], by simp [e2, e7, e8, e9, e10, e13, e16, e17, e21, e24, e25], by simp [wrap_nat1 (show k < _ by omega)], by simpa using wn, by simpa using w0, by simpa using u1, by simpa using u2⟩
                      · have hkp2 : ¬ (k : Int) < (q2 : Int) := by omega
                        simp [e16, e17, e24, e25, L2a, L2b, hik, hik2, hip, hip2, hkp, hkp2]
                        refine hN7 (k + 1) _ (by omega) ⟨by omega, by simp [e2, e7, e8, e9, e10, e13, e16, e17, e21, e24, e25], by simp [e2, e7, e8, e9, e10, e13, e16, e17, e21, e24, e25], by simp [e2, e7, e8, e9, e10, e13, e16, e17, e21, e24, e25], by simp [e2, e7, e8, e9, e10, e13, e16, e17, e21, e24, e25], by simp [e2, e7, e8, e9, e10, e13, e16, e17, e21, e24, e25], by simp [e2, e7, e8, e9, e10, e13, e16, e17, e21, e24, e25], by simp [e2, e7, e8, e9, e10, e13, e16, e17, e21, e24, e25], by simp [e2, e7, e8, e9, e10, e13, e16, e17, e21, e24, e25], by simp [e2, e7, e8, e9, e10, e13, e16, e17, e21, e24, e25], by simp [e2, e7, e8, e9, e10, e13, e16, e17, e21, e24, e25], by simp [wrap_nat1 (show k < _ by omega)], by simpa using wn, by simpa using w0, by simpa using u1, by simpa using u2⟩
                · simp [e24]
                  refine hN6 (i + 1) _ (by omega) ⟨by omega, by simp [e2, e7, e8, e9, e10, e13, e16, e17, e21, e24], by simp [e2, e7, e8, e9, e10, e13, e16, e17, e21, e24], by simp [e2, e7, e8, e9, e10, e13, e16, e17, e21, e24], by simp [e2, e7, e8, e9, e10, e13, e16, e17, e21, e24], by simp [e2, e7, e8, e9, e10, e13, e16, e17, e21, e24], by simp [e2, e7, e8, e9, e10, e13, e16, e17, e21, e24], by simp [e2, e7, e8, e9, e10, e13, e16, e17, e21, e24], by simp [e2, e7, e8, e9, e10, e13, e16, e17, e21, e24], by simp [e2, e7, e8, e9, e10, e13, e16, e17, e21, e24], by simp [wrap_nat1 (show i < _ by omega)], by simpa using wn, by simpa using w0, by simpa using u1, by simpa using u2⟩
              · simp
                exact hN _ ⟨by simp [e2], by simp [e7], by simp [e9], by simp [e13]⟩
      · rintro t ⟨e2, e7, e9, e13⟩
        generalize hq : t.hs.nh = q
        simp [e7, alX, hq]
        refine At.loop (fun (i : Nat) t => i ≤ l.length ∧ t.env 2 = .int .u8 b ∧ t.env 7 = X ∧ t.env 9 = .int .i64 (size : Int) ∧ t.env 13 = .bool g ∧ t.env 26 = .ref q 0 ∧ t.env 298 = X ∧ t.env 299 = .int .i64 (l.length : Int) ∧ t.env 300 = .int .i64 (i : Int) ∧ ∃ f : Nat → Bool, t.hs.heap q = some (blF 40 f) ∧ ∀ j : Nat, f j = (l.take i).any fun x => decide ((x + b) % (size : Int) = (j : Int))) (fun i => l.length - i) 0 ?_ ?_
        · exact ⟨by omega, by simp [e2, e7, e9, e13, alX], by simp [e2, e7, e9, e13, alX], by simp [e2, e7, e9, e13, alX], by simp [e2, e7, e9, e13, alX], by simp [e2, e7, e9, e13, alX], by simp [e2, e7, e9, e13, alX], by simp [e2, e7, e9, e13, alX], by simp [e2, e7, e9, e13, alX], ⟨fun _ => false, by simp, fun j => by simp⟩⟩
        rintro N i t hN ⟨hib, e2, e7, e9, e13, e26, e298, e299, e300, ⟨f, w0, hf⟩⟩
        simp [e299, e300]
        refine At.dec (fun hlt => ?_) (fun hlt => ?_)
        · have i1 := aidx_nat hXa hlt (k := .i64)
          have bi := hbm _ (List.getElem_mem hlt)
          have s1 : IntKind.i64.wrap (l[i] + b) = l[i] + b := wrap64 (by omega) (by omega)
          have s2 : (l[i] + b).tmod (size : Int) = (l[i] + b) % (size : Int) := Int.tmod_eq_emod_of_nonneg (by omega)
          have s3 := Int.emod_nonneg (l[i] + b) wz
          have s4 := Int.emod_lt_of_pos (l[i] + b) (show (0 : Int) < (size : Int) by omega)
          obtain ⟨c, hc⟩ : ∃ c : Nat, (l[i] + b) % (size : Int) = (c : Int) := ⟨((l[i] + b) % (size : Int)).toNat, by omega⟩
          have hc40 : c < 40 := by omega
          rw [hc] at s2
          simp [e2, e9, e26, e298, e300, i1, wb, s1, s2, wz, wz', bl_ix hc40, bl_sc w0 hc40]
          refine hN (i + 1) _ (by omega) ⟨by omega, by simp [e2, e7, e9, e13, e26, e298, e299, e300], by simp [e2, e7, e9, e13, e26, e298, e299, e300], by simp [e2, e7, e9, e13, e26, e298, e299, e300], by simp [e2, e7, e9, e13, e26, e298, e299, e300], by simp [e2, e7, e9, e13, e26, e298, e299, e300], by simp [e2, e7, e9, e13, e26, e298, e299, e300], by simp [e2, e7, e9, e13, e26, e298, e299, e300], by simp [wrap_nat1 (show i < _ by omega)], ⟨fun j => if j = c then true else f j, by simp, fun j => ?_⟩⟩
          show (if j = c then true else f j) = _
          rw [any_take_succ hlt, hc, hf]
          by_cases hj : j = c
          · subst hj; simp
          · have hj2 : ¬ (c : Int) = (j : Int) := by omega
            rw [if_neg hj, decide_eq_false hj2, Bool.or_false]
        · have : i = l.length := by omega
          subst this
          have hff : blF 40 f = blF 40 (onB l b (size : Int)) := by
            congr 1
            funext j
            rw [hf, List.take_length]; rfl
          rw [hff] at w0
          clear hff hf
          simp
          refine At.loop (fun (p : Nat) t => p ≤ size ∧ t.env 2 = .int .u8 b ∧ t.env 7 = X ∧ t.env 9 = .int .i64 (size : Int) ∧ t.env 13 = .bool g ∧ t.env 26 = .ref q 0 ∧ t.env 30 = .int .i64 (p : Int) ∧ t.hs.heap q = some (blF 40 (onB l b (size : Int))) ∧ Grow t.hs (t.env 29) (rt p)) (fun p => size - p) 0 ?_ ?_
          · exact ⟨by omega, by simp [e2, e7, e9, e13, e26], by simp [e2, e7, e9, e13, e26], by simp [e2, e7, e9, e13, e26], by simp [e2, e7, e9, e13, e26], by simp [e2, e7, e9, e13, e26], by simp [e2, e7, e9, e13, e26], by simpa using w0, by simp [Fresh], by simp [hrt0, asI]⟩
          rintro N2 p t hN2 ⟨hpb, e2, e7, e9, e13, e26, e30, w0, hGr⟩
          simp [e9, e30]
          refine At.dec (fun hlt2 => ?_) (fun hlt2 => ?_)
          · have hp40 : p < 40 := by omega
            have hl1 := hrtL p
            have hst := hrt1 p
            cases hon : onB l b (size : Int) p with
            | true =>
              rw [hon, if_pos rfl] at hst
              obtain ⟨y, hs2, a1, a2, a3⟩ := hGr.add (by omega) (p : Int)
              simp [e26, e30, bl_ix hp40, bl_ld w0 hp40, hon, astoAll, si, a1]
              refine hN2 (p + 1) _ (by omega) ⟨by omega, by simp [e2, e7, e9, e13, e26, e30], by simp [e2, e7, e9, e13, e26, e30], by simp [e2, e7, e9, e13, e26, e30], by simp [e2, e7, e9, e13, e26, e30], by simp [e2, e7, e9, e13, e26, e30], by simp [wrap_nat1 (show p < _ by omega)], by simp [a3.heap, w0], by rw [hst]; simpa using a2⟩
            | false =>
              rw [hon] at hst
              simp only [Bool.false_eq_true, if_false] at hst
              simp [e26, e30, bl_ix hp40, bl_ld w0 hp40, hon]
              refine hN2 (p + 1) _ (by omega) ⟨by omega, by simp [e2, e7, e9, e13, e26, e30], by simp [e2, e7, e9, e13, e26, e30], by simp [e2, e7, e9, e13, e26, e30], by simp [e2, e7, e9, e13, e26, e30], by simp [e2, e7, e9, e13, e26, e30], by simp [wrap_nat1 (show p < _ by omega)], by simpa using w0, by rw [hst]; simpa using hGr⟩
          · have hps : p = size := by omega
            subst hps
            have hYa := hGr.as
            have k := k38m _ hYa
            generalize hq2 : t.hs.nh = q2
            simp [e9, k, twR, hq2]
            refine At.one none (by simp [one', zz]) ?_
            simp
            refine At.tw2 none (by simp [two', zz]) ?_
            cases VM with
            | none =>
              have : g = true := by simpa using hVM.symm
              subst this
              simp [e13, twE, k16]
            | some v =>
              have : g = false := by simpa using hVM.symm
              subst this
              simp [e13, twE, k16]
theorem round_typed (xs : List AV) (h : Typed [.sl (.int .u8), .int .u8, .int .u8] xs) : PCall Try.prog 12 xs (.bool true) := by
  obtain ⟨x, y, z, rfl, h1, h2, h3⟩ := h.three
  obtain ⟨l, hl⟩ := IsU8.of h1
  obtain ⟨a, rfl, ha⟩ := shv_int h2
  obtain ⟨b, rfl, hb⟩ := shv_int h3
  obtain ⟨a0, a1⟩ := u8_bd ha
  obtain ⟨b0, b1⟩ := u8_bd hb
  exact p12 hl a0 a1 b0 b1
end Go.Proofs.Ytokfmcjepkepjaa
