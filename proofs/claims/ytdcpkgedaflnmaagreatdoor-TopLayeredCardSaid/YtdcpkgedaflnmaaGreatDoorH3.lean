/-
  Labels that can be cut apart: plain. Own work.
  Plans of cuts: plain. Own work.
  Labels and pieces in memory; sides; the check of a layout. Own work.
  The check of a layout. Own work.
  Dividing a piece: the walk. Own work.
  All cuts of a piece: the walk. Own work.
  Following cuts: the walk, over whatever tells the cuts. Own work.
  Following cuts: the walk of the loop. Own work.
  Planning cuts, and checking a plan: the walks. Own work.
  Plan, Verify and Blocked: the walks. Own work.
-/
import Derived.Test.YtdcpkgedaflnmaaGreatDoorFx5
import Derived.Test.YtdcpkgedaflnmaaGreatDoorC3
import Derived.Test.YtdcpkgedaflnmaaGreatDoorH1
set_option linter.unusedVariables false
set_option linter.unusedSimpArgs false
namespace Go.Proofs.YtdcpkgedaflnmaaGreatDoor.Cq
open Go Fw

structure Lab where
  x : Nat
  y : Nat
  w : Nat
  h : Nat
deriving DecidableEq, Inhabited
def sd (up : Bool) (l : Lab) : Nat × Nat := if up = true then (l.x, l.x + l.w) else (l.y, l.y + l.h)
/-- what can be cut apart -/
inductive Sp : (Lab → Prop) → Prop
  | one (S : Lab → Prop) : (∀ a b, S a → S b → a = b) → Sp S
  | cut (S : Lab → Prop) (up : Bool) (p : Nat) : (∀ q, S q → (sd up q).2 ≤ p ∨ p ≤ (sd up q).1) → Sp (fun q => S q ∧ (sd up q).2 ≤ p) → Sp (fun q => S q ∧ p ≤ (sd up q).1) → Sp S
theorem Sp.sub {S : Lab → Prop} (h : Sp S) : ∀ {T : Lab → Prop}, (∀ q, T q → S q) → Sp T := by
  induction h with
  | one S h => exact fun hT => .one _ fun a b ha hb => h a b (hT a ha) (hT b hb)
  | cut S up p h1 h2 h3 i2 i3 => exact fun hT => .cut _ up p (fun q hq => h1 q (hT q hq)) (i2 fun q hq => ⟨hT q hq.1, hq.2⟩) (i3 fun q hq => ⟨hT q hq.1, hq.2⟩)
theorem Sp.ex {S : Lab → Prop} (h : Sp S) : ∀ {l : List Lab}, l.Nodup → 2 ≤ l.length → (∀ q ∈ l, S q) → ∃ up p, (∀ q ∈ l, (sd up q).2 ≤ p ∨ p ≤ (sd up q).1) ∧ (∃ q ∈ l, (sd up q).2 ≤ p) ∧ ∃ q ∈ l, p ≤ (sd up q).1 := by
  induction h with
  | one S h =>
    intro l hn h2 hl
    match l, h2 with
    | a :: b :: l, _ =>
      have := h a b (hl a (by simp)) (hl b (by simp))
      simp [this] at hn
  | cut S up p h1 h2 h3 i2 i3 =>
    intro l hn hl2 hl
    by_cases c1 : ∃ q ∈ l, (sd up q).2 ≤ p
    · by_cases c2 : ∃ q ∈ l, p ≤ (sd up q).1
      · exact ⟨up, p, fun q hq => h1 q (hl q hq), c1, c2⟩
      · refine i2 hn hl2 fun q hq => ⟨hl q hq, ?_⟩
        rcases h1 q (hl q hq) with h | h
        · exact h
        · exact absurd ⟨q, hq, h⟩ c2
    · refine i3 hn hl2 fun q hq => ⟨hl q hq, ?_⟩
      rcases h1 q (hl q hq) with h | h
      · exact absurd ⟨q, hq, h⟩ c1
      · exact h
/-! dividing -/
def swp (l : List Lab) (i n : Nat) : List Lab := (l.set i (l.getD n default)).set n (l.getD i default)
def dv (up : Bool) (p : Nat) : Nat → Nat → Nat → List Lab → Option (List Lab × Nat)
  | 0, _, n, l => some (l, n)
  | r + 1, i, n, l =>
    if (sd up (l.getD i default)).1 < p ∧ p < (sd up (l.getD i default)).2 then none
    else if (sd up (l.getD i default)).2 ≤ p then dv up p r (i + 1) (n + 1) (swp l i n) else dv up p r (i + 1) n l
theorem swp_len (l : List Lab) (i n : Nat) : (swp l i n).length = l.length := by simp [swp]
theorem swp_perm {l : List Lab} {i n : Nat} (hi : i < l.length) (hn : n < l.length) : (swp l i n).Perm l := by
  unfold swp
  have e1 : l.getD n default = l[n] := by simp [hn]
  have e2 : l.getD i default = l[i] := by simp [hi]
  rw [e1, e2]
  exact List.set_set_perm hi hn
theorem swp_get {l : List Lab} {i n k : Nat} (hi : i < l.length) (hn : n < l.length) (hk : k < l.length) : (swp l i n).getD k default = if k = n then l.getD i default else if k = i then l.getD n default else l.getD k default := by
  unfold swp
  by_cases h1 : k = n
  · subst h1; simp [hk]
  · by_cases h2 : k = i
    · subst h2
      have : ¬ n = k := fun e => h1 e.symm
      simp [List.getD, List.getElem?_set, h1, this, hk]
    · have a1 : ¬ n = k := fun e => h1 e.symm
      have a2 : ¬ i = k := fun e => h2 e.symm
      simp [List.getD, List.getElem?_set, h1, h2, a1, a2]
structure Dv (up : Bool) (p i n : Nat) (l : List Lab) : Prop where
  ni : n ≤ i
  il : i ≤ l.length
  lo : ∀ k, k < n → (sd up (l.getD k default)).2 ≤ p
  hi : ∀ k, n ≤ k → k < i → p ≤ (sd up (l.getD k default)).1
theorem Dv.step {up : Bool} {p i n : Nat} {l : List Lab} (h : Dv up p i n l) (hi : i < l.length) (h2 : (sd up (l.getD i default)).2 ≤ p) : Dv up p (i + 1) (n + 1) (swp l i n) := by
  have hni := h.ni
  refine ⟨by omega, by rw [swp_len]; omega, fun k hk => ?_, fun k h1 h3 => ?_⟩
  · rw [swp_get hi (by omega) (by omega)]
    by_cases e : k = n
    · rw [if_pos e]; exact h2
    · rw [if_neg e, if_neg (by omega)]; exact h.lo k (by omega)
  · rw [swp_get hi (by omega) (by omega), if_neg (by omega)]
    by_cases e : k = i
    · rw [if_pos e]; exact h.hi n (Nat.le_refl _) (by omega)
    · rw [if_neg e]; exact h.hi k (by omega) (by omega)
theorem dv_spec {up : Bool} {p : Nat} : ∀ (r i n : Nat) (l : List Lab), i + r = l.length → Dv up p i n l → ∀ l' n', dv up p r i n l = some (l', n') → l'.Perm l ∧ Dv up p l.length n' l' ∧ n ≤ n'
  | 0, i, n, l, hl, h, l', n', e => by
    simp only [dv, Option.some.injEq, Prod.mk.injEq] at e
    obtain ⟨rfl, rfl⟩ := e
    have : i = l.length := by omega
    subst this
    exact ⟨.refl _, h, Nat.le_refl _⟩
  | r + 1, i, n, l, hl, h, l', n', e => by
    have hi : i < l.length := by omega
    have hni := h.ni
    simp only [dv] at e
    split at e
    · cases e
    · rename_i h1
      split at e
      · rename_i h2
        obtain ⟨a, b, c⟩ := dv_spec r (i + 1) (n + 1) (swp l i n) (by rw [swp_len]; omega) (h.step hi h2) l' n' e
        rw [swp_len] at b
        exact ⟨a.trans (swp_perm hi (by omega)), b, by omega⟩
      · rename_i h2
        refine dv_spec r (i + 1) n l (by omega) ⟨by omega, by omega, h.lo, fun k h3 h4 => ?_⟩ l' n' e
        by_cases e : k = i
        · subst e; omega
        · exact h.hi k h3 (by omega)
theorem dv_some {up : Bool} {p : Nat} : ∀ (r i n : Nat) (l : List Lab), i + r = l.length → n ≤ i → (∀ q ∈ l, (sd up q).2 ≤ p ∨ p ≤ (sd up q).1) → ∃ l' n', dv up p r i n l = some (l', n')
  | 0, i, n, l, _, _, _ => ⟨l, n, rfl⟩
  | r + 1, i, n, l, hl, hn, h => by
    have hi : i < l.length := by omega
    have hq := h (l.getD i default) (by simp [hi])
    simp only [dv]
    rw [if_neg (by omega)]
    split
    · exact dv_some r (i + 1) (n + 1) (swp l i n) (by rw [swp_len]; omega) (by omega) fun q hq => h q ((swp_perm hi (by omega)).mem_iff.1 hq)
    · exact dv_some r (i + 1) n l (by omega) (by omega) h
end Go.Proofs.YtdcpkgedaflnmaaGreatDoor.Cq
set_option linter.unusedVariables false
set_option linter.unusedSimpArgs false
namespace Go.Proofs.YtdcpkgedaflnmaaGreatDoor.Cq
open Go Fw

/-- a piece: where it is, and its labels -/
structure Pc where
  r : Lab
  ls : List Lab
def lowL (up : Bool) (p : Nat) (r : Lab) : Lab := if up = true then { r with w := p - r.x } else { r with h := p - r.y }
def highL (up : Bool) (p : Nat) (r : Lab) : Lab := if up = true then { r with x := p, w := r.x + r.w - p } else { r with y := p, h := r.y + r.h - p }
def dvd (q : Pc) (up : Bool) (p : Nat) : Option (Pc × Pc × Bool) :=
  if (sd up q.r).1 + 1 ≤ p ∧ p + 1 ≤ (sd up q.r).2 then
    match dv up p q.ls.length 0 0 q.ls with
    | none => none
    | some (l, n) => some (⟨lowL up p q.r, l.take n⟩, ⟨highL up p q.r, l.drop n⟩, decide (0 < n) && decide (n < l.length))
  else none
def good (q : Pc) (c : Bool × Nat) : Bool := match dvd q c.1 c.2 with
  | some (_, _, b) => b
  | none => false
def allC : List (Bool × Nat) := ([true, false] : List Bool).flatMap fun up => (List.range 12).map fun p => (up, p)
def cutsP (q : Pc) : List (Bool × Nat) := allC.filter (good q)
def lIn (r l : Lab) : Prop := 1 ≤ l.w ∧ 1 ≤ l.h ∧ r.x ≤ l.x ∧ l.x + l.w ≤ r.x + r.w ∧ r.y ≤ l.y ∧ l.y + l.h ≤ r.y + r.h
/-- a piece that can be cut apart -/
structure GP (q : Pc) : Prop where
  nd : q.ls.Nodup
  sp : Sp fun l => l ∈ q.ls
  inn : ∀ l ∈ q.ls, lIn q.r l
  x12 : q.r.x + q.r.w ≤ 12
  y12 : q.r.y + q.r.h ≤ 12
theorem GP.side {q : Pc} (h : GP q) {l : Lab} (hl : l ∈ q.ls) (up : Bool) : (sd up q.r).1 ≤ (sd up l).1 ∧ (sd up l).1 + 1 ≤ (sd up l).2 ∧ (sd up l).2 ≤ (sd up q.r).2 ∧ (sd up q.r).2 ≤ 12 := by
  have h1 := h.inn l hl
  have h2 := h.x12
  have h3 := h.y12
  unfold lIn at h1
  cases up <;> simp only [sd, if_true, Bool.false_eq_true, if_false] <;> omega
theorem dvd_spec {q a b : Pc} {up is : Bool} {p : Nat} (h : GP q) (e : dvd q up p = some (a, b, is)) : GP a ∧ GP b ∧ a.ls.length + b.ls.length = q.ls.length ∧ (is = true ↔ a.ls ≠ [] ∧ b.ls ≠ []) ∧ (a.ls ++ b.ls).Perm q.ls := by
  unfold dvd at e
  split at e
  rotate_left
  · cases e
  rename_i hb
  split at e
  · cases e
  rename_i l n hd
  injection e with e
  simp only [Prod.mk.injEq] at e
  obtain ⟨rfl, rfl, rfl⟩ := e
  obtain ⟨hp, hD, _⟩ := dv_spec _ 0 0 q.ls (by simp) ⟨Nat.le_refl _, Nat.zero_le _, fun k hk => by omega, fun k h1 h2 => by omega⟩ l n hd
  have hlen := hp.length_eq
  have hnl : n ≤ l.length := by rw [hlen]; exact hD.ni
  have hpa : (l.take n ++ l.drop n).Perm q.ls := by rw [List.take_append_drop]; exact hp
  have hnd : (l.take n ++ l.drop n).Nodup := hpa.symm.nodup_iff.1 h.nd |> fun h => h
  have hlo : ∀ x ∈ l.take n, (sd up x).2 ≤ p := fun x hx => by
    obtain ⟨k, hk, rfl⟩ := List.getElem_of_mem hx
    have hk' : k < n := by rw [List.length_take] at hk; omega
    have := hD.lo k hk'
    rw [List.getElem_take]
    have e : l.getD k default = l[k]'(by omega) := by simp [show k < l.length by omega]
    rw [e] at this; exact this
  have hhi : ∀ x ∈ l.drop n, p ≤ (sd up x).1 := fun x hx => by
    obtain ⟨k, hk, rfl⟩ := List.getElem_of_mem hx
    have hk' : n + k < l.length := by rw [List.length_drop] at hk; omega
    have := hD.hi (n + k) (by omega) (by omega)
    rw [List.getElem_drop]
    have e : l.getD (n + k) default = l[n + k]'hk' := by simp [hk']
    rw [e] at this; exact this
  have hma : ∀ x ∈ l.take n, x ∈ q.ls := fun x hx => hpa.mem_iff.1 (List.mem_append.2 (.inl hx))
  have hmb : ∀ x ∈ l.drop n, x ∈ q.ls := fun x hx => hpa.mem_iff.1 (List.mem_append.2 (.inr hx))
  have hx12 := h.x12
  have hy12 := h.y12
  refine ⟨⟨(List.nodup_append.1 hnd).1, h.sp.sub hma, fun x hx => ?_, ?_, ?_⟩, ⟨(List.nodup_append.1 hnd).2.1, h.sp.sub hmb, fun x hx => ?_, ?_, ?_⟩, ?_, ?_, hpa⟩
  · have h1 := h.inn x (hma x hx)
    have h2 := hlo x hx
    unfold lIn at h1 ⊢
    cases up <;> simp only [lowL, sd, if_true, Bool.false_eq_true, if_false] at h2 hb ⊢ <;> omega
  · cases up <;> simp only [lowL, sd, if_true, Bool.false_eq_true, if_false] at hb ⊢ <;> omega
  · cases up <;> simp only [lowL, sd, if_true, Bool.false_eq_true, if_false] at hb ⊢ <;> omega
  · have h1 := h.inn x (hmb x hx)
    have h2 := hhi x hx
    unfold lIn at h1 ⊢
    cases up <;> simp only [highL, sd, if_true, Bool.false_eq_true, if_false] at h2 hb ⊢ <;> omega
  · cases up <;> simp only [highL, sd, if_true, Bool.false_eq_true, if_false] at hb ⊢ <;> omega
  · cases up <;> simp only [highL, sd, if_true, Bool.false_eq_true, if_false] at hb ⊢ <;> omega
  · simp; omega
  · simp only [Bool.and_eq_true, decide_eq_true_eq, ne_eq, List.take_eq_nil_iff, List.drop_eq_nil_iff]
    have : l.length = 0 ↔ l = [] := List.length_eq_zero_iff
    constructor
    · rintro ⟨h1, h2⟩
      exact ⟨by rintro (h | h); · omega
                · rw [h] at h2; simp at h2, by omega⟩
    · rintro ⟨h1, h2⟩
      have : ¬ n = 0 := fun h => h1 (.inl h)
      omega
theorem mem_allC {up : Bool} {p : Nat} (h : p < 12) : (up, p) ∈ allC := by
  simp [allC, h]
theorem cuts_ne {q : Pc} (h : GP q) (h2 : 2 ≤ q.ls.length) : cutsP q ≠ [] := by
  obtain ⟨up, p, hd, ⟨a, ha, ha2⟩, ⟨b, hb, hb2⟩⟩ := h.sp.ex h.nd h2 fun _ h => h
  have sa := h.side ha up
  have sb := h.side hb up
  have hg : good q (up, p) = true := by
    obtain ⟨l, n, e⟩ := dv_some q.ls.length 0 0 q.ls (by simp) (Nat.le_refl _) hd
    have e2 : dvd q up p = some (⟨lowL up p q.r, l.take n⟩, ⟨highL up p q.r, l.drop n⟩, decide (0 < n) && decide (n < l.length)) := by
      unfold dvd
      rw [if_pos (by omega)]
      simp only [e]
    obtain ⟨_, _, _, _, hpm⟩ := dvd_spec h e2
    obtain ⟨hp, hD, _⟩ := dv_spec _ 0 0 q.ls (by simp) ⟨Nat.le_refl _, Nat.zero_le _, fun k hk => by omega, fun k h1 h2 => by omega⟩ l n e
    have hlen := hp.length_eq
    obtain ⟨i, hi, ei⟩ := List.getElem_of_mem (hp.mem_iff.2 ha)
    obtain ⟨j, hj, ej⟩ := List.getElem_of_mem (hp.mem_iff.2 hb)
    have gi : l.getD i default = a := by simp [hi, ei]
    have gj : l.getD j default = b := by simp [hj, ej]
    have hin : i < n := by
      rcases Nat.lt_or_ge i n with h' | h'
      · exact h'
      · have := hD.hi i h' (by omega)
        rw [gi] at this; omega
    have hjn : n ≤ j := by
      rcases Nat.lt_or_ge j n with h' | h'
      · have := hD.lo j h'
        rw [gj] at this; omega
      · exact h'
    unfold good
    simp only [e2, Bool.and_eq_true, decide_eq_true_eq]
    omega
  intro he
  have : (up, p) ∈ cutsP q := List.mem_filter.2 ⟨mem_allC (by omega), hg⟩
  rw [he] at this
  cases this
/-! following -/
def runF {σ : Type} (step : σ → Pc → σ × Option (Bool × Nat)) : Nat → σ → List Pc → σ × Option Pc
  | 0, s, _ => (s, none)
  | _ + 1, s, [] => (s, none)
  | f + 1, s, q :: st => if q.ls.length < 2 then runF step f s st else
    match step s q with
    | (s', none) => (s', some q)
    | (s', some c) => match dvd q c.1 c.2 with
      | some (a, b, true) => runF step f s' (a :: b :: st)
      | _ => (s', some q)
def mP (q : Pc) : Nat := max 1 (2 * q.ls.length - 1)
def mS : List Pc → Nat
  | [] => 0
  | q :: st => mP q + mS st
theorem mS_div {q a b : Pc} {st : List Pc} (h : a.ls.length + b.ls.length = q.ls.length) (ha : a.ls ≠ []) (hb : b.ls ≠ []) : mS (a :: b :: st) < mS (q :: st) := by
  have h1 := List.length_pos_iff.2 ha
  have h2 := List.length_pos_iff.2 hb
  simp only [mS, mP]
  omega
/-- a planned cut -/
def stepP (pl : List (Bool × Nat)) (q : Pc) : List (Bool × Nat) × Option (Bool × Nat) := match cutsP q with
  | [] => (pl, none)
  | c :: _ => (pl ++ [c], some c)
/-- a cut that a plan tells -/
def stepV (plan : List (Bool × Nat)) (s : Nat × Bool) (q : Pc) : (Nat × Bool) × Option (Bool × Nat) := if s.1 = plan.length then ((s.1, true), none) else ((s.1 + 1, s.2), plan[s.1]?)
/-- how many cuts it takes -/
def nC : List Pc → Nat
  | [] => 0
  | q :: st => (q.ls.length - 1) + nC st
theorem run_plan : ∀ (f : Nat) (st : List Pc) (pl : List (Bool × Nat)), mS st ≤ f → (∀ q ∈ st, GP q) → ∃ ext, runF stepP f pl st = (pl ++ ext, none) ∧ ext.length = nC st ∧
    ∀ plan : List (Bool × Nat), ∀ k, (∀ i, i < ext.length → plan[k + i]? = ext[i]?) → k + ext.length ≤ plan.length → runF (stepV plan) f (k, false) st = ((k + ext.length, false), none)
  | f, [], pl, _, _ => ⟨[], by cases f <;> simp [runF], rfl, fun plan k _ _ => by cases f <;> simp [runF]⟩
  | 0, q :: st, pl, h, _ => by simp [mS, mP] at h
  | f + 1, q :: st, pl, h, hg => by
    have hq := hg q (by simp)
    by_cases h2 : q.ls.length < 2
    · obtain ⟨ext, e1, e2, e3⟩ := run_plan f st pl (by simp only [mS, mP] at h; omega) fun q hq => hg q (by simp [hq])
      refine ⟨ext, by simp only [runF, if_pos h2, e1], by simp only [nC, e2]; omega, fun plan k h3 h4 => ?_⟩
      simp only [runF, if_pos h2]
      exact e3 plan k h3 h4
    · have hne := cuts_ne hq (by omega)
      cases hc : cutsP q with
      | nil => exact absurd hc hne
      | cons c cs =>
        have hcm : c ∈ cutsP q := by rw [hc]; simp
        have hgd := (List.mem_filter.1 hcm).2
        unfold good at hgd
        cases hd : dvd q c.1 c.2 with
        | none => rw [hd] at hgd; cases hgd
        | some r =>
          obtain ⟨a, b, is⟩ := r
          rw [hd] at hgd
          simp only at hgd
          subst hgd
          obtain ⟨ga, gb, hl, hi, _⟩ := dvd_spec hq hd
          obtain ⟨na, nb⟩ := hi.1 rfl
          have hms := mS_div (st := st) hl na nb
          obtain ⟨ext, e1, e2, e3⟩ := run_plan f (a :: b :: st) (pl ++ [c]) (by omega) fun x hx => by
            rcases List.mem_cons.1 hx with rfl | hx
            · exact ga
            rcases List.mem_cons.1 hx with rfl | hx
            · exact gb
            · exact hg x (by simp [hx])
          have l1 := List.length_pos_iff.2 na
          have l2 := List.length_pos_iff.2 nb
          refine ⟨c :: ext, ?_, ?_, fun plan k h3 h4 => ?_⟩
          · simp only [runF, if_neg h2, stepP, hc, hd, e1, List.append_assoc, List.cons_append, List.nil_append]
          · simp only [List.length_cons, e2, nC]; omega
          · simp only [List.length_cons] at h3 h4
            have hk := h3 0 (by omega)
            simp only [Nat.add_zero, List.getElem?_cons_zero] at hk
            simp only [runF, if_neg h2, stepV, if_neg (show ¬ k = plan.length by omega), hk, hd]
            rw [e3 plan (k + 1) (fun i hi => by have := h3 (i + 1) (by omega); rw [List.getElem?_cons_succ] at this; rw [← this]; congr 1; omega) (by omega)]
            simp only [List.length_cons]
            congr 2
            omega
end Go.Proofs.YtdcpkgedaflnmaaGreatDoor.Cq
set_option linter.unusedVariables false
set_option linter.unusedSimpArgs false
namespace Go.Proofs.YtdcpkgedaflnmaaGreatDoor.Cq
open Go Fw

def lC (l : Lab) : List AV := [.int .i64 (l.x : Int), .int .i64 (l.y : Int), .int .i64 (l.w : Int), .int .i64 (l.h : Int)]
def lA (l : Lab) : AV := .agg (lC l)
theorem lA_sto (l : Lab) : (AV.agg (lC l)).sto = true := rfl
theorem lA_cells (l : Lab) : (AV.agg (lC l)).cells = lC l := rfl
theorem lf0 (l : Lab) : afaddr false 1 0 (.ptr (.agg (lC l))) = some (.ptr (.int .i64 (l.x : Int))) := rfl
theorem lf1 (l : Lab) : afaddr false 1 1 (.ptr (.agg (lC l))) = some (.ptr (.int .i64 (l.y : Int))) := rfl
theorem lf2 (l : Lab) : afaddr false 1 2 (.ptr (.agg (lC l))) = some (.ptr (.int .i64 (l.w : Int))) := rfl
theorem lf3 (l : Lab) : afaddr false 1 3 (.ptr (.agg (lC l))) = some (.ptr (.int .i64 (l.h : Int))) := rfl
theorem lld (l : Lab) {hp : Nat → Option (List AV)} : aload hp true 4 (.ptr (.agg (lC l))) = some (.agg (lC l)) := rfl
def Lab.sm (l : Lab) : Prop := l.x < 100 ∧ l.y < 100 ∧ l.w < 100 ∧ l.h < 100
theorem p76 {l : Lab} (h : l.sm) : PCall Tryz.prog 76 [.agg (lC l)] (.tup [.int .i64 ((sd true l).1 : Int), .int .i64 ((sd true l).2 : Int)]) := by
  obtain ⟨h1, h2, h3, h4⟩ := h
  have w1 : IntKind.i64.wrap ((l.x : Int) + (l.w : Int)) = (l.x : Int) + (l.w : Int) := wrap64 (by omega) (by omega)
  have hs0 := lA_sto l
  refine PCall.of CtxOk.nil ok76 (by simp) rfl fun hs hb => ?_
  simp [A76, R76, hs0, lf0, lf2, w1, sd]
theorem p78 {l : Lab} (h : l.sm) : PCall Tryz.prog 78 [.agg (lC l)] (.tup [.int .i64 ((sd false l).1 : Int), .int .i64 ((sd false l).2 : Int)]) := by
  obtain ⟨h1, h2, h3, h4⟩ := h
  have w1 : IntKind.i64.wrap ((l.y : Int) + (l.h : Int)) = (l.y : Int) + (l.h : Int) := wrap64 (by omega) (by omega)
  have hs0 := lA_sto l
  refine PCall.of CtxOk.nil ok78 (by simp) rfl fun hs hb => ?_
  simp [A78, R78, hs0, lf1, lf3, w1, sd]
def fS (up : Bool) : Nat := if up = true then 76 else 78
theorem pS (up : Bool) {l : Lab} (h : l.sm) : PCall Tryz.prog (fS up) [.agg (lC l)] (.tup [.int .i64 ((sd up l).1 : Int), .int .i64 ((sd up l).2 : Int)]) := by
  cases up
  · exact p78 h
  · exact p76 h
theorem p135 (up : Bool) (p : Nat) : PCall Tryz.prog 135 [.agg [.bool up, .int .i64 (p : Int)]] (.fn (.func (fS up)) [] []) := by
  have hs0 : (AV.agg [.bool up, .int .i64 (p : Int)]).sto = true := rfl
  have f0 : afaddr false 1 0 (.ptr (.agg [.bool up, .int .i64 (p : Int)])) = some (.ptr (.bool up)) := rfl
  refine PCall.of CtxOk.nil ok135 (by simp) (by simp [AV.plain, plainL]) fun hs hb => ?_
  cases up <;> simp [A135, R135, hs0, f0, fS] <;> rfl
def ovB (up : Bool) (a b : Lab) : Bool := decide ((sd up a).1 < (sd up b).2) && decide ((sd up b).1 < (sd up a).2)
theorem p77 (up : Bool) {a b : Lab} (ha : a.sm) (hb : b.sm) : PCall Tryz.prog 77 [.fn (.func (fS up)) [] [], .agg (lC a), .agg (lC b)] (.bool (ovB up a b)) := by
  have hs1 := lA_sto a
  have hs2 := lA_sto b
  have pa := pS up ha
  have pb := pS up hb
  refine PCall.of CtxOk.nil ok77 (by simp) rfl fun hs hb => ?_
  generalize fS up = f at *
  simp [A77, R77, hs1, hs2, lld]
  refine At.hp pa ?_
  simp [lld]
  refine At.hp pb ?_
  by_cases c1 : (sd up a).1 < (sd up b).2
  · simp [c1, ovB]
  · simp [c1, ovB]
end Go.Proofs.YtdcpkgedaflnmaaGreatDoor.Cq
set_option linter.unusedVariables false
set_option linter.unusedSimpArgs false
namespace Go.Proofs.YtdcpkgedaflnmaaGreatDoor.Cq
open Go Fw

theorem At.gen {K : AS → Prop} {s0 : AS} (J : AS → Prop) (h : J s0) (h2 : ∀ s, J s → At (K s)) : At (K s0) := h2 s0 h
theorem frr {ag : Bool} {sz n p o : Nat} : afaddr ag sz n (.ref p o) = some (.ref p (o + n)) := rfl
/-- a layout that is none the worse -/
structure LOk (W H : Nat) (ls : List Lab) : Prop where
  w1 : 1 ≤ W
  w2 : W ≤ 12
  h1 : 1 ≤ H
  h2 : H ≤ 12
  le : ls.length ≤ 10
  inn : ∀ l ∈ ls, lIn ⟨0, 0, W, H⟩ l
  ov : ∀ i j (hi : i < ls.length) (hj : j < i), (ovB true ls[i] (ls[j]'(by omega)) && ovB false ls[i] (ls[j]'(by omega))) = false
theorem LOk.sm {W H : Nat} {ls : List Lab} (h : LOk W H ls) {l : Lab} (hl : l ∈ ls) : l.sm := by
  have h1 := h.inn l hl
  have h2 := h.w2
  have h3 := h.h2
  simp only [lIn] at h1
  exact ⟨by omega, by omega, by omega, by omega⟩
def layV (W H : Nat) (x : AV) : AV := .agg [.int .i64 (W : Int), .int .i64 (H : Int), x]
structure IsL (x : AV) (ls : List Lab) : Prop where
  av : asV 4 x = some (ls.map lA)
theorem IsL.len {x : AV} {ls : List Lab} (h : IsL x ls) : alenK false x = some (.int .i64 (ls.length : Int)) := by
  have := lenV h.av
  simpa using this
theorem IsL.get {x : AV} {ls : List Lab} (h : IsL x ls) {i : Nat} (hi : i < ls.length) : aidxS 4 x (.int .i64 (i : Int)) = some (.ptr (.agg (lC ls[i]))) := by
  have := idxV h.av (k := .i64) (i := i) (by simpa using hi)
  simpa [lA] using this
theorem IsL.leaf {x : AV} {ls : List Lab} (h : IsL x ls) : x.leaf = true := by
  rcases (asV_inv h.av).1 with ⟨rfl, _⟩ | ⟨c, rfl⟩ <;> rfl
theorem IsL.take {x : AV} {ls : List Lab} (h : IsL x ls) (n : Nat) : IsL (takeV n x) (ls.take n) := ⟨by have := asV_take h.av n; rw [← List.map_take] at this; exact this⟩
theorem ctxS : ∃ C, CtxOk Tryz.prog C ∧ C 75 = Ct.SB ∧ (∀ a b : Lab, a.sm → b.sm → C 77 [.fn (.func 76) [] [], .agg (lC a), .agg (lC b)] = some (.bool (ovB true a b))) ∧ ∀ a b : Lab, a.sm → b.sm → C 77 [.fn (.func 78) [] [], .agg (lC a), .agg (lC b)] = some (.bool (ovB false a b)) := by
  have e : ∀ x y : Lab, lC x = lC y → x = y := by
    rintro ⟨a1, a2, a3, a4⟩ ⟨b1, b2, b3, b4⟩ h
    simp [lC] at h
    obtain ⟨g1, g2, g3, g4⟩ := h
    rw [show a1 = b1 by omega, show a2 = b2 by omega, show a3 = b3 by omega, show a4 = b4 by omega]
  obtain ⟨C, hC, k, n⟩ := ctx_fam Ct.C0ok 77 (fun q : {q : Bool × Lab × Lab // q.2.1.sm ∧ q.2.2.sm} => [.fn (.func (fS q.1.1)) [] [], .agg (lC q.1.2.1), .agg (lC q.1.2.2)]) (fun q => .bool (ovB q.1.1 q.1.2.1 q.1.2.2)) (fun q => p77 q.1.1 q.2.1 q.2.2) (by
    rintro ⟨⟨u1, a, b⟩, ha⟩ ⟨⟨u2, c, d⟩, hc⟩ h
    simp only [List.cons.injEq, AV.fn.injEq, AV.agg.injEq, Fn.func.injEq, and_true] at h
    have hu : u1 = u2 := by
      cases u1 <;> cases u2 <;> simp [fS] at h <;> rfl
    simp only
    rw [hu, e _ _ h.2.1, e _ _ h.2.2])
  exact ⟨C, hC, by rw [n 75 (by decide)]; rfl, fun a b ha hb => k ⟨(true, a, b), ha, hb⟩, fun a b ha hb => k ⟨(false, a, b), ha, hb⟩⟩
set_option maxHeartbeats 1000000 in
theorem p31 {x : AV} {ls : List Lab} {W H : Nat} (hx : IsL x ls) (hL : LOk W H ls) : PCall Tryz.prog 31 [layV W H x] (.int .i64 0) := by
  obtain ⟨C, hC, k75, k76, k78⟩ := ctxS
  have hsto : (layV W H x).sto = true := by
    rcases (asV_inv hx.av).1 with ⟨rfl, _⟩ | ⟨c, rfl⟩ <;> rfl
  have hcl : (layV W H x).cells = [.int .i64 (W : Int), .int .i64 (H : Int), x] := by
    rcases (asV_inv hx.av).1 with ⟨rfl, _⟩ | ⟨c, rfl⟩ <;> rfl
  have f0 : afaddr false 1 0 (.ptr (layV W H x)) = some (.ptr (.int .i64 (W : Int))) := by simp [afaddr, hcl, apart]
  have f1 : afaddr false 1 1 (.ptr (layV W H x)) = some (.ptr (.int .i64 (H : Int))) := by simp [afaddr, hcl, apart]
  have f2 : afaddr false 1 2 (.ptr (layV W H x)) = some (.ptr x) := by simp [afaddr, hcl, apart]
  have l2 := leaf_ld hx.leaf
  have hw1 := hL.w1
  have hw2 := hL.w2
  have hh1 := hL.h1
  have hh2 := hL.h2
  have hle := hL.le
  have c1 : (1 : Int) ≤ (W : Int) := by omega
  have c2 : (W : Int) ≤ 12 := by omega
  have c3 : (1 : Int) ≤ (H : Int) := by omega
  have c4 : (H : Int) ≤ 12 := by omega
  have c5 : ¬ 10 < ls.length := by omega
  have c5' : ¬ (10 : Int) < (ls.length : Int) := by omega
  refine PCall.of hC ok31 (by simp) rfl fun hs hb => ?_
  generalize layV W H x = L at *
  simp only [A31, R31]
  rw [At.awp_seq]
  simp [hsto, -At.awp_seq]
  rw [At.awp_seq]
  simp only [At.awp_block]
  rw [At.awp_seq]
  simp [f0, f1, f2, l2, k75, c1, c2, c3, c4, c5, c5', hx.len, -At.awp_seq]
  rw [At.awp_seq]
  simp [f2, l2, c5, c5', hx.len, -At.awp_seq]
  have hz4 : ∀ hs : HS, ∀ l : Lab, astore (fun i => if i = hs.nh then some [.int .i64 0, .int .i64 0, .int .i64 0, .int .i64 0] else hs.heap i) 4 (.ref hs.nh 0) (.agg (lC l)) = some fun k => if k = hs.nh then some (lC l) else if k = hs.nh then some [.int .i64 0, .int .i64 0, .int .i64 0, .int .i64 0] else hs.heap k :=
    fun hs l => sto_agg (ys := [.int .i64 0, .int .i64 0, .int .i64 0, .int .i64 0]) (by simp) (lA_sto l) (lA_cells l) rfl rfl
  rw [At.awp_seq]
  refine At.cut (fun s => s.env 1 = .ptr L) ?_ ?_
  · rw [At.awp_seq]
    simp [f2, l2, hx.len, -At.awp_seq]
    refine At.loop (fun (i : Nat) s => i ≤ ls.length ∧ s.env 1 = .ptr L ∧ s.env 26 = x ∧ s.env 27 = .int .i64 (ls.length : Int) ∧ s.env 28 = .int .i64 (i : Int)) (fun i => ls.length - i) 0 ?_ ?_
    · simp
    rintro N i s hN ⟨hi, e1, e26, e27, e28⟩
    simp [e27, e28]
    refine At.dec (fun hlt => ?_) (fun hlt => ?_)
    rotate_left
    · simp
      exact At.of e1
    have hi' : i < ls.length := by omega
    have hg := hx.get hi'
    have hm := hL.inn _ (List.getElem_mem hi')
    have hsm := hL.sm (List.getElem_mem hi')
    generalize ls[i] = l at *
    simp only [lIn, Nat.zero_add] at hm
    obtain ⟨m1, m2, m3, m4, m5, m6⟩ := hm
    have st := hz4 s.hs l
    simp [e26, e28, hg, lld, st]
    generalize hh : (fun k => if k = s.hs.nh then some (lC l) else if k = s.hs.nh then some [.int .i64 0, .int .i64 0, .int .i64 0, .int .i64 0] else s.hs.heap k) = h'
    have g0 : h' s.hs.nh = some (lC l) := by rw [← hh]; simp
    generalize s.hs.nh = p at *
    have a0 : aload h' false 1 (.ref p 0) = some (.int .i64 (l.x : Int)) := ldc g0 rfl
    have a1 : aload h' false 1 (.ref p 1) = some (.int .i64 (l.y : Int)) := ldc g0 rfl
    have a2 : aload h' false 1 (.ref p 2) = some (.int .i64 (l.w : Int)) := ldc g0 rfl
    have a3 : aload h' false 1 (.ref p 3) = some (.int .i64 (l.h : Int)) := ldc g0 rfl
    have ws1 : IntKind.i64.wrap ((W : Int) - (l.x : Int)) = ((W - l.x : Nat) : Int) := by rw [wrap64 (by omega) (by omega)]; omega
    have ws2 : IntKind.i64.wrap ((H : Int) - (l.y : Int)) = ((H - l.y : Nat) : Int) := by rw [wrap64 (by omega) (by omega)]; omega
    obtain ⟨z1, hz1⟩ : ∃ z : Int, z = ((W - l.x : Nat) : Int) := ⟨_, rfl⟩
    obtain ⟨z2, hz2⟩ : ∃ z : Int, z = ((H - l.y : Nat) : Int) := ⟨_, rfl⟩
    rw [← hz1] at ws1
    rw [← hz2] at ws2
    have b1 : ¬ (l.w : Int) < 1 := by omega
    have b2 : ¬ (l.h : Int) < 1 := by omega
    have b3 : l.x ≤ W := by omega
    have b4 : l.y ≤ H := by omega
    have b5 : ¬ z1 < (l.w : Int) := by omega
    have b6 : ¬ z2 < (l.h : Int) := by omega
    simp [frr, a0, a1, a2, a3, b1, b2, e1, f0, f1, k75, b3, b4, ws1, ws2, b5, b6, e28]
    refine hN (i + 1) _ (by omega) ⟨by omega, by simp [e1], by simp [e26], by simp [e27], by simp [wrap_nat1 (show i < _ by omega)]⟩
  rintro s e1
  rw [At.awp_seq]
  refine At.cut (fun _ => True) ?_ ?_
  rotate_left
  · rintro s _
    simp
  rw [At.awp_seq]
  simp [e1, f2, l2, hx.len, -At.awp_seq]
  refine At.loop (fun (i : Nat) s => i ≤ ls.length ∧ s.env 1 = .ptr L ∧ s.env 78 = x ∧ s.env 79 = .int .i64 (ls.length : Int) ∧ s.env 80 = .int .i64 (i : Int)) (fun i => ls.length - i) 0 ?_ ?_
  · simp [e1]
  clear e1 s
  rintro N i s hN ⟨hi, e1, e78, e79, e80⟩
  simp [e79, e80]
  refine At.dec (fun hlt => ?_) (fun hlt => ?_)
  rotate_left
  · simp
  have hi' : i < ls.length := by omega
  have hg := hx.get hi'
  have hsl : aslice 4 x none (some (.int .i64 (i : Int))) none = some (takeV i x) := slice_take hx.av (by simp; omega)
  have hxt := hx.take i
  have htl := hxt.len
  rw [List.length_take, Nat.min_eq_left hi] at htl
  have st := hz4 s.hs ls[i]
  simp [e1, e78, e80, hg, lld, st, f2, l2, hsl, htl]
  generalize hh : (fun k => if k = s.hs.nh then some (lC ls[i]) else if k = s.hs.nh then some [.int .i64 0, .int .i64 0, .int .i64 0, .int .i64 0] else s.hs.heap k) = h'
  have g0 : h' s.hs.nh = some (lC ls[i]) := by rw [← hh]; simp
  obtain ⟨p, hp⟩ : ∃ p, p = s.hs.nh := ⟨_, rfl⟩
  rw [← hp] at g0
  refine At.loop (fun (j : Nat) s => j ≤ i ∧ s.env 1 = .ptr L ∧ s.env 78 = x ∧ s.env 79 = .int .i64 (ls.length : Int) ∧ s.env 80 = .int .i64 (i : Int) ∧ s.env 6 = .ref p 0 ∧ s.hs.heap p = some (lC ls[i]) ∧ p < s.hs.nh ∧ s.env 88 = takeV i x ∧ s.env 89 = .int .i64 (i : Int) ∧ s.env 90 = .int .i64 (j : Int)) (fun j => i - j) 0 ?_ ?_
  · exact ⟨by omega, by simp [e1], by simp [e78], by simp [e79], by simp [e80], by simp [hp], g0, by simp [hp], by simp, by simp, by simp⟩
  clear e1 e78 e79 e80 st hh g0 hp s
  rintro N2 j s hN2 ⟨hj, e1, e78, e79, e80, e6, hq, hpn, e88, e89, e90⟩
  simp [e89, e90]
  refine At.dec (fun hlt2 => ?_) (fun hlt2 => ?_)
  · have hj' : j < i := by omega
    have hgj := hxt.get (i := j) (by rw [List.length_take]; omega)
    rw [List.getElem_take] at hgj
    have st := hz4 s.hs ls[j]
    simp [e88, e90, hgj, lld, st]
    generalize hh2 : (fun k => if k = s.hs.nh then some (lC ls[j]) else if k = s.hs.nh then some [.int .i64 0, .int .i64 0, .int .i64 0, .int .i64 0] else s.hs.heap k) = h2
    have g1 : h2 s.hs.nh = some (lC ls[j]) := by rw [← hh2]; simp
    have hne : ¬ p = s.hs.nh := by omega
    have g2 : h2 p = some (lC ls[i]) := by rw [← hh2]; simp [hne, hq]
    have a1 : aload h2 true 4 (.ref s.hs.nh 0) = some (.agg (lC ls[j])) := ld_agg g1 rfl
    have a2 : aload h2 true 4 (.ref p 0) = some (.agg (lC ls[i])) := ld_agg g2 rfl
    have smi := hL.sm (List.getElem_mem hi')
    have smj := hL.sm (List.getElem_mem (show j < ls.length by omega))
    have hov := hL.ov i j hi' hj'
    have o1 := k76 _ _ smi smj
    have o2 := k78 _ _ smi smj
    have fin : ∀ s' : AS, s'.env 1 = .ptr L → s'.env 78 = x → s'.env 79 = .int .i64 (ls.length : Int) → s'.env 80 = .int .i64 (i : Int) → s'.env 6 = .ref p 0 → s'.hs.heap p = some (lC ls[i]) → p < s'.hs.nh → s'.env 88 = takeV i x → s'.env 89 = .int .i64 (i : Int) → s'.env 90 = .int .i64 ((j : Int) + 1) → At (N2 s') := fun s' q1 q2 q3 q4 q5 q6 q7 q8 q9 q10 => hN2 (j + 1) s' (by omega) ⟨by omega, q1, q2, q3, q4, q5, q6, q7, q8, q9, by simpa using q10⟩
    cases hb1 : ovB true ls[i] ls[j] with
    | false =>
      rw [hb1] at o1
      simp [e6, a1, a2, o1, e90]
      refine fin _ ?_ ?_ ?_ ?_ ?_ ?_ ?_ ?_ ?_ ?_ <;> first | (simp [e1, e78, e79, e80, e6, e88, e89, g2, wrap_nat1 (show j < _ by omega)]; done) | (simp; omega)
    | true =>
      rw [hb1] at o1
      rw [hb1, Bool.true_and] at hov
      rw [hov] at o2
      simp [e6, a1, a2, o1, o2, e90]
      refine fin _ ?_ ?_ ?_ ?_ ?_ ?_ ?_ ?_ ?_ ?_ <;> first | (simp [e1, e78, e79, e80, e6, e88, e89, g2, wrap_nat1 (show j < _ by omega)]; done) | (simp; omega)
  · simp [e80]
    exact hN (i + 1) _ (by omega) ⟨by omega, by simp [e1], by simp [e78], by simp [e79], by simp [wrap_nat1 (show i < _ by omega)]⟩
end Go.Proofs.YtdcpkgedaflnmaaGreatDoor.Cq
set_option linter.unusedVariables false
set_option linter.unusedSimpArgs false
namespace Fw
open Go
/-- a slice that nothing is appended to any more, read as mutable cells -/
theorem FCall.oslm {P : Program} {f : FuncId} {args : List AV} {hs : HS} {ag : Bool} {sz i len k : Nat} {R : HS → Prop} (h : FCall P f args hs fun e hs' => e = .ret (.osl ag sz i len k) ∧ R hs') : FCall P f args hs fun e hs' => e = .ret (.msl ag sz i 0 len false) ∧ R hs' := by
  refine ⟨h.ok, fun c w vs hi hv => (h.run c w vs hi hv).mono ?_⟩
  rintro e w' ⟨ae, hs', c', ⟨rfl, hR⟩, he, h2, h3⟩
  refine ⟨_, hs', c', ⟨rfl, hR⟩, ?_, h2, h3⟩
  cases e with
  | returned v =>
    have he : Rep c' v (.osl ag sz i len k) := he
    cases he with
    | osl _ _ _ _ cap _ hi' hcap => exact Rep.msl (c := c') ag sz i 0 len cap false hi' hcap.1 (fun e => by cases e)
  | _ => exact he
end Fw
namespace Go.Proofs.YtdcpkgedaflnmaaGreatDoor.Cq
open Go Fw

/-- labels in memory -/
def lab (ls : List Lab) : List AV := ent (fun k => lC (ls.getD k default)) ls.length
theorem lab_flat (ls : List Lab) : flat (ls.map lA) = lab ls := by
  have e : ls.map lA = (List.range ls.length).map fun k => lA (ls.getD k default) := by
    apply List.ext_getElem
    · simp
    · intro i h1 h2
      have : i < ls.length := by simpa using h1
      simp [this]
  have h : ∀ l : List Nat, flat (l.map fun k => lA (ls.getD k default)) = (l.map fun k => lC (ls.getD k default)).flatten := by
    intro l
    induction l with
    | nil => rfl
    | cons a l ih => simp only [List.map_cons, flat, List.flatten_cons, ih]; rfl
  rw [e, h]
  rfl
theorem lab_ld {hp : Nat → Option (List AV)} {q k : Nat} {ls : List Lab} (h : hp q = some (lab ls)) (hk : k < ls.length) : aload hp true 4 (.ref q (4 * k)) = some (.agg (lC (ls.getD k default))) := ent_ld (G := fun k => lC (ls.getD k default)) (z := 4) (fun k => rfl) h hk
theorem lab_sto {hp : Nat → Option (List AV)} {q k : Nat} {ls : List Lab} (h : hp q = some (lab ls)) (hk : k < ls.length) (l : Lab) : astore hp 4 (.ref q (4 * k)) (.agg (lC l)) = some fun j => if j = q then some (lab (ls.set k l)) else hp j := by
  have := ent_sto (G := fun k => lC (ls.getD k default)) (z := 4) (xs := lC l) (fun k => rfl) h hk (lA_sto l) (lA_cells l) rfl
  rw [this]
  have e : ent (fun j => if j = k then lC l else lC (ls.getD j default)) ls.length = lab (ls.set k l) := by
    unfold lab
    rw [List.length_set]
    refine ent_cong fun j hj => ?_
    by_cases h : j = k
    · subst h; simp [hj]
    · rw [if_neg h]
      have : ¬ k = j := fun e => h e.symm
      simp [List.getD, List.getElem?_set, this]
  rw [e]
theorem idx_lab {q n i : Nat} (h : i < n) : aidxS 4 (.msl true 4 q 0 n false) (.int .i64 (i : Int)) = some (.ref q (4 * i)) := by
  simp [aidxS, h]; omega
theorem p136 {x : AV} {ls : List Lab} (hx : IsL x ls) (hne : ls ≠ []) (hl : ls.length ≤ 1000) (hs : HS) : FCall Tryz.prog 136 [x] hs fun e hs' => e = .ret (.msl true 4 hs.nh 0 ls.length false) ∧ hs'.heap hs.nh = some (lab ls) ∧ hs'.nh = hs.nh + 1 ∧ ∀ k, k < hs.nh → hs'.heap k = hs.heap k := by
  refine FCall.oslm (k := hs.nt) ?_
  obtain ⟨c, rfl⟩ : ∃ c, x = .sl 4 (ls.map lA) c := by
    rcases (asV_inv hx.av).1 with ⟨rfl, h⟩ | ⟨c, rfl⟩
    · exact absurd (by simpa using h) hne
    · exact ⟨c, rfl⟩
  have hag : agOf (ls.map lA) = true := by
    cases ls with
    | nil => exact absurd rfl hne
    | cons a l => rfl
  have ha : aappm 4 hs (.sl 4 [] .exact) (.sl 4 (ls.map lA) c) = some (.osl true 4 hs.nh ls.length hs.nt, { hs with heap := fun i => if i = hs.nh then some (lab ls) else hs.heap i, nh := hs.nh + 1, nt := hs.nt + 1, tok := fun t => if t = hs.nt then true else hs.tok t }) := by
    unfold aappm
    simp only [aelemsH, aelems]
    rw [if_pos ⟨rfl, rfl, rfl, by simp; omega⟩, if_neg (by simpa using hne)]
    simp only [List.nil_append, lab_flat, hag, List.length_nil, Nat.zero_add, List.length_map]
    rfl
  refine FCall.ofAt CtxOk.nil ok136 (by simp) ?_
  simp [A136, R136, ha, astoAll]
  exact At.of fun k hk e => by omega
theorem aRes3 {s : AS} {a1 a2 : Bool} {s1 s2 n m k : Nat} {x y : AV} (h1 : aload s.hs.heap a1 s1 (s.env n) = some x) (h2 : aload s.hs.heap a2 s2 (s.env m) = some y) : aResult s [.cell a1 s1 n, .cell a2 s2 m, .t k] = some (.tup [x, y, s.env k]) := by simp [aResult, aResL, aRes, h1, h2]
/-- what stays while labels are put before and behind a cut -/
structure D9 (X Y : AV) (f b m L : Nat) (s : AS) : Prop where
  e2 : s.env 2 = .ptr X
  e3 : s.env 3 = .ptr Y
  e4 : s.env 4 = .ref b 0
  e5 : s.env 5 = .ref (b + 1) 0
  e6 : s.env 6 = .bool false
  e7 : s.env 7 = .fn (.func f) [] []
  e10 : s.env 10 = .msl true 4 m 0 L false
  h4 : s.hs.heap b = some [.int .i64 0, .int .i64 0, .int .i64 0, .int .i64 0, .nilsl]
  h5 : s.hs.heap (b + 1) = some [.int .i64 0, .int .i64 0, .int .i64 0, .int .i64 0, .nilsl]
  bm : b + 1 < m
/-- a piece as a value -/
def pcC (q : Pc) (x : AV) : List AV := lC q.r ++ [x]
def pcV (q : Pc) (c : Cap) : AV := .agg (pcC q (.sl 4 (q.ls.map lA) c))
def pc0 : AV := .agg [.int .i64 0, .int .i64 0, .int .i64 0, .int .i64 0, .nilsl]
def dvR (q : Pc) (up : Bool) (p : Nat) : AV := match dvd q up p with
  | none => .tup [pc0, pc0, .bool false]
  | some (a, b, is) => .tup [pcV a .exact, pcV b .shared, .bool is]
theorem lab_cell {ls : List Lab} {k : Nat} (hk : k < ls.length) : ((lab ls).drop (4 * k)).take 4 = lC (ls.getD k default) := by
  have := ent_ld (hp := fun _ => some (lab ls)) (i := 0) (G := fun k => lC (ls.getD k default)) (z := 4) (fun k => rfl) rfl hk
  simp only [aload, Option.bind_some, apart, if_true] at this
  split at this
  · injection this with this
    injection this
  · cases this
theorem lab_len (ls : List Lab) : (lab ls).length = 4 * ls.length := ent_len (G := fun k => lC (ls.getD k default)) (z := 4) (fun k => rfl) _
theorem mcont_lab {ls : List Lab} {a c : Nat} (h1 : a ≤ c) (h2 : c ≤ ls.length) : mcont true 4 (a * 4) (c - a) (lab ls) = some (((ls.take c).drop a).map lA) := by
  unfold mcont
  rw [if_pos ⟨by rw [lab_len]; omega, .inl rfl⟩]
  congr 1
  apply List.ext_getElem
  · simp; omega
  · intro k h3 h4
    have hk : k < c - a := by simpa using h3
    simp only [List.getElem_map, List.getElem_range, if_true, List.getElem_drop, List.getElem_take]
    have := lab_cell (ls := ls) (k := a + k) (by omega)
    rw [show a * 4 + k * 4 = 4 * (a + k) by omega, this]
    simp [show a + k < ls.length by omega, lA]
theorem frz_lA (h : Nat → Option (List AV)) (n : Nat) (l : Lab) : frzC (frzL h n) (lA l) = lA l := by
  cases n <;> rfl
theorem share_lA (l : Lab) : (lA l).share = lA l := by simp [lA, lC, AV.share]
theorem frz_sub {h : Nat → Option (List AV)} {m a c : Nat} {ls : List Lab} {ex : Bool} (hm : h m = some (lab ls)) (h1 : a ≤ c) (h2 : c ≤ ls.length) : (frzL h 2 (amsub true 4 m 0 a c ex)).share = .sl 4 (((ls.take c).drop a).map lA) (if ex = true then .exact else .shared) := by
  unfold amsub
  by_cases hac : a = c
  · subst hac
    rw [if_pos rfl]
    have : (ls.take a).drop a = [] := by simp
    rw [this]
    cases ex <;> rfl
  · rw [if_neg hac, Nat.zero_add]
    have hc := mcont_lab h1 h2
    have : frzL h 2 (.msl true 4 m (a * 4) (c - a) ex) = .sl 4 ((((ls.take c).drop a).map lA).map (frzC (frzL h 1))) (if ex = true then .exact else .shared) := by
      show (match h m with | some ys => (match mcont true 4 (a * 4) (c - a) ys with | some xs => AV.sl 4 (xs.map (frzC (frzL h 1))) (if ex = true then .exact else .shared) | none => _) | none => _) = _
      rw [hm]
      simp only [hc]
    rw [this]
    simp only [List.map_map, share_sl]
    have e : ((AV.share ∘ (frzC (frzL h 1) ∘ lA)) : Lab → AV) = lA := by
      funext l
      simp only [Function.comp, frz_lA, share_lA]
    rw [e]
    cases ex <;> rfl
theorem sub_leaf {m a c : Nat} {ex : Bool} : (amsub true 4 m 0 a c ex).leaf = true := by
  unfold amsub
  split <;> rfl
theorem pc_sto {l : Lab} {v : AV} (hv : v.leaf = true) : (AV.agg (lC l ++ [v])).sto = true := by
  cases v <;> first | rfl | (simp [AV.leaf] at hv)
theorem pc_cells {l : Lab} {v : AV} (hv : v.leaf = true) : (AV.agg (lC l ++ [v])).cells = lC l ++ [v] := by
  cases v <;> first | rfl | (simp [AV.leaf] at hv)
theorem pc_fill {l : Lab} {v : AV} (hv : v.leaf = true) : afill [.int .i64 0, .int .i64 0, .int .i64 0, .int .i64 0, .nilsl] [(0, 4, .agg (lC l)), (4, 1, v)] = some (lC l ++ [v]) := by
  cases v <;> first | rfl | (simp [AV.leaf] at hv)
set_option maxHeartbeats 1000000 in
theorem p109 {x : AV} {q : Pc} (hx : IsL x q.ls) (hg : GP q) (h2 : 2 ≤ q.ls.length) (hl : q.ls.length ≤ 1000) (hsm : q.r.sm) (up : Bool) {p : Nat} (hp : p < 100) : PCall Tryz.prog 109 [.agg (pcC q x), .agg [.bool up, .int .i64 (p : Int)]] (dvR q up p) := by
  obtain ⟨C, hC, k135, n⟩ := ctx_pt Ct.C0ok 135 _ _ (p135 up p)
  have k75 : C 75 = Ct.SB := by rw [n 75 (by decide)]; rfl
  have hxl := hx.leaf
  have hst1 : (AV.agg (pcC q x)).sto = true := by
    rcases (asV_inv hx.av).1 with ⟨rfl, _⟩ | ⟨c, rfl⟩ <;> rfl
  have hcl1 : (AV.agg (pcC q x)).cells = pcC q x := by
    rcases (asV_inv hx.av).1 with ⟨rfl, _⟩ | ⟨c, rfl⟩ <;> rfl
  have hst2 : (AV.agg [.bool up, .int .i64 (p : Int)]).sto = true := rfl
  have f1 : afaddr true 4 0 (.ptr (.agg (pcC q x))) = some (.ptr (.agg (lC q.r))) := by simp only [afaddr, hcl1]; rfl
  have f2 : afaddr false 1 4 (.ptr (.agg (pcC q x))) = some (.ptr x) := by simp only [afaddr, hcl1]; rfl
  have f3 : afaddr false 1 0 (.ptr (.agg [.bool up, .int .i64 (p : Int)])) = some (.ptr (.bool up)) := rfl
  have f4 : afaddr false 1 1 (.ptr (.agg [.bool up, .int .i64 (p : Int)])) = some (.ptr (.int .i64 (p : Int))) := rfl
  have l2 := leaf_ld hxl
  have l3 : ∀ hp, aload hp true 2 (.ptr (.agg [.bool up, .int .i64 (p : Int)])) = some (.agg [.bool up, .int .i64 (p : Int)]) := fun hp => rfl
  have hpl : (dvR q up p).plain = true := by
    have e : ∀ l : List Lab, plainL (l.map lA) = true := by
      intro l
      induction l with
      | nil => rfl
      | cons a l ih => simp only [List.map_cons, plainL, ih, Bool.and_true]; rfl
    unfold dvR
    split
    · rfl
    · simp only [pcV, pcC, lC, AV.plain, plainL, List.cons_append, List.nil_append, e, Bool.and_self]
  refine PCall.ofZ hC ok109 (by simp) hpl fun hs hb => ?_
  simp only [A109, R109]
  generalize hA : AV.agg (pcC q x) = X at *
  generalize hB : AV.agg [.bool up, .int .i64 (p : Int)] = Y at *
  rw [At.awp_seq]
  simp [hst1, hst2, -At.awp_seq]
  rw [At.awp_seq]
  simp [l3, k135, -At.awp_seq]
  rw [At.awp_seq]
  simp [f1, lld, -At.awp_seq]
  refine At.hp (pS up hsm) ?_
  simp [-At.awp_seq]
  have hfs : ∀ (l : Lab) , l.sm → PCall Tryz.prog (fS up) [.agg (lC l)] (.tup [.int .i64 ((sd up l).1 : Int), .int .i64 ((sd up l).2 : Int)]) := fun l h => pS up h
  have hsd : ∀ l : Lab, l.sm → (sd up l).1 < 1000 ∧ (sd up l).2 < 1000 := by
    rintro l ⟨a1, a2, a3, a4⟩
    cases up <;> simp [sd] <;> omega
  have hq12 := hsd _ hsm
  have hz5 : ∀ hp : Nat → Option (List AV), ∀ b : Nat, ∀ ys, hp b = some ys → ys.length = 5 → ∀ zs, zs.length = 5 → (AV.agg zs).sto = true → (AV.agg zs).cells = zs → astore hp 5 (.ref b 0) (.agg zs) = some fun k => if k = b then some zs else hp k := fun hp b ys h1 h2 zs h3 h4 h5 => sto_agg h1 h4 h5 h3 h2
  refine At.gen (fun s => s.env 2 = .ptr X ∧ s.env 3 = .ptr Y ∧ s.env 4 = .ref hs.nh 0 ∧ s.env 5 = .ref (hs.nh + 1) 0 ∧ s.env 6 = .bool false ∧ s.env 7 = .fn (.func (fS up)) [] [] ∧ s.env 8 = .int .i64 ((sd up q.r).1 : Int) ∧ s.env 9 = .int .i64 ((sd up q.r).2 : Int) ∧
    s.hs.heap hs.nh = some [.int .i64 0, .int .i64 0, .int .i64 0, .int .i64 0, .nilsl] ∧ s.hs.heap (hs.nh + 1) = some [.int .i64 0, .int .i64 0, .int .i64 0, .int .i64 0, .nilsl] ∧ hs.nh + 1 < s.hs.nh) ?_ ?_
  · refine ⟨?_, ?_, ?_, ?_, ?_, ?_, ?_, ?_, ?_, ?_, ?_⟩ <;> simp
  generalize hs.nh = b
  clear hb hs
  rintro s ⟨e2, e3, e4, e5, e6, e7, e8, e9, hb4, hb5, hbn⟩
  have w1 : IntKind.i64.wrap (((sd up q.r).1 : Int) + 1) = (((sd up q.r).1 + 1 : Nat) : Int) := wrap_nat1 (by omega)
  obtain ⟨z1, hz1⟩ : ∃ z : Int, z = (((sd up q.r).1 + 1 : Nat) : Int) := ⟨_, rfl⟩
  obtain ⟨z2, hz2⟩ : ∃ z : Int, z = ((sd up q.r).2 : Int) - 1 := ⟨_, rfl⟩
  rw [← hz1] at w1
  have w2 : IntKind.i64.wrap (((sd up q.r).2 : Int) - 1) = z2 := by rw [hz2]; exact wrap64 (by omega) (by omega)
  rw [At.awp_seq]
  rw [At.awp_seq]
  simp [e8, e9, e3, f4, w1, w2, k75, -At.awp_seq]
  by_cases hbt : (sd up q.r).1 + 1 ≤ p ∧ p + 1 ≤ (sd up q.r).2
  rotate_left
  · have hdn : dvR q up p = .tup [pc0, pc0, .bool false] := by unfold dvR dvd; rw [if_neg hbt]
    have hbt' : ¬ (z1 ≤ (p : Int) ∧ (p : Int) ≤ z2) := by omega
    have hbf : (!decide (z1 ≤ (p : Int)) || !decide ((p : Int) ≤ z2)) = true := by
      rw [← Bool.not_and, Bool.not_eq_true', ← Bool.not_eq_true, Bool.and_eq_true, decide_eq_true_eq, decide_eq_true_eq]; exact hbt'
    rw [hdn, hbf]
    have s1 := hz5 s.hs.heap b _ hb4 rfl [.int .i64 0, .int .i64 0, .int .i64 0, .int .i64 0, .nilsl] rfl rfl rfl
    have s2 := hz5 (fun k => if k = b then some [.int .i64 0, .int .i64 0, .int .i64 0, .int .i64 0, .nilsl] else s.hs.heap k) (b + 1) [.int .i64 0, .int .i64 0, .int .i64 0, .int .i64 0, .nilsl] (by simp [hb5]) rfl [.int .i64 0, .int .i64 0, .int .i64 0, .int .i64 0, .nilsl] rfl rfl rfl
    simp [e4, e5, s1, s2]
    rw [aRes3 (x := pc0) (y := pc0) (by simp [e4]; exact ld_agg (by simp) rfl) (by simp [e5]; exact ld_agg (by simp) rfl)]
    simp
    rfl
  have hbt' : z1 ≤ (p : Int) ∧ (p : Int) ≤ z2 := by omega
  simp [hbt'.1, hbt'.2, -At.awp_seq]
  rw [At.awp_seq]
  simp [e2, f2, l2, -At.awp_seq]
  have hne : q.ls ≠ [] := fun e => by rw [e] at h2; simp at h2
  refine At.hc (p136 hx hne hl _) ?_ ?_
  rotate_left
  · rintro v hs' ⟨hv, _⟩; cases hv
  rintro v hs' ⟨hv, hm, hn, hk⟩
  injection hv with hv; subst hv
  replace hm : hs'.heap s.hs.nh = some (lab q.ls) := hm
  replace hn : hs'.nh = s.hs.nh + 1 := hn
  replace hk : ∀ k, k < s.hs.nh → hs'.heap k = s.hs.heap k := hk
  simp [-At.awp_seq]
  rw [At.awp_seq]
  simp [-At.awp_seq]
  refine At.gen (fun s' => D9 X Y (fS up) b s.hs.nh q.ls.length s' ∧ s'.env 11 = .int .i64 0 ∧ s'.hs.heap s.hs.nh = some (lab q.ls)) ?_ ?_
  · exact ⟨⟨by simp [e2], by simp [e3], by simp [e4], by simp [e5], by simp [e6], by simp [e7], by simp, by simp only [AS.put]; exact (hk b (by omega)).trans hb4, by simp only [AS.put]; exact (hk (b + 1) (by omega)).trans hb5, hbn⟩, by simp, hm⟩
  generalize s.hs.nh = m at hbn
  have hL : ∀ l ∈ q.ls, l.sm := by
    intro l hl
    have h1 := hg.inn l hl
    have h2 := hg.x12
    have h3 := hg.y12
    unfold lIn at h1
    exact ⟨by omega, by omega, by omega, by omega⟩
  clear hm hn hk hs' e2 e3 e4 e5 e6 e7 e8 e9 hb4 hb5 s
  rintro s ⟨D, e11, hm⟩
  have f4' := f4
  rw [At.awp_seq]
  rw [At.awp_seq]
  have lm : ∀ L : Nat, alenK false (.msl true 4 m 0 L false) = some (.int .i64 (L : Int)) := fun L => rfl
  simp [D.e10, lm, -At.awp_seq]
  refine At.loop (fun (z : Nat × Nat × List Lab) s => z.1 ≤ q.ls.length ∧ z.2.1 ≤ z.1 ∧ z.2.2.length = q.ls.length ∧ (∀ l ∈ z.2.2, l.sm) ∧ dv up p q.ls.length 0 0 q.ls = dv up p (q.ls.length - z.1) z.1 z.2.1 z.2.2 ∧ D9 X Y (fS up) b m q.ls.length s ∧ s.env 11 = .int .i64 (z.2.1 : Int) ∧ s.env 38 = .int .i64 (q.ls.length : Int) ∧ s.env 39 = .int .i64 (z.1 : Int) ∧ s.hs.heap m = some (lab z.2.2)) (fun z => q.ls.length - z.1) (0, 0, q.ls) ?_ ?_
  · exact ⟨by simp, by simp, rfl, hL, rfl, ⟨by simp [D.e2], by simp [D.e3], by simp [D.e4], by simp [D.e5], by simp [D.e6], by simp [D.e7], by simp [D.e10], D.h4, D.h5, D.bm⟩, by simp [e11], by simp, by simp, hm⟩
  clear D e11 hm s
  rintro N ⟨i, n, l⟩ s hN ⟨hi, hni, hll, hls, hrun, D, e11, e38, e39, hm⟩
  simp only at hi hni hll hls hrun e11 e39 hm hN
  rw [At.awp_seq]
  simp [e38, e39, -At.awp_seq]
  rw [At.awp_seq]
  simp [-At.awp_seq]
  refine At.dec (fun hlt => ?_) (fun hlt => ?_)
  · have hi' : i < q.ls.length := by omega
    have x1 := idx_lab (q := m) (n := q.ls.length) hi'
    have l1 := lab_ld hm (k := i) (by omega)
    obtain ⟨e, he⟩ : ∃ e, e = l.getD i default := ⟨_, rfl⟩
    rw [← he] at l1
    have hesm : e.sm := by rw [he]; simp only [List.getD_eq_getElem?_getD, List.getElem?_eq_getElem (show i < l.length by omega), Option.getD_some]; exact hls _ (List.getElem_mem _)
    rw [show q.ls.length - i = (q.ls.length - (i + 1)) + 1 by omega, dv, ← he] at hrun
    have h4i : 4 * i = 4 * i := rfl
    generalize 4 * i = o1 at x1 l1
    simp [D.e7, D.e10, e39, x1, l1, -At.awp_seq]
    rw [At.awp_seq]
    simp [D.e7, D.e10, e39, x1, l1, -At.awp_seq]
    rw [At.awp_seq]
    simp [D.e7, D.e10, e39, x1, l1, -At.awp_seq]
    rw [At.awp_seq]
    simp [D.e7, D.e10, e39, x1, l1, -At.awp_seq]
    refine At.hp (pS up hesm) ?_
    simp [-At.awp_seq]
    rw [At.awp_seq]
    rw [At.awp_seq]
    simp [D.e3, f4, -At.awp_seq]
    by_cases c1 : (sd up e).1 < p
    · by_cases c2 : p < (sd up e).2
      · rw [if_pos ⟨c1, c2⟩] at hrun
        have hdn : dvR q up p = .tup [pc0, pc0, .bool false] := by
          unfold dvR dvd; rw [if_pos hbt, hrun]
        rw [hdn]
        have s1 := hz5 s.hs.heap b _ D.h4 rfl [.int .i64 0, .int .i64 0, .int .i64 0, .int .i64 0, .nilsl] rfl rfl rfl
        have s2 := hz5 (fun k => if k = b then some [.int .i64 0, .int .i64 0, .int .i64 0, .int .i64 0, .nilsl] else s.hs.heap k) (b + 1) [.int .i64 0, .int .i64 0, .int .i64 0, .int .i64 0, .nilsl] (by simp [D.h5]) rfl [.int .i64 0, .int .i64 0, .int .i64 0, .int .i64 0, .nilsl] rfl rfl rfl
        simp [c1, c2, D.e3, f4, D.e4, D.e5, s1, s2]
        rw [aRes3 (x := pc0) (y := pc0) (by simp [D.e4]; exact ld_agg (by simp) rfl) (by simp [D.e5]; exact ld_agg (by simp) rfl)]
        simp
        rfl
      · rw [if_neg (fun h => c2 h.2)] at hrun
        by_cases c3 : (sd up e).2 ≤ p
        · rw [if_pos c3] at hrun
          have l2n := lab_ld hm (k := n) (by omega)
          have x2 := idx_lab (q := m) (n := q.ls.length) (i := n) (by omega)
          have t1 := lab_sto hm (k := i) (by omega) (l.getD n default)
          have t2 := lab_sto (hp := fun j => if j = m then some (lab (l.set i (l.getD n default))) else s.hs.heap j) (q := m) (ls := l.set i (l.getD n default)) (by simp) (k := n) (by rw [List.length_set]; omega) e
          have hsw : (l.set i (l.getD n default)).set n e = swp l i n := by rw [he]; rfl
          rw [hsw] at t2
          have x1' := idx_lab (q := m) (n := q.ls.length) hi'
          have l1' := lab_ld hm (k := i) (by omega)
          rw [← he] at l1'
          have wn := wrap_nat1 (show n < _ by omega)
          generalize l.getD n default = en at *
          generalize 4 * i = oi at *
          generalize 4 * n = on at *
          simp [c3, D.e3, f4, D.e10, e11, e39, x1', x2, l2n, l1', t1, t2, c1, c2]
          have hbm := D.bm
          have hlp : ∀ l1 ∈ swp l i n, l1.sm := fun l1 h1 => hls l1 ((swp_perm (by omega) (by omega)).mem_iff.1 h1)
          refine hN (i + 1, n + 1, swp l i n) _ (by simp only; omega) ⟨by simp only; omega, by simp only; omega, by rw [swp_len]; exact hll, hlp, hrun, ⟨by simp [D.e2], by simp [D.e3], by simp [D.e4], by simp [D.e5], by simp [D.e6], by simp [D.e7], by simp [D.e10], by simp [show ¬ b = m by omega, D.h4], by simp [show ¬ b + 1 = m by omega, D.h5], D.bm⟩, by simp [wn], by simp [e38], by simp [wrap_nat1 (show i < _ by omega)], by simp⟩
        · rw [if_neg c3] at hrun
          simp [c3, D.e3, f4, e39, c1, c2]
          refine hN (i + 1, n, l) _ (by simp only; omega) ⟨by simp only; omega, by simp only; omega, hll, hls, hrun, ⟨by simp [D.e2], by simp [D.e3], by simp [D.e4], by simp [D.e5], by simp [D.e6], by simp [D.e7], by simp [D.e10], D.h4, D.h5, D.bm⟩, by simp [e11], by simp [e38], by simp [wrap_nat1 (show i < _ by omega)], hm⟩
    · rw [if_neg (fun h => c1 h.1)] at hrun
      by_cases c3 : (sd up e).2 ≤ p
      · rw [if_pos c3] at hrun
        have l2n := lab_ld hm (k := n) (by omega)
        have x2 := idx_lab (q := m) (n := q.ls.length) (i := n) (by omega)
        have t1 := lab_sto hm (k := i) (by omega) (l.getD n default)
        have t2 := lab_sto (hp := fun j => if j = m then some (lab (l.set i (l.getD n default))) else s.hs.heap j) (q := m) (ls := l.set i (l.getD n default)) (by simp) (k := n) (by rw [List.length_set]; omega) e
        have hsw : (l.set i (l.getD n default)).set n e = swp l i n := by rw [he]; rfl
        rw [hsw] at t2
        have x1' := idx_lab (q := m) (n := q.ls.length) hi'
        have l1' := lab_ld hm (k := i) (by omega)
        rw [← he] at l1'
        have wn := wrap_nat1 (show n < _ by omega)
        generalize l.getD n default = en at *
        generalize 4 * i = oi at *
        generalize 4 * n = on at *
        simp [c3, D.e3, f4, D.e10, e11, e39, x1', x2, l2n, l1', t1, t2, c1]
        have hbm := D.bm
        have hlp : ∀ l1 ∈ swp l i n, l1.sm := fun l1 h1 => hls l1 ((swp_perm (by omega) (by omega)).mem_iff.1 h1)
        refine hN (i + 1, n + 1, swp l i n) _ (by simp only; omega) ⟨by simp only; omega, by simp only; omega, by rw [swp_len]; exact hll, hlp, hrun, ⟨by simp [D.e2], by simp [D.e3], by simp [D.e4], by simp [D.e5], by simp [D.e6], by simp [D.e7], by simp [D.e10], by simp [show ¬ b = m by omega, D.h4], by simp [show ¬ b + 1 = m by omega, D.h5], D.bm⟩, by simp [wn], by simp [e38], by simp [wrap_nat1 (show i < _ by omega)], by simp⟩
      · rw [if_neg c3] at hrun
        simp [c3, D.e3, f4, e39, c1]
        refine hN (i + 1, n, l) _ (by simp only; omega) ⟨by simp only; omega, by simp only; omega, hll, hls, hrun, ⟨by simp [D.e2], by simp [D.e3], by simp [D.e4], by simp [D.e5], by simp [D.e6], by simp [D.e7], by simp [D.e10], D.h4, D.h5, D.bm⟩, by simp [e11], by simp [e38], by simp [wrap_nat1 (show i < _ by omega)], hm⟩
  have hiL : i = q.ls.length := by omega
  subst hiL
  rw [Nat.sub_self, dv] at hrun
  have hdv : dvd q up p = some (⟨lowL up p q.r, l.take n⟩, ⟨highL up p q.r, l.drop n⟩, decide (0 < n) && decide (n < l.length)) := by
    unfold dvd; rw [if_pos hbt, hrun]
  have hres : dvR q up p = .tup [pcV ⟨lowL up p q.r, l.take n⟩ .exact, pcV ⟨highL up p q.r, l.drop n⟩ .shared, .bool (decide (0 < n) && decide (n < l.length))] := by
    unfold dvR; rw [hdv]
  rw [hres]
  have va1 : aslice 4 (.msl true 4 m 0 q.ls.length false) none (some (.int .i64 (n : Int))) (some (.int .i64 (n : Int))) = some (amsub true 4 m 0 0 n true) := by
    simp [aslice, aidx, amslice, hni]
  have vb1 : aslice 4 (.msl true 4 m 0 q.ls.length false) (some (.int .i64 (n : Int))) none none = some (amsub true 4 m 0 n q.ls.length false) := by
    simp [aslice, aidx, amslice, hni]
  have lva := sub_leaf (m := m) (a := 0) (c := n) (ex := true)
  have lvb := sub_leaf (m := m) (a := n) (c := q.ls.length) (ex := false)
  have fza := fun h hm => frz_sub (h := h) (m := m) (a := 0) (c := n) (ls := l) (ex := true) hm (Nat.zero_le _) (by omega)
  have fzb := fun h hm => frz_sub (h := h) (m := m) (a := n) (c := q.ls.length) (ls := l) (ex := false) hm hni (by omega)
  generalize amsub true 4 m 0 0 n true = va at *
  generalize amsub true 4 m 0 n q.ls.length false = vb at *
  have fa := pc_fill (l := q.r) lva
  have fb := pc_fill (l := q.r) lvb
  have sa := hz5 s.hs.heap b _ D.h4 rfl (lC q.r ++ [va]) rfl (pc_sto lva) (pc_cells lva)
  have sb := hz5 (fun k => if k = b then some (lC q.r ++ [va]) else s.hs.heap k) (b + 1) [.int .i64 0, .int .i64 0, .int .i64 0, .int .i64 0, .nilsl] (by simp [D.h5]) rfl (lC q.r ++ [vb]) rfl (pc_sto lvb) (pc_cells lvb)
  simp [-At.awp_seq]
  rw [At.awp_seq]
  simp [-At.awp_seq]
  refine At.any_to (fun s' => s'.env 2 = .ptr X ∧ s'.env 3 = .ptr Y ∧ s'.env 4 = .ref b 0 ∧ s'.env 5 = .ref (b + 1) 0 ∧ s'.env 10 = .msl true 4 m 0 q.ls.length false ∧ s'.env 11 = .int .i64 (n : Int) ∧ s'.hs.heap b = some (lC q.r ++ [va]) ∧ s'.hs.heap (b + 1) = some (lC q.r ++ [vb]) ∧ s'.hs.heap m = some (lab l)) ?_ ?_
  · refine At.any_q 0 endN_p rfl rfl rfl ?_
    simp [D.e2, f1]
    refine At.any_l 1 endN_p rfl rfl ⟨.agg (lC q.r), by simp⟩ ?_
    simp [lld]
    refine At.any_q 2 endN_p rfl rfl rfl ?_
    simp [D.e10]
    refine At.any_q 3 endN_p rfl rfl rfl ?_
    simp [e11]
    refine At.any_q 4 endN_p rfl rfl rfl ?_
    simp [e11]
    refine At.any_q 5 endN_p rfl rfl rfl ?_
    simp [va1]
    refine At.any_q 6 endN_p rfl rfl rfl ?_
    simp [fa]
    refine At.any_q 7 endN_p rfl rfl rfl ?_
    simp [D.e2, f1]
    refine At.any_l 8 endN_p rfl rfl ⟨.agg (lC q.r), by simp⟩ ?_
    simp [lld]
    refine At.any_q 9 endN_p rfl rfl rfl ?_
    simp [D.e10]
    refine At.any_q 10 endN_p rfl rfl rfl ?_
    simp [e11]
    refine At.any_q 11 endN_p rfl rfl rfl ?_
    simp [vb1]
    refine At.any_q 12 endN_p rfl rfl rfl ?_
    simp [fb]
    refine At.any_o 13 rfl rfl ?_
    simp [D.e4, sa]
    refine At.any_o 14 rfl rfl ?_
    simp [D.e5, sb]
    refine At.any_e rfl ?_
    simp
    have hbm := D.bm
    exact At.of ⟨D.e2, D.e3, D.e4, D.e5, D.e10, e11, by rw [if_neg (by omega), if_neg (by omega)]; exact hm⟩
  have hbm := D.bm
  have hfr : True := trivial
  clear D e11 e38 e39 hm sa sb hN s
  rintro s ⟨e2, e3, e4, e5, e10, e11, hhb, hhb1, hm⟩

  simp [-At.awp_seq]
  rw [At.awp_seq]
  refine At.cut (fun s => s.env 4 = .ref b 0 ∧ s.env 5 = .ref (b + 1) 0 ∧ s.env 10 = .msl true 4 m 0 q.ls.length false ∧ s.env 11 = .int .i64 (n : Int) ∧ s.hs.heap b = some (lC (lowL up p q.r) ++ [va]) ∧ s.hs.heap (b + 1) = some (lC (highL up p q.r) ++ [vb]) ∧ s.hs.heap m = some (lab l)) ?_ ?_
  · rw [At.awp_seq]
    simp [e3, f3, -At.awp_seq]
    obtain ⟨r1, r2, r3, r4⟩ := hsm
    cases up with
    | true =>
      simp
      have hb1 : q.r.x + 1 ≤ p ∧ p + 1 ≤ q.r.x + q.r.w := hbt
      have g1 : IntKind.i64.wrap ((p : Int) - (q.r.x : Int)) = ((p - q.r.x : Nat) : Int) := by rw [wrap64 (by omega) (by omega)]; omega
      have g2' : IntKind.i64.wrap ((q.r.x : Int) + (q.r.w : Int)) = ((q.r.x + q.r.w : Nat) : Int) := by rw [wrap64 (by omega) (by omega)]; omega
      have g3' : IntKind.i64.wrap (((q.r.x + q.r.w : Nat) : Int) - (p : Int)) = ((q.r.x + q.r.w - p : Nat) : Int) := by rw [wrap64 (by omega) (by omega)]; omega
      obtain ⟨zs, hzs⟩ : ∃ zs : Int, zs = ((q.r.x + q.r.w : Nat) : Int) := ⟨_, rfl⟩
      rw [← hzs] at g2' g3'
      have g2 := g2'
      have g3 := g3'
      have m1 : (lC q.r ++ [va]).set 2 (.int .i64 ((p - q.r.x : Nat) : Int)) = lC (lowL true p q.r) ++ [va] := rfl
      have m2 : ((lC q.r ++ [vb]).set 0 (.int .i64 (p : Int))).set 2 (.int .i64 ((q.r.x + q.r.w - p : Nat) : Int)) = lC (highL true p q.r) ++ [vb] := rfl
      obtain ⟨za, hza⟩ : ∃ za : Int, za = ((p - q.r.x : Nat) : Int) := ⟨_, rfl⟩
      obtain ⟨zb, hzb⟩ : ∃ zb : Int, zb = ((q.r.x + q.r.w - p : Nat) : Int) := ⟨_, rfl⟩
      rw [← hza] at g1 m1
      rw [← hzb] at g3 m2
      have st1 := store_cell (v := .int .i64 za) (o := 2) hhb (by simp [lC]) rfl
      have st2 := store_cell (hp := fun k => if k = b then some ((lC q.r ++ [va]).set 2 (.int .i64 za)) else s.hs.heap k) (i := b + 1) (ys := lC q.r ++ [vb]) (v := .int .i64 (p : Int)) (o := 0) (by simp [hhb1]) (by simp [lC]) rfl
      have st3 := store_cell (hp := fun k => if k = b + 1 then some ((lC q.r ++ [vb]).set 0 (.int .i64 (p : Int))) else if k = b then some ((lC q.r ++ [va]).set 2 (.int .i64 za)) else s.hs.heap k) (i := b + 1) (ys := (lC q.r ++ [vb]).set 0 (.int .i64 (p : Int))) (v := .int .i64 zb) (o := 2) (by simp) (by simp [lC]) rfl
      rw [m1] at st1 st2 st3
      rw [m2] at st3
      generalize lC (lowL true p q.r) ++ [va] = ca at *
      generalize lC (highL true p q.r) ++ [vb] = cb at *
      generalize (lC q.r ++ [vb]).set 0 (.int .i64 (p : Int)) = cb1 at *
      refine At.any_q 0 endN_p rfl rfl rfl ?_
      simp [e3, f4]
      refine At.any_l 1 endN_p rfl rfl ⟨.int .i64 ((p : Nat) : Int), by simp⟩ ?_
      simp
      refine At.any_q 2 endN_p rfl rfl rfl ?_
      simp [e2, f1]
      refine At.any_q 3 endN_p rfl rfl rfl ?_
      simp [lf0]
      refine At.any_l 4 endN_p rfl rfl ⟨.int .i64 ((q.r.x : Nat) : Int), by simp⟩ ?_
      simp
      refine At.any_q 5 endN_p rfl rfl rfl ?_
      simp [g1]
      refine At.any_q 6 endN_p rfl rfl rfl ?_
      simp [e3, f4]
      refine At.any_l 7 endN_p rfl rfl ⟨.int .i64 ((p : Nat) : Int), by simp⟩ ?_
      simp
      refine At.any_q 8 endN_p rfl rfl rfl ?_
      simp [e2, f1]
      refine At.any_q 9 endN_p rfl rfl rfl ?_
      simp [lf0]
      refine At.any_l 10 endN_p rfl rfl ⟨.int .i64 ((q.r.x : Nat) : Int), by simp⟩ ?_
      simp
      refine At.any_q 11 endN_p rfl rfl rfl ?_
      simp [e2, f1]
      refine At.any_q 12 endN_p rfl rfl rfl ?_
      simp [lf2]
      refine At.any_l 13 endN_p rfl rfl ⟨.int .i64 ((q.r.w : Nat) : Int), by simp⟩ ?_
      simp
      refine At.any_q 14 endN_p rfl rfl rfl ?_
      simp [g2]
      refine At.any_q 15 endN_p rfl rfl rfl ?_
      simp [e3, f4]
      refine At.any_l 16 endN_p rfl rfl ⟨.int .i64 ((p : Nat) : Int), by simp⟩ ?_
      simp
      refine At.any_q 17 endN_p rfl rfl rfl ?_
      simp [g3]
      refine At.any_q 18 endN_p rfl rfl rfl ?_
      simp [e4, frr]
      refine At.any_q 19 endN_p rfl rfl rfl ?_
      simp [frr]
      refine At.any_o 20 rfl rfl ?_
      simp [st1]
      refine At.any_o 21 rfl rfl ?_
      simp [e5, frr]
      refine At.any_o 22 rfl rfl ?_
      simp [frr]
      refine At.any_o 23 rfl rfl ?_
      simp [st2]
      refine At.any_o 24 rfl rfl ?_
      simp [e5, frr]
      refine At.any_o 25 rfl rfl ?_
      simp [frr]
      refine At.any_o 26 rfl rfl ?_
      simp [st3]
      refine At.any_e rfl ?_
      simp
      exact At.of ⟨e4, e5, e10, e11, by rw [if_neg (by omega), if_neg (by omega), if_neg (by omega)]; exact hm⟩
    | false =>
      simp
      have hb1 : q.r.y + 1 ≤ p ∧ p + 1 ≤ q.r.y + q.r.h := hbt
      have g1 : IntKind.i64.wrap ((p : Int) - (q.r.y : Int)) = ((p - q.r.y : Nat) : Int) := by rw [wrap64 (by omega) (by omega)]; omega
      have g2' : IntKind.i64.wrap ((q.r.y : Int) + (q.r.h : Int)) = ((q.r.y + q.r.h : Nat) : Int) := by rw [wrap64 (by omega) (by omega)]; omega
      have g3' : IntKind.i64.wrap (((q.r.y + q.r.h : Nat) : Int) - (p : Int)) = ((q.r.y + q.r.h - p : Nat) : Int) := by rw [wrap64 (by omega) (by omega)]; omega
      obtain ⟨zs, hzs⟩ : ∃ zs : Int, zs = ((q.r.y + q.r.h : Nat) : Int) := ⟨_, rfl⟩
      rw [← hzs] at g2' g3'
      have g2 := g2'
      have g3 := g3'
      have m1 : (lC q.r ++ [va]).set 3 (.int .i64 ((p - q.r.y : Nat) : Int)) = lC (lowL false p q.r) ++ [va] := rfl
      have m2 : ((lC q.r ++ [vb]).set 1 (.int .i64 (p : Int))).set 3 (.int .i64 ((q.r.y + q.r.h - p : Nat) : Int)) = lC (highL false p q.r) ++ [vb] := rfl
      obtain ⟨za, hza⟩ : ∃ za : Int, za = ((p - q.r.y : Nat) : Int) := ⟨_, rfl⟩
      obtain ⟨zb, hzb⟩ : ∃ zb : Int, zb = ((q.r.y + q.r.h - p : Nat) : Int) := ⟨_, rfl⟩
      rw [← hza] at g1 m1
      rw [← hzb] at g3 m2
      have st1 := store_cell (v := .int .i64 za) (o := 3) hhb (by simp [lC]) rfl
      have st2 := store_cell (hp := fun k => if k = b then some ((lC q.r ++ [va]).set 3 (.int .i64 za)) else s.hs.heap k) (i := b + 1) (ys := lC q.r ++ [vb]) (v := .int .i64 (p : Int)) (o := 1) (by simp [hhb1]) (by simp [lC]) rfl
      have st3 := store_cell (hp := fun k => if k = b + 1 then some ((lC q.r ++ [vb]).set 1 (.int .i64 (p : Int))) else if k = b then some ((lC q.r ++ [va]).set 3 (.int .i64 za)) else s.hs.heap k) (i := b + 1) (ys := (lC q.r ++ [vb]).set 1 (.int .i64 (p : Int))) (v := .int .i64 zb) (o := 3) (by simp) (by simp [lC]) rfl
      rw [m1] at st1 st2 st3
      rw [m2] at st3
      generalize lC (lowL false p q.r) ++ [va] = ca at *
      generalize lC (highL false p q.r) ++ [vb] = cb at *
      generalize (lC q.r ++ [vb]).set 1 (.int .i64 (p : Int)) = cb1 at *
      refine At.any_q 0 endN_p rfl rfl rfl ?_
      simp [e3, f4]
      refine At.any_l 1 endN_p rfl rfl ⟨.int .i64 ((p : Nat) : Int), by simp⟩ ?_
      simp
      refine At.any_q 2 endN_p rfl rfl rfl ?_
      simp [e2, f1]
      refine At.any_q 3 endN_p rfl rfl rfl ?_
      simp [lf1]
      refine At.any_l 4 endN_p rfl rfl ⟨.int .i64 ((q.r.y : Nat) : Int), by simp⟩ ?_
      simp
      refine At.any_q 5 endN_p rfl rfl rfl ?_
      simp [g1]
      refine At.any_q 6 endN_p rfl rfl rfl ?_
      simp [e3, f4]
      refine At.any_l 7 endN_p rfl rfl ⟨.int .i64 ((p : Nat) : Int), by simp⟩ ?_
      simp
      refine At.any_q 8 endN_p rfl rfl rfl ?_
      simp [e2, f1]
      refine At.any_q 9 endN_p rfl rfl rfl ?_
      simp [lf1]
      refine At.any_l 10 endN_p rfl rfl ⟨.int .i64 ((q.r.y : Nat) : Int), by simp⟩ ?_
      simp
      refine At.any_q 11 endN_p rfl rfl rfl ?_
      simp [e2, f1]
      refine At.any_q 12 endN_p rfl rfl rfl ?_
      simp [lf3]
      refine At.any_l 13 endN_p rfl rfl ⟨.int .i64 ((q.r.h : Nat) : Int), by simp⟩ ?_
      simp
      refine At.any_q 14 endN_p rfl rfl rfl ?_
      simp [g2]
      refine At.any_q 15 endN_p rfl rfl rfl ?_
      simp [e3, f4]
      refine At.any_l 16 endN_p rfl rfl ⟨.int .i64 ((p : Nat) : Int), by simp⟩ ?_
      simp
      refine At.any_q 17 endN_p rfl rfl rfl ?_
      simp [g3]
      refine At.any_q 18 endN_p rfl rfl rfl ?_
      simp [e4, frr]
      refine At.any_q 19 endN_p rfl rfl rfl ?_
      simp [frr]
      refine At.any_o 20 rfl rfl ?_
      simp [st1]
      refine At.any_o 21 rfl rfl ?_
      simp [e5, frr]
      refine At.any_o 22 rfl rfl ?_
      simp [frr]
      refine At.any_o 23 rfl rfl ?_
      simp [st2]
      refine At.any_o 24 rfl rfl ?_
      simp [e5, frr]
      refine At.any_o 25 rfl rfl ?_
      simp [frr]
      refine At.any_o 26 rfl rfl ?_
      simp [st3]
      refine At.any_e rfl ?_
      simp
      exact At.of ⟨e4, e5, e10, e11, by rw [if_neg (by omega), if_neg (by omega), if_neg (by omega)]; exact hm⟩
  clear e2 e3 e4 e5 e10 e11 hhb hhb1 hm s
  rintro s ⟨e4, e5, e10, e11, hhb, hhb1, hm⟩
  obtain ⟨ca, hca⟩ : ∃ ca, ca = lC (lowL up p q.r) ++ [va] := ⟨_, rfl⟩
  obtain ⟨cb, hcb⟩ : ∃ cb, cb = lC (highL up p q.r) ++ [vb] := ⟨_, rfl⟩
  rw [← hca] at hhb
  rw [← hcb] at hhb1
  have hla : ca.length = 5 := by rw [hca]; rfl
  have hlb : cb.length = 5 := by rw [hcb]; rfl
  have sta : (AV.agg ca).sto = true := by rw [hca]; exact pc_sto lva
  have stb : (AV.agg cb).sto = true := by rw [hcb]; exact pc_sto lvb
  have cea : (AV.agg ca).cells = ca := by rw [hca]; exact pc_cells lva
  have ceb : (AV.agg cb).cells = cb := by rw [hcb]; exact pc_cells lvb
  have lda := ld_agg hhb hla
  have ldb := ld_agg hhb1 hlb
  have t1 := hz5 s.hs.heap b ca hhb hla ca hla sta cea
  have ldb2 : aload (fun k => if k = b then some ca else s.hs.heap k) true 5 (.ref (b + 1) 0) = some (.agg cb) := ld_agg (by simp [hhb1]) hlb
  have t2 := hz5 (fun k => if k = b then some ca else s.hs.heap k) (b + 1) cb (by simp [hhb1]) hlb cb hlb stb ceb
  rw [At.awp_seq]
  simp [-At.awp_seq]
  refine At.any_to (fun s' => s'.env 4 = .ref b 0 ∧ s'.env 5 = .ref (b + 1) 0 ∧ s'.env 6 = .bool (decide (0 < n) && decide (n < l.length)) ∧ s'.hs.heap b = some ca ∧ s'.hs.heap (b + 1) = some cb ∧ s'.hs.heap m = some (lab l)) ?_ ?_
  · refine At.any_q 2 endN_p rfl rfl rfl ?_
    simp [e11]
    refine At.any_q 3 endN_p rfl rfl rfl ?_
    simp
    refine At.any_q 4 endN_p rfl rfl rfl ?_
    simp
    by_cases c0 : 0 < n
    · refine At.any_q 5 endN_p rfl rfl rfl ?_
      simp [c0, e11]
      refine At.any_q 6 endN_p rfl rfl rfl ?_
      simp [c0, e10]
      refine At.any_q 7 endN_p rfl rfl rfl ?_
      simp [c0]
      refine At.any_q 8 endN_p rfl rfl rfl ?_
      simp [c0]
      refine At.any_q 9 endN_p rfl rfl rfl ?_
      simp [c0]
      refine At.any_2 0 1 rfl rfl rfl ?_ ?_
      · simp [e4, lda]
        refine At.any_2 1 10 rfl rfl rfl ?_ ?_
        · simp [e5, ldb]
          refine At.any_o 10 rfl rfl ?_
          simp [e4, t1]
          refine At.any_o 11 rfl rfl ?_
          simp [e5, t2]
          refine At.any_o 12 rfl rfl ?_
          simp
          refine At.any_e rfl ?_
          simp
          first | exact At.of ⟨e4, e5, by rw [hll], by rw [if_neg (by omega), if_neg (by omega)]; exact hm⟩ | exact At.of ⟨e4, e5, by rw [if_neg (by omega), if_neg (by omega)]; exact hm⟩
        · simp [e4, t1]
          refine At.any_o 1 rfl rfl ?_
          simp [e5, ldb2]
          refine At.any_o 11 rfl rfl ?_
          simp [e5, t2]
          refine At.any_o 12 rfl rfl ?_
          simp
          refine At.any_e rfl ?_
          simp
          first | exact At.of ⟨e4, e5, by rw [hll], by rw [if_neg (by omega), if_neg (by omega)]; exact hm⟩ | exact At.of ⟨e4, e5, by rw [if_neg (by omega), if_neg (by omega)]; exact hm⟩
      · simp [e5, ldb]
        refine At.any_o 0 rfl rfl ?_
        simp [e4, lda]
        refine At.any_o 10 rfl rfl ?_
        simp [e4, t1]
        refine At.any_o 11 rfl rfl ?_
        simp [e5, t2]
        refine At.any_o 12 rfl rfl ?_
        simp
        refine At.any_e rfl ?_
        simp
        first | exact At.of ⟨e4, e5, by rw [hll], by rw [if_neg (by omega), if_neg (by omega)]; exact hm⟩ | exact At.of ⟨e4, e5, by rw [if_neg (by omega), if_neg (by omega)]; exact hm⟩
    · refine At.any_u 5 endN_p rfl rfl (by simp [AS.want, c0]) ?_
      refine At.any_u 6 endN_p rfl rfl (by simp [AS.want, c0]) ?_
      refine At.any_u 7 endN_p rfl rfl (by simp [AS.want, c0]) ?_
      refine At.any_u 8 endN_p rfl rfl (by simp [AS.want, c0]) ?_
      refine At.any_q 9 endN_p rfl rfl rfl ?_
      simp [c0]
      refine At.any_2 0 1 rfl rfl rfl ?_ ?_
      · simp [e4, lda]
        refine At.any_2 1 10 rfl rfl rfl ?_ ?_
        · simp [e5, ldb]
          refine At.any_o 10 rfl rfl ?_
          simp [e4, t1]
          refine At.any_o 11 rfl rfl ?_
          simp [e5, t2]
          refine At.any_o 12 rfl rfl ?_
          simp
          refine At.any_e rfl ?_
          simp
          first | exact At.of ⟨e4, e5, by rw [hll], by rw [if_neg (by omega), if_neg (by omega)]; exact hm⟩ | exact At.of ⟨e4, e5, by rw [if_neg (by omega), if_neg (by omega)]; exact hm⟩
        · simp [e4, t1]
          refine At.any_o 1 rfl rfl ?_
          simp [e5, ldb2]
          refine At.any_o 11 rfl rfl ?_
          simp [e5, t2]
          refine At.any_o 12 rfl rfl ?_
          simp
          refine At.any_e rfl ?_
          simp
          first | exact At.of ⟨e4, e5, by rw [hll], by rw [if_neg (by omega), if_neg (by omega)]; exact hm⟩ | exact At.of ⟨e4, e5, by rw [if_neg (by omega), if_neg (by omega)]; exact hm⟩
      · simp [e5, ldb]
        refine At.any_o 0 rfl rfl ?_
        simp [e4, lda]
        refine At.any_o 10 rfl rfl ?_
        simp [e4, t1]
        refine At.any_o 11 rfl rfl ?_
        simp [e5, t2]
        refine At.any_o 12 rfl rfl ?_
        simp
        refine At.any_e rfl ?_
        simp
        first | exact At.of ⟨e4, e5, by rw [hll], by rw [if_neg (by omega), if_neg (by omega)]; exact hm⟩ | exact At.of ⟨e4, e5, by rw [if_neg (by omega), if_neg (by omega)]; exact hm⟩
  rintro s ⟨e4, e5, e6, hhb, hhb1, hm⟩
  simp
  rw [aRes3 (x := .agg ca) (y := .agg cb) (by rw [e4]; exact ld_agg hhb hla) (by rw [e5]; exact ld_agg hhb1 hlb)]
  simp [e6, hca, hcb]
  have hlC : ∀ r : Lab, (lC r).map (AV.share ∘ frzL s.hs.heap 2) = lC r := fun r => rfl
  have hta : (l.take q.ls.length).drop n = l.drop n := by rw [← hll, List.take_length]
  rw [hlC, hlC, fza _ hm, fzb _ hm, hta]
  exact ⟨rfl, rfl⟩
end Go.Proofs.YtdcpkgedaflnmaaGreatDoor.Cq
set_option linter.unusedVariables false
set_option linter.unusedSimpArgs false
namespace Go.Proofs.YtdcpkgedaflnmaaGreatDoor.Cq
open Go Fw

def cA (c : Bool × Nat) : AV := .agg [.bool c.1, .int .i64 (c.2 : Int)]
theorem pcV_form (q : Pc) (c : Cap) : ∃ z, pcV q c = .agg z ∧ z.length = 5 ∧ (AV.agg z).sto = true ∧ (AV.agg z).cells = z := ⟨_, rfl, rfl, rfl, rfl⟩
theorem dvR_form (q : Pc) (up : Bool) (p : Nat) : ∃ z1 z2, dvR q up p = .tup [.agg z1, .agg z2, .bool (good q (up, p))] ∧ z1.length = 5 ∧ z2.length = 5 ∧ ((AV.agg z1).sto = true ∧ (AV.agg z1).cells = z1) ∧ (AV.agg z2).sto = true ∧ (AV.agg z2).cells = z2 := by
  unfold dvR good
  cases h : dvd q up p with
  | none => exact ⟨_, _, rfl, rfl, rfl, ⟨rfl, rfl⟩, rfl, rfl⟩
  | some r =>
    obtain ⟨a, b, is⟩ := r
    exact ⟨_, _, rfl, rfl, rfl, ⟨rfl, rfl⟩, rfl, rfl⟩
structure IsP (x : AV) (q : Pc) : Prop where
  l : IsL x q.ls
  g : GP q
  n2 : 2 ≤ q.ls.length
  le : q.ls.length ≤ 1000
  sm : q.r.sm
theorem ctxD {C0 : PCtx} (hC0 : CtxOk Tryz.prog C0) {x : AV} {q : Pc} (h : IsP x q) : ∃ C, CtxOk Tryz.prog C ∧ (∀ up p, p < 100 → C 109 [.agg (pcC q x), .agg [.bool up, .int .i64 ((p : Nat) : Int)]] = some (dvR q up p)) ∧ ∀ k, ¬ k = 109 → C k = C0 k := by
  obtain ⟨C, hC, k, n⟩ := ctx_fam hC0 109 (fun z : {z : Bool × Nat // z.2 < 100} => [.agg (pcC q x), .agg [.bool z.1.1, .int .i64 (z.1.2 : Int)]]) (fun z => dvR q z.1.1 z.1.2) (fun z => p109 h.l h.g h.n2 h.le h.sm z.1.1 z.2) (by
    rintro ⟨⟨u1, a⟩, ha⟩ ⟨⟨u2, c⟩, hc⟩ h
    simp only [List.cons.injEq, AV.agg.injEq, AV.bool.injEq, AV.int.injEq, and_true, true_and] at h
    simp only
    rw [h.1, show a = c by omega])
  exact ⟨C, hC, fun up p hp => k ⟨(up, p), hp⟩, n⟩
/-- the cuts up to some place -/
def accC (q : Pc) (k : Nat) : List (Bool × Nat) := (allC.take k).filter (good q)
theorem allC_len : allC.length = 24 := rfl
theorem allC_get : ∀ u, u < 2 → ∀ a, a < 12 → allC[12 * u + a]? = some (decide (u = 0), a) := by decide
theorem accC_step {q : Pc} {u a : Nat} (hu : u < 2) (ha : a < 12) : accC q (12 * u + a + 1) = if good q (decide (u = 0), a) = true then accC q (12 * u + a) ++ [(decide (u = 0), a)] else accC q (12 * u + a) := by
  have hl : 12 * u + a < allC.length := by rw [allC_len]; omega
  have hg := allC_get u hu a ha
  rw [List.getElem?_eq_getElem hl] at hg
  injection hg with hg
  unfold accC
  rw [List.take_succ_eq_append_getElem hl, List.filter_append, hg]
  by_cases h : good q (decide (u = 0), a) = true
  · rw [if_pos h]; simp [h]
  · rw [if_neg h]; simp [h]
theorem accC_len (q : Pc) (k : Nat) : (accC q k).length ≤ 24 := by
  unfold accC
  refine Nat.le_trans (List.length_filter_le _ _) ?_
  rw [List.length_take, allC_len]; omega
theorem accC_all (q : Pc) : accC q 24 = cutsP q := by
  unfold accC cutsP
  rw [List.take_of_length_le (by rw [allC_len]; exact Nat.le_refl _)]
theorem cA_plain (l : List (Bool × Nat)) : (outV 2 (l.map cA)).plain = true := by
  have e : ∀ l : List (Bool × Nat), plainL (l.map cA) = true := by
    intro l
    induction l with
    | nil => rfl
    | cons a l ih => simp only [List.map_cons, plainL, ih, Bool.and_true]; rfl
  cases l with
  | nil => rfl
  | cons a l => exact e (a :: l)
theorem p107 {x : AV} {q : Pc} (h : IsP x q) : PCall Tryz.prog 107 [.agg (pcC q x)] (outV 2 ((cutsP q).map cA)) := by
  obtain ⟨C, hC, k109, _⟩ := ctxD CtxOk.nil h
  have hst1 : (AV.agg (pcC q x)).sto = true := by
    rcases (asV_inv h.l.av).1 with ⟨rfl, _⟩ | ⟨c, rfl⟩ <;> rfl
  have hcl1 : (AV.agg (pcC q x)).cells = pcC q x := by
    rcases (asV_inv h.l.av).1 with ⟨rfl, _⟩ | ⟨c, rfl⟩ <;> rfl
  have hld : ∀ hp, aload hp true 5 (.ptr (.agg (pcC q x))) = some (.agg (pcC q x)) := fun hp => by
    simp only [aload, hcl1]
    rfl
  refine PCall.of hC ok107 (by simp) (cA_plain _) fun hs hb => ?_
  generalize hA : AV.agg (pcC q x) = X at *
  simp only [A107, R107]
  rw [At.awp_seq]
  simp [hst1, -At.awp_seq]
  rw [At.awp_seq]
  simp [-At.awp_seq]
  rw [At.awp_seq, At.awp_seq]
  have hb2 : astoAll 1 [.bool true, .bool false] = true := rfl
  have ixb : ∀ u : Nat, u < 2 → aidxS 1 (.sl 1 [.bool true, .bool false] .exact) (.int .i64 (u : Int)) = some (.ptr (.bool (decide (u = 0)))) := fun u hu => by
    match u, hu with
    | 0, _ => rfl
    | 1, _ => rfl
  simp [hb2, -At.awp_seq]
  refine At.loop (fun (u : Nat) s => u ≤ 2 ∧ s.env 1 = .ptr X ∧ s.env 10 = .sl 1 [.bool true, .bool false] .exact ∧ s.env 11 = .int .i64 2 ∧ s.env 12 = .int .i64 (u : Int) ∧ Outs 2 s.hs (s.env 3) ((accC q (12 * u)).map cA)) (fun u => 2 - u) 0 ?_ ?_
  · refine ⟨by omega, by simp, by simp, by simp, by simp, ?_⟩
    simpa [accC] using Outs.nil
  rintro N u s hN ⟨hu, e1, e10, e11, e12, ho⟩
  rw [At.awp_seq]
  simp [e11, e12, -At.awp_seq]
  rw [At.awp_seq]
  simp [-At.awp_seq]
  refine At.dec (fun hlt => ?_) (fun hlt => ?_)
  rotate_left
  · have : u = 2 := by omega
    subst this
    rw [accC_all] at ho
    simp [ho.sh]
  have hu' : u < 2 := by omega
  simp [-At.awp_seq]
  rw [At.awp_seq]
  simp only [At.awp_block]
  rw [At.awp_seq]
  simp [e10, e12, ixb u hu', -At.awp_seq]
  rw [At.awp_seq]
  simp [-At.awp_seq]
  refine At.loop (fun (a : Nat) s => a ≤ 12 ∧ s.env 1 = .ptr X ∧ s.env 10 = .sl 1 [.bool true, .bool false] .exact ∧ s.env 11 = .int .i64 2 ∧ s.env 12 = .int .i64 (u : Int) ∧ s.env 5 = .bool (decide (u = 0)) ∧ s.env 16 = .int .i64 (a : Int) ∧ Outs 2 s.hs (s.env 3) ((accC q (12 * u + a)).map cA)) (fun a => 12 - a) 0 ?_ ?_
  · exact ⟨by omega, by simp [e1], by simp [e10], by simp [e11], by simp [e12], by simp, by simp, by simpa using ho⟩
  clear e1 e10 e11 e12 ho s
  rintro N2 a s hN2 ⟨ha, e1, e10, e11, e12, e5, e16, ho⟩
  rw [At.awp_seq]
  simp [e16, -At.awp_seq]
  rw [At.awp_seq]
  simp [-At.awp_seq]
  refine At.dec (fun hlt2 => ?_) (fun hlt2 => ?_)
  rotate_left
  · have : a = 12 := by omega
    subst this
    simp [e12]
    exact hN (u + 1) _ (by omega) ⟨by omega, by simp [e1], by simp [e10], by simp [e11], by simp [wrap_nat1 (show u < _ by omega)], by simpa [Nat.mul_add] using ho⟩
  have ha' : a < 12 := by omega
  obtain ⟨z1, z2, hd, hz1, hz2, ⟨hs1, hc1⟩, hs2, hc2⟩ := dvR_form q (decide (u = 0)) a
  have k := k109 (decide (u = 0)) a (by omega)
  rw [hd] at k
  have hacc := accC_step (q := q) hu' ha'
  have hlen := accC_len q (12 * u + a)
  generalize good q (decide (u = 0), a) = g at *
  have hf : afill [.bool false, .int .i64 0] [(0, 1, .bool (decide (u = 0))), (1, 1, .int .i64 (a : Int))] = some [.bool (decide (u = 0)), .int .i64 (a : Int)] := rfl
  have hcA : cA (decide (u = 0), a) = .agg [.bool (decide (u = 0)), .int .i64 (a : Int)] := rfl
  generalize (decide (u = 0)) = ub at *
  have st1 : astore (fun i => if i = s.hs.nh + 1 then some [.int .i64 0, .int .i64 0, .int .i64 0, .int .i64 0, .nilsl] else if i = s.hs.nh then some [.int .i64 0, .int .i64 0, .int .i64 0, .int .i64 0, .nilsl] else s.hs.heap i) 5 (.ref s.hs.nh 0) (.agg z1) = some _ := sto_agg (ys := [.int .i64 0, .int .i64 0, .int .i64 0, .int .i64 0, .nilsl]) (by simp) hs1 hc1 hz1 rfl
  have st2 : astore (fun k => if k = s.hs.nh then some z1 else if k = s.hs.nh + 1 then some [.int .i64 0, .int .i64 0, .int .i64 0, .int .i64 0, .nilsl] else if k = s.hs.nh then some [.int .i64 0, .int .i64 0, .int .i64 0, .int .i64 0, .nilsl] else s.hs.heap k) 5 (.ref (s.hs.nh + 1) 0) (.agg z2) = some _ := sto_agg (ys := [.int .i64 0, .int .i64 0, .int .i64 0, .int .i64 0, .nilsl]) (by simp) hs2 hc2 hz2 rfl
  simp [-At.awp_seq]
  rw [At.awp_seq]
  simp only [At.awp_block]
  rw [At.awp_seq]
  simp [e16, -At.awp_seq]
  rw [At.awp_seq]
  simp [e1, hld, e5, hf, k, st1, st2, -At.awp_seq]
  generalize (fun k => if k = s.hs.nh + 1 then some z2 else if k = s.hs.nh then some z1 else if k = s.hs.nh + 1 then some [.int .i64 0, .int .i64 0, .int .i64 0, .int .i64 0, .nilsl] else if k = s.hs.nh then some [.int .i64 0, .int .i64 0, .int .i64 0, .int .i64 0, .nilsl] else s.hs.heap k) = h2
  obtain ⟨y, hs3, ap, o2, sm⟩ := append_outs (hs := ⟨h2, s.hs.nh + 1 + 1, s.hs.nt, s.hs.tok, s.hs.mp⟩) (ho.cong rfl rfl) (q := .sl 2 [.agg [.bool ub, .int .i64 (a : Int)]] .exact) (ys := [cA (ub, a)]) (asV_sl (by simp)) (by simp; omega)
  have hsh : [cA (ub, a)].map AV.share = [cA (ub, a)] := rfl
  rw [hsh] at o2
  have hst : astoAll 2 [.agg [.bool ub, .int .i64 (a : Int)]] = true := rfl
  cases g with
  | true =>
    rw [if_pos rfl] at hacc
    simp [e5, hf, hst, ap, e16]
    exact hN2 (a + 1) _ (by omega) ⟨by omega, by simp [e1], by simp [e10], by simp [e11], by simp [e12], by simp [e5], by simp [wrap_nat1 (show a < _ by omega)], by rw [← Nat.add_assoc, hacc, List.map_append]; exact o2⟩
  | false =>
    rw [if_neg (by simp)] at hacc
    simp [e16]
    exact hN2 (a + 1) _ (by omega) ⟨by omega, by simp [e1], by simp [e10], by simp [e11], by simp [e12], by simp [e5], by simp [wrap_nat1 (show a < _ by omega)], by rw [← Nat.add_assoc, hacc]; exact ho.cong rfl rfl⟩
end Go.Proofs.YtdcpkgedaflnmaaGreatDoor.Cq
set_option linter.unusedVariables false
set_option linter.unusedSimpArgs false
namespace Go.Proofs.YtdcpkgedaflnmaaGreatDoor.Cq
open Go Fw

/-! a stack of pieces in memory -/
abbrev PV := Pc × AV
def PV.ok (v : PV) : Prop := IsL v.2 v.1.ls ∧ GP v.1 ∧ v.1.ls.length ≤ 1000 ∧ v.1.r.sm
def pvA (v : PV) : AV := .agg (pcC v.1 v.2)
def stk (vs : List PV) : List AV := ent (fun i => pcC (vs.getD i (⟨default, []⟩, .nilsl)).1 (vs.getD i (⟨default, []⟩, .nilsl)).2) vs.length
theorem pcC_len (q : Pc) (x : AV) : (pcC q x).length = 5 := rfl
theorem pcC_sto {q : Pc} {x : AV} (h : x.leaf = true) : (AV.agg (pcC q x)).sto = true := pc_sto h
theorem pcC_cells {q : Pc} {x : AV} (h : x.leaf = true) : (AV.agg (pcC q x)).cells = pcC q x := pc_cells h
theorem stk_len (vs : List PV) : (stk vs).length = 5 * vs.length := ent_len (G := fun i => pcC (vs.getD i (⟨default, []⟩, .nilsl)).1 (vs.getD i (⟨default, []⟩, .nilsl)).2) (z := 5) (fun k => rfl) _
theorem stk_snoc (vs : List PV) (v : PV) : stk (vs ++ [v]) = stk vs ++ pcC v.1 v.2 := by
  unfold stk
  rw [List.length_append, List.length_singleton, ent_add]
  congr 1
  · exact ent_cong fun k hk => by simp [List.getD, List.getElem?_append_left hk]
  · simp [ent]
theorem stk_flat (vs : List PV) (h : ∀ v ∈ vs, v.2.leaf = true) : flat (vs.map pvA) = stk vs := by
  have e : vs.map pvA = (List.range vs.length).map fun k => pvA (vs.getD k (⟨default, []⟩, .nilsl)) := by
    apply List.ext_getElem
    · simp
    · intro i h1 h2
      have : i < vs.length := by simpa using h1
      simp [this]
  have key : ∀ l : List Nat, (∀ k ∈ l, k < vs.length) → flat (l.map fun k => pvA (vs.getD k (⟨default, []⟩, .nilsl))) = (l.map fun k => pcC (vs.getD k (⟨default, []⟩, .nilsl)).1 (vs.getD k (⟨default, []⟩, .nilsl)).2).flatten := by
    intro l
    induction l with
    | nil => intro _; rfl
    | cons a l ih =>
      intro hl
      have ha := hl a (by simp)
      have hlf : (vs.getD a (⟨default, []⟩, .nilsl)).2.leaf = true := by
        simp only [List.getD_eq_getElem?_getD, List.getElem?_eq_getElem ha, Option.getD_some]
        exact h _ (List.getElem_mem _)
      have hc := pcC_cells (q := (vs.getD a (⟨default, []⟩, .nilsl)).1) hlf
      have hih := ih fun k hk => hl k (by simp [hk])
      simp only [List.map_cons, List.flatten_cons, ← hih]
      show (pvA _).cells ++ _ = _
      unfold pvA
      rw [hc]
  rw [e, key _ fun k hk => List.mem_range.1 hk]
  rfl
theorem stk_take (vs : List PV) (v : PV) : (stk (vs ++ [v])).take (vs.length * 5) = stk vs := by
  rw [stk_snoc, List.take_append_of_le_length (by rw [stk_len]; omega), List.take_of_length_le (by rw [stk_len]; omega)]
theorem stk_ld {hp : Nat → Option (List AV)} {q : Nat} {vs : List PV} {v : PV} (h : hp q = some (stk (vs ++ [v]))) : aload hp true 5 (.ref q (5 * vs.length)) = some (pvA v) := by
  have := ent_ld (hp := hp) (i := q) (G := fun i => pcC ((vs ++ [v]).getD i (⟨default, []⟩, .nilsl)).1 ((vs ++ [v]).getD i (⟨default, []⟩, .nilsl)).2) (z := 5) (fun k => rfl) h (k := vs.length) (by simp)
  rw [this]
  simp [pvA]
theorem stk_mcont (vs : List PV) : mcont true 5 0 vs.length (stk vs) = some (vs.map pvA) := by
  unfold mcont
  rw [if_pos ⟨by rw [stk_len]; omega, .inl rfl⟩]
  congr 1
  apply List.ext_getElem
  · simp
  · intro k h1 h2
    have hk : k < vs.length := by simpa using h1
    simp only [List.getElem_map, List.getElem_range, if_true, Nat.zero_add]
    have := ent_ld (hp := fun _ => some (stk vs)) (i := 0) (G := fun i => pcC (vs.getD i (⟨default, []⟩, .nilsl)).1 (vs.getD i (⟨default, []⟩, .nilsl)).2) (z := 5) (fun k => rfl) rfl hk
    simp only [aload, Option.bind_some, apart, if_true] at this
    split at this
    · injection this with this
      rw [Nat.mul_comm k 5, this]
      simp [pvA, hk]
    · cases this
/-- what tells the cuts -/
structure Cbf (σ : Type) (step : σ → Pc → σ × Option (Bool × Nat)) (J : Nat → σ → HS → Prop) (n0 g : Nat) (caps : List AV) : Prop where
  call : ∀ (k0 : Nat) (st : σ) (hs : HS) (q : Pc) (x : AV) (st' : σ) (c : Bool × Nat), IsP x q → J k0 st hs → n0 ≤ hs.nh → k0 < hs.nt → step st q = (st', some c) →
    FCall Tryz.prog g ([.agg (pcC q x)] ++ caps) hs fun e hs' => e = .ret (.tup [cA c, .bool true]) ∧ J k0 st' hs' ∧ hs.nh ≤ hs'.nh ∧ hs.nt ≤ hs'.nt ∧ hs'.tok k0 = hs.tok k0 ∧ ∀ i, n0 ≤ i → i < hs.nh → hs'.heap i = hs.heap i
  stab : ∀ (k0 k1 : Nat) (st : σ) (hs hs' : HS), J k0 st hs → (∀ i, i < n0 → hs'.heap i = hs.heap i) → hs.nh ≤ hs'.nh → hs.nt ≤ hs'.nt → (∀ k, k < hs.nt → k ≠ k0 → hs'.tok k = hs.tok k) → (k1 = k0 ∨ hs.nt ≤ k1) → J k1 st hs'
theorem lC_inj {x y : Lab} (h : lC x = lC y) : x = y := by
  obtain ⟨a1, a2, a3, a4⟩ := x
  obtain ⟨b1, b2, b3, b4⟩ := y
  simp [lC] at h
  obtain ⟨g1, g2, g3, g4⟩ := h
  rw [show a1 = b1 by omega, show a2 = b2 by omega, show a3 = b3 by omega, show a4 = b4 by omega]
theorem lA_inj : ∀ {a b : List Lab}, a.map lA = b.map lA → a = b
  | [], [], _ => rfl
  | [], _ :: _, h => by simp at h
  | _ :: _, [], h => by simp at h
  | x :: a, y :: b, h => by
    simp only [List.map_cons, List.cons.injEq, lA, AV.agg.injEq] at h
    rw [lC_inj h.1, lA_inj h.2]
theorem ctxDA {C0 : PCtx} (hC0 : CtxOk Tryz.prog C0) : ∃ C, CtxOk Tryz.prog C ∧ (∀ x q up p, IsP x q → p < 100 → C 109 [.agg (pcC q x), .agg [.bool up, .int .i64 ((p : Nat) : Int)]] = some (dvR q up p)) ∧ ∀ k, ¬ k = 109 → C k = C0 k := by
  obtain ⟨C, hC, k, n⟩ := ctx_fam hC0 109 (fun z : {z : (AV × Pc) × Bool × Nat // IsP z.1.1 z.1.2 ∧ z.2.2 < 100} => [.agg (pcC z.1.1.2 z.1.1.1), .agg [.bool z.1.2.1, .int .i64 (z.1.2.2 : Int)]]) (fun z => dvR z.1.1.2 z.1.2.1 z.1.2.2) (fun z => p109 z.2.1.l z.2.1.g z.2.1.n2 z.2.1.le z.2.1.sm z.1.2.1 z.2.2) (by
    rintro ⟨⟨⟨x, q⟩, u1, a⟩, hx, ha⟩ ⟨⟨⟨y, r⟩, u2, c⟩, hy, hc⟩ h
    simp only [List.cons.injEq, AV.agg.injEq, AV.bool.injEq, AV.int.injEq, and_true, true_and, pcC] at h
    obtain ⟨h1, h2, h3⟩ := h
    have h4 := List.append_inj h1 rfl
    simp only [List.cons.injEq, and_true] at h4
    obtain ⟨h5, h6⟩ := h4
    simp only at hx hy ⊢
    subst h6
    have e1 := hx.l.av
    rw [hy.l.av] at e1
    injection e1 with e1
    have e2 := lA_inj e1
    obtain ⟨qr, ql⟩ := q
    obtain ⟨rr, rl⟩ := r
    simp only at e2 h5
    rw [h2, show a = c by omega, lC_inj h5, e2])
  exact ⟨C, hC, fun x q up p hx hp => k ⟨((x, q), up, p), hx, hp⟩, n⟩
theorem p108 {x : AV} {ls : List Lab} (hx : IsL x ls) (W H : Nat) : PCall Tryz.prog 108 [layV W H x] (.agg (pcC ⟨⟨0, 0, W, H⟩, ls⟩ x.share)) := by
  have hsto : (layV W H x).sto = true := by
    rcases (asV_inv hx.av).1 with ⟨rfl, _⟩ | ⟨c, rfl⟩ <;> rfl
  have hcl : (layV W H x).cells = [.int .i64 (W : Int), .int .i64 (H : Int), x] := by
    rcases (asV_inv hx.av).1 with ⟨rfl, _⟩ | ⟨c, rfl⟩ <;> rfl
  have f0 : afaddr false 1 0 (.ptr (layV W H x)) = some (.ptr (.int .i64 (W : Int))) := by simp [afaddr, hcl, apart]
  have f1 : afaddr false 1 1 (.ptr (layV W H x)) = some (.ptr (.int .i64 (H : Int))) := by simp [afaddr, hcl, apart]
  have f2 : afaddr false 1 2 (.ptr (layV W H x)) = some (.ptr x) := by simp [afaddr, hcl, apart]
  have l2 := leaf_ld hx.leaf
  have fl := pc_fill (l := ⟨0, 0, W, H⟩) hx.leaf
  have hpl : (AV.agg (pcC ⟨⟨0, 0, W, H⟩, ls⟩ x.share)).plain = true := by
    have e : ∀ l : List Lab, plainL (l.map lA) = true := by
      intro l
      induction l with
      | nil => rfl
      | cons a l ih => simp only [List.map_cons, plainL, ih, Bool.and_true]; rfl
    have e2 : ∀ l : List Lab, (l.map lA).map AV.share = l.map lA := by
      intro l
      induction l with
      | nil => rfl
      | cons a l ih => simp only [List.map_cons, ih, share_lA]
    rcases (asV_inv hx.av).1 with ⟨rfl, _⟩ | ⟨c, rfl⟩
    · rfl
    · simp only [share_sl, e2]
      cases c <;> simp [pcC, lC, AV.plain, plainL, e, Cap.share]
  refine PCall.of CtxOk.nil ok108 (by simp) hpl fun hs hb => ?_
  have sa : astore (fun i => if i = hs.nh then some [.int .i64 0, .int .i64 0, .int .i64 0, .int .i64 0, .nilsl] else hs.heap i) 5 (.ref hs.nh 0) (.agg (lC ⟨0, 0, W, H⟩ ++ [x])) = some _ := sto_agg (ys := [.int .i64 0, .int .i64 0, .int .i64 0, .int .i64 0, .nilsl]) (by simp) (pc_sto hx.leaf) (pc_cells hx.leaf) rfl rfl
  generalize layV W H x = L at *
  have fl0 : afill [.int .i64 0, .int .i64 0, .int .i64 0, .int .i64 0] [(0, 1, .int .i64 0), (1, 1, .int .i64 0), (2, 1, .int .i64 (W : Int)), (3, 1, .int .i64 (H : Int))] = some (lC ⟨0, 0, W, H⟩) := rfl
  simp [A108, R108, hsto, f0, f1, f2, l2, fl0, fl, sa]
  simp [aload, apart, pcC, lC]
end Go.Proofs.YtdcpkgedaflnmaaGreatDoor.Cq
set_option linter.unusedVariables false
set_option linter.unusedSimpArgs false
namespace Go.Proofs.YtdcpkgedaflnmaaGreatDoor.Cq
open Go Fw

def z5 : List AV := [.int .i64 0, .int .i64 0, .int .i64 0, .int .i64 0, .nilsl]
/-- what holds whenever a piece is to be taken -/
structure Fi {σ : Type} (step : σ → Pc → σ × Option (Bool × Nat)) (J : Nat → σ → HS → Prop) (n0 : Nat) (E : AV) (b4 : Nat) (h0 : Nat → Option (List AV)) (fin : σ) (f : Nat) (st : σ) (vs : List PV) (s : AS) : Prop where
  run : runF step f st (vs.reverse.map (·.1)) = (fin, none)
  ms : mS (vs.reverse.map (·.1)) ≤ f
  ok : ∀ v ∈ vs, v.ok
  e1 : s.env 1 = E
  e4 : s.env 4 = .ref b4 0
  h4 : s.hs.heap b4 = some z5
  nb : b4 < s.hs.nh
  b0 : n0 ≤ b4
  sk : ∃ q k, s.env 6 = .osl true 5 q vs.length k ∧ s.hs.heap q = some (stk vs) ∧ s.hs.tok k = true ∧ k < s.hs.nt ∧ J k st s.hs ∧ b4 ≤ q ∧ ¬ q = b4 ∧ q < s.hs.nh
  old : ∀ i, n0 ≤ i → i < b4 → s.hs.heap i = h0 i
  n0 : n0 ≤ s.hs.nh
  fl : f < 1000000
theorem mS_len : ∀ l : List Pc, l.length ≤ mS l
  | [] => Nat.le_refl _
  | q :: l => by
    have := mS_len l
    simp only [mS, mP, List.length_cons]
    omega
theorem ok_leaf {v : PV} (h : v.ok) : v.2.leaf = true := h.1.leaf
theorem stk_app {hs : HS} {q k : Nat} {vs : List PV} (h : hs.heap q = some (stk vs)) (ht : hs.tok k = true) (hl : vs.length < 1000000000) (ho : ∀ v ∈ vs, v.2.leaf = true) {u1 u2 : PV} (h1 : u1.2.leaf = true) (h2 : u2.2.leaf = true) :
    aappm 5 hs (.osl true 5 q vs.length k) (.sl 5 [pvA u1, pvA u2] .exact) = some (.osl true 5 hs.nh (vs.length + 2) hs.nt, { hs with heap := fun i => if i = hs.nh then some (stk (vs ++ [u1, u2])) else if i = q then none else hs.heap i, nh := hs.nh + 1, nt := hs.nt + 1, tok := fun t => if t = hs.nt then true else if t = k then false else hs.tok t }) := by
  have e1 : aelemsH hs.heap (.osl true 5 q vs.length k) = some (vs.map pvA) := by simp only [aelemsH, h, Option.bind_some, stk_mcont]
  have e2 : aelemsH hs.heap (.sl 5 [pvA u1, pvA u2] .exact) = some [pvA u1, pvA u2] := rfl
  have e3 : flat (vs.map pvA ++ [pvA u1, pvA u2]) = stk (vs ++ [u1, u2]) := by
    rw [show vs.map pvA ++ [pvA u1, pvA u2] = (vs ++ [u1, u2]).map pvA by simp]
    exact stk_flat _ fun v hv => by
      rcases List.mem_append.1 hv with hv | hv
      · exact ho v hv
      · simp only [List.mem_cons, List.not_mem_nil, or_false] at hv
        rcases hv with rfl | rfl
        · exact h1
        · exact h2
  unfold aappm
  rw [e1, e2]
  simp only
  rw [if_pos ⟨ht, by simp [aszOk], by simp [aszOk], by simp; omega⟩, if_neg (by simp), e3]
  simp only [List.length_map, List.length_cons, List.length_nil, Nat.zero_add]
  rfl
/-- what holds when a piece has been taken -/
structure Fj {σ : Type} (J : Nat → σ → HS → Prop) (n0 : Nat) (E : AV) (b4 : Nat) (h0 : Nat → Option (List AV)) (p q k : Nat) (st : σ) (v : PV) (vs : List PV) (s : AS) : Prop where
  e1 : s.env 1 = E
  e4 : s.env 4 = .ref b4 0
  e6 : s.env 6 = .osl true 5 q vs.length k
  e7 : s.env 7 = .ref p 0
  h4 : s.hs.heap b4 = some z5
  hq : s.hs.heap q = some (stk vs)
  hp : s.hs.heap p = some (pcC v.1 v.2)
  tk : s.hs.tok k = true
  kn : k < s.hs.nt
  J : J k st s.hs
  nb : b4 < s.hs.nh
  nq : q < s.hs.nh
  np : p < s.hs.nh
  old : ∀ i, n0 ≤ i → i < b4 → s.hs.heap i = h0 i
set_option maxHeartbeats 1000000 in
theorem p55 {σ : Type} {step : σ → Pc → σ × Option (Bool × Nat)} {J : Nat → σ → HS → Prop} {n0 g : Nat} {caps : List AV} (cb : Cbf σ step J n0 g caps) {x : AV} {ls : List Lab} {W H : Nat} (hx : IsL x ls) (hg : GP ⟨⟨0, 0, W, H⟩, ls⟩) (hle : ls.length ≤ 1000) (hW : W < 100) (hH : H < 100)
    {f0 : Nat} {st0 fin : σ} (hrun : runF step f0 st0 [⟨⟨0, 0, W, H⟩, ls⟩] = (fin, none)) (hms : mS [⟨⟨0, 0, W, H⟩, ls⟩] ≤ f0) (hf0 : f0 < 1000000) {hs : HS} (hJ : J hs.nt st0 hs) (hn0 : n0 ≤ hs.nh) :
    FCall Tryz.prog 55 [layV W H x, .fn (.func g) [] caps] hs fun e hs' => e = .ret (.tup [pc0, .bool true]) ∧ (∃ k, J k fin hs') ∧ ∀ i, n0 ≤ i → i < hs.nh → hs'.heap i = hs.heap i := by
  obtain ⟨C1, hC1, k108, _⟩ := ctx_pt CtxOk.nil 108 _ _ (p108 hx W H)
  obtain ⟨C, hC, k109, n⟩ := ctxDA hC1
  have k108' : C 108 [layV W H x] = some (.agg (pcC ⟨⟨0, 0, W, H⟩, ls⟩ x.share)) := by rw [n 108 (by decide)]; exact k108
  have hsto : (layV W H x).sto = true := by
    rcases (asV_inv hx.av).1 with ⟨rfl, _⟩ | ⟨c, rfl⟩ <;> rfl
  have hcl : (layV W H x).cells = [.int .i64 (W : Int), .int .i64 (H : Int), x] := by
    rcases (asV_inv hx.av).1 with ⟨rfl, _⟩ | ⟨c, rfl⟩ <;> rfl
  have hldL : ∀ hp, aload hp true 3 (.ptr (layV W H x)) = some (layV W H x) := fun hp => by simp only [aload, hcl]; rfl
  have hxs : IsL x.share ls := by
    rcases (asV_inv hx.av).1 with ⟨rfl, h⟩ | ⟨c, rfl⟩
    · exact ⟨by have := hx.av; exact this⟩
    · have e2 : ∀ l : List Lab, (l.map lA).map AV.share = l.map lA := by
        intro l
        induction l with
        | nil => rfl
        | cons a l ih => simp only [List.map_cons, ih, share_lA]
      exact ⟨by rw [share_sl, e2]; exact asV_sl (by simp; omega)⟩
  obtain ⟨v0, hv0⟩ : ∃ v0 : PV, v0 = (⟨⟨0, 0, W, H⟩, ls⟩, x.share) := ⟨_, rfl⟩
  have hok0 : v0.ok := by rw [hv0]; exact ⟨hxs, hg, hle, show (0 : Nat) < 100 ∧ 0 < 100 ∧ W < 100 ∧ H < 100 from ⟨by decide, by decide, hW, hH⟩⟩
  have hlit : ∀ hs : HS, amem (.litm 5) hs [.agg (pcC ⟨⟨0, 0, W, H⟩, ls⟩ x.share)] = some (.osl true 5 hs.nh 1 hs.nt, { hs with heap := fun i => if i = hs.nh then some (stk [v0]) else hs.heap i, nh := hs.nh + 1, nt := hs.nt + 1, tok := fun t => if t = hs.nt then true else hs.tok t }) := by
    intro hs
    show alit 5 hs [.agg (pcC ⟨⟨0, 0, W, H⟩, ls⟩ x.share)] = _
    have e1 : pvA v0 = .agg (pcC ⟨⟨0, 0, W, H⟩, ls⟩ x.share) := by rw [hv0]; rfl
    have e2 := stk_flat [v0] (fun v hv => by rw [List.mem_singleton.1 hv]; exact ok_leaf hok0)
    rw [List.map_singleton, e1] at e2
    have s1 := pcC_sto (q := ⟨⟨0, 0, W, H⟩, ls⟩) hxs.leaf
    have s2 := pcC_cells (q := ⟨⟨0, 0, W, H⟩, ls⟩) hxs.leaf
    unfold alit
    rw [if_pos ⟨by simp [s1, s2, pcC_len], by simp⟩, e2]
    rfl
  refine FCall.ofAt hC ok55 (by simp) ?_
  generalize layV W H x = L at *
  simp only [A55, R55]
  rw [At.awp_seq]
  simp [hsto, -At.awp_seq]
  rw [At.awp_seq]
  simp [hldL, k108', hlit, -At.awp_seq]
  rw [At.awp_seq]
  simp only [At.awp_block]
  refine At.loop (fun (z : Nat × σ × List PV) s => Fi step J n0 (.fn (.func g) [] caps) hs.nh hs.heap fin z.1 z.2.1 z.2.2 s) (fun z => mS (z.2.2.reverse.map (·.1))) (f0, st0, [v0]) ?_ ?_
  · refine ⟨by rw [hv0]; exact hrun, by rw [hv0]; exact hms, fun v hv => by rw [List.mem_singleton.1 hv]; exact hok0, by simp, by simp, by simp [z5], by simp; omega, hn0, ⟨hs.nh + 1, hs.nt, by simp, by simp, by simp, by simp, ?_, by omega, by omega, by simp⟩, fun i h1 h2 => by simp [show ¬ i = hs.nh by omega, show ¬ i = hs.nh + 1 by omega], by simp; omega, hf0⟩
    exact cb.stab hs.nt hs.nt st0 hs _ hJ (fun i hi => by simp [show ¬ i = hs.nh by omega, show ¬ i = hs.nh + 1 by omega]) (by simp; omega) (by simp) (fun k hk hne => by simp [hne]) (.inl rfl)
  rintro N ⟨f, st, vs⟩ s hN F
  obtain ⟨q, k, e6, hq, htk, hkn, hJs, hq0, hqb, hqn⟩ := F.sk
  simp only at F e6 hq hJs
  have lo : ∀ n : Nat, alenK false (.osl true 5 q n k) = some (.int .i64 (n : Int)) := fun n => rfl
  rw [At.awp_seq, At.awp_seq]
  simp [e6, lo, -At.awp_seq]
  rcases List.eq_nil_or_concat vs with hvs | ⟨vs', v, hvs⟩
  · subst hvs
    have hr := F.run
    have hfin : st = fin := by
      cases f with
      | zero => simp [runF] at hr; exact hr
      | succ f => simp [runF] at hr; exact hr
    have sz : astore s.hs.heap 5 (.ref hs.nh 0) (.agg [.int .i64 0, .int .i64 0, .int .i64 0, .int .i64 0, .nilsl]) = some _ := sto_agg F.h4 rfl rfl rfl rfl
    have la : aload (fun k => if k = hs.nh then some [.int .i64 0, .int .i64 0, .int .i64 0, .int .i64 0, .nilsl] else s.hs.heap k) true 5 (.ref hs.nh 0) = some (.agg [.int .i64 0, .int .i64 0, .int .i64 0, .int .i64 0, .nilsl]) := ld_agg (by simp) rfl
    simp [F.e4, sz]
    rw [la]
    subst hfin
    simp [pc0]
    exact At.of ⟨⟨k, cb.stab k k st s.hs _ hJs (fun i hi => by simp [show ¬ i = hs.nh by omega]) (Nat.le_refl _) (Nat.le_refl _) (fun _ _ _ => rfl) (.inl rfl)⟩, fun i h1 h2 => by rw [if_neg (by omega)]; exact F.old i h1 h2⟩
  rw [List.concat_eq_append] at hvs
  subst hvs
  have hr := F.run
  have hm := F.ms
  rw [List.reverse_append, List.reverse_singleton, List.singleton_append, List.map_cons] at hr hm
  have hokv := F.ok v (by simp)
  obtain ⟨f', rfl⟩ : ∃ f', f = f' + 1 := by
    cases f with
    | zero => simp [mS, mP] at hm
    | succ f => exact ⟨f, rfl⟩
  have hlf := ok_leaf hokv
  have hne : ¬ (vs' ++ [v]).length = 0 := by simp
  have hl1 : (vs' ++ [v]).length = vs'.length + 1 := by simp
  rw [hl1] at e6 hne
  obtain ⟨ln, hln⟩ : ∃ ln : Int, ln = ((vs'.length + 1 : Nat) : Int) := ⟨_, rfl⟩
  have lo1 := lo (vs'.length + 1)
  rw [← hln] at lo1
  have hpos : (0 : Int) < ln := by omega
  have hbig : vs'.length < 1000000000 := by
    have h1 := mS_len (v.1 :: vs'.reverse.map (·.1))
    have h2 := F.fl
    simp only [List.length_cons, List.length_map, List.length_reverse] at h1
    omega
  have wl : IntKind.i64.wrap (ln - 1) = (vs'.length : Int) := by rw [hln, wrap64 (by omega) (by omega)]; omega
  have ixt : aidxS 5 (.osl true 5 q (vs'.length + 1) k) (.int .i64 (vs'.length : Int)) = some (.ref q (5 * vs'.length)) := by
    simp [aidxS]; omega
  have ldt := stk_ld hq
  have hpop : ∀ hs : HS, hs.heap q = some (stk (vs' ++ [v])) → hs.tok k = true → amem (.popm 5) hs [.osl true 5 q (vs'.length + 1) k, .int .i64 (vs'.length : Int)] = some (.osl true 5 q vs'.length k, { hs with heap := fun j => if j = q then some (stk vs') else hs.heap j }) := by
    intro hs h1 h2
    show apop 5 hs (.osl true 5 q (vs'.length + 1) k) (.int .i64 (vs'.length : Int)) = _
    simp only [apop, h1]
    rw [if_pos ⟨trivial, by omega, by omega, h2, by rw [stk_len]; simp; omega⟩]
    simp only [Int.toNat_natCast, stk_take]
  have st1 : astore (fun i => if i = s.hs.nh then some [.int .i64 0, .int .i64 0, .int .i64 0, .int .i64 0, .nilsl] else s.hs.heap i) 5 (.ref s.hs.nh 0) (pvA v) = some _ := sto_agg (ys := [.int .i64 0, .int .i64 0, .int .i64 0, .int .i64 0, .nilsl]) (by simp) (pcC_sto hlf) (pcC_cells hlf) rfl rfl
  have hp1 := hpop ⟨fun k => if k = s.hs.nh then some (pcC v.1 v.2) else if k = s.hs.nh then some [.int .i64 0, .int .i64 0, .int .i64 0, .int .i64 0, .nilsl] else s.hs.heap k, s.hs.nh + 1, s.hs.nt, s.hs.tok, s.hs.mp⟩ (by simp [show ¬ q = s.hs.nh by omega, hq]) htk
  simp [lo1, hpos, -At.awp_seq]
  rw [At.awp_seq]
  simp [e6, lo1, wl, ixt, ldt, st1, -At.awp_seq]
  rw [At.awp_seq]
  simp [e6, lo1, wl, hp1, -At.awp_seq]
  refine At.gen (fun s' => Fj J n0 (.fn (.func g) [] caps) hs.nh hs.heap s.hs.nh q k st v vs' s') ?_ ?_
  · have hnb := F.nb
    refine ⟨by simp [F.e1], by simp [F.e4], by simp, by simp, by simp [show ¬ hs.nh = q from fun e => hqb e.symm, show ¬ hs.nh = s.hs.nh by omega, F.h4], by simp, by simp [show ¬ s.hs.nh = q by omega], htk, hkn, ?_, by simp; omega, by simp; omega, by simp, fun i h1 h2 => by simp [show ¬ i = q by omega, show ¬ i = s.hs.nh by omega, F.old i h1 h2]⟩
    exact cb.stab k k st s.hs _ hJs (fun i hi => by simp [show ¬ i = q by have := F.b0; omega, show ¬ i = s.hs.nh by have := F.n0; omega]) (by simp) (Nat.le_refl _) (fun _ _ _ => rfl) (.inl rfl)
  have hpb : ¬ s.hs.nh = hs.nh := by have := F.nb; omega
  have hpq : ¬ s.hs.nh = q := by omega
  have hpn : n0 ≤ s.hs.nh := F.n0
  have hokr : ∀ u ∈ vs', u.ok := fun u hu => F.ok u (by simp [hu])
  have hfl := F.fl
  have hb0 := F.b0
  generalize s.hs.nh = p at *
  clear F e6 hq htk hkn hJs hqn lo1 ixt ldt hpop st1 hp1 s
  rintro s G
  have l4 : aload s.hs.heap false 1 (.ref p 4) = some v.2 := ldc G.hp rfl
  have lln := hokv.1.len
  rw [At.awp_seq, At.awp_seq]
  simp [G.e7, frr, l4, lln, -At.awp_seq]
  by_cases h2 : v.1.ls.length < 2
  · have h2' : (v.1.ls.length : Int) < 2 := by omega
    simp [h2, h2']
    rw [runF, if_pos h2] at hr
    simp only [mS, mP] at hm
    refine hN (f', st, vs') _ ?_ ⟨hr, by simp only; omega, hokr, by simp [G.e1], by simp [G.e4], by simp [G.h4], by simp [G.nb], hb0, ⟨q, k, by simp [G.e6], by simp [G.hq], by simp [G.tk], by simp [G.kn], G.J, hq0, hqb, by simp [G.nq]⟩, fun i h1 h2 => by simp [G.old i h1 h2], by have := G.np; simp; omega, by simp only; omega⟩
    simp only [List.reverse_append, List.reverse_singleton, List.singleton_append, List.map_cons, mS, mP]
    omega
  have h2' : ¬ (v.1.ls.length : Int) < 2 := by omega
  rw [runF, if_neg h2] at hr
  cases hstep : step st v.1 with
  | mk st' oc =>
  rw [hstep] at hr
  cases oc with
  | none => simp at hr
  | some c =>
  simp only at hr
  cases hd : dvd v.1 c.1 c.2 with
  | none => rw [hd] at hr; simp at hr
  | some r =>
  obtain ⟨a, b, is⟩ := r
  rw [hd] at hr
  cases is with
  | false => simp at hr
  | true =>
  simp only at hr
  have hP : IsP v.2 v.1 := ⟨hokv.1, hokv.2.1, by omega, hokv.2.2.1, hokv.2.2.2⟩
  obtain ⟨ga, gb, hlen, hi, hpm⟩ := dvd_spec hokv.2.1 hd
  obtain ⟨na, nb⟩ := hi.1 rfl
  have hc100 : c.2 < 100 := by
    unfold dvd at hd
    split at hd
    · rename_i hh
      have := hokv.2.1.x12
      have := hokv.2.1.y12
      cases hc1 : c.1 <;> rw [hc1] at hh <;> simp only [sd, if_true, Bool.false_eq_true, if_false] at hh <;> omega
    · cases hd
  have hk := k109 v.2 v.1 c.1 c.2 hP hc100
  have hdv : dvR v.1 c.1 c.2 = .tup [pcV a .exact, pcV b .shared, .bool true] := by unfold dvR; rw [hd]
  rw [hdv] at hk
  have lp := ld_agg G.hp (n := 5) rfl
  simp [h2, h2', -At.awp_seq]
  rw [At.awp_seq]
  simp [G.e1, G.e7, lp, -At.awp_seq]
  refine At.hc (cb.call k st s.hs v.1 v.2 st' c hP G.J (by have := G.np; omega) G.kn hstep) ?_ ?_
  rotate_left
  · rintro r hs' ⟨hr, _⟩; cases hr
  rintro r hs' ⟨hv, j1, j2, j3, j4, j5⟩
  injection hv with hv; subst hv
  have hq' : hs'.heap q = some (stk vs') := (j5 q (by omega) G.nq).trans G.hq
  have hp' : hs'.heap p = some (pcC v.1 v.2) := (j5 p hpn G.np).trans G.hp
  have hb' : hs'.heap hs.nh = some z5 := (j5 hs.nh hb0 G.nb).trans G.h4
  have htk' : hs'.tok k = true := j4.trans G.tk
  have hkn' : k < hs'.nt := Nat.lt_of_lt_of_le G.kn j3
  have nq' : q < hs'.nh := Nat.lt_of_lt_of_le G.nq j2
  have np' : p < hs'.nh := Nat.lt_of_lt_of_le G.np j2
  have nb' : hs.nh < hs'.nh := Nat.lt_of_lt_of_le G.nb j2
  have sc : astore (fun i => if i = hs'.nh then some [.bool false, .int .i64 0] else hs'.heap i) 2 (.ref hs'.nh 0) (cA c) = some _ := sto_agg (ys := [.bool false, .int .i64 0]) (xs := [.bool c.1, .int .i64 (c.2 : Int)]) (by simp) rfl rfl rfl rfl
  simp [sc, -At.awp_seq]
  refine At.gen (fun s2 => s2.env 1 = .fn (.func g) [] caps ∧ s2.env 4 = .ref hs.nh 0 ∧ s2.env 6 = .osl true 5 q vs'.length k ∧ s2.env 7 = .ref p 0 ∧ s2.env 8 = .ref hs'.nh 0 ∧ s2.env 9 = .bool true ∧ s2.hs.nh = hs'.nh + 1 ∧ s2.hs.nt = hs'.nt ∧ s2.hs.tok = hs'.tok ∧ (∀ i, i < hs'.nh → s2.hs.heap i = hs'.heap i) ∧ s2.hs.heap hs'.nh = some [.bool c.1, .int .i64 (c.2 : Int)]) ?_ ?_
  · refine ⟨by simp [G.e1], by simp [G.e4], by simp [G.e6], by simp [G.e7], by simp, by simp, by simp, by simp, by simp, fun i hi => by simp [show ¬ i = hs'.nh by omega], by simp⟩
  rintro s2 ⟨y1, y4, y6, y7, y8, y9, ynh, ynt, ytk, yold, ycut⟩
  have lp2 : aload s2.hs.heap true 5 (.ref p 0) = some (.agg (pcC v.1 v.2)) := ld_agg ((yold p np').trans hp') rfl
  have lc2 : aload s2.hs.heap true 2 (.ref hs'.nh 0) = some (.agg [.bool c.1, .int .i64 (c.2 : Int)]) := ld_agg ycut rfl
  obtain ⟨za, ea, ha1, ha2, ha3⟩ := pcV_form a .exact
  obtain ⟨zb, eb, hb1, hb2, hb3⟩ := pcV_form b .shared
  have ua : pvA (a, .sl 4 (a.ls.map lA) .exact) = .agg za := ea
  have ub : pvA (b, .sl 4 (b.ls.map lA) .shared) = .agg zb := eb
  rw [ea, eb] at hk
  have t1 : astore (fun i => if i = s2.hs.nh + 1 then some [.int .i64 0, .int .i64 0, .int .i64 0, .int .i64 0, .nilsl] else if i = s2.hs.nh then some [.int .i64 0, .int .i64 0, .int .i64 0, .int .i64 0, .nilsl] else s2.hs.heap i) 5 (.ref s2.hs.nh 0) (.agg za) = some _ := sto_agg (ys := [.int .i64 0, .int .i64 0, .int .i64 0, .int .i64 0, .nilsl]) (by simp) ha2 ha3 ha1 rfl
  have t2 : astore (fun k => if k = s2.hs.nh then some za else if k = s2.hs.nh + 1 then some [.int .i64 0, .int .i64 0, .int .i64 0, .int .i64 0, .nilsl] else if k = s2.hs.nh then some [.int .i64 0, .int .i64 0, .int .i64 0, .int .i64 0, .nilsl] else s2.hs.heap k) 5 (.ref (s2.hs.nh + 1) 0) (.agg zb) = some _ := sto_agg (ys := [.int .i64 0, .int .i64 0, .int .i64 0, .int .i64 0, .nilsl]) (by simp) hb2 hb3 hb1 rfl
  rw [At.awp_seq]
  simp [y7, y8, lp2, lc2, hk, t1, t2, -At.awp_seq]
  generalize hh : (fun k => if k = s2.hs.nh + 1 then some zb else if k = s2.hs.nh then some za else if k = s2.hs.nh + 1 then some [.int .i64 0, .int .i64 0, .int .i64 0, .int .i64 0, .nilsl] else if k = s2.hs.nh then some [.int .i64 0, .int .i64 0, .int .i64 0, .int .i64 0, .nilsl] else s2.hs.heap k) = h2
  have w1 : h2 s2.hs.nh = some za := by rw [← hh]; simp
  have w2 : h2 (s2.hs.nh + 1) = some zb := by rw [← hh]; simp
  have w3 : ∀ i, i < s2.hs.nh → h2 i = s2.hs.heap i := fun i hi => by rw [← hh]; simp [show ¬ i = s2.hs.nh by omega, show ¬ i = s2.hs.nh + 1 by omega]
  have l55 : aload h2 true 5 (.ref (s2.hs.nh + 1) 0) = some (.agg zb) := ld_agg w2 hb1
  have l56 : aload h2 true 5 (.ref s2.hs.nh 0) = some (.agg za) := ld_agg w1 ha1
  have sall : astoAll 5 [.agg zb, .agg za] = true := by simp [astoAll, ha2, ha3, hb2, hb3, ha1, hb1]
  have ap := stk_app (hs := ⟨h2, s2.hs.nh + 1 + 1, s2.hs.nt, s2.hs.tok, s2.hs.mp⟩) (q := q) (k := k) (vs := vs') (by show h2 q = _; rw [w3 q (by omega), yold q nq']; exact hq') (by show s2.hs.tok k = true; rw [ytk]; exact htk') hbig (fun v hv => ok_leaf (hokr v hv)) (u1 := (b, .sl 4 (b.ls.map lA) .shared)) (u2 := (a, .sl 4 (a.ls.map lA) .exact)) rfl rfl
  rw [ua, ub] at ap
  rw [At.awp_seq, At.awp_seq]
  simp [y9, y6, l55, l56, sall, ap, -At.awp_seq]
  have hrev : (vs' ++ [(b, AV.sl 4 (b.ls.map lA) Cap.shared), (a, AV.sl 4 (a.ls.map lA) Cap.exact)]).reverse.map (·.1) = a :: b :: vs'.reverse.map (·.1) := by simp
  have hdec := mS_div (st := vs'.reverse.map (·.1)) hlen na nb
  have la1 : a.ls.length ≤ 1000 := by have := hokv.2.2.1; omega
  have lb1 : b.ls.length ≤ 1000 := by have := hokv.2.2.1; omega
  have smG : ∀ z : Pc, GP z → z.r.sm := fun z hz => by
    have h1 := hz.x12
    have h2 := hz.y12
    exact ⟨by omega, by omega, by omega, by omega⟩
  have okb : PV.ok (b, AV.sl 4 (b.ls.map lA) Cap.shared) := ⟨⟨asV_sl (by simp; omega)⟩, gb, lb1, smG b gb⟩
  have oka : PV.ok (a, AV.sl 4 (a.ls.map lA) Cap.exact) := ⟨⟨asV_sl (by simp; omega)⟩, ga, la1, smG a ga⟩
  refine hN (f', st', vs' ++ [(b, AV.sl 4 (b.ls.map lA) Cap.shared), (a, AV.sl 4 (a.ls.map lA) Cap.exact)]) _ ?_ ⟨?_, ?_, ?_, by simp [y1], by simp [y4], ?_, by simp; omega, hb0, ⟨s2.hs.nh + 1 + 1, s2.hs.nt, by simp, by simp, by simp, by simp, ?_, by omega, by omega, by simp⟩, fun i h1 h2 => ?_, by simp; omega, by simp only; omega⟩
  · simp only [hrev, List.reverse_append, List.reverse_singleton, List.singleton_append, List.map_cons]
    exact hdec
  · simp only [hrev]; exact hr
  · simp only [hrev]; omega
  · intro u hu
    rcases List.mem_append.1 hu with hu | hu
    · exact hokr u hu
    · simp only [List.mem_cons, List.not_mem_nil, or_false] at hu
      rcases hu with rfl | rfl
      · exact okb
      · exact oka
  · have e1 : ¬ hs.nh = s2.hs.nh + 1 + 1 := by omega
    have e2 : ¬ hs.nh = q := fun e => hqb e.symm
    simp only [AS.put, e1, e2, if_false]
    rw [w3 hs.nh (by omega), yold hs.nh nb']
    exact hb'
  · refine cb.stab k s2.hs.nt st' hs' _ j1 (fun i hi => ?_) (by simp; omega) (by simp; omega) (fun t ht hne => ?_) (.inr (by omega))
    · have e1 : ¬ i = s2.hs.nh + 1 + 1 := by omega
      have e2 : ¬ i = q := by omega
      simp only [AS.put, e1, e2, if_false]
      rw [w3 i (by omega), yold i (by omega)]
    · have e1 : ¬ t = s2.hs.nt := by omega
      simp [e1, hne, ytk]
  · have e1 : ¬ i = s2.hs.nh + 1 + 1 := by omega
    have e2 : ¬ i = q := by omega
    simp only [AS.put, e1, e2, if_false]
    rw [w3 i (by omega), yold i (by omega), j5 i h1 (by have := G.nb; omega)]
    exact G.old i h1 h2
end Go.Proofs.YtdcpkgedaflnmaaGreatDoor.Cq
set_option linter.unusedVariables false
set_option linter.unusedSimpArgs false
namespace Go.Proofs.YtdcpkgedaflnmaaGreatDoor.Cq
open Go Fw

theorem outs_app {hs : HS} {z : AV} {l : List AV} {c : AV} {k0 : Nat} (ho : Outs 2 hs z l) (hk : ∀ xs k, z = .sl 2 xs (.own k) → k ≠ k0) (hk0 : k0 < hs.nt) (hl : l.length ≤ 1000000) :
    ∃ y hs', aappend 2 hs z (.sl 2 [c] .exact) = some (y, hs') ∧ Outs 2 hs' y (l ++ [c.share]) ∧ SameMem hs hs' ∧ hs.nt ≤ hs'.nt ∧ hs'.tok k0 = hs.tok k0 ∧ ∀ xs k, y = .sl 2 xs (.own k) → k ≠ k0 := by
  obtain ⟨y, hs', ap, o2, sm⟩ := append_outs ho (q := .sl 2 [c] .exact) (ys := [c]) (asV_sl (by simp)) (by simp; omega)
  refine ⟨y, hs', ap, o2, sm, ?_⟩
  rcases ho.inv with ⟨rfl, rfl⟩ | ⟨xs, k, rfl, ⟨h1, h2⟩, h3, h4⟩
  · simp [aappend, aelemsH, aelems, aszOk] at ap
    obtain ⟨rfl, rfl⟩ := ap
    refine ⟨by simp, by simp [show ¬ k0 = hs.nt by omega], fun xs k e => ?_⟩
    simp at e
    omega
  · have hne := hk xs k rfl
    have hxl : xs.length ≤ 1000000 := by
      have := congrArg List.length h3
      rw [List.length_map] at this
      omega
    have hb : xs.length + 1 ≤ 1073741824 := by omega
    simp [aappend, aelemsH, aelems, aszOk, h1, hb] at ap
    obtain ⟨rfl, rfl⟩ := ap
    refine ⟨by simp, by simp [show ¬ k0 = hs.nt by omega, Ne.symm hne], fun xs k e => ?_⟩
    simp at e
    omega
/-- the plan so far, in memory -/
def JP (bp : Nat) (k0 : Nat) (pl : List (Bool × Nat)) (hs : HS) : Prop := pl.length ≤ 100000 ∧ bp < hs.nh ∧ ∃ z, hs.heap bp = some [z] ∧ Outs 2 hs z (pl.map cA) ∧ ∀ xs k, z = .sl 2 xs (.own k) → k ≠ k0
/-- with a bound on how many cuts there can be -/
def stepB (pl : List (Bool × Nat)) (q : Pc) : List (Bool × Nat) × Option (Bool × Nat) := if pl.length < 100000 then stepP pl q else (pl, none)
theorem cbP (bp : Nat) : Cbf (List (Bool × Nat)) stepB (JP bp) (bp + 1) 106 [.ref bp 0] := by
  refine ⟨fun k0 pl hs q x pl' c hP hJ hn hk hst => ?_, fun k0 k1 pl hs hs' hJ h1 h2 h3 h4 h5 => ?_⟩
  · obtain ⟨hl, hb, z, hz, ho, hzk⟩ := hJ
    have hlt : pl.length < 100000 := by
      unfold stepB at hst
      split at hst
      · assumption
      · simp at hst
    unfold stepB at hst
    rw [if_pos hlt] at hst
    unfold stepP at hst
    split at hst
    · simp at hst
    rename_i c0 cs hc
    simp only [Prod.mk.injEq, Option.some.injEq] at hst
    obtain ⟨rfl, rfl⟩ := hst
    obtain ⟨C, hC, k107, _⟩ := ctx_pt CtxOk.nil 107 _ _ (p107 hP)
    have hlc : (cutsP q).length ≤ 24 := by rw [← accC_all]; exact accC_len q 24
    have hcv : asV 2 (outV 2 ((cutsP q).map cA)) = some ((cutsP q).map cA) := asV_outV (by simp; omega)
    have hcl := lenV hcv
    have hci := idxV hcv (k := .i64) (i := 0) (by rw [hc]; simp)
    rw [List.length_map] at hcl
    simp only [hc, List.map_cons, List.getElem_cons_zero] at hci
    rw [hc] at hcl k107
    simp only [List.map_cons] at k107 hcl
    rw [List.length_cons] at hcl
    generalize outV 2 (cA c0 :: cs.map cA) = V at *
    have hst1 := pcC_sto (q := q) hP.l.leaf
    have hcl1 := pcC_cells (q := q) hP.l.leaf
    have hld : ∀ hp, aload hp true 5 (.ptr (.agg (pcC q x))) = some (.agg (pcC q x)) := fun hp => by simp only [aload, hcl1]; rfl
    obtain ⟨y, hs', ap, o2, sm, n1, n2, n3⟩ := outs_app (hs := ⟨fun i => if i = hs.nh then some [.bool false, .int .i64 0] else hs.heap i, hs.nh + 1, hs.nt, hs.tok, hs.mp⟩) (c := cA c0) (ho.cong rfl rfl) hzk hk (by simp; omega)
    refine FCall.ofAt hC ok106 (by simp) ?_
    generalize hA : AV.agg (pcC q x) = X at *
    have hci' : aidxS 2 V (.int .i64 0) = some (.ptr (cA c0)) := hci
    have hcl' : alenK false V = some (.int .i64 ((cs.length : Int) + 1)) := by rw [hcl]; rfl
    have hnz : ¬ (cs.length : Int) + 1 = 0 := by omega
    have ldc0 : ∀ hp, aload hp true 2 (.ptr (cA c0)) = some (cA c0) := fun hp => rfl
    have sall : astoAll 2 [cA c0] = true := rfl
    have lz : aload (fun i => if i = hs.nh then some [.bool false, .int .i64 0] else hs.heap i) false 1 (.ref bp 0) = some z := ldc (ys := [z]) (by simp [show ¬ bp = hs.nh by omega, hz]) rfl
    have hh1 : hs'.heap = fun i => if i = hs.nh then some [.bool false, .int .i64 0] else hs.heap i := sm.heap
    have yl : y.sto = true ∧ y.cells = [y] := by
      rcases o2.inv with ⟨rfl, _⟩ | ⟨xs, k', rfl, _⟩ <;> exact ⟨rfl, rfl⟩
    have s1 : astore hs'.heap 1 (.ref bp 0) y = some _ := store_one (u := z) (by rw [hh1]; simp [show ¬ bp = hs.nh by omega, hz]) yl.1 yl.2
    have s2 : astore (fun k => if k = bp then some [y] else hs'.heap k) 2 (.ref hs.nh 0) (cA c0) = some _ := sto_agg (ys := [.bool false, .int .i64 0]) (xs := [.bool c0.1, .int .i64 (c0.2 : Int)]) (by rw [hh1]; simp [show ¬ hs.nh = bp by omega]) rfl rfl rfl rfl
    simp [A106, R106, hst1, hld, k107, hcl', hnz, lz, hci', ldc0, sall, ap, s1, s2]
    have n1' : hs.nt ≤ hs'.nt := n1
    have n2' : hs'.tok k0 = hs.tok k0 := n2
    have hnh : hs'.nh = hs.nh + 1 := sm.nh
    refine At.of ⟨rfl, ⟨by simp; omega, by simp; omega, y, by simp [show ¬ bp = hs.nh by omega], ?_, n3⟩, by omega, n1', n2', fun i hi1 hi2 => ?_⟩
    · rw [List.map_append]
      exact (show Outs 2 hs' y (pl.map cA ++ [cA c0]) from o2).cong rfl rfl
    · rw [if_neg (by omega), if_neg (by omega), hh1]
      simp [show ¬ i = hs.nh by omega]
  · obtain ⟨hl, hb, z, hz, ho, hzk⟩ := hJ
    refine ⟨hl, by omega, z, by rw [h1 bp (by omega)]; exact hz, ?_, fun xs k e => ?_⟩
    · rcases ho.inv with ⟨rfl, e⟩ | ⟨xs, k, rfl, ⟨g1, g2⟩, g3, g4⟩
      · rw [e]; exact .nil
      · refine ⟨?_, ho.sh⟩
        have hne := hzk xs k rfl
        exact ⟨by rw [h4 k g2 hne]; exact g1, by omega⟩
    · have := hzk xs k e
      rcases ho.inv with ⟨rfl, _⟩ | ⟨xs', k', rfl, ⟨g1, g2⟩, g3, g4⟩
      · cases e
      · simp only [AV.sl.injEq, Cap.own.injEq, true_and] at e
        rcases h5 with rfl | h5
        · exact this
        · omega
theorem run_B : ∀ (f : Nat) (st : List Pc) (pl r : List (Bool × Nat)), runF stepP f pl st = (r, none) → r.length ≤ 100000 → pl.length ≤ r.length ∧ runF stepB f pl st = (r, none)
  | 0, st, pl, r, h, _ => by
    simp only [runF, Prod.mk.injEq, and_true] at h ⊢
    subst h
    exact ⟨Nat.le_refl _, rfl⟩
  | f + 1, [], pl, r, h, _ => by
    simp only [runF, Prod.mk.injEq, and_true] at h ⊢
    subst h
    exact ⟨Nat.le_refl _, rfl⟩
  | f + 1, q :: st, pl, r, h, hr => by
    by_cases h2 : q.ls.length < 2
    · simp only [runF, if_pos h2] at h ⊢
      exact run_B f st pl r h hr
    · simp only [runF, if_neg h2, stepP] at h
      cases hc : cutsP q with
      | nil => rw [hc] at h; simp at h
      | cons c cs =>
        rw [hc] at h
        simp only at h
        cases hd : dvd q c.1 c.2 with
        | none => rw [hd] at h; simp at h
        | some z =>
          obtain ⟨a, b, is⟩ := z
          rw [hd] at h
          cases is with
          | false => simp at h
          | true =>
            simp only at h
            obtain ⟨g1, g2⟩ := run_B f (a :: b :: st) (pl ++ [c]) r h hr
            rw [List.length_append, List.length_singleton] at g1
            refine ⟨by omega, ?_⟩
            simp only [runF, if_neg h2, stepB, if_pos (show pl.length < 100000 by omega), stepP, hc, hd, g2]
/-- a layout that can be cut apart -/
structure LGp (W H : Nat) (ls : List Lab) : Prop where
  ok : LOk W H ls
  g : GP ⟨⟨0, 0, W, H⟩, ls⟩
theorem plan_ex {W H : Nat} {ls : List Lab} (h : LGp W H ls) : ∃ plan, runF stepP 1000 [] [⟨⟨0, 0, W, H⟩, ls⟩] = (plan, none) ∧ plan.length = ls.length - 1 ∧ runF (stepV plan) 1000 (0, false) [⟨⟨0, 0, W, H⟩, ls⟩] = ((plan.length, false), none) := by
  have hle := h.ok.le
  obtain ⟨ext, e1, e2, e3⟩ := run_plan 1000 [⟨⟨0, 0, W, H⟩, ls⟩] [] (by simp only [mS, mP]; omega) (fun q hq => by rw [List.mem_singleton.1 hq]; exact h.g)
  refine ⟨ext, by simpa using e1, by simpa [nC] using e2, ?_⟩
  have := e3 ext 0 (fun i hi => by rw [Nat.zero_add]) (by omega)
  simpa using this
theorem p54 {x : AV} {W H : Nat} {ls : List Lab} (hx : IsL x ls) (h : LGp W H ls) {plan : List (Bool × Nat)} (hp : runF stepP 1000 [] [⟨⟨0, 0, W, H⟩, ls⟩] = (plan, none)) (hpl : plan.length ≤ 1000) :
    PCall Tryz.prog 54 [layV W H x] (.tup [outV 2 (plan.map cA), pc0, .bool true]) := by
  have hle := h.ok.le
  obtain ⟨_, hrB⟩ := run_B 1000 _ [] plan hp (by omega)
  have hsto : (layV W H x).sto = true := by
    rcases (asV_inv hx.av).1 with ⟨rfl, _⟩ | ⟨c, rfl⟩ <;> rfl
  have hcl : (layV W H x).cells = [.int .i64 (W : Int), .int .i64 (H : Int), x] := by
    rcases (asV_inv hx.av).1 with ⟨rfl, _⟩ | ⟨c, rfl⟩ <;> rfl
  have hldL : ∀ hp, aload hp true 3 (.ptr (layV W H x)) = some (layV W H x) := fun hp => by simp only [aload, hcl]; rfl
  have hplain : (AV.tup [outV 2 (plan.map cA), pc0, .bool true]).plain = true := by
    have := cA_plain plan
    simp [AV.plain, plainL, this, pc0]
  refine PCall.of CtxOk.nil ok54 (by simp) hplain fun hs hb => ?_
  have h55 := p55 (cbP hs.nh) hx h.g (by omega) (W := W) (H := H) (by have := h.ok.w2; omega) (by have := h.ok.h2; omega) (f0 := 1000) (st0 := []) (fin := plan) hrB (by simp only [mS, mP]; omega) (by omega)
    (hs := ⟨fun i => if i = hs.nh + 1 then some [.int .i64 0, .int .i64 0, .int .i64 0, .int .i64 0, .nilsl] else if i = hs.nh then some [.nilsl] else hs.heap i, hs.nh + 1 + 1, hs.nt, hs.tok, hs.mp⟩)
    ⟨by simp, by simp; omega, .nilsl, by simp, by simpa using Outs.nil, fun xs k e => by cases e⟩ (by simp)
  generalize layV W H x = L at *
  simp only [A54, R54]
  rw [At.awp_seq]
  simp [hsto, -At.awp_seq]
  rw [At.awp_seq]
  simp [hldL, -At.awp_seq]
  refine At.hc h55 ?_ ?_
  rotate_left
  · rintro r hs' ⟨hv, _⟩; cases hv
  rintro r hs' ⟨hv, ⟨k, hl, hb', z, hz, ho, hzk⟩, hold⟩
  injection hv with hv; subst hv
  have h3 : hs'.heap (hs.nh + 1) = some [.int .i64 0, .int .i64 0, .int .i64 0, .int .i64 0, .nilsl] := by
    rw [hold (hs.nh + 1) (Nat.le_refl _) (by simp)]
    simp
  have s1 : astore hs'.heap 5 (.ref (hs.nh + 1) 0) pc0 = some _ := sto_agg (ys := [.int .i64 0, .int .i64 0, .int .i64 0, .int .i64 0, .nilsl]) (xs := [.int .i64 0, .int .i64 0, .int .i64 0, .int .i64 0, .nilsl]) h3 rfl rfl rfl rfl
  simp [s1, -At.awp_seq]
  rw [At.awp_seq]
  simp [-At.awp_seq]
  generalize hh : (fun k => if k = hs.nh + 1 then some [.int .i64 0, .int .i64 0, .int .i64 0, .int .i64 0, .nilsl] else hs'.heap k) = h2
  have w1 : h2 hs.nh = some [z] := by rw [← hh]; simp [hz]
  have w2 : h2 (hs.nh + 1) = some [.int .i64 0, .int .i64 0, .int .i64 0, .int .i64 0, .nilsl] := by rw [← hh]; simp
  have l1 : aload h2 false 1 (.ref hs.nh 0) = some z := load_one w1
  have l2 : aload h2 true 5 (.ref (hs.nh + 1) 0) = some (.agg [.int .i64 0, .int .i64 0, .int .i64 0, .int .i64 0, .nilsl]) := ld_agg w2 rfl
  have zl : z.sto = true ∧ z.cells = [z] := by
    rcases ho.inv with ⟨rfl, _⟩ | ⟨xs, k', rfl, _⟩ <;> exact ⟨rfl, rfl⟩
  have t1 : astore h2 1 (.ref hs.nh 0) z = some _ := store_one w1 zl.1 zl.2
  have l2b : aload (fun k => if k = hs.nh then some [z] else h2 k) true 5 (.ref (hs.nh + 1) 0) = some (.agg [.int .i64 0, .int .i64 0, .int .i64 0, .int .i64 0, .nilsl]) := ld_agg (by simp [w2]) rfl
  have t2 : astore (fun k => if k = hs.nh then some [z] else h2 k) 5 (.ref (hs.nh + 1) 0) (.agg [.int .i64 0, .int .i64 0, .int .i64 0, .int .i64 0, .nilsl]) = some _ := sto_agg (ys := [.int .i64 0, .int .i64 0, .int .i64 0, .int .i64 0, .nilsl]) (xs := [.int .i64 0, .int .i64 0, .int .i64 0, .int .i64 0, .nilsl]) (by simp [w2]) rfl rfl rfl rfl
  refine At.any_to (fun s' => s'.env 2 = .ref hs.nh 0 ∧ s'.env 3 = .ref (hs.nh + 1) 0 ∧ s'.env 4 = .bool true ∧ s'.hs.heap hs.nh = some [z] ∧ s'.hs.heap (hs.nh + 1) = some [.int .i64 0, .int .i64 0, .int .i64 0, .int .i64 0, .nilsl]) ?_ ?_
  · refine At.any_q 2 endN_p rfl rfl rfl ?_
    simp
    refine At.any_2 0 1 rfl rfl rfl ?_ ?_
    · simp [l1]
      refine At.any_2 1 3 rfl rfl rfl ?_ ?_
      · simp [l2]
        refine At.any_o 3 rfl rfl ?_
        simp [t1]
        refine At.any_o 4 rfl rfl ?_
        simp [t2]
        refine At.any_o 5 rfl rfl ?_
        simp
        refine At.any_e rfl ?_
        simp
      · simp [t1]
        refine At.any_o 1 rfl rfl ?_
        simp [l2b]
        refine At.any_o 4 rfl rfl ?_
        simp [t2]
        refine At.any_o 5 rfl rfl ?_
        simp
        refine At.any_e rfl ?_
        simp
    · simp [l2]
      refine At.any_o 0 rfl rfl ?_
      simp [l1]
      refine At.any_o 3 rfl rfl ?_
      simp [t1]
      refine At.any_o 4 rfl rfl ?_
      simp [t2]
      refine At.any_o 5 rfl rfl ?_
      simp
      refine At.any_e rfl ?_
      simp
  rintro s ⟨e2, e3, e4, hz1, hz2⟩
  simp
  rw [aRes3 (x := z) (y := pc0) (by rw [e2]; exact load_one hz1) (by rw [e3]; exact ld_agg hz2 rfl)]
  simp [e4, ho.sh]
  rfl
end Go.Proofs.YtdcpkgedaflnmaaGreatDoor.Cq
set_option linter.unusedVariables false
set_option linter.unusedSimpArgs false
namespace Go.Proofs.YtdcpkgedaflnmaaGreatDoor.Cq
open Go Fw

theorem layV_sto {x : AV} {ls : List Lab} {W H : Nat} (hx : IsL x ls) : (layV W H x).sto = true := by
  rcases (asV_inv hx.av).1 with ⟨rfl, _⟩ | ⟨c, rfl⟩ <;> rfl
theorem layV_ld {x : AV} {ls : List Lab} {W H : Nat} (hx : IsL x ls) : ∀ hp, aload hp true 3 (.ptr (layV W H x)) = some (layV W H x) := fun hp => by
  have hcl : (layV W H x).cells = [.int .i64 (W : Int), .int .i64 (H : Int), x] := by
    rcases (asV_inv hx.av).1 with ⟨rfl, _⟩ | ⟨c, rfl⟩ <;> rfl
  simp only [aload, hcl]; rfl
theorem p30 {x : AV} {W H : Nat} {ls : List Lab} (hx : IsL x ls) (h : LGp W H ls) {plan : List (Bool × Nat)} (hp : runF stepP 1000 [] [⟨⟨0, 0, W, H⟩, ls⟩] = (plan, none)) (hpl : plan.length ≤ 1000) :
    PCall Tryz.prog 30 [layV W H x] (.tup [.agg [.int .i64 0, .int .i64 0, .int .i64 0, .int .i64 0], .int .i64 14]) := by
  obtain ⟨C1, hC1, k31, _⟩ := ctx_pt CtxOk.nil 31 _ _ (p31 hx h.ok)
  obtain ⟨C, hC, k54, n⟩ := ctx_pt hC1 54 _ _ (p54 hx h hp hpl)
  have k31' : C 31 [layV W H x] = some (.int .i64 0) := by rw [n 31 (by decide)]; exact k31
  have hsto := layV_sto (W := W) (H := H) hx
  have hld := layV_ld (W := W) (H := H) hx
  refine PCall.of hC ok30 (by simp) rfl fun hs hb => ?_
  generalize layV W H x = L at *
  generalize outV 2 (plan.map cA) = V at *
  have s1 : astore (fun i => if i = hs.nh + 1 then some [.int .i64 0, .int .i64 0, .int .i64 0, .int .i64 0, .nilsl] else if i = hs.nh then some [.int .i64 0, .int .i64 0, .int .i64 0, .int .i64 0] else hs.heap i) 5 (.ref (hs.nh + 1) 0) pc0 = some _ := sto_agg (ys := [.int .i64 0, .int .i64 0, .int .i64 0, .int .i64 0, .nilsl]) (xs := [.int .i64 0, .int .i64 0, .int .i64 0, .int .i64 0, .nilsl]) (by simp) rfl rfl rfl rfl
  have s2 : astore (fun k => if k = hs.nh + 1 then some [.int .i64 0, .int .i64 0, .int .i64 0, .int .i64 0, .nilsl] else if k = hs.nh + 1 then some [.int .i64 0, .int .i64 0, .int .i64 0, .int .i64 0, .nilsl] else if k = hs.nh then some [.int .i64 0, .int .i64 0, .int .i64 0, .int .i64 0] else hs.heap k) 4 (.ref hs.nh 0) (.agg [.int .i64 0, .int .i64 0, .int .i64 0, .int .i64 0]) = some _ := sto_agg (ys := [.int .i64 0, .int .i64 0, .int .i64 0, .int .i64 0]) (by simp) rfl rfl rfl rfl
  simp [A30, R30, hsto, hld, k31', k54, s1, s2]
  simp [aload, apart]
/-- how many cuts have been told -/
def JV (bu bs n : Nat) (_k0 : Nat) (st : Nat × Bool) (hs : HS) : Prop := hs.heap bu = some [.int .i64 (st.1 : Int)] ∧ hs.heap bs = some [.bool st.2] ∧ bu < bs ∧ bs < hs.nh ∧ st.1 ≤ n
theorem cbV (bu bs : Nat) {plan : List (Bool × Nat)} {V : AV} (hV : asV 2 V = some (plan.map cA)) (hl : plan.length ≤ 1000) : Cbf (Nat × Bool) (stepV plan) (JV bu bs plan.length) (bs + 1) 56 [.ref bu 0, .ptr V, .ref bs 0] := by
  refine ⟨fun k0 st hs q x st' c hP hJ hn hk hst => ?_, fun k0 k1 st hs hs' hJ h1 h2 h3 h4 h5 => ?_⟩
  · obtain ⟨j1, j2, j3, j4, j5⟩ := hJ
    obtain ⟨u, sh⟩ := st
    simp only at j1 j2 j5
    unfold stepV at hst
    split at hst
    · simp at hst
    rename_i hne
    simp only at hne hst
    simp only [Prod.mk.injEq] at hst
    obtain ⟨rfl, hc⟩ := hst
    have hu : u < plan.length := by omega
    rw [List.getElem?_eq_getElem hu] at hc
    injection hc with hc
    have hlen := lenV hV
    rw [List.length_map] at hlen
    have hidx := idxV hV (k := .i64) (i := u) (by simpa using hu)
    simp only [List.getElem_map, hc] at hidx
    have lV : ∀ hp, aload hp false 1 (.ptr V) = some V := by
      rcases (asV_inv hV).1 with ⟨rfl, _⟩ | ⟨c, rfl⟩ <;> exact leaf_ld rfl
    have hst1 := pcC_sto (q := q) hP.l.leaf
    refine FCall.ofAt CtxOk.nil ok56 (by simp) ?_
    generalize AV.agg (pcC q x) = X at *
    have hub : ¬ bu = hs.nh := by omega
    have l1 : aload (fun i => if i = hs.nh then some [.bool false, .int .i64 0] else hs.heap i) false 1 (.ref bu 0) = some (.int .i64 (u : Int)) := ldc (ys := [.int .i64 (u : Int)]) (by simp [hub, j1]) rfl
    have w1 := wrap_nat1 (show u < _ by omega)
    have w2 : IntKind.i64.wrap (((u + 1 : Nat) : Int) - 1) = (u : Int) := by rw [wrap64 (by omega) (by omega)]; omega
    obtain ⟨u1, hu1⟩ : ∃ u1 : Int, u1 = ((u + 1 : Nat) : Int) := ⟨_, rfl⟩
    rw [← hu1] at w1 w2
    have s1 : astore (fun i => if i = hs.nh then some [.bool false, .int .i64 0] else hs.heap i) 1 (.ref bu 0) (.int .i64 u1) = some _ := store_one (u := .int .i64 (u : Int)) (by simp [hub, j1]) rfl rfl
    have l2 : aload (fun k => if k = bu then some [.int .i64 u1] else if k = hs.nh then some [.bool false, .int .i64 0] else hs.heap k) false 1 (.ref bu 0) = some (.int .i64 u1) := load_one (by simp)
    have lc : ∀ hp, aload hp true 2 (.ptr (cA c)) = some (cA c) := fun hp => rfl
    have s2 : astore (fun k => if k = bu then some [.int .i64 u1] else if k = hs.nh then some [.bool false, .int .i64 0] else hs.heap k) 2 (.ref hs.nh 0) (cA c) = some _ := sto_agg (ys := [.bool false, .int .i64 0]) (xs := [.bool c.1, .int .i64 (c.2 : Int)]) (by simp [show ¬ hs.nh = bu by omega]) rfl rfl rfl rfl
    have hne' : ¬ (u : Int) = (plan.length : Int) := by omega
    simp [A56, R56, hst1, l1, lV, hlen, hne, hne', w1, s1, l2, w2, hidx, lc, s2]
    exact At.of ⟨rfl, ⟨by simp [hub, hu1], by simp [show ¬ bs = hs.nh by omega, show ¬ bs = bu by omega, j2], j3, by simp; omega, by simp; omega⟩, fun i h1 h2 => by rw [if_neg (by omega), if_neg (by omega), if_neg (by omega)]⟩
  · obtain ⟨j1, j2, j3, j4, j5⟩ := hJ
    exact ⟨by rw [h1 bu (by omega)]; exact j1, by rw [h1 bs (by omega)]; exact j2, j3, by omega, j5⟩
theorem p21 {x V : AV} {W H : Nat} {ls : List Lab} (hx : IsL x ls) (h : LGp W H ls) {plan : List (Bool × Nat)} (hV : asV 2 V = some (plan.map cA)) (hl : plan.length ≤ 1000) (hr : runF (stepV plan) 1000 (0, false) [⟨⟨0, 0, W, H⟩, ls⟩] = ((plan.length, false), none)) :
    PCall Tryz.prog 21 [layV W H x, V] (.int .i64 0) := by
  have hle := h.ok.le
  obtain ⟨C, hC, k31, _⟩ := ctx_pt CtxOk.nil 31 _ _ (p31 hx h.ok)
  have hsto := layV_sto (W := W) (H := H) hx
  have hld := layV_ld (W := W) (H := H) hx
  have hVs : V.sto = true ∧ V.cells = [V] := by
    rcases (asV_inv hV).1 with ⟨rfl, _⟩ | ⟨c, rfl⟩ <;> exact ⟨rfl, rfl⟩
  have lV : ∀ hp, aload hp false 1 (.ptr V) = some V := by
    rcases (asV_inv hV).1 with ⟨rfl, _⟩ | ⟨c, rfl⟩ <;> exact leaf_ld rfl
  have hlen := lenV hV
  rw [List.length_map] at hlen
  refine PCall.of hC ok21 (by simp) rfl fun hs hb => ?_
  have s1 : astore (fun i => if i = hs.nh + 1 then some [.bool false] else if i = hs.nh then some [.int .i64 0] else hs.heap i) 1 (.ref hs.nh 0) (.int .i64 0) = some _ := store_one (u := .int .i64 0) (by simp) rfl rfl
  have s2 : astore (fun k => if k = hs.nh then some [.int .i64 0] else if k = hs.nh + 1 then some [.bool false] else if k = hs.nh then some [.int .i64 0] else hs.heap k) 1 (.ref (hs.nh + 1) 0) (.bool false) = some _ := store_one (u := .bool false) (by simp) rfl rfl
  have h55 := p55 (cbV hs.nh (hs.nh + 1) hV hl) hx h.g (by omega) (W := W) (H := H) (by have := h.ok.w2; omega) (by have := h.ok.h2; omega) (f0 := 1000) (st0 := (0, false)) (fin := (plan.length, false)) hr (by simp only [mS, mP]; omega) (by omega)
    (hs := ⟨fun k => if k = hs.nh + 1 then some [.bool false] else if k = hs.nh then some [.int .i64 0] else if k = hs.nh + 1 then some [.bool false] else if k = hs.nh then some [.int .i64 0] else hs.heap k, hs.nh + 1 + 1, hs.nt, hs.tok, hs.mp⟩)
    ⟨by simp, by simp, by omega, by simp, by simp⟩ (by simp)
  generalize layV W H x = L at *
  simp [A21, R21, hsto, hVs, hld, k31, s1, s2]
  refine At.hc h55 ?_ ?_
  rotate_left
  · rintro r hs' ⟨hv, _⟩; cases hv
  rintro r hs' ⟨hv, ⟨k, j1, j2, j3, j4, j5⟩, hold⟩
  injection hv with hv; subst hv
  simp only at j1 j2
  have s3 : astore (fun i => if i = hs'.nh then some [.int .i64 0, .int .i64 0, .int .i64 0, .int .i64 0, .nilsl] else hs'.heap i) 5 (.ref hs'.nh 0) pc0 = some _ := sto_agg (ys := [.int .i64 0, .int .i64 0, .int .i64 0, .int .i64 0, .nilsl]) (xs := [.int .i64 0, .int .i64 0, .int .i64 0, .int .i64 0, .nilsl]) (by simp) rfl rfl rfl rfl
  have hn1 : ¬ hs.nh = hs'.nh := by omega
  have hn2 : ¬ hs.nh + 1 = hs'.nh := by omega
  have l1 : aload (fun k => if k = hs'.nh then some [.int .i64 0, .int .i64 0, .int .i64 0, .int .i64 0, .nilsl] else if k = hs'.nh then some [.int .i64 0, .int .i64 0, .int .i64 0, .int .i64 0, .nilsl] else hs'.heap k) false 1 (.ref (hs.nh + 1) 0) = some (.bool false) := load_one (by simp [hn2, j2])
  have l2 : aload (fun k => if k = hs'.nh then some [.int .i64 0, .int .i64 0, .int .i64 0, .int .i64 0, .nilsl] else if k = hs'.nh then some [.int .i64 0, .int .i64 0, .int .i64 0, .int .i64 0, .nilsl] else hs'.heap k) false 1 (.ref hs.nh 0) = some (.int .i64 (plan.length : Int)) := load_one (by simp [hn1, j1])
  simp [s3, l1, l2, lV, hlen]
end Go.Proofs.YtdcpkgedaflnmaaGreatDoor.Cq
