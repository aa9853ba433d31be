/-
  Labels that can be cut apart: plain. Own work.
  Plans of cuts: plain. Own work.
  Labels and pieces in memory; sides; the check of a layout. Own work.
  The check of a layout. Own work.
  Shares of one size; the layout that a table of choices tells: plain. Own work.
-/
import Derived.Test.YtdcpkgedaflnmaaGreatDoorFx5
import Derived.Test.YtdcpkgedaflnmaaGreatDoorC3
import Derived.Test.YtdcpkgedaflnmaaGreatDoorH1
set_option linter.unusedVariables false
set_option linter.unusedSimpArgs false
namespace Go.Proofs.YtdcpkgedaflnmaaGreatDoor.Cq
open Go Fw

structure Lab where
  x : Nat
  y : Nat
  w : Nat
  h : Nat
deriving DecidableEq, Inhabited
def sd (up : Bool) (l : Lab) : Nat × Nat := if up = true then (l.x, l.x + l.w) else (l.y, l.y + l.h)
/-- what can be cut apart -/
inductive Sp : (Lab → Prop) → Prop
  | one (S : Lab → Prop) : (∀ a b, S a → S b → a = b) → Sp S
  | cut (S : Lab → Prop) (up : Bool) (p : Nat) : (∀ q, S q → (sd up q).2 ≤ p ∨ p ≤ (sd up q).1) → Sp (fun q => S q ∧ (sd up q).2 ≤ p) → Sp (fun q => S q ∧ p ≤ (sd up q).1) → Sp S
theorem Sp.sub {S : Lab → Prop} (h : Sp S) : ∀ {T : Lab → Prop}, (∀ q, T q → S q) → Sp T := by
  induction h with
  | one S h => exact fun hT => .one _ fun a b ha hb => h a b (hT a ha) (hT b hb)
  | cut S up p h1 h2 h3 i2 i3 => exact fun hT => .cut _ up p (fun q hq => h1 q (hT q hq)) (i2 fun q hq => ⟨hT q hq.1, hq.2⟩) (i3 fun q hq => ⟨hT q hq.1, hq.2⟩)
theorem Sp.ex {S : Lab → Prop} (h : Sp S) : ∀ {l : List Lab}, l.Nodup → 2 ≤ l.length → (∀ q ∈ l, S q) → ∃ up p, (∀ q ∈ l, (sd up q).2 ≤ p ∨ p ≤ (sd up q).1) ∧ (∃ q ∈ l, (sd up q).2 ≤ p) ∧ ∃ q ∈ l, p ≤ (sd up q).1 := by
  induction h with
  | one S h =>
    intro l hn h2 hl
    match l, h2 with
    | a :: b :: l, _ =>
      have := h a b (hl a (by simp)) (hl b (by simp))
      simp [this] at hn
  | cut S up p h1 h2 h3 i2 i3 =>
    intro l hn hl2 hl
    by_cases c1 : ∃ q ∈ l, (sd up q).2 ≤ p
    · by_cases c2 : ∃ q ∈ l, p ≤ (sd up q).1
      · exact ⟨up, p, fun q hq => h1 q (hl q hq), c1, c2⟩
      · refine i2 hn hl2 fun q hq => ⟨hl q hq, ?_⟩
        rcases h1 q (hl q hq) with h | h
        · exact h
        · exact absurd ⟨q, hq, h⟩ c2
    · refine i3 hn hl2 fun q hq => ⟨hl q hq, ?_⟩
      rcases h1 q (hl q hq) with h | h
      · exact absurd ⟨q, hq, h⟩ c1
      · exact h
/-! dividing -/
def swp (l : List Lab) (i n : Nat) : List Lab := (l.set i (l.getD n default)).set n (l.getD i default)
theorem swp_len (l : List Lab) (i n : Nat) : (swp l i n).length = l.length := by simp [swp]
theorem swp_get {l : List Lab} {i n k : Nat} (hi : i < l.length) (hn : n < l.length) (hk : k < l.length) : (swp l i n).getD k default = if k = n then l.getD i default else if k = i then l.getD n default else l.getD k default := by
  unfold swp
  by_cases h1 : k = n
  · subst h1; simp [hk]
  · by_cases h2 : k = i
    · subst h2
      have : ¬ n = k := fun e => h1 e.symm
      simp [List.getD, List.getElem?_set, h1, this, hk]
    · have a1 : ¬ n = k := fun e => h1 e.symm
      have a2 : ¬ i = k := fun e => h2 e.symm
      simp [List.getD, List.getElem?_set, h1, h2, a1, a2]
structure Dv (up : Bool) (p i n : Nat) (l : List Lab) : Prop where
  ni : n ≤ i
  il : i ≤ l.length
  lo : ∀ k, k < n → (sd up (l.getD k default)).2 ≤ p
  hi : ∀ k, n ≤ k → k < i → p ≤ (sd up (l.getD k default)).1
theorem Dv.step {up : Bool} {p i n : Nat} {l : List Lab} (h : Dv up p i n l) (hi : i < l.length) (h2 : (sd up (l.getD i default)).2 ≤ p) : Dv up p (i + 1) (n + 1) (swp l i n) := by
  have hni := h.ni
  refine ⟨by omega, by rw [swp_len]; omega, fun k hk => ?_, fun k h1 h3 => ?_⟩
  · rw [swp_get hi (by omega) (by omega)]
    by_cases e : k = n
    · rw [if_pos e]; exact h2
    · rw [if_neg e, if_neg (by omega)]; exact h.lo k (by omega)
  · rw [swp_get hi (by omega) (by omega), if_neg (by omega)]
    by_cases e : k = i
    · rw [if_pos e]; exact h.hi n (Nat.le_refl _) (by omega)
    · rw [if_neg e]; exact h.hi k (by omega) (by omega)
end Go.Proofs.YtdcpkgedaflnmaaGreatDoor.Cq
set_option linter.unusedVariables false
set_option linter.unusedSimpArgs false
namespace Go.Proofs.YtdcpkgedaflnmaaGreatDoor.Cq
open Go Fw

/-! following -/
end Go.Proofs.YtdcpkgedaflnmaaGreatDoor.Cq
set_option linter.unusedVariables false
set_option linter.unusedSimpArgs false
namespace Go.Proofs.YtdcpkgedaflnmaaGreatDoor.Cq
open Go Fw

def lC (l : Lab) : List AV := [.int .i64 (l.x : Int), .int .i64 (l.y : Int), .int .i64 (l.w : Int), .int .i64 (l.h : Int)]
def lA (l : Lab) : AV := .agg (lC l)
end Go.Proofs.YtdcpkgedaflnmaaGreatDoor.Cq
set_option linter.unusedVariables false
set_option linter.unusedSimpArgs false
namespace Go.Proofs.YtdcpkgedaflnmaaGreatDoor.Cq
open Go Fw

theorem At.gen {K : AS → Prop} {s0 : AS} (J : AS → Prop) (h : J s0) (h2 : ∀ s, J s → At (K s)) : At (K s0) := h2 s0 h
structure IsL (x : AV) (ls : List Lab) : Prop where
  av : asV 4 x = some (ls.map lA)
theorem IsL.len {x : AV} {ls : List Lab} (h : IsL x ls) : alenK false x = some (.int .i64 (ls.length : Int)) := by
  have := lenV h.av
  simpa using this
theorem IsL.get {x : AV} {ls : List Lab} (h : IsL x ls) {i : Nat} (hi : i < ls.length) : aidxS 4 x (.int .i64 (i : Int)) = some (.ptr (.agg (lC ls[i]))) := by
  have := idxV h.av (k := .i64) (i := i) (by simpa using hi)
  simpa [lA] using this
theorem IsL.leaf {x : AV} {ls : List Lab} (h : IsL x ls) : x.leaf = true := by
  rcases (asV_inv h.av).1 with ⟨rfl, _⟩ | ⟨c, rfl⟩ <;> rfl
theorem IsL.take {x : AV} {ls : List Lab} (h : IsL x ls) (n : Nat) : IsL (takeV n x) (ls.take n) := ⟨by have := asV_take h.av n; rw [← List.map_take] at this; exact this⟩
end Go.Proofs.YtdcpkgedaflnmaaGreatDoor.Cq
set_option linter.unusedVariables false
set_option linter.unusedSimpArgs false
namespace Go.Proofs.YtdcpkgedaflnmaaGreatDoor.Cq
open Go Fw Ct

theorem tryC_ge {best x y : Ch} {up : Bool} {p : Nat} : best.wo ≤ (tryC best x y up p).wo ∧ x.wo + y.wo ≤ (tryC best x y up p).wo := by
  unfold tryC
  have e1 : (sumC x y up p).wo = x.wo + y.wo := rfl
  by_cases h : better (sumC x y up p) best = true
  · rw [if_pos h]
    unfold better at h
    simp only [Bool.or_eq_true, Bool.and_eq_true, decide_eq_true_eq] at h
    exact ⟨by omega, Nat.le_refl _⟩
  · rw [if_neg h]
    unfold better at h
    simp only [Bool.or_eq_true, Bool.and_eq_true, decide_eq_true_eq] at h
    exact ⟨Nat.le_refl _, by omega⟩
theorem acU_ge {F : Nat → Nat → Ch} {a b : Nat} {c : Ch} : ∀ {i : Nat}, c.wo ≤ (acU F a b c i).wo ∧ ∀ k, 1 ≤ k → k ≤ i → (F k b).wo + (F (a - k) b).wo ≤ (acU F a b c i).wo
  | 0 => ⟨Nat.le_refl _, fun k h1 h2 => by omega⟩
  | i + 1 => by
    have ih := acU_ge (F := F) (a := a) (b := b) (c := c) (i := i)
    have t := tryC_ge (best := acU F a b c i) (x := F (i + 1) b) (y := F (a - (i + 1)) b) (up := true) (p := i + 1)
    refine ⟨Nat.le_trans ih.1 t.1, fun k h1 h2 => ?_⟩
    by_cases h : k = i + 1
    · subst h; exact t.2
    · exact Nat.le_trans (ih.2 k h1 (by omega)) t.1
theorem acR_ge {F : Nat → Nat → Ch} {a b : Nat} {c : Ch} : ∀ {i : Nat}, c.wo ≤ (acR F a b c i).wo ∧ ∀ k, 1 ≤ k → k ≤ i → (F a k).wo + (F a (b - k)).wo ≤ (acR F a b c i).wo
  | 0 => ⟨Nat.le_refl _, fun k h1 h2 => by omega⟩
  | i + 1 => by
    have ih := acR_ge (F := F) (a := a) (b := b) (c := c) (i := i)
    have t := tryC_ge (best := acR F a b c i) (x := F a (i + 1)) (y := F a (b - (i + 1))) (up := false) (p := i + 1)
    refine ⟨Nat.le_trans ih.1 t.1, fun k h1 h2 => ?_⟩
    by_cases h : k = i + 1
    · subst h; exact t.2
    · exact Nat.le_trans (ih.2 k h1 (by omega)) t.1
theorem div_add_le {a x i : Nat} (ha : 1 ≤ a) (h : i ≤ x) : i / a + (x - i) / a ≤ x / a := by
  rw [Nat.le_div_iff_mul_le (by omega), Nat.add_mul]
  have h1 := Nat.div_mul_le_self i a
  have h2 := Nat.div_mul_le_self (x - i) a
  omega
theorem div_sub_self {a x : Nat} (ha : 1 ≤ a) (h : a ≤ x) : 1 + (x - a) / a = x / a := by
  rw [Nat.div_eq_sub_div (by omega) h]; omega
/-- with one kind of worth 1: as many as fit -/
theorem one_eq {a b : Nat} (ha : 1 ≤ a) (hb : 1 ≤ b) : ∀ n x y, x + y ≤ n → 1 ≤ x → 1 ≤ y → (gT [⟨a, b, 1⟩] x y).wo = x / a * (y / b) ∧ (gT [⟨a, b, 1⟩] x y).la = x / a * (y / b) := by
  intro n
  induction n with
  | zero => intro x y h hx hy; omega
  | succ n ih =>
    intro x y h hx hy
    have hxx : ∀ i, 1 ≤ i → i < x → i / a * (y / b) + (x - i) / a * (y / b) ≤ x / a * (y / b) := fun i h1 h2 => by
      rw [← Nat.add_mul]; exact Nat.mul_le_mul_right _ (div_add_le ha (by omega))
    have hyy : ∀ i, 1 ≤ i → i < y → x / a * (i / b) + x / a * ((y - i) / b) ≤ x / a * (y / b) := fun i h1 h2 => by
      rw [← Nat.mul_add]; exact Nat.mul_le_mul_left _ (div_add_le hb (by omega))
    have hval : (valK x y [⟨a, b, 1⟩]).1 = if a = x ∧ b = y then 1 else 0 := by
      unfold valK
      simp only [List.foldl_cons, List.foldl_nil, valS]
      split <;> rfl
    have hcell : (cell1 (valK x y [⟨a, b, 1⟩]).1).la = (cell1 (valK x y [⟨a, b, 1⟩]).1).wo ∧ (cell1 (valK x y [⟨a, b, 1⟩]).1).wo ≤ x / a * (y / b) := by
      rw [hval]
      split
      · rename_i e
        obtain ⟨rfl, rfl⟩ := e
        rw [Nat.div_self (by omega), Nat.div_self (by omega)]
        exact ⟨rfl, Nat.le_refl _⟩
      · exact ⟨rfl, Nat.zero_le _⟩
    have hP : (gT [⟨a, b, 1⟩] x y).la = (gT [⟨a, b, 1⟩] x y).wo ∧ (gT [⟨a, b, 1⟩] x y).wo ≤ x / a * (y / b) := by
      rw [gT_eq _ hx hy]
      refine acR_of (P := fun c => c.la = c.wo ∧ c.wo ≤ x / a * (y / b)) (acU_of (P := fun c => c.la = c.wo ∧ c.wo ≤ x / a * (y / b)) hcell (fun k h1 h2 => ?_) (by omega)) (fun k h1 h2 => ?_) (by omega)
      · obtain ⟨p1, p2⟩ := ih k y (by omega) h1 hy
        obtain ⟨q1, q2⟩ := ih (x - k) y (by omega) (by omega) hy
        have := hxx k h1 h2
        exact ⟨by simp only [sumC, p1, p2, q1, q2], by simp only [sumC, p1, q1]; exact this⟩
      · obtain ⟨p1, p2⟩ := ih x k (by omega) hx h1
        obtain ⟨q1, q2⟩ := ih x (y - k) (by omega) hx (by omega)
        have := hyy k h1 h2
        exact ⟨by simp only [sumC, p1, p2, q1, q2], by simp only [sumC, p1, q1]; exact this⟩
    have hG : x / a * (y / b) ≤ (gT [⟨a, b, 1⟩] x y).wo := by
      rw [gT_eq _ hx hy]
      unfold bestC
      have gR := acR_ge (F := gT [⟨a, b, 1⟩]) (a := x) (b := y) (c := acU (gT [⟨a, b, 1⟩]) x y (cell1 (valK x y [⟨a, b, 1⟩]).1) (x - 1)) (i := y - 1)
      have gU := acU_ge (F := gT [⟨a, b, 1⟩]) (a := x) (b := y) (c := cell1 (valK x y [⟨a, b, 1⟩]).1) (i := x - 1)
      by_cases h1 : x < a
      · rw [Nat.div_eq_of_lt h1, Nat.zero_mul]; exact Nat.zero_le _
      by_cases h2 : y < b
      · rw [Nat.div_eq_of_lt h2, Nat.mul_zero]; exact Nat.zero_le _
      by_cases h3 : a < x
      · have := gU.2 a ha (by omega)
        rw [(ih a y (by omega) ha hy).1, (ih (x - a) y (by omega) (by omega) hy).1, ← Nat.add_mul, Nat.div_self (by omega), div_sub_self ha (by omega)] at this
        exact Nat.le_trans this gR.1
      have hax : a = x := by omega
      by_cases h4 : b < y
      · have := gR.2 b hb (by omega)
        rw [(ih x b (by omega) hx hb).1, (ih x (y - b) (by omega) hx (by omega)).1, ← Nat.mul_add, Nat.div_self (by omega), div_sub_self hb (by omega)] at this
        exact this
      have hby : b = y := by omega
      rw [hval, if_pos ⟨hax, hby⟩] at gU
      subst hax hby
      rw [hval, if_pos ⟨rfl, rfl⟩] at gR
      rw [Nat.div_self (by omega), Nat.div_self (by omega)]
      refine Nat.le_trans ?_ (Nat.le_trans gU.1 (by rw [hval, if_pos ⟨rfl, rfl⟩]; exact gR.1))
      decide
    omega
/-! the layout of a table -/
end Go.Proofs.YtdcpkgedaflnmaaGreatDoor.Cq
