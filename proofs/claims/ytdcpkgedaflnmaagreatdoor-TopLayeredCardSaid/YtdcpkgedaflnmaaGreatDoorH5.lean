/-
  Labels that lie one above the other, and their cuts from the lowest on: plain. Own work.
  The strips of TopLayered: plain. Own work.
  The labels of a folded strip: plain. Own work.
  A fold's letter by a bit: plain. Own work.
  What the calls of TopLayered answer. Own work.
-/
import Derived.Test.YtdcpkgedaflnmaaGreatDoorH3
import Derived.Test.YtdcpkgedaflnmaaGreatDoorG9
import Derived.Test.YtdcpkgedaflnmaaGreatDoorG3
import Derived.Test.YtdcpkgedaflnmaaGreatDoorG5
import Derived.Test.YtdcpkgedaflnmaaGreatDoorH2
set_option linter.unusedVariables false
set_option linter.unusedSimpArgs false
namespace Go.Proofs.YtdcpkgedaflnmaaGreatDoor.Cq
open Go Fw

/-- labels one above the other, from a height on -/
def Stk : Nat → List Lab → Prop
  | _, [] => True
  | k, l :: ls => l.y = k ∧ l.h = 1 ∧ Stk (k + 1) ls
theorem Stk.get : ∀ {ls : List Lab} {k : Nat}, Stk k ls → ∀ i, i < ls.length → (ls.getD i default).y = k + i ∧ (ls.getD i default).h = 1
  | l :: ls, k, h, 0, _ => ⟨by simpa using h.1, by simpa using h.2.1⟩
  | l :: ls, k, h, i + 1, hi => by
    have := h.2.2.get i (by simpa using hi)
    simp only [List.getD_cons_succ]
    exact ⟨by omega, this.2⟩
theorem Stk.mem : ∀ {ls : List Lab} {k : Nat}, Stk k ls → ∀ l ∈ ls, k ≤ l.y ∧ l.y < k + ls.length ∧ l.h = 1
  | a :: ls, k, h, l, hl => by
    rcases List.mem_cons.1 hl with rfl | hl
    · have h1 := h.1
      exact ⟨by omega, by simp only [List.length_cons]; omega, h.2.1⟩
    · obtain ⟨a1, a2, a3⟩ := h.2.2.mem l hl
      exact ⟨by omega, by simp only [List.length_cons]; omega, a3⟩
theorem Stk.nd : ∀ {ls : List Lab} {k : Nat}, Stk k ls → ls.Nodup
  | [], _, _ => List.nodup_nil
  | a :: ls, k, h => List.nodup_cons.2 ⟨fun hm => by have := (h.2.2.mem a hm).1; have := h.1; omega, h.2.2.nd⟩
theorem Stk.sp : ∀ {ls : List Lab} {k : Nat}, Stk k ls → Sp fun l => l ∈ ls
  | [], _, _ => .one _ fun a b ha _ => nomatch ha
  | a :: ls, k, h => by
    have hy := h.1
    have hh := h.2.1
    refine .cut _ false (k + 1) (fun q hq => ?_) (.one _ fun b c hb hc => ?_) (h.2.2.sp.sub fun q hq => ?_)
    · rcases List.mem_cons.1 hq with rfl | hq
      · left; simp only [sd, Bool.false_eq_true, if_false]; omega
      · have := h.2.2.mem q hq
        right; simp only [sd, Bool.false_eq_true, if_false]; omega
    · have key : ∀ q, (q ∈ a :: ls ∧ (sd false q).2 ≤ k + 1) → q = a := by
        rintro q ⟨hq, hs⟩
        rcases List.mem_cons.1 hq with rfl | hq
        · rfl
        · have := h.2.2.mem q hq
          simp only [sd, Bool.false_eq_true, if_false] at hs
          omega
      rw [key b hb, key c hc]
    · rcases List.mem_cons.1 hq.1 with rfl | hq1
      · have := hq.2
        simp only [sd, Bool.false_eq_true, if_false] at this
        omega
      · exact hq1
theorem dv_keep {up : Bool} {p n : Nat} {l : List Lab} : ∀ (r i : Nat), (∀ k, i ≤ k → k < i + r → p ≤ (sd up (l.getD k default)).1 ∧ p < (sd up (l.getD k default)).2) → dv up p r i n l = some (l, n)
  | 0, _, _ => rfl
  | r + 1, i, h => by
    have h1 := h i (Nat.le_refl _) (by omega)
    simp only [dv]
    rw [if_neg (by omega), if_neg (by omega)]
    exact dv_keep r (i + 1) fun k h2 h3 => h k (by omega) (by omega)
theorem Stk.dv {ls : List Lab} {k : Nat} (h : Stk k ls) (hl : 1 ≤ ls.length) : dv false (k + 1) ls.length 0 0 ls = some (ls, 1) := by
  match ls, hl with
  | a :: ls, _ =>
    have hy := h.1
    have hh := h.2.1
    have e : swp (a :: ls) 0 0 = a :: ls := by simp [swp]
    simp only [List.length_cons, Cq.dv, List.getD_cons_zero]
    rw [if_neg (by simp only [sd, Bool.false_eq_true, if_false]; omega), if_pos (by simp only [sd, Bool.false_eq_true, if_false]; omega), e]
    refine dv_keep _ _ fun j h1 h2 => ?_
    have := h.get j (by simp only [List.length_cons]; omega)
    simp only [sd, Bool.false_eq_true, if_false]
    omega
theorem Stk.dvd {ls : List Lab} {k x w : Nat} (h : Stk k ls) (hl : 2 ≤ ls.length) : dvd ⟨⟨x, k, w, ls.length⟩, ls⟩ false (k + 1) = some (⟨⟨x, k, w, 1⟩, ls.take 1⟩, ⟨⟨x, k + 1, w, ls.length - 1⟩, ls.drop 1⟩, true) := by
  simp only [Cq.dvd]
  rw [if_pos (by simp only [sd, Bool.false_eq_true, if_false]; omega), h.dv (by omega)]
  have e1 : k + 1 - k = 1 := by omega
  have e2 : k + ls.length - (k + 1) = ls.length - 1 := by omega
  have e3 : 1 < ls.length := by omega
  simp [lowL, highL, e1, e2, e3]
/-- the plan from the lowest cut on -/
def plnS (n : Nat) : List (Bool × Nat) := (List.range (n - 1)).map fun i => (false, i + 1)
theorem Stk.run {n x w : Nat} : ∀ (f k : Nat) (ls : List Lab), Stk k ls → k + ls.length = n → 1 ≤ ls.length → 2 * ls.length ≤ f → runF (stepV (plnS n)) f (k, false) [⟨⟨x, k, w, ls.length⟩, ls⟩] = ((n - 1, false), none)
  | 0, k, ls, _, _, h1, h2 => by omega
  | 1, k, ls, _, _, h1, h2 => by omega
  | f + 2, k, ls, h, hn, h1, h2 => by
    have hlp : (plnS n).length = n - 1 := by simp [plnS]
    by_cases c : ls.length < 2
    · have : k = n - 1 := by omega
      simp only [runF, c, if_true, this]
    · have hk : ¬ k = n - 1 := by omega
      have hg : (plnS n)[k]? = some (false, k + 1) := by
        simp only [plnS, List.getElem?_map, List.getElem?_range (show k < n - 1 by omega), Option.map_some]
      have hd := h.dvd (x := x) (w := w) (by omega)
      have ht : Stk (k + 1) (ls.drop 1) := by
        match ls, h1 with
        | a :: ls, _ => exact h.2.2
      have ih := Stk.run (n := n) (x := x) (w := w) f (k + 1) (ls.drop 1) ht (by simp only [List.length_drop]; omega) (by simp only [List.length_drop]; omega) (by simp only [List.length_drop]; omega)
      rw [List.length_drop] at ih
      have hs : stepV (plnS n) (k, false) ⟨⟨x, k, w, ls.length⟩, ls⟩ = ((k + 1, false), some (false, k + 1)) := by
        simp only [stepV, hlp, hk, if_false, hg]
      have ha : (ls.take 1).length < 2 := by simp only [List.length_take]; omega
      rw [runF.eq_3]
      rw [if_neg c, hs]
      simp only [hd]
      rw [runF.eq_3, if_pos ha]
      exact ih
theorem Stk.gp {ls : List Lab} {W H : Nat} (h : Stk 0 ls) (hw : W ≤ 12) (hH : H ≤ 12) (hl : ls.length ≤ H) (hx : ∀ l ∈ ls, 1 ≤ l.w ∧ l.x + l.w ≤ W) : GP ⟨⟨0, 0, W, H⟩, ls⟩ :=
  ⟨h.nd, h.sp, fun l hm => by
    have h1 := h.mem l hm
    have h2 := hx l hm
    exact ⟨h2.1, by omega, Nat.zero_le _, by simpa using h2.2, Nat.zero_le _, by simp only; omega⟩, by simpa using hw, by simpa using hH⟩
end Go.Proofs.YtdcpkgedaflnmaaGreatDoor.Cq
set_option linter.unusedVariables false
set_option linter.unusedSimpArgs false
namespace Go.Proofs.YtdcpkgedaflnmaaGreatDoor.Ly
open Go Fw Fo

/-- the lengths -/
def len3 (a : Int) : Int := 1 + a.tmod 3
def lenL (es : List Int) (n : Nat) : List Int := (es.take n).map len3
/-- the folds -/
def fol (v i : Nat) : UInt8 := if v / 2 ^ i % 2 = 0 then 109 else 118
def folL (v n : Nat) : List UInt8 := (List.range n).map fun i => fol v (i + 1)
theorem folL_succ (v n : Nat) : folL v (n + 1) = folL v n ++ [fol v (n + 1)] := by simp [folL, List.range_succ]
theorem folL_len (v n : Nat) : (folL v n).length = n := by simp [folL]
theorem len3_bd {a : Int} (h : 0 ≤ a) : 1 ≤ len3 a ∧ len3 a ≤ 3 := by
  unfold len3
  rw [Int.tmod_eq_emod_of_nonneg h]
  omega
theorem lenL_len (es : List Int) (n : Nat) : (lenL es n).length = min n es.length := by unfold lenL; rw [List.length_map, List.length_take]
theorem lenL_bd {es : List Int} (h : ∀ a ∈ es, 0 ≤ a ∧ a ≤ 255) {n : Nat} : ∀ a ∈ lenL es n, 1 ≤ a ∧ a ≤ 3 := by
  intro a ha
  obtain ⟨b, hb, rfl⟩ := List.mem_map.1 ha
  exact len3_bd (h b (List.mem_of_mem_take hb)).1
theorem sum_bd : ∀ {l : List Int}, (∀ a ∈ l, 1 ≤ a ∧ a ≤ 3) → l.sum ≤ 3 * l.length
  | [], _ => by simp
  | a :: l, h => by
    have h1 := h a (by simp)
    have h2 := sum_bd (l := l) fun b hb => h b (by simp [hb])
    simp only [List.sum_cons, List.length_cons]
    omega
theorem chk_str {l : List Int} {f : List UInt8} (h1 : 1 ≤ l.length) (h2 : l.length ≤ 5) (h3 : ∀ a ∈ l, 1 ≤ a ∧ a ≤ 3) (hf : f.length = l.length - 1) (hv : fmv f = true) : chk l f = 0 := by
  have := sum_bd h3
  exact chk_of (meas_of h1 (by omega) (fun a ha => by have := h3 a ha; omega) (by omega)) hf hv
theorem folL_mv (v n : Nat) : fmv (folL v n) = true := by
  rw [fmv_iff]
  intro c hc
  obtain ⟨i, _, rfl⟩ := List.mem_map.1 hc
  unfold fol
  split <;> simp
/-- a lost strip -/
theorem stp_lost {l : List Int} {f : List UInt8} (hc : chk l f = 0) (h : foldL l f = []) : stpV l f = .tup [.nilsl, .int .i64 14] := by
  have h1 := red_one hc
  have h2 := (redS_left l.length l f hc (Nat.le_refl _)).1
  have h3 := (meas_0 (chk_0 h2).1).1
  have h4 : ¬ (redS l.length l f).2.1.length = 1 := fun e => h1.1 e h
  unfold stpV
  rw [if_pos hc, if_pos (by omega)]
/-- an order found -/
theorem ord_found {l : List Int} {f : List UInt8} (hc : chk l f = 0) (h : foldL l f ≠ []) : ∃ o, ordV l f = .tup [outV 1 (ints o), .int .i64 0] ∧ IsOrd l.length o ∧ liesR l f o = 0 := by
  obtain ⟨o, t, e⟩ := List.exists_cons_of_ne_nil h
  have hm : o ∈ foldL l f := by rw [e]; simp
  obtain ⟨a, b, c⟩ := foldL_iff.1 hm
  refine ⟨o, ?_, a, ?_⟩
  · unfold ordV
    rw [if_neg (by simp [hc]), if_neg h, e]
    rfl
  · rw [liesR_ord hc a, if_pos ⟨c, b⟩]
theorem ord_lost {l : List Int} {f : List UInt8} (hc : chk l f = 0) (h : foldL l f = []) : ordV l f = .tup [.nilsl, .int .i64 14] := by
  unfold ordV
  rw [if_neg (by simp [hc]), if_pos h]
theorem IsOrd.len {n : Nat} {o : List Int} (h : IsOrd n o) : o.length = n := by rw [h.length_eq, hL_len]
theorem IsOrd.bd {n : Nat} {o : List Int} (h : IsOrd n o) : ∀ k ∈ o, ∃ j : Nat, j < n ∧ k = (j : Int) := by
  intro k hk
  obtain ⟨j, hj, rfl⟩ := List.mem_map.1 (h.mem_iff.1 hk)
  exact ⟨j, List.mem_range.1 hj, rfl⟩
/-! where the segments lie -/
def lo (l : List Int) (i : Nat) : Int := min (pn l i) (pn l (i + 1))
def hi (l : List Int) (i : Nat) : Int := max (pn l i) (pn l (i + 1))
def loM (l : List Int) : Nat → Int
  | 0 => 0
  | i + 1 => min (loM l i) (lo l i)
def hiM (l : List Int) : Nat → Int
  | 0 => 0
  | i + 1 => max (hiM l i) (hi l i)
theorem loM_le (l : List Int) : ∀ (n i : Nat), i < n → loM l n ≤ lo l i
  | n + 1, i, h => by
    simp only [loM]
    by_cases c : i = n
    · subst c; omega
    · have := loM_le l n i (by omega); omega
theorem hiM_ge (l : List Int) : ∀ (n i : Nat), i < n → hi l i ≤ hiM l n
  | n + 1, i, h => by
    simp only [hiM]
    by_cases c : i = n
    · subst c; omega
    · have := hiM_ge l n i (by omega); omega
theorem crease {l : List Int} (h3 : ∀ a ∈ l, 1 ≤ a ∧ a ≤ 3) {i : Nat} (h0 : 1 ≤ i) (h : i < l.length) : (i % 2 = 1 → hi l (i - 1) = hi l i) ∧ (i % 2 = 0 → lo l (i - 1) = lo l i) := by
  obtain ⟨j, rfl⟩ : ∃ j, i = j + 1 := ⟨i - 1, by omega⟩
  have g1 := h3 (gI l j) (by rw [gI_of (show j < l.length by omega)]; exact List.getElem_mem _)
  have g2 := h3 (gI l (j + 1)) (by rw [gI_of h]; exact List.getElem_mem _)
  have p1 := pn_s l j
  have p2 := pn_s l (j + 1)
  simp only [lo, hi, Nat.add_sub_cancel]
  constructor
  · intro e
    rw [if_pos (by omega)] at p1
    rw [if_neg (by omega)] at p2
    omega
  · intro e
    rw [if_neg (by omega)] at p1
    rw [if_pos (by omega)] at p2
    omega
theorem wide {l : List Int} (h3 : ∀ a ∈ l, 1 ≤ a ∧ a ≤ 3) (h1 : 1 ≤ l.length) (h2 : l.length ≤ 5) : 1 ≤ hiM l l.length - loM l l.length ∧ hiM l l.length - loM l l.length ≤ 12 := by
  have g : ∀ i, i < l.length → 1 ≤ gI l i ∧ gI l i ≤ 3 := fun i hi => h3 _ (by rw [gI_of hi]; exact List.getElem_mem _)
  have q0 : pn l 0 = 0 := pn_0 l
  have q1 : pn l 1 = pn l 0 + gI l 0 := pn_s l 0
  have q2 : pn l 2 = pn l 1 - gI l 1 := pn_s l 1
  have q3 : pn l 3 = pn l 2 + gI l 2 := pn_s l 2
  have q4 : pn l 4 = pn l 3 - gI l 3 := pn_s l 3
  have q5 : pn l 5 = pn l 4 + gI l 4 := pn_s l 4
  have cs : l.length = 1 ∨ l.length = 2 ∨ l.length = 3 ∨ l.length = 4 ∨ l.length = 5 := by omega
  rcases cs with e | e | e | e | e <;> rw [e] at g ⊢ <;> simp only [loM, hiM, lo, hi, Nat.zero_add, Nat.reduceAdd]
  · have := g 0 (by omega); omega
  · have := g 0 (by omega); have := g 1 (by omega); omega
  · have := g 0 (by omega); have := g 1 (by omega); have := g 2 (by omega); omega
  · have := g 0 (by omega); have := g 1 (by omega); have := g 2 (by omega); have := g 3 (by omega); omega
  · have := g 0 (by omega); have := g 1 (by omega); have := g 2 (by omega); have := g 3 (by omega); have := g 4 (by omega); omega
end Go.Proofs.YtdcpkgedaflnmaaGreatDoor.Ly
set_option linter.unusedVariables false
set_option linter.unusedSimpArgs false
namespace Go.Proofs.YtdcpkgedaflnmaaGreatDoor.Ly
open Go Fw Fo Cq

def lbl (l : List Int) (y : Nat) (k : Int) : Lab := ⟨(lo l k.toNat - loM l l.length).toNat, y, (hi l k.toNat - lo l k.toNat).toNat, 1⟩
def labF (l : List Int) : Nat → List Int → List Lab
  | _, [] => []
  | y, k :: o => lbl l y k :: labF l (y + 1) o
theorem labF_len (l : List Int) : ∀ (y : Nat) (o : List Int), (labF l y o).length = o.length
  | _, [] => rfl
  | y, k :: o => by simp only [labF, List.length_cons, labF_len l (y + 1) o]
theorem labF_snoc (l : List Int) (k : Int) : ∀ (y : Nat) (o : List Int), labF l y (o ++ [k]) = labF l y o ++ [lbl l (y + o.length) k]
  | y, [] => rfl
  | y, a :: o => by
    simp only [List.cons_append, labF, labF_snoc l k (y + 1) o, List.length_cons]
    rw [show y + 1 + o.length = y + (o.length + 1) by omega]
theorem labF_stk (l : List Int) : ∀ (y : Nat) (o : List Int), Stk y (labF l y o)
  | _, [] => trivial
  | y, k :: o => ⟨rfl, rfl, labF_stk l (y + 1) o⟩
theorem labF_mem {l : List Int} : ∀ {y : Nat} {o : List Int} {q : Lab}, q ∈ labF l y o → ∃ z k, k ∈ o ∧ q = lbl l z k
  | y, k :: o, q, h => by
    rcases List.mem_cons.1 h with rfl | h
    · exact ⟨y, k, by simp, rfl⟩
    · obtain ⟨z, j, hj, e⟩ := labF_mem h
      exact ⟨z, j, by simp [hj], e⟩
/-- the width -/
def wid (l : List Int) : Nat := (hiM l l.length - loM l l.length).toNat
theorem seg {l : List Int} (h3 : ∀ a ∈ l, 1 ≤ a ∧ a ≤ 3) {i : Nat} (h : i < l.length) : loM l l.length ≤ lo l i ∧ 1 ≤ hi l i - lo l i ∧ hi l i - lo l i ≤ 3 ∧ hi l i ≤ hiM l l.length := by
  have g := h3 (gI l i) (by rw [gI_of h]; exact List.getElem_mem _)
  have p := pn_s l i
  refine ⟨loM_le l _ i h, ?_, ?_, hiM_ge l _ i h⟩ <;>
  · simp only [lo, hi]
    split at p <;> omega
theorem lab_gp {l o : List Int} (h3 : ∀ a ∈ l, 1 ≤ a ∧ a ≤ 3) (h1 : 1 ≤ l.length) (h2 : l.length ≤ 5) (ho : IsOrd l.length o) : GP ⟨⟨0, 0, wid l, l.length⟩, labF l 0 o⟩ := by
  have hw := wide h3 h1 h2
  refine (labF_stk l 0 o).gp (by simp only [wid]; omega) (by omega) (by rw [labF_len, IsOrd.len ho]; exact Nat.le_refl _) fun q hq => ?_
  obtain ⟨z, k, hk, rfl⟩ := labF_mem hq
  obtain ⟨j, hj, rfl⟩ := IsOrd.bd ho k hk
  have := seg h3 hj
  simp only [lbl, wid, Int.toNat_natCast]
  omega
theorem lab_run {l o : List Int} (h1 : 1 ≤ l.length) (h2 : l.length ≤ 5) (ho : IsOrd l.length o) : runF (stepV (plnS l.length)) 1000 (0, false) [⟨⟨0, 0, wid l, l.length⟩, labF l 0 o⟩] = (((plnS l.length).length, false), none) := by
  have hl : (labF l 0 o).length = l.length := by rw [labF_len, IsOrd.len ho]
  have h := (labF_stk l 0 o).run (n := l.length) (x := 0) (w := wid l) 1000 0 _ (by omega) (by omega) (by omega)
  rw [hl] at h
  rw [h]
  simp [plnS]
theorem lab_ok {l o : List Int} (h3 : ∀ a ∈ l, 1 ≤ a ∧ a ≤ 3) (h1 : 1 ≤ l.length) (h2 : l.length ≤ 5) (ho : IsOrd l.length o) : LGp (wid l) l.length (labF l 0 o) := by
  have hw := wide h3 h1 h2
  have hl : (labF l 0 o).length = l.length := by rw [labF_len, IsOrd.len ho]
  have hg := lab_gp h3 h1 h2 ho
  refine ⟨⟨by simp only [wid]; omega, by simp only [wid]; omega, h1, by omega, by omega, fun q hq => hg.inn q hq, fun i j hi hj => ?_⟩, hg⟩
  have a := (labF_stk l 0 o).get i hi
  have b := (labF_stk l 0 o).get j (by omega)
  have hj' : j < (labF l 0 o).length := by omega
  rw [show (labF l 0 o).getD i default = (labF l 0 o)[i] by simp [hi]] at a
  rw [show (labF l 0 o).getD j default = (labF l 0 o)[j] by simp [hj']] at b
  rw [Bool.and_eq_false_iff]
  right
  simp only [ovB, sd, Bool.false_eq_true, if_false, Bool.and_eq_false_iff, decide_eq_false_iff_not]
  omega
end Go.Proofs.YtdcpkgedaflnmaaGreatDoor.Ly
set_option linter.unusedVariables false
namespace Go.Proofs.YtdcpkgedaflnmaaGreatDoor.Ly
open Go Fw Fo
theorem fol_cut (v i : Nat) : (([109, 118] : List UInt8).drop (v / 2 ^ i % 2)).take 1 = [fol v i] := by
  unfold fol
  rcases Nat.mod_two_eq_zero_or_one (v / 2 ^ i) with h | h <;> simp [h]
theorem bvo8 (n : Nat) : BitVec.ofInt 8 (n : Int) = BitVec.ofNat 8 n := BitVec.ofInt_natCast 8 n
theorem wrapo8 {n : Nat} (h : n < 256) : IntKind.u8.wrap (n : Int) = n := by
  simp only [IntKind.wrap, IntKind.bits, IntKind.signed, Bool.false_and, Bool.false_eq_true, if_false]
  omega
theorem and8 {kd b : Nat} (hb : b < 256) : abin kd .and (.int .u8 (b : Int)) (.int .u8 1) = some (.int .u8 ((b % 2 : Nat) : Int)) := by
  have e : (BitVec.ofInt 8 (b : Int) &&& BitVec.ofInt 8 (1 : Int)).toNat = b % 2 := by
    rw [show (1 : Int) = ((1 : Nat) : Int) from rfl, bvo8, bvo8, BitVec.toNat_and, BitVec.toNat_ofNat, BitVec.toNat_ofNat, Nat.mod_eq_of_lt (by omega), Nat.mod_eq_of_lt (by omega), Nat.and_one_is_mod]
  show some (AV.int IntKind.u8 (IntKind.u8.wrap ((BitVec.ofInt 8 (b : Int) &&& BitVec.ofInt 8 (1 : Int)).toNat : Int))) = _
  rw [e, wrapo8 (by omega)]
end Go.Proofs.YtdcpkgedaflnmaaGreatDoor.Ly
set_option linter.unusedVariables false
set_option linter.unusedSimpArgs false
namespace Go.Proofs.YtdcpkgedaflnmaaGreatDoor.Ly
open Go Fw Fo Cq

theorem fam0 {P : Program} {C : PCtx} (hC : CtxOk P C) (f : FuncId) (S : List AV → Prop) (r : AV) (h : ∀ a, S a → PCall P f a r) : ∃ C' : PCtx, CtxOk P C' ∧ (∀ a, S a → C' f a = some r) ∧ ∀ k, ¬ k = f → C' k = C k := by
  obtain ⟨C', a, b, c⟩ := ctx_fam hC f (fun i : {a : List AV // S a} => i.1) (fun _ => r) (fun i => h i.1 i.2) (fun _ _ _ => rfl)
  exact ⟨C', a, fun x hx => b ⟨x, hx⟩, c⟩
def stA (y : AV) (f : List UInt8) : AV := .agg [y, .str (bs f)]
def pz : AV := .agg [.int .i64 0, .int .i64 0, .int .i64 0, .int .i64 0]
structure Ans (C : PCtx) (l : List Int) (f : List UInt8) (o : List Int) : Prop where
  ord : IsOrd l.length o
  k27 : ∀ y, asI y = some l → C 27 [stA y f] = some (.tup [outV 1 (ints o), .int .i64 0])
  k29 : ∀ y, asI y = some l → C 29 [stA y f, outV 1 (ints o)] = some (.int .i64 0)
  k30 : ∀ x, IsL x (labF l 0 o) → C 30 [layV (wid l) l.length x] = some (.tup [pz, .int .i64 14])
  k31 : ∀ x, IsL x (labF l 0 o) → C 31 [layV (wid l) l.length x] = some (.int .i64 0)
  k21 : ∀ x V, IsL x (labF l 0 o) → asV 2 V = some ((plnS l.length).map cA) → C 21 [layV (wid l) l.length x, V] = some (.int .i64 0)
theorem ctxY {l : List Int} {f : List UInt8} (h3 : ∀ a ∈ l, 1 ≤ a ∧ a ≤ 3) (h2 : l.length ≤ 5) (hf : f.length = l.length - 1) (hv : fmv f = true) :
    ∃ C, CtxOk Tryz.prog C ∧ C 25 [] = some (.bool true) ∧ (1 ≤ l.length → (∀ y, asI y = some l → C 26 [stA y f] = some (.tup [outV 2 (bnds l l.length), .int .i64 0])) ∧
      ((∀ y, asI y = some l → C 27 [stA y f] = some (.tup [.nilsl, .int .i64 14]) ∧ C 28 [stA y f] = some (.tup [.nilsl, .int .i64 14])) ∨ ∃ o, Ans C l f o)) := by
  obtain ⟨C0, hC0, k25, _⟩ := ctx_pt CtxOk.nil 25 _ _ Ct.p25
  by_cases h1 : 1 ≤ l.length
  rotate_left
  · exact ⟨C0, hC0, k25, fun h => absurd h h1⟩
  have hc := chk_str h1 h2 h3 hf hv
  obtain ⟨C1, hC1, k26, n1⟩ := fam0 hC0 26 (fun a => ∃ y, asI y = some l ∧ a = [stA y f]) (plcV l f) (by rintro _ ⟨y, hy, rfl⟩; exact Fo.p17 hy f)
  obtain ⟨C2, hC2, k27, n2⟩ := fam0 hC1 27 (fun a => ∃ y, asI y = some l ∧ a = [stA y f]) (ordV l f) (by rintro _ ⟨y, hy, rfl⟩; exact Fo.p23 hy f)
  have e26 : plcV l f = .tup [outV 2 (bnds l l.length), .int .i64 0] := by unfold plcV; rw [if_pos hc]
  rw [e26] at k26
  by_cases hl : foldL l f = []
  · obtain ⟨C3, hC3, k28, n3⟩ := fam0 hC2 28 (fun a => ∃ y, asI y = some l ∧ a = [stA y f]) (stpV l f) (by rintro _ ⟨y, hy, rfl⟩; exact Fo.p36 hy f)
    rw [stp_lost hc hl] at k28
    rw [ord_lost hc hl] at k27
    exact ⟨C3, hC3, by rw [n3 25 (by decide), n2 25 (by decide), n1 25 (by decide)]; exact k25, fun _ => ⟨fun y hy => by rw [n3 26 (by decide), n2 26 (by decide)]; exact k26 _ ⟨y, hy, rfl⟩, .inl fun y hy => ⟨by rw [n3 27 (by decide)]; exact k27 _ ⟨y, hy, rfl⟩, k28 _ ⟨y, hy, rfl⟩⟩⟩⟩
  · obtain ⟨o, eo, ho, hli⟩ := ord_found hc hl
    rw [eo] at k27
    have hol := ho.len
    have hy2 : asI (outV 1 (ints o)) = some o := asI_outV (by omega)
    have lg := lab_ok h3 h1 h2 ho
    obtain ⟨plan, hp, hpl, _⟩ := plan_ex lg
    have hlb : (labF l 0 o).length = l.length := by rw [labF_len, hol]
    obtain ⟨C3, hC3, k29, n3⟩ := fam0 hC2 29 (fun a => ∃ y, asI y = some l ∧ a = [stA y f, outV 1 (ints o)]) (.int .i64 (liesR l f o)) (by rintro _ ⟨y, hy, rfl⟩; exact Fo.p21 hy f hy2)
    rw [hli] at k29
    obtain ⟨C4, hC4, k30, n4⟩ := fam0 hC3 30 (fun a => ∃ x, IsL x (labF l 0 o) ∧ a = [layV (wid l) l.length x]) (.tup [pz, .int .i64 14]) (by rintro _ ⟨x, hx, rfl⟩; exact Cq.p30 hx lg hp (by omega))
    obtain ⟨C5, hC5, k31, n5⟩ := fam0 hC4 31 (fun a => ∃ x, IsL x (labF l 0 o) ∧ a = [layV (wid l) l.length x]) (.int .i64 0) (by rintro _ ⟨x, hx, rfl⟩; exact Cq.p31 hx lg.ok)
    obtain ⟨C6, hC6, k21, n6⟩ := fam0 hC5 21 (fun a => ∃ x V, IsL x (labF l 0 o) ∧ asV 2 V = some ((plnS l.length).map cA) ∧ a = [layV (wid l) l.length x, V]) (.int .i64 0) (by rintro _ ⟨x, V, hx, hV, rfl⟩; exact Cq.p21 hx lg hV (by simp [plnS]; omega) (lab_run h1 h2 ho))
    refine ⟨C6, hC6, by rw [n6 25 (by decide), n5 25 (by decide), n4 25 (by decide), n3 25 (by decide), n2 25 (by decide), n1 25 (by decide)]; exact k25, fun _ => ⟨fun y hy => by rw [n6 26 (by decide), n5 26 (by decide), n4 26 (by decide), n3 26 (by decide), n2 26 (by decide)]; exact k26 _ ⟨y, hy, rfl⟩, .inr ⟨o, ho, fun y hy => ?_, fun y hy => ?_, fun x hx => ?_, fun x hx => ?_, fun x V hx hV => k21 _ ⟨x, V, hx, hV, rfl⟩⟩⟩⟩
    · rw [n6 27 (by decide), n5 27 (by decide), n4 27 (by decide), n3 27 (by decide)]; exact k27 _ ⟨y, hy, rfl⟩
    · rw [n6 29 (by decide), n5 29 (by decide), n4 29 (by decide)]; exact k29 _ ⟨y, hy, rfl⟩
    · rw [n6 30 (by decide), n5 30 (by decide)]; exact k30 _ ⟨x, hx, rfl⟩
    · rw [n6 31 (by decide)]; exact k31 _ ⟨x, hx, rfl⟩
end Go.Proofs.YtdcpkgedaflnmaaGreatDoor.Ly
