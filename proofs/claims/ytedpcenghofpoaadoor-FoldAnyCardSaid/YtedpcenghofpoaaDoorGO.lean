/-
  Any steps that can be done, one after the other: what stays: the plain law. Own work.
-/
import Derived.Test.YtedpcenghofpoaaDoorGL
set_option linter.unusedVariables false
set_option linter.unusedSimpArgs false
namespace Go.Proofs.YtedpcenghofpoaaDoor
open Go Fw

theorem step_sum {l : List Int} {f : List UInt8} (hc : chk l f = 0) {i : Nat} (hi : i < l.length) (hcan : canB l f i = true) : (stepL l f i).1.sum ≤ l.sum := by
  obtain ⟨hm, hfl, hfv⟩ := chk_0 hc
  obtain ⟨m1, m2, m3, m4⟩ := meas_0 hm
  have pos : ∀ k, k < l.length → 1 ≤ gI l k := fun k hk => by rw [gI_of hk]; exact (m3 _ (List.getElem_mem _)).1
  unfold stepL
  by_cases h0 : i = 0
  · rw [if_pos h0]
    have e := sum_split l 1
    have e2 : 0 ≤ (l.take 1).sum := sum_nonneg fun n hn => m3 n (List.mem_of_mem_take hn)
    simp only; omega
  rw [if_neg h0]
  by_cases hl : i + 1 = l.length
  · rw [if_pos hl]
    have e := sum_split l (l.length - 1)
    have e2 : 0 ≤ (l.drop (l.length - 1)).sum := sum_nonneg fun n hn => m3 n (List.mem_of_mem_drop hn)
    simp only; omega
  rw [if_neg hl]
  have e := congrArg List.sum (split3 (l := l) (i := i) (by omega) (by omega))
  have p := pos i hi
  simp only [List.sum_append, List.sum_cons, List.sum_nil] at e ⊢
  omega
theorem le_sum {l : List Int} (h : ∀ n ∈ l, 1 ≤ n ∧ n ≤ 350) : ∀ n ∈ l, n ≤ l.sum := by
  induction l with
  | nil => intro n hn; simp at hn
  | cons a t ih =>
    intro n hn
    have h1 := sum_nonneg fun m hm => h m (List.mem_cons_of_mem _ hm)
    have h2 := (h a (by simp)).1
    rw [List.sum_cons]
    rcases List.mem_cons.1 hn with rfl | hn
    · omega
    · have := ih (fun m hm => h m (List.mem_cons_of_mem _ hm)) n hn; omega
/-- the steps so far, and what they leave -/
structure P7 (l : List Int) (f : List UInt8) (k : Nat) (ss l2 : List Int) (f2 : List UInt8) : Prop where
  ck : chk l2 f2 = 0
  run : runS l f ss = (0, l2, f2)
  len : l2.length + k ≤ l.length
  sl : ss.length = k
  sum : l2.sum ≤ 30
  fla : Fla l f ↔ Fla l2 f2
theorem P7.nil {l : List Int} {f : List UInt8} (hc : chk l f = 0) (hs : l.sum ≤ 30) : P7 l f 0 [] l f := ⟨hc, by unfold runS; rw [hc]; rfl, by omega, rfl, hs, Iff.rfl⟩
theorem P7.step {l l2 ss : List Int} {f f2 : List UInt8} {k : Nat} (h : P7 l f k ss l2 f2) {i : Nat} (hi : i < l2.length) (hcan : canB l2 f2 i = true) : P7 l f (k + 1) (ss ++ [(i : Int)]) (stepL l2 f2 i).1 (stepL l2 f2 i).2 := by
  obtain ⟨c1, c2⟩ := chk_step h.ck hi hcan
  refine ⟨c1, ?_, ?_, by simp [h.sl], Int.le_trans (step_sum h.ck hi hcan) h.sum, h.fla.trans (step_flat h.ck hi hcan)⟩
  · rw [runS_snoc, h.run, if_pos rfl]; exact doR_of h.ck hi hcan
  · have := h.len; omega
theorem can_mem {l : List Int} {f : List UInt8} {a : Int} (h : a ∈ canL l f l.length) : ∃ i : Nat, a = i ∧ i < l.length ∧ canB l f i = true := by
  unfold canL at h
  obtain ⟨i, hi, rfl⟩ := List.mem_map.1 h
  obtain ⟨h1, h2⟩ := List.mem_filter.1 hi
  exact ⟨i, rfl, List.mem_range.1 h1, h2⟩
theorem can_get {l : List Int} {f : List UInt8} {j : Nat} (h : j < (canL l f l.length).length) : ∃ i : Nat, gI (canL l f l.length) j = i ∧ i < l.length ∧ canB l f i = true := by
  rw [gI_of h]; exact can_mem (List.getElem_mem _)
theorem can_none {l : List Int} {f : List UInt8} (h : canL l f l.length = []) : fstC l f = none := by
  cases hf : fstC l f with
  | none => rfl
  | some i => obtain ⟨r, hr⟩ := canL_cons hf; rw [h] at hr; cases hr
end Go.Proofs.YtedpcenghofpoaaDoor
