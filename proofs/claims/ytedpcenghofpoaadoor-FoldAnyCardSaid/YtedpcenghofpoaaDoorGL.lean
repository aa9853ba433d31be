/-
  Steps keep whether a strip lies flat; a strip without steps is one segment or does not: the plain law. Own work.
-/
import Derived.Test.YtedpcenghofpoaaDoorGC
import Derived.Test.YtedpcenghofpoaaDoorGJ
import Derived.Test.YtedpcenghofpoaaDoorG9
set_option linter.unusedVariables false
set_option linter.unusedSimpArgs false
namespace Go.Proofs.YtedpcenghofpoaaDoor
open Go Fw

def Fla (l : List Int) (f : List UInt8) : Prop := Fl.Flat l.length (gI l) (fB f)
theorem flat_congr {n : Nat} {L M : Nat → Int} {f g : Nat → Bool} (hL : ∀ i, i < n → M i = L i) (hf : ∀ i, i + 1 < n → g i = f i) : Fl.Flat n L f ↔ Fl.Flat n M g :=
  ⟨Fl.Flat.cong hL hf, Fl.Flat.cong (fun i hi => (hL i hi).symm) fun i hi => (hf i hi).symm⟩
theorem getI_drop {l : List Int} {n i : Nat} : gI (l.drop n) i = gI l (i + n) := by
  unfold gI
  rw [List.getD_eq_getElem?_getD, List.getD_eq_getElem?_getD, List.getElem?_drop, Nat.add_comm]
theorem getI_take {l : List Int} {n i : Nat} (h : i < n) : gI (l.take n) i = gI l i := by
  unfold gI
  rw [List.getD_eq_getElem?_getD, List.getD_eq_getElem?_getD, List.getElem?_take, if_pos h]
theorem getF_drop {l : List UInt8} {n i : Nat} : gF (l.drop n) i = gF l (i + n) := by
  unfold gF
  rw [List.getD_eq_getElem?_getD, List.getD_eq_getElem?_getD, List.getElem?_drop, Nat.add_comm]
theorem getF_take {l : List UInt8} {n i : Nat} (h : i < n) : gF (l.take n) i = gF l i := by
  unfold gF
  rw [List.getD_eq_getElem?_getD, List.getD_eq_getElem?_getD, List.getElem?_take, if_pos h]
theorem getI_app {a b : List Int} {i : Nat} : gI (a ++ b) i = if i < a.length then gI a i else gI b (i - a.length) := by
  unfold gI
  rw [List.getD_eq_getElem?_getD, List.getElem?_append]
  split <;> rw [List.getD_eq_getElem?_getD]
theorem getF_app {a b : List UInt8} {i : Nat} : gF (a ++ b) i = if i < a.length then gF a i else gF b (i - a.length) := by
  unfold gF
  rw [List.getD_eq_getElem?_getD, List.getElem?_append]
  split <;> rw [List.getD_eq_getElem?_getD]
theorem gF_or {f : List UInt8} (hv : fmv f = true) {i : Nat} (h : i < f.length) : gF f i = 118 ∨ gF f i = 109 := by
  rw [gF_of h]; exact fmv_or hv _ (List.getElem_mem _)
theorem step_flat {l : List Int} {f : List UInt8} (hc : chk l f = 0) {i : Nat} (hi : i < l.length) (hcan : canB l f i = true) : Fla l f ↔ Fla (stepL l f i).1 (stepL l f i).2 := by
  obtain ⟨hm, hfl, hfv⟩ := chk_0 hc
  obtain ⟨m1, m2, m3, m4⟩ := meas_0 hm
  obtain ⟨c1, c2, c3, c4⟩ := canB_spec hcan
  have pos : ∀ k, k < l.length → 1 ≤ gI l k := fun k hk => by rw [gI_of hk]; exact (m3 _ (List.getElem_mem _)).1
  unfold Fla stepL
  by_cases h0 : i = 0
  · subst h0
    rw [if_pos rfl]
    simp only
    obtain ⟨n, hn⟩ : ∃ n, l.length = n + 1 := ⟨l.length - 1, by omega⟩
    have h1 : (l.drop 1).length = n := by rw [List.length_drop]; omega
    rw [hn, h1, Fl.flat_first (by omega) (fun k hk => pos k (by omega)) (c3 (by omega))]
    exact flat_congr (fun k hk => getI_drop) fun k hk => by unfold fB; rw [getF_drop]
  rw [if_neg h0]
  by_cases hl : i + 1 = l.length
  · rw [if_pos hl]
    simp only
    obtain ⟨m, hmm⟩ : ∃ m, l.length = m + 2 := ⟨l.length - 2, by omega⟩
    have h1 : (l.take (l.length - 1)).length = m + 1 := by rw [List.length_take]; omega
    have him : i = m + 1 := by omega
    have := c2 (by omega)
    rw [him] at this
    rw [h1, hmm, Fl.flat_last (fun k hk => pos k (by omega)) (by simpa using this)]
    exact flat_congr (fun k hk => getI_take (by omega)) fun k hk => by unfold fB; rw [getF_take (by omega)]
  rw [if_neg hl]
  simp only
  obtain ⟨m, hmm⟩ : ∃ m, l.length = m + 2 := ⟨l.length - 2, by omega⟩
  obtain ⟨a, ha⟩ : ∃ a, i = a + 1 := ⟨i - 1, by omega⟩
  subst ha
  have g1 := c2 (by omega)
  have g2 := c3 (by omega)
  have g3 : gF f a ≠ gF f (a + 1) := by
    rcases c4 with h | h | h
    · omega
    · omega
    · exact h
  simp only [Nat.add_sub_cancel] at g1 ⊢
  have hfb : fB f a ≠ fB f (a + 1) := by
    unfold fB
    intro e
    rw [decide_eq_decide] at e
    rcases gF_or hfv (show a < f.length by omega) with x | x <;> rcases gF_or hfv (show a + 1 < f.length by omega) with y | y
    · exact g3 (by rw [x, y])
    · have := e.1 x; rw [y] at this; cases this
    · have := e.2 y; rw [x] at this; cases this
    · exact g3 (by rw [x, y])
  have h1 : (l.take a ++ [gI l a - gI l (a + 1) + gI l (a + 1 + 1)] ++ l.drop (a + 1 + 2)).length = m := by
    simp only [List.length_append, List.length_take, List.length_drop, List.length_cons, List.length_nil]; omega
  rw [h1, hmm, Fl.flat_crimp (by omega) (fun k hk => pos k (by omega)) g1 g2 hfb]
  have la : (l.take a).length = a := by rw [List.length_take]; omega
  have lf : (f.take a).length = a := by rw [List.length_take]; omega
  refine flat_congr (fun k hk => ?_) fun k hk => ?_
  · rw [List.append_assoc, getI_app, la]
    by_cases h2 : k < a
    · rw [if_pos h2, Fl.crp_lt h2, getI_take h2]
    · rw [if_neg h2]
      by_cases h3 : k = a
      · subst h3; rw [Fl.crp_eq]; simp [gI]
      · rw [Fl.crp_gt (by omega), getI_app, if_neg (by simp; omega), getI_drop]
        congr 1
        simp; omega
  · unfold fB Fl.crf
    rw [getF_app, lf]
    by_cases h2 : k < a
    · rw [if_pos h2, if_pos h2, getF_take h2]
    · rw [if_neg h2, if_neg h2, getF_drop]
      have : k - a + (a + 1 + 1) = k + 2 := by omega
      rw [this]
theorem flat_one {l : List Int} {f : List UInt8} (h : l.length = 1) : Fla l f := by
  unfold Fla
  rw [h]
  exact ⟨fun _ => 0, ⟨fun i k hi => by omega, fun i k hi => by omega, fun i k hi hk _ => by omega⟩, fun i hi => by omega⟩
theorem stuck_one {l : List Int} {f : List UInt8} (hc : chk l f = 0) (hs : fstC l f = none) : Fla l f ↔ l.length = 1 := by
  obtain ⟨hm, hfl, hfv⟩ := chk_0 hc
  obtain ⟨m1, m2, m3, m4⟩ := meas_0 hm
  have pos : ∀ k, k < l.length → 1 ≤ gI l k := fun k hk => by rw [gI_of hk]; exact (m3 _ (List.getElem_mem _)).1
  refine ⟨fun hF => ?_, flat_one⟩
  apply Classical.byContradiction
  intro hne
  have hno : ∀ k, k < l.length → canB l f k = false := fun k hk => by
    unfold fstC at hs
    rw [List.find?_eq_none] at hs
    simpa using hs k (List.mem_range.2 hk)
  have hn0 := hno 0 (by omega)
  have hn1 := hno (l.length - 1) (by omega)
  refine Fl.stuck (n := l.length) (f := fB f) (by omega) pos hF ?_ ?_ ?_
  · unfold canB at hn0
    simp [hne] at hn0
    omega
  · unfold canB at hn1
    have e1 : l.length - 1 - 1 = l.length - 2 := by omega
    simp [hne, e1, show l.length - 1 + 1 = l.length by omega] at hn1
    exact hn1.2
  · intro k h1 h2 h3 h4
    have := hno k (by omega)
    unfold canB at this
    simp [hne, show ¬ gI l (k - 1) < gI l k by omega, show ¬ gI l (k + 1) < gI l k by omega, show ¬ k = 0 by omega, show ¬ k + 1 = l.length by omega] at this
    unfold fB; rw [this]
theorem red_flat : ∀ (n : Nat) {l : List Int} {f : List UInt8}, chk l f = 0 → (Fla l f ↔ Fla (redS n l f).2.1 (redS n l f).2.2)
  | 0, l, f, _ => Iff.rfl
  | n + 1, l, f, hc => by
    cases hf : fstC l f with
    | none => rw [redS_stop hf]
    | some i =>
      obtain ⟨hi, hcan⟩ := fstC_some hf
      rw [redS_step hf, step_flat hc hi hcan]
      exact red_flat n (chk_step hc hi hcan).1
theorem red_one {l : List Int} {f : List UInt8} (hc : chk l f = 0) : (redS l.length l f).2.1.length = 1 ↔ foldL l f ≠ [] := by
  obtain ⟨h1, h2⟩ := redS_left l.length l f hc (Nat.le_refl _)
  rw [← stuck_one h1 h2, ← red_flat l.length hc]
  exact (flat_iff hc).symm
theorem red_le : ∀ (n : Nat) {l : List Int} {f : List UInt8}, chk l f = 0 → (redS n l f).2.1.length ≤ l.length
  | 0, l, f, _ => Nat.le_refl _
  | n + 1, l, f, hc => by
    cases hf : fstC l f with
    | none => rw [redS_stop hf]; exact Nat.le_refl _
    | some i =>
      obtain ⟨hi, hcan⟩ := fstC_some hf
      rw [redS_step hf]
      have h1 := chk_step hc hi hcan
      have := red_le n h1.1
      exact Nat.le_trans this (Nat.le_of_lt h1.2)
end Go.Proofs.YtedpcenghofpoaaDoor
