/-
  Pieces of a strip, and shorter ends, lie flat: the plain law. Own work.
-/
import Derived.Test.YtedpcenghofpoaaDoorGC
set_option linter.unusedVariables false
set_option linter.unusedSimpArgs false
namespace Fl
theorem Flat.drop {L : Nat → Int} {f : Nat → Bool} {m : Nat} : ∀ (i : Nat), Flat (i + m) L f → Flat m (fun k => L (k + i)) (fun k => f (k + i))
  | 0, h => by simpa using h
  | i + 1, h => by
    have e : i + 1 + m = (i + m) + 1 := by omega
    rw [e] at h
    have := Flat.drop i h.tail
    exact this
/-- both ends shorter -/
theorem Flat.short {n : Nat} {L M : Nat → Int} {f : Nat → Bool} (hF : Flat n L f) (hm : ∀ i, 0 < i → i + 1 < n → M i = L i) (h0 : 1 ≤ M 0 ∧ M 0 ≤ L 0) (h1 : 1 ≤ M (n - 1) ∧ M (n - 1) ≤ L (n - 1)) : Flat n M f := by
  obtain ⟨h, hv, hc⟩ := hF
  rcases Nat.lt_or_ge n 2 with hn | hn
  · refine ⟨h, ⟨fun i k hi => by omega, fun i k hi => by omega, hv.inj⟩, hc⟩
  have hp : ∀ j, 1 ≤ j → j < n → pt M j = pt L j - (L 0 - M 0) := by
    intro j
    induction j with
    | zero => intro h; omega
    | succ j ih =>
      intro _ hj
      rcases Nat.eq_zero_or_pos j with rfl | hj0
      · simp [pt]; omega
      · rw [pt_s, pt_s, ih hj0 (by omega), hm j hj0 hj]
        split <;> omega
  have h0p : pt M 0 = 0 := rfl
  have h0q : pt L 0 = 0 := rfl
  have e1 := hp 1 (by omega) (by omega)
  have g1 : pt L 1 = L 0 := by simp [pt]
  have hlast : ∃ d, 0 ≤ d ∧ d ≤ L (n - 1) - 1 ∧ ((n - 1) % 2 = 0 ∧ pt L n = pt L (n - 1) + L (n - 1) ∧ pt M n = pt M (n - 1) + L (n - 1) - d ∨ (n - 1) % 2 = 1 ∧ pt L n = pt L (n - 1) - L (n - 1) ∧ pt M n = pt M (n - 1) - L (n - 1) + d) := by
    refine ⟨L (n - 1) - M (n - 1), by omega, by omega, ?_⟩
    rcases ptd' L (n - 1) n (by omega) with ⟨a, b⟩ | ⟨a, b⟩
    · rcases ptd' M (n - 1) n (by omega) with ⟨c, d⟩ | ⟨c, d⟩
      · exact .inl ⟨a, b, by omega⟩
      · omega
    · rcases ptd' M (n - 1) n (by omega) with ⟨c, d⟩ | ⟨c, d⟩
      · omega
      · exact .inr ⟨a, b, by omega⟩
  obtain ⟨d, d0, d1, hl⟩ := hlast
  have en := hp (n - 1) (by omega) (by omega)
  refine ⟨h, ⟨fun i k hi hk hM => ?_, fun i k hi hk hne hpar he => ?_, hv.inj⟩, hc⟩
  · refine hv.thru i k hi hk ?_
    have ei := hp (i + 1) (by omega) hi
    unfold Mid at hM ⊢
    rcases Nat.eq_zero_or_pos k with rfl | hk0
    · rw [ei] at hM
      simp only [Nat.zero_add] at hM ⊢
      by_cases hn1 : n = 1
      · omega
      · rw [e1, h0p] at hM
        rw [h0q]
        omega
    · have ek := hp k hk0 hk
      by_cases hkn : k + 1 = n
      · have : k = n - 1 := by omega
        subst this
        rw [hkn] at hM ⊢
        omega
      · have ek1 := hp (k + 1) (by omega) (by omega)
        omega
  · have ei := hp (i + 1) (by omega) hi
    have ek := hp (k + 1) (by omega) (by omega)
    exact hv.pair i k hi hk hne hpar (by omega)
end Fl
namespace Go.Proofs.YtedpcenghofpoaaDoor
open Go Fw
theorem gI_take {l : List Int} {n i : Nat} (h : i < n) : gI (l.take n) i = gI l i := by
  unfold gI
  rw [List.getD_eq_getElem?_getD, List.getD_eq_getElem?_getD, List.getElem?_take, if_pos h]
theorem gI_drop {l : List Int} {n i : Nat} : gI (l.drop n) i = gI l (i + n) := by
  unfold gI
  rw [List.getD_eq_getElem?_getD, List.getD_eq_getElem?_getD, List.getElem?_drop, Nat.add_comm]
theorem gF_take {l : List UInt8} {n i : Nat} (h : i < n) : gF (l.take n) i = gF l i := by
  unfold gF
  rw [List.getD_eq_getElem?_getD, List.getD_eq_getElem?_getD, List.getElem?_take, if_pos h]
theorem gF_drop {l : List UInt8} {n i : Nat} : gF (l.drop n) i = gF l (i + n) := by
  unfold gF
  rw [List.getD_eq_getElem?_getD, List.getD_eq_getElem?_getD, List.getElem?_drop, Nat.add_comm]
/-- a piece -/
theorem piece_chk {l : List Int} {f : List UInt8} (hc : chk l f = 0) {i j : Nat} (hi : i < j) (hj : j ≤ l.length) : chk ((l.take j).drop i) ((f.take (j - 1)).drop i) = 0 := by
  obtain ⟨hm, hfl, hfv⟩ := chk_0 hc
  obtain ⟨m1, m2, m3, m4⟩ := meas_0 hm
  have hs := sum_split (l.take j) i
  have hs2 := sum_split l j
  have n1 := sum_nonneg (l := (l.take j).take i) fun x hx => m3 x (List.mem_of_mem_take (List.mem_of_mem_take hx))
  have n2 := sum_nonneg (l := l.drop j) fun x hx => m3 x (List.mem_of_mem_drop hx)
  refine chk_of (meas_of ?_ ?_ (fun a ha => m3 a (List.mem_of_mem_take (List.mem_of_mem_drop ha))) (by omega)) ?_ ?_
  · rw [List.length_drop, List.length_take]; omega
  · rw [List.length_drop, List.length_take]; omega
  · rw [List.length_drop, List.length_take, List.length_drop, List.length_take]; omega
  · rw [fmv_iff] at hfv ⊢
    exact fun c hcm => hfv c (List.mem_of_mem_take (List.mem_of_mem_drop hcm))
theorem piece_flat {l : List Int} {f : List UInt8} (hc : chk l f = 0) {i j : Nat} (hi : i < j) (hj : j ≤ l.length) (hne : foldL l f ≠ []) : foldL ((l.take j).drop i) ((f.take (j - 1)).drop i) ≠ [] := by
  have hF := (flat_iff hc).1 hne
  rw [flat_iff (piece_chk hc hi hj)]
  have hlen : ((l.take j).drop i).length = j - i := by rw [List.length_drop, List.length_take]; omega
  rw [hlen]
  have h1 := hF.init hj
  have h2 := Fl.Flat.drop i (m := j - i) (by rw [show i + (j - i) = j by omega]; exact h1)
  refine h2.cong (fun k hk => ?_) fun k hk => ?_
  · rw [gI_drop, gI_take (by omega)]
  · unfold fB
    rw [gF_drop, gF_take (by omega)]
/-- shorter ends -/
def shorter (l : List Int) (c0 c1 : Int) : List Int := (l.set 0 (gI l 0 - c0.tmod (gI l 0))).set (l.length - 1) (gI (l.set 0 (gI l 0 - c0.tmod (gI l 0))) (l.length - 1) - c1.tmod (gI (l.set 0 (gI l 0 - c0.tmod (gI l 0))) (l.length - 1)))
theorem gI_put {l : List Int} {i j : Nat} {a : Int} (h : i < l.length) : gI (l.set i a) j = if j = i then a else gI l j := by
  unfold gI
  rw [List.getD_eq_getElem?_getD, List.getD_eq_getElem?_getD, List.getElem?_set]
  by_cases e : j = i
  · subst e; simp [h]
  · rw [if_neg (fun h => e h.symm), if_neg e]
theorem shorter_len (l : List Int) (c0 c1 : Int) : (shorter l c0 c1).length = l.length := by simp [shorter]
theorem cut1 {a c : Int} (ha : 1 ≤ a) (hc : 0 ≤ c) : 1 ≤ a - c.tmod a ∧ a - c.tmod a ≤ a := by
  have h1 := Int.tmod_lt_of_pos c (show 0 < a by omega)
  have h2 := Int.tmod_nonneg a hc
  omega
theorem shorter_get {l : List Int} (hl : ∀ a ∈ l, 1 ≤ a) (h1 : 1 ≤ l.length) {c0 c1 : Int} (g0 : 0 ≤ c0) (g1 : 0 ≤ c1) :
    (∀ i, 0 < i → i + 1 < l.length → gI (shorter l c0 c1) i = gI l i) ∧ (∀ i, i < l.length → 1 ≤ gI (shorter l c0 c1) i ∧ gI (shorter l c0 c1) i ≤ gI l i) := by
  have hp : ∀ i, i < l.length → 1 ≤ gI l i := fun i hi => by rw [gI_of hi]; exact hl _ (List.getElem_mem _)
  have k0 := cut1 (hp 0 (by omega)) g0
  unfold shorter
  generalize gI l 0 - c0.tmod (gI l 0) = a at k0
  have e1 : ∀ j, gI (l.set 0 a) j = if j = 0 then a else gI l j := fun j => gI_put (by omega)
  have b1 : ∀ j, j < l.length → 1 ≤ gI (l.set 0 a) j ∧ gI (l.set 0 a) j ≤ gI l j := by
    intro j hj
    rw [e1]
    split
    · rename_i h; subst h; exact k0
    · exact ⟨hp j hj, Int.le_refl _⟩
  have k1 := cut1 (b1 (l.length - 1) (by omega)).1 g1
  generalize hb : gI (l.set 0 a) (l.length - 1) - c1.tmod (gI (l.set 0 a) (l.length - 1)) = b at k1
  have e2 : ∀ j, gI ((l.set 0 a).set (l.length - 1) b) j = if j = l.length - 1 then b else gI (l.set 0 a) j := fun j => gI_put (by rw [List.length_set]; omega)
  refine ⟨fun i h2 h3 => ?_, fun i hi => ?_⟩
  · rw [e2, if_neg (by omega), e1, if_neg (by omega)]
  · rw [e2]
    have := b1 i hi
    split
    · rename_i h; subst h; omega
    · exact this
theorem shorter_chk {l : List Int} {f : List UInt8} (hc : chk l f = 0) {c0 c1 : Int} (g0 : 0 ≤ c0) (g1 : 0 ≤ c1) : chk (shorter l c0 c1) f = 0 := by
  obtain ⟨hm, hfl, hfv⟩ := chk_0 hc
  obtain ⟨m1, m2, m3, m4⟩ := meas_0 hm
  obtain ⟨q1, q2⟩ := shorter_get (fun a ha => (m3 a ha).1) m1 (c0 := c0) (c1 := c1) g0 g1
  have hlen := shorter_len l c0 c1
  have sumle : ∀ (a b : List Int), a.length = b.length → (∀ i, i < b.length → gI a i ≤ gI b i) → a.sum ≤ b.sum := by
    intro a
    induction a with
    | nil => intro b h _; have : b = [] := List.length_eq_zero_iff.1 h.symm; subst this; exact Int.le_refl _
    | cons x a ih =>
      intro b h hh
      cases b with
      | nil => cases h
      | cons y b =>
        have h0 := hh 0 (by simp)
        have := ih b (by simpa using h) fun i hi => by
          have := hh (i + 1) (by simpa using hi)
          simpa [gI] using this
        simp [gI] at h0
        simp only [List.sum_cons]; omega
  refine chk_of (meas_of (by omega) (by omega) (fun a ha => ?_) ?_) (by rw [hlen]; exact hfl) hfv
  · obtain ⟨i, hi, e⟩ := List.getElem_of_mem ha
    have := q2 i (by omega)
    rw [gI_of hi, e] at this
    have h3 := m3 (gI l i) (by rw [gI_of (by omega)]; exact List.getElem_mem _)
    omega
  · have := sumle (shorter l c0 c1) l hlen fun i hi => (q2 i hi).2
    omega
theorem shorter_flat {l : List Int} {f : List UInt8} (hc : chk l f = 0) {c0 c1 : Int} (g0 : 0 ≤ c0) (g1 : 0 ≤ c1) (hne : foldL l f ≠ []) : foldL (shorter l c0 c1) f ≠ [] := by
  have hF := (flat_iff hc).1 hne
  rw [flat_iff (shorter_chk hc g0 g1), shorter_len]
  obtain ⟨hm, hfl, hfv⟩ := chk_0 hc
  obtain ⟨m1, m2, m3, m4⟩ := meas_0 hm
  obtain ⟨q1, q2⟩ := shorter_get (fun a ha => (m3 a ha).1) m1 (c0 := c0) (c1 := c1) g0 g1
  exact hF.short q1 (q2 0 (by omega)) (q2 (l.length - 1) (by omega))
end Go.Proofs.YtedpcenghofpoaaDoor
