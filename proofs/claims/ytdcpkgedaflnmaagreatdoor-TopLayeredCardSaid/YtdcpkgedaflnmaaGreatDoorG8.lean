/-
  Plain: a segment that is folded in between two others keeps a strip flat. Own work.
  Plain: a segment that is folded in between two others keeps a strip flat, from the heights of the longer strip to those of the shorter one. Own work.
-/
import Derived.Test.YtdcpkgedaflnmaaGreatDoorG2
set_option linter.unusedVariables false
namespace Fl

/-- lengths and creases behind the step at the segment a + 1 -/
def crp (L : Nat → Int) (a j : Nat) : Int := if j < a then L j else if j = a then L a - L (a + 1) + L (a + 2) else L (j + 2)
def crf (f : Nat → Bool) (a j : Nat) : Bool := if j < a then f j else f (j + 2)
theorem crp_lt {L : Nat → Int} {a j : Nat} (h : j < a) : crp L a j = L j := if_pos h
theorem crp_eq {L : Nat → Int} {a : Nat} : crp L a a = L a - L (a + 1) + L (a + 2) := by unfold crp; rw [if_neg (by omega), if_pos rfl]
theorem crp_gt {L : Nat → Int} {a j : Nat} (h : a < j) : crp L a j = L (j + 2) := by unfold crp; rw [if_neg (by omega), if_neg (by omega)]
theorem crp_l {L : Nat → Int} {a : Nat} : ∀ j, j ≤ a → pt (crp L a) j = pt L j
  | 0, _ => rfl
  | j + 1, h => by rw [pt_s, pt_s, crp_l j (by omega), crp_lt (by omega)]
theorem crp_r {L : Nat → Int} {a : Nat} (d : Nat) : pt (crp L a) (a + 1 + d) = pt L (a + 3 + d) := by
  induction d with
  | zero =>
    have h0 := ptd (crp L a) a
    have h1 := ptd L a
    have h2 := ptd' L (a + 1) (a + 2) rfl
    have h3 := ptd' L (a + 2) (a + 3) rfl
    rw [crp_eq, crp_l a (by omega)] at h0
    simp only [Nat.add_zero]
    omega
  | succ d ih =>
    have h0 := ptd (crp L a) (a + 1 + d)
    have h1 := ptd L (a + 3 + d)
    rw [crp_gt (by omega), ih, show a + 1 + d + 2 = a + 3 + d by omega] at h0
    rw [show a + 1 + (d + 1) = a + 1 + d + 1 by omega, show a + 3 + (d + 1) = a + 3 + d + 1 by omega]
    omega
theorem crp_r' {L : Nat → Int} {a j : Nat} (h : a < j) : pt (crp L a) j = pt L (j + 2) := by
  have := crp_r (L := L) (a := a) (j - (a + 1))
  rwa [show a + 1 + (j - (a + 1)) = j by omega, show a + 3 + (j - (a + 1)) = j + 2 by omega] at this
/-- an old crease beside the three segments, and the new one -/
structure Cpl (m a : Nat) (e : Int) (p q h g : Nat → Int) (i i' : Nat) : Prop where
  lt : i' + 1 < m
  eq : p (i + 1) = q (i' + 1)
  par : i % 2 = i' % 2
  inj : ∀ k k', k' + 1 < m → ((k < a ∧ k' = k) ∨ (a + 2 ≤ k ∧ k' + 2 = k)) → k ≠ i → k' ≠ i'
  h0 : (i' ≠ a ∧ h i = 3 * g i') ∨ (i' = a ∧ h i = 3 * g i' + e)
  h1 : (i' + 1 ≠ a ∧ h (i + 1) = 3 * g (i' + 1)) ∨ (i' + 1 = a ∧ h (i + 1) = 3 * g (i' + 1) - e)
set_option maxHeartbeats 2000000 in
/-- folded open -/
theorem crimp_up {m a : Nat} {L : Nat → Int} {f : Nat → Bool} (ham : a < m) (pos : ∀ i, i < m + 2 → 1 ≤ L i) (hA : L (a + 1) ≤ L a) (hC : L (a + 1) ≤ L (a + 2)) (hf : f a ≠ f (a + 1)) (hF : Flat m (crp L a) (crf f a)) : Flat (m + 2) L f := by
  obtain ⟨g, hv, hc⟩ := hF
  obtain ⟨e, he, hfe⟩ : ∃ e : Int, (e = 1 ∨ e = -1) ∧ (f a = true ↔ (0 < e ↔ a % 2 = 0)) := by
    rcases Nat.mod_two_eq_zero_or_one a with hj | hj
    · cases f a
      · exact ⟨-1, .inr rfl, by simp [hj]⟩
      · exact ⟨1, .inl rfl, by simp [hj]⟩
    · cases f a
      · exact ⟨1, .inl rfl, by simp [hj]⟩
      · exact ⟨-1, .inr rfl, by simp [hj]⟩
  obtain ⟨h, hlt, ha, hb, hcc, hgt⟩ : ∃ h : Nat → Int, (∀ k, k < a → h k = 3 * g k) ∧ h a = 3 * g a - e ∧ h (a + 1) = 3 * g a ∧ h (a + 2) = 3 * g a + e ∧ ∀ k, a < k → h (k + 2) = 3 * g k := by
    refine ⟨fun k => if k < a then 3 * g k else if k = a then 3 * g a - e else if k = a + 1 then 3 * g a else if k = a + 2 then 3 * g a + e else 3 * g (k - 2), fun k hk => if_pos hk, ?_, ?_, ?_, fun k hk => ?_⟩
    · simp
    · simp only; rw [if_neg (by omega), if_neg (by omega)]; rfl
    · simp only; rw [if_neg (by omega), if_neg (by omega), if_neg (by omega)]; rfl
    · simp only
      rw [if_neg (by omega), if_neg (by omega), if_neg (by omega), if_neg (by omega), show k + 2 - 2 = k by omega]
  have dA := ptd L a
  have dB := ptd' L (a + 1) (a + 2) rfl
  have dC := ptd' L (a + 2) (a + 3) rfl
  have l0 := pos a (by omega)
  have l1 := pos (a + 1) (by omega)
  have l2 := pos (a + 2) (by omega)
  have qa : pt (crp L a) a = pt L a := crp_l a (by omega)
  have qb : pt (crp L a) (a + 1) = pt L (a + 3) := crp_r (L := L) (a := a) 0
  -- creases
  have cpl : ∀ i, i + 1 < m + 2 → i ≠ a → i ≠ a + 1 → ∃ i', ((i < a ∧ i' = i) ∨ (a + 2 ≤ i ∧ i' + 2 = i)) ∧ Cpl m a e (pt L) (pt (crp L a)) h g i i' := by
    intro i hi h1 h2
    by_cases hia : i < a
    · refine ⟨i, .inl ⟨hia, rfl⟩, by omega, (crp_l (i + 1) (by omega)).symm, rfl, fun k k' _ hk hne => by omega, .inl ⟨by omega, hlt i hia⟩, ?_⟩
      by_cases hi1 : i + 1 = a
      · exact .inr ⟨hi1, by rw [hi1]; exact ha⟩
      · exact .inl ⟨hi1, hlt (i + 1) (by omega)⟩
    · obtain ⟨i', rfl⟩ : ∃ i', i = i' + 2 := ⟨i - 2, by omega⟩
      refine ⟨i', .inr ⟨by omega, rfl⟩, by omega, (crp_r' (j := i' + 1) (by omega)).symm, by omega, fun k k' _ hk hne => by omega, ?_, .inl ⟨by omega, hgt (i' + 1) (by omega)⟩⟩
      by_cases hi1 : i' = a
      · exact .inr ⟨hi1, by rw [hi1]; exact hcc⟩
      · exact .inl ⟨hi1, hgt i' (by omega)⟩
  -- segments
  have seg : ∀ k, k < m + 2 → ∃ k' w, k' < m ∧ h k = 3 * g k' + w ∧ -1 ≤ w ∧ w ≤ 1 ∧ (k' ≠ a → w = 0) ∧ ∀ y, Mid y (pt L k) (pt L (k + 1)) → Mid y (pt (crp L a) k') (pt (crp L a) (k' + 1)) := by
    intro k hk
    by_cases h1 : k < a
    · exact ⟨k, 0, by omega, by rw [hlt k h1]; omega, by omega, by omega, fun _ => rfl, fun y hy => by rw [crp_l k (by omega), crp_l (k + 1) (by omega)]; exact hy⟩
    by_cases h2 : a + 2 < k
    · obtain ⟨k', rfl⟩ : ∃ k', k = k' + 2 := ⟨k - 2, by omega⟩
      exact ⟨k', 0, by omega, by rw [hgt k' (by omega)]; omega, by omega, by omega, fun _ => rfl, fun y hy => by rw [crp_r' (j := k') (by omega), crp_r' (j := k' + 1) (by omega)]; exact hy⟩
    have h3 : k = a ∨ k = a + 1 ∨ k = a + 2 := by omega
    rcases h3 with rfl | rfl | rfl
    · exact ⟨k, -e, ham, by rw [ha]; omega, by omega, by omega, fun h => absurd rfl h, fun y hy => by rw [qa, qb]; simp only [Mid] at *; omega⟩
    · exact ⟨a, 0, ham, by rw [hb]; omega, by omega, by omega, fun _ => rfl, fun y (hy : Mid y (pt L (a + 1)) (pt L (a + 2))) => by rw [qa, qb]; simp only [Mid] at *; omega⟩
    · exact ⟨a, e, ham, by rw [hcc], by omega, by omega, fun h => absurd rfl h, fun y (hy : Mid y (pt L (a + 2)) (pt L (a + 3))) => by rw [qa, qb]; simp only [Mid] at *; omega⟩
  have inner : ∀ i, i = a ∨ i = a + 1 → ∃ u v, h i = u ∧ h (i + 1) = v ∧ (v = u + 1 ∨ u = v + 1) := by
    rintro i (rfl | rfl)
    · exact ⟨_, _, rfl, rfl, by rw [ha, hb]; omega⟩
    · exact ⟨_, _, rfl, rfl, by rw [hb, hcc]; omega⟩
  refine ⟨h, ⟨fun i k hi hk hm hm' => ?_, fun i k hi hk hne hpar hp => ?_, fun i k hi hk e' => ?_⟩, fun i hi => ?_⟩
  · by_cases hin : i = a ∨ i = a + 1
    · obtain ⟨u, v, h1, h2, h3⟩ := inner i hin
      rw [h1, h2] at hm'
      simp only [Mid] at hm'; omega
    obtain ⟨i', hii, C⟩ := cpl i hi (by omega) (by omega)
    obtain ⟨k', w, hk', e1, w1, w2, w3, hsp⟩ := seg k hk
    rw [C.eq] at hm
    have hm2 := hsp _ hm
    have t := hv.thru i' k' C.lt hk' hm2
    have k1 : k' ≠ i' := by rintro rfl; simp only [Mid] at hm2; omega
    have k2 : k' ≠ i' + 1 := by rintro rfl; simp only [Mid] at hm2; omega
    have n1 := hv.ne (i := k') (k := i') hk' (by have := C.lt; omega) k1
    have n2 := hv.ne (i := k') (k := i' + 1) hk' C.lt k2
    have c0 := C.h0
    have c1 := C.h1
    generalize h i = x0 at *
    generalize h (i + 1) = x1 at *
    generalize h k = x2 at *
    simp only [Mid] at t hm'
    clear hm hm2 hsp dA dB dC
    omega
  · by_cases hin : i = a ∨ i = a + 1
    · obtain ⟨u, v, h1, h2, h3⟩ := inner i hin
      rw [h1, h2]
      simp only [Mid]; omega
    obtain ⟨i', hii, C⟩ := cpl i hi (by omega) (by omega)
    have c0 := C.h0
    have c1 := C.h1
    have clt := C.lt
    by_cases hkn : k = a ∨ k = a + 1
    · have n0 : i' ≠ a → g i' ≠ g a := fun x => hv.ne (by omega) ham x
      have n1 : i' + 1 ≠ a → g (i' + 1) ≠ g a := fun x => hv.ne (by omega) ham x
      have n2 := hv.ne (i := i') (k := i' + 1) (by omega) clt (by omega)
      rcases hkn with rfl | rfl
      · rw [ha, hb]
        have n3 := n1 (by omega)
        generalize h i = x0 at *
        generalize h (i + 1) = x1 at *
        clear dA dB dC hp
        simp only [Mid]
        by_cases x : i' = k
        · subst x; omega
        · have n4 := n0 x
          omega
      · rw [hb, hcc]
        have n3 := n0 (by omega)
        generalize h i = x0 at *
        generalize h (i + 1) = x1 at *
        clear dA dB dC hp
        simp only [Mid]
        by_cases x : i' + 1 = a
        · rw [x] at *; omega
        · have n4 := n1 x
          omega
    · obtain ⟨k', hkk, D⟩ := cpl k hk (by omega) (by omega)
      have d0 := D.h0
      have d1 := D.h1
      have dlt := D.lt
      have hne' := C.inj k k' D.lt hkk hne
      have par : k' % 2 = i' % 2 := by rw [← C.par, ← D.par]; exact hpar
      have t := hv.pair i' k' C.lt D.lt hne' par (by rw [← C.eq, ← D.eq]; exact hp)
      have n1 := hv.ne (i := k') (k := i') (by omega) (by omega) hne'
      have n2 := hv.ne (i := k') (k := i' + 1) (by omega) (by omega) (by omega)
      have n3 := hv.ne (i := k' + 1) (k := i') (by omega) (by omega) (by omega)
      have n4 := hv.ne (i := k' + 1) (k := i' + 1) (by omega) (by omega) (by omega)
      generalize h i = x0 at *
      generalize h (i + 1) = x1 at *
      generalize h k = x2 at *
      generalize h (k + 1) = x3 at *
      clear dA dB dC hp
      simp only [Mid] at t ⊢
      generalize g i' = y0 at *
      generalize g (i' + 1) = y1 at *
      generalize g k' = y2 at *
      generalize g (k' + 1) = y3 at *
      have b0 : ∃ u, x0 = 3 * y0 + u ∧ -1 ≤ u ∧ u ≤ 1 := ⟨x0 - 3 * y0, by omega, by omega, by omega⟩
      have b1 : ∃ u, x1 = 3 * y1 + u ∧ -1 ≤ u ∧ u ≤ 1 := ⟨x1 - 3 * y1, by omega, by omega, by omega⟩
      have b2 : ∃ u, x2 = 3 * y2 + u ∧ -1 ≤ u ∧ u ≤ 1 := ⟨x2 - 3 * y2, by omega, by omega, by omega⟩
      have b3 : ∃ u, x3 = 3 * y3 + u ∧ -1 ≤ u ∧ u ≤ 1 := ⟨x3 - 3 * y3, by omega, by omega, by omega⟩
      clear c0 c1 d0 d1
      obtain ⟨u0, e0, _, _⟩ := b0
      obtain ⟨u1, e1, _, _⟩ := b1
      obtain ⟨u2, e2, _, _⟩ := b2
      obtain ⟨u3, e3, _, _⟩ := b3
      clear hfe he hcc hb ha hin hkn hii hkk
      omega
  · by_cases h1 : i = a ∨ i = a + 1 ∨ i = a + 2
    · by_cases h2 : k = a ∨ k = a + 1 ∨ k = a + 2
      · rcases h1 with rfl | rfl | rfl <;> rcases h2 with rfl | rfl | rfl <;> omega
      · obtain ⟨k', w, hk', e1, w1, w2, w3, _⟩ := seg k hk
        by_cases hka : k < a
        · have s := hlt k hka
          have := hv.ne (i := k) (k := a) (by omega) ham (by omega)
          rcases h1 with rfl | rfl | rfl <;> omega
        · obtain ⟨k2, rfl⟩ : ∃ k2, k = k2 + 2 := ⟨k - 2, by omega⟩
          have s := hgt k2 (by omega)
          have := hv.ne (i := k2) (k := a) (by omega) ham (by omega)
          rcases h1 with rfl | rfl | rfl <;> omega
    · by_cases hia : i < a
      · have s := hlt i hia
        by_cases h2 : k = a ∨ k = a + 1 ∨ k = a + 2
        · have := hv.ne (i := i) (k := a) (by omega) ham (by omega)
          rcases h2 with rfl | rfl | rfl <;> omega
        · by_cases hka : k < a
          · have s2 := hlt k hka
            exact hv.inj i k (by omega) (by omega) (by omega)
          · obtain ⟨k2, rfl⟩ : ∃ k2, k = k2 + 2 := ⟨k - 2, by omega⟩
            have s2 := hgt k2 (by omega)
            have := hv.inj i k2 (by omega) (by omega) (by omega)
            omega
      · obtain ⟨i2, rfl⟩ : ∃ i2, i = i2 + 2 := ⟨i - 2, by omega⟩
        have s := hgt i2 (by omega)
        by_cases h2 : k = a ∨ k = a + 1 ∨ k = a + 2
        · have := hv.ne (i := i2) (k := a) (by omega) ham (by omega)
          rcases h2 with rfl | rfl | rfl <;> omega
        · by_cases hka : k < a
          · have s2 := hlt k hka
            have := hv.inj i2 k (by omega) (by omega) (by omega)
            omega
          · obtain ⟨k2, rfl⟩ : ∃ k2, k = k2 + 2 := ⟨k - 2, by omega⟩
            have s2 := hgt k2 (by omega)
            have := hv.inj i2 k2 (by omega) (by omega) (by omega)
            omega
  · by_cases h1 : i = a
    · subst h1
      rw [ha, hb, hfe]
      have e1 : 3 * g i - e < 3 * g i ↔ 0 < e := by omega
      rw [e1]
    by_cases h2 : i = a + 1
    · subst h2
      have : (f (a + 1) = true) ↔ ¬ (f a = true) := by
        cases x : f a <;> cases y : f (a + 1) <;> simp_all
      have e1 : h (a + 1) < h (a + 1 + 1) ↔ 0 < e := by
        have : a + 1 + 1 = a + 2 := rfl
        rw [this, hb, hcc]; omega
      rw [this, e1, hfe]
      have e2 : ((a + 1) % 2 = 0) ↔ ¬ (a % 2 = 0) := by omega
      rw [e2]
      by_cases x : 0 < e <;> by_cases y : a % 2 = 0 <;> simp [x, y]
    obtain ⟨i', hii, C⟩ := cpl i hi h1 h2
    have t := hc i' C.lt
    have n2 := hv.ne (i := i') (k := i' + 1) (by have := C.lt; omega) C.lt (by omega)
    have hfi : crf f a i' = f i := by
      rcases hii with ⟨x, y⟩ | ⟨x, y⟩
      · subst y; exact if_pos x
      · subst y; exact if_neg (by omega)
    rw [hfi, ← C.par] at t
    rw [t]
    have c0 := C.h0
    have c1 := C.h1
    generalize h i = x0 at *
    generalize h (i + 1) = x1 at *
    clear dA dB dC
    have : x0 < x1 ↔ g i' < g (i' + 1) := by
      clear t hfi hfe
      omega
    rw [this]
end Fl
set_option linter.unusedVariables false
namespace Fl

/-- how new heights g follow old ones h -/
def N1 (T W h g : Int) : Prop := -W < h ∧ h < W ∧ ((h < T ∧ g = h - W) ∨ (h = T ∧ g = 0) ∨ (T < h ∧ g = h + W))
def N3 (A B C W h g : Int) : Prop := -W < h ∧ h < W ∧ (((h < A ∨ (B < h ∧ h < C)) ∧ g = h - W) ∨ (((A < h ∧ h < B) ∨ C < h) ∧ g = h + W))
def N4 (A B C W h g : Int) : Prop := -W < h ∧ h < W ∧ (((A < h ∧ h < B) ∧ g = h + W) ∨ (¬ (A < h ∧ h < B) ∧ ((h < C ∧ g = h - W) ∨ (h = C ∧ g = 0) ∨ (C < h ∧ g = h + W))))
def N5 (A B C W h g : Int) : Prop := -W < h ∧ h < W ∧ (((B < h ∧ h < C) ∧ g = h - W) ∨ (¬ (B < h ∧ h < C) ∧ ((h < A ∧ g = h - W) ∨ (h = A ∧ g = 0) ∨ (A < h ∧ g = h + W))))
theorem N1.lt {T W h g h' g' : Int} (x : N1 T W h g) (y : N1 T W h' g') : g < g' ↔ h < h' := by
  unfold N1 at *; omega
theorem mid_iff {a b c a' b' c' : Int} (h1 : a < b ↔ a' < b') (h2 : b < a ↔ b' < a') (h3 : a < c ↔ a' < c') (h4 : c < a ↔ c' < a') : Mid a b c ↔ Mid a' b' c' := by
  unfold Mid; rw [h1, h2, h3, h4]
theorem N1.mid {T W h1 g1 h2 g2 h3 g3 : Int} (x : N1 T W h1 g1) (y : N1 T W h2 g2) (z : N1 T W h3 g3) : Mid g1 g2 g3 ↔ Mid h1 h2 h3 := mid_iff (x.lt y) (y.lt x) (x.lt z) (z.lt x)
theorem N4.lt {A B C W h g h' g' : Int} (ab : A < B) (bc : B < C) (x : N4 A B C W h g) (y : N4 A B C W h' g') (s : (A < h ∧ h < B) ↔ (A < h' ∧ h' < B)) : g < g' ↔ h < h' := by
  unfold N4 at *; omega
theorem N5.lt {A B C W h g h' g' : Int} (ab : A < B) (bc : B < C) (x : N5 A B C W h g) (y : N5 A B C W h' g') (s : (B < h ∧ h < C) ↔ (B < h' ∧ h' < C)) : g < g' ↔ h < h' := by
  unfold N5 at *; omega
theorem N4.thru {A B C W hk gk h g h' g' : Int} (ab : A < B) (bc : B < C) (x : N4 A B C W h g) (y : N4 A B C W h' g') (z : N4 A B C W hk gk) (s : (A < h ∧ h < B) ↔ (A < h' ∧ h' < B)) (nk : ¬ (A < hk ∧ hk < B)) (t : ¬ Mid hk h h') : ¬ Mid gk g g' := by
  by_cases sc : A < h ∧ h < B
  · have sc' := s.1 sc
    unfold N4 Mid at *; omega
  · have sc' : ¬ (A < h' ∧ h' < B) := fun e => sc (s.2 e)
    rw [mid_iff (N4.lt ab bc z x ⟨fun e => absurd e nk, fun e => absurd e sc⟩) (N4.lt ab bc x z ⟨fun e => absurd e sc, fun e => absurd e nk⟩) (N4.lt ab bc z y ⟨fun e => absurd e nk, fun e => absurd e sc'⟩) (N4.lt ab bc y z ⟨fun e => absurd e sc', fun e => absurd e nk⟩)]
    exact t
theorem N5.thru {A B C W hk gk h g h' g' : Int} (ab : A < B) (bc : B < C) (x : N5 A B C W h g) (y : N5 A B C W h' g') (z : N5 A B C W hk gk) (s : (B < h ∧ h < C) ↔ (B < h' ∧ h' < C)) (nk : ¬ (B < hk ∧ hk < C)) (t : ¬ Mid hk h h') : ¬ Mid gk g g' := by
  by_cases sc : B < h ∧ h < C
  · have sc' := s.1 sc
    unfold N5 Mid at *; omega
  · have sc' : ¬ (B < h' ∧ h' < C) := fun e => sc (s.2 e)
    rw [mid_iff (N5.lt ab bc z x ⟨fun e => absurd e nk, fun e => absurd e sc⟩) (N5.lt ab bc x z ⟨fun e => absurd e sc, fun e => absurd e nk⟩) (N5.lt ab bc z y ⟨fun e => absurd e nk, fun e => absurd e sc'⟩) (N5.lt ab bc y z ⟨fun e => absurd e sc', fun e => absurd e nk⟩)]
    exact t
/-- one side of the special class -/
theorem N4.side {A B C W h g hk gk : Int} (ab : A < B) (bc : B < C) (x : N4 A B C W h g) (sh : ¬ (A < h ∧ h < B)) (z : N4 A B C W hk gk) (sk : A < hk ∧ hk < B) : (gk < g ↔ C < h) ∧ (g < gk ↔ h ≤ C) := by
  unfold N4 at *; omega
theorem N5.side {A B C W h g hk gk : Int} (ab : A < B) (bc : B < C) (x : N5 A B C W h g) (sh : ¬ (B < h ∧ h < C)) (z : N5 A B C W hk gk) (sk : B < hk ∧ hk < C) : (g < gk ↔ h < A) ∧ (gk < g ↔ A ≤ h) := by
  unfold N5 at *; omega
theorem N4.pair {A B C W h g h' g' hk gk hk' gk' : Int} (ab : A < B) (bc : B < C) (x : N4 A B C W h g) (y : N4 A B C W h' g') (z : N4 A B C W hk gk) (z' : N4 A B C W hk' gk') (s : (A < h ∧ h < B) ↔ (A < h' ∧ h' < B)) (sk : (A < hk ∧ hk < B) ↔ (A < hk' ∧ hk' < B)) (t : Mid hk h h' ↔ Mid hk' h h') : Mid gk g g' ↔ Mid gk' g g' := by
  by_cases c1 : A < h ∧ h < B <;> by_cases c2 : A < hk ∧ hk < B
  · have d1 := s.1 c1
    have d2 := sk.1 c2
    rw [mid_iff (N4.lt ab bc z x (iff_of_true c2 c1)) (N4.lt ab bc x z (iff_of_true c1 c2)) (N4.lt ab bc z y (iff_of_true c2 d1)) (N4.lt ab bc y z (iff_of_true d1 c2)), mid_iff (N4.lt ab bc z' x (iff_of_true d2 c1)) (N4.lt ab bc x z' (iff_of_true c1 d2)) (N4.lt ab bc z' y (iff_of_true d2 d1)) (N4.lt ab bc y z' (iff_of_true d1 d2))]
    exact t
  · have d1 := s.1 c1
    have d2 : ¬ (A < hk' ∧ hk' < B) := fun e => c2 (sk.2 e)
    have a1 := N4.side ab bc z c2 x c1
    have a2 := N4.side ab bc z c2 y d1
    have a3 := N4.side ab bc z' d2 x c1
    have a4 := N4.side ab bc z' d2 y d1
    unfold Mid; omega
  · have d1 : ¬ (A < h' ∧ h' < B) := fun e => c1 (s.2 e)
    have d2 := sk.1 c2
    have a1 := N4.side ab bc x c1 z c2
    have a2 := N4.side ab bc y d1 z c2
    have a3 := N4.side ab bc x c1 z' d2
    have a4 := N4.side ab bc y d1 z' d2
    unfold Mid; omega
  · have d1 : ¬ (A < h' ∧ h' < B) := fun e => c1 (s.2 e)
    have d2 : ¬ (A < hk' ∧ hk' < B) := fun e => c2 (sk.2 e)
    rw [mid_iff (N4.lt ab bc z x (iff_of_false c2 c1)) (N4.lt ab bc x z (iff_of_false c1 c2)) (N4.lt ab bc z y (iff_of_false c2 d1)) (N4.lt ab bc y z (iff_of_false d1 c2)), mid_iff (N4.lt ab bc z' x (iff_of_false d2 c1)) (N4.lt ab bc x z' (iff_of_false c1 d2)) (N4.lt ab bc z' y (iff_of_false d2 d1)) (N4.lt ab bc y z' (iff_of_false d1 d2))]
    exact t
theorem N5.pair {A B C W h g h' g' hk gk hk' gk' : Int} (ab : A < B) (bc : B < C) (x : N5 A B C W h g) (y : N5 A B C W h' g') (z : N5 A B C W hk gk) (z' : N5 A B C W hk' gk') (s : (B < h ∧ h < C) ↔ (B < h' ∧ h' < C)) (sk : (B < hk ∧ hk < C) ↔ (B < hk' ∧ hk' < C)) (t : Mid hk h h' ↔ Mid hk' h h') : Mid gk g g' ↔ Mid gk' g g' := by
  by_cases c1 : B < h ∧ h < C <;> by_cases c2 : B < hk ∧ hk < C
  · have d1 := s.1 c1
    have d2 := sk.1 c2
    rw [mid_iff (N5.lt ab bc z x (iff_of_true c2 c1)) (N5.lt ab bc x z (iff_of_true c1 c2)) (N5.lt ab bc z y (iff_of_true c2 d1)) (N5.lt ab bc y z (iff_of_true d1 c2)), mid_iff (N5.lt ab bc z' x (iff_of_true d2 c1)) (N5.lt ab bc x z' (iff_of_true c1 d2)) (N5.lt ab bc z' y (iff_of_true d2 d1)) (N5.lt ab bc y z' (iff_of_true d1 d2))]
    exact t
  · have d1 := s.1 c1
    have d2 : ¬ (B < hk' ∧ hk' < C) := fun e => c2 (sk.2 e)
    have a1 := N5.side ab bc z c2 x c1
    have a2 := N5.side ab bc z c2 y d1
    have a3 := N5.side ab bc z' d2 x c1
    have a4 := N5.side ab bc z' d2 y d1
    unfold Mid; omega
  · have d1 : ¬ (B < h' ∧ h' < C) := fun e => c1 (s.2 e)
    have d2 := sk.1 c2
    have a1 := N5.side ab bc x c1 z c2
    have a2 := N5.side ab bc y d1 z c2
    have a3 := N5.side ab bc x c1 z' d2
    have a4 := N5.side ab bc y d1 z' d2
    unfold Mid; omega
  · have d1 : ¬ (B < h' ∧ h' < C) := fun e => c1 (s.2 e)
    have d2 : ¬ (B < hk' ∧ hk' < C) := fun e => c2 (sk.2 e)
    rw [mid_iff (N5.lt ab bc z x (iff_of_false c2 c1)) (N5.lt ab bc x z (iff_of_false c1 c2)) (N5.lt ab bc z y (iff_of_false c2 d1)) (N5.lt ab bc y z (iff_of_false d1 c2)), mid_iff (N5.lt ab bc z' x (iff_of_false d2 c1)) (N5.lt ab bc x z' (iff_of_false c1 d2)) (N5.lt ab bc z' y (iff_of_false d2 d1)) (N5.lt ab bc y z' (iff_of_false d1 d2))]
    exact t
/-- not parted by any of the three -/
def Sam (A B C h h' : Int) : Prop := ¬ Mid A h h' ∧ ¬ Mid B h h' ∧ ¬ Mid C h h'
theorem N3.lt {A B C W h g h' g' : Int} (ab : A < B) (bc : B < C) (x : N3 A B C W h g) (y : N3 A B C W h' g') (s : Sam A B C h h') : g < g' ↔ h < h' := by
  unfold N3 Sam Mid at *; omega
theorem N3.zero {A B C W h g h' g' : Int} (ab : A < B) (bc : B < C) (x : N3 A B C W h g) (y : N3 A B C W h' g') (s : Sam A B C h h') : ¬ Mid 0 g g' := by
  unfold N3 Sam Mid at *; omega
theorem N3.thru {A B C W hk gk h g h' g' : Int} (ab : A < B) (bc : B < C) (x : N3 A B C W h g) (y : N3 A B C W h' g') (z : N3 A B C W hk gk) (s : Sam A B C h h') (t : ¬ Mid hk h h') : ¬ Mid gk g g' := by
  unfold N3 Sam Mid at *; omega
theorem N3.cls {A B C W h g : Int} (x : N3 A B C W h g) : (h < A ∧ g = h - W) ∨ (A < h ∧ h < B ∧ g = h + W) ∨ (B < h ∧ h < C ∧ g = h - W) ∨ (C < h ∧ g = h + W) := by
  unfold N3 at x; omega
theorem Sam.cls {A B C W h g h' g' : Int} (ab : A < B) (bc : B < C) (x : N3 A B C W h g) (y : N3 A B C W h' g') (s : Sam A B C h h') : (h < A ∧ g = h - W ∧ h' < A ∧ g' = h' - W) ∨ (A < h ∧ h < B ∧ g = h + W ∧ A < h' ∧ h' < B ∧ g' = h' + W) ∨ (B < h ∧ h < C ∧ g = h - W ∧ B < h' ∧ h' < C ∧ g' = h' - W) ∨ (C < h ∧ g = h + W ∧ C < h' ∧ g' = h' + W) := by
  unfold Sam Mid at s
  rcases x.cls with c | c | c | c <;> rcases y.cls with d | d | d | d <;> omega
theorem N3.bd {A B C W h g : Int} (x : N3 A B C W h g) : -W < h ∧ h < W := ⟨x.1, x.2.1⟩
theorem N3.pair {A B C W h g h' g' hk gk hk' gk' : Int} (ab : A < B) (bc : B < C) (x : N3 A B C W h g) (y : N3 A B C W h' g') (z : N3 A B C W hk gk) (z' : N3 A B C W hk' gk') (s : Sam A B C h h') (sk : Sam A B C hk hk') (t : Mid hk h h' ↔ Mid hk' h h') : Mid gk g g' ↔ Mid gk' g g' := by
  have b1 := x.bd
  have b2 := y.bd
  have b3 := z.bd
  have b4 := z'.bd
  have c := s.cls ab bc x y
  have d := sk.cls ab bc z z'
  clear x y z z' s sk
  unfold Mid at *
  rcases c with ⟨c1, rfl, c3, rfl⟩ | ⟨c1, c2, rfl, c3, c4, rfl⟩ | ⟨c1, c2, rfl, c3, c4, rfl⟩ | ⟨c1, rfl, c3, rfl⟩ <;> rcases d with ⟨d1, rfl, d3, rfl⟩ | ⟨d1, d2, rfl, d3, d4, rfl⟩ | ⟨d1, d2, rfl, d3, d4, rfl⟩ | ⟨d1, rfl, d3, rfl⟩ <;> omega
/-- the segments that come to lie below -/
def Upp (A B C x1 x2 h p q : Int) : Prop := h < A ∨ (h < B ∧ x1 ≤ p ∧ x1 ≤ q) ∨ (B < h ∧ h < C ∧ x2 ≤ p ∧ x2 ≤ q)
/-- a segment that is none of the three -/
structure Od (A B C x1 x2 W h p q g : Int) : Prop where
  un : (Upp A B C x1 x2 h p q ∧ g = h - W) ∨ (¬ Upp A B C x1 x2 h p q ∧ g = h + W)
  b1 : -W < h
  b2 : h < W
  n1 : h ≠ A
  n2 : h ≠ B
  n3 : h ≠ C
  f1 : Mid x1 p q → ¬ Mid h A B
  f2 : Mid x2 p q → ¬ Mid h B C
section
variable {A B C x1 x2 W h p q g : Int}
theorem Od.nI (o : Od A B C x1 x2 W h p q g) (hx : x2 < x1) (hp : p < x2 ∨ q < x2) : N1 A W h g := by
  obtain ⟨u, b1, b2, n1, n2, n3, f1, f2⟩ := o
  clear f1 f2
  unfold N1 Upp at *; omega
theorem Od.nII (o : Od A B C x1 x2 W h p q g) (ab : A < B) (bc : B < C) (hx : x2 < x1) (hp : x1 < p ∨ x1 < q) : N1 C W h g := by
  obtain ⟨u, b1, b2, n1, n2, n3, f1, f2⟩ := o
  unfold N1 Upp Mid at *; omega
theorem Od.nIII (o : Od A B C x1 x2 W h p q g) (ab : A < B) (bc : B < C) {y : Int} (h1 : x2 < y) (h2 : y < x1) (hp : p ≤ y ∨ q ≤ y) (hq : y ≤ p ∨ y ≤ q) : N3 A B C W h g := by
  obtain ⟨u, b1, b2, n1, n2, n3, f1, f2⟩ := o
  clear f1
  unfold N3 Upp Mid at *; omega
theorem Od.nIV (o : Od A B C x1 x2 W h p q g) (ab : A < B) (bc : B < C) (hx : x2 < x1) (hp : p < x1 ∨ q < x1) (hq : x1 ≤ p ∨ x1 ≤ q) : N4 A B C W h g := by
  obtain ⟨u, b1, b2, n1, n2, n3, f1, f2⟩ := o
  clear f1
  unfold N4 Upp Mid at *; omega
theorem Od.nV (o : Od A B C x1 x2 W h p q g) (ab : A < B) (bc : B < C) (hx : x2 < x1) (hp : x2 < p ∨ x2 < q) (hq : p ≤ x2 ∨ q ≤ x2) : N5 A B C W h g := by
  obtain ⟨u, b1, b2, n1, n2, n3, f1, f2⟩ := o
  clear f1
  unfold N5 Upp Mid at *; omega
end
theorem bound (H : Nat → Int) : ∀ n, ∃ W, 0 < W ∧ ∀ k, k < n → -W < H k ∧ H k < W
  | 0 => ⟨1, by omega, fun k h => by omega⟩
  | n + 1 => by
    obtain ⟨W, hW, h⟩ := bound H n
    refine ⟨W + (H n).natAbs + 1, by omega, fun k hk => ?_⟩
    by_cases e : k = n
    · subst e; omega
    · have := h k (by omega); omega
def od (a j : Nat) : Nat := if j < a then j else j + 2
set_option maxHeartbeats 4000000 in
theorem core {m a : Nat} {P Q H : Nat → Int} (ham : a < m)
    (dr : ∀ k, k < m + 2 → k % 2 = a % 2 → P k < P (k + 1)) (dl : ∀ k, k < m + 2 → k % 2 ≠ a % 2 → P (k + 1) < P k)
    (hx : P a ≤ P (a + 2)) (hy : P (a + 1) ≤ P (a + 3)) (pl : ∀ j, j ≤ a → Q j = P j) (pr : ∀ j, a < j → Q j = P (j + 2))
    (hv : Val (m + 2) P H) (hab : H a < H (a + 1)) (hbc : H (a + 1) < H (a + 2)) :
    ∃ G, Val m Q G ∧ ∀ i, i + 1 < m → (G i < G (i + 1) ↔ H (od a i) < H (od a i + 1)) := by
  obtain ⟨W, hW0, hW⟩ := bound H (m + 2)
  have hx21 : P (a + 2) < P (a + 1) := dl (a + 1) (by omega) (by omega)
  have hx23 : P (a + 2) < P (a + 3) := dr (a + 2) (by omega) (by omega)
  have hx01 : P a < P (a + 1) := dr a (by omega) rfl
  have wA := hW a (by omega)
  have wB := hW (a + 1) (by omega)
  have wC := hW (a + 2) (by omega)
  obtain ⟨G, ga, go⟩ : ∃ G : Nat → Int, G a = 0 ∧ ∀ j, j ≠ a → (Upp (H a) (H (a + 1)) (H (a + 2)) (P (a + 1)) (P (a + 2)) (H (od a j)) (P (od a j)) (P (od a j + 1)) ∧ G j = H (od a j) - W) ∨
      (¬ Upp (H a) (H (a + 1)) (H (a + 2)) (P (a + 1)) (P (a + 2)) (H (od a j)) (P (od a j)) (P (od a j + 1)) ∧ G j = H (od a j) + W) := by
    classical
    refine ⟨fun j => if j = a then 0 else if Upp (H a) (H (a + 1)) (H (a + 2)) (P (a + 1)) (P (a + 2)) (H (od a j)) (P (od a j)) (P (od a j + 1)) then H (od a j) - W else H (od a j) + W, if_pos rfl, fun j hj => ?_⟩
    by_cases hu : Upp (H a) (H (a + 1)) (H (a + 2)) (P (a + 1)) (P (a + 2)) (H (od a j)) (P (od a j)) (P (od a j + 1))
    · exact .inl ⟨hu, (if_neg hj).trans (if_pos hu)⟩
    · exact .inr ⟨hu, (if_neg hj).trans (if_neg hu)⟩
  have odl : ∀ j, j < a → od a j = j := fun j h => if_pos h
  have odr : ∀ j, a ≤ j → od a j = j + 2 := fun j h => if_neg (by omega)
  have odb : ∀ j, j < m → od a j < m + 2 := fun j h => by unfold od; split <;> omega
  have odn : ∀ j, od a j ≠ a ∧ od a j ≠ a + 1 ∧ (j ≠ a → od a j ≠ a + 2) := fun j => by unfold od; split <;> omega
  have ods : ∀ j, j + 1 ≠ a → od a (j + 1) = od a j + 1 := fun j h => by unfold od; split <;> split <;> omega
  have odm : ∀ j, od a j % 2 = j % 2 := fun j => by unfold od; split <;> omega
  have odi : ∀ i j, i ≠ j → od a i ≠ od a j := fun i j h => by unfold od; split <;> split <;> omega
  have odq : ∀ j, Q (j + 1) = P (od a j + 1) := fun j => by
    by_cases h : j < a
    · rw [odl j h, pl (j + 1) (by omega)]
    · rw [odr j (by omega), pr (j + 1) (by omega)]
  have odp : ∀ j, j ≠ a → Q j = P (od a j) := fun j hj => by
    by_cases h : j < a
    · rw [odl j h, pl j (by omega)]
    · rw [odr j (by omega), pr j (by omega)]
  have ord : ∀ j, j < m → j ≠ a → Od (H a) (H (a + 1)) (H (a + 2)) (P (a + 1)) (P (a + 2)) W (H (od a j)) (P (od a j)) (P (od a j + 1)) (G j) := by
    intro j hj hja
    have n := odn j
    have b := odb j hj
    have w := hW _ b
    exact ⟨go j hja, w.1, w.2, hv.ne b (by omega) n.1, hv.ne b (by omega) n.2.1, hv.ne b (by omega) (n.2.2 hja), hv.thru a _ (by omega) b, hv.thru (a + 1) _ (by omega) b⟩
  -- both sides of a crease
  have lft : ∀ c, c + 1 < m → c % 2 = a % 2 → P (od a c) < P (od a c + 1) ∧ P (od a c + 2) < P (od a c + 1) := by
    intro c hc hp
    have b := odb c (by omega)
    have b1 : od a c + 1 < m + 2 := by unfold od; split <;> omega
    have q := odm c
    exact ⟨dr _ b (by omega), dl _ b1 (by omega)⟩
  have rgt : ∀ c, c + 1 < m → c % 2 ≠ a % 2 → P (od a c + 1) < P (od a c) ∧ P (od a c + 1) < P (od a c + 2) := by
    intro c hc hp
    have b := odb c (by omega)
    have b1 : od a c + 1 < m + 2 := by unfold od; split <;> omega
    have q := odm c
    exact ⟨dl _ b (by omega), dr _ b1 (by omega)⟩
  have qa : Q a = P a := pl a (by omega)
  have qa1 : Q (a + 1) = P (a + 3) := pr (a + 1) (by omega)
  have oc1 : ∀ c, c + 1 < m → od a c + 1 < m + 2 := fun c hc => by unfold od; split <;> omega
  -- the five kinds of creases
  have kI : ∀ c, c + 1 < m → (Q (c + 1) < P (a + 2) ∨ (Q (c + 1) = P (a + 2) ∧ c % 2 = a % 2)) → N1 (H a) W (H (od a c)) (G c) ∧ N1 (H a) W (H (od a c + 1)) (G (c + 1)) := by
    intro c hc hk
    have hca : c ≠ a := by rintro rfl; rw [qa1] at hk; omega
    have e := odq c
    have l := lft c hc
    constructor
    · exact (ord c (by omega) hca).nI hx21 (by omega)
    · by_cases h1 : c + 1 = a
      · rw [odl c (by omega), h1, ga]
        unfold N1; omega
      · have o := ord (c + 1) hc h1
        rw [ods c h1] at o
        exact o.nI hx21 (by have : od a c + 1 + 1 = od a c + 2 := rfl; rw [this]; omega)
  have kII : ∀ c, c + 1 < m → (P (a + 1) < Q (c + 1) ∨ (Q (c + 1) = P (a + 1) ∧ c % 2 ≠ a % 2)) → N1 (H (a + 2)) W (H (od a c)) (G c) ∧ N1 (H (a + 2)) W (H (od a c + 1)) (G (c + 1)) := by
    intro c hc hk
    have hca : c + 1 ≠ a := by intro e; rw [e, qa] at hk; omega
    have e := odq c
    have l := rgt c hc
    constructor
    · by_cases h1 : c = a
      · subst h1
        rw [odr c (by omega), ga]
        unfold N1; omega
      · exact (ord c (by omega) h1).nII hab hbc hx21 (by omega)
    · have o := ord (c + 1) hc hca
      rw [ods c hca] at o
      exact o.nII hab hbc hx21 (by have : od a c + 1 + 1 = od a c + 2 := rfl; rw [this]; omega)
  have kIII : ∀ c, c + 1 < m → P (a + 2) < Q (c + 1) → Q (c + 1) < P (a + 1) → N3 (H a) (H (a + 1)) (H (a + 2)) W (H (od a c)) (G c) ∧ N3 (H a) (H (a + 1)) (H (a + 2)) W (H (od a c + 1)) (G (c + 1)) ∧ Sam (H a) (H (a + 1)) (H (a + 2)) (H (od a c)) (H (od a c + 1)) := by
    intro c hc h1 h2
    have hca : c + 1 ≠ a := by intro e; rw [e, qa] at h1; omega
    have hcb : c ≠ a := by rintro rfl; rw [qa1] at h2; omega
    have e := odq c
    refine ⟨(ord c (by omega) hcb).nIII hab hbc h1 h2 (by omega) (by omega), ?_, ?_, ?_, ?_⟩
    · have o := ord (c + 1) hc hca
      rw [ods c hca] at o
      exact o.nIII hab hbc h1 h2 (by omega) (by omega)
    · exact hv.thru _ a (oc1 c hc) (by omega) (by rw [← e]; unfold Mid; omega)
    · exact hv.thru _ (a + 1) (oc1 c hc) (by omega) (by rw [← e]; show Mid _ (P (a + 1)) (P (a + 2)); unfold Mid; omega)
    · exact hv.thru _ (a + 2) (oc1 c hc) (by omega) (by rw [← e]; show Mid _ (P (a + 2)) (P (a + 3)); unfold Mid; omega)
  have kIV : ∀ c, c + 1 < m → Q (c + 1) = P (a + 1) → c % 2 = a % 2 → N4 (H a) (H (a + 1)) (H (a + 2)) W (H (od a c)) (G c) ∧ N4 (H a) (H (a + 1)) (H (a + 2)) W (H (od a c + 1)) (G (c + 1)) ∧
      ((H a < H (od a c) ∧ H (od a c) < H (a + 1)) ↔ (H a < H (od a c + 1) ∧ H (od a c + 1) < H (a + 1))) := by
    intro c hc h1 h2
    have hca : c + 1 ≠ a := by intro e; rw [e, qa] at h1; omega
    have e := odq c
    have l := lft c hc h2
    refine ⟨?_, ?_, ?_⟩
    · by_cases h1 : c = a
      · subst h1
        rw [odr c (by omega), ga]
        unfold N4; omega
      · exact (ord c (by omega) h1).nIV hab hbc hx21 (by omega) (by omega)
    · have o := ord (c + 1) hc hca
      rw [ods c hca] at o
      exact o.nIV hab hbc hx21 (by have : od a c + 1 + 1 = od a c + 2 := rfl; rw [this]; omega) (by omega)
    · have t := hv.pair a (od a c) (by omega) (oc1 c hc) (odn c).1 (by rw [odm]; exact h2) (by rw [← e]; exact h1)
      unfold Mid at t; omega
  have kV : ∀ c, c + 1 < m → Q (c + 1) = P (a + 2) → c % 2 ≠ a % 2 → N5 (H a) (H (a + 1)) (H (a + 2)) W (H (od a c)) (G c) ∧ N5 (H a) (H (a + 1)) (H (a + 2)) W (H (od a c + 1)) (G (c + 1)) ∧
      ((H (a + 1) < H (od a c) ∧ H (od a c) < H (a + 2)) ↔ (H (a + 1) < H (od a c + 1) ∧ H (od a c + 1) < H (a + 2))) := by
    intro c hc h1 h2
    have hca : c ≠ a := by rintro rfl; rw [qa1] at h1; omega
    have e := odq c
    have l := rgt c hc h2
    refine ⟨(ord c (by omega) hca).nV hab hbc hx21 (by omega) (by omega), ?_, ?_⟩
    · by_cases h1 : c + 1 = a
      · rw [odl c (by omega), h1, ga]
        unfold N5; omega
      · have o := ord (c + 1) hc h1
        rw [ods c h1] at o
        exact o.nV hab hbc hx21 (by have : od a c + 1 + 1 = od a c + 2 := rfl; rw [this]; omega) (by omega)
    · have t := hv.pair (a + 1) (od a c) (by omega) (oc1 c hc) (odn c).2.1 (by rw [odm]; omega) (by rw [← e]; exact h1)
      have : a + 1 + 1 = a + 2 := rfl
      rw [this] at t
      unfold Mid at t; omega
  have five : ∀ c, (Q (c + 1) < P (a + 2) ∨ (Q (c + 1) = P (a + 2) ∧ c % 2 = a % 2)) ∨ (P (a + 1) < Q (c + 1) ∨ (Q (c + 1) = P (a + 1) ∧ c % 2 ≠ a % 2)) ∨ (P (a + 2) < Q (c + 1) ∧ Q (c + 1) < P (a + 1)) ∨ (Q (c + 1) = P (a + 1) ∧ c % 2 = a % 2) ∨ (Q (c + 1) = P (a + 2) ∧ c % 2 ≠ a % 2) := by
    intro c; omega
  refine ⟨G, ⟨fun c k hc hk hm => ?_, fun c k hc hk hne hpar hp => ?_, fun i k hi hk e => ?_⟩, fun c hc => ?_⟩
  · have e := odq c
    have o1 := oc1 c hc
    by_cases hka : k = a
    · subst hka
      rw [qa, qa1] at hm
      rw [ga]
      rcases five c with h | h | ⟨h1, h2⟩ | ⟨h1, h2⟩ | ⟨h1, h2⟩
      · obtain ⟨n1, n2⟩ := kI c hc h
        have z : N1 (H k) W (H k) 0 := by unfold N1; omega
        rw [z.mid n1 n2]
        exact hv.thru _ k o1 (by omega) (by rw [← e]; unfold Mid at *; omega)
      · obtain ⟨n1, n2⟩ := kII c hc h
        have z : N1 (H (k + 2)) W (H (k + 2)) 0 := by unfold N1; omega
        rw [z.mid n1 n2]
        exact hv.thru _ (k + 2) o1 (by omega) (by rw [← e]; show Mid _ (P (k + 2)) (P (k + 3)); unfold Mid at *; omega)
      · obtain ⟨n1, n2, s⟩ := kIII c hc h1 h2
        exact N3.zero hab hbc n1 n2 s
      · obtain ⟨n1, n2, s⟩ := kIV c hc h1 h2
        have z : N4 (H k) (H (k + 1)) (H (k + 2)) W (H (k + 2)) 0 := by unfold N4; omega
        exact N4.thru hab hbc n1 n2 z s (by omega) (hv.thru _ (k + 2) o1 (by omega) (by rw [← e]; show Mid _ (P (k + 2)) (P (k + 3)); unfold Mid at *; omega))
      · obtain ⟨n1, n2, s⟩ := kV c hc h1 h2
        have z : N5 (H k) (H (k + 1)) (H (k + 2)) W (H k) 0 := by unfold N5; omega
        exact N5.thru hab hbc n1 n2 z s (by omega) (hv.thru _ k o1 (by omega) (by rw [← e]; unfold Mid at *; omega))
    · have o := ord k hk hka
      have ek := odp k hka
      have ek1 := odq k
      have t := hv.thru _ (od a k) o1 (odb k hk) (by rw [← e, ← ek, ← ek1]; exact hm)
      rw [ek, ek1] at hm
      rcases five c with h | h | ⟨h1, h2⟩ | ⟨h1, h2⟩ | ⟨h1, h2⟩
      · obtain ⟨n1, n2⟩ := kI c hc h
        have z := o.nI hx21 (by unfold Mid at hm; omega)
        rw [z.mid n1 n2]
        exact t
      · obtain ⟨n1, n2⟩ := kII c hc h
        have z := o.nII hab hbc hx21 (by unfold Mid at hm; omega)
        rw [z.mid n1 n2]
        exact t
      · obtain ⟨n1, n2, s⟩ := kIII c hc h1 h2
        have z := o.nIII hab hbc h1 h2 (by unfold Mid at hm; omega) (by unfold Mid at hm; omega)
        exact N3.thru hab hbc n1 n2 z s t
      · obtain ⟨n1, n2, s⟩ := kIV c hc h1 h2
        have z := o.nIV hab hbc hx21 (by unfold Mid at hm; omega) (by unfold Mid at hm; omega)
        have f := o.f1 (by rw [← h1]; exact hm)
        exact N4.thru hab hbc n1 n2 z s (by unfold Mid at f; omega) t
      · obtain ⟨n1, n2, s⟩ := kV c hc h1 h2
        have z := o.nV hab hbc hx21 (by unfold Mid at hm; omega) (by unfold Mid at hm; omega)
        have f := o.f2 (by rw [← h1]; exact hm)
        exact N5.thru hab hbc n1 n2 z s (by unfold Mid at f; omega) t
  · have t := hv.pair (od a c) (od a k) (oc1 c hc) (oc1 k hk) (odi _ _ hne) (by rw [odm, odm]; exact hpar) (by rw [← odq, ← odq]; exact hp)
    rcases five c with h | h | ⟨h1, h2⟩ | ⟨h1, h2⟩ | ⟨h1, h2⟩
    · obtain ⟨n1, n2⟩ := kI c hc h
      obtain ⟨z1, z2⟩ := kI k hk (by omega)
      rw [z1.mid n1 n2, z2.mid n1 n2]
      exact t
    · obtain ⟨n1, n2⟩ := kII c hc h
      obtain ⟨z1, z2⟩ := kII k hk (by omega)
      rw [z1.mid n1 n2, z2.mid n1 n2]
      exact t
    · obtain ⟨n1, n2, s⟩ := kIII c hc h1 h2
      obtain ⟨z1, z2, s'⟩ := kIII k hk (by omega) (by omega)
      exact N3.pair hab hbc n1 n2 z1 z2 s s' t
    · obtain ⟨n1, n2, s⟩ := kIV c hc h1 h2
      obtain ⟨z1, z2, s'⟩ := kIV k hk (by omega) (by omega)
      exact N4.pair hab hbc n1 n2 z1 z2 s s' t
    · obtain ⟨n1, n2, s⟩ := kV c hc h1 h2
      obtain ⟨z1, z2, s'⟩ := kV k hk (by omega) (by omega)
      exact N5.pair hab hbc n1 n2 z1 z2 s s' t
  · by_cases h1 : i = a
    · by_cases h2 : k = a
      · omega
      · have o := (ord k hk h2).un
        have b1 := (ord k hk h2).b1
        have b2 := (ord k hk h2).b2
        rw [h1, ga] at e
        omega
    · have o := (ord i hi h1).un
      have b1 := (ord i hi h1).b1
      have b2 := (ord i hi h1).b2
      by_cases h2 : k = a
      · rw [h2, ga] at e; omega
      · have o' := (ord k hk h2).un
        have b1' := (ord k hk h2).b1
        have b2' := (ord k hk h2).b2
        have := hv.inj (od a i) (od a k) (odb i hi) (odb k hk) (by omega)
        apply Classical.byContradiction
        intro hne
        exact odi i k hne this
  · rcases five c with h | h | ⟨h1, h2⟩ | ⟨h1, h2⟩ | ⟨h1, h2⟩
    · obtain ⟨n1, n2⟩ := kI c hc h
      exact n1.lt n2
    · obtain ⟨n1, n2⟩ := kII c hc h
      exact n1.lt n2
    · obtain ⟨n1, n2, s⟩ := kIII c hc h1 h2
      exact N3.lt hab hbc n1 n2 s
    · obtain ⟨n1, n2, s⟩ := kIV c hc h1 h2
      exact N4.lt hab hbc n1 n2 s
    · obtain ⟨n1, n2, s⟩ := kV c hc h1 h2
      exact N5.lt hab hbc n1 n2 s
theorem Val.neg_p {n : Nat} {p h : Nat → Int} (hv : Val n p h) : Val n (fun j => - p j) h := hv.move 0 (.inr fun j => by omega)
/-- folded in -/
theorem crimp_dn {m a : Nat} {L : Nat → Int} {f : Nat → Bool} (ham : a < m) (pos : ∀ i, i < m + 2 → 1 ≤ L i) (hA : L (a + 1) ≤ L a) (hC : L (a + 1) ≤ L (a + 2)) (hf : f a ≠ f (a + 1)) (hF : Flat (m + 2) L f) : Flat m (crp L a) (crf f a) := by
  obtain ⟨h, hv, hc⟩ := hF
  have dA := ptd L a
  have dB := ptd' L (a + 1) (a + 2) rfl
  have dC := ptd' L (a + 2) (a + 3) rfl
  have l1 := pos (a + 1) (by omega)
  -- points, so that the first of the three goes to the right
  obtain ⟨P, Q, hvP, dr, dl, pl, pr, hx, hy, back⟩ : ∃ P Q : Nat → Int, Val (m + 2) P h ∧ (∀ k, k < m + 2 → k % 2 = a % 2 → P k < P (k + 1)) ∧ (∀ k, k < m + 2 → k % 2 ≠ a % 2 → P (k + 1) < P k) ∧
      (∀ j, j ≤ a → Q j = P j) ∧ (∀ j, a < j → Q j = P (j + 2)) ∧ P a ≤ P (a + 2) ∧ P (a + 1) ≤ P (a + 3) ∧ ∀ G, Val m Q G → Val m (pt (crp L a)) G := by
    rcases Nat.mod_two_eq_zero_or_one a with ha | ha
    · refine ⟨pt L, pt (crp L a), hv, fun k hk h => ?_, fun k hk h => ?_, crp_l, fun j hj => crp_r' hj, by omega, by omega, fun G h => h⟩
      · have := ptd L k; have := pos k hk; omega
      · have := ptd L k; have := pos k hk; omega
    · refine ⟨fun j => - pt L j, fun j => - pt (crp L a) j, hv.neg_p, fun k hk h => ?_, fun k hk h => ?_, fun j hj => ?_, fun j hj => ?_, ?_, ?_, fun G h => ?_⟩
      · have := ptd L k; have := pos k hk; simp only; omega
      · have := ptd L k; have := pos k hk; simp only; omega
      · simp only; rw [crp_l j hj]
      · simp only; rw [crp_r' hj]
      · simp only; omega
      · simp only; omega
      · have := h.neg_p
        exact this.cong (fun j _ => by simp) (fun _ _ => rfl)
  have c1 := hc a (by omega)
  have c2 := hc (a + 1) (by omega)
  have n1 := hv.ne (i := a) (k := a + 1) (by omega) (by omega) (by omega)
  have n2 := hv.ne (i := a + 1) (k := a + 2) (by omega) (by omega) (by omega)
  have mono : (h a < h (a + 1) ∧ h (a + 1) < h (a + 2)) ∨ (h (a + 1) < h a ∧ h (a + 2) < h (a + 1)) := by
    have x : (f (a + 1) = true) ↔ ¬ (f a = true) := by cases x : f a <;> cases y : f (a + 1) <;> simp_all
    rw [c1] at x
    have y := c2.symm.trans x
    have : a + 1 + 1 = a + 2 := rfl
    rw [this] at y
    omega
  have fin : ∀ i, i + 1 < m → crf f a i = f (od a i) := fun i hi => by unfold crf od; split <;> rfl
  have odm : ∀ j, od a j % 2 = j % 2 := fun j => by unfold od; split <;> omega
  have oc1 : ∀ c, c + 1 < m → od a c + 1 < m + 2 := fun c hc => by unfold od; split <;> omega
  rcases mono with ⟨h1, h2⟩ | ⟨h1, h2⟩
  · obtain ⟨G, hG, ho⟩ := core ham dr dl hx hy pl pr hvP h1 h2
    refine ⟨G, back G hG, fun i hi => ?_⟩
    rw [fin i hi, hc _ (oc1 i hi), ho i hi, odm]
  · obtain ⟨G, hG, ho⟩ := core ham dr dl hx hy pl pr hvP.neg_h (by omega) (by omega)
    refine ⟨fun j => - G j, (back G hG).neg_h, fun i hi => ?_⟩
    rw [fin i hi, hc _ (oc1 i hi), odm]
    have o := ho i hi
    have e1 := hv.ne (i := od a i) (k := od a i + 1) (by have := oc1 i hi; omega) (oc1 i hi) (by omega)
    have e2 := hG.ne (i := i) (k := i + 1) (by omega) hi (by omega)
    have : (h (od a i) < h (od a i + 1)) ↔ (-G i < -G (i + 1)) := by omega
    rw [this]
theorem flat_crimp {m a : Nat} {L : Nat → Int} {f : Nat → Bool} (ham : a < m) (pos : ∀ i, i < m + 2 → 1 ≤ L i) (hA : L (a + 1) ≤ L a) (hC : L (a + 1) ≤ L (a + 2)) (hf : f a ≠ f (a + 1)) : Flat (m + 2) L f ↔ Flat m (crp L a) (crf f a) :=
  ⟨crimp_dn ham pos hA hC hf, crimp_up ham pos hA hC hf⟩
end Fl
