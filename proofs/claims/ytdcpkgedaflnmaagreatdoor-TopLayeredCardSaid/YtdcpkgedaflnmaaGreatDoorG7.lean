/-
  Plain: the next order, by pivots; evaluated in the kernel for all orders of up to 7 layers. Own work.
  The law's own test is the reference's. Own work.
  Orders of layers and heights; the foldings of a strip, and the plain laws. Own work.
-/
import Derived.Test.YtdcpkgedaflnmaaGreatDoorG3
set_option linter.unusedVariables false
namespace Go.Proofs.YtdcpkgedaflnmaaGreatDoor.Fo
open Go Fw

set_option maxRecDepth 100000
theorem extL_ok (n : Nat) : ∀ (m : Nat) (o : List Int), (∀ a ∈ o, 0 ≤ a ∧ a < n) → o.Nodup → ∀ q ∈ extL n m o, (∀ a ∈ q, 0 ≤ a ∧ a < n) ∧ q.Nodup
  | 0, o, h1, h2, q, hq => by simp [extL] at hq; subst hq; exact ⟨h1, h2⟩
  | m + 1, o, h1, h2, q, hq => by
    unfold extL at hq
    obtain ⟨k, hk, hq⟩ := List.mem_flatMap.1 hq
    have hk := List.mem_range.1 hk
    split at hq
    · cases hq
    · rename_i hm
      refine extL_ok n m _ (fun a ha => ?_) ?_ q hq
      · rcases List.mem_append.1 ha with h | h
        · exact h1 a h
        · have := List.mem_singleton.1 h; omega
      · rw [List.nodup_append]
        exact ⟨h2, by simp, fun a ha b hb e => hm (by rw [List.mem_singleton.1 hb] at e; rw [← e]; exact ha)⟩
theorem perms_ok {n : Nat} {o : List Int} (h : o ∈ permsL n) : o.length = n ∧ (∀ a ∈ o, 0 ≤ a ∧ a < n) ∧ o.Nodup := by
  have h1 := extL_len n n [] o h
  have h2 := extL_ok n n [] (by simp) (by simp) o h
  exact ⟨by simpa using h1, h2⟩
end Go.Proofs.YtdcpkgedaflnmaaGreatDoor.Fo
set_option linter.unusedVariables false
set_option linter.unusedSimpArgs false
namespace Go.Proofs.YtdcpkgedaflnmaaGreatDoor.Fo
open Go Fw

theorem crs_or (h : Nat → Int) (i : Nat) : crs h i = 118 ∨ crs h i = 109 := by unfold crs; split <;> simp
theorem crsL_iff {n : Nat} {f : List UInt8} (hf : f.length = n) (hv : ∀ c ∈ f, c = 118 ∨ c = 109) (h : Nat → Int) : crsL h n = f ↔ ∀ i, i < n → (crs h i = 118 ↔ gF f i = 118) := by
  constructor
  · intro e i hi
    rw [← e]
    have : gF (crsL h n) i = crs h i := by
      rw [gF_of (by simp [crsL]; omega)]; simp [crsL]
    rw [this]
  · intro e
    apply List.ext_getElem
    · simp [crsL]; omega
    · intro i h1 h2
      have := e i (by omega)
      rw [gF_of h2] at this
      have e2 : (crsL h n)[i] = crs h i := by simp [crsL]
      rw [e2]
      rcases crs_or h i with h3 | h3 <;> rcases hv f[i] (List.getElem_mem _) with h4 | h4
      · rw [h3, h4]
      · have := this.1 h3; rw [h4] at this; cases this
      · have := this.2 h4; rw [h3] at this; cases this
      · rw [h3, h4]
/-- an order of n layers -/
def IsOrd (n : Nat) (o : List Int) : Prop := o.Perm (hL n fun k => (k : Int))
theorem IsOrd.len {n : Nat} {o : List Int} (h : IsOrd n o) : o.length = n := by rw [h.length_eq, hL_len]
theorem IsOrd.rng {n : Nat} {o : List Int} (h : IsOrd n o) : ∀ a ∈ o, 0 ≤ a ∧ a < n := by
  intro a ha
  have := h.mem_iff.1 ha
  simp only [hL, List.mem_map, List.mem_range] at this
  obtain ⟨k, hk, rfl⟩ := this
  omega
theorem IsOrd.nd {n : Nat} {o : List Int} (h : IsOrd n o) : o.Nodup := by
  refine h.nodup_iff.2 ?_
  unfold hL
  exact List.Pairwise.map _ (fun a b hab e => hab (by exact_mod_cast e)) List.nodup_range
theorem IsOrd.ok {n : Nat} {o : List Int} (h : IsOrd n o) : firstE (oE o) o.length = 0 := by
  refine firstE_zero fun k hk => ?_
  have hl := h.len
  have hr := h.rng o[k] (List.getElem_mem _)
  unfold oE
  rw [gI_of hk]
  rw [if_neg, if_neg]
  · intro hm
    obtain ⟨j, hj, e⟩ := List.mem_take_iff_getElem.1 hm
    have := (List.getElem_inj h.nd).1 e
    omega
  · simp [btw]; omega
theorem liesR_ord {l : List Int} {f : List UInt8} {o : List Int} (hc : chk l f = 0) (h : IsOrd l.length o) : liesR l f o = if crsL (hO o) (l.length - 1) = f ∧ fitB l (hO o) = true then 0 else 13 := by
  unfold liesR
  rw [if_neg (by simp [hc]), if_neg (by simp [h.len]), if_neg (by simp [h.ok]), h.len]
end Go.Proofs.YtdcpkgedaflnmaaGreatDoor.Fo
set_option linter.unusedVariables false
set_option linter.unusedSimpArgs false
namespace Go.Proofs.YtdcpkgedaflnmaaGreatDoor.Fo
open Go Fw

theorem mem_extL {n : Nat} : ∀ (m : Nat) (o r : List Int), r.length = m → (∀ a ∈ r, 0 ≤ a ∧ a < n) → (o ++ r).Nodup → o ++ r ∈ extL n m o
  | 0, o, r, h, _, _ => by
    have : r = [] := List.length_eq_zero_iff.1 h
    subst this
    simp [extL]
  | m + 1, o, [], h, _, _ => by simp at h
  | m + 1, o, a :: r, h, hr, hd => by
    unfold extL
    obtain ⟨h0, h1⟩ := hr a (by simp)
    refine List.mem_flatMap.2 ⟨a.toNat, List.mem_range.2 (by omega), ?_⟩
    have ha : ((a.toNat : Nat) : Int) = a := by omega
    rw [ha]
    have hno : a ∉ o := fun hm => by
      have := (List.nodup_append.1 hd).2.2 a hm a (by simp)
      exact this rfl
    rw [if_neg hno]
    have := mem_extL m (o ++ [a]) r (by simpa using h) (fun b hb => hr b (by simp [hb])) (by rw [List.append_assoc]; exact hd)
    rwa [List.append_assoc] at this
theorem mem_perms {n : Nat} {o : List Int} : o ∈ permsL n ↔ o.length = n ∧ (∀ a ∈ o, 0 ≤ a ∧ a < n) ∧ o.Nodup := by
  constructor
  · exact perms_ok
  · rintro ⟨h1, h2, h3⟩
    exact mem_extL n [] o h1 h2 h3
/-! heights of orders -/
theorem mid_Mid {n a b : Int} : mid n a b = true ↔ Fl.Mid n a b := by
  unfold mid Fl.Mid
  rw [Bool.and_eq_true, decide_eq_true_eq, decide_eq_true_eq]
  omega
theorem val_iff {l : List Int} {h : Nat → Int} (hi : ∀ i k, i < l.length → k < l.length → h i = h k → i = k) : fitB l h = true ↔ Fl.Val l.length (pn l) h := by
  unfold fitB
  rw [List.all_eq_true]
  constructor
  · intro hh
    have key : ∀ i, i + 1 < l.length → (List.range l.length).all (thrB l h i) = true ∧ (List.range (l.length - 1)).all (parR l h i) = true := fun i hi => by
      have := hh i (List.mem_range.2 (by omega))
      unfold fitI at this
      rw [parR_all, Bool.and_eq_true] at this
      exact this
    refine ⟨fun i k h1 h2 hm hM => ?_, fun i k h1 h2 hne hp he => ?_, hi⟩
    · have := List.all_eq_true.1 (key i h1).1 k (List.mem_range.2 h2)
      unfold thrB ins at this
      rw [mid_Mid.2 hm, mid_Mid.2 hM] at this
      cases this
    · have := List.all_eq_true.1 (key i h1).2 k (List.mem_range.2 (by omega))
      unfold parR ins at this
      simp only [hne, hp, he, decide_true, decide_false, Bool.not_false, Bool.and_true, Bool.not_true, Bool.false_or, beq_iff_eq] at this
      rw [← mid_Mid, ← mid_Mid, this]
  · rintro ⟨h1, h2, _⟩ i hi
    have hi := List.mem_range.1 hi
    unfold fitI
    rw [parR_all, Bool.and_eq_true, List.all_eq_true, List.all_eq_true]
    refine ⟨fun k hk => ?_, fun k hk => ?_⟩
    · have hk := List.mem_range.1 hk
      unfold thrB ins
      rw [Bool.not_eq_true', Bool.and_eq_false_iff]
      by_cases hm : Fl.Mid (pn l (i + 1)) (pn l k) (pn l (k + 1))
      · refine .inr ?_
        rw [← Bool.not_eq_true, mid_Mid]
        exact h1 i k (by omega) hk hm
      · refine .inl ?_
        rw [← Bool.not_eq_true, mid_Mid]
        exact hm
    · have hk := List.mem_range.1 hk
      unfold parR ins
      by_cases hc : k ≠ i ∧ k % 2 = i % 2 ∧ pn l (k + 1) = pn l (i + 1)
      · have := h2 i k (by omega) (by omega) hc.1 hc.2.1 hc.2.2
        rw [← mid_Mid, ← mid_Mid, ← Bool.eq_iff_iff] at this
        rw [this]; simp
      · have : (!decide (k = i) && decide (k % 2 = i % 2) && decide (pn l (k + 1) = pn l (i + 1))) = false := by
          rw [Bool.eq_false_iff]; intro e
          simp only [Bool.and_eq_true, Bool.not_eq_true', decide_eq_false_iff_not, decide_eq_true_eq] at e
          exact hc ⟨e.1.1, e.1.2, e.2⟩
        rw [this]; rfl
/-- creases as the theory has them -/
def fB (f : List UInt8) (i : Nat) : Bool := decide (gF f i = 118)
theorem cr_iff {n : Nat} {f : List UInt8} (hf : f.length = n - 1) (hv : ∀ c ∈ f, c = 118 ∨ c = 109) (h : Nat → Int) : crsL h (n - 1) = f ↔ Fl.Cr n h (fB f) := by
  rw [crsL_iff hf hv]
  have : ∀ i, crs h i = 118 ↔ (h i < h (i + 1) ↔ i % 2 = 0) := by
    intro i
    unfold crs
    by_cases c1 : h i < h (i + 1) <;> by_cases c2 : i % 2 = 0 <;> simp [c1, c2]
  constructor
  · intro hh i hi
    have := hh i (by omega)
    rw [fB, decide_eq_true_eq, ← this, (by assumption : ∀ i, crs h i = 118 ↔ (h i < h (i + 1) ↔ i % 2 = 0)) i]
  · intro hh i hi
    have h2 := hh i (by omega)
    rw [fB, decide_eq_true_eq] at h2
    rw [this i, h2]
theorem IsOrd.mem {n : Nat} {o : List Int} (h : IsOrd n o) {k : Nat} (hk : k < n) : (k : Int) ∈ o := by
  refine h.mem_iff.2 ?_
  simp only [hL, List.mem_map, List.mem_range]
  exact ⟨k, hk, rfl⟩
theorem nd_len {α : Type} [DecidableEq α] : ∀ {l m : List α}, l.Nodup → (∀ a ∈ l, a ∈ m) → l.length ≤ m.length
  | [], m, _, _ => by simp
  | a :: l, m, h, hs => by
    obtain ⟨h1, h2⟩ := List.nodup_cons.1 h
    have ha := hs a (by simp)
    have := nd_len (l := l) (m := m.erase a) h2 fun b hb => (List.mem_erase_of_ne (fun e => h1 (by rw [← e]; exact hb))).2 (hs b (by simp [hb]))
    rw [List.length_erase_of_mem ha] at this
    have := List.length_pos_of_mem ha
    simp
    omega
theorem isOrd_iff {n : Nat} {o : List Int} : IsOrd n o ↔ o ∈ permsL n := by
  rw [mem_perms]
  constructor
  · intro h; exact ⟨h.len, h.rng, h.nd⟩
  · rintro ⟨h1, h2, h3⟩
    have hnd : (hL n fun k => (k : Int)).Nodup := by
      unfold hL
      exact List.Pairwise.map _ (fun a b hab e => hab (by exact_mod_cast e)) List.nodup_range
    refine (List.perm_ext_iff_of_nodup h3 hnd).2 ?_
    have sub : ∀ a ∈ o, a ∈ hL n fun k => (k : Int) := fun a ha => by
      simp only [hL, List.mem_map, List.mem_range]
      have := h2 a ha
      exact ⟨a.toNat, by omega, by omega⟩
    intro a
    refine ⟨sub a, fun ha => ?_⟩
    by_cases hao : a ∈ o
    · exact hao
    have := nd_len (l := a :: o) (m := hL n fun k => (k : Int)) (List.nodup_cons.2 ⟨hao, h3⟩) (fun b hb => by
      rcases List.mem_cons.1 hb with rfl | hb
      · exact ha
      · exact sub b hb)
    rw [hL_len] at this
    simp at this
    omega
theorem IsOrd.hO {n : Nat} {o : List Int} (h : IsOrd n o) {k : Nat} (hk : k < n) : hO o k = (o.idxOf (k : Int) : Int) := by
  unfold Go.Proofs.YtdcpkgedaflnmaaGreatDoor.Fo.hO
  rw [if_pos (h.mem hk)]
theorem IsOrd.inj {n : Nat} {o : List Int} (h : IsOrd n o) (i k : Nat) (hi : i < n) (hk : k < n) (e : Go.Proofs.YtdcpkgedaflnmaaGreatDoor.Fo.hO o i = Go.Proofs.YtdcpkgedaflnmaaGreatDoor.Fo.hO o k) : i = k := by
  rw [h.hO hi, h.hO hk] at e
  have e : o.idxOf (i : Int) = o.idxOf (k : Int) := by omega
  have h1 := List.getElem_idxOf (List.idxOf_lt_length_of_mem (h.mem hi))
  have h2 := List.getElem_idxOf (List.idxOf_lt_length_of_mem (h.mem hk))
  have : o[o.idxOf (i : Int)]? = o[o.idxOf (k : Int)]? := by rw [e]
  rw [List.getElem?_eq_getElem (List.idxOf_lt_length_of_mem (h.mem hi)), List.getElem?_eq_getElem (List.idxOf_lt_length_of_mem (h.mem hk)), h1, h2] at this
  injection this with this
  omega
/-- heights as an order -/
theorem rank (n : Nat) (h : Nat → Int) (hi : ∀ i k, i < n → k < n → h i = h k → i = k) : ∃ o, IsOrd n o ∧ ∀ i k, i < n → k < n → (Go.Proofs.YtdcpkgedaflnmaaGreatDoor.Fo.hO o i < Go.Proofs.YtdcpkgedaflnmaaGreatDoor.Fo.hO o k ↔ h i < h k) := by
  let le : Int → Int → Bool := fun a b => decide (h a.toNat ≤ h b.toNat)
  let o := (hL n fun k => (k : Int)).mergeSort le
  have ho : IsOrd n o := List.mergeSort_perm _ _
  have hs : List.Pairwise (fun a b => le a b = true) o := List.pairwise_mergeSort (by
    intro a b c h1 h2
    simp only [le, decide_eq_true_eq] at *
    omega) (by
    intro a b
    simp only [le, Bool.or_eq_true, decide_eq_true_eq]
    omega) _
  have key : ∀ i k, i < n → k < n → o.idxOf (i : Int) < o.idxOf (k : Int) → h i < h k := by
    intro i k h1 h2 hlt
    have l1 := List.idxOf_lt_length_of_mem (ho.mem h1)
    have l2 := List.idxOf_lt_length_of_mem (ho.mem h2)
    have := (List.pairwise_iff_getElem.1 hs) _ _ l1 l2 hlt
    rw [List.getElem_idxOf l1, List.getElem_idxOf l2] at this
    simp only [le, decide_eq_true_eq, Int.toNat_natCast] at this
    have hne : h i ≠ h k := fun e => by have := hi i k h1 h2 e; subst this; omega
    omega
  refine ⟨o, ho, fun i k h1 h2 => ?_⟩
  rw [ho.hO h1, ho.hO h2]
  constructor
  · intro hlt; exact key i k h1 h2 (by omega)
  · intro hlt
    by_cases e : o.idxOf (i : Int) = o.idxOf (k : Int)
    · have : i = k := ho.inj i k h1 h2 (by rw [ho.hO h1, ho.hO h2, e])
      subst this; omega
    · by_cases g : o.idxOf (k : Int) < o.idxOf (i : Int)
      · have := key k i h2 h1 g; omega
      · omega
theorem val_rank {n : Nat} {p h g : Nat → Int} (hv : Fl.Val n p h) (e : ∀ i k, i < n → k < n → (g i < g k ↔ h i < h k)) : Fl.Val n p g := by
  have hm : ∀ a b c, a < n → b < n → c < n → (Fl.Mid (g a) (g b) (g c) ↔ Fl.Mid (h a) (h b) (h c)) := by
    intro a b c ha hb hc
    unfold Fl.Mid
    rw [e b a hb ha, e a c ha hc, e c a hc ha, e a b ha hb]
  refine ⟨fun i k h1 h2 hM => ?_, fun i k h1 h2 hne hp he => ?_, fun i k h1 h2 eq => ?_⟩
  · rw [hm k i (i + 1) h2 (by omega) h1]; exact hv.thru i k h1 h2 hM
  · rw [hm k i (i + 1) (by omega) (by omega) h1, hm (k + 1) i (i + 1) h2 (by omega) h1]; exact hv.pair i k h1 h2 hne hp he
  · refine hv.inj i k h1 h2 ?_
    have a1 := e i k h1 h2
    have a2 := e k i h2 h1
    rw [eq] at a1 a2
    simp at a1 a2
    omega
theorem foldL_iff {l : List Int} {f : List UInt8} {o : List Int} : o ∈ foldL l f ↔ IsOrd l.length o ∧ fitB l (hO o) = true ∧ crsL (hO o) (l.length - 1) = f := by
  unfold foldL isF
  rw [List.mem_filter, ← isOrd_iff, Bool.and_eq_true, decide_eq_true_eq]
theorem fmv_or {f : List UInt8} (h : fmv f = true) : ∀ c ∈ f, c = 118 ∨ c = 109 := fun c hcm => by have := (fmv_iff f).1 h c hcm; simp at this; exact this.symm
/-- a strip lies flat if it has a folding -/
theorem flat_iff {l : List Int} {f : List UInt8} (hc : chk l f = 0) : foldL l f ≠ [] ↔ Fl.Flat l.length (gI l) (fB f) := by
  obtain ⟨hm, hfl, hfv⟩ := chk_0 hc
  have hcr := fun h => cr_iff hfl (fmv_or hfv) h
  constructor
  · intro hne
    obtain ⟨o, ho⟩ := List.exists_mem_of_ne_nil _ hne
    obtain ⟨h1, h2, h3⟩ := foldL_iff.1 ho
    exact ⟨hO o, (val_iff h1.inj).1 h2, (hcr _).1 h3⟩
  · rintro ⟨h, hv, hcr2⟩
    obtain ⟨o, ho, e⟩ := rank l.length h hv.inj
    intro hnil
    have : o ∈ foldL l f := foldL_iff.2 ⟨ho, (val_iff ho.inj).2 (val_rank hv e), (hcr _).2 fun i hi => by
      rw [e i (i + 1) (by omega) hi]; exact hcr2 i hi⟩
    rw [hnil] at this
    cases this
end Go.Proofs.YtdcpkgedaflnmaaGreatDoor.Fo
