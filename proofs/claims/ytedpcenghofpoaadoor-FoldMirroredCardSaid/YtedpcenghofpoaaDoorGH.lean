/-
  Mirrored strips have as many foldings: the plain law. Own work.
-/
import Derived.Test.YtedpcenghofpoaaDoorGC
set_option linter.unusedVariables false
set_option linter.unusedSimpArgs false
namespace Fl
theorem Mid.comm {x a b : Int} (h : Mid x a b) : Mid x b a := by unfold Mid at *; omega
theorem Val.flip {n : Nat} {p h : Nat → Int} (hv : Val n p h) : Val n (fun j => p (n - j)) (fun k => h (n - 1 - k)) := by
  refine ⟨fun i k hi hk hM hN => ?_, fun i k hi hk hne hpar he => ?_, fun i k hi hk e => ?_⟩
  · have a1 : n - (i + 1) = (n - 2 - i) + 1 := by omega
    have a2 : n - k = (n - 1 - k) + 1 := by omega
    have a3 : n - (k + 1) = n - 1 - k := by omega
    have a4 : n - 1 - i = (n - 2 - i) + 1 := by omega
    have a5 : n - 1 - (i + 1) = n - 2 - i := by omega
    simp only [a1, a2, a3, a4, a5] at hM hN
    exact hv.thru (n - 2 - i) (n - 1 - k) (by omega) (by omega) hM.comm hN.comm
  · have a1 : n - (i + 1) = (n - 2 - i) + 1 := by omega
    have a2 : n - (k + 1) = (n - 2 - k) + 1 := by omega
    have a4 : n - 1 - i = (n - 2 - i) + 1 := by omega
    have a5 : n - 1 - (i + 1) = n - 2 - i := by omega
    have a6 : n - 1 - k = (n - 2 - k) + 1 := by omega
    have a7 : n - 1 - (k + 1) = n - 2 - k := by omega
    simp only [a1, a2, a4, a5, a6, a7] at he ⊢
    have := hv.pair (n - 2 - i) (n - 2 - k) (by omega) (by omega) (by omega) (by omega) he
    exact ⟨fun x => (this.2 x.comm).comm, fun x => (this.1 x.comm).comm⟩
  · have := hv.inj (n - 1 - i) (n - 1 - k) (by omega) (by omega) e
    omega
theorem Val.scale {n : Nat} {p h : Nat → Int} {c : Int} (hc : 1 ≤ c) (hv : Val n p h) : Val n (fun j => c * p j) h := by
  have lt : ∀ a b : Int, c * a < c * b ↔ a < b := fun a b => Int.mul_lt_mul_left (by omega)
  have mi : ∀ x a b : Int, Mid (c * x) (c * a) (c * b) ↔ Mid x a b := fun x a b => by unfold Mid; simp only [lt]
  refine ⟨fun i k hi hk hM => hv.thru i k hi hk ((mi _ _ _).1 hM), fun i k hi hk hne hpar he => hv.pair i k hi hk hne hpar (Int.eq_of_mul_eq_mul_left (by omega) he), hv.inj⟩
theorem Val.unscale {n : Nat} {p h : Nat → Int} {c : Int} (hc : 1 ≤ c) (hv : Val n (fun j => c * p j) h) : Val n p h := by
  have lt : ∀ a b : Int, c * a < c * b ↔ a < b := fun a b => Int.mul_lt_mul_left (by omega)
  have mi : ∀ x a b : Int, Mid (c * x) (c * a) (c * b) ↔ Mid x a b := fun x a b => by unfold Mid; simp only [lt]
  refine ⟨fun i k hi hk hM => hv.thru i k hi hk ((mi _ _ _).2 hM), fun i k hi hk hne hpar he => hv.pair i k hi hk hne hpar (by simp only [he]), hv.inj⟩
end Fl
namespace Go.Proofs.YtedpcenghofpoaaDoor
open Go Fw

theorem count_bij {α : Type} [DecidableEq α] {X : List α} (hd : X.Nodup) {φ : α → α} (h1 : ∀ a ∈ X, φ a ∈ X) (h2 : ∀ a ∈ X, φ (φ a) = a) {P Q : α → Bool} (h : ∀ a ∈ X, P a = Q (φ a)) : (X.filter P).length = (X.filter Q).length := by
  have hn : (X.map φ).Nodup := by
    rw [List.Nodup, List.pairwise_map]
    refine List.Pairwise.imp_of_mem ?_ hd
    intro a b ha hb hab e
    exact hab (by rw [← h2 a ha, ← h2 b hb, e])
  have hp : (X.map φ).Perm X := (List.perm_ext_iff_of_nodup hn hd).2 fun a => by
    rw [List.mem_map]
    constructor
    · rintro ⟨b, hb, rfl⟩; exact h1 b hb
    · intro ha; exact ⟨φ a, h1 a ha, h2 a ha⟩
  have e1 := (hp.filter Q).length_eq
  rw [← e1, List.filter_map, List.length_map]
  congr 1
  exact List.filter_congr fun a ha => h a ha
theorem rev_ord {n : Nat} {o : List Int} (h : IsOrd n o) : IsOrd n o.reverse := (List.reverse_perm o).trans h
theorem rev_hO {n : Nat} {o : List Int} (h : IsOrd n o) {k : Nat} (hk : k < n) : hO o.reverse k = (n : Int) - 1 - hO o k := by
  rw [(rev_ord h).hO hk, h.hO hk]
  have hl := h.len
  have l1 := List.idxOf_lt_length_of_mem (h.mem hk)
  have l2 := List.idxOf_lt_length_of_mem ((rev_ord h).mem hk)
  have e1 := List.getElem_idxOf l2
  rw [List.getElem_reverse] at e1
  have e2 := List.getElem_idxOf l1
  rw [List.length_reverse] at l2
  have := (List.getElem_inj h.nd).1 (e1.trans e2.symm)
  omega
/-- segments counted from the other end -/
def mir (n : Nat) (o : List Int) : List Int := o.map fun a => (n : Int) - 1 - a
theorem mir_mir (n : Nat) (o : List Int) : mir n (mir n o) = o := by
  unfold mir
  rw [List.map_map]
  conv => rhs; rw [← List.map_id o]
  apply List.map_congr_left
  intro a _
  show (n : Int) - 1 - ((n : Int) - 1 - a) = a
  omega
theorem mir_ord {n : Nat} {o : List Int} (h : IsOrd n o) : IsOrd n (mir n o) := by
  rw [isOrd_iff, mem_perms]
  refine ⟨by rw [mir, List.length_map, h.len], fun a ha => ?_, ?_⟩
  · obtain ⟨b, hb, rfl⟩ := List.mem_map.1 ha
    have := h.rng b hb
    omega
  · rw [mir, List.Nodup, List.pairwise_map]
    exact List.Pairwise.imp (fun hab e => hab (by omega)) h.nd
theorem mir_hO {n : Nat} {o : List Int} (h : IsOrd n o) {k : Nat} (hk : k < n) : hO (mir n o) k = hO o (n - 1 - k) := by
  rw [(mir_ord h).hO hk, h.hO (by omega)]
  have l1 := List.idxOf_lt_length_of_mem (h.mem (show n - 1 - k < n by omega))
  have l2 := List.idxOf_lt_length_of_mem ((mir_ord h).mem hk)
  have e2 := List.getElem_idxOf l1
  have e1 := List.getElem_idxOf l2
  unfold mir at e1 l2 ⊢
  rw [List.getElem_map] at e1
  rw [List.length_map] at l2
  have : (n : Int) - 1 - (k : Int) = ((n - 1 - k : Nat) : Int) := by omega
  have e3 : o[List.idxOf (k : Int) (o.map fun a => (n : Int) - 1 - a)] = ((n - 1 - k : Nat) : Int) := by omega
  have := (List.getElem_inj h.nd).1 (e3.trans e2.symm)
  omega
/-- fits and creases as the theory has them, for orders -/
theorem isF_iff {l : List Int} {f : List UInt8} {o : List Int} (hc : chk l f = 0) (h : IsOrd l.length o) : isF l f o = true ↔ Fl.Val l.length (pn l) (hO o) ∧ Fl.Cr l.length (hO o) (fB f) := by
  obtain ⟨hm, hfl, hfv⟩ := chk_0 hc
  unfold isF
  rw [Bool.and_eq_true, decide_eq_true_eq, val_iff h.inj, cr_iff hfl (fmv_or hfv)]
theorem val_mono {n : Nat} {p h g : Nat → Int} {c : Int} (hv : Fl.Val n p h) (e : ∀ k, k < n → g k = c - h k) : Fl.Val n p g := by
  refine val_rank (h := fun k => - h k) hv.neg_h fun i k hi hk => ?_
  rw [e i hi, e k hk]
  show c - h i < c - h k ↔ -h i < -h k
  omega
/-- the other creases -/
def flp (f : List UInt8) : List UInt8 := f.map fun c => if c = 109 then 118 else 109
theorem flp_fB {f : List UInt8} (hv : fmv f = true) {i : Nat} (hi : i < f.length) : fB (flp f) i = !fB f i := by
  unfold fB flp
  rw [gF_of (by rw [List.length_map]; exact hi), gF_of hi, List.getElem_map]
  rcases fmv_or hv f[i] (List.getElem_mem _) with h | h <;> rw [h] <;> decide
theorem flp_chk {l : List Int} {f : List UInt8} (hc : chk l f = 0) : chk l (flp f) = 0 := by
  obtain ⟨hm, hfl, hfv⟩ := chk_0 hc
  refine chk_of hm (by rw [flp, List.length_map]; exact hfl) ?_
  unfold fmv flp
  rw [List.all_eq_true]
  intro c hcm
  obtain ⟨a, _, rfl⟩ := List.mem_map.1 hcm
  split <;> rfl
theorem cr_neg {n : Nat} {h g : Nat → Int} {f f' : Nat → Bool} {c : Int} (hi : ∀ i k, i < n → k < n → h i = h k → i = k) (e : ∀ k, k < n → g k = c - h k) (hf : ∀ i, i + 1 < n → f' i = !f i) (hc : Fl.Cr n h f) : Fl.Cr n g f' := by
  intro i hin
  have h1 := hc i hin
  have hne : h i ≠ h (i + 1) := fun e => by have := hi i (i + 1) (by omega) hin e; omega
  rw [hf i hin, e i (by omega), e (i + 1) hin, Bool.not_eq_true', ← Bool.not_eq_true, h1]
  by_cases a : h i < h (i + 1) <;> by_cases b : i % 2 = 0 <;> simp [a, b] <;> omega
theorem cnt_flp {l : List Int} {f : List UInt8} (hc : chk l f = 0) : cnt l (flp f) = cnt l f := by
  obtain ⟨hm, hfl, hfv⟩ := chk_0 hc
  have hc2 := flp_chk hc
  have key : ∀ {f1 f2 : List UInt8}, chk l f1 = 0 → chk l f2 = 0 → (∀ i, i + 1 < l.length → fB f2 i = !fB f1 i) → ∀ o, IsOrd l.length o → isF l f1 o = true → isF l f2 o.reverse = true := by
    intro f1 f2 g1 g2 hb o ho hF
    obtain ⟨h1, h2⟩ := (isF_iff g1 ho).1 hF
    exact (isF_iff g2 (rev_ord ho)).2 ⟨val_mono h1 fun k hk => rev_hO ho hk, cr_neg ho.inj (fun k hk => rev_hO ho hk) hb h2⟩
  unfold cnt foldL
  refine count_bij (perms_nd _) (φ := List.reverse) (fun a ha => isOrd_iff.1 (rev_ord (isOrd_iff.2 ha))) (fun a _ => List.reverse_reverse a) fun o ho => ?_
  have ho := isOrd_iff.2 ho
  rw [Bool.eq_iff_iff]
  constructor
  · exact key hc2 hc (fun i hi => by rw [flp_fB hfv (by omega), Bool.not_not]) o ho
  · intro h
    have := key hc hc2 (fun i hi => flp_fB hfv (by omega)) _ (rev_ord ho) h
    rwa [List.reverse_reverse] at this
/-- longer throughout -/
def mulL (c : Int) (l : List Int) : List Int := l.map fun a => c * a
theorem mulL_len (c : Int) (l : List Int) : (mulL c l).length = l.length := List.length_map _
theorem mulL_get {c : Int} {l : List Int} {i : Nat} (h : i < l.length) : gI (mulL c l) i = c * gI l i := by
  rw [gI_of (by rw [mulL_len]; exact h), gI_of h]; simp [mulL]
theorem pn_mul (c : Int) (l : List Int) : ∀ j, j ≤ l.length → pn (mulL c l) j = c * pn l j
  | 0, _ => by rw [pn_0, pn_0, Int.mul_zero]
  | j + 1, h => by
    rw [pn_s, pn_s, pn_mul c l j (by omega), mulL_get (by omega)]
    split
    · rw [Int.mul_add]
    · rw [Int.mul_sub]
theorem mul_chk {l : List Int} {f : List UInt8} (hc : chk l f = 0) {c : Int} (h1 : 1 ≤ c) (h9 : c ≤ 9) (h5 : ∀ a ∈ l, 1 ≤ a ∧ a ≤ 5) : chk (mulL c l) f = 0 := by
  obtain ⟨hm, hfl, hfv⟩ := chk_0 hc
  obtain ⟨m1, m2, m3, m4⟩ := meas_0 hm
  have hb : ∀ a, 1 ≤ a → a ≤ 5 → 1 ≤ c * a ∧ c * a ≤ 45 := fun a g1 g5 => by
    have q1 : 1 * 1 ≤ c * a := Int.mul_le_mul h1 g1 (by omega) (by omega)
    have q2 : c * a ≤ 9 * 5 := Int.mul_le_mul h9 g5 (by omega) (by omega)
    omega
  have hs : ∀ l : List Int, (∀ a ∈ l, 1 ≤ a ∧ a ≤ 5) → (mulL c l).sum ≤ 45 * l.length := by
    intro l
    induction l with
    | nil => simp [mulL]
    | cons a l ih =>
      intro h
      have := ih fun b hb => h b (by simp [hb])
      have h2 := h a (by simp)
      have := hb a h2.1 h2.2
      have e : mulL c (a :: l) = c * a :: mulL c l := rfl
      rw [e, List.sum_cons, List.length_cons]; omega
  refine chk_of (meas_of (by rw [mulL_len]; omega) (by rw [mulL_len]; omega) (fun a ha => ?_) ?_) (by rw [mulL_len]; exact hfl) hfv
  · obtain ⟨b, hbm, rfl⟩ := List.mem_map.1 ha
    have := h5 b hbm
    have := hb b this.1 this.2
    omega
  · have := hs l h5
    omega
theorem fit_mul {l : List Int} {c : Int} (hc : 1 ≤ c) {h : Nat → Int} (hi : ∀ i k, i < l.length → k < l.length → h i = h k → i = k) : fitB (mulL c l) h = fitB l h := by
  rw [Bool.eq_iff_iff, val_iff (by rw [mulL_len]; exact hi), val_iff hi, mulL_len]
  constructor
  · intro hv
    exact (hv.cong (q := fun j => c * pn l j) (fun j hj => (pn_mul c l j hj).symm) fun _ _ => rfl).unscale hc
  · intro hv
    exact (hv.scale hc).cong (fun j hj => pn_mul c l j hj) fun _ _ => rfl
theorem cnt_mul {l : List Int} {f : List UInt8} {c : Int} (hc : 1 ≤ c) : cnt (mulL c l) f = cnt l f := by
  unfold cnt foldL
  rw [mulL_len]
  congr 1
  refine List.filter_congr fun o ho => ?_
  unfold isF
  rw [mulL_len, fit_mul hc (isOrd_iff.2 ho).inj]
/-- from the other end -/
theorem rev_get {l : List Int} {i : Nat} (h : i < l.length) : gI l.reverse i = gI l (l.length - 1 - i) := by
  rw [gI_of (by rw [List.length_reverse]; exact h), gI_of (by omega), List.getElem_reverse]
theorem rev_getF {l : List UInt8} {i : Nat} (h : i < l.length) : gF l.reverse i = gF l (l.length - 1 - i) := by
  rw [gF_of (by rw [List.length_reverse]; exact h), gF_of (by omega), List.getElem_reverse]
theorem pn_rev (l : List Int) : ∀ j, j ≤ l.length → pn l.reverse j = if l.length % 2 = 0 then pn l (l.length - j) - pn l l.length else pn l l.length - pn l (l.length - j)
  | 0, _ => by rw [pn_0, Nat.sub_zero]; split <;> omega
  | j + 1, h => by
    rw [pn_s, pn_rev l j (by omega), rev_get (by omega)]
    have e1 : l.length - j = (l.length - 1 - j) + 1 := by omega
    have e2 : l.length - (j + 1) = l.length - 1 - j := by omega
    have hp := pn_s l (l.length - 1 - j)
    rw [← e1] at hp
    rw [e2, hp]
    by_cases h1 : l.length % 2 = 0 <;> by_cases h2 : j % 2 = 0
    · rw [if_pos h1, if_pos h1, if_pos h2, if_neg (by omega)]; omega
    · rw [if_pos h1, if_pos h1, if_neg h2, if_pos (by omega)]; omega
    · rw [if_neg h1, if_neg h1, if_pos h2, if_pos (by omega)]; omega
    · rw [if_neg h1, if_neg h1, if_neg h2, if_neg (by omega)]; omega
theorem sum_rev : ∀ l : List Int, l.reverse.sum = l.sum
  | [] => rfl
  | a :: l => by rw [List.reverse_cons, List.sum_append, sum_rev l]; simp; omega
theorem rev_chk {l : List Int} {f : List UInt8} (hc : chk l f = 0) : chk l.reverse f.reverse = 0 := by
  obtain ⟨hm, hfl, hfv⟩ := chk_0 hc
  obtain ⟨m1, m2, m3, m4⟩ := meas_0 hm
  refine chk_of (meas_of (by rw [List.length_reverse]; omega) (by rw [List.length_reverse]; omega) (fun a ha => m3 a (List.mem_reverse.1 ha)) ?_) (by rw [List.length_reverse, List.length_reverse]; exact hfl) ?_
  · rw [sum_rev]; exact m4
  · rw [fmv_iff] at hfv ⊢
    exact fun c hcm => hfv c (List.mem_reverse.1 hcm)
theorem val_rev {l : List Int} {h : Nat → Int} (hv : Fl.Val l.length (pn l) h) : Fl.Val l.length (pn l.reverse) (fun k => h (l.length - 1 - k)) := by
  by_cases h1 : l.length % 2 = 0
  · exact (hv.flip.move (q := fun j => - pn l l.length + pn l (l.length - j)) (- pn l l.length) (.inl fun j => rfl)).cong (fun j hj => by rw [pn_rev l j hj, if_pos h1]; omega) fun _ _ => rfl
  · exact (hv.flip.move (q := fun j => pn l l.length - pn l (l.length - j)) (pn l l.length) (.inr fun j => rfl)).cong (fun j hj => by rw [pn_rev l j hj, if_neg h1]) fun _ _ => rfl
/-- the order of the mirrored strip -/
def mio (n : Nat) (o : List Int) : List Int := if n % 2 = 0 then (mir n o).reverse else mir n o
theorem mir_rev (n : Nat) (o : List Int) : mir n o.reverse = (mir n o).reverse := by unfold mir; rw [List.map_reverse]
theorem mio_mio (n : Nat) (o : List Int) : mio n (mio n o) = o := by
  unfold mio
  split
  · rw [mir_rev, List.reverse_reverse, mir_mir]
  · exact mir_mir n o
theorem mio_ord {n : Nat} {o : List Int} (h : IsOrd n o) : IsOrd n (mio n o) := by
  unfold mio
  split
  · exact rev_ord (mir_ord h)
  · exact mir_ord h
theorem mio_val {l : List Int} {o : List Int} (h : IsOrd l.length o) (hv : Fl.Val l.length (pn l) (hO o)) : Fl.Val l.length (pn l.reverse) (hO (mio l.length o)) := by
  have h1 := val_rev hv
  unfold mio
  split
  · exact val_mono h1 fun k hk => by rw [rev_hO (mir_ord h) hk, mir_hO h hk]
  · exact h1.cong (fun _ _ => rfl) fun k hk => mir_hO h hk
theorem mio_cr {n : Nat} {o : List Int} {f f' : Nat → Bool} (h : IsOrd n o) (hf : ∀ i, i + 1 < n → f' i = f (n - 2 - i)) (hc : Fl.Cr n (hO o) f) : Fl.Cr n (hO (mio n o)) f' := by
  have up : ∀ i, i + 1 < n → (hO (mir n o) i < hO (mir n o) (i + 1) ↔ ¬ hO o (n - 2 - i) < hO o (n - 2 - i + 1)) := by
    intro i hi
    rw [mir_hO h (by omega), mir_hO h hi]
    have e1 : n - 1 - i = n - 2 - i + 1 := by omega
    have e2 : n - 1 - (i + 1) = n - 2 - i := by omega
    rw [e1, e2]
    have hne : hO o (n - 2 - i) ≠ hO o (n - 2 - i + 1) := fun e => by have := h.inj _ _ (by omega) (by omega) e; omega
    omega
  intro i hi
  rw [hf i hi, hc (n - 2 - i) (by omega)]
  have u := up i hi
  unfold mio
  by_cases hp : n % 2 = 0
  · rw [if_pos hp, rev_hO (mir_ord h) (by omega), rev_hO (mir_ord h) hi]
    have hne : hO (mir n o) i ≠ hO (mir n o) (i + 1) := fun e => by have := (mir_ord h).inj _ _ (by omega) hi e; omega
    have e3 : (n : Int) - 1 - hO (mir n o) i < (n : Int) - 1 - hO (mir n o) (i + 1) ↔ ¬ hO (mir n o) i < hO (mir n o) (i + 1) := by omega
    have e4 : (n - 2 - i) % 2 = 0 ↔ i % 2 = 0 := by omega
    rw [e3, u, e4, Classical.not_not]
  · rw [if_neg hp, u]
    have e4 : (n - 2 - i) % 2 = 0 ↔ ¬ i % 2 = 0 := by omega
    rw [e4]
    by_cases a : hO o (n - 2 - i) < hO o (n - 2 - i + 1) <;> by_cases b : i % 2 = 0 <;> simp [a, b]
theorem cnt_rev {l : List Int} {f : List UInt8} (hc : chk l f = 0) : cnt l.reverse f.reverse = cnt l f := by
  obtain ⟨hm, hfl, hfv⟩ := chk_0 hc
  have hc2 := rev_chk hc
  have key : ∀ {l1 : List Int} {f1 : List UInt8}, chk l1 f1 = 0 → ∀ o, IsOrd l1.length o → isF l1 f1 o = true → isF l1.reverse f1.reverse (mio l1.length o) = true := by
    intro l1 f1 g1 o ho hF
    obtain ⟨_, q2, _⟩ := chk_0 g1
    obtain ⟨h1, h2⟩ := (isF_iff g1 ho).1 hF
    have hl : l1.reverse.length = l1.length := List.length_reverse
    refine (isF_iff (rev_chk g1) (by rw [hl]; exact mio_ord ho)).2 ⟨by rw [hl]; exact mio_val ho h1, ?_⟩
    rw [hl]
    refine mio_cr ho (fun i hi => ?_) h2
    unfold fB
    rw [rev_getF (by omega)]
    congr 2
    congr 1
    omega
  unfold cnt foldL
  rw [List.length_reverse]
  refine (count_bij (perms_nd _) (φ := mio l.length) (fun a ha => isOrd_iff.1 (mio_ord (isOrd_iff.2 ha))) (fun a _ => mio_mio _ a) fun o ho => ?_).symm
  have ho := isOrd_iff.2 ho
  rw [Bool.eq_iff_iff]
  constructor
  · exact key hc o ho
  · intro h
    have := key hc2 (mio l.length o) (by rw [List.length_reverse]; exact mio_ord ho) h
    rwa [List.reverse_reverse, List.reverse_reverse, List.length_reverse, mio_mio] at this
theorem flat_rev {l : List Int} : (flatL l.reverse).length = (flatL l).length := by
  have key : ∀ {l1 : List Int}, ∀ o, IsOrd l1.length o → fitB l1 (hO o) = true → fitB l1.reverse (hO (mio l1.length o)) = true := by
    intro l1 o ho hF
    have hl : l1.reverse.length = l1.length := List.length_reverse
    have := mio_val ho ((val_iff ho.inj).1 hF)
    refine (val_iff (by rw [hl]; exact (mio_ord ho).inj)).2 ?_
    rw [hl]; exact this
  unfold flatL
  rw [List.length_reverse]
  refine (count_bij (perms_nd _) (φ := mio l.length) (fun a ha => isOrd_iff.1 (mio_ord (isOrd_iff.2 ha))) (fun a _ => mio_mio _ a) fun o ho => ?_).symm
  have ho := isOrd_iff.2 ho
  rw [Bool.eq_iff_iff]
  constructor
  · exact key o ho
  · intro h
    have := key (mio l.length o) (by rw [List.length_reverse]; exact mio_ord ho) h
    rwa [List.reverse_reverse, List.length_reverse, mio_mio] at this
end Go.Proofs.YtedpcenghofpoaaDoor
