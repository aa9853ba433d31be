/-
  Runs of stores and appends under the by-value reading. Own work; over any program.
-/
import Derived.Test.YtnmpdegnpaggkaaFwB
set_option linter.unusedVariables false
set_option linter.unusedSimpArgs false
namespace Fw
open Go

def wset (w : World) (b : Nat) : Nat → List Value → World
  | _, [] => w
  | o, v :: vs => wset (w.setCell ⟨b, o, none⟩ v) b (o + 1) vs

theorem wset_size (b : Nat) (vs : List Value) : ∀ (o : Nat) (w : World), (wset w b o vs).heap.size = w.heap.size := by
  induction vs with
  | nil => intro o w; rfl
  | cons v vs ih => intro o w; simp [wset, ih]
theorem wset_frozen (b : Nat) (vs : List Value) : ∀ (o : Nat) (w : World) (a : Addr), (wset w b o vs).frozen? a = w.frozen? a := by
  induction vs with
  | nil => intro o w a; rfl
  | cons v vs ih => intro o w a; simp [wset, ih]
theorem wset_os (b : Nat) (vs : List Value) : ∀ (o : Nat) (w : World), (wset w b o vs).os = w.os ∧ (wset w b o vs).output = w.output := by
  induction vs with
  | nil => intro o w; exact ⟨rfl, rfl⟩
  | cons v vs ih => intro o w; exact ih _ _
theorem wset_out (b : Nat) (vs : List Value) : ∀ (o : Nat) (w : World) (b' x : Nat), (b' ≠ b ∨ x < o ∨ o + vs.length ≤ x) → (wset w b o vs).cell? ⟨b', x, none⟩ = w.cell? ⟨b', x, none⟩ := by
  induction vs with
  | nil => intro o w b' x _; rfl
  | cons v vs ih =>
    intro o w b' x h
    simp only [wset]
    rw [ih (o + 1) _ b' x (by simp only [List.length_cons] at h; omega)]
    refine World.cell?_setCell_other w _ _ _ ?_
    intro e
    injection e with e1 e2
    simp only [List.length_cons] at h
    omega
theorem wset_in (b : Nat) (vs : List Value) : ∀ (o : Nat) (w : World), (∀ j, j < vs.length → ∃ u, w.cell? ⟨b, o + j, none⟩ = some u) →
    ∀ (j : Nat) (v : Value), vs[j]? = some v → (wset w b o vs).cell? ⟨b, o + j, none⟩ = some v := by
  induction vs with
  | nil => intro o w _ j v h; simp at h
  | cons u vs ih =>
    intro o w hex j v h
    simp only [wset]
    cases j with
    | zero =>
      simp at h; subst h
      rw [wset_out b vs (o + 1) _ b (o + 0) (by omega)]
      obtain ⟨x, hx⟩ := hex 0 (by simp)
      exact World.cell?_setCell_same w _ _ hx
    | succ j =>
      have := ih (o + 1) (w.setCell ⟨b, o, none⟩ u) (fun j' hj' => by
        obtain ⟨x, hx⟩ := hex (j' + 1) (by simp; omega)
        refine ⟨x, ?_⟩
        rw [World.cell?_setCell_other w _ _ _ (by intro e; injection e with e1 e2; omega)]
        rw [show o + 1 + j' = o + (j' + 1) by omega]; exact hx) j v (by simpa using h)
      rw [show o + (j + 1) = o + 1 + j by omega]; exact this

theorem run_storeCells {P : Program} (b : Nat) (vs : List Value) : ∀ (o i : Nat) (w : World), (∀ j, j < vs.length → (∃ u, w.cell? ⟨b, o + i + j, none⟩ = some u) ∧ w.frozen? ⟨b, o + i + j, none⟩ = false) →
    (∀ v ∈ vs, v.oneCell' = true) → (storeCells ⟨b, o, none⟩ vs i).run P w = .ok () (wset w b (o + i) vs) := by
  induction vs with
  | nil => intro o i w _ _; rfl
  | cons v vs ih =>
    intro o i w h h1
    obtain ⟨⟨u, hu⟩, hf⟩ := h 0 (by simp)
    simp only [Nat.add_zero] at hu hf
    simp only [storeCells, Sem.run_bind, Addr.add_lit]
    rw [run_store P w _ v _ (h1 v (by simp))]
    simp only [hu, hf, Result.andThen_ok, Bool.false_eq_true, if_false]
    rw [ih o (i + 1) _ (fun j hj => ?_) (fun v hv => h1 v (by simp [hv]))]
    · rfl
    · obtain ⟨⟨u', hu'⟩, hf'⟩ := h (j + 1) (by simp; omega)
      rw [show o + (i + 1) + j = o + i + (j + 1) by omega]
      refine ⟨⟨u', ?_⟩, by simpa using hf'⟩
      rw [World.cell?_setCell_other w _ _ _ (by intro e; injection e with e1 e2; omega)]; exact hu'

theorem Rep.oneCell {c : CM} {v : Value} {x : AV} (h : Rep c v x) (hx : x.leaf = true) : v.oneCell' = true := by
  cases h <;> first | rfl | (simp [AV.leaf] at hx)

theorem RepL.oneCell {c : CM} {vs : List Value} {xs : List AV} (h : RepL c vs xs) (hx : ∀ (j : Nat) (y : AV), xs[j]? = some y → y.leaf = true) : ∀ v ∈ vs, v.oneCell' = true := by
  intro v hv
  obtain ⟨j, hj⟩ := List.mem_iff_getElem?.1 hv
  have hl : j < xs.length := by
    rw [← h.1]
    rcases Nat.lt_or_ge j vs.length with h' | h'
    · exact h'
    · simp [List.getElem?_eq_none h'] at hj
  exact (h.2 j v xs[j] hj (by simp [hl])).oneCell (hx j _ (by simp [hl]))

def setL : List AV → Nat → List AV → List AV
  | ys, _, [] => ys
  | ys, o, x :: xs => setL (ys.set o x) (o + 1) xs

theorem setL_length : ∀ (xs ys : List AV) (o : Nat), (setL ys o xs).length = ys.length
  | [], _, _ => rfl
  | x :: xs, ys, o => by simp [setL, setL_length xs]

theorem Fr.of_store {c : CM} {w w' : World} (hos : w'.os = w.os) (hout : w'.output = w.output) (hsz : w'.heap.size = w.heap.size) (hfz : ∀ a, w'.frozen? a = w.frozen? a)
    (hb : ∀ b, b < w.heap.size → FrB c b w.heap[b]? w'.heap[b]?) : Fr c w c w' := ⟨.refl c, hos, hout, by omega, hb, fun _ _ _ h => h, hfz⟩

/-- a store of several cells into a mutable block -/
theorem Inv.setBlkL {c : CM} (i : Nat) : ∀ (xs : List AV) (vs : List Value) (s : HS) (w : World) (ys : List AV) (o : Nat), Inv c s w → s.heap i = some ys → RepL c vs xs → (∀ (j : Nat) (y : AV), xs[j]? = some y → y.leaf = true) →
    o + xs.length ≤ ys.length → ∃ s', s' = { s with heap := fun k => if k = i then some (setL ys o xs) else s.heap k } ∧
      Inv c s' (wset w (c.loc i).1 ((c.loc i).2 + o) vs) ∧ Fr c w c (wset w (c.loc i).1 ((c.loc i).2 + o) vs) := by
  intro xs
  induction xs with
  | nil =>
    intro vs s w ys o h hi hr _ _
    rw [hr.nil_inv]
    refine ⟨_, rfl, ?_, Fr.refl c _⟩
    have : ({ s with heap := fun k => if k = i then some (setL ys o []) else s.heap k } : HS) = s := by
      obtain ⟨hp, a, b, d⟩ := s
      congr 1
      funext k
      simp only [setL]
      split
      · rename_i e; rw [e]; exact hi.symm
      · rfl
    rw [this]; exact h
  | cons x xs ih =>
    intro vs s w ys o h hi hr hlf hlen
    obtain ⟨v, vs', rfl, hv, hvs⟩ := hr.cons_inv
    simp only [List.length_cons] at hlen
    obtain ⟨h1, f1⟩ := h.setBlk hi (j := o) (by omega) hv (hlf 0 x rfl)
    obtain ⟨s', hs', h2, f2⟩ := ih vs' _ _ (ys.set o x) (o + 1) h1 (by simp) hvs (fun j y hy => hlf (j + 1) y (by simpa using hy)) (by simp; omega)
    refine ⟨_, rfl, ?_, ?_⟩
    · have e : ({ s with heap := fun k => if k = i then some (setL ys o (x :: xs)) else s.heap k } : HS) = s' := by
        rw [hs']
        congr 1
        funext k
        simp only [setL]
        split <;> rfl
      rw [e]
      exact h2
    · exact f1.trans f2

/-- an append into spare cells that a token owns -/
theorem Inv.appendIn {c : CM} {s : HS} {w : World} (h : Inv c s w) (b lo hi k : Nat) (hv : c.val k = true) (hreg : ∀ x, lo ≤ x → x < hi → c.cl b x = .tok k)
    (vs : List Value) (hlen : lo + vs.length ≤ hi) :
    ∃ c', Inv c' { s with nt := s.nt + 1, tok := fun t => if t = s.nt then true else if t = k then false else s.tok t } (wset w b lo vs) ∧ Fr c w c' (wset w b lo vs) ∧
      (∀ (j : Nat) (v : Value), vs[j]? = some v → c'.cl b (lo + j) = .imm v) ∧ (∀ x, lo + vs.length ≤ x → x < hi → c'.cl b x = .tok s.nt) ∧ c'.nt = s.nt + 1 ∧ c'.val s.nt = true := by
  have hknt : k < c.nt := h.vlt k hv
  let c' : CM := { c with cl := fun b' x => if b' = b ∧ lo ≤ x ∧ x < hi then (match vs[x - lo]? with | some v => .imm v | none => .tok s.nt) else c.cl b' x, nt := c.nt + 1, val := fun t => if t = s.nt then true else if t = k then false else c.val t }
  have hin : ∀ j, j < vs.length → (∃ u, w.cell? ⟨b, lo + j, none⟩ = some u) ∧ w.frozen? ⟨b, lo + j, none⟩ = false := fun j hj => h.toks b (lo + j) k (hreg _ (by omega) (by omega))
  have hcl_out : ∀ b' x, ¬ (b' = b ∧ lo ≤ x ∧ x < hi) → c'.cl b' x = c.cl b' x := fun b' x hn => by simp only [c', hn, if_false]
  have hcl_imm : ∀ (j : Nat) (v : Value), vs[j]? = some v → c'.cl b (lo + j) = .imm v := by
    intro j v hj
    have : j < vs.length := by
      rcases Nat.lt_or_ge j vs.length with h' | h'
      · exact h'
      · simp [List.getElem?_eq_none h'] at hj
    have hc : b = b ∧ lo ≤ lo + j ∧ lo + j < hi := ⟨rfl, by omega, by omega⟩
    simp only [c', hc, if_true, Nat.add_sub_cancel_left, hj]
    simp
  have hcl_tok : ∀ x, lo + vs.length ≤ x → x < hi → c'.cl b x = .tok s.nt := by
    intro x h1 h2
    have hc : b = b ∧ lo ≤ x ∧ x < hi := ⟨rfl, by omega, h2⟩
    have : vs[x - lo]? = none := List.getElem?_eq_none (by omega)
    simp only [c', this]
    simp [hc]
  have hle : c.le c' := by
    refine ⟨?_, Nat.le_refl _, fun _ _ => rfl, by simp [c'], ?_, ?_⟩
    · intro b' o v he
      rw [hcl_out]
      · exact he
      · rintro ⟨rfl, h1, h2⟩
        rw [hreg o h1 h2] at he; cases he
    · intro t ht he
      simp only [c'] at he
      split at he
      · rename_i e; rw [h.nt] at e; omega
      · split at he
        · cases he
        · exact he
    · intro b' o t ht he hv'
      have htk : t ≠ k := by
        rintro rfl
        simp only [c'] at hv'
        split at hv'
        · rename_i e; rw [h.nt] at e; omega
        · simp at hv'
      rw [hcl_out]
      · exact he
      · rintro ⟨rfl, h1, h2⟩
        rw [hreg o h1 h2] at he
        injection he with he
        exact htk he.symm
  refine ⟨c', ⟨h.nh, by simp [c', h.nt], ?_, ?_, ?_, ?_, ?_, ?_⟩, ⟨hle, (wset_os b vs lo w).1, (wset_os b vs lo w).2, by rw [wset_size]; exact Nat.le_refl _, ?_, ?_, fun a => wset_frozen b vs lo w a⟩, hcl_imm, hcl_tok, by simp [c', h.nt], by simp [c']⟩
  · intro t
    simp only [c', h.tokv]
  · intro t ht
    simp only [c'] at ht ⊢
    split at ht
    · rename_i e; rw [e, h.nt]; omega
    · split at ht
      · cases ht
      · have := h.vlt t ht; omega
  · intro b' o v he
    by_cases hc : b' = b ∧ lo ≤ o ∧ o < hi
    · obtain ⟨rfl, h1, h2⟩ := hc
      rcases Nat.lt_or_ge o (lo + vs.length) with h3 | h3
      · have h4 : vs[o - lo]? = some vs[o - lo] := List.getElem?_eq_getElem _
        have h5 := hcl_imm (o - lo) _ h4
        rw [show lo + (o - lo) = o by omega] at h5
        rw [h5] at he
        injection he with he
        have := wset_in b' vs lo w (fun j hj => (hin j hj).1) (o - lo) _ h4
        rw [show lo + (o - lo) = o by omega] at this
        rw [this, he]
      · rw [hcl_tok o h3 h2] at he; cases he
    · rw [hcl_out b' o hc] at he
      rw [wset_out b vs lo w b' o (by
        by_cases hb : b' = b
        · right
          rcases Nat.lt_or_ge o lo with h1 | h1
          · exact .inl h1
          · right
            have : ¬ o < hi := fun h2 => hc ⟨hb, h1, h2⟩
            omega
        · exact .inl hb)]
      exact h.imm b' o v he
  · intro b' o t he
    rw [wset_frozen]
    by_cases hc : b' = b ∧ lo ≤ o ∧ o < hi
    · obtain ⟨rfl, h1, h2⟩ := hc
      have h0 := h.toks b' o k (hreg o h1 h2)
      refine ⟨?_, h0.2⟩
      rcases Nat.lt_or_ge o (lo + vs.length) with h3 | h3
      · have h4 : vs[o - lo]? = some vs[o - lo] := List.getElem?_eq_getElem _
        have := wset_in b' vs lo w (fun j hj => (hin j hj).1) (o - lo) _ h4
        rw [show lo + (o - lo) = o by omega] at this
        exact ⟨_, this⟩
      · rw [wset_out b' vs lo w b' o (.inr (.inr h3))]; exact h0.1
    · rw [hcl_out b' o hc] at he
      rw [wset_out b vs lo w b' o (by
        by_cases hb : b' = b
        · right
          rcases Nat.lt_or_ge o lo with h1 | h1
          · exact .inl h1
          · right
            have : ¬ o < hi := fun h2 => hc ⟨hb, h1, h2⟩
            omega
        · exact .inl hb)]
      exact h.toks b' o t he
  · intro i ys hi'
    obtain ⟨hlt, hall⟩ := h.heap i ys hi'
    refine ⟨hlt, fun j y hy => ?_⟩
    rw [show c'.loc = c.loc from rfl]
    obtain ⟨h0, h1, h2, v, h3, h4⟩ := hall j y hy
    have hc : ¬ ((c.loc i).1 = b ∧ lo ≤ (c.loc i).2 + j ∧ (c.loc i).2 + j < hi) := by
      rintro ⟨e, e1, e2⟩
      rw [e, hreg _ e1 e2] at h1; cases h1
    refine ⟨h0, by rw [hcl_out _ _ hc]; exact h1, by rw [wset_frozen]; exact h2, v, ?_, h4.mono hle⟩
    rw [wset_out b vs lo w _ _ (by
        by_cases hb : (c.loc i).1 = b
        · right
          rcases Nat.lt_or_ge ((c.loc i).2 + j) lo with h1 | h1
          · exact .inl h1
          · right
            have : ¬ (c.loc i).2 + j < hi := fun h2 => hc ⟨hb, h1, h2⟩
            omega
        · exact .inl hb)]
    exact h3
  · intro b' o hb
    rw [wset_size] at hb
    have hno := h.dom b' o hb
    rw [hcl_out]
    · exact hno
    · rintro ⟨rfl, h1, h2⟩
      rw [hreg o h1 h2] at hno; cases hno
  · have key : ∀ (vs : List Value) (o : Nat) (w : World), lo ≤ o → o + vs.length ≤ hi → ∀ b', FrB c b' w.heap[b']? (wset w b o vs).heap[b']? := by
      intro vs
      induction vs with
      | nil => intro o w _ _ b'; exact .refl _ _ _
      | cons v vs ih =>
        intro o w ho1 ho2 b'
        simp only [List.length_cons] at ho2
        have h2 := ih (o + 1) (w.setCell ⟨b, o, none⟩ v) (by omega) (by omega) b'
        have h1 : FrB c b' w.heap[b']? (w.setCell ⟨b, o, none⟩ v).heap[b']? := by
          have hblk : (w.setCell ⟨b, o, none⟩ v).heap[b']? = if b = b' then (w.heap[b']?).map (fun
            | .cells cc elem frozen => .cells (cc.setIfInBounds o v) elem frozen
            | o => o) else w.heap[b']? := by
            simp only [World.setCell, Array.getElem?_modify]
            rfl
          rw [hblk]
          split
          · rename_i e
            subst e
            cases hh : w.heap[b]? with
            | none => simp [FrB]
            | some x =>
              cases x with
              | cells cs e fr =>
                refine ⟨_, rfl, by simp, fun x hx => ?_⟩
                rw [Array.getElem?_setIfInBounds]
                split
                · rename_i he
                  subst he
                  rw [hreg o ho1 (by omega)] at hx
                  simp [Cl.writable] at hx
                · rfl
              | _ => simp [FrB]
          · exact .refl _ _ _
        simp only [wset]
        generalize w.heap[b']? = x at h1 ⊢
        generalize (w.setCell ⟨b, o, none⟩ v).heap[b']? = y at h1 h2
        cases x with
        | none => simp only [FrB] at h1 ⊢; rw [h1] at h2; simpa only [FrB] using h2
        | some x =>
          cases x with
          | cells cs e fr =>
            simp only [FrB] at h1 ⊢
            obtain ⟨cs1, e1, e2, e3⟩ := h1
            rw [e1] at h2
            simp only [FrB] at h2
            obtain ⟨cs2, f1, f2, f3⟩ := h2
            exact ⟨cs2, f1, f2.trans e2, fun o ho => (f3 o ho).trans (e3 o ho)⟩
          | _ => simp only [FrB] at h1 ⊢; rw [h1] at h2; simpa only [FrB] using h2
    intro b' _
    exact key vs lo w (Nat.le_refl _) hlen b'
  · intro b' o hb hno
    rw [hcl_out]
    · exact hno
    · rintro ⟨rfl, h1, h2⟩
      rw [hreg o h1 h2] at hno; cases hno
end Fw
