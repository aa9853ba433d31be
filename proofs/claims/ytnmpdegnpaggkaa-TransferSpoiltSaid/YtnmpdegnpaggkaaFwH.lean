/-
  Binary operations, conversions, literals: that each one's run reads as its abstract result. Own work; over any program.
-/
import Derived.Test.YtnmpdegnpaggkaaFwG
set_option linter.unusedVariables false
set_option linter.unusedSimpArgs false
namespace Fw
open Go

theorem Rep.int_inv {c : CM} {v : Value} {k : IntKind} {n : Int} (h : Rep c v (.int k n)) : v = .int k n := by cases h; rfl
theorem Rep.bool_inv {c : CM} {v : Value} {b : Bool} (h : Rep c v (.bool b)) : v = .bool b := by cases h; rfl

def nonInt : AV → Bool
  | .int _ _ => false
  | _ => true

theorem abin_cases {kd : Nat} {op : BinOp} {x y r : AV} (h : abin kd op x y = some r) :
    (∃ k a k' b, x = .int k a ∧ y = .int k' b ∧ aint op k a k' b = some r) ∨
    (∃ b, aeq kd x y = some b ∧ ((op = .eql ∧ r = .bool b) ∨ (op = .neq ∧ r = .bool (!b)))) := by
  unfold abin at h
  split at h
  · exact .inl ⟨_, _, _, _, rfl, rfl, h⟩
  · right
    split at h
    · cases hb : aeq kd x y with
      | none => simp [hb] at h
      | some b => simp [hb] at h; exact ⟨b, rfl, .inl ⟨rfl, h.symm⟩⟩
    · cases hb : aeq kd x y with
      | none => simp [hb] at h
      | some b => simp [hb] at h; exact ⟨b, rfl, .inr ⟨rfl, h.symm⟩⟩
    · cases h

theorem run_eq_of {P : Program} {op : BinOp} {t : TypeId} {v u : Value} {b : Bool} {r : AV} (w : World) (c : CM)
    (he : (Op.equal t v u).run P w = .ok b w) (hop : (op = .eql ∧ r = .bool b) ∨ (op = .neq ∧ r = .bool (!b)))
    (hb1 : binOp .eql t v u = (do Pure.pure (.bool (← Op.equal t v u)))) (hb2 : binOp .neq t v u = (do Pure.pure (.bool (!(← Op.equal t v u))))) :
    ∃ z, (binOp op t v u).run P w = .ok z w ∧ Rep c z r := by
  rcases hop with ⟨rfl, rfl⟩ | ⟨rfl, rfl⟩
  · exact ⟨_, by rw [hb1]; simp [he], .bool _⟩
  · exact ⟨_, by rw [hb2]; simp [he], .bool _⟩

theorem equal_nil {P : Program} {t : TypeId} {kd : Nat} (hk : kdOk P t kd = true) (hkd : 2 ≤ kd ∧ kd ≤ 5) {c : CM} {v u : Value} {p q : AV} (hp : Rep c v p) (hq : Rep c u q) {A B : Bool} (h1 : anil kd p = some A) (h2 : anil kd q = some B)
    (hAB : A = true ∨ B = true) (w : World) : (Op.equal t v u).run P w = .ok (A && B) w := by
  unfold Op.equal Op.maxDepth
  rw [show (10000 : Nat) = 9999 + 1 from rfl, Op.equalIn]
  have key : ∀ d, P.underlying t = some d → (underlying t).run P w = .ok d w := fun d hd => run_underlying hd w
  rcases anil_inv hp h1 with ⟨rfl, a1, n1, m1, rfl, ha⟩ | ⟨rfl, a1, rfl, ha⟩ | ⟨rfl, hv⟩ | ⟨rfl, hv⟩
  · rcases anil_inv hq h2 with ⟨_, a2, n2, m2, rfl, hb⟩ | ⟨hkk, _⟩ | ⟨hkk, _⟩ | ⟨hkk, _⟩ <;> (try (exact absurd hkk (by decide)))
    simp only [kdOk] at hk
    split at hk <;> (try (simp_all; done))
    rename_i hue
    simp only [Sem.run_bind, key _ hue, Result.andThen_ok]
    cases a1 <;> cases a2 <;> simp_all
    all_goals (subst ha; subst hb; rfl)
  · rcases anil_inv hq h2 with ⟨hkk, _⟩ | ⟨_, a2, rfl, hb⟩ | ⟨hkk, _⟩ | ⟨hkk, _⟩ <;> (try (exact absurd hkk (by decide)))
    simp only [kdOk] at hk
    split at hk <;> (try (simp_all; done))
    rename_i hue
    simp only [Sem.run_bind, key _ hue, Result.andThen_ok]
    cases a1 <;> cases a2 <;> simp_all
    all_goals (subst ha; subst hb; rfl)
  · rcases anil_inv hq h2 with ⟨hkk, _⟩ | ⟨hkk, _⟩ | ⟨_, hu⟩ | ⟨hkk, _⟩ <;> (try (exact absurd hkk (by decide)))
    simp only [kdOk] at hk
    split at hk <;> (try (simp_all; done))
    rename_i hue
    simp only [Sem.run_bind, key _ hue, Result.andThen_ok]
    rcases hv with ⟨rfl, rfl⟩ | ⟨⟨f1, g1, i1, rfl⟩, rfl⟩ <;> rcases hu with ⟨rfl, rfl⟩ | ⟨⟨f2, g2, i2, rfl⟩, rfl⟩ <;> simp_all
  · rcases anil_inv hq h2 with ⟨hkk, _⟩ | ⟨hkk, _⟩ | ⟨hkk, _⟩ | ⟨_, hu⟩ <;> (try (exact absurd hkk (by decide)))
    simp only [kdOk] at hk
    split at hk <;> (try (simp_all; done))
    rename_i hue
    simp only [Sem.run_bind, key _ hue, Result.andThen_ok]
    rcases hv with ⟨rfl, rfl⟩ | ⟨⟨f1, g1, rfl⟩, rfl⟩ <;> rcases hu with ⟨rfl, rfl⟩ | ⟨⟨f2, g2, rfl⟩, rfl⟩ <;> simp_all

theorem anil_kd {kd : Nat} {x : AV} {b : Bool} (h : anil kd x = some b) : 2 ≤ kd ∧ kd ≤ 5 := by
  cases x <;> simp only [anil] at h <;> (try (cases h; done)) <;> split at h <;> (try (cases h; done)) <;> omega

theorem sound_bin {P : Program} {t : TypeId} {kd : Nat} {op : BinOp} {xo yo : Operand} (hk : kd ≠ 0 → kdOk P t kd = true) (hg : kd = 6 → P.eqGuardType P.depth t = false)
    (h5 : kd = 5 → (∃ v, xo = .const v) ∨ (∃ v, yo = .const v))
    {c : CM} {s : HS} {w : World} (h : Inv c s w) {v u : Value} {p q x : AV} (hp : Rep c v p) (hq : Rep c u q) (hx : abin kd op p q = some x) :
    DoneS P c w (do eqGuard op t xo yo v u; binOp op t v u) x s := by
  rcases abin_cases hx with ⟨k, a, k', b, rfl, rfl, hi⟩ | ⟨b, hb, hop⟩
  · rw [hp.int_inv, hq.int_inv]
    obtain ⟨z, h1, h2⟩ := sound_aint (P := P) (t := t) hi w c
    exact .pure h (by rw [eqGuard_at_int]; simpa using h1) h2
  · unfold aeq at hb
    split at hb
    · -- bools
      cases hp <;> cases hq <;> simp only at hb <;> (try (cases hb; done))
      rename_i a1 a2
      injection hb with hb; subst hb
      have hu : P.underlying t = some .bool := by
        have := hk (by decide)
        simp only [kdOk] at this
        split at this <;> simp_all
      have he := run_equal_bool (P := P) w t a1 a2 hu
      obtain ⟨z, h1, h2⟩ := run_eq_of (P := P) (op := op) (t := t) (v := .bool a1) (u := .bool a2) (b := (a1 == a2)) (r := x) w c he (by rw [show (a1 == a2) = decide (a1 = a2) from by cases a1 <;> cases a2 <;> rfl]; exact hop) rfl rfl
      exact .pure h (by rw [eqGuard_at_bool]; simpa using h1) h2
    · -- arrays of two integers
      cases hp <;> cases hq <;> simp only at hb <;> (try (cases hb; done))
      rename_i vs xs hl hr lf us ys hl' hr' lf'
      split at hb <;> (try (cases hb; done))
      rename_i hn
      have hu := hk (by decide)
      simp only [kdOk] at hu
      cases hue : P.underlying t with
      | none => simp [hue] at hu
      | some d =>
      cases d with
      | array n e =>
        simp only [hue, Bool.and_eq_true, beq_iff_eq] at hu
        obtain ⟨hn2, hu⟩ := hu
        subst hn2
        split at hu <;> (try (simp_all; done))
        rename_i k0 hk0
        cases hinfo : P.info? e with
        | none => simp [hinfo] at hu
        | some i =>
          simp [hinfo] at hu
          have he := run_equal_array2 (c := c) hue hk0 hinfo hu ⟨hl, hr⟩ ⟨hl', hr'⟩ hb hn w
          obtain ⟨z, h1, h2⟩ := run_eq_of (P := P) (op := op) (t := t) (r := x) w c he hop rfl rfl
          refine .pure h ?_ h2
          have : (eqGuard op t xo yo (.agg vs.toArray) (.agg us.toArray)).run P w = .ok () w := by
            rcases hop with ⟨rfl, _⟩ | ⟨rfl, _⟩ <;> simp [eqGuard, hg rfl]
          simp only [Sem.run_bind, this, Result.andThen_ok]
          exact h1
      | _ => simp [hue] at hu
    · -- nils
      rename_i kd' hne1 hne6
      cases e1 : anil kd p with
      | none => simp [e1] at hb
      | some A =>
      cases e2 : anil kd q with
      | none => simp [e1, e2] at hb
      | some B =>
      have hkd := anil_kd e1
      have hAB : (A = true ∨ B = true) ∧ b = (A && B) := by
        simp only [e1, e2] at hb
        cases A <;> cases B <;> simp_all
      have he := equal_nil (P := P) (hk (by omega)) hkd hp hq e1 e2 hAB.1 w
      rw [← hAB.2] at he
      have hbo : binOp .eql t v u = (do Pure.pure (.bool (← Op.equal t v u))) ∧ binOp .neq t v u = (do Pure.pure (.bool (!(← Op.equal t v u)))) := by
        rcases anil_inv hp e1 with ⟨_, a1, n1, m1, rfl, ha⟩ | ⟨_, a1, rfl, ha⟩ | ⟨_, ⟨rfl, ha⟩ | ⟨⟨f1, g1, i1, rfl⟩, ha⟩⟩ | ⟨_, ⟨rfl, ha⟩ | ⟨⟨f1, g1, rfl⟩, ha⟩⟩ <;> exact ⟨by cases u <;> rfl, by cases u <;> rfl⟩
      obtain ⟨z, h1, h2⟩ := run_eq_of (P := P) (op := op) (t := t) (v := v) (u := u) (b := b) (r := x) w c he hop hbo.1 hbo.2
      have hgd : eqGuard op t xo yo v u = Pure.pure () := by
        rcases anil_inv hp e1 with ⟨_, a1, n1, m1, rfl, ha⟩ | ⟨_, a1, rfl, ha⟩ | ⟨_, ⟨rfl, ha⟩ | ⟨⟨f1, g1, i1, rfl⟩, ha⟩⟩ | ⟨h55, ⟨rfl, ha⟩ | ⟨⟨f1, g1, rfl⟩, ha⟩⟩
        · exact eqGuard_at_slice ..
        · exact eqGuard_at_pointer ..
        · exact eqGuard_at_nilFunc ..
        · exact eqGuard_at_func ..
        · rcases anil_inv hq e2 with ⟨hkk, _⟩ | ⟨hkk, _⟩ | ⟨hkk, _⟩ | ⟨_, ⟨rfl, _⟩ | ⟨⟨f2, g2, rfl⟩, _⟩⟩ <;> (try (exact absurd (h55.symm.trans hkk) (by decide)))
          · rcases h5 h55 with ⟨cv, rfl⟩ | ⟨cv, rfl⟩
            · exact eqGuard_nil_constL ..
            · exact eqGuard_nil_constR ..
          · exact eqGuard_nil_iface ..
        · exact eqGuard_at_iface ..
      exact .pure h (by rw [hgd]; simpa using h1) h2
end Fw
