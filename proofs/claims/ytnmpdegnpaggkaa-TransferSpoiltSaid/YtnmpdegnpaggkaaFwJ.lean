/-
  Contracts of calls under the by-value reading: a call that may use the caller's mutable memory, and a call that stands alone. Own work; over any program.
-/
import Derived.Test.YtnmpdegnpaggkaaFwI
set_option linter.unusedVariables false
set_option linter.unusedSimpArgs false
namespace Fw
open Go

inductive AEnd where
  | ret (x : AV)
  | panic (x : AV)

def callOk (P : Program) (f : FuncId) : Bool :=
  match P.funcs[f]? with
  | some fn => fn.name != "runtime.NumGoroutine" && fn.body.isSome
  | none => false
theorem run_callFunc {P : Program} {f : FuncId} (h : callOk P f = true) (args : Array Value) (w : World) : (callFunc f args).run P w = .ok (.enter f args) w := by
  unfold callOk at h
  split at h
  · rename_i fn hf
    simp only [Bool.and_eq_true, bne_iff_ne, ne_eq] at h
    obtain ⟨h1, h2⟩ := h
    have h2' : fn.body ≠ none := by intro e; rw [e] at h2; cases h2
    simp [callFunc, hf, h1, h2']
  · cases h

def EndRep (c : CM) : Ending → AEnd → Prop
  | .returned v, .ret x => Rep c v x
  | .panicked chain, .panic x => ∃ v, chain = [{ v := v, recovered := false }] ∧ Rep c v x
  | _, _ => False

structure FCall (P : Program) (f : FuncId) (args : List AV) (hs : HS) (R : AEnd → HS → Prop) : Prop where
  ok : callOk P f = true
  run : ∀ (c : CM) (w : World) (vs : List Value), Inv c hs w → RepL c vs args →
    Calls P f vs.toArray w fun e w' => ∃ ae hs' c', R ae hs' ∧ EndRep c' e ae ∧ Inv c' hs' w' ∧ Fr c w c' w'
theorem FCall.mono {P : Program} {f : FuncId} {args : List AV} {hs : HS} {R R' : AEnd → HS → Prop} (h : FCall P f args hs R) (hr : ∀ e s, R e s → R' e s) : FCall P f args hs R' :=
  ⟨h.ok, fun c w vs hi hv => (h.run c w vs hi hv).mono fun e w' ⟨ae, hs', c', r, rest⟩ => ⟨ae, hs', c', hr _ _ r, rest⟩⟩

mutual
def AV.plain : AV → Bool
  | .ref _ _ => false
  | .ptr x => x.plain
  | .sl _ xs (.own _) => false
  | .sl _ xs _ => plainL xs
  | .agg xs => plainL xs
  | .tup xs => plainL xs
  | .fn _ xs ys => plainL xs && plainL ys
  | .iface _ x => x.plain
  | _ => true
def plainL : List AV → Bool
  | [] => true
  | x :: xs => x.plain && plainL xs
end
theorem plainL_get {xs : List AV} (h : plainL xs = true) {j : Nat} {y : AV} (hy : xs[j]? = some y) : y.plain = true := by
  induction xs generalizing j with
  | nil => simp at hy
  | cons x xs ih =>
    simp only [plainL, Bool.and_eq_true] at h
    cases j with
    | zero => simp at hy; subst hy; exact h.1
    | succ j => exact ih h.2 (by simpa using hy)
theorem plain_cells {x : AV} (h : x.plain = true) : plainL x.cells = true := by
  cases x with
  | agg xs => simp only [AV.plain] at h; exact h
  | _ => simp only [AV.cells, plainL, h, Bool.and_self]
theorem plain_flat {xs : List AV} (h : plainL xs = true) : plainL (flat xs) = true := by
  have app : ∀ a b : List AV, plainL a = true → plainL b = true → plainL (a ++ b) = true := by
    intro a b ha hb
    induction a with
    | nil => exact hb
    | cons x a ih => simp only [plainL, Bool.and_eq_true, List.cons_append] at ha ⊢; exact ⟨ha.1, ih ha.2⟩
  induction xs with
  | nil => rfl
  | cons x xs ih =>
    simp only [plainL, Bool.and_eq_true] at h
    exact app _ _ (plain_cells h.1) (ih h.2)

/-- a plain value reads wherever its lasting cells are known -/
theorem Rep.plain_mono {c c' : CM} (hi : ∀ b o v, c.cl b o = .imm v → c'.cl b o = .imm v) {v : Value} {x : AV} (h : Rep c v x) (hp : x.plain = true) : Rep c' v x := by
  induction h with
  | int k n => exact .int k n
  | bool b => exact .bool b
  | str s => exact .str s
  | nilptr => exact .nilptr
  | nilsl => exact .nilsl
  | nilif => exact .nilif
  | nilfn => exact .nilfn
  | ptr b o vs x hl hc h lf ih =>
    have hp' : plainL x.cells = true := plain_cells (by simpa [AV.plain] using hp)
    exact .ptr b o vs x hl (fun j v e => hi _ _ _ (hc j v e)) (fun j v y a b => ih j v y a b (plainL_get hp' b)) lf
  | ref i off hi' => simp [AV.plain] at hp
  | sl b o cap sz xs cp vs hl hz hc h lf hcap ih =>
    have hpx : plainL xs = true := by cases cp <;> simp_all [AV.plain]
    refine .sl b o cap sz xs cp vs hl hz (fun j v e => hi _ _ _ (hc j v e)) (fun j v y a b => ih j v y a b (plainL_get (plain_flat hpx) b)) lf ?_
    cases cp with
    | exact => exact hcap
    | shared => exact hcap
    | own k => simp [AV.plain] at hp
  | agg vs xs hl h lf ih =>
    have hp' : plainL xs = true := by simpa [AV.plain] using hp
    exact .agg vs xs hl (fun j v y a b => ih j v y a b (plainL_get hp' b)) lf
  | tup vs xs hl h ih =>
    have hp' : plainL xs = true := by simpa [AV.plain] using hp
    exact .tup vs xs hl (fun j v y a b => ih j v y a b (plainL_get hp' b))
  | fn f v1 v2 x1 x2 hl1 hl2 h1 h2 ih1 ih2 =>
    simp only [AV.plain, Bool.and_eq_true] at hp
    exact .fn f v1 v2 x1 x2 hl1 hl2 (fun j v y a b => ih1 j v y a b (plainL_get hp.1 b)) (fun j v y a b => ih2 j v y a b (plainL_get hp.2 b))
  | iface t v x h ih => exact .iface t v x (ih (by simpa [AV.plain] using hp))

/-- memory in which nothing may be written -/
def HS.bare (hs : HS) : Prop := (∀ i, hs.heap i = none) ∧ ∀ k, hs.tok k = false

structure PCall (P : Program) (f : FuncId) (args : List AV) (r : AV) : Prop where
  plain : r.plain = true
  run : ∀ hs : HS, hs.bare → FCall P f args hs fun e _ => e = .ret r

/-- from outside: a call that stands alone leaves all memory as it was -/
theorem PCall.sound {P : Program} {f : FuncId} {args : List AV} {r : AV} (h : PCall P f args r) {c : CM} {hs : HS} {w : World} {vs : List Value} (hi : Inv c hs w) (hv : RepL c vs args) :
    Calls P f vs.toArray w fun e w' => ∃ v c', e = .returned v ∧ Rep c' v r ∧ Inv c' hs w' ∧ Fr c w c' w' := by
  let cp : CM := { c with cl := fun b o => match c.cl b o with | .imm v => .imm v | _ => .no, val := fun _ => false }
  let hp : HS := { hs with heap := fun _ => none, tok := fun _ => false }
  have hcl : ∀ b o v, cp.cl b o = .imm v ↔ c.cl b o = .imm v := by
    intro b o v
    simp only [cp]
    split <;> simp_all
  have hnw : ∀ b o, (cp.cl b o).writable = false := by
    intro b o
    simp only [cp]
    split <;> rfl
  have hip : Inv cp hp w := by
    refine ⟨hi.nh, hi.nt, fun _ => rfl, fun k hk => by simp [cp] at hk, fun b o v e => hi.imm b o v ((hcl b o v).1 e), fun b o k e => ?_, fun i ys e => by simp [hp] at e, fun b o hb => ?_⟩
    · simp only [cp] at e
      split at e <;> cases e
    · simp only [cp, hi.dom b o hb]
  have hrep : ∀ v x, Rep c v x → Rep cp v x := by
    intro v x hr
    induction hr with
    | int k n => exact .int k n
    | bool b => exact .bool b
    | str s => exact .str s
    | nilptr => exact .nilptr
    | nilsl => exact .nilsl
    | nilif => exact .nilif
    | nilfn => exact .nilfn
    | ptr b o vs x hl hc h lf ih => exact .ptr b o vs x hl (fun j v e => (hcl _ _ _).2 (hc j v e)) ih lf
    | ref i off hi' => exact .ref (c := cp) i off hi'
    | sl b o cap sz xs cpp vs hl hz hc h lf hcap ih =>
      refine .sl b o cap sz xs cpp vs hl hz (fun j v e => (hcl _ _ _).2 (hc j v e)) ih lf ?_
      cases cpp with
      | exact => exact hcap
      | shared => exact hcap
      | own k => exact ⟨hcap.1, hcap.2.1, fun e => by simp [cp] at e⟩
    | agg vs xs hl h lf ih => exact .agg vs xs hl ih lf
    | tup vs xs hl h ih => exact .tup vs xs hl ih
    | fn f v1 v2 x1 x2 hl1 hl2 h1 h2 ih1 ih2 => exact .fn f v1 v2 x1 x2 hl1 hl2 ih1 ih2
    | iface t v x h ih => exact .iface t v x ih
  have hvp : RepL cp vs args := ⟨hv.1, fun j v y a b => hrep v y (hv.2 j v y a b)⟩
  refine ((h.run hp ⟨fun _ => rfl, fun _ => rfl⟩).run cp w vs hip hvp).mono ?_
  rintro e w' ⟨ae, hs', c', rfl, he, hi', hf⟩
  cases e with
  | returned v =>
    have he : Rep c' v r := he
    let c'' : CM := { c with cl := fun b o => if b < w.heap.size then c.cl b o else match c'.cl b o with | .imm v => .imm v | _ => .no }
    have himm : ∀ b o v, c'.cl b o = .imm v → c''.cl b o = .imm v := by
      intro b o v e
      simp only [c'']
      split
      · rename_i hb
        cases hc : cp.cl b o with
        | no => rw [hf.no b o hb hc] at e; cases e
        | imm u =>
          have := hf.le.imm b o u hc
          rw [this] at e
          injection e with e
          subst e
          exact (hcl b o u).1 hc
        | blk i j => have := hnw b o; rw [hc] at this; cases this
        | tok k => have := hnw b o; rw [hc] at this; cases this
      · rw [e]
    have hlt : ∀ b o, c.cl b o ≠ .no → b < w.heap.size := fun b o hn => hi.lt hn
    have hcold : ∀ b o, b < w.heap.size → c''.cl b o = c.cl b o := fun b o hb => by simp only [c'', hb, if_true]
    have hle : c.le c'' := by
      refine ⟨fun b o v e => ?_, Nat.le_refl _, fun _ _ => rfl, Nat.le_refl _, fun _ _ e => e, fun b o k _ e _ => ?_⟩
      · rw [hcold b o (hlt b o (by rw [e]; simp))]; exact e
      · rw [hcold b o (hlt b o (by rw [e]; simp))]; exact e
    have hcell : ∀ b o v, w.cell? ⟨b, o, none⟩ = some v → w'.cell? ⟨b, o, none⟩ = some v := fun b o v e => hf.cell (hnw b o) e
    refine ⟨v, c'', rfl, Rep.plain_mono himm he h.plain, ⟨hi.nh, hi.nt, hi.tokv, hi.vlt, ?_, ?_, ?_, ?_⟩, ⟨hle, hf.os, hf.out, hf.size, ?_, fun b o hb e => by rw [hcold b o hb]; exact e, hf.frz⟩⟩
    · intro b o u e
      by_cases hb : b < w.heap.size
      · rw [hcold b o hb] at e
        exact hcell _ _ _ (hi.imm b o u e)
      · simp only [c'', hb, if_false] at e
        split at e
        · rename_i u' hu
          injection e with e; subst e
          exact hi'.imm b o u' hu
        · cases e
    · intro b o k e
      have hb : b < w.heap.size := by
        rcases Nat.lt_or_ge b w.heap.size with hb | hb
        · exact hb
        · simp only [c'', Nat.not_lt.2 hb, if_false] at e
          split at e <;> cases e
      rw [hcold b o hb] at e
      obtain ⟨⟨u, hu⟩, hz⟩ := hi.toks b o k e
      exact ⟨⟨u, hcell _ _ _ hu⟩, by rw [hf.frz]; exact hz⟩
    · intro i ys e
      obtain ⟨h1, h2⟩ := hi.heap i ys e
      refine ⟨h1, fun j y hy => ?_⟩
      obtain ⟨a1, a2, a3, u, a4, a5⟩ := h2 j y hy
      refine ⟨a1, ?_, by rw [hf.frz]; exact a3, u, hcell _ _ _ a4, a5.mono hle⟩
      rw [hcold _ _ (hlt _ ((c.loc i).2 + j) (by rw [a2]; simp))]; exact a2
    · intro b o hb
      simp only [c'', Nat.not_lt.2 (Nat.le_trans hf.size hb), if_false]
      rw [hi'.dom b o hb]
    · intro b hb
      have := hf.blk b hb
      generalize w.heap[b]? = x at this ⊢
      cases x with
      | none => exact this
      | some x =>
        cases x with
        | cells cs e fr =>
          simp only [FrB] at this ⊢
          obtain ⟨cs', h1, h2, h3⟩ := this
          exact ⟨cs', h1, h2, fun o _ => h3 o (hnw b o)⟩
        | _ => exact this
  | panicked chain => exact he.elim
  | outgrown => exact he.elim
end Fw
