/-
  From a contract of a law to its row, where the row lists package-level variables that the law's run does not read. Own work, after the worked example 'mapy'; over any program.
  Calls that read the caller's mutable slices and return a tuple of scalars; a mutable slice that lasts from a call on. Own work; over any program.
  A list under way that may be stored into, lent for good to a call: it lasts from the call on. Own work; over any program.
  A list that may be stored into and a list under way, side by side. Own work; over any program.
-/
import Derived.Test.YtdcpkgedaflnmaaDoorFx4
import Derived.LaidMore
import Derived.Test.YtdcpkgedaflnmaaDoorFx3
set_option linter.unusedVariables false
set_option linter.unusedSimpArgs false
namespace Fw
open Go Go.ChangeShapes Go.WideShapes Go.ChangeAt Go.RowKit

theorem law_laid {C : Checked} {os : Os} {f : FuncId} {fn : Func} {s : ChangeSpec} {conds : List PathCond} {H : Type} {enc : TypeId × Value → H} {X : World → Prop} (Ts : List Ty) (tb : TypeId)
    (hX : ∀ (w w' : World), w.heap = w'.heap → X w → X w')
    (own : ownKnob C.prog.godebug = none) (started : os.Started) (noInit : C.prog.inits.idxOf? f = none) (hfn : C.prog.funcs[f]? = some fn)
    (witness : ∃ (w : World) (tape : Tape) (i : Input), w.os = os ∧ (w.forCall tape i).Shaped C.prog ∧ i.vars = [] ∧ Input.okWide C.prog (w.forCall tape i) .any w.heap.size f i ∧
      ((s.pre enc C.prog fn conds false (w.forCall tape i).memory i.args ∧ X (w.forCall tape i).memory) ∧ sizedMet enc C.prog fn (OpenSpec.ofChange s) false (w.forCall tape i).memory i.args) ∧ ({} : Assume).holds C.prog (lone (Frame.enter C.prog f i.args .normal) [] (w.forCall tape i)))
    (hvars : s.vars = []) (hlen : fn.params.toList.length = Ts.length) (hok : (fn.params.toList.zip Ts).all (fun p => (p.2.ok C.prog false).1 p.1) = true)
    (hspec : ∀ ds : List (DataW H), ds.length = Ts.length → s.fn H ds = { results := [.lit (.bool true)], args := ds })
    (hres : fn.resultTypes = #[tb]) (htb : C.prog.underlying tb = some .bool)
    (h : ∀ xs, Typed Ts xs → PCall C.prog f xs (.bool true)) :
    ReturnsInHanded {} C os f .any (fun w args => (s.pre enc C.prog fn conds false w args ∧ X w) ∧ sizedMet enc C.prog fn (OpenSpec.ofChange s) false w args) (s.post enc C.prog fn false true false false) := by
  refine returnsInHanded_of_change_and (C := C) (X := fun w _ => X w) (fun w w' _ hh hx => hX w w' hh hx) own started noInit hfn witness ?_
  intro W base args ds gs before hval hW hcnd _ _ _
  have hW' := hW
  obtain ⟨p, q, hA, hV, rfl, hfz, hnd⟩ := hW
  rw [hvars] at hV
  obtain ⟨rfl, rfl⟩ := trodVars_none hV
  obtain ⟨xs, g1, g2, g3, g4⟩ := open_args (b0 := base) hlen (fun j t T h1 h2 => by
    have := List.all_eq_true.1 hok (t, T) (List.mem_of_getElem? (i := j) (by rw [List.getElem?_zip_eq_some]; exact ⟨h1, h2⟩))
    exact this) (fun j t v h1 h2 => hval j t v (by simpa using h1) (by simpa using h2)) hA
  have hdl : ds.length = Ts.length := by
    have : ∀ {ts : List TypeId} {vs : List Value} {ds : List (DataW H)} {ps : List MemPlace}, DataW.TrodAll enc C.prog W 0 (fun _ => true) true ts vs ds ps → ds.length = ts.length := by
      intro ts
      induction ts with
      | nil => intro vs ds ps h; obtain ⟨rfl, rfl, rfl⟩ := trodAll_nil h; rfl
      | cons t ts ih =>
        intro vs ds ps h
        obtain ⟨v, vs', d, ds', p1, p2, rfl, rfl, rfl, h1, h2⟩ := trodAll_cons h
        simp [ih h2]
    rw [this hA, hlen]
  have hsp := hspec ds hdl
  have hv := g3
  refine (Fw.lift_true (h xs (Typed.of g1 g2)) hv).mono fun e W' ⟨he, hg⟩ => ?_
  subst he
  simp only [List.append_nil] at hW'
  refine ⟨_, rfl, post_same_old (pa := p) (pv := []) hW' (fun _ _ _ => ?_) (fun sp hsp' => ?_) (fun sp hsp' => ?_) (by simp) (hg.frame _) hg.2.1 (ok_one hres rfl (okWide_bool_mk htb _))⟩
  · rw [List.append_nil, hsp, hres]
    exact trodAll_mk1 (shut_bool htb _)
  · rw [List.append_nil, hsp]
    exact g4 W' hg sp hsp'
  · rw [List.append_nil, hsp, hvars]
    exact rfl
end Fw
set_option linter.unusedVariables false
namespace Fw
open Go

theorem PCall.loanT {P : Program} {f : FuncId} {args : List AV} {r : AV} {n : Nat} {c : CM} {hs : HS} {w : World} {vs : List Value} (h : PCall P f (args.map (frz hs.heap n)) r) (hsc : ∀ {c c' : CM} {v : Value}, Rep c v r → Rep c' v r) (hi : Inv c hs w) (hv : RepL c vs args) :
    Calls P f vs.toArray w fun e w' => ∃ v c', e = .returned v ∧ Rep c' v r ∧ Inv c' hs w' ∧ Fr c w c' w' := by
  let cp : CM := { c with cl := fun b o => match c.cl b o with | .imm v => .imm v | .blk _ _ => (match w.cell? ⟨b, o, none⟩ with | some v => .imm v | none => .no) | _ => .no, val := fun _ => false }
  let hp : HS := { hs with heap := fun _ => none, tok := fun _ => false, mp := fun _ => none }
  have hnw : ∀ b o, (cp.cl b o).writable = false := by
    intro b o
    simp only [cp]
    split <;> (try split) <;> rfl
  have himm : ∀ b o v, cp.cl b o = .imm v → w.cell? ⟨b, o, none⟩ = some v := by
    intro b o v e
    simp only [cp] at e
    split at e
    · rename_i u hu
      injection e with e; subst e
      exact hi.imm b o u hu
    · split at e
      · rename_i u hu
        injection e with e; subst e; exact hu
      · cases e
    · cases e
  have hip : Inv cp hp w := by
    refine ⟨hi.nh, hi.nt, fun _ => rfl, fun k hk => by simp [cp] at hk, himm, fun b o k e => ?_, fun i ys e => by simp [hp] at e, fun b o hb => ?_, fun i ps e => by simp [hp] at e⟩
    · have := hnw b o; rw [e] at this; cases this
    · simp only [cp, hi.dom b o hb]
  have hk : Knows c cp := ⟨fun b o v e => by simp only [cp, e], rfl, fun _ => rfl, rfl, fun k e => by simp [cp] at e⟩
  have hb : ∀ b o i j v, c.cl b o = .blk i j → w.cell? ⟨b, o, none⟩ = some v → cp.cl b o = .imm v := fun b o i j v e e' => by simp only [cp, e, e']
  have hvp : RepL cp vs (args.map (frz hs.heap n)) := by
    refine ⟨by rw [List.length_map]; exact hv.1, fun j v y hv' hy => ?_⟩
    rw [List.getElem?_map] at hy
    cases hx : args[j]? with
    | none => rw [hx] at hy; cases hy
    | some y0 => rw [hx] at hy; injection hy with hy; subst hy; exact Rep.frz hk hi hb n (hv.2 j v y0 hv' hx)
  refine ((h.run hp ⟨fun _ => rfl, fun _ => rfl⟩).run cp w vs hip hvp).mono ?_
  rintro e w' ⟨ae, hs', c', rfl, he, hi', hf⟩
  cases e with
  | returned v =>
    have he : Rep c' v r := he
    have hcell : ∀ b o v, w.cell? ⟨b, o, none⟩ = some v → w'.cell? ⟨b, o, none⟩ = some v := fun b o v e => hf.cell (hnw b o) e
    have hmap : ∀ (b : Nat) es k, w.heap[b]? = some (.map es k) → w'.heap[b]? = some (.map es k) := fun b es k e => by
      have hb : b < w.heap.size := by
        rcases Nat.lt_or_ge b w.heap.size with h' | h'
        · exact h'
        · rw [Array.getElem?_eq_none h'] at e; cases e
      have := hf.blk b hb
      rw [e] at this
      simp only [FrB] at this
      obtain ⟨es', k', e1, e2⟩ := this
      obtain ⟨rfl, rfl⟩ := e2 (hnw b 0)
      exact e1
    refine ⟨v, c, rfl, hsc he, ⟨hi.nh, hi.nt, hi.tokv, hi.vlt, fun b o v e => hcell _ _ _ (hi.imm b o v e), ?_, ?_, fun b o hb => hi.dom b o (Nat.le_trans hf.size hb), hi.mapsTo (.refl c) (fun _ _ h => h) (fun _ _ e _ => e) hmap⟩, ⟨.refl c, hf.os, hf.out, hf.size, ?_, fun b o hb e => e, hf.frz⟩⟩
    · intro b o k e
      obtain ⟨⟨u, hu⟩, hz⟩ := hi.toks b o k e
      exact ⟨⟨u, hcell _ _ _ hu⟩, by rw [hf.frz _ (World.block_lt_of_cell? w _ hu)]; exact hz⟩
    · intro i ys e
      obtain ⟨h1, h2⟩ := hi.heap i ys e
      refine ⟨h1, fun j y hy => ?_⟩
      obtain ⟨a1, a2, a3, u, a4, a5⟩ := h2 j y hy
      exact ⟨a1, a2, by rw [hf.frz _ (World.block_lt_of_cell? w _ a4)]; exact a3, u, hcell _ _ _ a4, a5⟩
    · intro b hb
      have := hf.blk b hb
      generalize w.heap[b]? = x at this ⊢
      cases x with
      | none => exact this
      | some x =>
        cases x with
        | cells cs e fr =>
          simp only [FrB] at this ⊢
          obtain ⟨cs', h1, h2, h3⟩ := this
          exact ⟨cs', h1, h2, fun o _ => h3 o (hnw b o)⟩
        | map es k =>
          simp only [FrB] at this ⊢
          obtain ⟨es', k', h1, h2⟩ := this
          exact ⟨es', k', h1, fun _ => h2 (hnw b 0)⟩
        | _ => exact this
  | panicked chain => exact he.elim
  | outgrown => exact he.elim
theorem rep_two {c c' : CM} {v : Value} {a b : Int} {k1 k2 : IntKind} (h : Rep c v (.tup [.int k1 a, .int k2 b])) : Rep c' v (.tup [.int k1 a, .int k2 b]) := by
  cases h with
  | tup vs xs hl h =>
    refine .tup vs _ hl fun j v y h1 h2 => ?_
    have := h j v y h1 h2
    match j, h2 with
    | 0, h2 => injection h2 with h2; subst h2; cases this; exact .int _ _
    | 1, h2 => injection h2 with h2; subst h2; cases this; exact .int _ _
/-- a call that reads mutable slices, and returns two numbers -/
theorem FCall.lent2 {P : Program} {f : FuncId} {args : List AV} {hs : HS} {a b : Int} {n : Nat} {k1 k2 : IntKind} (h : PCall P f (args.map (frz hs.heap n)) (.tup [.int k1 a, .int k2 b])) : FCall P f args hs fun e hs' => e = .ret (.tup [.int k1 a, .int k2 b]) ∧ hs' = hs := by
  have hok := (h.run ⟨fun _ => none, 0, 0, fun _ => false, fun _ => none⟩ ⟨fun _ => rfl, fun _ => rfl⟩).ok
  refine ⟨hok, fun c w vs hi hv => (h.loanT rep_two hi hv).mono ?_⟩
  rintro e w' ⟨v, c', rfl, h1, h2, h3⟩
  exact ⟨.ret _, hs, c', ⟨rfl, rfl⟩, h1, h2, h3⟩
/-- a slice in the block q, as it lasts -/
def mq (q : Nat) (l : List Int) : AV → AV
  | .osl ag sz i len k => if i = q ∧ len = l.length ∧ sz = 1 then .sl 1 (ints l) .shared else .osl ag sz i len k
  | x => x
theorem mq_leaf (q : Nat) (l : List Int) (x : AV) : (mq q l x).leaf = x.leaf := by
  unfold mq
  split
  · split <;> rfl
  · rfl
/-- memory, the block q lasting -/
def HS.melt (hs : HS) (q : Nat) (l : List Int) : HS := { hs with heap := fun i => if i = q then none else (hs.heap i).map (List.map (mq q l)), mp := fun _ => none }
/-- from a call on, a mutable slice may be taken as lasting -/
theorem FCall.melt {P : Program} {f : FuncId} {args : List AV} {hs : HS} {r : AV} {q : Nat} {l : List Int} (h : FCall P f args hs fun e hs' => e = .ret r ∧ hs' = hs) (hq : hs.heap q = some (ints l)) :
    FCall P f args hs fun e hs' => e = .ret r ∧ hs' = hs.melt q l := by
  refine ⟨h.ok, fun c w vs hi hv => (h.run c w vs hi hv).mono ?_⟩
  rintro e w' ⟨ae, hs', c', ⟨rfl, rfl⟩, he, h2, h3⟩
  cases e with
  | returned v =>
    have he : Rep c' v r := he
    let c'' : CM := { c' with cl := fun b o => match c'.cl b o with | .blk i j => (if i = q then (match w'.cell? ⟨b, o, none⟩ with | some v => .imm v | none => .no) else .blk i j) | x => x }
    have himm : ∀ b o v, c'.cl b o = .imm v → c''.cl b o = .imm v := fun b o v e => by simp only [c'', e]
    have htok : ∀ b o k, c'.cl b o = .tok k → c''.cl b o = .tok k := fun b o v e => by simp only [c'', e]
    have hle : c'.le c'' := ⟨himm, Nat.le_refl _, fun _ _ => rfl, Nat.le_refl _, fun _ _ e => e, fun b o k _ e _ => htok _ _ _ e⟩
    have hb : ∀ b o j v, c'.cl b o = .blk q j → w'.cell? ⟨b, o, none⟩ = some v → c''.cl b o = .imm v := fun b o j v e e' => by simp only [c'', e, e', if_true]
    have hrep : ∀ {v : Value} {x : AV}, Rep c' v x → Rep c'' v (mq q l x) := by
      intro v x hx
      unfold mq
      split
      rotate_left
      · exact hx.mono hle
      split
      rotate_left
      · exact hx.mono hle
      rename_i ag sz i len k hc
      obtain ⟨rfl, rfl, rfl⟩ := hc
      cases hx with
      | osl _ _ _ _ cap _ hi' hcap =>
        obtain ⟨hlt, lf, vs, hr, hc⟩ := h2.readBlk hq
        have e1 : (ints l).length = l.length := by simp [ints]
        have := Rep.sl (c := c'') (c'.loc i).1 (c'.loc i).2 cap 1 (ints l) .shared vs (by rw [flat_ints]; exact hr.1) ?_ ?_ ?_ ?_ ?_
        · rw [e1] at this; exact this
        · intro x hx
          simp only [ints, List.mem_map] at hx
          obtain ⟨n, _, rfl⟩ := hx
          rfl
        · intro j v hv
          have hj : j < (ints l).length := by
            have : j < vs.length := by
              rcases Nat.lt_or_ge j vs.length with h' | h'
              · exact h'
              · simp [List.getElem?_eq_none h'] at hv
            have := hr.1; omega
          have hcl := ((h2.heap i _ hq).2 j (ints l)[j] (by simp)).2.1
          exact hb _ _ _ _ hcl (hc _ _ hv)
        · rw [flat_ints]
          intro j v y a b
          exact (hr.2 j v y a b).mono hle
        · rw [flat_ints]; exact lf
        · rw [e1]; exact hcap.le
    refine ⟨.ret _, hs'.melt q l, c'', ⟨rfl, rfl⟩, he.mono hle, ⟨h2.nh, h2.nt, h2.tokv, h2.vlt, ?_, ?_, ?_, ?_, fun i ps e => ?_⟩, ⟨h3.le.trans hle, h3.os, h3.out, h3.size, h3.blk, ?_, h3.frz⟩⟩
    · intro b o u e
      simp only [c''] at e
      split at e
      · split at e
        · split at e
          · rename_i u' hu
            injection e with e; subst e; exact hu
          · cases e
        · cases e
      · exact h2.imm b o u e
    · intro b o k e
      simp only [c''] at e
      split at e
      · split at e
        · split at e <;> cases e
        · cases e
      · exact h2.toks b o k e
    · intro i ys e
      simp only [HS.melt] at e
      split at e
      · cases e
      rename_i hiq
      cases hys : hs'.heap i with
      | none => rw [hys] at e; cases e
      | some ys0 =>
        rw [hys] at e
        injection e with e
        subst e
        obtain ⟨h1, h4⟩ := h2.heap i ys0 hys
        refine ⟨h1, fun j y hy => ?_⟩
        rw [List.getElem?_map] at hy
        cases hx : ys0[j]? with
        | none => rw [hx] at hy; cases hy
        | some y0 =>
          rw [hx] at hy; injection hy with hy; subst hy
          obtain ⟨a1, a2, a3, u, a4, a5⟩ := h4 j y0 hx
          exact ⟨by rw [mq_leaf]; exact a1, by simp only [c'', a2, hiq, if_false], a3, u, a4, hrep a5⟩
    · intro b o hb'
      simp only [c'', h2.dom b o hb']
    · simp only [HS.melt] at e
      cases e
    · intro b o hb' e
      simp only [c'', h3.no b o hb' e]
  | panicked ch => exact he.elim
  | outgrown => exact he.elim
end Fw
set_option linter.unusedVariables false
namespace Fw
open Go

def mqA (q : Nat) (l : List Int) : AV → AV
  | .agg xs => .agg (xs.map (mq q l))
  | x => mq q l x
theorem Inv.melt {c : CM} {hs : HS} {w : World} (h2 : Inv c hs w) {q : Nat} {l : List Int} (hq : hs.heap q = some (ints l)) :
    ∃ c', Fr c w c' w ∧ Inv c' (hs.melt q l) w ∧ ∀ {v : Value} {x : AV}, Rep c v x → Rep c' v (mqA q l x) := by
  let c'' : CM := { c with cl := fun b o => match c.cl b o with | .blk i j => (if i = q then (match w.cell? ⟨b, o, none⟩ with | some v => .imm v | none => .no) else .blk i j) | x => x }
  have himm : ∀ b o v, c.cl b o = .imm v → c''.cl b o = .imm v := fun b o v e => by simp only [c'', e]
  have htok : ∀ b o k, c.cl b o = .tok k → c''.cl b o = .tok k := fun b o v e => by simp only [c'', e]
  have hle : c.le c'' := ⟨himm, Nat.le_refl _, fun _ _ => rfl, Nat.le_refl _, fun _ _ e => e, fun b o k _ e _ => htok _ _ _ e⟩
  have hb : ∀ b o j v, c.cl b o = .blk q j → w.cell? ⟨b, o, none⟩ = some v → c''.cl b o = .imm v := fun b o j v e e' => by simp only [c'', e, e', if_true]
  have hrep : ∀ {v : Value} {x : AV}, Rep c v x → Rep c'' v (mq q l x) := by
    intro v x hx
    unfold mq
    split
    rotate_left
    · exact hx.mono hle
    split
    rotate_left
    · exact hx.mono hle
    rename_i ag sz i len k hc
    obtain ⟨rfl, rfl, rfl⟩ := hc
    cases hx with
    | osl _ _ _ _ cap _ hi' hcap =>
      obtain ⟨hlt, lf, vs, hr, hc⟩ := h2.readBlk hq
      have e1 : (ints l).length = l.length := by simp [ints]
      have := Rep.sl (c := c'') (c.loc i).1 (c.loc i).2 cap 1 (ints l) .shared vs (by rw [flat_ints]; exact hr.1) ?_ ?_ ?_ ?_ ?_
      · rw [e1] at this; exact this
      · intro x hx
        simp only [ints, List.mem_map] at hx
        obtain ⟨n, _, rfl⟩ := hx
        rfl
      · intro j v hv
        have hj : j < (ints l).length := by
          have : j < vs.length := by
            rcases Nat.lt_or_ge j vs.length with h' | h'
            · exact h'
            · simp [List.getElem?_eq_none h'] at hv
          have := hr.1; omega
        have hcl := ((h2.heap i _ hq).2 j (ints l)[j] (by simp)).2.1
        exact hb _ _ _ _ hcl (hc _ _ hv)
      · rw [flat_ints]
        intro j v y a b
        exact (hr.2 j v y a b).mono hle
      · rw [flat_ints]; exact lf
      · rw [e1]; exact hcap.le
  refine ⟨c'', ⟨hle, rfl, rfl, Nat.le_refl _, fun b _ => .refl _ _ _, fun b o _ e => by simp only [c'', e], fun _ _ => rfl⟩, ⟨h2.nh, h2.nt, h2.tokv, h2.vlt, ?_, ?_, ?_, ?_, fun i ps e => ?_⟩, ?_⟩
  · intro b o u e
    simp only [c''] at e
    split at e
    · split at e
      · split at e
        · rename_i u' hu
          injection e with e; subst e; exact hu
        · cases e
      · cases e
    · exact h2.imm b o u e
  · intro b o k e
    simp only [c''] at e
    split at e
    · split at e
      · split at e <;> cases e
      · cases e
    · exact h2.toks b o k e
  · intro i ys e
    simp only [HS.melt] at e
    split at e
    · cases e
    rename_i hiq
    cases hys : hs.heap i with
    | none => rw [hys] at e; cases e
    | some ys0 =>
      rw [hys] at e
      injection e with e
      subst e
      obtain ⟨h1, h4⟩ := h2.heap i ys0 hys
      refine ⟨h1, fun j y hy => ?_⟩
      rw [List.getElem?_map] at hy
      cases hx : ys0[j]? with
      | none => rw [hx] at hy; cases hy
      | some y0 =>
        rw [hx] at hy; injection hy with hy; subst hy
        obtain ⟨a1, a2, a3, u, a4, a5⟩ := h4 j y0 hx
        exact ⟨by rw [mq_leaf]; exact a1, by simp only [c'', a2, hiq, if_false], a3, u, a4, hrep a5⟩
  · intro b o hb'
    simp only [c'', h2.dom b o hb']
  · simp only [HS.melt] at e
    cases e
  · intro v x hx
    cases x with
    | agg xs =>
      cases hx with
      | agg vs _ hl hh lf =>
        refine .agg vs _ (by simpa using hl) (fun j u y hu hy => ?_) (fun j y hy => ?_)
        · rw [List.getElem?_map] at hy
          cases hxj : xs[j]? with
          | none => rw [hxj] at hy; cases hy
          | some y0 => rw [hxj] at hy; injection hy with hy; subst hy; exact hrep (hh j u y0 hu hxj)
        · rw [List.getElem?_map] at hy
          cases hxj : xs[j]? with
          | none => rw [hxj] at hy; cases hy
          | some y0 => rw [hxj] at hy; injection hy with hy; subst hy; rw [mq_leaf]; exact lf j y0 hxj
    | _ => exact hrep hx
/-- a pure call that is given the list: from the call on it lasts -/
theorem FCall.meltA {P : Program} {f : FuncId} {args : List AV} {hs : HS} {r : AV} {q : Nat} {l : List Int} (hc : PCall P f (args.map (mqA q l)) r) (hq : hs.heap q = some (ints l)) :
    FCall P f args hs fun e hs' => e = .ret r ∧ hs' = hs.melt q l := by
  have hok := (hc.run ⟨fun _ => none, 0, 0, fun _ => false, fun _ => none⟩ ⟨fun _ => rfl, fun _ => rfl⟩).ok
  refine ⟨hok, fun c w vs hI hv => ?_⟩
  obtain ⟨c', hf, hI', hr⟩ := hI.melt hq
  have hv2 : RepL c' vs (args.map (mqA q l)) := by
    refine ⟨by rw [List.length_map]; exact hv.1, fun j v y h1 h2 => ?_⟩
    rw [List.getElem?_map] at h2
    cases hx : args[j]? with
    | none => rw [hx] at h2; cases h2
    | some y0 => rw [hx] at h2; injection h2 with h2; subst h2; exact hr (hv.2 j v y0 h1 hx)
  refine (hc.sound hI' hv2).mono ?_
  rintro e w' ⟨v, c2, rfl, g1, g2, g3⟩
  exact ⟨.ret r, _, c2, ⟨rfl, rfl⟩, g1, g2, hf.trans g3⟩
end Fw
set_option linter.unusedVariables false
set_option linter.unusedSimpArgs false
namespace Fw
open Go

/-- x: a list in a block from n0 on, that may be stored into; d: a list under way -/
structure OsJ (n0 : Nat) (hs : HS) (x : AV) (l : List Int) (d : AV) (m : List Int) : Prop where
  x : (x = .nilsl ∧ l = []) ∨ ∃ q k, x = .osl false 1 q l.length k ∧ n0 ≤ q ∧ q < hs.nh ∧ hs.heap q = some (ints l) ∧ hs.tok k = true ∧ k < hs.nt ∧ ∀ xs k', d = .sl 1 xs (.own k') → k ≠ k'
  d : Outs 1 hs d (ints m)
theorem OsJ.nil {n0 : Nat} {hs : HS} : OsJ n0 hs .nilsl [] .nilsl [] := ⟨.inl ⟨rfl, rfl⟩, .nil⟩
theorem OsJ.addx {n0 : Nat} {hs : HS} {x d : AV} {l m : List Int} (h : OsJ n0 hs x l d m) (hn : n0 ≤ hs.nh) (hl : l.length ≤ 1000000) (v : Int) :
    ∃ y hs', aappm 1 hs x (.sl 1 [.int .i64 v] .exact) = some (y, hs') ∧ OsJ n0 hs' y (l ++ [v]) d m ∧ y.leaf = true ∧ hs.nh ≤ hs'.nh ∧ (∀ j, j < n0 → hs'.heap j = hs.heap j) := by
  have hq : aelemsH hs.heap (.sl 1 [.int .i64 v] .exact) = some (ints [v]) := rfl
  have hd := h.d.inv
  rcases h.x with ⟨rfl, rfl⟩ | ⟨q, k, rfl, h1, h2, h3, h4, h5, h6⟩
  · refine ⟨.osl false 1 hs.nh 1 hs.nt, { hs with heap := fun i => if i = hs.nh then some (ints [v]) else hs.heap i, nh := hs.nh + 1, nt := hs.nt + 1, tok := fun t => if t = hs.nt then true else hs.tok t }, ?_, ⟨.inr ⟨hs.nh, hs.nt, rfl, hn, by simp, by simp, by simp, by simp, fun xs k' e => ?_⟩, ?_⟩, rfl, by simp, fun j hj => by simp; intro h; omega⟩
    · have hp : aelemsH hs.heap .nilsl = some [] := rfl
      simp only [aappm, hp, hq]
      simp [appmOk, exactA, aszOk, kilH, kilT, agOf, flat_ints, ints]
      rfl
    · rcases hd with ⟨rfl, _⟩ | ⟨xs', k'', rfl, htk, _⟩
      · cases e
      · injection e with _ _ e; injection e with e; subst e; omega
    · refine h.d.keep ⟨by simp, fun k hk ht => by simp [ht]⟩
  · have hp : aelemsH hs.heap (.osl false 1 q l.length k) = some (ints l) := by simp only [aelemsH, h3, Option.bind_some, ints_cont]
    refine ⟨.osl false 1 hs.nh (l.length + 1) hs.nt, { hs with heap := fun i => if i = hs.nh then some (ints (l ++ [v])) else if i = q then none else hs.heap i, nh := hs.nh + 1, nt := hs.nt + 1, tok := fun t => if t = hs.nt then true else if t = k then false else hs.tok t }, ?_, ⟨.inr ⟨hs.nh, hs.nt, by simp, hn, by simp, by simp, by simp, by simp, fun xs k' e => ?_⟩, ?_⟩, rfl, by simp, fun j hj => by simp; rw [if_neg (by omega), if_neg (by omega)]⟩
    · have hlen : (ints l).length + (ints [v]).length ≤ 1073741824 := by simp [ints]; omega
      have e1 : (ints l).length = l.length := by simp [ints]
      have e2 : ints l ++ ints [v] = ints (l ++ [v]) := by simp [ints]
      unfold aappm
      rw [hp, hq]
      simp only
      rw [if_pos ⟨h4, rfl, rfl, hlen⟩, if_neg (by simp [ints]), e2, flat_ints, e1]
      rfl
    · rcases hd with ⟨rfl, _⟩ | ⟨xs', k'', rfl, htk, _⟩
      · cases e
      · injection e with _ _ e; injection e with e; subst e; omega
    · refine ⟨?_, h.d.sh⟩
      rcases hd with ⟨rfl, _⟩ | ⟨xs', k'', rfl, htk, _⟩
      · trivial
      · have hne := h6 _ _ rfl
        simp [Fresh, htk.1, Ne.symm hne]
        omega
theorem OsJ.addd {n0 : Nat} {hs : HS} {x d : AV} {l m : List Int} (h : OsJ n0 hs x l d m) (hl : m.length ≤ 1000000) (v : Int) :
    ∃ y hs', aappend 1 hs d (.sl 1 [.int .i64 v] .exact) = some (y, hs') ∧ OsJ n0 hs' x l y (m ++ [v]) ∧ SameMem hs hs' := by
  have e1 : aelems (.sl 1 [.int .i64 v] .exact) = some [.int .i64 v] := rfl
  have e2 : aszOk 1 (.sl 1 [.int .i64 v] .exact) = true := rfl
  have hd := h.d
  rcases hd.inv with ⟨rfl, hm⟩ | ⟨xs, k, rfl, htk, hxs, hne⟩
  · have hm : m = [] := by simpa [ints] using hm
    subst hm
    rw [append_eq (xs := []) rfl e1 rfl e2 (by simp), if_neg (by simp)]
    refine ⟨_, _, rfl, ⟨?_, ⟨by simp [Fresh], by rw [outV_ne (by simp [ints])]; simp [ints]⟩⟩, ⟨rfl, rfl⟩⟩
    rcases h.x with hx | ⟨q, k, rfl, h1, h2, h3, h4, h5, h6⟩
    · exact .inl hx
    · refine .inr ⟨q, k, rfl, h1, h2, h3, by simp [h4], by simp; omega, fun xs k' e => ?_⟩
      injection e with _ _ e; injection e with e; omega
  · have hxi := share_ints_inv hxs
    subst hxi
    rw [append_eq (xs := ints m) rfl e1 (by simp [aszOk]) e2 (by simp [ints]; omega), if_neg (by simp)]
    simp only [appP, htk.1, if_true]
    refine ⟨_, _, rfl, ⟨?_, ⟨by simp [Fresh], by rw [outV_ne (by simp [ints])]; simp [ints]⟩⟩, ⟨rfl, rfl⟩⟩
    rcases h.x with hx | ⟨q, k', rfl, h1, h2, h3, h4, h5, h6⟩
    · exact .inl hx
    · have hkk := h6 _ _ rfl
      refine .inr ⟨q, k', rfl, h1, h2, h3, by simp [h4, hkk], by simp; omega, fun xs k'' e => ?_⟩
      injection e with _ _ e; injection e with e; omega
/-- a store into the list -/
theorem OsJ.set {n0 : Nat} {hs : HS} {x d : AV} {l m : List Int} (h : OsJ n0 hs x l d m) {i : Nat} (hi : i < l.length) (v : Int) :
    ∃ q, n0 ≤ q ∧ aidxS 1 x (.int .i64 (i : Int)) = some (.ref q i) ∧ astore hs.heap 1 (.ref q i) (.int .i64 v) = some (fun j => if j = q then some (ints (l.set i v)) else hs.heap j) ∧
      OsJ n0 ⟨fun j => if j = q then some (ints (l.set i v)) else hs.heap j, hs.nh, hs.nt, hs.tok, hs.mp⟩ x (l.set i v) d m := by
  rcases h.x with ⟨_, rfl⟩ | ⟨q, k, rfl, h1, h2, h3, h4, h5, h6⟩
  · simp at hi
  · have hset : (ints l).set i (.int .i64 v) = ints (l.set i v) := by simp [ints, List.map_set]
    refine ⟨q, h1, by simp [aidxS, hi], ?_, ⟨.inr ⟨q, k, by simp, h1, h2, by simp, h4, h5, h6⟩, h.d.cong rfl rfl⟩⟩
    rw [← hset]
    have hl : (ints l).length = l.length := by simp [ints]
    simp only [astore, h3, Option.bind_some, AV.sto, AV.cells, List.length_cons, List.length_nil, Nat.zero_add, true_and, setL]
    rw [if_pos (by omega)]
/-- memory outside of the block may change -/
theorem OsJ.cong {n0 : Nat} {hs hs' : HS} {x d : AV} {l m : List Int} (h : OsJ n0 hs x l d m) (ht : hs'.tok = hs.tok) (hn : hs'.nt = hs.nt) (hh : hs.nh ≤ hs'.nh) (hp : ∀ j, n0 ≤ j → j < hs.nh → hs'.heap j = hs.heap j) : OsJ n0 hs' x l d m := by
  refine ⟨?_, h.d.cong ht hn⟩
  rcases h.x with hx | ⟨q, k, rfl, h1, h2, h3, h4, h5, h6⟩
  · exact .inl hx
  · exact .inr ⟨q, k, rfl, h1, by omega, by rw [hp q h1 h2]; exact h3, by rw [ht]; exact h4, by rw [hn]; exact h5, h6⟩
end Fw
