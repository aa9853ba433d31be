/-
  Code of which a part is not converted: what a piece of code does to states read by value, piece by piece. Own work; over any program.
  A range over a map, in whatever order. Own work; over any program.
-/
import Derived.Test.YtdcpkgedaflnmaaGreatDoorFx3
import Derived.Maps.RangeRun
set_option linter.unusedVariables false
set_option linter.unusedSimpArgs false
namespace Fw
open Go

/-- what must hold before, so that a piece of code ends with what is asked -/
abbrev Wp := (AEx → AS → Prop) → AS → Prop
structure Sim (P : Program) (n : Nat) (ds : List Deferred) (code : Code) (W : Wp) : Prop where
  run : ∀ (c0 : CM) (w0 : World) (Q : AEx → AS → Prop) (c : CM) (s : AS) (a : Act) (w : World), W Q s → St n c0 w0 ds c s a w → code.wp P (QL n c0 w0 ds Q) a w
  mono : ∀ {Q Q' : AEx → AS → Prop}, (∀ e s, Q e s → Q' e s) → ∀ s, W Q s → W Q' s
variable {P : Program} {n : Nat} {ds : List Deferred}
theorem Sim.conv {C : PCtx} (hC : CtxOk P C) {muts : List Nat} {pu : List FuncId} {code : Code} {ac : ACode} (h : cvtC P n muts pu code = some ac) : Sim P n ds code (awp P C ac) :=
  ⟨fun c0 w0 Q c s a w hw hs => awp_sound hC code ac h Q c s a w hw hs, fun hq s h => awp_mono ac hq s h⟩
theorem Sim.seq {x y : Code} {W1 W2 : Wp} (h1 : Sim P n ds x W1) (h2 : Sim P n ds y W2) : Sim P n ds (.seq x y) (fun Q => W1 (thenQ (W2 Q) Q)) := by
  refine ⟨fun c0 w0 Q c s a w hw hs => ?_, fun hq s h => h1.mono (fun e s h => by cases e <;> first | exact h2.mono hq s h | exact hq _ _ h) s h⟩
  refine wp_seq (wp_mono (h1.run c0 w0 _ c s a w hw hs) ?_)
  rintro e a' w' ⟨ae, c', s', hq, hm, hs'⟩
  cases ae <;> cases e <;> simp only [ExM] at hm
  · exact h2.run c0 w0 Q c' s' a' w' hq hs'
  all_goals (first | exact ⟨_, c', s', hq, hm, hs'⟩ | exact ⟨_, c', s', hq, trivial, hs'⟩)
theorem Sim.block {id : Nat} {x : Code} {W : Wp} (h : Sim P n ds x W) : Sim P n ds (.block id x) (fun Q => W (blkQ id Q)) := by
  refine ⟨fun c0 w0 Q c s a w hw hs => ?_, fun {Q Q'} hq s hh => h.mono (fun e s h => by
    cases e <;> simp only [blkQ] at h ⊢
    case exit i =>
      by_cases e : i = id
      · rw [if_pos e] at h ⊢
        exact hq _ _ h
      · rw [if_neg e] at h ⊢
        exact hq _ _ h
    all_goals exact hq _ _ h) s hh⟩
  refine wp_block (wp_mono (h.run c0 w0 _ c s a w hw hs) ?_)
  rintro e a' w' ⟨ae, c', s', hq, hm, hs'⟩
  cases ae <;> cases e <;> simp only [ExM] at hm
  case exit.exit i j =>
    subst hm
    simp only [blkQ] at hq
    simp only [Exit.inBlock]
    split at hq
    · rename_i e
      subst e
      simp only [if_true]
      exact ⟨.normal, c', s', hq, trivial, hs'⟩
    · rename_i e
      rw [if_neg (fun h => e h)]
      exact ⟨.exit _, c', s', hq, rfl, hs'⟩
  all_goals (first | exact ⟨_, c', s', hq, hm, hs'⟩ | exact ⟨_, c', s', hq, trivial, hs'⟩)
theorem Sim.loop {x : Code} {W : Wp} (h : Sim P n ds x W) : Sim P n ds (.loop x) (fun Q s => ∃ m, loopW W m Q s) := by
  have mono : ∀ m {Q Q' : AEx → AS → Prop}, (∀ e s, Q e s → Q' e s) → ∀ s, loopW W m Q s → loopW W m Q' s := by
    intro m
    induction m with
    | zero => intro Q Q' hq s h; exact h
    | succ m ih => intro Q Q' hq s hh; exact h.mono (fun e s h => by cases e <;> first | exact ih hq s h | exact hq _ _ h) s hh
  refine ⟨fun c0 w0 Q c s a w ⟨m, hw⟩ hs => ?_, fun hq s ⟨m, hh⟩ => ⟨m, mono m hq s hh⟩⟩
  intro fb k cs
  have key : ∀ m (c : CM) (s : AS) (a : Act) (w : World), loopW W m Q s → St n c0 w0 ds c s a w →
      ∃ e a' w', QL n c0 w0 ds Q e a' w' ∧ Arrives P (lone (fb.at a (.code x :: .inLoop x :: k)) cs w) fb k cs e a' w' := by
    intro m
    induction m with
    | zero => intro c s a w h; exact h.elim
    | succ m ihm =>
      intro c s a w hh hs
      obtain ⟨e, a₁, w₁, ⟨ae, c', s', hq, hm, hs'⟩, harr⟩ := h.run c0 w0 _ c s a w hh hs fb (.inLoop x :: k) cs
      cases ae <;> cases e <;> simp only [ExM] at hm
      case normal.normal =>
        obtain ⟨e₂, a₂, w₂, hq₂, harr₂⟩ := ihm c' s' a₁ w₁ hq hs'
        exact ⟨e₂, a₂, w₂, hq₂, .of_steps (Steps.trans harr (.one step_inLoop)) harr₂⟩
      case exit.exit i j => exact ⟨.exit j, a₁, w₁, ⟨.exit i, c', s', hq, hm, hs'⟩, .pass (x := .inLoop x) rfl (fun _ _ => .inl (by simp)) harr⟩
      case goto.goto i j => exact ⟨.goto j, a₁, w₁, ⟨.goto i, c', s', hq, hm, hs'⟩, .pass (x := .inLoop x) rfl (fun _ _ => .inl (by simp)) harr⟩
      case ret.ret => exact ⟨.ret, a₁, w₁, ⟨.ret, c', s', hq, trivial, hs'⟩, .pass (x := .inLoop x) rfl (fun _ _ => .inl (by simp)) harr⟩
      case panic.panic z ch => exact ⟨.panic ch, a₁, w₁, ⟨.panic z, c', s', hq, hm, hs'⟩, .pass (x := .inLoop x) rfl (fun _ _ => .inl (by simp)) harr⟩
  obtain ⟨e, a', w', hq, harr⟩ := key m c s a w hw hs
  exact ⟨e, a', w', hq, .of_steps (.one step_loop) harr⟩
/-- a loop by what holds at each round's head -/
theorem loopW_of {W : Wp} (mono : ∀ {Q Q' : AEx → AS → Prop}, (∀ e s, Q e s → Q' e s) → ∀ s, W Q s → W Q' s) {Q : AEx → AS → Prop} {σ : Type} (I : σ → AS → Prop) (μ : σ → Nat)
    (round : ∀ (N : AS → Prop) x s, (∀ y s', μ y < μ x → I y s' → N s') → I x s → W (thenQ N Q) s) {x : σ} {s : AS} (h : I x s) : ∃ m, loopW W m Q s := by
  have key : ∀ n (x : σ) (s : AS), μ x ≤ n → I x s → loopW W (n + 1) Q s := by
    intro n
    induction n with
    | zero => intro x s hx h; exact round _ x s (fun y s' hy => by omega) h
    | succ n ih => intro x s hx h; exact round _ x s (fun y s' hy hI => ih y s' (by omega) hI) h
  exact ⟨_, key _ x s (Nat.le_refl _) h⟩
/-- a whole function -/
theorem FCall.of_sim {f : FuncId} {rs : List ARes} {fn : Func} {body : Code} {W : Wp} (h1 : P.funcs[f]? = some fn) (h2 : fn.body = some body) (h3 : fn.ntmps = n) (h4 : Sim P n [] body W) (h5 : cvRs P n fn.results.toList = some rs) (hok : callOk P f = true) {args : List AV} (hn : args.length ≤ n) {hs : HS} {R : AEnd → HS → Prop}
    (h : W (finQ rs R) ⟨argEnv args, hs⟩) : FCall P f args hs R := by
  refine ⟨hok, fun c w vs hi hv => ?_⟩
  have hvl := hv.1
  have hst : St n c w [] c ⟨argEnv args, hs⟩ { tmps := vs.toArray ++ Array.replicate (fn.ntmps - vs.toArray.size) undef, defers := [] } w := by
    refine ⟨⟨by simp; omega, fun t v ht => ?_⟩, hi, .refl _ _, rfl⟩
    simp only [argEnv]
    rw [Array.getElem?_append] at ht
    split at ht
    · rename_i hlt
      simp at hlt
      have hta : t < args.length := by omega
      rw [List.getD_eq_getElem?_getD, List.getElem?_eq_getElem hta]
      exact hv.2 t v args[t] (by simpa using ht) (List.getElem?_eq_getElem hta)
    · rename_i hlt
      simp at hlt
      rw [Array.getElem?_replicate] at ht
      split at ht <;> (try (cases ht; done))
      injection ht with ht; subst ht
      rw [List.getD_eq_getElem?_getD, List.getElem?_eq_none (by omega)]
      exact Rep.tup [] [] rfl (fun j v y h => by simp at h)
  refine calls_of_wp h1 h2 (wp_mono (h4.run c w _ c _ _ w h hst) ?_)
  rintro e a' w' ⟨ae, c', s', hq, hm, hs'⟩
  have hret : optK (aResult s' rs) (fun x => R (.ret x) s'.hs) → bodyPost P fn (fun e w' => ∃ ae hs' c', R ae hs' ∧ EndRep c' e ae ∧ Inv c' hs' w' ∧ Fr c w c' w') .ret a' w' := by
    intro hq
    cases hx : aResult s' rs with
    | none => rw [hx] at hq; exact hq.elim
    | some x =>
      rw [hx] at hq
      obtain ⟨v, g1, g2⟩ := results_sound hs'.env hs'.inv h5 hx
      exact ⟨hs'.df, v, g1, .ret x, s'.hs, c', hq, g2, hs'.inv, hs'.fr⟩
  cases ae <;> cases e <;> simp only [ExM] at hm
  · exact hret hq
  · exact hq.elim
  · exact hq.elim
  · exact hret hq
  · exact ⟨hs'.df, .panic _, s'.hs, c', hq, hm, hs'.inv, hs'.fr⟩
/-! the iterator of a map -/
/-- a map that is read no more, and a place for the iterator -/
def CM.iter (c : CM) (bm r : Nat) : CM := { c with cl := fun b o => if b = bm ∧ o = 0 then .no else c.cl b o, loc := fun i => if i = c.nh then (r, 0) else c.loc i, nh := c.nh + 1 }
def HS.iter (hs : HS) (m : Nat) : HS := { hs with nh := hs.nh + 1, mp := fun j => if j = m then none else hs.mp j }
theorem iter_alloc {c : CM} {hs : HS} {w : World} (h : Inv c hs w) {m : Nat} {ps : List (AV × AV)} (hm : hs.mp m = some ps) (o : Obj) :
    Inv (c.iter (c.loc m).1 w.heap.size) (hs.iter m) (w.alloc o) ∧ Fr c w (c.iter (c.loc m).1 w.heap.size) (w.alloc o) := by
  obtain ⟨m1, m2, es, ck, m3, m4⟩ := h.maps m ps hm
  have hbm : (c.loc m).1 < w.heap.size := (Array.getElem?_eq_some_iff.1 m3).1
  have hold : ∀ k, k < w.heap.size → (w.alloc o).heap[k]? = w.heap[k]? := fun k hk => heap_alloc_old w o hk
  have hcell : ∀ b off v, w.cell? ⟨b, off, none⟩ = some v → (w.alloc o).cell? ⟨b, off, none⟩ = some v := fun b off v e => by
    have hb := World.block_lt_of_cell? w _ e
    simp only [World.cell?] at e ⊢
    rw [hold b hb]; exact e
  have hfz : ∀ a : Addr, a.block < w.heap.size → (w.alloc o).frozen? a = w.frozen? a := fun a ha => by
    simp only [World.frozen?]
    rw [hold _ ha]
  have hncell : ∀ off v, ¬ w.cell? ⟨(c.loc m).1, off, none⟩ = some v := fun off v e => by
    simp only [World.cell?, m3] at e
    cases e
  have hle : c.le (c.iter (c.loc m).1 w.heap.size) := by
    refine ⟨fun b off v e => ?_, Nat.le_succ _, fun i hi => ?_, Nat.le_refl _, fun _ _ e => e, fun b off k _ e _ => ?_⟩
    · simp only [CM.iter]
      rw [if_neg]
      · exact e
      · rintro ⟨rfl, rfl⟩; rw [m2] at e; cases e
    · simp only [CM.iter]
      rw [if_neg (by omega)]
    · simp only [CM.iter]
      rw [if_neg]
      · exact e
      · rintro ⟨rfl, rfl⟩; rw [m2] at e; cases e
  have hcl : ∀ b off x, x ≠ Cl.no → (c.iter (c.loc m).1 w.heap.size).cl b off = x → c.cl b off = x := fun b off x hx e => by
    simp only [CM.iter] at e
    split at e
    · exact absurd e.symm hx
    · exact e
  refine ⟨⟨?_, h.nt, h.tokv, h.vlt, fun b off v e => hcell _ _ _ (h.imm b off v (hcl _ _ _ (by simp) e)), fun b off k e => ?_, fun i ys e => ?_, fun b off e => ?_, fun i qs e => ?_⟩, ⟨hle, rfl, rfl, by simp, fun b hb => ?_, fun b off hb e => ?_, fun a ha => hfz a ha⟩⟩
  · show hs.nh + 1 = c.nh + 1
    rw [h.nh]
  · obtain ⟨⟨v, hv⟩, h2⟩ := h.toks b off k (hcl _ _ _ (by simp) e)
    exact ⟨⟨v, hcell _ _ _ hv⟩, by rw [hfz ⟨b, off, none⟩ (World.block_lt_of_cell? w _ hv)]; exact h2⟩
  · obtain ⟨h1, h2⟩ := h.heap i ys e
    have hi : i ≠ c.nh := by omega
    refine ⟨Nat.lt_succ_of_lt h1, fun j y hy => ?_⟩
    obtain ⟨a1, a2, a3, v, a4, a5⟩ := h2 j y hy
    simp only [CM.iter, if_neg hi]
    refine ⟨a1, ?_, ?_, v, hcell _ _ _ a4, a5.mono hle⟩
    · rw [if_neg]
      · exact a2
      · rintro ⟨e1, _⟩
        rw [e1] at a4
        exact hncell _ _ a4
    · rw [hfz ⟨_, _, none⟩ (World.block_lt_of_cell? w _ a4)]; exact a3
  · simp only [CM.iter]
    split
    · rfl
    · exact h.dom b off (by simp at e; omega)
  · simp only [HS.iter] at e
    split at e
    · cases e
    rename_i him
    obtain ⟨a1, a2, es2, ck2, a3, a4⟩ := h.maps i qs e
    have hi : i ≠ c.nh := by omega
    simp only [CM.iter, if_neg hi]
    have hb2 : (c.loc i).1 < w.heap.size := (Array.getElem?_eq_some_iff.1 a3).1
    refine ⟨Nat.lt_succ_of_lt a1, ?_, es2, ck2, by rw [hold _ hb2]; exact a3, a4.mono hle⟩
    rw [if_neg]
    · exact a2
    · rintro ⟨e1, _⟩
      rw [e1, m2] at a2
      injection a2 with a2 _
      exact him a2.symm
  · rw [hold b hb]; exact .refl _ _ _
  · simp only [CM.iter]
    split
    · rfl
    · exact e
theorem sb_other {w : World} {r k : Nat} {o : Obj} (h : k ≠ r) : (ChangeMaps.setBlock w r o).heap[k]? = w.heap[k]? := by
  simp [ChangeMaps.setBlock, Array.getElem?_setIfInBounds, Ne.symm h]
theorem sb_size {w : World} {r : Nat} {o : Obj} : (ChangeMaps.setBlock w r o).heap.size = w.heap.size := by simp [ChangeMaps.setBlock]
theorem sb_same {w : World} {r : Nat} {o o' : Obj} (h : w.heap[r]? = some o') : (ChangeMaps.setBlock w r o).heap[r]? = some o := by
  have := (Array.getElem?_eq_some_iff.1 h).1
  simp [ChangeMaps.setBlock, Array.getElem?_setIfInBounds, this]
theorem iter_set {c c0 : CM} {hs : HS} {w w0 : World} (h : Inv c hs w) (hf : Fr c0 w0 c w) {r : Nat} (hno : ∀ o, c.cl r o = .no) (hr : w0.heap.size ≤ r) (o : Obj) :
    Inv c hs (ChangeMaps.setBlock w r o) ∧ Fr c0 w0 c (ChangeMaps.setBlock w r o) := by
  have hne : ∀ b off, c.cl b off ≠ .no → b ≠ r := fun b off hn e => hn (by rw [e]; exact hno off)
  have hcell : ∀ b off, b ≠ r → (ChangeMaps.setBlock w r o).cell? ⟨b, off, none⟩ = w.cell? ⟨b, off, none⟩ := fun b off hb => by
    simp only [World.cell?, sb_other hb]
  have hfz : ∀ b off x, b ≠ r → (ChangeMaps.setBlock w r o).frozen? ⟨b, off, x⟩ = w.frozen? ⟨b, off, x⟩ := fun b off x hb => by
    simp only [World.frozen?, sb_other hb]
  refine ⟨⟨h.nh, h.nt, h.tokv, h.vlt, fun b off v e => ?_, fun b off k e => ?_, fun i ys e => ?_, fun b off e => h.dom b off (by rw [sb_size] at e; exact e), fun i qs e => ?_⟩, ⟨hf.le, hf.os, hf.out, by rw [sb_size]; exact hf.size, fun b hb => ?_, hf.no, fun a ha => ?_⟩⟩
  · rw [hcell b off (hne b off (by rw [e]; simp))]; exact h.imm b off v e
  · have hb := hne b off (by rw [e]; simp)
    rw [hcell b off hb, hfz b off _ hb]; exact h.toks b off k e
  · obtain ⟨h1, h2⟩ := h.heap i ys e
    refine ⟨h1, fun j y hy => ?_⟩
    obtain ⟨a1, a2, a3, v, a4, a5⟩ := h2 j y hy
    have hb := hne _ _ (by rw [a2]; simp)
    exact ⟨a1, a2, by rw [hfz _ _ _ hb]; exact a3, v, by rw [hcell _ _ hb]; exact a4, a5⟩
  · obtain ⟨a1, a2, es2, ck2, a3, a4⟩ := h.maps i qs e
    have hb := hne _ _ (by rw [a2]; simp)
    exact ⟨a1, a2, es2, ck2, by rw [sb_other hb]; exact a3, a4⟩
  · rw [sb_other (by omega)]; exact hf.blk b hb
  · have hb : a.block ≠ r := by omega
    obtain ⟨b, off, x⟩ := a
    rw [hfz b off x hb]; exact hf.frz _ ha
end Fw
set_option linter.unusedVariables false
set_option linter.unusedSimpArgs false
namespace Fw
open Go
variable {P : Program} {n : Nat} {ds : List Deferred}

/-- an operation of this form, wanted always -/
structure IsOp (o : Oper) (d : Nat) (op : Op) : Prop where
  dst : o.dst = some d
  op : o.op = op
  guard : o.guard = none
theorem op_step {ops : Array Oper} {i : Nat} {rest : List Nat} {o : Oper} {d : Nat} {op : Op} (h : ops[i]? = some o) (ho : IsOp o d op) {a : Act} {w w' : World} {v : Value} {Q : Exit → Act → World → Prop}
    (he : (execOp a.eval o).run P w = .ok (.value v) w') (hn : wpOps P ops Q rest (a.put (some d) v) w') : wpOps P ops Q (i :: rest) a w := by
  unfold wpOps
  rw [h]
  simp only
  rw [if_pos (by unfold Region.wanted; rw [ho.guard])]
  left
  unfold Oper.wp
  rw [he, Oper.upon_value, ho.dst]
  exact hn
theorem ex_move {o : Oper} {d : Nat} {x : Operand} (h : IsOp o d (.move x)) (ρ : Operand → Value) (w : World) : (execOp ρ o).run P w = .ok (.value (ρ x)) w := by
  obtain ⟨dst, op, ty, pos, after, guard⟩ := o
  obtain ⟨h1, h2, h3⟩ := h
  simp only at h1 h2 h3
  subst h2
  rfl
theorem ex_assign {o : Oper} {d : Nat} {x : Operand} (h : IsOp o d (.assign x)) (ρ : Operand → Value) (w : World) : (execOp ρ o).run P w = .ok (.value (ρ x)) w := by
  obtain ⟨dst, op, ty, pos, after, guard⟩ := o
  obtain ⟨h1, h2, h3⟩ := h
  simp only at h1 h2 h3
  subst h2
  rfl
theorem ex_sem {o : Oper} {ρ : Operand → Value} {m : Sem Value} {w w' : World} {v : Value} (he : execOp ρ o = (do Pure.pure (.value (← m)))) (hr : m.run P w = .ok v w') : (execOp ρ o).run P w = .ok (.value v) w' := by
  rw [he]
  simp only [Sem.run_bind, hr, Result.andThen_ok, Sem.run_pure]
theorem ex_range {o : Oper} {d : Nat} {T : TypeId} {x : Operand} (h : IsOp o d (.range T x)) (ρ : Operand → Value) : execOp ρ o = (do Pure.pure (.value (← Instr.range T (ρ x)))) := by
  obtain ⟨dst, op, ty, pos, after, guard⟩ := o
  obtain ⟨h1, h2, h3⟩ := h
  simp only at h1 h2 h3
  subst h2
  rfl
theorem ex_next {o : Oper} {d : Nat} {x : Operand} (h : IsOp o d (.next x false)) (ρ : Operand → Value) : execOp ρ o = (do Pure.pure (.value (← Instr.next (ρ x) false o.type))) := by
  obtain ⟨dst, op, ty, pos, after, guard⟩ := o
  obtain ⟨h1, h2, h3⟩ := h
  simp only at h1 h2 h3
  subst h2
  rfl
theorem ex_entry {o : Oper} {d : Nat} {x : Operand} (h : IsOp o d (.entry x)) (ρ : Operand → Value) : execOp ρ o = (do Pure.pure (.value (← Instr.entry (ρ x)))) := by
  obtain ⟨dst, op, ty, pos, after, guard⟩ := o
  obtain ⟨h1, h2, h3⟩ := h
  simp only at h1 h2 h3
  subst h2
  rfl
theorem ex_extract {o : Oper} {d k : Nat} {x : Operand} (h : IsOp o d (.extract x k)) (ρ : Operand → Value) : execOp ρ o = (do Pure.pure (.value (← Instr.extract (ρ x) k))) := by
  obtain ⟨dst, op, ty, pos, after, guard⟩ := o
  obtain ⟨h1, h2, h3⟩ := h
  simp only at h1 h2 h3
  subst h2
  rfl
theorem run_ext {vs : Array Value} {k : Nat} {v : Value} (h : vs[k]? = some v) (w : World) : (Instr.extract (.tuple vs) k).run P w = .ok v w := by
  simp [Instr.extract, h]
theorem eval_put {a : Act} {d : Nat} {v : Value} (h : d < a.tmps.size) : (a.put (some d) v).eval (.tmp d) = v := by
  simp [Act.eval, Act.put, h]
/-- the parts of a loop over a map -/
structure RmParts (n : Nat) (T : TypeId) (tx tx' ti tn tb te tk' tv' tk tv : Nat) (opsA opsB opsC : Array Oper) : Prop where
  a : ∃ o0 o1, opsA = #[o0, o1] ∧ IsOp o0 tx' (.move (.tmp tx)) ∧ IsOp o1 ti (.range T (.tmp tx'))
  b : ∃ o0 o1, opsB = #[o0, o1] ∧ IsOp o0 tn (.next (.tmp ti) false) ∧ IsOp o1 tb (.extract (.tmp tn) 0)
  c : ∃ o0 o1 o2 o3 o4, opsC = #[o0, o1, o2, o3, o4] ∧ IsOp o0 te (.entry (.tmp ti)) ∧ IsOp o1 tk' (.extract (.tmp te) 0) ∧ IsOp o2 tv' (.extract (.tmp te) 1) ∧ IsOp o3 tk (.assign (.tmp tk')) ∧ IsOp o4 tv (.assign (.tmp tv'))
  lt : tx < n ∧ tx' < n ∧ ti < n ∧ tn < n ∧ tb < n ∧ te < n ∧ tk' < n ∧ tv' < n ∧ tk < n ∧ tv < n
  ne : te ≠ ti ∧ tk' ≠ te ∧ tv' ≠ tk' ∧ tv' ≠ te ∧ tk ≠ tv' ∧ tk ≠ tk' ∧ tv ≠ tk ∧ tn ≠ ti ∧ tb ≠ ti ∧ tb ≠ tn
/-- what must hold before a loop over a map: J tells which entries have been handed out -/
def rmW (Wb : Wp) (tx tx' ti tn tb te tk' tv' tk tv : Nat) : Wp := fun Q s => ∃ (m : Nat) (ps : List (AV × AV)) (J : List Nat → AS → Prop), s.env tx = .mp m ∧ s.hs.mp m = some ps ∧
  J [] (((⟨s.env, s.hs.iter m⟩ : AS).put (some tx') (.mp m)).put (some ti) (.ref s.hs.nh 0)) ∧
  (∀ done s', J done s' → s'.env ti = .ref s.hs.nh 0) ∧
  (∀ done i s' p, ps[i]? = some p → i ∉ done → J done s' → Wb (endN (J (i :: done))) (((((((s'.put (some tn) (.tup [.bool true, p.1, p.2])).put (some tb) (.bool true)).put (some te) (.tup [p.1, p.2])).put (some tk') p.1).put (some tv') p.2).put (some tk) p.1).put (some tv) p.2)) ∧
  (∀ done s', (∀ i, i < ps.length → i ∈ done) → J done s' → Q .normal ((s'.put (some tn) (.tup [.bool false])).put (some tb) (.bool false)))
theorem rep_tup1 {c : CM} {v : Value} {x : AV} (h : Rep c v x) : Rep c (.tuple #[v]) (.tup [x]) := by
  have := RepL.cons h RepL.nil
  exact Rep.tup [v] [x] this.1 this.2
theorem rep_tup2 {c : CM} {u v : Value} {x y : AV} (h1 : Rep c u x) (h2 : Rep c v y) : Rep c (.tuple #[u, v]) (.tup [x, y]) := by
  have := RepL.cons h1 (RepL.cons h2 RepL.nil)
  exact Rep.tup [u, v] [x, y] this.1 this.2
theorem rep_tup3 {c : CM} {u v z : Value} {x y q : AV} (h1 : Rep c u x) (h2 : Rep c v y) (h3 : Rep c z q) : Rep c (.tuple #[u, v, z]) (.tup [x, y, q]) := by
  have := RepL.cons h1 (RepL.cons h2 (RepL.cons h3 RepL.nil))
  exact Rep.tup [u, v, z] [x, y, q] this.1 this.2
theorem ev_of {c : CM} {s : AS} {a : Act} (he : EnvRep n c a s) {t : Nat} (ht : t < n) : Rep c (a.eval (.tmp t)) (s.env t) := cvO_sound (o := .tmp t) (od := .t t) (by simp [cvO, ht]) he
theorem St.drew {c0 c : CM} {w0 : World} {s : AS} {a : Act} {w : World} (h : St n c0 w0 ds c s a w) : St n c0 w0 ds c s a w.drew := ⟨h.env, h.inv.drew, h.fr.drew, h.df⟩
theorem st_set {c0 c : CM} {w0 : World} {s : AS} {a : Act} {w : World} (h : St n c0 w0 ds c s a w) {r : Nat} (hno : ∀ o, c.cl r o = .no) (hr : w0.heap.size ≤ r) (o : Obj) : St n c0 w0 ds c s a (ChangeMaps.setBlock w r o) :=
  ⟨h.env, (iter_set h.inv h.fr hno hr o).1, (iter_set h.inv h.fr hno hr o).2, h.df⟩
theorem st_put {c0 c : CM} {w0 : World} {s : AS} {a : Act} {w : World} (h : St n c0 w0 ds c s a w) (d : Nat) {v : Value} {x : AV} (hr : Rep c v x) : St n c0 w0 ds c (s.put (some d) x) (a.put (some d) v) w := h.put (some d) hr h.inv (.refl _ _)
theorem size_put {a : Act} {d : Nat} {v : Value} : (a.put (some d) v).tmps.size = a.tmps.size := by simp [Act.put]
theorem eval_put' {a : Act} {d t : Nat} {v : Value} (h : t ≠ d) : (a.put (some d) v).eval (.tmp t) = a.eval (.tmp t) := by
  simp [Act.eval, Act.put, Array.getD_eq_getD_getElem?, Array.getElem?_setIfInBounds, Ne.symm h]
/-- the state of a loop over a map -/
structure RmI (n : Nat) (ds : List Deferred) (c0 : CM) (w0 : World) (J : List Nat → AS → Prop) (ps : List (AV × AV)) (bm r it since : Nat) (es : Array MapEntry) (ck : Nat) (a : Act) (w : World) (c : CM) (s : AS) (done : List Nat) (seen : Array Nat) (last : Nat) : Prop where
  st : St n c0 w0 ds c s a w
  j : J done s
  loc : c.loc it = (r, 0)
  lt : it < c.nh
  rno : ∀ o, c.cl r o = .no
  bno : c.cl bm 0 = .no
  hr : w.heap[r]? = some (.mapIter (some bm) since seen last)
  le : since ≤ last
  hb : w.heap[bm]? = some (.map es ck)
  is : ∀ i e, es[i]? = some e → (seen.contains e.born = true ↔ i ∈ done)
  ce : ∀ (i : Nat) (e : MapEntry) (p : AV × AV), es.toList[i]? = some e → ps[i]? = some p → Rep c e.key p.1 ∧ Rep c e.val p.2
theorem Sim.rmap {T k e : TypeId} (hT : P.underlying T = some (.map k e)) {tx tx' ti tn tb te tk' tv' tk tv ia ib ic bid bid2 : Nat} {opsA opsB opsC : Array Oper} (hp : RmParts n T tx tx' ti tn tb te tk' tv' tk tv opsA opsB opsC) {body : Code} {Wb : Wp} (hb : Sim P n ds body Wb) :
    Sim P n ds (.seq (.region ia opsA false) (.block bid (.loop (.seq (.region ib opsB false) (.seq (.cond (.tmp tb) .skip (.exit bid)) (.block bid2 (.seq (.region ic opsC false) body))))))) (rmW Wb tx tx' ti tn tb te tk' tv' tk tv) := by
  refine ⟨fun c0 w0 Q c s a w ⟨m, ps, J, hx, hm, hJ0, hJr, hJs, hJe⟩ hs => ?_, fun {Q Q'} hq s ⟨m, ps, J, hx, hm, hJ0, hJr, hJs, hJe⟩ => ⟨m, ps, J, hx, hm, hJ0, hJr, hJs, fun d s' h1 h2 => hq _ _ (hJe d s' h1 h2)⟩⟩
  obtain ⟨a0, a1, rfl, ha0, ha1⟩ := hp.a
  obtain ⟨b0, b1, rfl, hb0, hb1⟩ := hp.b
  obtain ⟨o0, o1, o2, o3, o4, rfl, ho0, ho1, ho2, ho3, ho4⟩ := hp.c
  obtain ⟨l1, l2, l3, l4, l5, l6, l7, l8, l9, l10⟩ := hp.lt
  obtain ⟨n1, n2, n3, n4, n5, n6, n7, n8, n9, n10⟩ := hp.ne
  obtain ⟨m1, m2, es, ck, m3, m4⟩ := hs.inv.maps m ps hm
  have hbmw : (c.loc m).1 < w.heap.size := (Array.getElem?_eq_some_iff.1 m3).1
  obtain ⟨bm, hbm⟩ : ∃ bm, (c.loc m).1 = bm := ⟨_, rfl⟩
  have hev : a.eval (.tmp tx) = .map (some bm) := by
    have := ev_of hs.env l1
    rw [hx] at this
    generalize a.eval (.tmp tx) = v at this
    cases this
    rw [hbm]
  rw [hbm] at m2 m3 hbmw
  have hsz := hs.env.size
  obtain ⟨hI, hF⟩ := iter_alloc hs.inv hm (.mapIter (some bm) ck #[] ck)
  rw [hbm] at hI hF
  refine wp_seq (wp_region ?_)
  rw [show List.range (#[a0, a1] : Array Oper).size = [0, 1] from rfl]
  refine op_step rfl ha0 (ex_move ha0 _ _) ?_
  have hev1 : (a.put (some tx') (a.eval (.tmp tx))).eval (.tmp tx') = .map (some bm) := by rw [eval_put (by omega), hev]
  refine op_step rfl ha1 (ex_sem (ex_range ha1 _) (by rw [hev1]; exact run_range_map w T k e bm es ck hT m3)) ?_
  show Exit.then _ _ Exit.normal _ _
  refine wp_block ?_
  obtain ⟨r, hr⟩ : ∃ r, r = w.heap.size := ⟨_, rfl⟩
  obtain ⟨c1, hc1⟩ : ∃ c1, c1 = c.iter bm r := ⟨_, rfl⟩
  rw [← hr, ← hc1] at hI hF
  have hnh := hs.inv.nh
  have hloc : c1.loc c.nh = (r, 0) := by rw [hc1]; simp [CM.iter]
  have hlocm : c1.loc m = c.loc m := by rw [hc1]; simp only [CM.iter]; rw [if_neg (by omega)]
  have hnh1 : c1.nh = c.nh + 1 := by rw [hc1]; rfl
  have hrm : Rep c1 (.map (some bm)) (.mp m) := by
    have := Rep.mp (c := c1) m (by omega)
    rw [hlocm, hbm] at this
    exact this
  have hrr : Rep c1 (.pointer (some ⟨r, 0, none⟩)) (.ref c.nh 0) := by
    have := Rep.ref (c := c1) c.nh 0 (by omega)
    rw [hloc] at this
    exact this
  rw [hnh] at hJ0 hJr
  obtain ⟨it, hit⟩ : ∃ it, it = c.nh := ⟨_, rfl⟩
  rw [← hit] at hJ0 hJr hloc hrr hnh1
  have hst1 := st_put (x := .ref it 0) (hs.put (some tx') (x := .mp m) (v := a.eval (.tmp tx)) (hs' := s.hs.iter m) (by rw [hev]; exact hrm) hI hF) ti hrr
  have hinit : RmI n ds c0 w0 J ps bm r it ck es ck ((a.put (some tx') (a.eval (.tmp tx))).put (some ti) (.pointer (some ⟨r, 0, none⟩))) (w.alloc (.mapIter (some bm) ck #[] ck)) c1 (((⟨s.env, s.hs.iter m⟩ : AS).put (some tx') (.mp m)).put (some ti) (.ref it 0)) [] #[] ck := by
    refine ⟨hst1, hJ0, hloc, by omega, fun o => ?_, ?_, ?_, Nat.le_refl _, ?_, fun i e he => by simp, fun i e p h1 h2 => ⟨(m4.rm.2 i e p h1 h2).1.mono hF.le, (m4.rm.2 i e p h1 h2).2.mono hF.le⟩⟩
    · rw [hc1]
      simp only [CM.iter]
      rw [if_neg (by omega)]
      exact hs.inv.dom r o (by omega)
    · rw [hc1]; simp only [CM.iter]; rw [if_pos ⟨trivial, trivial⟩]
    · rw [hr]; exact heap_alloc_new _ _
    · rw [heap_alloc_old w _ hbmw]; exact m3
  have hrw0 : w0.heap.size ≤ r := by rw [hr]; exact hs.fr.size
  have hrb : r ≠ bm := by omega
  rw [← hr]
  refine wp_loop (fun a w => ∃ c s done seen last, RmI n ds c0 w0 J ps bm r it ck es ck a w c s done seen last) (fun _ w => (leftOf es (w.iterSeen r)).size) ⟨c1, _, [], #[], ck, hinit⟩ ?_
  rintro a w ⟨c, s, done, seen, last, h⟩
  have hti := hJr done s h.j
  have hsz2 := h.st.env.size
  have hev2 : a.eval (.tmp ti) = .pointer (some ⟨r, 0, none⟩) := by
    have := ev_of h.st.env l3
    rw [hti] at this
    generalize a.eval (.tmp ti) = v at this
    have hl := h.loc
    cases this
    rw [hl]
  have hes : es.size = ps.length := by have := m4.rm.1; simpa using this
  rcases run_next_at (P := P) w b0.type r bm ck last seen es ck h.hr h.hb m4.born h.le with ⟨h0, hrun⟩ | ⟨e0, he0, w1, hal, hrun⟩
  · refine wp_seq (wp_region ?_)
    rw [show List.range (#[b0, b1] : Array Oper).size = [0, 1] from rfl]
    refine op_step rfl hb0 (ex_sem (ex_next hb0 _) (by rw [hev2]; exact hrun)) ?_
    refine op_step rfl hb1 (ex_sem (ex_extract hb1 _) (by rw [eval_put (by omega)]; exact run_ext (v := .bool false) rfl w)) ?_
    show Exit.then _ _ Exit.normal _ _
    refine wp_seq (wp_cond_false (by rw [eval_put (by rw [size_put]; omega)]) (wp_exit ?_))
    have hall : ∀ i, i < ps.length → i ∈ done := fun i hi => by
      have hi' : i < es.size := by omega
      exact (h.is i es[i] (by simp [hi'])).1 (all_seen es seen h0 es[i] (by simp))
    have hfin := hJe done s hall h.j
    have hst := st_put (st_put h.st tn (rep_tup1 (.bool false))) tb (.bool false)
    simp only [Exit.then, Exit.inBlock, if_true]
    exact ⟨.normal, c, _, hfin, trivial, hst⟩
  · obtain ⟨hem, hes0⟩ := mem_left he0
    obtain ⟨i, hi⟩ := List.mem_iff_getElem?.1 hem
    have hia : es[i]? = some e0 := by rw [← Array.getElem?_toList]; exact hi
    have hilt : i < ps.length := by
      have := (List.getElem?_eq_some_iff.1 hi).1
      simp at this
      omega
    obtain ⟨p, hpi⟩ : ∃ p, ps[i]? = some p := ⟨ps[i], by simp [hilt]⟩
    obtain ⟨rk, rv⟩ := h.ce i e0 p hi hpi
    have hnd : i ∉ done := fun hd => by rw [(h.is i e0 hia).2 hd] at hes0; cases hes0
    have hst1 : St n c0 w0 ds c s a w1 := by
      rcases hal with e | e
      · rw [e]; exact h.st
      · rw [e]; exact h.st.drew
    have hr1 : w1.heap[r]? = some (.mapIter (some bm) ck seen last) := by rcases hal with rfl | rfl <;> exact h.hr
    have hb1' : w1.heap[bm]? = some (.map es ck) := by rcases hal with rfl | rfl <;> exact h.hb
    obtain ⟨w2, hw2⟩ : ∃ w2, w2 = ChangeMaps.setBlock w1 r (.mapIter (some bm) ck (seen.push e0.born) ck) := ⟨_, rfl⟩
    have hst2 : St n c0 w0 ds c s a w2 := by rw [hw2]; exact st_set hst1 h.rno hrw0 _
    have hr2 : w2.heap[r]? = some (.mapIter (some bm) ck (seen.push e0.born) ck) := by rw [hw2]; exact sb_same hr1
    have hb2 : w2.heap[bm]? = some (.map es ck) := by rw [hw2, sb_other (Ne.symm hrb)]; exact hb1'
    rw [← hw2] at hrun
    have hst3 := st_put (st_put hst2 tn (rep_tup3 (.bool true) rk rv)) tb (.bool true)
    refine wp_seq (wp_region ?_)
    rw [show List.range (#[b0, b1] : Array Oper).size = [0, 1] from rfl]
    refine op_step rfl hb0 (ex_sem (ex_next hb0 _) (by rw [hev2]; exact hrun)) ?_
    refine op_step rfl hb1 (ex_sem (ex_extract hb1 _) (by rw [eval_put (by omega)]; exact run_ext (v := .bool true) rfl w2)) ?_
    show Exit.then _ _ Exit.normal _ _
    refine wp_seq (wp_cond_true (by rw [eval_put (by rw [size_put]; omega)]) (wp_skip ?_))
    show Exit.then _ _ Exit.normal _ _
    refine wp_block (wp_seq (wp_region ?_))
    rw [show List.range (#[o0, o1, o2, o3, o4] : Array Oper).size = [0, 1, 2, 3, 4] from rfl]
    have hen := run_entry_at (P := P) w2 r bm ck seen es ck e0 hr2 hb2 hem m4.nd
    refine op_step rfl ho0 (ex_sem (ex_entry ho0 _) (by rw [eval_put' (Ne.symm n9), eval_put' (Ne.symm n8), hev2]; exact hen)) ?_
    refine op_step rfl ho1 (ex_sem (ex_extract ho1 _) (by rw [eval_put (by simp only [size_put]; omega)]; exact run_ext (v := e0.key) rfl w2)) ?_
    refine op_step rfl ho2 (ex_sem (ex_extract ho2 _) (by rw [eval_put' (Ne.symm n2), eval_put (by simp only [size_put]; omega)]; exact run_ext (v := e0.val) rfl w2)) ?_
    refine op_step rfl ho3 (ex_assign ho3 _ _) ?_
    rw [eval_put' (Ne.symm n3), eval_put (by simp only [size_put]; omega)]
    refine op_step rfl ho4 (ex_assign ho4 _ _) ?_
    rw [eval_put' (Ne.symm n5), eval_put (by simp only [size_put]; omega)]
    show Exit.then _ _ Exit.normal _ _
    have hst4 := st_put (st_put (st_put (st_put (st_put hst3 te (rep_tup2 rk rv)) tk' rk) tv' rv) tk rk) tv rv
    have hW := hJs done i s p hpi hnd h.j
    refine wp_mono (hb.run c w2 _ c _ _ w2 hW ⟨hst4.env, hst4.inv, .refl _ _, hst4.df⟩) ?_
    rintro ex a' w' ⟨ae, c', s', hq, hmm, hs'⟩
    cases ae <;> try exact hq.elim
    cases ex <;> simp only [ExM] at hmm
    have hr2l : r < w2.heap.size := (Array.getElem?_eq_some_iff.1 hr2).1
    have hb2l : bm < w2.heap.size := (Array.getElem?_eq_some_iff.1 hb2).1
    have hr3 : w'.heap[r]? = some (.mapIter (some bm) ck (seen.push e0.born) ck) := by
      have := hs'.fr.blk r hr2l
      rw [hr2] at this
      exact this
    have hb3 : w'.heap[bm]? = some (.map es ck) := by
      have := hs'.fr.blk bm hb2l
      rw [hb2] at this
      obtain ⟨es', k', e1, e2⟩ := this
      obtain ⟨rfl, rfl⟩ := e2 (by rw [h.bno]; rfl)
      exact e1
    refine ⟨⟨c', s', i :: done, seen.push e0.born, ck, ⟨⟨hs'.env, hs'.inv, hst4.fr.trans hs'.fr, hs'.df⟩, hq, ?_, Nat.lt_of_lt_of_le h.lt hs'.fr.le.nh, fun o => hs'.fr.no r o hr2l (h.rno o), hs'.fr.no bm 0 hb2l h.bno, hr3, Nat.le_refl _, hb3, fun i' e' he' => ?_, fun i' e' p' q1 q2 => ⟨(h.ce i' e' p' q1 q2).1.mono hs'.fr.le, (h.ce i' e' p' q1 q2).2.mono hs'.fr.le⟩⟩⟩, ?_⟩
    · rw [hs'.fr.le.loc it h.lt]; exact h.loc
    · rw [contains_push, Bool.or_eq_true, h.is i' e' he', List.mem_cons, beq_iff_eq]
      have : e'.born = e0.born ↔ i' = i := by
        constructor
        · intro hbn
          have hnd2 := m4.nd
          rw [List.nodup_iff_pairwise_ne, List.pairwise_map] at hnd2
          have hi'l := (Array.getElem?_eq_some_iff.1 he').1
          have hil := (Array.getElem?_eq_some_iff.1 hia).1
          have e1 : es.toList[i']'(by simpa using hi'l) = e' := by
            have := (Array.getElem?_eq_some_iff.1 he').2
            simpa using this
          have e2 : es.toList[i]'(by simpa using hil) = e0 := by
            have := (Array.getElem?_eq_some_iff.1 hia).2
            simpa using this
          rcases Nat.lt_trichotomy i' i with hlt | heq | hgt
          · have := List.pairwise_iff_getElem.1 hnd2 i' i (by simpa using hi'l) (by simpa using hil) hlt
            rw [e1, e2] at this
            exact absurd hbn this
          · exact heq
          · have := List.pairwise_iff_getElem.1 hnd2 i i' (by simpa using hil) (by simpa using hi'l) hgt
            rw [e1, e2] at this
            exact absurd hbn.symm this
        · rintro rfl
          rw [hia] at he'
          injection he' with he'
          rw [he']
      rw [this]
      exact or_comm
    · have f1 : w'.iterSeen r = seen.push e0.born := by simp only [World.iterSeen, hr3]
      have f2 : w.iterSeen r = seen := by simp only [World.iterSeen, h.hr]
      rw [f1, f2]
      exact left_shrinks es seen e0 he0
/-- a part of a piece of code -/
def cIn : List Nat → Code → Code
  | [], c => c
  | 0 :: p, .seq a _ => cIn p a
  | 1 :: p, .seq _ b => cIn p b
  | 2 :: p, .block _ b => cIn p b
  | 2 :: p, .loop b => cIn p b
  | _, c => c
end Fw
