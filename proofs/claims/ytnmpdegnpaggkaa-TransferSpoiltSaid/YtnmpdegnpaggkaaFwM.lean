/-
  One operation's step under the by-value reading. Own work; over any program.
-/
import Derived.Test.YtnmpdegnpaggkaaFwL
set_option linter.unusedVariables false
set_option linter.unusedSimpArgs false
namespace Fw
open Go

theorem sound_lenS {P : Program} {t ty e : TypeId} (hd : P.underlying t = some (.slice e)) {c : CM} {s : HS} {w : World} (h : Inv c s w) {v : Value} {p x : AV} (hp : Rep c v p) (hx : alenK false p = some x) : DoneS P c w (Builtin.len_ #[t] ty #[v]) x s := by
  cases hp <;> simp only [alenK] at hx <;> (try (cases hx; done)) <;> (try (simp at hx; done)) <;> simp at hx <;> subst hx
  · exact .pure h (v := .int .i64 0) (by simp [Builtin.len_, run_underlying hd, goInt]) (.int .i64 _)
  · exact .pure h (by simp [Builtin.len_, run_underlying hd, goInt]) (.int .i64 _)
theorem sound_lenT {P : Program} {t ty : TypeId} (hd : P.underlying t = some .string) {c : CM} {s : HS} {w : World} (h : Inv c s w) {v : Value} {p x : AV} (hp : Rep c v p) (hx : alenK true p = some x) : DoneS P c w (Builtin.len_ #[t] ty #[v]) x s := by
  cases hp <;> simp only [alenK] at hx <;> (try (cases hx; done)) <;> (try (simp at hx; done)) <;> simp at hx <;> subst hx
  exact .pure h (by simp [Builtin.len_, run_underlying hd, goInt]) (.int .i64 _)

theorem invoke_call {P : Program} {o : Oper} {a : Act} {w : World} {next : Act → World → Prop} {Q : Exit → Act → World → Prop} {cl : Call} (ho : o.op = .call cl) {g : Operand} (hg : cl.callee = .value g)
    {f : FuncId} {v1 v2 : Array Value} (hv : a.eval g = .func (.func f) v1 v2) (hok : callOk P f = true)
    (h : Calls P f (v1 ++ cl.args.map a.eval ++ v2) w fun
      | .returned v, w'' => next (a.put o.dst v) w''
      | .panicked chain, w'' => Q (.panic chain) a w''
      | .outgrown, _ => LetsOut Q) : o.wp P a w next Q := by
  unfold Oper.wp
  have : (execOp a.eval o).run P w = .ok (.enter f (v1 ++ cl.args.map a.eval ++ v2)) w := by
    unfold execOp
    rw [ho]
    simp only [resolve, hg, Deferred.ofValue, hv, Sem.run_bind, Sem.run_pure, Result.andThen_ok, invoke]
    exact run_callFunc hok _ _
  rw [this, Oper.upon_enter]
  exact h

theorem op_det {P : Program} {C : PCtx} (hC : CtxOk P C) {n : Nat} {muts : List Nat} {pu : List FuncId} {o : Oper} {ao : AOp} (hcv : cvtOp P n muts pu o.dst o.op = some ao)
    {s : AS} {x : AV} {hs' : HS} (hx : evalOp C s ao = some (x, hs')) {c : CM} {a : Act} {w : World} (he : EnvRep n c a s) (hi : Inv c s.hs w)
    {next : Act → World → Prop} {Q : Exit → Act → World → Prop} (hn : ∀ v w' c', Rep c' v x → Inv c' hs' w' → Fr c w c' w' → next (a.put o.dst v) w') : o.wp P a w next Q := by
  obtain ⟨dst, op, type, pos, after, guard⟩ := o
  simp only at hcv hn
  cases op with
  | move y =>
    simp only [cvtOp] at hcv
    obtain ⟨y', hy, rfl⟩ := optmap_some hcv
    simp only [evalOp] at hx
    injection hx with hx; injection hx with e1 e2; subst e1; subst e2
    exact wp_value0 rfl (cvO_sound hy he) hi hn
  | assign y =>
    simp only [cvtOp] at hcv
    obtain ⟨y', hy, rfl⟩ := optmap_some hcv
    simp only [evalOp] at hx
    injection hx with hx; injection hx with e1 e2; subst e1; subst e2
    exact wp_value0 rfl (cvO_sound hy he) hi hn
  | pick cc ca cb =>
    simp only [cvtOp] at hcv
    split at hcv <;> (try (cases hcv; done))
    rename_i c' a' b' h1 h2 h3
    injection hcv with hcv; subst hcv
    simp only [evalOp] at hx
    obtain ⟨y, hy, e⟩ := optmap_some hx
    injection e with e1 e2; subst e1; subst e2
    have r1 := cvO_sound h1 he
    have r2 := cvO_sound h2 he
    have r3 := cvO_sound h3 he
    unfold apick at hy
    split at hy <;> (try (cases hy; done))
    rename_i x2 x3 b hb
    injection hy with hy
    rw [hb] at r1
    have hbv := r1.bool_inv
    refine wp_value0 (v := if b then a.eval ca else a.eval cb) (hs' := s.hs) (c := c) (x := y) ?_ ?_ hi hn
    · simp only [execOp, hbv, asBool, pure_bind]
    · cases b
      · simp only [cond_false] at hy; subst hy; exact r3
      · simp only [cond_true] at hy; subst hy; exact r2
  | binOp bop t y z yt =>
    simp only [cvtOp] at hcv
    split at hcv <;> (try (cases hcv; done))
    rename_i y' z' h1 h2
    injection hcv with hcv; subst hcv
    simp only [evalOp] at hx
    obtain ⟨r, hr, e⟩ := optmap_some hx
    injection e with e1 e2; subst e1; subst e2
    obtain ⟨k1, k2, k3⟩ := kindOf_ok (P := P) (op := bop) (t := t) (x := y) (y := z)
    exact wp_value rfl (sound_bin k1 k2 k3 hi (cvO_sound h1 he) (cvO_sound h2 he) hr) hn
  | unOp uop t y =>
    simp only [cvtOp] at hcv
    obtain ⟨y', hy, rfl⟩ := optmap_some hcv
    simp only [evalOp] at hx
    obtain ⟨r, hr, e⟩ := optmap_some hx
    injection e with e1 e2; subst e1; subst e2
    exact wp_value rfl (sound_un hi (cvO_sound hy he) hr) hn
  | convert sr ds y =>
    simp only [cvtOp] at hcv
    split at hcv <;> (try (cases hcv; done))
    rename_i d0 k y' h1 h2 h3
    injection hcv with hcv; subst hcv
    simp only [evalOp] at hx
    obtain ⟨r, hr, e⟩ := optmap_some hx
    injection e with e1 e2; subst e1; subst e2
    exact wp_value rfl (sound_conv h1 h2 hi (cvO_sound h3 he) hr) hn
  | alloc t =>
    simp only [cvtOp] at hcv
    obtain ⟨zs, hz, rfl⟩ := optmap_some hcv
    simp only [evalOp] at hx
    injection hx with hx; injection hx with e1 e2; subst e1; subst e2
    obtain ⟨i, z, h1, h2, h3⟩ := cvZero_inv hz
    obtain ⟨z1, z2⟩ := zcells_rep (c := c) h3
    obtain ⟨c', i1, i2, i3⟩ := hi.newBlk z.cells.toList zs t z1 z2
    have hd : DoneS P c w (Instr.alloc t true (.tuple #[])) (.ref s.hs.nh 0) { s.hs with heap := fun i => if i = s.hs.nh then some zs else s.hs.heap i, nh := s.hs.nh + 1 } := by
      refine ⟨.pointer (some ⟨w.heap.size, 0, none⟩), _, c', ?_, i3, i1, i2⟩
      simp only [Instr.alloc, Sem.run_bind, zeroValue, typeInfo, run_program, Result.andThen_ok, h1, Sem.run_pure, h2, newVar, newRow, run_newObj]
      rfl
    exact wp_value rfl hd hn
  | box t y =>
    simp only [cvtOp] at hcv
    obtain ⟨y', hy, e⟩ := optmap_some hcv
    have r1 := cvO_sound hy he
    cases hm : isMut muts dst <;> simp only [hm, cond_true, cond_false] at e <;> subst e
    rotate_left
    · simp only [evalOp] at hx
      split at hx <;> (try (cases hx; done))
      rename_i hsto
      injection hx with hx; injection hx with e1 e2; subst e1; subst e2
      exact wp_value rfl (sound_newBlk hi r1 hsto) hn
    · simp only [evalOp] at hx
      split at hx <;> (try (cases hx; done))
      rename_i hsto
      injection hx with hx; injection hx with e1 e2; subst e1; subst e2
      exact wp_value rfl (sound_newImm hi r1 hsto) hn
  | build t ps =>
    simp only [cvtOp] at hcv
    have := sound_build hcv he hi hx
    simp only [Array.toArray_toList] at this
    exact wp_value rfl this hn
  | buildSlice t l ps =>
    simp only [cvtOp] at hcv
    have := sound_buildSl hcv he hi hx
    simp only [Array.toArray_toList] at this
    exact wp_value rfl this hn
  | load t y =>
    simp only [cvtOp, cvLoad] at hcv
    split at hcv <;> (try (cases hcv; done))
    rename_i d i y' h1 h2 h3
    injection hcv with hcv; subst hcv
    simp only [evalOp] at hx
    obtain ⟨r, hr, e⟩ := optmap_some hx
    injection e with e1 e2; subst e1; subst e2
    exact wp_value rfl (sound_load h1 h2 rfl hi (cvO_sound h3 he) hr) hn
  | store t y z =>
    simp only [cvtOp, cvStore] at hcv
    split at hcv <;> (try (cases hcv; done))
    rename_i i y' z' h1 h2 h3
    injection hcv with hcv; subst hcv
    simp only [evalOp] at hx
    obtain ⟨r, hr, e⟩ := optmap_some hx
    injection e with e1 e2; subst e1; subst e2
    obtain ⟨w', g1, g2, g3⟩ := sound_store h1 hi (cvO_sound h2 he) (cvO_sound h3 he) hr
    unfold Oper.wp
    have : (execOp a.eval ⟨dst, .store t y z, type, pos, after, guard⟩).run P w = .ok .skip w' := by
      simp only [execOp, Sem.run_bind, g1, Result.andThen_ok, Sem.run_pure]
    rw [this, Oper.upon_skip]
    exact hn _ w' c (Rep.tup [] [] rfl (fun j v y h => by simp at h)) g2 g3
  | fieldAddr t y f =>
    simp only [cvtOp, cvFaddr] at hcv
    split at hcv <;> (try (cases hcv; done))
    rename_i fs y' h1 h2
    split at hcv <;> (try (cases hcv; done))
    rename_i fl h3
    split at hcv <;> (try (cases hcv; done))
    rename_i d i h4 h5
    split at hcv <;> (try (cases hcv; done))
    rename_i hz
    injection hcv with hcv; subst hcv
    simp only [evalOp] at hx
    obtain ⟨r, hr, e⟩ := optmap_some hx
    injection e with e1 e2; subst e1; subst e2
    exact wp_value rfl (sound_fieldAddr h1 h3 h5 hz hi (cvO_sound h2 he) hr) hn
  | field t y f =>
    simp only [cvtOp, cvField] at hcv
    split at hcv <;> (try (cases hcv; done))
    rename_i fs y' h1 h2
    split at hcv <;> (try (cases hcv; done))
    rename_i fl h3
    split at hcv <;> (try (cases hcv; done))
    rename_i d i h4 h5
    injection hcv with hcv; subst hcv
    simp only [evalOp] at hx
    obtain ⟨r, hr, e⟩ := optmap_some hx
    injection e with e1 e2; subst e1; subst e2
    exact wp_value rfl (sound_field h1 h3 h4 h5 rfl hi (cvO_sound h2 he) hr) hn
  | indexAddr t y k =>
    simp only [cvtOp, cvIaddr] at hcv
    split at hcv <;> (try (cases hcv; done))
    · rename_i e0 y' k' h1 h2 h3
      split at hcv <;> (try (cases hcv; done))
      rename_i i h4
      injection hcv with hcv; subst hcv
      simp only [evalOp] at hx
      obtain ⟨r, hr, e⟩ := optmap_some hx
      injection e with e1 e2; subst e1; subst e2
      exact wp_value rfl (sound_indexS h1 h4 hi (cvO_sound h2 he) (cvO_sound h3 he) hr) hn
    · rename_i len e0 y' k' h1 h2 h3
      split at hcv <;> (try (cases hcv; done))
      rename_i d i h4 h5
      injection hcv with hcv; subst hcv
      simp only [evalOp] at hx
      obtain ⟨r, hr, e⟩ := optmap_some hx
      injection e with e1 e2; subst e1; subst e2
      exact wp_value rfl (sound_indexA h1 h5 hi (cvO_sound h2 he) (cvO_sound h3 he) hr) hn
  | index t y k =>
    simp only [cvtOp, cvIndex] at hcv
    split at hcv <;> (try (cases hcv; done))
    rename_i len e0 y' k' h1 h2 h3
    split at hcv <;> (try (cases hcv; done))
    rename_i d i h4 h5
    injection hcv with hcv; subst hcv
    simp only [evalOp] at hx
    obtain ⟨r, hr, e⟩ := optmap_some hx
    injection e with e1 e2; subst e1; subst e2
    exact wp_value rfl (sound_index h1 h4 h5 rfl hi (cvO_sound h2 he) (cvO_sound h3 he) hr) hn
  | slice t y lo h' mx =>
    simp only [cvtOp, cvSlice] at hcv
    split at hcv <;> (try (cases hcv; done))
    rename_i e0 y' l2 h2' m2 h1 h2 h3 h4 h5
    split at hcv <;> (try (cases hcv; done))
    rename_i i h6
    injection hcv with hcv; subst hcv
    simp only [evalOp] at hx
    obtain ⟨r, hr, e⟩ := optmap_some hx
    injection e with e1 e2; subst e1; subst e2
    exact wp_value rfl (sound_slice h1 h6 hi (cvO_sound h2 he) (cvOpt_sound he h3) (cvOpt_sound he h4) (cvOpt_sound he h5) hr) hn
  | extract y k =>
    simp only [cvtOp] at hcv
    obtain ⟨y', hy, rfl⟩ := optmap_some hcv
    simp only [evalOp] at hx
    obtain ⟨r, hr, e⟩ := optmap_some hx
    injection e with e1 e2; subst e1; subst e2
    exact wp_value rfl (sound_extract hi (cvO_sound hy he) hr) hn
  | makeFunc f xs ys =>
    simp only [cvtOp] at hcv
    split at hcv <;> (try (cases hcv; done))
    rename_i x' y' h1 h2
    injection hcv with hcv; subst hcv
    simp only [evalOp] at hx
    injection hx with hx; injection hx with e1 e2; subst e1; subst e2
    have r1 := cvOs_sound he h1
    have r2 := cvOs_sound he h2
    have hd : DoneS P c w (Instr.makeFunc f (xs.map a.eval) (ys.map a.eval)) (.fn f (x'.map s.ev) (y'.map s.ev)) s.hs := by
      refine .pure hi (v := .func f (xs.map a.eval) (ys.map a.eval)) rfl ?_
      have := Rep.fn (c := c) f (xs.toList.map a.eval) (ys.toList.map a.eval) _ _ r1.1 r2.1 r1.2 r2.2
      have e1 : (xs.toList.map a.eval).toArray = xs.map a.eval := by apply Array.ext'; simp
      have e2 : (ys.toList.map a.eval).toArray = ys.map a.eval := by apply Array.ext'; simp
      rw [e1, e2] at this
      exact this
    exact wp_value rfl hd hn
  | makeInterface t y =>
    simp only [cvtOp] at hcv
    split at hcv <;> (try (cases hcv; done))
    rename_i d y' hne h1 h2
    injection hcv with hcv; subst hcv
    simp only [evalOp] at hx
    injection hx with hx; injection hx with e1 e2; subst e1; subst e2
    refine wp_value rfl (sound_mkif h1 ?_ hi (cvO_sound h2 he)) hn
    cases d <;> first | rfl | exact absurd rfl (hne _)
  | nilCheck y =>
    simp only [cvtOp] at hcv
    obtain ⟨y', hy, rfl⟩ := optmap_some hcv
    simp only [evalOp] at hx
    obtain ⟨r, hr, e⟩ := optmap_some hx
    injection e with e1 e2; subst e1; subst e2
    have r1 := cvO_sound hy he
    generalize hev : s.ev y' = z at r1 hr
    generalize hav : a.eval y = v at r1
    refine wp_value0 (v := v) (c := c) (x := r) (hs' := s.hs) ?_ ?_ hi hn
    · simp only [execOp, hav]
      cases r1 <;> simp only [anilchk] at hr <;> (try (cases hr; done)) <;> (try rfl)
      rename_i f v1 v2 x1 x2 a1 a2 a3 a4
      cases f <;> simp only [anilchk] at hr <;> (try (cases hr; done)) <;> rfl
    · cases r1 <;> simp only [anilchk] at hr <;> (try (cases hr; done))
      · injection hr with hr; subst hr
        rename_i b o vs y hl hc h lf
        exact .ptr b o vs y hl hc h lf
      · injection hr with hr; subst hr
        rename_i i o hlt
        exact .ref i o hlt
      · rename_i f v1 v2 x1 x2 a1 a2 a3 a4
        cases f <;> simp only [anilchk] at hr <;> (try (cases hr; done))
        injection hr with hr; subst hr
        exact .fn _ v1 v2 x1 x2 a1 a2 a3 a4
  | call cl =>
    simp only [cvtOp, cvCall] at hcv
    obtain ⟨callee, args, argTypes⟩ := cl
    simp only at hcv
    split at hcv <;> (try (cases hcv; done))
    · -- len
      unfold cvLen at hcv
      split at hcv <;> (try (cases hcv; done))
      rename_i t y ht ha
      have eT : argTypes = #[t] := by apply Array.ext'; simpa using ht
      have eA : args = #[y] := by apply Array.ext'; simpa using ha
      subst eT; subst eA
      have hrun : execOp a.eval ⟨dst, .call ⟨.builtin .len, #[y], #[t]⟩, type, pos, after, guard⟩ = (do Pure.pure (.value (← Builtin.len_ #[t] type #[a.eval y]))) := by
        simp only [execOp, resolve, pure_bind, invoke, builtin, List.map_toArray, List.map_cons, List.map_nil]
      split at hcv <;> (try (cases hcv; done))
      · rename_i e0 y' h1 h2
        injection hcv with hcv; subst hcv
        simp only [evalOp] at hx
        obtain ⟨r, hr, e⟩ := optmap_some hx
        injection e with e1 e2; subst e1; subst e2
        exact wp_value hrun (sound_lenS h1 hi (cvO_sound h2 he) hr) hn
      · rename_i y' h1 h2
        injection hcv with hcv; subst hcv
        simp only [evalOp] at hx
        obtain ⟨r, hr, e⟩ := optmap_some hx
        injection e with e1 e2; subst e1; subst e2
        exact wp_value hrun (sound_lenT h1 hi (cvO_sound h2 he) hr) hn
    · -- append
      unfold cvAppend at hcv
      split at hcv <;> (try (cases hcv; done))
      rename_i t u y z ht ha
      split at hcv <;> (try (cases hcv; done))
      rename_i htu
      subst htu
      have eT : argTypes = #[t, t] := by apply Array.ext'; simpa using ht
      have eA : args = #[y, z] := by apply Array.ext'; simpa using ha
      subst eT; subst eA
      split at hcv <;> (try (cases hcv; done))
      rename_i e0 y' z' h1 h2 h3
      split at hcv <;> (try (cases hcv; done))
      rename_i i h4
      split at hcv <;> (try (cases hcv; done))
      rename_i zv h5
      split at hcv <;> (try (cases hcv; done))
      rename_i hcond
      injection hcv with hcv; subst hcv
      simp only [Bool.and_eq_true, beq_iff_eq, decide_eq_true_eq, bne_iff_ne, ne_eq] at hcond
      simp only [evalOp] at hx
      have hrun : execOp a.eval ⟨dst, .call ⟨.builtin .append, #[y, z], #[t, t]⟩, type, pos, after, guard⟩ = (do Pure.pure (.value (← Builtin.append_ #[t, t] type #[a.eval y, a.eval z]))) := by
        simp only [execOp, resolve, pure_bind, invoke, builtin, List.map_toArray, List.map_cons, List.map_nil]
      exact wp_value hrun (sound_append h1 h4 h5 hcond.1.1 hcond.1.2 hcond.2 hi (cvO_sound h2 he) (cvO_sound h3 he) hx) hn
    · -- min
      split at hcv <;> (try (cases hcv; done))
      rename_i y' z' h1
      injection hcv with hcv; subst hcv
      simp only [evalOp] at hx
      obtain ⟨r, hr, e⟩ := optmap_some hx
      injection e with e1 e2; subst e1; subst e2
      have rr := cvOs_sound he h1
      obtain ⟨v1, vs1, e1, r1, rr1⟩ := RepL.cons_inv rr
      obtain ⟨v2, vs2, e2, r2, rr2⟩ := RepL.cons_inv rr1
      have e3 := rr2.nil_inv
      subst e3; subst e2
      have hrun : execOp a.eval ⟨dst, .call ⟨.builtin .min, args, argTypes⟩, type, pos, after, guard⟩ = (do Pure.pure (.value (← Builtin.min_ argTypes type #[v1, v2]))) := by
        have : args.map a.eval = #[v1, v2] := by apply Array.ext'; simpa using e1
        simp only [execOp, resolve, pure_bind, invoke, builtin, this]
      exact wp_value hrun (sound_min hi r1 r2 hr) hn
    · -- max
      split at hcv <;> (try (cases hcv; done))
      rename_i y' z' h1
      injection hcv with hcv; subst hcv
      simp only [evalOp] at hx
      obtain ⟨r, hr, e⟩ := optmap_some hx
      injection e with e1 e2; subst e1; subst e2
      have rr := cvOs_sound he h1
      obtain ⟨v1, vs1, e1, r1, rr1⟩ := RepL.cons_inv rr
      obtain ⟨v2, vs2, e2, r2, rr2⟩ := RepL.cons_inv rr1
      have e3 := rr2.nil_inv
      subst e3; subst e2
      have hrun : execOp a.eval ⟨dst, .call ⟨.builtin .max, args, argTypes⟩, type, pos, after, guard⟩ = (do Pure.pure (.value (← Builtin.max_ argTypes type #[v1, v2]))) := by
        have : args.map a.eval = #[v1, v2] := by apply Array.ext'; simpa using e1
        simp only [execOp, resolve, pure_bind, invoke, builtin, this]
      exact wp_value hrun (sound_max hi r1 r2 hr) hn
    · -- a function by name
      rename_i f
      split at hcv <;> (try (cases hcv; done))
      rename_i xs h1
      split at hcv <;> injection hcv with hcv <;> subst hcv
      · simp only [evalOp] at hx
        obtain ⟨r, hr, e⟩ := optmap_some hx
        injection e with e1 e2; subst e1; subst e2
        have hp := hC _ _ _ hr
        have rr := cvOs_sound he h1
        have hok := (hp.run ⟨fun _ => none, 0, 0, fun _ => false⟩ ⟨fun _ => rfl, fun _ => rfl⟩).ok
        refine invoke_call (P := P) (cl := ⟨.value (.func f), args, argTypes⟩) rfl rfl (f := f) (v1 := #[]) (v2 := #[]) rfl hok ?_
        have e : (#[] ++ args.map a.eval ++ #[] : Array Value) = (args.toList.map a.eval).toArray := by apply Array.ext'; simp
        rw [e]
        refine (hp.sound hi rr).mono ?_
        rintro e w' ⟨v, c', rfl, k1, k2, k3⟩
        exact hn v w' c' k1 k2 k3
      · simp [evalOp] at hx
    · split at hcv <;> (try (cases hcv; done))
      injection hcv with hcv; subst hcv
      simp [evalOp] at hx
  | panic y =>
    simp only [cvtOp] at hcv
    obtain ⟨y', hy, rfl⟩ := optmap_some hcv
    simp [evalOp] at hx
  | _ => simp [cvtOp] at hcv
end Fw
