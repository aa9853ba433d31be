/-
  Regions and code under the by-value reading: the abstract weakest precondition, and that it is sound. Own work; over any program.
-/
import Derived.Test.YtnmpdegnpaggkaaFwM
set_option linter.unusedVariables false
set_option linter.unusedSimpArgs false
namespace Fw
open Go

structure AI where
  dst : Option Nat
  g : Option (Nat × Bool)
  op : AOp

def wantB : AV → Bool → Bool
  | .bool b', b => b' == b
  | _, _ => false
def AS.want (s : AS) : Option (Nat × Bool) → Bool
  | none => true
  | some (t, b) => wantB (s.env t) b

inductive AEx where
  | normal
  | exit (id : Nat)
  | goto (l : Nat)
  | ret
  | panic (x : AV)

def optK {α : Type} : Option α → (α → Prop) → Prop
  | some a, K => K a
  | none, _ => False
def hcW (P : Program) (f : FuncId) (args : List AV) (dst : Option Nat) (K : AS → Prop) (Q : AEx → AS → Prop) (s : AS) : Prop :=
  FCall P f args s.hs fun e hs' => match e with
    | .ret v => K ((⟨s.env, hs'⟩ : AS).put dst v)
    | .panic v => Q (.panic v) ⟨s.env, hs'⟩
def cvW (P : Program) (x : AV) (args : List AV) (dst : Option Nat) (K : AS → Prop) (Q : AEx → AS → Prop) (s : AS) : Prop :=
  match x with
  | .fn (.func f) xs ys => hcW P f (xs ++ args ++ ys) dst K Q s
  | _ => False
def pnW (x : AV) (Q : AEx → AS → Prop) (s : AS) : Prop :=
  match x with
  | .iface t v => Q (.panic (.iface t v)) s
  | _ => False
def opW (P : Program) (C : PCtx) (dst : Option Nat) (op : AOp) (K : AS → Prop) (Q : AEx → AS → Prop) (s : AS) : Prop :=
  match op with
  | .hcall f args => hcW P f (args.map s.ev) dst K Q s
  | .callv x args => cvW P (s.ev x) (args.map s.ev) dst K Q s
  | .panic x => pnW (s.ev x) Q s
  | op => optK (evalOp C s op) fun r => K ((⟨s.env, r.2⟩ : AS).put dst r.1)
def condP (b : Bool) (p q : Prop) : Prop := if b = true then p else q
def aiW (P : Program) (C : PCtx) (o : AI) (K : AS → Prop) (Q : AEx → AS → Prop) (s : AS) : Prop :=
  condP (s.want o.g) (opW P C o.dst o.op K Q s) (K (s.put o.dst .undef))
def runW (P : Program) (C : PCtx) : List AI → (AEx → AS → Prop) → AS → Prop
  | [], Q, s => Q .normal s
  | o :: os, Q, s => aiW P C o (runW P C os Q) Q s

/-! soundness of one step -/
def ExM (c : CM) : Exit → AEx → Prop
  | .normal, .normal => True
  | .exit i, .exit j => i = j
  | .goto i, .goto j => i = j
  | .ret, .ret => True
  | .panic ch, .panic x => ∃ v, ch = [{ v := v, recovered := false }] ∧ Rep c v x
  | _, _ => False

structure St (n : Nat) (c0 : CM) (w0 : World) (ds : List Deferred) (c : CM) (s : AS) (a : Act) (w : World) : Prop where
  env : EnvRep n c a s
  inv : Inv c s.hs w
  fr : Fr c0 w0 c w
  df : a.defers = ds

def QL (n : Nat) (c0 : CM) (w0 : World) (ds : List Deferred) (Q : AEx → AS → Prop) : Exit → Act → World → Prop :=
  fun e a w => ∃ ae c s, Q ae s ∧ ExM c e ae ∧ St n c0 w0 ds c s a w
def KL (n : Nat) (c0 : CM) (w0 : World) (ds : List Deferred) (K : AS → Prop) : Act → World → Prop :=
  fun a w => ∃ c s, K s ∧ St n c0 w0 ds c s a w

theorem EnvRep.put {n : Nat} {c c' : CM} {a : Act} {s : AS} (h : EnvRep n c a s) (hl : c.le c') (dst : Option Nat) {v : Value} {x : AV} (hr : Rep c' v x) (hs' : HS) : EnvRep n c' (a.put dst v) ((⟨s.env, hs'⟩ : AS).put dst x) := by
  cases dst with
  | none => exact ⟨h.size, fun t u ht => (h.rep t u ht).mono hl⟩
  | some d =>
    refine ⟨by simpa [Act.put] using h.size, fun t u ht => ?_⟩
    simp only [Act.put] at ht
    simp only [AS.put]
    rw [Array.getElem?_setIfInBounds] at ht
    by_cases hd : d = t
    · subst hd
      simp only [if_true] at ht ⊢
      split at ht <;> (try (cases ht; done))
      injection ht with ht; subst ht; exact hr
    · simp only [hd, if_false] at ht
      rw [if_neg (fun e => hd e.symm)]
      exact (h.rep t u ht).mono hl

theorem St.put {n : Nat} {c0 : CM} {w0 : World} {ds : List Deferred} {c c' : CM} {s : AS} {a : Act} {w w' : World} (h : St n c0 w0 ds c s a w) (dst : Option Nat) {v : Value} {x : AV} {hs' : HS}
    (hr : Rep c' v x) (hi : Inv c' hs' w') (hf : Fr c w c' w') : St n c0 w0 ds c' ((⟨s.env, hs'⟩ : AS).put dst x) (a.put dst v) w' := by
  refine ⟨h.env.put hf.le dst hr hs', ?_, h.fr.trans hf, ?_⟩
  · cases dst <;> exact hi
  · cases dst <;> exact h.df

theorem EnvRep.mono {n : Nat} {c c' : CM} {a : Act} {s : AS} (h : EnvRep n c a s) (hl : c.le c') : EnvRep n c' a s := ⟨h.size, fun t u ht => (h.rep t u ht).mono hl⟩

def special : AOp → Bool
  | .hcall _ _ => true
  | .callv _ _ => true
  | .panic _ => true
  | _ => false

theorem cv_special {P : Program} {n : Nat} {muts : List Nat} {pu : List FuncId} {dst : Option Nat} {op : Op} {ao : AOp} (hcv : cvtOp P n muts pu dst op = some ao) (hs : special ao = true) :
    (∃ cl, op = .call cl ∧ ((∃ f xs, cl.callee = .value (.func f) ∧ cvOs n cl.args.toList = some xs ∧ ao = .hcall f xs) ∨ (∃ g x xs, cl.callee = .value g ∧ cvO n g = some x ∧ cvOs n cl.args.toList = some xs ∧ ao = .callv x xs))) ∨
    (∃ y y', op = .panic y ∧ cvO n y = some y' ∧ ao = .panic y') := by
  cases op <;> simp only [cvtOp] at hcv <;> (try (cases hcv; done)) <;> (try (obtain ⟨_, _, e⟩ := optmap_some hcv; subst e; cases hs; done)) <;>
    (try (split at hcv <;> (try (cases hcv; done)) <;> (injection hcv with hcv; subst hcv; cases hs); done))
  case box t y =>
    obtain ⟨_, _, e⟩ := optmap_some hcv
    cases hm : isMut muts dst <;> simp only [hm, cond_true, cond_false] at e <;> subst e <;> cases hs
  case build t ps =>
    unfold cvBuild at hcv
    split at hcv <;> (try (cases hcv; done)) <;> split at hcv <;> (try (cases hcv; done)) <;> (obtain ⟨_, _, e⟩ := optmap_some hcv; subst e; cases hs)
  case buildSlice t l ps =>
    unfold cvBuildSl at hcv
    split at hcv <;> (try (cases hcv; done))
    split at hcv <;> (try (cases hcv; done))
    split at hcv <;> (try (cases hcv; done))
    split at hcv <;> (try (cases hcv; done)) <;> (injection hcv with hcv; subst hcv; cases hs)
  case load t y => unfold cvLoad at hcv; split at hcv <;> (try (cases hcv; done)) <;> (injection hcv with hcv; subst hcv; cases hs)
  case store t y z => unfold cvStore at hcv; split at hcv <;> (try (cases hcv; done)) <;> (injection hcv with hcv; subst hcv; cases hs)
  case fieldAddr t y f =>
    unfold cvFaddr at hcv
    split at hcv <;> (try (cases hcv; done))
    split at hcv <;> (try (cases hcv; done))
    split at hcv <;> (try (cases hcv; done))
    split at hcv <;> (try (cases hcv; done)) <;> (injection hcv with hcv; subst hcv; cases hs)
  case field t y f =>
    unfold cvField at hcv
    split at hcv <;> (try (cases hcv; done))
    split at hcv <;> (try (cases hcv; done))
    split at hcv <;> (try (cases hcv; done)) <;> (injection hcv with hcv; subst hcv; cases hs)
  case indexAddr t y k =>
    unfold cvIaddr at hcv
    split at hcv <;> (try (cases hcv; done)) <;> split at hcv <;> (try (cases hcv; done)) <;> (injection hcv with hcv; subst hcv; cases hs)
  case index t y k =>
    unfold cvIndex at hcv
    split at hcv <;> (try (cases hcv; done)) <;> split at hcv <;> (try (cases hcv; done)) <;> (injection hcv with hcv; subst hcv; cases hs)
  case slice t y lo hi mx =>
    unfold cvSlice at hcv
    split at hcv <;> (try (cases hcv; done)) <;> split at hcv <;> (try (cases hcv; done)) <;> (injection hcv with hcv; subst hcv; cases hs)
  case panic y =>
    obtain ⟨y', hy, e⟩ := optmap_some hcv
    exact .inr ⟨y, y', rfl, hy, e.symm⟩
  case call cl =>
    left
    refine ⟨cl, rfl, ?_⟩
    obtain ⟨callee, cargs, argTypes⟩ := cl
    simp only [cvCall] at hcv ⊢
    split at hcv <;> (try (cases hcv; done))
    · unfold cvLen at hcv
      split at hcv <;> (try (cases hcv; done))
      split at hcv <;> (try (cases hcv; done)) <;> (injection hcv with hcv; subst hcv; cases hs)
    · unfold cvAppend at hcv
      split at hcv <;> (try (cases hcv; done))
      split at hcv <;> (try (cases hcv; done))
      split at hcv <;> (try (cases hcv; done))
      split at hcv <;> (try (cases hcv; done))
      split at hcv <;> (try (cases hcv; done))
      split at hcv <;> (try (cases hcv; done)) <;> (injection hcv with hcv; subst hcv; cases hs)
    · split at hcv <;> (try (cases hcv; done)) <;> (injection hcv with hcv; subst hcv; cases hs)
    · split at hcv <;> (try (cases hcv; done)) <;> (injection hcv with hcv; subst hcv; cases hs)
    · rename_i g
      split at hcv <;> (try (cases hcv; done))
      rename_i xs h1
      split at hcv <;> injection hcv with hcv <;> subst hcv
      · cases hs
      · exact .inl ⟨g, xs, rfl, h1, rfl⟩
    · rename_i g hne
      split at hcv <;> (try (cases hcv; done))
      rename_i x' xs h1 h2
      injection hcv with hcv; subst hcv
      exact .inr ⟨g, x', xs, rfl, h1, h2, rfl⟩

theorem op_sound {P : Program} {C : PCtx} (hC : CtxOk P C) {n : Nat} {muts : List Nat} {pu : List FuncId} {o : Oper} {ao : AOp} (hcv : cvtOp P n muts pu o.dst o.op = some ao)
    {K : AS → Prop} {Q : AEx → AS → Prop} {c0 : CM} {w0 : World} {ds : List Deferred} {c : CM} {s : AS} {a : Act} {w : World} (h : opW P C o.dst ao K Q s) (hs : St n c0 w0 ds c s a w) :
    o.wp P a w (KL n c0 w0 ds K) (QL n c0 w0 ds Q) := by
  have det : (∃ r, evalOp C s ao = some r ∧ K ((⟨s.env, r.2⟩ : AS).put o.dst r.1)) → o.wp P a w (KL n c0 w0 ds K) (QL n c0 w0 ds Q) := by
    rintro ⟨⟨x, hs'⟩, h1, h2⟩
    exact op_det hC hcv h1 hs.env hs.inv fun v w' c' e1 e2 e3 => ⟨c', _, h2, hs.put o.dst e1 e2 e3⟩
  have viaCall : ∀ (f : FuncId) (args : List AV) (vs : List Value), RepL c vs args → hcW P f args o.dst K Q s →
      callOk P f = true ∧ Calls P f vs.toArray w fun
      | .returned v, w'' => KL n c0 w0 ds K (a.put o.dst v) w''
      | .panicked chain, w'' => QL n c0 w0 ds Q (.panic chain) a w''
      | .outgrown, _ => LetsOut (QL n c0 w0 ds Q) := by
    intro f args vs hv hw
    refine ⟨hw.ok, (hw.run c w vs hs.inv hv).mono ?_⟩
    rintro e w' ⟨ae, hs', c', h1, h2, h3, h4⟩
    cases e with
    | returned v =>
      cases ae with
      | ret x => exact ⟨c', _, h1, hs.put o.dst h2 h3 h4⟩
      | panic x => exact h2.elim
    | panicked ch =>
      cases ae with
      | ret x => exact h2.elim
      | panic x =>
        obtain ⟨v, e, hr⟩ := h2
        exact ⟨.panic x, c', ⟨s.env, hs'⟩, h1, ⟨v, e, hr⟩, ⟨⟨hs.env.size, fun t u ht => (hs.env.rep t u ht).mono h4.le⟩, h3, hs.fr.trans h4, hs.df⟩⟩
    | outgrown => exact h2.elim
  have detcase : (∀ f args, ao ≠ .hcall f args) → (∀ x args, ao ≠ .callv x args) → (∀ x, ao ≠ .panic x) → o.wp P a w (KL n c0 w0 ds K) (QL n c0 w0 ds Q) := by
    intro n1 n2 n3
    refine det ?_
    have : optK (evalOp C s ao) fun r => K ((⟨s.env, r.2⟩ : AS).put o.dst r.1) := by
      unfold opW at h
      split at h
      · exact absurd rfl (n1 _ _)
      · exact absurd rfl (n2 _ _)
      · exact absurd rfl (n3 _)
      · exact h
    cases he : evalOp C s ao with
    | none => rw [he] at this; exact this.elim
    | some r => rw [he] at this; exact ⟨r, rfl, this⟩
  by_cases hsp : special ao = true
  · rcases cv_special hcv hsp with ⟨cl, hop, ⟨f, xs, hcl, hxs, rfl⟩ | ⟨g, x, xs, hcl, hg, hxs, rfl⟩⟩ | ⟨y, y', hop, hy, rfl⟩
    · simp only [opW] at h
      have rr := cvOs_sound hs.env hxs
      obtain ⟨hok, hcall⟩ := viaCall f _ _ rr h
      refine invoke_call (P := P) hop hcl (f := f) (v1 := #[]) (v2 := #[]) rfl hok ?_
      have e : (#[] ++ cl.args.map a.eval ++ #[] : Array Value) = (cl.args.toList.map a.eval).toArray := by apply Array.ext'; simp
      rw [e]; exact hcall
    · simp only [opW] at h
      have r1 := cvO_sound hg hs.env
      have rr := cvOs_sound hs.env hxs
      unfold cvW at h
      split at h <;> (try (exact h.elim))
      rename_i f xs' ys' hfx
      rw [hfx] at r1
      generalize hav : a.eval g = v at r1
      cases r1 with
      | fn _ v1 v2 _ _ hl1 hl2 hh1 hh2 =>
        obtain ⟨hok, hcall⟩ := viaCall f _ _ (((RepL.append (c := c) (v1 := v1) (x1 := xs') ⟨hl1, hh1⟩ rr).append (v2 := v2) (x2 := ys') ⟨hl2, hh2⟩)) h
        refine invoke_call (P := P) hop hcl (f := f) (v1 := v1.toArray) (v2 := v2.toArray) hav hok ?_
        have e : (v1.toArray ++ cl.args.map a.eval ++ v2.toArray : Array Value) = (v1 ++ cl.args.toList.map a.eval ++ v2).toArray := by apply Array.ext'; simp
        rw [e]; exact hcall
    · simp only [opW] at h
      have r1 := cvO_sound hy hs.env
      unfold pnW at h
      split at h <;> (try (exact h.elim))
      rename_i t u hfx
      rw [hfx] at r1
      unfold Oper.wp
      generalize hav : a.eval y = v at r1
      cases r1 with
      | iface _ vv _ hr =>
        have : (execOp a.eval o).run P w = .halt (.panic (.iface t vv)) w := by
          unfold execOp
          rw [hop]
          simp only [hav, Instr.panic, Sem.run_bind, run_goPanic, Result.andThen_halt]
        rw [this, Oper.upon_panic]
        exact ⟨_, c, s, h, ⟨_, rfl, .iface t vv u hr⟩, hs⟩
  · exact detcase (fun _ _ e => hsp (by rw [e]; rfl)) (fun _ _ e => hsp (by rw [e]; rfl)) (fun _ e => hsp (by rw [e]; rfl))

/-! lists of operations -/
def cvG (n : Nat) (ops : Array Oper) : Option (Nat × Bool) → Option (Option (Nat × Bool))
  | none => some none
  | some (j, b) => match (ops[j]?).bind (·.dst) with
    | some t => if t < n then some (some (t, b)) else none
    | none => none
def cvtI (P : Program) (n : Nat) (muts : List Nat) (pu : List FuncId) (ops : Array Oper) (o : Oper) : Option AI :=
  match cvG n ops o.guard, cvtOp P n muts pu o.dst o.op with
  | some g, some op => some ⟨o.dst, g, op⟩
  | _, _ => none
def cvtL (P : Program) (n : Nat) (muts : List Nat) (pu : List FuncId) (ops : Array Oper) : List Nat → Option (List AI)
  | [] => some []
  | i :: is => match ops[i]? with
    | some o => match cvtI P n muts pu ops o, cvtL P n muts pu ops is with
      | some x, some xs => some (x :: xs)
      | _, _ => none
    | none => none

theorem want_sound {n : Nat} {ops : Array Oper} {o : Oper} {g : Option (Nat × Bool)} (hg : cvG n ops o.guard = some g) {c : CM} {a : Act} {s : AS} (he : EnvRep n c a s) : Region.wanted o (yielded ops a.tmps) = s.want g := by
  unfold Region.wanted
  cases hgd : o.guard with
  | none => rw [hgd] at hg; simp only [cvG] at hg; injection hg with hg; subst hg; rfl
  | some jb =>
    obtain ⟨j, b⟩ := jb
    rw [hgd] at hg
    simp only [cvG] at hg
    split at hg <;> (try (cases hg; done))
    rename_i t ht
    split at hg <;> (try (cases hg; done))
    rename_i hlt
    injection hg with hg; subst hg
    have hlt' : t < a.tmps.size := by rw [he.size]; exact hlt
    have hr := he.rep t a.tmps[t] (by simp [hlt'])
    simp only [AS.want, yielded, ht, Option.bind_some]
    rw [Array.getElem?_eq_getElem hlt']
    generalize a.tmps[t] = v at hr
    generalize s.env t = x at hr
    cases hr <;> simp [wantB]

theorem ai_sound {P : Program} {C : PCtx} (hC : CtxOk P C) {n : Nat} {muts : List Nat} {pu : List FuncId} {ops : Array Oper} {i : Nat} {o : Oper} (hi : ops[i]? = some o) {x : AI} (hcv : cvtI P n muts pu ops o = some x)
    {K : AS → Prop} {Q : AEx → AS → Prop} {c0 : CM} {w0 : World} {ds : List Deferred} {c : CM} {s : AS} {a : Act} {w : World} (h : aiW P C x K Q s) (hs : St n c0 w0 ds c s a w) :
    wpOp P ops (QL n c0 w0 ds Q) i (KL n c0 w0 ds K) a w := by
  unfold cvtI at hcv
  split at hcv <;> (try (cases hcv; done))
  rename_i g op hg hop
  injection hcv with hcv; subst hcv
  unfold wpOp
  simp only [hi]
  rw [want_sound hg hs.env]
  unfold aiW condP at h
  simp only at h
  split at h
  · rename_i hw
    rw [if_pos hw]
    exact .inl (op_sound hC hop h hs)
  · rename_i hw
    rw [if_neg hw]
    exact ⟨c, _, h, hs.put o.dst (Rep.tup [] [] rfl (fun j v y h => by simp at h)) hs.inv (.refl _ _)⟩

theorem run_sound {P : Program} {C : PCtx} (hC : CtxOk P C) {n : Nat} {muts : List Nat} {pu : List FuncId} {ops : Array Oper} {Q : AEx → AS → Prop} {c0 : CM} {w0 : World} {ds : List Deferred} :
    ∀ (is : List Nat) (xs : List AI) (c : CM) (s : AS) (a : Act) (w : World), cvtL P n muts pu ops is = some xs → runW P C xs Q s → St n c0 w0 ds c s a w → wpOps P ops (QL n c0 w0 ds Q) is a w
  | [], xs, c, s, a, w, hcv, h, hs => by
    simp only [cvtL] at hcv; injection hcv with hcv; subst hcv
    exact ⟨.normal, c, s, h, trivial, hs⟩
  | i :: is, xs, c, s, a, w, hcv, h, hs => by
    simp only [cvtL] at hcv
    split at hcv <;> (try (cases hcv; done))
    rename_i o ho
    split at hcv <;> (try (cases hcv; done))
    rename_i y ys h1 h2
    injection hcv with hcv; subst hcv
    rw [wpOps_cons]
    refine wpOp_mono ?_ (ai_sound hC ho h1 h hs)
    rintro a' w' ⟨c', s', hK, hs'⟩
    exact run_sound hC is ys c' s' a' w' h2 hK hs'
end Fw
