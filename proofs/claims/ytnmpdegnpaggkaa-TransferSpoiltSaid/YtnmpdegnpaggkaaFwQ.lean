/-
  Code and calls under the by-value reading. Own work; over any program.
-/
import Derived.Test.YtnmpdegnpaggkaaFwP
import Derived.Scope
set_option linter.unusedVariables false
set_option linter.unusedSimpArgs false
namespace Fw
open Go

inductive ACode where
  | skip
  | reg (ops : List AI)
  | regd (ops : List AI)
  | regl (ops : List AI)
  | rega (ds : List (List Nat)) (ops : List AI)
  | seq (a b : ACode)
  | cond (c : AOpd) (a b : ACode)
  | block (id : Nat) (b : ACode)
  | loop (b : ACode)
  | scope (b : ACode)
  | exit (id : Nat)
  | label
  | ret

def thenQ (K : AS → Prop) (Q : AEx → AS → Prop) : AEx → AS → Prop
  | .normal, s => K s
  | e, s => Q e s
def blkQ (id : Nat) (Q : AEx → AS → Prop) : AEx → AS → Prop
  | .exit id', s => if id' = id then Q .normal s else Q (.exit id') s
  | e, s => Q e s
def noPQ (Q : AEx → AS → Prop) : AEx → AS → Prop
  | .panic _, _ => False
  | e, s => Q e s
def noGQ (Q : AEx → AS → Prop) : AEx → AS → Prop
  | .goto _, _ => False
  | e, s => Q e s
def condV (x : AV) (p q : Prop) : Prop :=
  match x with
  | .bool b => condP b p q
  | _ => False
def loopW (body : (AEx → AS → Prop) → AS → Prop) : Nat → (AEx → AS → Prop) → AS → Prop
  | 0, _, _ => False
  | n + 1, Q, s => body (thenQ (loopW body n Q) Q) s

def awp (P : Program) (C : PCtx) : ACode → (AEx → AS → Prop) → AS → Prop
  | .skip, Q, s => Q .normal s
  | .reg ops, Q, s => runW P C ops Q s
  | .regd ops, Q, s => runW P C ops (noPQ Q) s
  | .regl ops, Q, s => runW P C ops Q s
  | .rega ds ops, Q, s => anyW P C ds ops ops.length [] Q s
  | .seq a b, Q, s => awp P C a (thenQ (awp P C b Q) Q) s
  | .cond c a b, Q, s => condV (s.ev c) (awp P C a Q s) (awp P C b Q s)
  | .block id b, Q, s => awp P C b (blkQ id Q) s
  | .loop b, Q, s => ∃ n, loopW (awp P C b) n Q s
  | .scope b, Q, s => awp P C b (noGQ Q) s
  | .exit id, Q, s => Q (.exit id) s
  | .label, Q, s => Q .normal s
  | .ret, Q, s => Q .ret s

def cvtC (P : Program) (n : Nat) (muts : List Nat) (pu : List FuncId) : Code → Option ACode
  | .skip => some .skip
  | .region _ ops draw =>
    match cvtL P n muts pu ops (List.range ops.size) with
    | some xs => if draw then (if P.follows .mixedOrders then (if orderOk ops xs then (if lastOk ops xs && xs.any (·.spec) then some (.regl xs) else some (.regd xs)) else some (.rega (ops.toList.map deps) xs)) else none) else some (.reg xs)
    | none => none
  | .seq a b => match cvtC P n muts pu a, cvtC P n muts pu b with
    | some x, some y => some (.seq x y)
    | _, _ => none
  | .cond c a b => match cvO n c, cvtC P n muts pu a, cvtC P n muts pu b with
    | some z, some x, some y => some (.cond z x y)
    | _, _, _ => none
  | .block id b => (cvtC P n muts pu b).map (.block id)
  | .loop b => (cvtC P n muts pu b).map .loop
  | .scope b => (cvtC P n muts pu b).map .scope
  | .exit id => some (.exit id)
  | .label _ => some .label
  | .ret => some .ret
  | _ => none

theorem QL.mono {n : Nat} {c0 : CM} {w0 : World} {ds : List Deferred} {Q Q' : AEx → AS → Prop} (h : ∀ e s, Q e s → Q' e s) {e : Exit} {a : Act} {w : World} (hq : QL n c0 w0 ds Q e a w) : QL n c0 w0 ds Q' e a w :=
  let ⟨ae, c, s, h1, h2⟩ := hq
  ⟨ae, c, s, h _ _ h1, h2⟩
theorem noPQ_le {Q : AEx → AS → Prop} : ∀ e s, noPQ Q e s → Q e s := fun e s h => by cases e <;> first | exact h | exact h.elim

theorem awp_sound {P : Program} {C : PCtx} (hC : CtxOk P C) {n : Nat} {muts : List Nat} {pu : List FuncId} {c0 : CM} {w0 : World} {ds : List Deferred} :
    ∀ (code : Code) (ac : ACode), cvtC P n muts pu code = some ac → ∀ (Q : AEx → AS → Prop) (c : CM) (s : AS) (a : Act) (w : World), awp P C ac Q s → St n c0 w0 ds c s a w → code.wp P (QL n c0 w0 ds Q) a w := by
  intro code
  induction code with
  | skip =>
    intro ac hcv Q c s a w h hs
    simp only [cvtC] at hcv; injection hcv with hcv; subst hcv
    exact wp_skip ⟨.normal, c, s, h, trivial, hs⟩
  | region id ops draw =>
    intro ac hcv Q c s a w h hs
    simp only [cvtC] at hcv
    split at hcv <;> (try (cases hcv; done))
    rename_i xs hxs
    cases draw with
    | false =>
      simp only [Bool.false_eq_true, if_false] at hcv
      injection hcv with hcv; subst hcv
      exact wp_region (run_sound hC _ _ c s a w hxs h hs)
    | true =>
      simp only [if_true] at hcv
      split at hcv <;> (try (cases hcv; done))
      rename_i hmo
      have hlen := (cvtL_get _ _ hxs).1
      simp only [List.length_range] at hlen
      have hsel : sel xs (List.range ops.size) = xs := by
        unfold sel
        rw [hlen]
        have : ∀ (l : List AI) (k : Nat) (pre : List AI), pre.length = k → ((List.range' k l.length).filterMap fun i => (pre ++ l)[i]?) = l := by
          intro l
          induction l with
          | nil => intro k pre _; rfl
          | cons x l ih =>
            intro k pre hk
            simp only [List.length_cons, List.range'_succ, List.filterMap_cons]
            have : (pre ++ x :: l)[k]? = some x := by rw [List.getElem?_append_right (by omega)]; simp [hk]
            rw [this]
            simp only
            congr 1
            have := ih (k + 1) (pre ++ [x]) (by simp [hk])
            simpa using this
        have h0 := this xs 0 [] rfl
        rw [List.range_eq_range']
        simpa using h0
      have hinv : Inv c s.hs { w with drawn := w.drawn + 1 } := hs.inv.drew
      have hfr : Fr c0 w0 c { w with drawn := w.drawn + 1 } := hs.fr.drew
      have hst : St n c0 w0 ds c s a { w with drawn := w.drawn + 1 } := ⟨hs.env, hinv, hfr, hs.df⟩
      split at hcv
      case isFalse hno =>
        injection hcv with hcv; subst hcv
        refine wp_region_any hmo ?_
        have h' : anyW P C (ops.toList.map deps) xs xs.length [] Q s := h
        rw [← hlen] at h'
        exact every_sound hC hxs ops.size [] (Array.replicate ops.size false) c s a { w with drawn := w.drawn + 1 } (by simp) (fun k => by simp [Array.getElem?_replicate]) h' hst
      rename_i hok
      have go : ∀ Q' : AEx → AS → Prop, ((∀ x s, ¬ Q' (.panic x) s) ∨ lastOk ops xs = true) → (∀ e s, Q' e s → Q e s) → runW P C xs Q' s → (Code.region id ops true).wp P (QL n c0 w0 ds Q) a w := by
        intro Q' hQ' hle h
        refine wp_mono ?_ (fun e a w hq => QL.mono hle hq)
        refine wp_region_any hmo ?_
        have := any_sound (ds := ds) hC hxs hok (Q := Q') hQ' (List.range ops.size) (Array.replicate ops.size false) c s a { w with drawn := w.drawn + 1 } ?_ ?_ (by simp) ?_ (by rw [hsel]; exact h) hst
        · rw [List.length_range] at this; exact this
        · exact List.pairwise_lt_range
        · intro i
          simp only [List.mem_range, Array.getElem?_replicate]
          constructor
          · intro hi; exact ⟨hi, by simp [hi]⟩
          · exact fun h => h.1
        · intro i d hi hd
          have := hi.2
          simp [Array.getElem?_replicate] at this
      split at hcv
      · rename_i hlo
        simp only [Bool.and_eq_true] at hlo
        injection hcv with hcv; subst hcv
        exact go Q (.inr hlo.1) (fun _ _ h => h) h
      · injection hcv with hcv; subst hcv
        exact go (noPQ Q) (.inl fun x s h => h) noPQ_le h
  | seq x y ih1 ih2 =>
    intro ac hcv Q c s a w h hs
    simp only [cvtC] at hcv
    split at hcv <;> (try (cases hcv; done))
    rename_i x' y' h1 h2
    injection hcv with hcv; subst hcv
    refine wp_seq (wp_mono (ih1 x' h1 _ c s a w h hs) ?_)
    rintro e a' w' ⟨ae, c', s', hq, hm, hs'⟩
    cases ae <;> cases e <;> simp only [ExM] at hm
    · exact ih2 y' h2 Q c' s' a' w' hq hs'
    all_goals (first | exact ⟨_, c', s', hq, hm, hs'⟩ | exact ⟨_, c', s', hq, trivial, hs'⟩)
  | cond cc x y ih1 ih2 =>
    intro ac hcv Q c s a w h hs
    simp only [cvtC] at hcv
    split at hcv <;> (try (cases hcv; done))
    rename_i z' x' y' h0 h1 h2
    injection hcv with hcv; subst hcv
    have hr := cvO_sound h0 hs.env
    simp only [awp] at h
    unfold condV at h
    split at h <;> (try (exact h.elim))
    rename_i b hb
    rw [hb] at hr
    refine wp_cond hr.bool_inv ?_
    unfold condP at h
    split at h
    · rename_i hb'
      rw [if_pos hb']
      exact ih1 x' h1 Q c s a w h hs
    · rename_i hb'
      rw [if_neg hb']
      exact ih2 y' h2 Q c s a w h hs
  | block id b ih =>
    intro ac hcv Q c s a w h hs
    simp only [cvtC] at hcv
    obtain ⟨b', hb, rfl⟩ := optmap_some hcv
    refine wp_block (wp_mono (ih b' hb _ c s a w h hs) ?_)
    rintro e a' w' ⟨ae, c', s', hq, hm, hs'⟩
    cases ae <;> cases e <;> simp only [ExM] at hm
    case exit.exit i j =>
      subst hm
      simp only [Exit.inBlock, blkQ] at hq ⊢
      split at hq
      · rename_i he; rw [if_pos he]; exact ⟨.normal, c', s', hq, trivial, hs'⟩
      · rename_i he; rw [if_neg he]; exact ⟨.exit _, c', s', hq, rfl, hs'⟩
    all_goals (first | exact ⟨_, c', s', hq, hm, hs'⟩ | exact ⟨_, c', s', hq, trivial, hs'⟩)
  | loop b ih =>
    intro ac hcv Q c s a w h hs
    simp only [cvtC] at hcv
    obtain ⟨b', hb, rfl⟩ := optmap_some hcv
    obtain ⟨m, h⟩ := h
    intro fb k cs
    have key : ∀ m (c : CM) (s : AS) (a : Act) (w : World), loopW (awp P C b') m Q s → St n c0 w0 ds c s a w →
        ∃ e a' w', QL n c0 w0 ds Q e a' w' ∧ Arrives P (lone (fb.at a (.code b :: .inLoop b :: k)) cs w) fb k cs e a' w' := by
      intro m
      induction m with
      | zero => intro c s a w h; exact h.elim
      | succ m ihm =>
        intro c s a w h hs
        obtain ⟨e, a₁, w₁, ⟨ae, c', s', hq, hm, hs'⟩, harr⟩ := ih b' hb _ c s a w h hs fb (.inLoop b :: k) cs
        cases ae <;> cases e <;> simp only [ExM] at hm
        case normal.normal =>
          obtain ⟨e₂, a₂, w₂, hq₂, harr₂⟩ := ihm c' s' a₁ w₁ hq hs'
          exact ⟨e₂, a₂, w₂, hq₂, .of_steps (Steps.trans harr (.one step_inLoop)) harr₂⟩
        case exit.exit i j => exact ⟨.exit j, a₁, w₁, ⟨.exit i, c', s', hq, hm, hs'⟩, .pass (x := .inLoop b) rfl (fun _ _ => .inl (by simp)) harr⟩
        case goto.goto i j => exact ⟨.goto j, a₁, w₁, ⟨.goto i, c', s', hq, hm, hs'⟩, .pass (x := .inLoop b) rfl (fun _ _ => .inl (by simp)) harr⟩
        case ret.ret => exact ⟨.ret, a₁, w₁, ⟨.ret, c', s', hq, trivial, hs'⟩, .pass (x := .inLoop b) rfl (fun _ _ => .inl (by simp)) harr⟩
        case panic.panic x ch => exact ⟨.panic ch, a₁, w₁, ⟨.panic x, c', s', hq, hm, hs'⟩, .pass (x := .inLoop b) rfl (fun _ _ => .inl (by simp)) harr⟩
    obtain ⟨e, a', w', hq, harr⟩ := key m c s a w h hs
    exact ⟨e, a', w', hq, .of_steps (.one step_loop) harr⟩
  | scope b ih =>
    intro ac hcv Q c s a w h hs
    simp only [cvtC] at hcv
    obtain ⟨b', hb, rfl⟩ := optmap_some hcv
    refine wp_scope_straight (wp_mono (ih b' hb _ c s a w h hs) ?_)
    rintro e a' w' ⟨ae, c', s', hq, hm, hs'⟩
    cases ae <;> cases e <;> simp only [ExM] at hm
    case goto.goto i j => exact hq.elim
    all_goals (first | exact ⟨_, c', s', hq, hm, hs'⟩ | exact ⟨_, c', s', hq, trivial, hs'⟩)
  | exit id =>
    intro ac hcv Q c s a w h hs
    simp only [cvtC] at hcv; injection hcv with hcv; subst hcv
    exact wp_exit ⟨.exit id, c, s, h, rfl, hs⟩
  | label l =>
    intro ac hcv Q c s a w h hs
    simp only [cvtC] at hcv; injection hcv with hcv; subst hcv
    exact wp_label ⟨.normal, c, s, h, trivial, hs⟩
  | ret =>
    intro ac hcv Q c s a w h hs
    simp only [cvtC] at hcv; injection hcv with hcv; subst hcv
    exact wp_ret ⟨.ret, c, s, h, trivial, hs⟩
  | rangeFunc f ps x y ih1 ih2 => intro ac hcv; simp [cvtC] at hcv
  | goto l => intro ac hcv; simp [cvtC] at hcv
  | refuse why => intro ac hcv; simp [cvtC] at hcv

/-! results, and whole functions -/
inductive ARes where
  | t (n : Nat)
  | cell (ag : Bool) (sz : Nat) (n : Nat)
def cvR (P : Program) (n : Nat) : ResultVar → Option ARes
  | .tmp t => if t < n then some (.t t) else none
  | .cell a t => match P.underlying t, P.info? t with
    | some d, some i => if a < n then some (.cell (descAgg d) i.size a) else none
    | _, _ => none
def cvRs (P : Program) (n : Nat) : List ResultVar → Option (List ARes)
  | [] => some []
  | r :: rs => match cvR P n r, cvRs P n rs with
    | some x, some xs => some (x :: xs)
    | _, _ => none
def aRes (s : AS) : ARes → Option AV
  | .t n => some (s.env n)
  | .cell ag sz n => aload s.hs.heap ag sz (s.env n)
def aResL (s : AS) : List ARes → Option (List AV)
  | [] => some []
  | r :: rs => match aRes s r, aResL s rs with
    | some x, some xs => some (x :: xs)
    | _, _ => none
def aResult (s : AS) (rs : List ARes) : Option AV := (aResL s rs).map fun
  | [x] => x
  | xs => .tup xs

def resOne (a : Act) : ResultVar → Sem Value
  | .tmp t => Pure.pure (a.tmps.getD t undef)
  | .cell ad t => do loadVar t (← asAddr (a.tmps.getD ad undef))

theorem aResL_sound {P : Program} {n : Nat} {c : CM} {s : AS} {a : Act} {w : World} (he : EnvRep n c a s) (hi : Inv c s.hs w) : ∀ (rs : List ResultVar) (ars : List ARes) (xs : List AV), cvRs P n rs = some ars → aResL s ars = some xs →
    ∃ vs, (rs.mapM (resOne a)).run P w = .ok vs w ∧ RepL c vs xs
  | [], ars, xs, h1, h2 => by
    simp only [cvRs] at h1; injection h1 with h1; subst h1
    simp only [aResL] at h2; injection h2 with h2; subst h2
    exact ⟨[], rfl, .nil⟩
  | r :: rs, ars, xs, h1, h2 => by
    simp only [cvRs] at h1
    split at h1 <;> (try (cases h1; done))
    rename_i x ys g1 g2
    injection h1 with h1; subst h1
    simp only [aResL] at h2
    split at h2 <;> (try (cases h2; done))
    rename_i u us k1 k2
    injection h2 with h2; subst h2
    obtain ⟨vs, e1, e2⟩ := aResL_sound he hi rs ys us g2 k2
    rw [List.mapM_cons]
    cases r with
    | tmp t =>
      simp only [cvR] at g1
      split at g1 <;> (try (cases g1; done))
      rename_i ht
      injection g1 with g1; subst g1
      simp only [aRes] at k1
      injection k1 with k1; subst k1
      have ht' : t < a.tmps.size := by rw [he.size]; exact ht
      have := he.rep t a.tmps[t] (by simp [ht'])
      refine ⟨a.tmps[t] :: vs, ?_, .cons this e2⟩
      simp only [resOne, Sem.run_bind, Sem.run_pure, Result.andThen_ok, e1]
      simp [ht']
    | cell ad t =>
      simp only [cvR] at g1
      split at g1 <;> (try (cases g1; done))
      rename_i d i hd hinf
      split at g1 <;> (try (cases g1; done))
      rename_i ht
      injection g1 with g1; subst g1
      simp only [aRes] at k1
      have ht' : ad < a.tmps.size := by rw [he.size]; exact ht
      have hr := he.rep ad a.tmps[ad] (by simp [ht'])
      obtain ⟨v, w', c', f1, f2, f3, f4⟩ := sound_load hd hinf rfl hi hr k1
      have hv : ∃ ad', a.tmps[ad] = .pointer (some ad') := by
        generalize a.tmps[ad] = v at hr
        generalize s.env ad = y at hr k1
        cases hr <;> simp only [aload] at k1 <;> (try (cases k1; done)) <;> exact ⟨_, rfl⟩
      obtain ⟨ad', hv⟩ := hv
      rw [hv] at f1
      simp only [Instr.loadAt, Instr.sureAddr, Sem.run_bind, Sem.run_pure, Result.andThen_ok] at f1
      -- a load leaves the world
      have hw : ∃ v, (loadVar t ad').run P w = .ok v w ∧ Rep c v u := by
        rw [hv] at hr
        generalize hpe : s.env ad = y at hr k1
        cases hr <;> simp only [aload] at k1 <;> (try (cases k1; done))
        case ptr b o vs y hl hc hrr lf =>
          obtain ⟨v, h1, h2⟩ := run_loadVar hd hinf w rfl (b := b) (o := o) ⟨hl, hrr⟩ lf (fun j u hj => hi.imm _ _ _ (hc j u hj)) k1
          exact ⟨v, by simpa using h1, h2⟩
        case ref k off hk =>
          cases hh : s.hs.heap k with
          | none => simp [hh] at k1
          | some ys' =>
            simp [hh] at k1
            obtain ⟨hlt, lf, vs, hr, hc⟩ := hi.readBlk hh
            obtain ⟨v, h1, h2⟩ := run_loadVar hd hinf w rfl hr lf hc k1
            exact ⟨v, h1, h2⟩
      obtain ⟨v2, h1, h2⟩ := hw
      refine ⟨v2 :: vs, ?_, .cons h2 e2⟩
      have hg : a.tmps.getD ad undef = .pointer (some ad') := by
        rw [← hv]; simp [ht']
      simp only [resOne, Sem.run_bind, hg, asAddr, Sem.run_pure, Result.andThen_ok, h1, e1]

theorem results_sound {P : Program} {n : Nat} {c : CM} {s : AS} {a : Act} {w : World} (he : EnvRep n c a s) (hi : Inv c s.hs w) {fn : Func} {ars : List ARes} (h1 : cvRs P n fn.results.toList = some ars) {x : AV} (h2 : aResult s ars = some x) :
    ∃ v, (results fn a.tmps).run P w = .ok v w ∧ Rep c v x := by
  obtain ⟨xs, hx, e⟩ := optmap_some h2
  obtain ⟨vs, h3, h4⟩ := aResL_sound he hi _ _ _ h1 hx
  have hm : (fn.results.mapM (resOne a)).run P w = .ok vs.toArray w := by
    rw [Array.mapM_eq_mapM_toList]
    simp only [Sem.run_map, h3, Result.andThen_ok]
  refine ⟨if h : vs.toArray.size = 1 then vs.toArray[0] else .tuple vs.toArray, ?_, ?_⟩
  · have e0 : results fn a.tmps = (do let vs ← fn.results.mapM (resOne a); Pure.pure (if h : vs.size = 1 then vs[0] else .tuple vs)) := by
      unfold results
      congr 2
    rw [e0]
    simp only [Sem.run_bind, hm, Result.andThen_ok, Sem.run_pure]
  · match xs, vs, h4, e with
    | [y], vs, h4, e =>
      obtain ⟨v, vs', rfl, hv, hvs⟩ := h4.cons_inv
      rw [hvs.nil_inv]
      simp only at e; subst e
      simpa using hv
    | [], vs, h4, e =>
      rw [h4.nil_inv]
      simp only at e; subst e
      simpa using Rep.tup (c := c) [] [] rfl (fun j v y h => by simp at h)
    | y :: y' :: ys, vs, h4, e =>
      have hl : vs.length = ys.length + 2 := by rw [h4.1]; simp
      simp only at e; subst e
      have hne : ¬ vs.toArray.size = 1 := by simp; omega
      rw [dif_neg hne]
      exact .tup vs _ h4.1 h4.2

def argEnv (args : List AV) : Nat → AV := fun i => args.getD i .undef

/-- what a whole body must come to -/
def finQ (rs : List ARes) (R : AEnd → HS → Prop) : AEx → AS → Prop
  | .normal, s => optK (aResult s rs) fun x => R (.ret x) s.hs
  | .ret, s => optK (aResult s rs) fun x => R (.ret x) s.hs
  | .panic x, s => R (.panic x) s.hs
  | _, _ => False

structure FnOk (P : Program) (f : FuncId) (muts : List Nat) (pu : List FuncId) (ac : ACode) (rs : List ARes) (n : Nat) : Prop where
  ex : ∃ fn body, P.funcs[f]? = some fn ∧ fn.body = some body ∧ fn.ntmps = n ∧ cvtC P n muts pu body = some ac ∧ cvRs P n fn.results.toList = some rs
  ok : callOk P f = true

theorem FCall.of_body {P : Program} {C : PCtx} (hC : CtxOk P C) {f : FuncId} {muts : List Nat} {pu : List FuncId} {ac : ACode} {rs : List ARes} {n : Nat} (hf : FnOk P f muts pu ac rs n) {args : List AV} {hs : HS} {R : AEnd → HS → Prop} (hn : args.length ≤ n)
    (h : awp P C ac (finQ rs R) ⟨argEnv args, hs⟩) : FCall P f args hs R := by
  obtain ⟨fn, body, h1, h2, h3, h4, h5⟩ := hf.ex
  refine ⟨hf.ok, fun c w vs hi hv => ?_⟩
  have hvl := hv.1
  have hst : St n c w [] c ⟨argEnv args, hs⟩ { tmps := vs.toArray ++ Array.replicate (fn.ntmps - vs.toArray.size) undef, defers := [] } w := by
    refine ⟨⟨by simp; omega, fun t v ht => ?_⟩, hi, .refl _ _, rfl⟩
    simp only [argEnv]
    rw [Array.getElem?_append] at ht
    split at ht
    · rename_i hlt
      simp at hlt
      have hta : t < args.length := by omega
      rw [List.getD_eq_getElem?_getD, List.getElem?_eq_getElem hta]
      exact hv.2 t v args[t] (by simpa using ht) (List.getElem?_eq_getElem hta)
    · rename_i hlt
      simp at hlt
      rw [Array.getElem?_replicate] at ht
      split at ht <;> (try (cases ht; done))
      injection ht with ht; subst ht
      rw [List.getD_eq_getElem?_getD, List.getElem?_eq_none (by omega)]
      exact Rep.tup [] [] rfl (fun j v y h => by simp at h)
  refine calls_of_wp h1 h2 (wp_mono (awp_sound hC body ac h4 _ c _ _ w h hst) ?_)
  rintro e a' w' ⟨ae, c', s', hq, hm, hs'⟩
  have hret : optK (aResult s' rs) (fun x => R (.ret x) s'.hs) → bodyPost P fn (fun e w' => ∃ ae hs' c', R ae hs' ∧ EndRep c' e ae ∧ Inv c' hs' w' ∧ Fr c w c' w') .ret a' w' := by
    intro hq
    cases hx : aResult s' rs with
    | none => rw [hx] at hq; exact hq.elim
    | some x =>
      rw [hx] at hq
      obtain ⟨v, g1, g2⟩ := results_sound hs'.env hs'.inv h5 hx
      exact ⟨hs'.df, v, g1, .ret x, s'.hs, c', hq, g2, hs'.inv, hs'.fr⟩
  cases ae <;> cases e <;> simp only [ExM] at hm
  · exact hret hq
  · exact hq.elim
  · exact hq.elim
  · exact hret hq
  · exact ⟨hs'.df, .panic _, s'.hs, c', hq, hm, hs'.inv, hs'.fr⟩

theorem PCall.of_body {P : Program} {C : PCtx} (hC : CtxOk P C) {f : FuncId} {muts : List Nat} {pu : List FuncId} {ac : ACode} {rs : List ARes} {n : Nat} (hf : FnOk P f muts pu ac rs n) {args : List AV} {r : AV} (hn : args.length ≤ n) (hp : r.plain = true)
    (h : ∀ hs : HS, hs.bare → awp P C ac (finQ rs fun e _ => e = .ret r) ⟨argEnv args, hs⟩) : PCall P f args r :=
  ⟨hp, fun hs hb => FCall.of_body hC hf hn (h hs hb)⟩
end Fw
