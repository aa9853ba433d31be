/-
  Regions whose order is open, continued: every order is served. Own work; over any program.
-/
import Derived.Test.YtnmpdegnpaggkaaFwO
set_option linter.unusedVariables false
set_option linter.unusedSimpArgs false
namespace Fw
open Go

/-- what an operation waits for -/
def deps (o : Oper) : List Nat := (o.after.toList.filter (Region.binds .any ·)).map (·.on)
/-- what it waits for, all told: the table up to the i-th -/
def ancs : List (List Nat) → List (List Nat) → List (List Nat)
  | acc, [] => acc
  | acc, d :: ds => ancs (acc ++ [(d ++ d.flatMap (acc.getD · [])).eraseDups]) ds
def ancTab (ops : Array Oper) : List (List Nat) := ancs [] (ops.toList.map deps)
def depsOk : Nat → List (List Nat) → Bool
  | _, [] => true
  | i, d :: ds => d.all (· < i) && depsOk (i + 1) ds
def pairsOk (tab : List (List Nat)) (xs : List AI) : Bool :=
  xs.zipIdx.all fun p => (xs.zipIdx.take p.2).all fun q => (tab.getD p.2 []).contains q.2 || (apartI q.1 p.1 && quietPair q.1 p.1)
def orderOk (ops : Array Oper) (xs : List AI) : Bool := depsOk 0 (ops.toList.map deps) && pairsOk (ancTab ops) xs

/-- closed under waiting -/
def Closed (ds : List (List Nat)) (S : Nat → Prop) : Prop := ∀ (i : Nat) (d : List Nat), S i → ds[i]? = some d → ∀ k ∈ d, S k

theorem ancs_spec (S : Nat → Prop) : ∀ (rest acc done : List (List Nat)), acc.length = done.length → Closed (done ++ rest) S →
    (∀ (i : Nat) (a d : List Nat), acc[i]? = some a → done[i]? = some d → (∀ k ∈ d, S k) → ∀ k ∈ a, S k) →
    ∀ (i : Nat) (a d : List Nat), (ancs acc rest)[i]? = some a → (done ++ rest)[i]? = some d → (∀ k ∈ d, S k) → ∀ k ∈ a, S k
  | [], acc, done, hl, hc, h, i, a, d, ha, hd, hk => by
    simp only [ancs] at ha
    simp only [List.append_nil] at hd
    exact h i a d ha hd hk
  | r :: rest, acc, done, hl, hc, h, i, a, d, ha, hd, hk => by
    simp only [ancs] at ha
    have e : done ++ r :: rest = (done ++ [r]) ++ rest := by simp
    refine ancs_spec S rest _ (done ++ [r]) (by simp [hl]) (by rw [← e]; exact hc) ?_ i a d ha (by rw [← e]; exact hd) hk
    intro i' a' d' ha' hd' hk' k hkm
    rw [List.getElem?_append] at ha' hd'
    by_cases hlt : i' < acc.length
    · rw [if_pos hlt] at ha'
      rw [if_pos (hl ▸ hlt)] at hd'
      exact h i' a' d' ha' hd' hk' k hkm
    · rw [if_neg hlt] at ha'
      rw [if_neg (hl ▸ hlt)] at hd'
      have hi' : i' - acc.length = 0 := by
        rcases Nat.eq_zero_or_pos (i' - acc.length) with h0 | h0
        · exact h0
        · rw [List.getElem?_eq_none (by simp only [List.length_cons, List.length_nil]; omega)] at ha'; cases ha'
      rw [hi'] at ha'
      rw [← hl, hi'] at hd'
      simp only [List.getElem?_cons_zero, Option.some.injEq] at ha' hd'
      subst ha'; subst hd'
      rw [List.mem_eraseDups] at hkm
      rcases List.mem_append.1 hkm with hm | hm
      · exact hk' k hm
      · obtain ⟨j, hj, hkj⟩ := List.mem_flatMap.1 hm
        have hSj := hk' j hj
        cases haj : acc[j]? with
        | none => simp [List.getD, haj] at hkj
        | some aj =>
          have hjl : j < acc.length := by
            rcases Nat.lt_or_ge j acc.length with h' | h'
            · exact h'
            · rw [List.getElem?_eq_none h'] at haj; cases haj
          simp [List.getD, haj] at hkj
          have hdj : done[j]? = some done[j] := List.getElem?_eq_getElem (hl ▸ hjl)
          refine h j aj done[j] haj hdj (fun k' hk'' => hc j done[j] hSj ?_ k' hk'') k hkj
          rw [List.getElem?_append_left (hl ▸ hjl)]; exact hdj

theorem wpOp_outcome {P : Program} {ops : Array Oper} {Q : Exit → Act → World → Prop} {i : Nat} {K : Act → World → Prop} {a : Act} {w : World} (h : wpOp P ops Q i K a w) :
    (∃ a' w', K a' w') ∨ (∃ ch a' w', Q (.panic ch) a' w') ∨ (∃ a' w', Q .outgrown a' w') := by
  unfold wpOp at h
  split at h
  · exact .inl ⟨_, _, h⟩
  · split at h
    · rcases h with h | ⟨_, h⟩
      · unfold Oper.wp at h
        rename_i o _ _
        generalize (execOp a.eval o).run P w = r at h
        cases r with
        | ok nx w' =>
          cases nx <;> simp only [Oper.upon] at h <;> (try (exact h.elim)) <;> (try (exact .inl ⟨_, _, h⟩))
          · obtain ⟨e, w'', fr, hR, _⟩ := h []
            cases e with
            | returned v => exact .inl ⟨_, _, hR⟩
            | panicked ch => exact .inr (.inl ⟨_, _, _, hR⟩)
            | outgrown => exact .inr (.inr hR)
          · obtain ⟨v, w'', hR, _⟩ := h default []
            exact .inl ⟨_, _, hR⟩
        | halt x w' =>
          cases x <;> simp only [Oper.upon] at h <;> (try (exact h.elim))
          exact .inr (.inl ⟨_, _, _, h⟩)
      · exact .inr (.inr h)
    · exact .inl ⟨_, _, h⟩

section
variable {P : Program} {C : PCtx} {n : Nat} {muts : List Nat} {pu : List FuncId} {ops : Array Oper} {xs : List AI} {c0 : CM} {w0 : World} {ds : List Deferred}

theorem cvtL_get : ∀ (is : List Nat) (xs : List AI), cvtL P n muts pu ops is = some xs → is.length = xs.length ∧ ∀ (k i : Nat), is[k]? = some i → ∃ o x, ops[i]? = some o ∧ xs[k]? = some x ∧ cvtI P n muts pu ops o = some x
  | [], xs, h => by simp only [cvtL] at h; injection h with h; subst h; exact ⟨rfl, fun k i h => by simp at h⟩
  | i :: is, xs, h => by
    simp only [cvtL] at h
    split at h <;> (try (cases h; done))
    rename_i o ho
    split at h <;> (try (cases h; done))
    rename_i y ys h1 h2
    injection h with h; subst h
    obtain ⟨hl, hg⟩ := cvtL_get is ys h2
    refine ⟨by simp [hl], fun k i' hk => ?_⟩
    cases k with
    | zero => simp at hk; subst hk; exact ⟨o, y, ho, rfl, h1⟩
    | succ k => exact hg k i' (by simpa using hk)

/-- the operations of a list of indices -/
def sel (xs : List AI) (R : List Nat) : List AI := R.filterMap (xs[·]?)

/-- running what stands before an operation of class 0 brings the run to it: its operands are as they were -/
theorem reach_p (hC : CtxOk P C) (hx : ∀ (i : Nat) (x : AI), xs[i]? = some x → ∃ o, ops[i]? = some o ∧ cvtI P n muts pu ops o = some x) {i : AI} {post : List AI} {Q : AEx → AS → Prop} (hQ : ∀ x s, ¬ Q (.panic x) s) :
    ∀ (R : List Nat) (c : CM) (s : AS) (a : Act) (w : World), (∀ j ∈ R, ∃ x, xs[j]? = some x ∧ apartI x i = true) → runW P C (sel xs R ++ i :: post) Q s → St n c0 w0 ds c s a w →
      ∃ s', SameOn i.reads s' s ∧ aiW P C i (runW P C post Q) Q s'
  | [], c, s, a, w, _, h, hs => ⟨s, fun _ _ => rfl, by simpa [sel, runW] using h⟩
  | j :: R, c, s, a, w, hap, h, hs => by
    obtain ⟨x, hxj, hapx⟩ := hap j (by simp)
    obtain ⟨o, ho, hcv⟩ := hx j x hxj
    have hsel : sel xs (j :: R) = x :: sel xs R := by simp [sel, List.filterMap_cons, hxj]
    rw [hsel] at h
    simp only [List.cons_append, runW] at h
    obtain ⟨a1, a2, a3⟩ := apartI_spec hapx
    -- carry 'the operands of i are as they were' through the step
    have h' : aiW P C x (fun s1 => SameOn i.reads s1 s ∧ runW P C (sel xs R ++ i :: post) Q s1) Q s := by
      unfold aiW condP at h ⊢
      have stay : ∀ (v : AV) (hs' : HS), SameOn i.reads ((⟨s.env, hs'⟩ : AS).put x.dst v) s := fun v hs' => put_same a1
      have call : ∀ f args, hcW P f args x.dst (runW P C (sel xs R ++ i :: post) Q) Q s → hcW P f args x.dst (fun s1 => SameOn i.reads s1 s ∧ runW P C (sel xs R ++ i :: post) Q s1) Q s := by
        intro f args hc
        unfold hcW at hc ⊢
        refine hc.mono fun e hs' he => ?_
        cases e with
        | ret v => exact ⟨stay v hs', he⟩
        | panic v => exact he
      split at h
      · rename_i hw
        rw [if_pos hw]
        by_cases hsp : special x.op = true
        · obtain ⟨jd, jg, jop⟩ := x
          cases jop <;> simp only [special] at hsp <;> (try (cases hsp; done))
          case hcall f args => simp only [opW] at h ⊢; exact call _ _ h
          case callv y args =>
            simp only [opW] at h ⊢
            unfold cvW at h ⊢
            split at h <;> (try (exact h.elim))
            exact call _ _ h
          case panic y =>
            simp only [opW] at h ⊢
            exact h
        · have hsp' : special x.op = false := by simpa using hsp
          rw [opW_det hsp'] at h ⊢
          cases he : evalOp C s x.op with
          | none => rw [he] at h; exact h.elim
          | some r => rw [he] at h; exact ⟨stay _ _, h⟩
      · rename_i hw
        rw [if_neg hw]
        exact ⟨by rw [put_eta]; exact stay _ _, h⟩
    rcases wpOp_outcome (ai_sound hC ho hcv h' hs) with ⟨a', w', c', s', ⟨hsame, hrun⟩, hs'⟩ | ⟨ch, a', w', ae, c', s', hq, hm, _⟩ | ⟨a', w', ae, c', s', hq, hm, _⟩
    · obtain ⟨s2, h2, h3⟩ := reach_p hC hx hQ R c' s' a' w' (fun k hk => hap k (by simp [hk])) hrun hs'
      exact ⟨s2, fun t ht => (h2 t ht).trans (hsame t ht), h3⟩
    · cases ae <;> simp only [ExM] at hm
      exact (hQ _ _ hq).elim
    · cases ae <;> simp only [ExM] at hm

theorem move_any (hC : CtxOk P C) (hx : ∀ (i : Nat) (x : AI), xs[i]? = some x → ∃ o, ops[i]? = some o ∧ cvtI P n muts pu ops o = some x) {i : AI} {post : List AI} {Q : AEx → AS → Prop} (hQ : ∀ x s, ¬ Q (.panic x) s) {R : List Nat} {c : CM} {s : AS} {a : Act} {w : World}
    (hap : ∀ j ∈ R, ∃ x, xs[j]? = some x ∧ apartI x i = true ∧ quietPair x i = true) (h : runW P C (sel xs R ++ i :: post) Q s) (hs : St n c0 w0 ds c s a w) : aiW P C i (runW P C (sel xs R ++ post) Q) Q s := by
  by_cases hi : i.op.cls = 0
  · obtain ⟨s', h1, h2⟩ := reach_p hC hx hQ R c s a w (fun j hj => let ⟨x, e1, e2, _⟩ := hap j hj; ⟨x, e1, e2⟩) h hs
    obtain ⟨⟨xi, hi'⟩, g1, g2⟩ := (aiW_det (cls_spec (by omega))).1 h2
    have e1 : resI C ⟨s'.env, s'.hs⟩ i = some (xi, hi') := g1
    have e2 := resI_p C hi s'.env s'.hs s.hs
    rw [e1] at e2
    have e3 : resI C s i = some (xi, s.hs) := by
      rw [← resI_congr C i (s := ⟨s'.env, s.hs⟩) (s' := s) h1 rfl, e2]; rfl
    refine (aiW_det (cls_spec (by omega))).2 ⟨_, e3, ?_⟩
    refine move_p hi hQ (sel xs R) s (fun j hj => ?_) e3 h
    obtain ⟨k, hk, hkj⟩ := List.mem_filterMap.1 hj
    obtain ⟨x, e1, e2, _⟩ := hap k hk
    rw [e1] at hkj; injection hkj with hkj; subst hkj; exact e2
  · clear hs
    induction R generalizing s with
    | nil => simpa [sel, runW] using h
    | cons j R ih =>
      obtain ⟨x, hxj, hapx, hqx⟩ := hap j (by simp)
      have hsel : sel xs (j :: R) = x :: sel xs R := by simp [sel, List.filterMap_cons, hxj]
      rw [hsel] at h ⊢
      simp only [List.cons_append, runW] at h ⊢
      unfold quietPair at hqx
      simp only [Bool.or_eq_true, Bool.and_eq_true, beq_iff_eq, decide_eq_true_eq] at hqx
      have hq' : x.op.cls = 0 ∨ (i.op.cls ≤ 2 ∧ x.op.cls ≤ 2 ∧ (i.op.cls = 1 ∨ x.op.cls = 1)) := by
        rcases hqx with (h | h) | h
        · exact absurd h hi
        · exact .inl h
        · exact .inr ⟨h.1.1, h.1.2, h.2⟩
      have hspx : x.spec = false := cls_spec (by rcases hq' with h | h <;> omega)
      refine swap_det hapx hspx hq' hQ ?_
      obtain ⟨r, g1, g2⟩ := (aiW_det hspx).1 h
      exact (aiW_det hspx).2 ⟨r, g1, ih (fun k hk => hap k (by simp [hk])) g2⟩

def readyL (ds : List (List Nat)) (done : List Nat) : List Nat := (List.range ds.length).filter fun i => !done.contains i && (ds.getD i []).all done.contains
def allW : List Nat → (Nat → Prop) → Prop
  | [], _ => True
  | i :: l, f => f i ∧ allW l f
theorem allW_mem {f : Nat → Prop} : ∀ {l : List Nat}, allW l f → ∀ {i}, i ∈ l → f i
  | [], _, i, hi => by cases hi
  | j :: l, h, i, hi => by
    rcases List.mem_cons.1 hi with rfl | hi
    · exact h.1
    · exact allW_mem h.2 hi
def optW (f : AI → Prop) : Option AI → Prop
  | some x => f x
  | none => False
def anyW (P : Program) (C : PCtx) (ds : List (List Nat)) (xs : List AI) : Nat → List Nat → (AEx → AS → Prop) → AS → Prop
  | 0, done, Q, s => readyL ds done = [] ∧ Q .normal s
  | m + 1, done, Q, s => (readyL ds done = [] → Q .normal s) ∧ allW (readyL ds done) fun i => optW (fun x => aiW P C x (anyW P C ds xs m (i :: done) Q) Q s) xs[i]?

/-- only the last operation of a region may call with memory or panic, and it waits for all others -/
def lastOk (ops : Array Oper) (xs : List AI) : Bool :=
  (xs.dropLast.all fun o => !o.spec) && (List.range (xs.length - 1)).all fun j => ((ancTab ops).getD (xs.length - 1) []).contains j

def endQ (P : Program) (C : PCtx) (L : List AI) (Q : AEx → AS → Prop) : AEx → AS → Prop
  | .normal, s => runW P C L Q s
  | _, _ => False
theorem run_app_det {P : Program} {C : PCtx} {L : List AI} {Q : AEx → AS → Prop} : ∀ (A : List AI) (s : AS), (∀ o ∈ A, o.spec = false) → (runW P C (A ++ L) Q s ↔ runW P C A (endQ P C L Q) s)
  | [], s, _ => Iff.rfl
  | o :: A, s, h => by
    simp only [List.cons_append, runW]
    rw [aiW_det (h o (by simp)), aiW_det (h o (by simp))]
    constructor
    · rintro ⟨r, h1, h2⟩; exact ⟨r, h1, (run_app_det A _ (fun o ho => h o (by simp [ho]))).1 h2⟩
    · rintro ⟨r, h1, h2⟩; exact ⟨r, h1, (run_app_det A _ (fun o ho => h o (by simp [ho]))).2 h2⟩

theorem any_sound (hC : CtxOk P C) (hcv : cvtL P n muts pu ops (List.range ops.size) = some xs) (hok : orderOk ops xs = true) {Q : AEx → AS → Prop} (hQ : (∀ x s, ¬ Q (.panic x) s) ∨ lastOk ops xs = true) :
    ∀ (R : List Nat) (listed : Array Bool) (c : CM) (s : AS) (a : Act) (w : World), R.Pairwise (· < ·) → (∀ i, i ∈ R ↔ i < ops.size ∧ listed[i]? = some false) → listed.size = ops.size →
      Closed (ops.toList.map deps) (fun i => i < ops.size ∧ listed[i]? = some true) →
      runW P C (sel xs R) Q s → St n c0 w0 ds c s a w → wpAny P .any ops (QL n c0 w0 ds Q) R.length listed a w := by
  obtain ⟨hlen, hget⟩ := cvtL_get _ _ hcv
  simp only [List.length_range] at hlen
  have hx : ∀ (i : Nat) (x : AI), xs[i]? = some x → ∃ o, ops[i]? = some o ∧ cvtI P n muts pu ops o = some x := by
    intro i x hxi
    have hi : i < ops.size := by
      rw [hlen]
      rcases Nat.lt_or_ge i xs.length with h' | h'
      · exact h'
      · rw [List.getElem?_eq_none h'] at hxi; cases hxi
    obtain ⟨o, x', h1, h2, h3⟩ := hget i i (by simp [hi])
    rw [hxi] at h2; injection h2 with h2; subst h2
    exact ⟨o, h1, h3⟩
  simp only [orderOk, Bool.and_eq_true] at hok
  obtain ⟨hdo, hpo⟩ := hok
  have hdeps : ∀ (l : List (List Nat)) (b : Nat), depsOk b l = true → ∀ (i : Nat) (d : List Nat), l[i]? = some d → ∀ k ∈ d, k < b + i := by
    intro l
    induction l with
    | nil => intro b _ i d h; simp at h
    | cons d l ih =>
      intro b h i d' hi k hk
      simp only [depsOk, Bool.and_eq_true, List.all_eq_true, decide_eq_true_eq] at h
      cases i with
      | zero => simp at hi; subst hi; exact h.1 k hk
      | succ i => have := ih (b + 1) h.2 i d' (by simpa using hi) k hk; omega
  have dep_of : ∀ (i : Nat) (o : Oper), ops[i]? = some o → (ops.toList.map deps)[i]? = some (deps o) := fun i o h => by simp [h]
  have hrd : ∀ (listed : Array Bool) i, i ∈ Region.ready .any ops listed ↔ (listed.getD i true = false ∧ ∃ o, ops[i]? = some o ∧ ∀ k ∈ deps o, listed.getD k false = true) := by
    intro listed i
    simp only [Region.ready, List.mem_filter, List.mem_range, Bool.and_eq_true, Bool.not_eq_true']
    constructor
    · rintro ⟨h1, h2, h3⟩
      refine ⟨h2, ?_⟩
      rw [Array.getElem?_eq_getElem h1] at h3 ⊢
      simp only [Option.map_some, Option.getD_some, Array.all_eq_true_iff_forall_mem] at h3
      refine ⟨_, rfl, fun k hk => ?_⟩
      obtain ⟨e, he, hek⟩ := List.mem_map.1 hk
      obtain ⟨he1, he2⟩ := List.mem_filter.1 he
      have := h3 e (by simpa using he1)
      rw [he2] at this
      subst hek
      simpa using this
    · rintro ⟨h1, o, h2, h3⟩
      have hi : i < ops.size := by
        rcases Nat.lt_or_ge i ops.size with h' | h'
        · exact h'
        · rw [Array.getElem?_eq_none h'] at h2; cases h2
      refine ⟨hi, h1, ?_⟩
      rw [h2]
      simp only [Option.map_some, Option.getD_some, Array.all_eq_true_iff_forall_mem]
      intro e he
      cases hb : Region.binds .any e with
      | false => rfl
      | true =>
        simp only [Bool.not_true, Bool.false_or]
        exact h3 e.on (List.mem_map.2 ⟨e, List.mem_filter.2 ⟨by simpa using he, hb⟩, rfl⟩)
  intro R
  induction hRl : R.length generalizing R with
  | zero =>
    intro listed c s a w hs1 hs2 hsz hcl h hst
    have hR : R = [] := List.length_eq_zero_iff.1 hRl
    subst hR
    have hrdy : Region.ready .any ops listed = [] := by
      apply List.eq_nil_iff_forall_not_mem.2
      intro i hi
      obtain ⟨h1, o, h2, _⟩ := (hrd listed i).1 hi
      have hi : i < ops.size := by
        rcases Nat.lt_or_ge i ops.size with h' | h'
        · exact h'
        · rw [Array.getElem?_eq_none h'] at h2; cases h2
      have : i ∈ ([] : List Nat) := (hs2 i).2 ⟨hi, by
        have hi' : i < listed.size := by omega
        rw [Array.getElem?_eq_getElem hi']
        simp [hi'] at h1
        rw [h1]⟩
      cases this
    refine ⟨hrdy, .normal, c, s, ?_, trivial, hst⟩
    simpa [sel, runW] using h
  | succ m ih =>
    intro listed c s a w hs1 hs2 hsz hcl h hst
    refine ⟨fun hnil => ?_, fun i hi => ?_⟩
    · -- the first that is left may come up
      exfalso
      cases R with
      | nil => simp at hRl
      | cons r R =>
        obtain ⟨hr1, hr2⟩ := (hs2 r).1 (by simp)
        have hr : r ∈ Region.ready .any ops listed := by
          refine (hrd listed r).2 ⟨by simp [Array.getD_eq_getD_getElem?, hr2], ops[r], by simp [hr1], fun k hk => ?_⟩
          have hk' := hdeps _ 0 hdo r _ (dep_of r ops[r] (by simp [hr1])) k hk
          have hkl : k < listed.size := by omega
          cases hv : listed[k] with
          | true => simp [hkl, hv]
          | false =>
            have hkR : k ∈ r :: R := (hs2 k).2 ⟨by omega, by rw [Array.getElem?_eq_getElem hkl, hv]⟩
            rcases List.mem_cons.1 hkR with e | e
            · omega
            · have := List.rel_of_pairwise_cons hs1 e; omega
        rw [hnil] at hr; cases hr
    · obtain ⟨h1, o, h2, h3⟩ := (hrd listed i).1 hi
      have hin : i < ops.size := by
        rcases Nat.lt_or_ge i ops.size with h' | h'
        · exact h'
        · rw [Array.getElem?_eq_none h'] at h2; cases h2
      have hil : i < listed.size := by omega
      have hlf : listed[i]? = some false := by
        rw [Array.getElem?_eq_getElem hil]
        simp [hil] at h1
        rw [h1]
      have hiR : i ∈ R := (hs2 i).2 ⟨hin, hlf⟩
      obtain ⟨pre, post, rfl⟩ := List.append_of_mem hiR
      obtain ⟨o', x, g1, g2, g3⟩ := hget i i (by simp [hin])
      rw [h2] at g1; injection g1 with g1; subst g1
      have hsel : sel xs (pre ++ i :: post) = sel xs pre ++ x :: sel xs post := by simp [sel, List.filterMap_append, List.filterMap_cons, g2]
      rw [hsel] at h
      have hpw := List.pairwise_append.1 hs1
      have hanc : ∀ j, ((ancTab ops).getD i []).contains j = true → listed[j]? = some true := by
        intro j hc
        have hmem := List.contains_iff_mem.1 hc
        cases hta : (ancTab ops)[i]? with
        | none => simp [List.getD, hta] at hmem
        | some ta =>
          simp [List.getD, hta] at hmem
          exact (ancs_spec (fun i => i < ops.size ∧ listed[i]? = some true) (ops.toList.map deps) [] [] rfl (by simpa using hcl) (fun i a d h => by simp at h) i ta (deps o) hta (by simpa using dep_of i o h2) (fun k hk => by
            have hkt := h3 k hk
            have hki := hdeps _ 0 hdo i _ (dep_of i o h2) k hk
            have hkl : k < listed.size := by omega
            refine ⟨by omega, ?_⟩
            rw [Array.getElem?_eq_getElem hkl]
            simp [hkl] at hkt
            rw [hkt]) j hmem).2
      have hap : ∀ j ∈ pre, ∃ y, xs[j]? = some y ∧ apartI y x = true ∧ quietPair y x = true := by
        intro j hj
        have hji : j < i := hpw.2.2 j hj i (by simp)
        obtain ⟨hj1, hj2⟩ := (hs2 j).1 (by simp [hj])
        have hjx : j < xs.length := by omega
        refine ⟨xs[j], by simp [hjx], ?_⟩
        simp only [pairsOk, List.all_eq_true] at hpo
        have hzi : (x, i) ∈ xs.zipIdx := by
          rw [List.mem_iff_getElem?]
          exact ⟨i, by simp [List.getElem?_zipIdx, g2]⟩
        have hzj : (xs[j], j) ∈ xs.zipIdx.take i := by
          rw [List.mem_iff_getElem?]
          exact ⟨j, by rw [List.getElem?_take_of_lt hji]; simp [List.getElem?_zipIdx, hjx]⟩
        have := hpo (x, i) hzi (xs[j], j) hzj
        simp only [Bool.or_eq_true, Bool.and_eq_true] at this
        rcases this with hc | hc
        · -- j is among what i waits for: it would be listed
          exfalso
          have hmem := List.contains_iff_mem.1 hc
          cases hta : (ancTab ops)[i]? with
          | none => simp [List.getD, hta] at hmem
          | some ta =>
            simp [List.getD, hta] at hmem
            have := ancs_spec (fun i => i < ops.size ∧ listed[i]? = some true) (ops.toList.map deps) [] [] rfl (by simpa using hcl) (fun i a d h => by simp at h) i ta (deps o) hta (by simpa using dep_of i o h2) (fun k hk => by
              have hkt := h3 k hk
              have hki := hdeps _ 0 hdo i _ (dep_of i o h2) k hk
              have hkl : k < listed.size := by omega
              refine ⟨by omega, ?_⟩
              rw [Array.getElem?_eq_getElem hkl]
              simp [hkl] at hkt
              rw [hkt]) j hmem
            rw [hj2] at this
            exact absurd this.2 (by simp)
        · exact hc
      have hm : aiW P C x (runW P C (sel xs pre ++ sel xs post) Q) Q s := by
        rcases hQ with hQ | hl
        · exact move_any hC hx hQ hap h hst
        · simp only [lastOk, Bool.and_eq_true, List.all_eq_true, Bool.not_eq_true'] at hl
          obtain ⟨hl1, hl2⟩ := hl
          have hdet : ∀ j y, j + 1 < xs.length → xs[j]? = some y → y.spec = false := by
            intro j y hj hy
            refine hl1 y (List.mem_iff_getElem?.2 ⟨j, ?_⟩)
            rw [List.getElem?_dropLast, if_pos (by omega)]; exact hy
          by_cases him : i + 1 = xs.length
          · have hpre : pre = [] := by
              cases pre with
              | nil => rfl
              | cons j pre =>
                exfalso
                have hji : j < i := hpw.2.2 j (by simp) i (by simp)
                obtain ⟨hj1, hj2⟩ := (hs2 j).1 (by simp)
                have := hl2 j (by simp; omega)
                rw [show xs.length - 1 = i by omega] at this
                rw [hanc j this] at hj2
                cases hj2
            subst hpre
            simpa [sel, runW] using h
          · have hxd : x.spec = false := hdet i x (by omega) g2
            obtain ⟨B, L, hBL, hB⟩ : ∃ B L, sel xs post = B ++ L ∧ ∀ y ∈ B, y.spec = false := by
              rcases List.eq_nil_or_concat post with rfl | ⟨post', z, rfl⟩
              · exact ⟨[], [], rfl, by simp⟩
              · refine ⟨sel xs post', sel xs [z], by simp [sel, List.filterMap_append], fun y hy => ?_⟩
                obtain ⟨k, hk, hky⟩ := List.mem_filterMap.1 hy
                have hz := ((hs2 z).1 (by simp)).1
                have hkz : k < z := by
                  have h1 := (List.pairwise_cons.1 hpw.2.1).2
                  rw [List.concat_eq_append] at h1
                  exact (List.pairwise_append.1 h1).2.2 k hk z (by simp)
                exact hdet k y (by omega) hky
            have hA : ∀ y ∈ sel xs pre, y.spec = false := by
              intro y hy
              obtain ⟨k, hk, hky⟩ := List.mem_filterMap.1 hy
              have hki : k < i := hpw.2.2 k hk i (by simp)
              have := ((hs2 i).1 (by simp)).1
              exact hdet k y (by omega) hky
            rw [hBL] at h ⊢
            rw [show sel xs pre ++ x :: (B ++ L) = (sel xs pre ++ x :: B) ++ L by simp] at h
            rw [run_app_det _ _ (by
              intro y hy
              rcases List.mem_append.1 hy with hy | hy
              · exact hA y hy
              · rcases List.mem_cons.1 hy with rfl | hy
                · exact hxd
                · exact hB y hy)] at h
            have h4 := move_any hC hx (Q := endQ P C L Q) (fun x s h => h) hap h hst
            obtain ⟨r, r1, r2⟩ := (aiW_det hxd).1 h4
            refine (aiW_det hxd).2 ⟨r, r1, ?_⟩
            rw [← List.append_assoc, run_app_det _ _ (by
              intro y hy
              rcases List.mem_append.1 hy with hy | hy
              · exact hA y hy
              · exact hB y hy)]
            exact r2
      refine wpOp_mono ?_ (ai_sound hC h2 g3 hm hst)
      rintro a' w' ⟨c', s', hK, hs'⟩
      have hgs : ∀ k, (listed.setIfInBounds i true)[k]? = if k = i then some true else listed[k]? := by
        intro k
        rw [Array.getElem?_setIfInBounds]
        by_cases hki : i = k
        · subst hki; simp [hil]
        · rw [if_neg hki, if_neg (fun e => hki e.symm)]
      have hnotpre : i ∉ pre := fun hm => by have := hpw.2.2 i hm i (by simp); omega
      have hnotpost : i ∉ post := fun hm => by have := List.rel_of_pairwise_cons hpw.2.1 hm; omega
      have := ih (pre ++ post) (by simp at hRl ⊢; omega) (listed.setIfInBounds i true) c' s' a' w' ?_ ?_ (by simpa using hsz) ?_ (by
        have : sel xs (pre ++ post) = sel xs pre ++ sel xs post := by simp [sel, List.filterMap_append]
        rw [this]; exact hK) hs'
      · exact this
      · refine List.pairwise_append.2 ⟨hpw.1, (List.pairwise_cons.1 hpw.2.1).2, fun a ha b hb => hpw.2.2 a ha b (by simp [hb])⟩
      · intro k
        rw [hgs]
        by_cases hki : k = i
        · subst hki
          simp only [if_true]
          constructor
          · intro hm
            rcases List.mem_append.1 hm with hm | hm
            · exact absurd hm hnotpre
            · exact absurd hm hnotpost
          · rintro ⟨_, h⟩; cases h
        · rw [if_neg hki, ← hs2 k]
          simp [hki]
      · intro k d hk hd j hj
        obtain ⟨hk1, hk2⟩ := hk
        rw [hgs] at hk2
        rw [hgs]
        by_cases hki : k = i
        · subst hki
          have hdo' : d = deps o := by
            have := dep_of k o h2
            rw [hd] at this; injection this
          subst hdo'
          have hjt := h3 j hj
          have hjk := hdeps _ 0 hdo k _ hd j hj
          have hjl : j < listed.size := by omega
          refine ⟨by omega, ?_⟩
          rw [if_neg (by omega), Array.getElem?_eq_getElem hjl]
          simp [hjl] at hjt
          rw [hjt]
        · rw [if_neg hki] at hk2
          obtain ⟨e1, e2⟩ := hcl k d ⟨hk1, hk2⟩ hd j hj
          refine ⟨e1, ?_⟩
          by_cases hji : j = i
          · rw [if_pos hji]
          · rw [if_neg hji]; exact e2

theorem ready_spec {ops : Array Oper} (listed : Array Bool) (i : Nat) : i ∈ Region.ready .any ops listed ↔ (listed.getD i true = false ∧ ∃ o, ops[i]? = some o ∧ ∀ k ∈ deps o, listed.getD k false = true) := by
  simp only [Region.ready, List.mem_filter, List.mem_range, Bool.and_eq_true, Bool.not_eq_true']
  constructor
  · rintro ⟨h1, h2, h3⟩
    refine ⟨h2, ?_⟩
    rw [Array.getElem?_eq_getElem h1] at h3 ⊢
    simp only [Option.map_some, Option.getD_some, Array.all_eq_true_iff_forall_mem] at h3
    refine ⟨_, rfl, fun k hk => ?_⟩
    obtain ⟨e, he, hek⟩ := List.mem_map.1 hk
    obtain ⟨he1, he2⟩ := List.mem_filter.1 he
    have := h3 e (by simpa using he1)
    rw [he2] at this
    subst hek
    simpa using this
  · rintro ⟨h1, o, h2, h3⟩
    have hi : i < ops.size := by
      rcases Nat.lt_or_ge i ops.size with h' | h'
      · exact h'
      · rw [Array.getElem?_eq_none h'] at h2; cases h2
    refine ⟨hi, h1, ?_⟩
    rw [h2]
    simp only [Option.map_some, Option.getD_some, Array.all_eq_true_iff_forall_mem]
    intro e he
    cases hb : Region.binds .any e with
    | false => rfl
    | true =>
      simp only [Bool.not_true, Bool.false_or]
      exact h3 e.on (List.mem_map.2 ⟨e, List.mem_filter.2 ⟨by simpa using he, hb⟩, rfl⟩)

/-- a region in every order that its waiting allows -/
theorem every_sound (hC : CtxOk P C) (hcv : cvtL P n muts pu ops (List.range ops.size) = some xs) {Q : AEx → AS → Prop} :
    ∀ (m : Nat) (done : List Nat) (listed : Array Bool) (c : CM) (s : AS) (a : Act) (w : World), listed.size = ops.size → (∀ k, k ∈ done ↔ listed[k]? = some true) →
      anyW P C (ops.toList.map deps) xs m done Q s → St n c0 w0 ds c s a w → wpAny P .any ops (QL n c0 w0 ds Q) m listed a w := by
  obtain ⟨hlen, hget⟩ := cvtL_get _ _ hcv
  simp only [List.length_range] at hlen
  have hrd : ∀ (done : List Nat) (listed : Array Bool), listed.size = ops.size → (∀ k, k ∈ done ↔ listed[k]? = some true) → ∀ i, i ∈ Region.ready .any ops listed → i ∈ readyL (ops.toList.map deps) done ∧ i < ops.size := by
    intro done listed hsz hd i hi
    obtain ⟨h1, o, h2, h3⟩ := (ready_spec listed i).1 hi
    have hin : i < ops.size := by
      rcases Nat.lt_or_ge i ops.size with h' | h'
      · exact h'
      · rw [Array.getElem?_eq_none h'] at h2; cases h2
    refine ⟨?_, hin⟩
    simp only [readyL, List.mem_filter, List.mem_range, List.length_map, Array.length_toList, Bool.and_eq_true, Bool.not_eq_true']
    refine ⟨hin, ?_, ?_⟩
    · rw [← Bool.not_eq_true, List.contains_iff_mem, hd i]
      have hil : i < listed.size := by omega
      rw [Array.getElem?_eq_getElem hil]
      simp [hil] at h1
      rw [h1]; simp
    · have : (ops.toList.map deps).getD i [] = deps o := by simp [List.getD, h2]
      rw [this, List.all_eq_true]
      intro k hk
      rw [List.contains_iff_mem, hd k]
      have := h3 k hk
      have hkl : k < listed.size := by
        rcases Nat.lt_or_ge k listed.size with h' | h'
        · exact h'
        · simp [Array.getD_eq_getD_getElem?, Array.getElem?_eq_none h'] at this
      rw [Array.getElem?_eq_getElem hkl]
      simp [hkl] at this
      rw [this]
  have hrd' : ∀ (done : List Nat) (listed : Array Bool), listed.size = ops.size → (∀ k, k ∈ done ↔ listed[k]? = some true) → Region.ready .any ops listed = [] → readyL (ops.toList.map deps) done = [] := by
    intro done listed hsz hd hnil
    apply List.eq_nil_iff_forall_not_mem.2
    intro i hi
    simp only [readyL, List.mem_filter, List.mem_range, List.length_map, Array.length_toList, Bool.and_eq_true, Bool.not_eq_true'] at hi
    obtain ⟨h1, h2, h3⟩ := hi
    have : i ∈ Region.ready .any ops listed := by
      refine (ready_spec listed i).2 ⟨?_, ops[i], by simp [h1], ?_⟩
      · rw [← Bool.not_eq_true, List.contains_iff_mem, hd i] at h2
        have hil : i < listed.size := by omega
        rw [Array.getElem?_eq_getElem hil] at h2
        cases hv : listed[i] with
        | true => rw [hv] at h2; exact absurd rfl h2
        | false => simp [hil, hv]
      · intro k hk
        have e : (ops.toList.map deps).getD i [] = deps ops[i] := by simp [List.getD, h1]
        rw [e, List.all_eq_true] at h3
        have := (hd k).1 (List.contains_iff_mem.1 (h3 k hk))
        simp [Array.getD_eq_getD_getElem?, this]
    rw [hnil] at this; cases this
  intro m
  induction m with
  | zero =>
    intro done listed c s a w hsz hd h hst
    obtain ⟨h1, h2⟩ := h
    refine ⟨?_, .normal, c, s, h2, trivial, hst⟩
    apply List.eq_nil_iff_forall_not_mem.2
    intro i hi
    have := (hrd done listed hsz hd i hi).1
    rw [h1] at this; cases this
  | succ m ih =>
    intro done listed c s a w hsz hd h hst
    obtain ⟨h1, h2⟩ := h
    refine ⟨fun hnil => ⟨.normal, c, s, h1 (hrd' done listed hsz hd hnil), trivial, hst⟩, fun i hi => ?_⟩
    obtain ⟨hr, hin⟩ := hrd done listed hsz hd i hi
    obtain ⟨o, x, g1, g2, g3⟩ := hget i i (by simp [hin])
    have h3 := allW_mem h2 hr
    rw [g2] at h3
    refine wpOp_mono ?_ (ai_sound hC g1 g3 h3 hst)
    rintro a' w' ⟨c', s', hK, hs'⟩
    refine ih (i :: done) _ c' s' a' w' (by simpa using hsz) (fun k => ?_) hK hs'
    rw [Array.getElem?_setIfInBounds]
    by_cases hki : i = k
    · subst hki; simp [show i < listed.size by omega]
    · rw [if_neg hki, ← hd k]
      simp [Ne.symm hki]
end
end Fw
