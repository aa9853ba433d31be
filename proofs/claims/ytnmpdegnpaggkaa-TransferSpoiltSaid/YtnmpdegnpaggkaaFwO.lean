/-
  Regions whose order is open: one run in the order of the text serves every order. Own work; over any program.
-/
import Derived.Test.YtnmpdegnpaggkaaFwN
set_option linter.unusedVariables false
set_option linter.unusedSimpArgs false
namespace Fw
open Go

def AOpd.reads : AOpd → List Nat
  | .t n => [n]
  | .c _ => []
def optReads : Option AOpd → List Nat
  | none => []
  | some x => x.reads
def lReads (xs : List AOpd) : List Nat := xs.flatMap AOpd.reads
def AOp.reads : AOp → List Nat
  | .mv x | .un _ x | .conv _ x | .boxi x | .boxm x | .load _ _ x | .faddr _ _ _ x | .field _ _ _ x | .extract x _ | .len _ x | .mkif _ x | .nilchk x | .panic x => x.reads
  | .pick c a b => c.reads ++ (a.reads ++ b.reads)
  | .bin _ _ x y | .store _ x y | .iaddrS _ x y | .iaddrA _ _ _ x y | .index _ _ _ x y | .append _ x y | .min x y | .max x y => x.reads ++ y.reads
  | .alloc _ => []
  | .build _ ps => ps.flatMap fun p => p.2.2.reads
  | .buildSl _ xs => lReads xs
  | .slice _ x lo hi mx => x.reads ++ (optReads lo ++ (optReads hi ++ optReads mx))
  | .mkfn _ xs ys => lReads xs ++ lReads ys
  | .pcall _ args | .hcall _ args => lReads args
  | .callv x args => x.reads ++ lReads args
def AI.reads (o : AI) : List Nat := (match o.g with | none => [] | some (t, _) => [t]) ++ o.op.reads
/-- 0: hangs on its operands alone, leaves memory · 1: reads memory · 2: append · 3: all else -/
def AOp.cls : AOp → Nat
  | .load .. => 1
  | .append .. => 2
  | .alloc _ | .boxm _ | .store .. | .hcall .. | .callv .. | .panic _ => 3
  | _ => 0

def SameOn (l : List Nat) (s s' : AS) : Prop := ∀ t ∈ l, s.env t = s'.env t

theorem ev_congr {x : AOpd} {s s' : AS} (h : SameOn x.reads s s') : s.ev x = s'.ev x := by
  cases x with
  | t n => exact h n (by simp [AOpd.reads])
  | c x => rfl
theorem evs_congr {xs : List AOpd} {s s' : AS} (h : SameOn (lReads xs) s s') : xs.map s.ev = xs.map s'.ev := by
  apply List.map_congr_left
  intro x hx
  exact ev_congr fun t ht => h t (List.mem_flatMap.2 ⟨x, hx, ht⟩)
theorem evo_congr {x : Option AOpd} {s s' : AS} (h : SameOn (optReads x) s s') : x.map s.ev = x.map s'.ev := by
  cases x with
  | none => rfl
  | some x => simp [ev_congr (x := x) h]
theorem SameOn.left {a b : List Nat} {s s' : AS} (h : SameOn (a ++ b) s s') : SameOn a s s' := fun t ht => h t (by simp [ht])
theorem SameOn.right {a b : List Nat} {s s' : AS} (h : SameOn (a ++ b) s s') : SameOn b s s' := fun t ht => h t (by simp [ht])

theorem evalOp_congr (C : PCtx) (op : AOp) {s s' : AS} (h : SameOn op.reads s s') (hh : s.hs = s'.hs) : evalOp C s op = evalOp C s' op := by
  cases op <;> simp only [AOp.reads] at h <;> simp only [evalOp, ← hh]
  case mv x => rw [ev_congr h]
  case pick c a b => rw [ev_congr h.left, ev_congr h.right.left, ev_congr h.right.right]
  case bin kd op x y => rw [ev_congr h.left, ev_congr h.right]
  case un op x => rw [ev_congr h]
  case conv k x => rw [ev_congr h]
  case boxi x => rw [ev_congr h]
  case boxm x => rw [ev_congr h]
  case build zs ps =>
    have : (ps.map fun p => (p.1, p.2.1, s.ev p.2.2)) = (ps.map fun p => (p.1, p.2.1, s'.ev p.2.2)) := by
      apply List.map_congr_left
      intro p hp
      rw [ev_congr fun t ht => h t (List.mem_flatMap.2 ⟨p, hp, ht⟩)]
    rw [this]
  case buildSl sz xs => rw [evs_congr h]
  case load ag sz x => rw [ev_congr h]
  case store sz x y => rw [ev_congr h.left, ev_congr h.right]
  case faddr ag sz off x => rw [ev_congr h]
  case field ag sz off x => rw [ev_congr h]
  case iaddrS sz x y => rw [ev_congr h.left, ev_congr h.right]
  case iaddrA len ag sz x y => rw [ev_congr h.left, ev_congr h.right]
  case index len ag sz x y => rw [ev_congr h.left, ev_congr h.right]
  case slice sz x lo hi mx => rw [ev_congr h.left, evo_congr h.right.left, evo_congr h.right.right.left, evo_congr h.right.right.right]
  case extract x n => rw [ev_congr h]
  case mkfn f xs ys => rw [evs_congr h.left, evs_congr h.right]
  case len st x => rw [ev_congr h]
  case append sz x y => rw [ev_congr h.left, ev_congr h.right]
  case min x y => rw [ev_congr h.left, ev_congr h.right]
  case max x y => rw [ev_congr h.left, ev_congr h.right]
  case mkif t x => rw [ev_congr h]
  case nilchk x => rw [ev_congr h]
  case pcall f args => rw [evs_congr h]

theorem evalOp_p (C : PCtx) {op : AOp} (hc : op.cls = 0) (env : Nat → AV) (h1 h2 : HS) : evalOp C ⟨env, h2⟩ op = (evalOp C ⟨env, h1⟩ op).map fun r => (r.1, h2) := by
  have e : ∀ x : AOpd, (⟨env, h2⟩ : AS).ev x = (⟨env, h1⟩ : AS).ev x := fun x => by cases x <;> rfl
  have e2 : ∀ xs : List AOpd, xs.map (⟨env, h2⟩ : AS).ev = xs.map (⟨env, h1⟩ : AS).ev := fun xs => List.map_congr_left fun x _ => e x
  have e3 : ∀ x : Option AOpd, x.map (⟨env, h2⟩ : AS).ev = x.map (⟨env, h1⟩ : AS).ev := fun x => by cases x <;> simp [e]
  cases op <;> simp only [AOp.cls] at hc <;> (try (cases hc; done)) <;> simp only [evalOp, e, e2, e3, Option.map_map, Option.map_some, Function.comp_def] <;> (try (split <;> rfl)) <;> (try rfl)

/-- the outcome of a step that is no call with memory and no panic -/
def resI (C : PCtx) (s : AS) (o : AI) : Option (AV × HS) := if s.want o.g = true then evalOp C s o.op else some (.undef, s.hs)
def AI.spec (o : AI) : Bool := special o.op

theorem want_congr {g : Option (Nat × Bool)} {s s' : AS} (h : SameOn (match g with | none => [] | some (t, _) => [t]) s s') : s.want g = s'.want g := by
  cases g with
  | none => rfl
  | some tb => simp only [AS.want]; rw [h tb.1 (by simp)]
theorem resI_congr (C : PCtx) (o : AI) {s s' : AS} (h : SameOn o.reads s s') (hh : s.hs = s'.hs) : resI C s o = resI C s' o := by
  unfold resI
  rw [want_congr (s' := s') (h.left), evalOp_congr C o.op h.right hh, hh]
theorem resI_p (C : PCtx) {o : AI} (hc : o.op.cls = 0) (env : Nat → AV) (h1 h2 : HS) : resI C ⟨env, h2⟩ o = (resI C ⟨env, h1⟩ o).map fun r => (r.1, h2) := by
  unfold resI
  rw [want_congr (s := ⟨env, h2⟩) (s' := ⟨env, h1⟩) (fun _ _ => rfl)]
  split
  · exact evalOp_p C hc env h1 h2
  · rfl

theorem opW_det {P : Program} {C : PCtx} {dst : Option Nat} {op : AOp} {K : AS → Prop} {Q : AEx → AS → Prop} {s : AS} (h : special op = false) : opW P C dst op K Q s = optK (evalOp C s op) fun r => K ((⟨s.env, r.2⟩ : AS).put dst r.1) := by
  cases op <;> first | rfl | (simp [special] at h)
theorem aiW_det {P : Program} {C : PCtx} {o : AI} {K : AS → Prop} {Q : AEx → AS → Prop} {s : AS} (h : o.spec = false) : aiW P C o K Q s ↔ ∃ r, resI C s o = some r ∧ K ((⟨s.env, r.2⟩ : AS).put o.dst r.1) := by
  unfold aiW condP resI
  split
  · rw [opW_det h]
    cases evalOp C s o.op with
    | none => simp [optK]
    | some r => simp [optK]
  · simp

theorem put_comm (env : Nat → AV) (h : HS) {d1 d2 : Option Nat} (hd : ∀ d, d1 = some d → d2 ≠ some d) (x1 x2 : AV) (h1 h2 : HS) :
    (⟨((⟨env, h1⟩ : AS).put d1 x1).env, h⟩ : AS).put d2 x2 = (⟨((⟨env, h2⟩ : AS).put d2 x2).env, h⟩ : AS).put d1 x1 := by
  cases d1 with
  | none => cases d2 <;> rfl
  | some a =>
    cases d2 with
    | none => rfl
    | some b =>
      have hne : b ≠ a := fun e => hd a rfl (by rw [e])
      simp only [AS.put]
      congr 1
      funext i
      by_cases h1 : i = a
      · by_cases h2 : i = b
        · exact absurd (h2.symm.trans h1) hne
        · subst h1; simp [h2]
      · by_cases h2 : i = b
        · subst h2; simp [h1]
        · simp [h1, h2]
theorem put_hs (s : AS) (d : Option Nat) (x : AV) : (s.put d x).hs = s.hs := by cases d <;> rfl
theorem put_same {l : List Nat} {s : AS} {d : Option Nat} {x : AV} {h : HS} (hd : ∀ t, d = some t → t ∉ l) : SameOn l ((⟨s.env, h⟩ : AS).put d x) s := by
  intro t ht
  cases d with
  | none => rfl
  | some d =>
    simp only [AS.put]
    rw [if_neg]
    intro e
    exact hd d rfl (e ▸ ht)
theorem put_eta (s : AS) (d : Option Nat) (x : AV) : s.put d x = (⟨s.env, s.hs⟩ : AS).put d x := rfl

/-- j and i do not meet -/
def apartI (j i : AI) : Bool :=
  (match j.dst with | none => true | some d => !(i.reads.contains d) && i.dst != some d) &&
  (match i.dst with | none => true | some d => !(j.reads.contains d))
def quietPair (j i : AI) : Bool := i.op.cls == 0 || j.op.cls == 0 || (i.op.cls ≤ 2 && j.op.cls ≤ 2 && (i.op.cls == 1 || j.op.cls == 1))
theorem apartI_spec {j i : AI} (h : apartI j i = true) : (∀ d, j.dst = some d → d ∉ i.reads) ∧ (∀ d, j.dst = some d → i.dst ≠ some d) ∧ (∀ d, i.dst = some d → d ∉ j.reads) := by
  unfold apartI at h
  simp only [Bool.and_eq_true] at h
  obtain ⟨h1, h2⟩ := h
  refine ⟨fun d hd => ?_, fun d hd => ?_, fun d hd => ?_⟩
  · rw [hd] at h1
    simp only [Bool.and_eq_true, Bool.not_eq_true', bne_iff_ne, ne_eq] at h1
    intro hm
    have := List.contains_iff_mem.2 hm
    rw [this] at h1; exact absurd h1.1 (by simp)
  · rw [hd] at h1
    simp only [Bool.and_eq_true, Bool.not_eq_true', bne_iff_ne, ne_eq] at h1
    exact h1.2
  · rw [hd] at h2
    simp only [Bool.not_eq_true'] at h2
    intro hm
    have := List.contains_iff_mem.2 hm
    rw [this] at h2; exact absurd h2 (by simp)

theorem cls_spec {o : AI} (h : o.op.cls ≤ 2) : o.spec = false := by
  obtain ⟨d, g, op⟩ := o
  cases op <;> first | rfl | (simp [AOp.cls] at h)

/-- an operation of class 0 that is done already: what comes before it in the text goes on as it did -/
theorem aiW_put {P : Program} {C : PCtx} {i j : AI} (hap : apartI j i = true) (hi : i.op.cls = 0) {K K' : AS → Prop} {Q : AEx → AS → Prop} (hQ : ∀ x s, ¬ Q (.panic x) s) {s : AS} {xi : AV}
    (h : aiW P C j K Q s) (hk : ∀ s1, SameOn i.reads s1 s → K s1 → K' (s1.put i.dst xi)) : aiW P C j K' Q (s.put i.dst xi) := by
  obtain ⟨a1, a2, a3⟩ := apartI_spec hap
  have hsame : SameOn j.reads (s.put i.dst xi) s := put_same (h := s.hs) a3
  unfold aiW condP at h ⊢
  rw [want_congr (s' := s) hsame.left]
  have comm : ∀ (x : AV) (hs' : HS), (⟨(s.put i.dst xi).env, hs'⟩ : AS).put j.dst x = ((⟨s.env, hs'⟩ : AS).put j.dst x).put i.dst xi := by
    intro x hs'
    have := put_comm s.env hs' (d1 := i.dst) (d2 := j.dst) (fun d h1 h2 => a2 d h2 h1) xi x s.hs hs'
    rw [put_eta ((⟨s.env, hs'⟩ : AS).put j.dst x), put_hs]
    exact this
  have stay : ∀ (x : AV) (hs' : HS), SameOn i.reads ((⟨s.env, hs'⟩ : AS).put j.dst x) s := fun x hs' => put_same a1
  have call : ∀ f args, hcW P f args j.dst K Q s → hcW P f args j.dst K' Q (s.put i.dst xi) := by
    intro f args hc
    unfold hcW at hc ⊢
    rw [put_hs]
    refine hc.mono fun e hs' he => ?_
    cases e with
    | ret v => simp only at he ⊢; rw [comm]; exact hk _ (stay _ _) he
    | panic v => exact (hQ _ _ he).elim
  split at h
  · rename_i hw
    rw [if_pos hw]
    by_cases hsp : special j.op = true
    · obtain ⟨jd, jg, jop⟩ := j
      cases jop <;> simp only [special] at hsp <;> (try (cases hsp; done))
      case hcall f args =>
        simp only [opW] at h ⊢
        have hr : SameOn (lReads args) (s.put i.dst xi) s := hsame.right
        rw [evs_congr hr]
        exact call _ _ h
      case callv x args =>
        simp only [opW] at h ⊢
        have hr : SameOn (x.reads ++ lReads args) (s.put i.dst xi) s := hsame.right
        rw [evs_congr (SameOn.right hr), ev_congr (SameOn.left hr)]
        unfold cvW at h ⊢
        split at h <;> (try (exact h.elim))
        exact call _ _ h
      case panic x =>
        simp only [opW] at h ⊢
        unfold pnW at h
        split at h
        · exact (hQ _ _ h).elim
        · exact h.elim
    · have hsp' : special j.op = false := by simpa using hsp
      rw [opW_det hsp'] at h ⊢
      rw [evalOp_congr C j.op hsame.right (put_hs _ _ _)]
      cases he : evalOp C s j.op with
      | none => rw [he] at h; exact h.elim
      | some r => rw [he] at h; simp only [optK] at h ⊢; rw [comm]; exact hk _ (stay _ _) h
  · rename_i hw
    rw [if_neg hw]
    have := comm .undef s.hs
    rw [put_eta (s.put i.dst xi), put_hs, this]
    exact hk _ (stay _ _) h

theorem move_p {P : Program} {C : PCtx} {i : AI} (hi : i.op.cls = 0) {Q : AEx → AS → Prop} (hQ : ∀ x s, ¬ Q (.panic x) s) {post : List AI} {xi : AV} :
    ∀ (pre : List AI) (s : AS), (∀ j ∈ pre, apartI j i = true) → resI C s i = some (xi, s.hs) → runW P C (pre ++ i :: post) Q s → runW P C (pre ++ post) Q (s.put i.dst xi)
  | [], s, _, hr, h => by
    simp only [List.nil_append, runW] at h ⊢
    obtain ⟨r, h1, h2⟩ := (aiW_det (cls_spec (by omega))).1 h
    rw [hr] at h1
    injection h1 with h1; subst h1
    exact h2
  | j :: pre, s, hap, hr, h => by
    simp only [List.cons_append, runW] at h ⊢
    refine aiW_put (hap j (by simp)) hi hQ h fun s1 hs1 h1 => ?_
    refine move_p hi hQ pre s1 (fun k hk => hap k (by simp [hk])) ?_ h1
    have : resI C ⟨s1.env, s.hs⟩ i = some (xi, s.hs) := by rw [← hr]; exact resI_congr C i hs1 rfl
    have h2 := resI_p C hi s1.env s.hs s1.hs
    rw [this] at h2
    exact h2

/-- two neighbours change places: the first is no call -/
theorem swap_det {P : Program} {C : PCtx} {j i : AI} (hap : apartI j i = true) (hj : j.spec = false) (hq : j.op.cls = 0 ∨ (i.op.cls ≤ 2 ∧ j.op.cls ≤ 2 ∧ (i.op.cls = 1 ∨ j.op.cls = 1))) {K : AS → Prop} {Q : AEx → AS → Prop} (hQ : ∀ x s, ¬ Q (.panic x) s) {s : AS}
    (h : aiW P C j (aiW P C i K Q) Q s) : aiW P C i (aiW P C j K Q) Q s := by
  obtain ⟨a1, a2, a3⟩ := apartI_spec hap
  obtain ⟨⟨xj, hj'⟩, h1, h2⟩ := (aiW_det hj).1 h
  have comm : ∀ (xi : AV) (ha hb hc : HS), (⟨((⟨s.env, ha⟩ : AS).put j.dst xj).env, hc⟩ : AS).put i.dst xi = (⟨((⟨s.env, hb⟩ : AS).put i.dst xi).env, hc⟩ : AS).put j.dst xj := fun xi ha hb hc =>
    put_comm s.env hc (fun d h1 h2 => a2 d h1 h2) xj xi ha hb
  have same_i : ∀ hs' : HS, SameOn i.reads ((⟨s.env, hs'⟩ : AS).put j.dst xj) s := fun hs' => put_same a1
  have same_j : ∀ (hs' : HS) (xi : AV), SameOn j.reads ((⟨s.env, hs'⟩ : AS).put i.dst xi) s := fun hs' xi => put_same a3
  rcases hq with hq | ⟨q1, q2, q3⟩
  · -- j hangs on its operands alone
    have hjs : hj' = s.hs := by
      have := resI_p C hq s.env s.hs s.hs
      rw [show (⟨s.env, s.hs⟩ : AS) = s from rfl, h1] at this
      simpa using this
    subst hjs
    have again : ∀ (xi : AV) (hs' : HS), resI C ((⟨s.env, hs'⟩ : AS).put i.dst xi) j = some (xj, hs') := by
      intro xi hs'
      have e1 := resI_congr C j (s := ⟨((⟨s.env, hs'⟩ : AS).put i.dst xi).env, s.hs⟩) (s' := s) (same_j hs' xi) rfl
      have e2 := resI_p C hq ((⟨s.env, hs'⟩ : AS).put i.dst xi).env s.hs hs'
      rw [e1, h1] at e2
      have e3 : (⟨((⟨s.env, hs'⟩ : AS).put i.dst xi).env, hs'⟩ : AS) = (⟨s.env, hs'⟩ : AS).put i.dst xi := by cases i.dst <;> rfl
      rw [e3] at e2
      simpa using e2
    have fin : ∀ (xi : AV) (hs' : HS), K ((⟨((⟨s.env, s.hs⟩ : AS).put j.dst xj).env, hs'⟩ : AS).put i.dst xi) → aiW P C j K Q ((⟨s.env, hs'⟩ : AS).put i.dst xi) := by
      intro xi hs' hk
      refine (aiW_det hj).2 ⟨_, again xi hs', ?_⟩
      rw [comm xi s.hs hs' hs'] at hk
      exact hk
    by_cases hsp : i.spec = true
    · unfold aiW condP at h2 ⊢
      rw [want_congr (s' := s) (same_i _).left] at h2
      have call : ∀ f args, hcW P f args i.dst K Q ((⟨s.env, s.hs⟩ : AS).put j.dst xj) → hcW P f args i.dst (aiW P C j K Q) Q s := by
        intro f args hc
        unfold hcW at hc ⊢
        rw [put_hs] at hc
        refine hc.mono fun e hs' he => ?_
        cases e with
        | ret v => exact fin v hs' he
        | panic v => exact (hQ _ _ he).elim
      split at h2
      · rename_i hw
        rw [if_pos hw]
        have hsm := same_i s.hs
        obtain ⟨jd, jg, jop⟩ := i
        cases jop <;> simp only [AI.spec, special] at hsp <;> (try (cases hsp; done))
        case hcall f args =>
          simp only [opW] at h2 ⊢
          have hr : SameOn (lReads args) ((⟨s.env, s.hs⟩ : AS).put j.dst xj) s := hsm.right
          rw [evs_congr hr] at h2
          exact call _ _ h2
        case callv x args =>
          simp only [opW] at h2 ⊢
          have hr : SameOn (x.reads ++ lReads args) ((⟨s.env, s.hs⟩ : AS).put j.dst xj) s := hsm.right
          rw [evs_congr (SameOn.right hr), ev_congr (SameOn.left hr)] at h2
          unfold cvW at h2 ⊢
          split at h2 <;> (try (exact h2.elim))
          exact call _ _ h2
        case panic x =>
          simp only [opW] at h2
          unfold pnW at h2
          split at h2
          · exact (hQ _ _ h2).elim
          · exact h2.elim
      · rename_i hw
        rw [if_neg hw]
        refine fin .undef s.hs ?_
        rw [put_eta ((⟨s.env, s.hs⟩ : AS).put j.dst xj), put_hs] at h2
        exact h2
    · have hsp' : i.spec = false := by simpa using hsp
      obtain ⟨⟨xi, hi'⟩, g1, g2⟩ := (aiW_det hsp').1 h2
      refine (aiW_det hsp').2 ⟨(xi, hi'), ?_, fin xi hi' g2⟩
      rw [← g1]
      exact (resI_congr C i (same_i s.hs) (put_hs _ _ _)).symm
  · -- a load beside a load or an append
    have hsp' : i.spec = false := cls_spec q1
    obtain ⟨⟨xi, hi'⟩, g1, g2⟩ := (aiW_det hsp').1 h2
    have loadw : ∀ (o : AI), o.op.cls = 1 → ∀ (env : Nat → AV) (ha hb : HS), ha.heap = hb.heap → resI C ⟨env, hb⟩ o = (resI C ⟨env, ha⟩ o).map fun r => (r.1, hb) := by
      intro o ho env ha hb hh
      obtain ⟨d, g, op⟩ := o
      cases op <;> simp only [AOp.cls] at ho <;> (try (cases ho; done))
      rename_i ag sz x
      unfold resI
      rw [want_congr (s := ⟨env, hb⟩) (s' := ⟨env, ha⟩) (fun _ _ => rfl)]
      split
      · have : (⟨env, hb⟩ : AS).ev x = (⟨env, ha⟩ : AS).ev x := by cases x <;> rfl
        simp only [evalOp, Option.map_map, Function.comp_def, this, hh]
      · rfl
    have appw : ∀ (o : AI) (s0 : AS) (r : AV × HS), o.op.cls = 2 → resI C s0 o = some r → r.2.heap = s0.hs.heap := by
      intro o s0 r ho hr
      obtain ⟨d, g, op⟩ := o
      cases op <;> simp only [AOp.cls] at ho <;> (try (cases ho; done))
      unfold resI at hr
      split at hr
      · simp only [evalOp, aappend] at hr
        split at hr <;> (try (cases hr; done))
        split at hr <;> (try (cases hr; done))
        split at hr
        · injection hr with hr; subst hr; rfl
        · split at hr <;> (try (cases hr; done))
          · injection hr with hr; subst hr; rfl
          · injection hr with hr; subst hr; rfl
          · split at hr <;> (try (cases hr; done))
            injection hr with hr; subst hr; rfl
      · injection hr with hr; subst hr; rfl
    have ecl : ∀ o : AI, o.op.cls ≤ 2 → o.op.cls = 0 ∨ o.op.cls = 1 ∨ o.op.cls = 2 := fun o h => by omega
    -- memory after one of them: its heap is as it was
    have hjh : hj'.heap = s.hs.heap := by
      rcases ecl j q2 with c0 | c1 | c2
      · have := resI_p C c0 s.env s.hs s.hs
        rw [show (⟨s.env, s.hs⟩ : AS) = s from rfl, h1] at this
        have : hj' = s.hs := by simpa using this
        rw [this]
      · have := loadw j c1 s.env s.hs s.hs rfl
        rw [show (⟨s.env, s.hs⟩ : AS) = s from rfl, h1] at this
        have : hj' = s.hs := by simpa using this
        rw [this]
      · exact appw j s _ c2 h1
    rcases q3 with q3 | q3
    · -- i is a load
      have e0 : (⟨s.env, hj'⟩ : AS).put j.dst xj = ⟨((⟨s.env, hj'⟩ : AS).put j.dst xj).env, hj'⟩ := by cases j.dst <;> rfl
      have e1 := resI_congr C i (s := (⟨s.env, hj'⟩ : AS).put j.dst xj) (s' := ⟨s.env, hj'⟩) (fun t ht => same_i hj' t ht) (put_hs _ _ _)
      rw [g1] at e1
      have e2 := loadw i q3 s.env hj' s.hs hjh
      rw [← e1] at e2
      have hih : hi' = hj' := by
        have := loadw i q3 s.env hj' hj' rfl
        rw [← e1] at this
        simpa using this
      refine (aiW_det hsp').2 ⟨(xi, s.hs), by simpa using e2, ?_⟩
      refine (aiW_det hj).2 ⟨(xj, hj'), ?_, ?_⟩
      · rw [← h1]
        exact resI_congr C j (same_j s.hs xi) (put_hs _ _ _)
      · rw [hih] at g2
        have := comm xi hj' s.hs hj'
        rw [this] at g2
        exact g2
    · -- j is a load
      have hjs : hj' = s.hs := by
        have := loadw j q3 s.env s.hs s.hs rfl
        rw [show (⟨s.env, s.hs⟩ : AS) = s from rfl, h1] at this
        simpa using this
      subst hjs
      have e1 := resI_congr C i (same_i s.hs) (put_hs _ _ _)
      rw [g1] at e1
      have hih : hi'.heap = s.hs.heap := by
        rcases ecl i q1 with c0 | c1 | c2
        · have := resI_p C c0 s.env s.hs s.hs
          rw [show (⟨s.env, s.hs⟩ : AS) = s from rfl, ← e1] at this
          have : hi' = s.hs := by simpa using this
          rw [this]
        · have := loadw i c1 s.env s.hs s.hs rfl
          rw [show (⟨s.env, s.hs⟩ : AS) = s from rfl, ← e1] at this
          have : hi' = s.hs := by simpa using this
          rw [this]
        · exact appw i s _ c2 e1.symm
      refine (aiW_det hsp').2 ⟨(xi, hi'), e1.symm, ?_⟩
      refine (aiW_det hj).2 ⟨(xj, hi'), ?_, ?_⟩
      · have e3 : (⟨s.env, hi'⟩ : AS).put i.dst xi = ⟨((⟨s.env, hi'⟩ : AS).put i.dst xi).env, hi'⟩ := by cases i.dst <;> rfl
        have e4 := loadw j q3 ((⟨s.env, hi'⟩ : AS).put i.dst xi).env s.hs hi' hih.symm
        have e5 := resI_congr C j (s := ⟨((⟨s.env, hi'⟩ : AS).put i.dst xi).env, s.hs⟩) (s' := s) (same_j hi' xi) rfl
        rw [e5, h1] at e4
        rw [e3]
        simpa using e4
      · have := comm xi s.hs hi' hi'
        rw [this] at g2
        exact g2
end Fw
