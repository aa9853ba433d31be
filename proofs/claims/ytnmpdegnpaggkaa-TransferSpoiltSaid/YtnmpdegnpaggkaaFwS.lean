/-
  How the abstract weakest precondition is stepped: equations for simp; lists of integers; integers of 64 bits; contexts of contracts. Own work; over any program.
-/
import Derived.Test.YtnmpdegnpaggkaaFwQ
set_option linter.unusedVariables false
set_option linter.unusedSimpArgs false
namespace Fw
open Go

attribute [congr] Option.map_congr
theorem condP_congr {b b' : Bool} {p q : Prop} (h : b = b') : condP b p q = condP b' p q := by rw [h]
theorem condV_congr {b b' : AV} {p q : Prop} (h : b = b') : condV b p q = condV b' p q := by rw [h]
theorem optK_congr {α : Type} {b b' : Option α} {K : α → Prop} (h : b = b') : optK b K = optK b' K := by rw [h]
attribute [congr] condP_congr condV_congr optK_congr

section
variable {P : Program} {C : PCtx} {d : Option Nat} {K : AS → Prop} {Q : AEx → AS → Prop} {s : AS}
theorem condP_true {p q : Prop} : condP true p q = p := by simp [condP]
theorem condP_false {p q : Prop} : condP false p q = q := by simp [condP]
theorem condV_bool {b : Bool} {p q : Prop} : condV (.bool b) p q = condP b p q := id rfl
theorem condP_split {b : Bool} {p q : Prop} (h1 : b = true → p) (h2 : b = false → q) : condP b p q := by cases b <;> simp_all [condP]
theorem condP_dec {c : Prop} [Decidable c] {p q : Prop} (h1 : c → p) (h2 : ¬ c → q) : condP (decide c) p q := by by_cases h : c <;> simp_all [condP]
theorem optK_some {α : Type} {a : α} {K : α → Prop} : optK (some a) K = K a := id rfl
theorem aiW_n {op : AOp} : aiW P C ⟨d, none, op⟩ K Q s = opW P C d op K Q s := by simp [aiW, AS.want, condP]
theorem aiW_s {t : Nat} {b : Bool} {op : AOp} : aiW P C ⟨d, some (t, b), op⟩ K Q s = condP (wantB (s.env t) b) (opW P C d op K Q s) (K (s.put d .undef)) := id rfl
theorem wantB_t {b : Bool} : wantB (.bool b) true = b := by cases b <;> rfl
theorem wantB_f {b : Bool} : wantB (.bool b) false = !b := by cases b <;> rfl
theorem runW_nil : runW P C [] Q s = Q .normal s := id rfl
theorem runW_cons {o : AI} {os : List AI} : runW P C (o :: os) Q s = aiW P C o (runW P C os Q) Q s := id rfl
theorem ev_t {n : Nat} : s.ev (.t n) = s.env n := id rfl
theorem ev_c {x : AV} : s.ev (.c x) = x := id rfl
theorem env_put {n i : Nat} {x : AV} : (s.put (some n) x).env i = if i = n then x else s.env i := id rfl
theorem hs_put {x : AV} : (s.put d x).hs = s.hs := put_hs s d x
theorem hs_mk {env : Nat → AV} {hs : HS} : (⟨env, hs⟩ : AS).hs = hs := id rfl
theorem env_mk {env : Nat → AV} {hs : HS} : (⟨env, hs⟩ : AS).env = env := id rfl
theorem env_none {x : AV} : (s.put none x).env = s.env := id rfl
theorem argEnv_0 {x : AV} {xs : List AV} : argEnv (x :: xs) 0 = x := id rfl
theorem argEnv_s {x : AV} {xs : List AV} {i : Nat} : argEnv (x :: xs) (i + 1) = argEnv xs i := id rfl
theorem argEnv_nil {i : Nat} : argEnv [] i = .undef := id rfl

theorem opW_mv {x : AOpd} : opW P C d (.mv x) K Q s = K (s.put d (s.ev x)) := id rfl
theorem opW_pick {x y z : AOpd} : opW P C d (.pick x y z) K Q s = optK (apick (s.ev x) (s.ev y) (s.ev z)) fun r => K (s.put d r) := by simp only [opW, evalOp]; cases apick (s.ev x) (s.ev y) (s.ev z) <;> rfl
theorem opW_bin {kd : Nat} {op : BinOp} {x y : AOpd} : opW P C d (.bin kd op x y) K Q s = optK (abin kd op (s.ev x) (s.ev y)) fun r => K (s.put d r) := by simp only [opW, evalOp]; cases abin kd op (s.ev x) (s.ev y) <;> rfl
theorem opW_un {op : UnOp} {x : AOpd} : opW P C d (.un op x) K Q s = optK (aun op (s.ev x)) fun r => K (s.put d r) := by simp only [opW, evalOp]; cases aun op (s.ev x) <;> rfl
theorem opW_conv {k : IntKind} {x : AOpd} : opW P C d (.conv k x) K Q s = optK (aconv k (s.ev x)) fun r => K (s.put d r) := by simp only [opW, evalOp]; cases aconv k (s.ev x) <;> rfl
theorem opW_alloc {zs : List AV} : opW P C d (.alloc zs) K Q s = K ((⟨s.env, { s.hs with heap := fun i => if i = s.hs.nh then some zs else s.hs.heap i, nh := s.hs.nh + 1 }⟩ : AS).put d (.ref s.hs.nh 0)) := id rfl
theorem opW_boxi {x : AOpd} : opW P C d (.boxi x) K Q s = condP (s.ev x).sto (K (s.put d (.ptr (s.ev x)))) False := by simp only [opW, evalOp, condP]; split <;> rfl
theorem opW_boxm {x : AOpd} : opW P C d (.boxm x) K Q s = condP (s.ev x).sto (K ((⟨s.env, { s.hs with heap := fun i => if i = s.hs.nh then some (s.ev x).cells else s.hs.heap i, nh := s.hs.nh + 1 }⟩ : AS).put d (.ref s.hs.nh 0))) False := by simp only [opW, evalOp, condP]; split <;> rfl
theorem opW_build {zs : List AV} {ps : List (Nat × Nat × AOpd)} : opW P C d (.build zs ps) K Q s = optK (afill zs (ps.map fun p => (p.1, p.2.1, s.ev p.2.2))) fun r => K (s.put d (.agg r)) := by simp only [opW, evalOp]; cases afill zs (ps.map fun p => (p.1, p.2.1, s.ev p.2.2)) <;> rfl
theorem opW_buildSl {sz : Nat} {xs : List AOpd} : opW P C d (.buildSl sz xs) K Q s = condP (astoAll sz (xs.map s.ev)) (K (s.put d (.sl sz (xs.map s.ev) .exact))) False := by simp only [opW, evalOp, condP]; split <;> rfl
theorem opW_load {ag : Bool} {sz : Nat} {x : AOpd} : opW P C d (.load ag sz x) K Q s = optK (aload s.hs.heap ag sz (s.ev x)) fun r => K (s.put d r) := by simp only [opW, evalOp]; cases aload s.hs.heap ag sz (s.ev x) <;> rfl
theorem opW_store {sz : Nat} {x y : AOpd} : opW P C d (.store sz x y) K Q s = optK (astore s.hs.heap sz (s.ev x) (s.ev y)) fun r => K ((⟨s.env, { s.hs with heap := r }⟩ : AS).put d .undef) := by simp only [opW, evalOp]; cases astore s.hs.heap sz (s.ev x) (s.ev y) <;> rfl
theorem opW_faddr {ag : Bool} {sz off : Nat} {x : AOpd} : opW P C d (.faddr ag sz off x) K Q s = optK (afaddr ag sz off (s.ev x)) fun r => K (s.put d r) := by simp only [opW, evalOp]; cases afaddr ag sz off (s.ev x) <;> rfl
theorem opW_field {ag : Bool} {sz off : Nat} {x : AOpd} : opW P C d (.field ag sz off x) K Q s = optK (afield ag sz off (s.ev x)) fun r => K (s.put d r) := by simp only [opW, evalOp]; cases afield ag sz off (s.ev x) <;> rfl
theorem opW_iaddrS {sz : Nat} {x y : AOpd} : opW P C d (.iaddrS sz x y) K Q s = optK (aidxS sz (s.ev x) (s.ev y)) fun r => K (s.put d r) := by simp only [opW, evalOp]; cases aidxS sz (s.ev x) (s.ev y) <;> rfl
theorem opW_iaddrA {len : Nat} {ag : Bool} {sz : Nat} {x y : AOpd} : opW P C d (.iaddrA len ag sz x y) K Q s = optK (aidxA len ag sz (s.ev x) (s.ev y)) fun r => K (s.put d r) := by simp only [opW, evalOp]; cases aidxA len ag sz (s.ev x) (s.ev y) <;> rfl
theorem opW_index {len : Nat} {ag : Bool} {sz : Nat} {x y : AOpd} : opW P C d (.index len ag sz x y) K Q s = optK (aindex len ag sz (s.ev x) (s.ev y)) fun r => K (s.put d r) := by simp only [opW, evalOp]; cases aindex len ag sz (s.ev x) (s.ev y) <;> rfl
theorem opW_slice {sz : Nat} {x : AOpd} {lo hi mx : Option AOpd} : opW P C d (.slice sz x lo hi mx) K Q s = optK (aslice sz (s.ev x) (lo.map s.ev) (hi.map s.ev) (mx.map s.ev)) fun r => K (s.put d r) := by simp only [opW, evalOp]; cases aslice sz (s.ev x) (lo.map s.ev) (hi.map s.ev) (mx.map s.ev) <;> rfl
theorem opW_extract {x : AOpd} {n : Nat} : opW P C d (.extract x n) K Q s = optK (aextract (s.ev x) n) fun r => K (s.put d r) := by simp only [opW, evalOp]; cases aextract (s.ev x) n <;> rfl
theorem opW_mkfn {f : Fn} {xs ys : List AOpd} : opW P C d (.mkfn f xs ys) K Q s = K (s.put d (.fn f (xs.map s.ev) (ys.map s.ev))) := id rfl
theorem opW_len {st : Bool} {x : AOpd} : opW P C d (.len st x) K Q s = optK (alenK st (s.ev x)) fun r => K (s.put d r) := by simp only [opW, evalOp]; cases alenK st (s.ev x) <;> rfl
theorem opW_append {sz : Nat} {x y : AOpd} : opW P C d (.append sz x y) K Q s = optK (aappend sz s.hs (s.ev x) (s.ev y)) fun r => K ((⟨s.env, r.2⟩ : AS).put d r.1) := id rfl
theorem opW_min {x y : AOpd} : opW P C d (.min x y) K Q s = optK (amin (s.ev x) (s.ev y)) fun r => K (s.put d r) := by simp only [opW, evalOp]; cases amin (s.ev x) (s.ev y) <;> rfl
theorem opW_max {x y : AOpd} : opW P C d (.max x y) K Q s = optK (amax (s.ev x) (s.ev y)) fun r => K (s.put d r) := by simp only [opW, evalOp]; cases amax (s.ev x) (s.ev y) <;> rfl
theorem opW_mkif {t : TypeId} {x : AOpd} : opW P C d (.mkif t x) K Q s = K (s.put d (.iface t (s.ev x))) := id rfl
theorem opW_nilchk {x : AOpd} : opW P C d (.nilchk x) K Q s = optK (anilchk (s.ev x)) fun r => K (s.put d r) := by simp only [opW, evalOp]; cases anilchk (s.ev x) <;> rfl
theorem opW_pcall {f : FuncId} {args : List AOpd} : opW P C d (.pcall f args) K Q s = optK (C f (args.map s.ev)) fun r => K (s.put d r) := by simp only [opW, evalOp]; cases C f (args.map s.ev) <;> rfl
theorem opW_hcall {f : FuncId} {args : List AOpd} : opW P C d (.hcall f args) K Q s = hcW P f (args.map s.ev) d K Q s := id rfl
theorem opW_callv {x : AOpd} {args : List AOpd} : opW P C d (.callv x args) K Q s = cvW P (s.ev x) (args.map s.ev) d K Q s := id rfl
theorem opW_panic {x : AOpd} : opW P C d (.panic x) K Q s = pnW (s.ev x) Q s := id rfl

theorem awp_skip : awp P C .skip Q s = Q .normal s := id rfl
theorem awp_reg {ops : List AI} : awp P C (.reg ops) Q s = runW P C ops Q s := id rfl
theorem awp_regd {ops : List AI} : awp P C (.regd ops) Q s = runW P C ops (noPQ Q) s := id rfl
theorem awp_seq {a b : ACode} : awp P C (.seq a b) Q s = awp P C a (thenQ (awp P C b Q) Q) s := id rfl
theorem awp_regl {ops : List AI} : awp P C (.regl ops) Q s = runW P C ops Q s := id rfl
theorem awp_rega {ds : List (List Nat)} {ops : List AI} : awp P C (.rega ds ops) Q s = anyW P C ds ops ops.length [] Q s := id rfl
theorem awp_cond {c : AOpd} {a b : ACode} : awp P C (.cond c a b) Q s = condV (s.ev c) (awp P C a Q s) (awp P C b Q s) := id rfl
theorem awp_block {id : Nat} {b : ACode} : awp P C (.block id b) Q s = awp P C b (blkQ id Q) s := rfl
theorem awp_scope {b : ACode} : awp P C (.scope b) Q s = awp P C b (noGQ Q) s := id rfl
theorem awp_exit {id : Nat} : awp P C (.exit id) Q s = Q (.exit id) s := rfl
theorem awp_label : awp P C .label Q s = Q .normal s := id rfl
theorem awp_ret : awp P C .ret Q s = Q .ret s := id rfl
theorem thenQ_n : thenQ K Q .normal s = K s := id rfl
theorem thenQ_e {i : Nat} : thenQ K Q (.exit i) s = Q (.exit i) s := id rfl
theorem thenQ_r : thenQ K Q .ret s = Q .ret s := id rfl
theorem thenQ_p {x : AV} : thenQ K Q (.panic x) s = Q (.panic x) s := id rfl
theorem blkQ_n {i : Nat} : blkQ i Q .normal s = Q .normal s := id rfl
theorem blkQ_e {i j : Nat} : blkQ i Q (.exit j) s = if j = i then Q .normal s else Q (.exit j) s := id rfl
theorem blkQ_r {i : Nat} : blkQ i Q .ret s = Q .ret s := id rfl
theorem blkQ_p {i : Nat} {x : AV} : blkQ i Q (.panic x) s = Q (.panic x) s := id rfl
theorem noPQ_n : noPQ Q .normal s = Q .normal s := id rfl
theorem noGQ_n : noGQ Q .normal s = Q .normal s := id rfl
theorem noGQ_e {i : Nat} : noGQ Q (.exit i) s = Q (.exit i) s := id rfl
theorem noGQ_r : noGQ Q .ret s = Q .ret s := id rfl
theorem noGQ_p {x : AV} : noGQ Q (.panic x) s = Q (.panic x) s := id rfl
theorem finQ_n {rs : List ARes} {R : AEnd → HS → Prop} : finQ rs R .normal s = optK (aResult s rs) fun x => R (.ret x) s.hs := id rfl
theorem finQ_r {rs : List ARes} {R : AEnd → HS → Prop} : finQ rs R .ret s = optK (aResult s rs) fun x => R (.ret x) s.hs := id rfl
theorem finQ_p {rs : List ARes} {R : AEnd → HS → Prop} {x : AV} : finQ rs R (.panic x) s = R (.panic x) s.hs := id rfl
end

/-! a loop -/
theorem awp_mono {P : Program} {C : PCtx} : ∀ (ac : ACode) {Q Q' : AEx → AS → Prop}, (∀ e s, Q e s → Q' e s) → ∀ s, awp P C ac Q s → awp P C ac Q' s := by
  have hcm : ∀ {f : FuncId} {args : List AV} {d : Option Nat} {K K' : AS → Prop} {Q Q' : AEx → AS → Prop}, (∀ s, K s → K' s) → (∀ e s, Q e s → Q' e s) → ∀ s, hcW P f args d K Q s → hcW P f args d K' Q' s := by
    intro f args d K K' Q Q' hk hq s h
    unfold hcW at h ⊢
    exact h.mono fun e hs' he => by cases e <;> first | exact hk _ he | exact hq _ _ he
  have aim : ∀ {o : AI} {K K' : AS → Prop} {Q Q' : AEx → AS → Prop}, (∀ s, K s → K' s) → (∀ e s, Q e s → Q' e s) → ∀ s, aiW P C o K Q s → aiW P C o K' Q' s := by
    intro o K K' Q Q' hk hq s h
    unfold aiW condP at h ⊢
    split at h
    · rename_i hw
      rw [if_pos hw]
      by_cases hsp : special o.op = true
      · obtain ⟨jd, jg, jop⟩ := o
        cases jop <;> simp only [special] at hsp <;> (try (cases hsp; done))
        case hcall f args => exact hcm hk hq _ h
        case callv x args =>
          simp only [opW] at h ⊢
          unfold cvW at h ⊢
          split at h <;> (try (exact h.elim))
          exact hcm hk hq _ h
        case panic x =>
          simp only [opW] at h ⊢
          unfold pnW at h ⊢
          split at h
          · exact hq _ _ h
          · exact h.elim
      · have hsp' : special o.op = false := by simpa using hsp
        rw [opW_det hsp'] at h ⊢
        cases he : evalOp C s o.op with
        | none => rw [he] at h; exact h.elim
        | some r => rw [he] at h; exact hk _ h
    · rename_i hw
      rw [if_neg hw]
      exact hk _ h
  have runm : ∀ (ops : List AI) {Q Q' : AEx → AS → Prop}, (∀ e s, Q e s → Q' e s) → ∀ s, runW P C ops Q s → runW P C ops Q' s := by
    intro ops
    induction ops with
    | nil => intro Q Q' hq s h; exact hq _ _ h
    | cons o ops ih => intro Q Q' hq s h; exact aim (fun s h => ih hq s h) hq s h
  have alm : ∀ {l : List Nat} {f g : Nat → Prop}, (∀ i, f i → g i) → allW l f → allW l g := by
    intro l f g h
    induction l with
    | nil => exact fun _ => trivial
    | cons i l ih => exact fun h' => ⟨h i h'.1, ih h'.2⟩
  have anm : ∀ (ds : List (List Nat)) (xs : List AI) (m : Nat) (done : List Nat) {Q Q' : AEx → AS → Prop}, (∀ e s, Q e s → Q' e s) → ∀ s, anyW P C ds xs m done Q s → anyW P C ds xs m done Q' s := by
    intro ds xs m
    induction m with
    | zero => intro done Q Q' hq s h; exact ⟨h.1, hq _ _ h.2⟩
    | succ m ih =>
      intro done Q Q' hq s h
      refine ⟨fun e => hq _ _ (h.1 e), alm (fun i hi => ?_) h.2⟩
      cases hx : xs[i]? with
      | none => rw [hx] at hi; exact hi
      | some x => rw [hx] at hi; exact aim (fun s h => ih _ hq s h) hq s hi
  intro ac
  induction ac with
  | skip => intro Q Q' hq s h; exact hq _ _ h
  | rega ds ops => intro Q Q' hq s h; exact anm ds ops ops.length [] hq s h
  | reg ops => intro Q Q' hq s h; exact runm ops hq s h
  | regd ops => intro Q Q' hq s h; exact runm ops (fun e s h => by cases e <;> first | exact hq _ _ h | exact h) s h
  | regl ops => intro Q Q' hq s h; exact runm ops hq s h
  | seq a b iha ihb => intro Q Q' hq s h; exact iha (fun e s h => by cases e <;> first | exact ihb hq _ h | exact hq _ _ h) s h
  | cond c a b iha ihb =>
    intro Q Q' hq s h
    simp only [awp] at h ⊢
    unfold condV condP at h ⊢
    split at h
    · split at h
      · rename_i hb; rw [if_pos hb]; exact iha hq s h
      · rename_i hb; rw [if_neg hb]; exact ihb hq s h
    · exact h.elim
  | block id b ih =>
    intro Q Q' hq s h
    exact ih (fun e s h => by
      cases e <;> simp only [blkQ] at h ⊢ <;> first
        | exact hq _ _ h
        | (split at h
           · rename_i he; rw [if_pos he]; exact hq _ _ h
           · rename_i he; rw [if_neg he]; exact hq _ _ h)) s h
  | loop b ih =>
    intro Q Q' hq s h
    obtain ⟨n, h⟩ := h
    refine ⟨n, ?_⟩
    induction n generalizing s with
    | zero => exact h
    | succ n ihn => exact ih (fun e s h => by cases e <;> first | exact ihn _ h | exact hq _ _ h) s h
  | scope b ih => intro Q Q' hq s h; exact ih (fun e s h => by cases e <;> first | exact hq _ _ h | exact h) s h
  | exit id => intro Q Q' hq s h; exact hq _ _ h
  | label => intro Q Q' hq s h; exact hq _ _ h
  | ret => intro Q Q' hq s h; exact hq _ _ h

theorem loopW_mono {P : Program} {C : PCtx} {b : ACode} : ∀ (n m : Nat), n ≤ m → ∀ {Q : AEx → AS → Prop} (s : AS), loopW (awp P C b) n Q s → loopW (awp P C b) m Q s
  | 0, _, _, Q, s, h => h.elim
  | n + 1, 0, hm, Q, s, h => absurd hm (by omega)
  | n + 1, m + 1, hm, Q, s, h => awp_mono b (fun e s h => by cases e <;> first | exact loopW_mono n m (by omega) s h | exact h) s h

/-- a loop by what holds at each round's head ('I x s': the round that x names) and a number that every round lowers -/
theorem awp_loop {P : Program} {C : PCtx} {b : ACode} {Q : AEx → AS → Prop} {σ : Type} (I : σ → AS → Prop) (μ : σ → Nat)
    (round : ∀ x s, I x s → awp P C b (thenQ (fun s' => ∃ y, μ y < μ x ∧ I y s') Q) s) {x : σ} {s : AS} (h : I x s) : awp P C (.loop b) Q s := by
  have key : ∀ n (x : σ) (s : AS), μ x ≤ n → I x s → loopW (awp P C b) (n + 1) Q s := by
    intro n
    induction n with
    | zero =>
      intro x s hx h
      exact awp_mono b (fun e s h => by
        cases e <;> first
          | exact h
          | (obtain ⟨y, hy, _⟩ := h; omega)) s (round x s h)
    | succ n ih =>
      intro x s hx h
      exact awp_mono b (fun e s h => by
        cases e <;> first
          | exact h
          | (obtain ⟨y, hy, hI⟩ := h; exact ih y _ (by omega) hI)) s (round x s h)
  exact ⟨_, key _ x s (Nat.le_refl _) h⟩

/-! lists of integers -/
abbrev ints (l : List Int) : List AV := l.map (AV.int .i64)
def deInts : List AV → Option (List Int)
  | [] => some []
  | .int .i64 n :: xs => (deInts xs).map (n :: ·)
  | _ => none
/-- a value that reads as a list of integers -/
def asInts : AV → Option (List Int)
  | .nilsl => some []
  | .sl 1 xs _ => deInts xs
  | _ => none
theorem deInts_ints (l : List Int) : deInts (ints l) = some l := by
  induction l with
  | nil => rfl
  | cons a l ih => simp only [ints, List.map_cons, deInts]; rw [show List.map (AV.int .i64) l = ints l from rfl, ih]; rfl
theorem deInts_inv {xs : List AV} {l : List Int} (h : deInts xs = some l) : xs = ints l := by
  induction xs generalizing l with
  | nil => simp only [deInts] at h; injection h with h; subst h; rfl
  | cons x xs ih =>
    unfold deInts at h
    split at h
    · rename_i heq; cases heq
    · rename_i n ys heq
      injection heq with e1 e2; subst e1; subst e2
      cases hr : deInts xs with
      | none => simp [hr] at h
      | some r =>
        simp [hr] at h; subst h
        simp only [ints, List.map_cons]
        rw [ih hr]
    · cases h
theorem asInts_inv {x : AV} {l : List Int} (h : asInts x = some l) : (x = .nilsl ∧ l = []) ∨ ∃ c, x = .sl 1 (ints l) c := by
  unfold asInts at h
  split at h
  · injection h with h; exact .inl ⟨rfl, h.symm⟩
  · rename_i xs c; exact .inr ⟨c, by rw [deInts_inv h]⟩
  · cases h
theorem asInts_sl (l : List Int) (c : Cap) : asInts (.sl 1 (ints l) c) = some l := deInts_ints l
theorem asInts_nil : asInts .nilsl = some [] := id rfl
theorem plain_ints (l : List Int) : plainL (ints l) = true := by
  induction l with
  | nil => rfl
  | cons a l ih => simp only [ints, List.map_cons, plainL, AV.plain, Bool.true_and]; exact ih

theorem len_of {x : AV} {l : List Int} (h : asInts x = some l) : alenK false x = some (.int .i64 l.length) := by
  rcases asInts_inv h with ⟨rfl, rfl⟩ | ⟨c, rfl⟩
  · rfl
  · simp [alenK]
theorem idx_of {x : AV} {l : List Int} (h : asInts x = some l) {k : IntKind} {n : Int} {v : Int} (h0 : 0 ≤ n) (hv : l[n.toNat]? = some v) : aidxS 1 x (.int k n) = some (.ptr (.int .i64 v)) := by
  rcases asInts_inv h with ⟨rfl, rfl⟩ | ⟨c, rfl⟩
  · simp at hv
  · simp only [aidxS, h0, and_self, if_true, ints, List.getElem?_map, hv, Option.map_some]
theorem load_ptr_int {hp : Nat → Option (List AV)} {k : IntKind} {v : Int} : aload hp false 1 (.ptr (.int k v)) = some (.int k v) := id rfl
theorem load_ptr_bool {hp : Nat → Option (List AV)} {v : Bool} : aload hp false 1 (.ptr (.bool v)) = some (.bool v) := id rfl

/-! integers of 64 bits -/
theorem wrap64 {n : Int} (h1 : -9223372036854775808 ≤ n) (h2 : n < 9223372036854775808) : IntKind.i64.wrap n = n := by
  rw [IntKind.wrap_i64]; omega
end Fw
