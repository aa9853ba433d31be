/-
  How the abstract weakest precondition is stepped: equations for simp; lists of integers; integers of 64 bits; contexts of contracts. Own work; over any program.
  Stepping with a mark: the equations of FwS, at the mark's place alone, so that what is not reached yet stays as it is; specs of functions; lists of integers. Own work; over any program.
  Results with owned slices: read as shared ones from outside. Own work; over any program.
  Lists as values: taken, dropped, clipped, appended. Own work; over any program.
  Lists of numbers that are built by appending. Own work; over any program.
  Mutable slices: stepping, and results that are read by their content. Own work; over any program.
  Regions whose order is open, by an invariant on what is done. Own work; over any program.
  Regions whose order is open: an operation that hangs on its operands alone may be done first. Own work; over any program.
  Regions whose order is open: a load from memory that nothing in the region changes may be done first. Own work; over any program.
  A mutable slice that is lent for good: its block becomes lasting, and a struct that holds it reads it by its content. Own work; over any program.
  Closed runs, evaluated: the compacted code as a function, for calls whose arguments are known whole. Own work; over any program.
-/
import Derived.Test.YtdcpkgedaflnmaaDoorFx2
set_option linter.unusedVariables false
set_option linter.unusedSimpArgs false
namespace Fw
open Go

attribute [congr] Option.map_congr
theorem condP_congr {b b' : Bool} {p q : Prop} (h : b = b') : condP b p q = condP b' p q := by rw [h]
theorem condV_congr {b b' : AV} {p q : Prop} (h : b = b') : condV b p q = condV b' p q := by rw [h]
theorem optK_congr {α : Type} {b b' : Option α} {K : α → Prop} (h : b = b') : optK b K = optK b' K := by rw [h]
attribute [congr] condP_congr condV_congr optK_congr

section
variable {P : Program} {C : PCtx} {d : Option Nat} {K : AS → Prop} {Q : AEx → AS → Prop} {s : AS}
theorem aiW_n {op : AOp} : aiW P C ⟨d, none, op⟩ K Q s = opW P C d op K Q s := by simp [aiW, AS.want, condP]
theorem aiW_s {t : Nat} {b : Bool} {op : AOp} : aiW P C ⟨d, some (t, b), op⟩ K Q s = condP (wantB (s.env t) b) (opW P C d op K Q s) (K (s.put d .undef)) := id rfl
theorem wantB_t {b : Bool} : wantB (.bool b) true = b := by cases b <;> rfl
theorem wantB_f {b : Bool} : wantB (.bool b) false = !b := by cases b <;> rfl
theorem runW_nil : runW P C [] Q s = Q .normal s := id rfl
theorem runW_cons {o : AI} {os : List AI} : runW P C (o :: os) Q s = aiW P C o (runW P C os Q) Q s := id rfl
theorem ev_t {n : Nat} : s.ev (.t n) = s.env n := id rfl
theorem ev_c {x : AV} : s.ev (.c x) = x := id rfl
theorem env_put {n i : Nat} {x : AV} : (s.put (some n) x).env i = if i = n then x else s.env i := id rfl
theorem hs_put {x : AV} : (s.put d x).hs = s.hs := put_hs s d x
theorem hs_mk {env : Nat → AV} {hs : HS} : (⟨env, hs⟩ : AS).hs = hs := id rfl
theorem env_mk {env : Nat → AV} {hs : HS} : (⟨env, hs⟩ : AS).env = env := id rfl
theorem env_none {x : AV} : (s.put none x).env = s.env := id rfl
theorem argEnv_0 {x : AV} {xs : List AV} : argEnv (x :: xs) 0 = x := id rfl
theorem argEnv_s {x : AV} {xs : List AV} {i : Nat} : argEnv (x :: xs) (i + 1) = argEnv xs i := id rfl
theorem argEnv_nil {i : Nat} : argEnv [] i = .undef := id rfl

theorem opW_mv {x : AOpd} : opW P C d (.mv x) K Q s = K (s.put d (s.ev x)) := id rfl
theorem opW_pick {x y z : AOpd} : opW P C d (.pick x y z) K Q s = optK (apick (s.ev x) (s.ev y) (s.ev z)) fun r => K (s.put d r) := by simp only [opW, evalOp]; cases apick (s.ev x) (s.ev y) (s.ev z) <;> rfl
theorem opW_bin {kd : Nat} {op : BinOp} {x y : AOpd} : opW P C d (.bin kd op x y) K Q s = optK (abin kd op (s.ev x) (s.ev y)) fun r => K (s.put d r) := by simp only [opW, evalOp]; cases abin kd op (s.ev x) (s.ev y) <;> rfl
theorem opW_un {op : UnOp} {x : AOpd} : opW P C d (.un op x) K Q s = optK (aun op (s.ev x)) fun r => K (s.put d r) := by simp only [opW, evalOp]; cases aun op (s.ev x) <;> rfl
theorem opW_conv {k : IntKind} {x : AOpd} : opW P C d (.conv k x) K Q s = optK (aconv k (s.ev x)) fun r => K (s.put d r) := by simp only [opW, evalOp]; cases aconv k (s.ev x) <;> rfl
theorem opW_alloc {zs : List AV} : opW P C d (.alloc zs) K Q s = K ((⟨s.env, { s.hs with heap := fun i => if i = s.hs.nh then some zs else s.hs.heap i, nh := s.hs.nh + 1 }⟩ : AS).put d (.ref s.hs.nh 0)) := id rfl
theorem opW_make {ag : Bool} {sz : Nat} {zs : List AV} {x y : AOpd} : opW P C d (.make ag sz zs x y) K Q s = optK (amake ag sz zs s.hs (s.ev x) (s.ev y)) fun r => K ((⟨s.env, r.2⟩ : AS).put d r.1) := id rfl
theorem opW_lcall {f : FuncId} {args : List AOpd} : opW P C d (.lcall f args) K Q s = optK (alcall C f s.hs (args.map s.ev)) fun r => K (s.put d r) := by simp only [opW, evalOp]; cases alcall C f s.hs (args.map s.ev) <;> rfl
theorem opW_mem {m : MOp} {xs : List AOpd} : opW P C d (.mem m xs) K Q s = optK (amem m s.hs (xs.map s.ev)) fun r => K ((⟨s.env, r.2⟩ : AS).put d r.1) := id rfl
theorem opW_cap {x : AOpd} : opW P C d (.cap x) K Q s = optK (acap (s.ev x)) fun r => K (s.put d r) := by simp only [opW, evalOp]; cases acap (s.ev x) <;> rfl
theorem opW_appz {sz : Nat} {x y : AOpd} : opW P C d (.appz sz x y) K Q s = optK (aappz sz s.hs (s.ev x) (s.ev y)) fun r => K ((⟨s.env, r.2⟩ : AS).put d r.1) := id rfl
theorem opW_boxi {x : AOpd} : opW P C d (.boxi x) K Q s = condP (s.ev x).sto (K (s.put d (.ptr (s.ev x)))) False := by simp only [opW, evalOp, condP]; split <;> rfl
theorem opW_boxm {x : AOpd} : opW P C d (.boxm x) K Q s = condP (s.ev x).sto (K ((⟨s.env, { s.hs with heap := fun i => if i = s.hs.nh then some (s.ev x).cells else s.hs.heap i, nh := s.hs.nh + 1 }⟩ : AS).put d (.ref s.hs.nh 0))) False := by simp only [opW, evalOp, condP]; split <;> rfl
theorem opW_build {zs : List AV} {ps : List (Nat × Nat × AOpd)} : opW P C d (.build zs ps) K Q s = optK (afill zs (ps.map fun p => (p.1, p.2.1, s.ev p.2.2))) fun r => K (s.put d (.agg r)) := by simp only [opW, evalOp]; cases afill zs (ps.map fun p => (p.1, p.2.1, s.ev p.2.2)) <;> rfl
theorem opW_buildSl {sz : Nat} {xs : List AOpd} : opW P C d (.buildSl sz xs) K Q s = condP (astoAll sz (xs.map s.ev)) (K (s.put d (.sl sz (xs.map s.ev) .exact))) False := by simp only [opW, evalOp, condP]; split <;> rfl
theorem opW_load {ag : Bool} {sz : Nat} {x : AOpd} : opW P C d (.load ag sz x) K Q s = optK (aload s.hs.heap ag sz (s.ev x)) fun r => K (s.put d r) := by simp only [opW, evalOp]; cases aload s.hs.heap ag sz (s.ev x) <;> rfl
theorem opW_store {sz : Nat} {x y : AOpd} : opW P C d (.store sz x y) K Q s = optK (astore s.hs.heap sz (s.ev x) (s.ev y)) fun r => K ((⟨s.env, { s.hs with heap := r }⟩ : AS).put d .undef) := by simp only [opW, evalOp]; cases astore s.hs.heap sz (s.ev x) (s.ev y) <;> rfl
theorem opW_faddr {ag : Bool} {sz off : Nat} {x : AOpd} : opW P C d (.faddr ag sz off x) K Q s = optK (afaddr ag sz off (s.ev x)) fun r => K (s.put d r) := by simp only [opW, evalOp]; cases afaddr ag sz off (s.ev x) <;> rfl
theorem opW_field {ag : Bool} {sz off : Nat} {x : AOpd} : opW P C d (.field ag sz off x) K Q s = optK (afield ag sz off (s.ev x)) fun r => K (s.put d r) := by simp only [opW, evalOp]; cases afield ag sz off (s.ev x) <;> rfl
theorem opW_iaddrS {sz : Nat} {x y : AOpd} : opW P C d (.iaddrS sz x y) K Q s = optK (aidxS sz (s.ev x) (s.ev y)) fun r => K (s.put d r) := by simp only [opW, evalOp]; cases aidxS sz (s.ev x) (s.ev y) <;> rfl
theorem opW_iaddrA {len : Nat} {ag : Bool} {sz : Nat} {x y : AOpd} : opW P C d (.iaddrA len ag sz x y) K Q s = optK (aidxA len ag sz (s.ev x) (s.ev y)) fun r => K (s.put d r) := by simp only [opW, evalOp]; cases aidxA len ag sz (s.ev x) (s.ev y) <;> rfl
theorem opW_index {len : Nat} {ag : Bool} {sz : Nat} {x y : AOpd} : opW P C d (.index len ag sz x y) K Q s = optK (aindex len ag sz (s.ev x) (s.ev y)) fun r => K (s.put d r) := by simp only [opW, evalOp]; cases aindex len ag sz (s.ev x) (s.ev y) <;> rfl
theorem opW_slice {sz : Nat} {x : AOpd} {lo hi mx : Option AOpd} : opW P C d (.slice sz x lo hi mx) K Q s = optK (aslice sz (s.ev x) (lo.map s.ev) (hi.map s.ev) (mx.map s.ev)) fun r => K (s.put d r) := by simp only [opW, evalOp]; cases aslice sz (s.ev x) (lo.map s.ev) (hi.map s.ev) (mx.map s.ev) <;> rfl
theorem opW_extract {x : AOpd} {n : Nat} : opW P C d (.extract x n) K Q s = optK (aextract (s.ev x) n) fun r => K (s.put d r) := by simp only [opW, evalOp]; cases aextract (s.ev x) n <;> rfl
theorem opW_mkfn {f : Fn} {xs ys : List AOpd} : opW P C d (.mkfn f xs ys) K Q s = K (s.put d (.fn f (xs.map s.ev) (ys.map s.ev))) := id rfl
theorem opW_len {st : Bool} {x : AOpd} : opW P C d (.len st x) K Q s = optK (alenK st (s.ev x)) fun r => K (s.put d r) := by simp only [opW, evalOp]; cases alenK st (s.ev x) <;> rfl
theorem opW_appm {sz : Nat} {x y : AOpd} : opW P C d (.appm sz x y) K Q s = optK (aappm sz s.hs (s.ev x) (s.ev y)) fun r => K ((⟨s.env, r.2⟩ : AS).put d r.1) := id rfl
theorem opW_append {sz : Nat} {x y : AOpd} : opW P C d (.append sz x y) K Q s = optK (aappend sz s.hs (s.ev x) (s.ev y)) fun r => K ((⟨s.env, r.2⟩ : AS).put d r.1) := id rfl
theorem opW_min {x y : AOpd} : opW P C d (.min x y) K Q s = optK (amin (s.ev x) (s.ev y)) fun r => K (s.put d r) := by simp only [opW, evalOp]; cases amin (s.ev x) (s.ev y) <;> rfl
theorem opW_max {x y : AOpd} : opW P C d (.max x y) K Q s = optK (amax (s.ev x) (s.ev y)) fun r => K (s.put d r) := by simp only [opW, evalOp]; cases amax (s.ev x) (s.ev y) <;> rfl
theorem opW_mkif {t : TypeId} {x : AOpd} : opW P C d (.mkif t x) K Q s = K (s.put d (.iface t (s.ev x))) := id rfl
theorem opW_nilchk {x : AOpd} : opW P C d (.nilchk x) K Q s = optK (anilchk (s.ev x)) fun r => K (s.put d r) := by simp only [opW, evalOp]; cases anilchk (s.ev x) <;> rfl
theorem opW_pcall {f : FuncId} {args : List AOpd} : opW P C d (.pcall f args) K Q s = optK (C f (args.map s.ev)) fun r => K (s.put d r) := by simp only [opW, evalOp]; cases C f (args.map s.ev) <;> rfl
theorem opW_hcall {f : FuncId} {args : List AOpd} : opW P C d (.hcall f args) K Q s = hcW P f (args.map s.ev) d K Q s := id rfl
theorem opW_callv {x : AOpd} {args : List AOpd} : opW P C d (.callv x args) K Q s = cvW P (s.ev x) (args.map s.ev) d K Q s := id rfl
theorem opW_invk {ms : List AV} {x : AOpd} {args : List AOpd} : opW P C d (.invk ms x args) K Q s = ivW P ms (s.ev x) (args.map s.ev) d K Q s := id rfl
theorem opW_panic {x : AOpd} : opW P C d (.panic x) K Q s = pnW (s.ev x) Q s := id rfl

theorem awp_skip : awp P C .skip Q s = Q .normal s := id rfl
theorem awp_reg {ops : List AI} : awp P C (.reg ops) Q s = runW P C ops Q s := id rfl
theorem awp_regd {ops : List AI} : awp P C (.regd ops) Q s = runW P C ops (noPQ Q) s := id rfl
theorem awp_seq {a b : ACode} : awp P C (.seq a b) Q s = awp P C a (thenQ (awp P C b Q) Q) s := id rfl
theorem awp_regl {ops : List AI} : awp P C (.regl ops) Q s = runW P C ops Q s := id rfl
theorem awp_rega {ds : List (List Nat)} {ops : List AI} : awp P C (.rega ds ops) Q s = anyW P C ds ops ops.length [] Q s := id rfl
theorem awp_cond {c : AOpd} {a b : ACode} : awp P C (.cond c a b) Q s = condV (s.ev c) (awp P C a Q s) (awp P C b Q s) := id rfl
theorem awp_block {id : Nat} {b : ACode} : awp P C (.block id b) Q s = awp P C b (blkQ id Q) s := rfl
theorem awp_scope {b : ACode} : awp P C (.scope b) Q s = awp P C b (noGQ Q) s := id rfl
theorem awp_exit {id : Nat} : awp P C (.exit id) Q s = Q (.exit id) s := rfl
theorem awp_label {l : Nat} : awp P C (.label l) Q s = Q .normal s := id rfl
theorem awp_goto {l : Nat} : awp P C (.goto l) Q s = Q (.goto l) s := id rfl
theorem awp_ret : awp P C .ret Q s = Q .ret s := id rfl
theorem thenQ_n : thenQ K Q .normal s = K s := id rfl
theorem thenQ_e {i : Nat} : thenQ K Q (.exit i) s = Q (.exit i) s := id rfl
theorem thenQ_r : thenQ K Q .ret s = Q .ret s := id rfl
theorem thenQ_p {x : AV} : thenQ K Q (.panic x) s = Q (.panic x) s := id rfl
theorem blkQ_n {i : Nat} : blkQ i Q .normal s = Q .normal s := id rfl
theorem blkQ_e {i j : Nat} : blkQ i Q (.exit j) s = if j = i then Q .normal s else Q (.exit j) s := id rfl
theorem blkQ_r {i : Nat} : blkQ i Q .ret s = Q .ret s := id rfl
theorem blkQ_p {i : Nat} {x : AV} : blkQ i Q (.panic x) s = Q (.panic x) s := id rfl
theorem noPQ_n : noPQ Q .normal s = Q .normal s := id rfl
theorem noGQ_n : noGQ Q .normal s = Q .normal s := id rfl
theorem noGQ_e {i : Nat} : noGQ Q (.exit i) s = Q (.exit i) s := id rfl
theorem noGQ_r : noGQ Q .ret s = Q .ret s := id rfl
theorem noGQ_p {x : AV} : noGQ Q (.panic x) s = Q (.panic x) s := id rfl
theorem finQ_n {rs : List ARes} {R : AEnd → HS → Prop} : finQ rs R .normal s = optK (aResult s rs) fun x => R (.ret x) s.hs := id rfl
theorem finQ_r {rs : List ARes} {R : AEnd → HS → Prop} : finQ rs R .ret s = optK (aResult s rs) fun x => R (.ret x) s.hs := id rfl
theorem finQ_p {rs : List ARes} {R : AEnd → HS → Prop} {x : AV} : finQ rs R (.panic x) s = R (.panic x) s.hs := id rfl
end

/-! a loop -/
theorem awp_mono {P : Program} {C : PCtx} : ∀ (ac : ACode) {Q Q' : AEx → AS → Prop}, (∀ e s, Q e s → Q' e s) → ∀ s, awp P C ac Q s → awp P C ac Q' s := by
  have hcm : ∀ {f : FuncId} {args : List AV} {d : Option Nat} {K K' : AS → Prop} {Q Q' : AEx → AS → Prop}, (∀ s, K s → K' s) → (∀ e s, Q e s → Q' e s) → ∀ s, hcW P f args d K Q s → hcW P f args d K' Q' s := by
    intro f args d K K' Q Q' hk hq s h
    unfold hcW at h ⊢
    exact h.mono fun e hs' he => by cases e <;> first | exact hk _ he | exact hq _ _ he
  have aim : ∀ {o : AI} {K K' : AS → Prop} {Q Q' : AEx → AS → Prop}, (∀ s, K s → K' s) → (∀ e s, Q e s → Q' e s) → ∀ s, aiW P C o K Q s → aiW P C o K' Q' s := by
    intro o K K' Q Q' hk hq s h
    unfold aiW condP at h ⊢
    split at h
    · rename_i hw
      rw [if_pos hw]
      by_cases hsp : special o.op = true
      · obtain ⟨jd, jg, jop⟩ := o
        cases jop <;> simp only [special] at hsp <;> (try (cases hsp; done))
        case hcall f args => exact hcm hk hq _ h
        case callv x args =>
          simp only [opW] at h ⊢
          unfold cvW at h ⊢
          split at h <;> (try (exact h.elim))
          exact hcm hk hq _ h
        case invk ms x args =>
          simp only [opW] at h ⊢
          unfold ivW at h ⊢
          split at h <;> (try (exact h.elim))
          exact hcm hk hq _ h
        case panic x =>
          simp only [opW] at h ⊢
          unfold pnW at h ⊢
          split at h
          · exact hq _ _ h
          · exact h.elim
      · have hsp' : special o.op = false := by simpa using hsp
        rw [opW_det hsp'] at h ⊢
        cases he : evalOp C s o.op with
        | none => rw [he] at h; exact h.elim
        | some r => rw [he] at h; exact hk _ h
    · rename_i hw
      rw [if_neg hw]
      exact hk _ h
  have runm : ∀ (ops : List AI) {Q Q' : AEx → AS → Prop}, (∀ e s, Q e s → Q' e s) → ∀ s, runW P C ops Q s → runW P C ops Q' s := by
    intro ops
    induction ops with
    | nil => intro Q Q' hq s h; exact hq _ _ h
    | cons o ops ih => intro Q Q' hq s h; exact aim (fun s h => ih hq s h) hq s h
  have alm : ∀ {l : List Nat} {f g : Nat → Prop}, (∀ i, f i → g i) → allW l f → allW l g := by
    intro l f g h
    induction l with
    | nil => exact fun _ => trivial
    | cons i l ih => exact fun h' => ⟨h i h'.1, ih h'.2⟩
  have anm : ∀ (ds : List (List Nat)) (xs : List AI) (m : Nat) (done : List Nat) {Q Q' : AEx → AS → Prop}, (∀ e s, Q e s → Q' e s) → ∀ s, anyW P C ds xs m done Q s → anyW P C ds xs m done Q' s := by
    intro ds xs m
    induction m with
    | zero => intro done Q Q' hq s h; exact ⟨h.1, hq _ _ h.2⟩
    | succ m ih =>
      intro done Q Q' hq s h
      refine ⟨fun e => hq _ _ (h.1 e), alm (fun i hi => ?_) h.2⟩
      cases hx : xs[i]? with
      | none => rw [hx] at hi; exact hi
      | some x => rw [hx] at hi; exact aim (fun s h => ih _ hq s h) hq s hi
  intro ac
  induction ac with
  | skip => intro Q Q' hq s h; exact hq _ _ h
  | rega ds ops => intro Q Q' hq s h; exact anm ds ops ops.length [] hq s h
  | reg ops => intro Q Q' hq s h; exact runm ops hq s h
  | regd ops => intro Q Q' hq s h; exact runm ops (fun e s h => by cases e <;> first | exact hq _ _ h | exact h) s h
  | regl ops => intro Q Q' hq s h; exact runm ops hq s h
  | seq a b iha ihb => intro Q Q' hq s h; exact iha (fun e s h => by cases e <;> first | exact ihb hq _ h | exact hq _ _ h) s h
  | cond c a b iha ihb =>
    intro Q Q' hq s h
    simp only [awp] at h ⊢
    unfold condV condP at h ⊢
    split at h
    · split at h
      · rename_i hb; rw [if_pos hb]; exact iha hq s h
      · rename_i hb; rw [if_neg hb]; exact ihb hq s h
    · exact h.elim
  | block id b ih =>
    intro Q Q' hq s h
    exact ih (fun e s h => by
      cases e <;> simp only [blkQ] at h ⊢ <;> first
        | exact hq _ _ h
        | (split at h
           · rename_i he; rw [if_pos he]; exact hq _ _ h
           · rename_i he; rw [if_neg he]; exact hq _ _ h)) s h
  | loop b ih =>
    intro Q Q' hq s h
    obtain ⟨n, h⟩ := h
    refine ⟨n, ?_⟩
    induction n generalizing s with
    | zero => exact h
    | succ n ihn => exact ih (fun e s h => by cases e <;> first | exact ihn _ h | exact hq _ _ h) s h
  | scope b ih => intro Q Q' hq s h; exact ih (fun e s h => by cases e <;> first | exact hq _ _ h | exact h) s h
  | exit id => intro Q Q' hq s h; exact hq _ _ h
  | label l => intro Q Q' hq s h; exact hq _ _ h
  | goto l => intro Q Q' hq s h; exact hq _ _ h
  | jump b l1 r1 l2 r2 ih ih1 ih2 =>
    intro Q Q' hq s h
    obtain ⟨n, h⟩ := h
    have gm : ∀ n l s, jmpG (awp P C r1) (awp P C r2) l1 l2 Q n l s → jmpG (awp P C r1) (awp P C r2) l1 l2 Q' n l s := by
      intro n
      induction n with
      | zero => intro l s h; exact h
      | succ n ihn =>
        have gq : ∀ e s, gotoQ (jmpG (awp P C r1) (awp P C r2) l1 l2 Q n) Q e s → gotoQ (jmpG (awp P C r1) (awp P C r2) l1 l2 Q' n) Q' e s := fun e s h => by
          cases e <;> first | exact ihn _ _ h | exact hq _ _ h
        intro l s h
        simp only [jmpG] at h ⊢
        split at h
        · rename_i hl; rw [if_pos hl]; exact ih1 gq s h
        · rename_i hl
          rw [if_neg hl]
          split at h
          · rename_i hl2; rw [if_pos hl2]; exact ih2 gq s h
          · exact h.elim
    exact ⟨n, ih (fun e s h => by cases e <;> first | exact gm _ _ _ h | exact hq _ _ h) s h⟩
  | ret => intro Q Q' hq s h; exact hq _ _ h

/-- a loop by what holds at each round's head ('I x s': the round that x names) and a number that every round lowers -/
theorem awp_loop {P : Program} {C : PCtx} {b : ACode} {Q : AEx → AS → Prop} {σ : Type} (I : σ → AS → Prop) (μ : σ → Nat)
    (round : ∀ x s, I x s → awp P C b (thenQ (fun s' => ∃ y, μ y < μ x ∧ I y s') Q) s) {x : σ} {s : AS} (h : I x s) : awp P C (.loop b) Q s := by
  have key : ∀ n (x : σ) (s : AS), μ x ≤ n → I x s → loopW (awp P C b) (n + 1) Q s := by
    intro n
    induction n with
    | zero =>
      intro x s hx h
      exact awp_mono b (fun e s h => by
        cases e <;> first
          | exact h
          | (obtain ⟨y, hy, _⟩ := h; omega)) s (round x s h)
    | succ n ih =>
      intro x s hx h
      exact awp_mono b (fun e s h => by
        cases e <;> first
          | exact h
          | (obtain ⟨y, hy, hI⟩ := h; exact ih y _ (by omega) hI)) s (round x s h)
  exact ⟨_, key _ x s (Nat.le_refl _) h⟩

/-! lists of integers -/
abbrev ints (l : List Int) : List AV := l.map (AV.int .i64)
def deInts : List AV → Option (List Int)
  | [] => some []
  | .int .i64 n :: xs => (deInts xs).map (n :: ·)
  | _ => none
theorem deInts_ints (l : List Int) : deInts (ints l) = some l := by
  induction l with
  | nil => rfl
  | cons a l ih => simp only [ints, List.map_cons, deInts]; rw [show List.map (AV.int .i64) l = ints l from rfl, ih]; rfl
theorem deInts_inv {xs : List AV} {l : List Int} (h : deInts xs = some l) : xs = ints l := by
  induction xs generalizing l with
  | nil => simp only [deInts] at h; injection h with h; subst h; rfl
  | cons x xs ih =>
    unfold deInts at h
    split at h
    · rename_i heq; cases heq
    · rename_i n ys heq
      injection heq with e1 e2; subst e1; subst e2
      cases hr : deInts xs with
      | none => simp [hr] at h
      | some r =>
        simp [hr] at h; subst h
        simp only [ints, List.map_cons]
        rw [ih hr]
    · cases h
theorem plain_ints (l : List Int) : plainL (ints l) = true := by
  induction l with
  | nil => rfl
  | cons a l ih => simp only [ints, List.map_cons, plainL, AV.plain, Bool.true_and]; exact ih

theorem load_ptr_int {hp : Nat → Option (List AV)} {k : IntKind} {v : Int} : aload hp false 1 (.ptr (.int k v)) = some (.int k v) := id rfl
theorem load_ptr_bool {hp : Nat → Option (List AV)} {v : Bool} : aload hp false 1 (.ptr (.bool v)) = some (.bool v) := id rfl

/-! integers of 64 bits -/
theorem wrap64 {n : Int} (h1 : -9223372036854775808 ≤ n) (h2 : n < 9223372036854775808) : IntKind.i64.wrap n = n := by
  rw [IntKind.wrap_i64]; omega
end Fw
set_option linter.unusedVariables false
set_option linter.unusedSimpArgs false
namespace Fw
open Go

/-- the place where a run stands -/
def At (p : Prop) : Prop := p
theorem At.i {p : Prop} (h : At p) : p := h
theorem At.of {p : Prop} (h : p) : At p := h

section
variable {P : Program} {C : PCtx} {d : Option Nat} {K : AS → Prop} {Q : AEx → AS → Prop} {s : AS}
@[simp] theorem At.cond_t {p q : Prop} : At (condP true p q) = At p := by simp [At, condP]
@[simp] theorem At.cond_f {p q : Prop} : At (condP false p q) = At q := by simp [At, condP]
@[simp] theorem At.cond_v {b : Bool} {p q : Prop} : At (condV (.bool b) p q) = At (condP b p q) := id rfl
@[simp] theorem At.optS {α : Type} {a : α} {K : α → Prop} : At (optK (some a) K) = At (K a) := id rfl
theorem At.dec {c : Prop} [Decidable c] {p q : Prop} (h1 : c → At p) (h2 : ¬ c → At q) : At (condP (decide c) p q) := by by_cases h : c <;> simp_all [condP, At]
@[simp] theorem At.tr : At True = True := id rfl
@[simp] theorem At.eqr {x y : AV} : At (AEnd.ret x = AEnd.ret y) = (x = y) := by simp [At]

@[simp] theorem At.aiW_n {op : AOp} : At (aiW P C ⟨d, none, op⟩ K Q s) = At (opW P C d op K Q s) := congrArg At Fw.aiW_n
@[simp] theorem At.aiW_s {t : Nat} {b : Bool} {op : AOp} : At (aiW P C ⟨d, some (t, b), op⟩ K Q s) = At (condP (wantB (s.env t) b) (opW P C d op K Q s) (K (s.put d .undef))) := congrArg At Fw.aiW_s
@[simp] theorem At.runW_nil : At (runW P C [] Q s) = At (Q .normal s) := congrArg At Fw.runW_nil
@[simp] theorem At.runW_cons {o : AI} {os : List AI} : At (runW P C (o :: os) Q s) = At (aiW P C o (runW P C os Q) Q s) := congrArg At Fw.runW_cons
@[simp] theorem At.opW_mv {x : AOpd} : At (opW P C d (.mv x) K Q s) = At (K (s.put d (s.ev x))) := congrArg At Fw.opW_mv
@[simp] theorem At.opW_pick {x y z : AOpd} : At (opW P C d (.pick x y z) K Q s) = At (optK (apick (s.ev x) (s.ev y) (s.ev z)) fun r => K (s.put d r)) := congrArg At Fw.opW_pick
@[simp] theorem At.opW_bin {kd : Nat} {op : BinOp} {x y : AOpd} : At (opW P C d (.bin kd op x y) K Q s) = At (optK (abin kd op (s.ev x) (s.ev y)) fun r => K (s.put d r)) := congrArg At Fw.opW_bin
@[simp] theorem At.opW_un {op : UnOp} {x : AOpd} : At (opW P C d (.un op x) K Q s) = At (optK (aun op (s.ev x)) fun r => K (s.put d r)) := congrArg At Fw.opW_un
@[simp] theorem At.opW_conv {k : IntKind} {x : AOpd} : At (opW P C d (.conv k x) K Q s) = At (optK (aconv k (s.ev x)) fun r => K (s.put d r)) := congrArg At Fw.opW_conv
@[simp] theorem At.opW_alloc {zs : List AV} : At (opW P C d (.alloc zs) K Q s) = At (K ((⟨s.env, { s.hs with heap := fun i => if i = s.hs.nh then some zs else s.hs.heap i, nh := s.hs.nh + 1 }⟩ : AS).put d (.ref s.hs.nh 0))) := congrArg At Fw.opW_alloc
@[simp] theorem At.opW_make {ag : Bool} {sz : Nat} {zs : List AV} {x y : AOpd} : At (opW P C d (.make ag sz zs x y) K Q s) = At (optK (amake ag sz zs s.hs (s.ev x) (s.ev y)) fun r => K ((⟨s.env, r.2⟩ : AS).put d r.1)) := congrArg At Fw.opW_make
@[simp] theorem At.opW_lcall {f : FuncId} {args : List AOpd} : At (opW P C d (.lcall f args) K Q s) = At (optK (alcall C f s.hs (args.map s.ev)) fun r => K (s.put d r)) := congrArg At Fw.opW_lcall
@[simp] theorem At.opW_mem {m : MOp} {xs : List AOpd} : At (opW P C d (.mem m xs) K Q s) = At (optK (amem m s.hs (xs.map s.ev)) fun r => K ((⟨s.env, r.2⟩ : AS).put d r.1)) := congrArg At Fw.opW_mem
@[simp] theorem At.opW_cap {x : AOpd} : At (opW P C d (.cap x) K Q s) = At (optK (acap (s.ev x)) fun r => K (s.put d r)) := congrArg At Fw.opW_cap
@[simp] theorem At.opW_appz {sz : Nat} {x y : AOpd} : At (opW P C d (.appz sz x y) K Q s) = At (optK (aappz sz s.hs (s.ev x) (s.ev y)) fun r => K ((⟨s.env, r.2⟩ : AS).put d r.1)) := congrArg At Fw.opW_appz
@[simp] theorem At.opW_boxi {x : AOpd} : At (opW P C d (.boxi x) K Q s) = At (condP (s.ev x).sto (K (s.put d (.ptr (s.ev x)))) False) := congrArg At Fw.opW_boxi
@[simp] theorem At.opW_boxm {x : AOpd} : At (opW P C d (.boxm x) K Q s) = At (condP (s.ev x).sto (K ((⟨s.env, { s.hs with heap := fun i => if i = s.hs.nh then some (s.ev x).cells else s.hs.heap i, nh := s.hs.nh + 1 }⟩ : AS).put d (.ref s.hs.nh 0))) False) := congrArg At Fw.opW_boxm
@[simp] theorem At.opW_build {zs : List AV} {ps : List (Nat × Nat × AOpd)} : At (opW P C d (.build zs ps) K Q s) = At (optK (afill zs (ps.map fun p => (p.1, p.2.1, s.ev p.2.2))) fun r => K (s.put d (.agg r))) := congrArg At Fw.opW_build
@[simp] theorem At.opW_buildSl {sz : Nat} {xs : List AOpd} : At (opW P C d (.buildSl sz xs) K Q s) = At (condP (astoAll sz (xs.map s.ev)) (K (s.put d (.sl sz (xs.map s.ev) .exact))) False) := congrArg At Fw.opW_buildSl
@[simp] theorem At.opW_load {ag : Bool} {sz : Nat} {x : AOpd} : At (opW P C d (.load ag sz x) K Q s) = At (optK (aload s.hs.heap ag sz (s.ev x)) fun r => K (s.put d r)) := congrArg At Fw.opW_load
@[simp] theorem At.opW_store {sz : Nat} {x y : AOpd} : At (opW P C d (.store sz x y) K Q s) = At (optK (astore s.hs.heap sz (s.ev x) (s.ev y)) fun r => K ((⟨s.env, { s.hs with heap := r }⟩ : AS).put d .undef)) := congrArg At Fw.opW_store
@[simp] theorem At.opW_faddr {ag : Bool} {sz off : Nat} {x : AOpd} : At (opW P C d (.faddr ag sz off x) K Q s) = At (optK (afaddr ag sz off (s.ev x)) fun r => K (s.put d r)) := congrArg At Fw.opW_faddr
@[simp] theorem At.opW_field {ag : Bool} {sz off : Nat} {x : AOpd} : At (opW P C d (.field ag sz off x) K Q s) = At (optK (afield ag sz off (s.ev x)) fun r => K (s.put d r)) := congrArg At Fw.opW_field
@[simp] theorem At.opW_iaddrS {sz : Nat} {x y : AOpd} : At (opW P C d (.iaddrS sz x y) K Q s) = At (optK (aidxS sz (s.ev x) (s.ev y)) fun r => K (s.put d r)) := congrArg At Fw.opW_iaddrS
@[simp] theorem At.opW_iaddrA {len : Nat} {ag : Bool} {sz : Nat} {x y : AOpd} : At (opW P C d (.iaddrA len ag sz x y) K Q s) = At (optK (aidxA len ag sz (s.ev x) (s.ev y)) fun r => K (s.put d r)) := congrArg At Fw.opW_iaddrA
@[simp] theorem At.opW_index {len : Nat} {ag : Bool} {sz : Nat} {x y : AOpd} : At (opW P C d (.index len ag sz x y) K Q s) = At (optK (aindex len ag sz (s.ev x) (s.ev y)) fun r => K (s.put d r)) := congrArg At Fw.opW_index
@[simp] theorem At.opW_slice {sz : Nat} {x : AOpd} {lo hi mx : Option AOpd} : At (opW P C d (.slice sz x lo hi mx) K Q s) = At (optK (aslice sz (s.ev x) (lo.map s.ev) (hi.map s.ev) (mx.map s.ev)) fun r => K (s.put d r)) := congrArg At Fw.opW_slice
@[simp] theorem At.opW_extract {x : AOpd} {n : Nat} : At (opW P C d (.extract x n) K Q s) = At (optK (aextract (s.ev x) n) fun r => K (s.put d r)) := congrArg At Fw.opW_extract
@[simp] theorem At.opW_mkfn {f : Fn} {xs ys : List AOpd} : At (opW P C d (.mkfn f xs ys) K Q s) = At (K (s.put d (.fn f (xs.map s.ev) (ys.map s.ev)))) := congrArg At Fw.opW_mkfn
@[simp] theorem At.opW_len {st : Bool} {x : AOpd} : At (opW P C d (.len st x) K Q s) = At (optK (alenK st (s.ev x)) fun r => K (s.put d r)) := congrArg At Fw.opW_len
@[simp] theorem At.opW_appm {sz : Nat} {x y : AOpd} : At (opW P C d (.appm sz x y) K Q s) = At (optK (aappm sz s.hs (s.ev x) (s.ev y)) fun r => K ((⟨s.env, r.2⟩ : AS).put d r.1)) := congrArg At Fw.opW_appm
@[simp] theorem At.opW_append {sz : Nat} {x y : AOpd} : At (opW P C d (.append sz x y) K Q s) = At (optK (aappend sz s.hs (s.ev x) (s.ev y)) fun r => K ((⟨s.env, r.2⟩ : AS).put d r.1)) := congrArg At Fw.opW_append
@[simp] theorem At.opW_min {x y : AOpd} : At (opW P C d (.min x y) K Q s) = At (optK (amin (s.ev x) (s.ev y)) fun r => K (s.put d r)) := congrArg At Fw.opW_min
@[simp] theorem At.opW_max {x y : AOpd} : At (opW P C d (.max x y) K Q s) = At (optK (amax (s.ev x) (s.ev y)) fun r => K (s.put d r)) := congrArg At Fw.opW_max
@[simp] theorem At.opW_mkif {t : TypeId} {x : AOpd} : At (opW P C d (.mkif t x) K Q s) = At (K (s.put d (.iface t (s.ev x)))) := congrArg At Fw.opW_mkif
@[simp] theorem At.opW_nilchk {x : AOpd} : At (opW P C d (.nilchk x) K Q s) = At (optK (anilchk (s.ev x)) fun r => K (s.put d r)) := congrArg At Fw.opW_nilchk
@[simp] theorem At.opW_pcall {f : FuncId} {args : List AOpd} : At (opW P C d (.pcall f args) K Q s) = At (optK (C f (args.map s.ev)) fun r => K (s.put d r)) := congrArg At Fw.opW_pcall
@[simp] theorem At.opW_hcall {f : FuncId} {args : List AOpd} : At (opW P C d (.hcall f args) K Q s) = At (hcW P f (args.map s.ev) d K Q s) := congrArg At Fw.opW_hcall
@[simp] theorem At.opW_callv {x : AOpd} {args : List AOpd} : At (opW P C d (.callv x args) K Q s) = At (cvW P (s.ev x) (args.map s.ev) d K Q s) := congrArg At Fw.opW_callv
@[simp] theorem At.opW_invk {ms : List AV} {x : AOpd} {args : List AOpd} : At (opW P C d (.invk ms x args) K Q s) = At (ivW P ms (s.ev x) (args.map s.ev) d K Q s) := congrArg At Fw.opW_invk
@[simp] theorem At.opW_panic {x : AOpd} : At (opW P C d (.panic x) K Q s) = At (pnW (s.ev x) Q s) := congrArg At Fw.opW_panic
@[simp] theorem At.awp_skip : At (awp P C .skip Q s) = At (Q .normal s) := congrArg At Fw.awp_skip
@[simp] theorem At.awp_reg {ops : List AI} : At (awp P C (.reg ops) Q s) = At (runW P C ops Q s) := congrArg At Fw.awp_reg
@[simp] theorem At.awp_regd {ops : List AI} : At (awp P C (.regd ops) Q s) = At (runW P C ops (noPQ Q) s) := congrArg At Fw.awp_regd
@[simp] theorem At.awp_seq {a b : ACode} : At (awp P C (.seq a b) Q s) = At (awp P C a (thenQ (awp P C b Q) Q) s) := congrArg At Fw.awp_seq
@[simp] theorem At.awp_regl {ops : List AI} : At (awp P C (.regl ops) Q s) = At (runW P C ops Q s) := congrArg At Fw.awp_regl
@[simp] theorem At.awp_rega {ds : List (List Nat)} {ops : List AI} : At (awp P C (.rega ds ops) Q s) = At (anyW P C ds ops ops.length [] Q s) := congrArg At Fw.awp_rega
@[simp] theorem At.opt_s {x : AI} {f : AI → Prop} : At (optW f (some x)) = At (f x) := id rfl
@[simp] theorem At.awp_cond {c : AOpd} {a b : ACode} : At (awp P C (.cond c a b) Q s) = At (condV (s.ev c) (awp P C a Q s) (awp P C b Q s)) := congrArg At Fw.awp_cond
@[simp] theorem At.awp_block {id : Nat} {b : ACode} : At (awp P C (.block id b) Q s) = At (awp P C b (blkQ id Q) s) := congrArg At Fw.awp_block
@[simp] theorem At.awp_scope {b : ACode} : At (awp P C (.scope b) Q s) = At (awp P C b (noGQ Q) s) := congrArg At Fw.awp_scope
@[simp] theorem At.awp_exit {id : Nat} : At (awp P C (.exit id) Q s) = At (Q (.exit id) s) := congrArg At Fw.awp_exit
@[simp] theorem At.awp_label {l : Nat} : At (awp P C (.label l) Q s) = At (Q .normal s) := congrArg At Fw.awp_label
@[simp] theorem At.awp_goto {l : Nat} : At (awp P C (.goto l) Q s) = At (Q (.goto l) s) := congrArg At Fw.awp_goto
@[simp] theorem At.thenQ_g {i : Nat} : At (thenQ K Q (.goto i) s) = At (Q (.goto i) s) := id rfl
@[simp] theorem At.blkQ_g {i l : Nat} : At (blkQ i Q (.goto l) s) = At (Q (.goto l) s) := id rfl
@[simp] theorem At.gotoQ_n {G : Nat → AS → Prop} : At (gotoQ G Q .normal s) = At (Q .normal s) := id rfl
@[simp] theorem At.gotoQ_e {G : Nat → AS → Prop} {i : Nat} : At (gotoQ G Q (.exit i) s) = At (Q (.exit i) s) := id rfl
@[simp] theorem At.gotoQ_r {G : Nat → AS → Prop} : At (gotoQ G Q .ret s) = At (Q .ret s) := id rfl
@[simp] theorem At.gotoQ_p {G : Nat → AS → Prop} {x : AV} : At (gotoQ G Q (.panic x) s) = At (Q (.panic x) s) := id rfl
@[simp] theorem At.gotoQ_g {G : Nat → AS → Prop} {l : Nat} : At (gotoQ G Q (.goto l) s) = At (G l s) := id rfl
@[simp] theorem At.awp_ret : At (awp P C .ret Q s) = At (Q .ret s) := congrArg At Fw.awp_ret
@[simp] theorem At.thenQ_n : At (thenQ K Q .normal s) = At (K s) := congrArg At Fw.thenQ_n
@[simp] theorem At.thenQ_e {i : Nat} : At (thenQ K Q (.exit i) s) = At (Q (.exit i) s) := congrArg At Fw.thenQ_e
@[simp] theorem At.thenQ_r : At (thenQ K Q .ret s) = At (Q .ret s) := congrArg At Fw.thenQ_r
@[simp] theorem At.thenQ_p {x : AV} : At (thenQ K Q (.panic x) s) = At (Q (.panic x) s) := congrArg At Fw.thenQ_p
@[simp] theorem At.blkQ_n {i : Nat} : At (blkQ i Q .normal s) = At (Q .normal s) := congrArg At Fw.blkQ_n
@[simp] theorem At.blkQ_e {i j : Nat} : At (blkQ i Q (.exit j) s) = At (if j = i then Q .normal s else Q (.exit j) s) := congrArg At Fw.blkQ_e
@[simp] theorem At.blkQ_r {i : Nat} : At (blkQ i Q .ret s) = At (Q .ret s) := congrArg At Fw.blkQ_r
@[simp] theorem At.blkQ_p {i : Nat} {x : AV} : At (blkQ i Q (.panic x) s) = At (Q (.panic x) s) := congrArg At Fw.blkQ_p
@[simp] theorem At.noPQ_n : At (noPQ Q .normal s) = At (Q .normal s) := congrArg At Fw.noPQ_n
@[simp] theorem At.noGQ_n : At (noGQ Q .normal s) = At (Q .normal s) := congrArg At Fw.noGQ_n
@[simp] theorem At.noGQ_e {i : Nat} : At (noGQ Q (.exit i) s) = At (Q (.exit i) s) := congrArg At Fw.noGQ_e
@[simp] theorem At.noGQ_r : At (noGQ Q .ret s) = At (Q .ret s) := congrArg At Fw.noGQ_r
@[simp] theorem At.noGQ_p {x : AV} : At (noGQ Q (.panic x) s) = At (Q (.panic x) s) := congrArg At Fw.noGQ_p
@[simp] theorem At.finQ_n {rs : List ARes} {R : AEnd → HS → Prop} : At (finQ rs R .normal s) = At (optK (aResult s rs) fun x => R (.ret x) s.hs) := congrArg At Fw.finQ_n
@[simp] theorem At.finQ_r {rs : List ARes} {R : AEnd → HS → Prop} : At (finQ rs R .ret s) = At (optK (aResult s rs) fun x => R (.ret x) s.hs) := congrArg At Fw.finQ_r
@[simp] theorem At.finQ_p {rs : List ARes} {R : AEnd → HS → Prop} {x : AV} : At (finQ rs R (.panic x) s) = At (R (.panic x) s.hs) := congrArg At Fw.finQ_p
end
attribute [simp] wantB_t wantB_f ev_t ev_c env_put hs_put hs_mk env_mk env_none argEnv_0 argEnv_s argEnv_nil load_ptr_int load_ptr_bool

/-! values -/
@[simp] theorem wantB_u {b : Bool} : wantB .undef b = false := by cases b <;> rfl
section
variable {kd : Nat} {k : IntKind} {a b : Int}
@[simp] theorem abin_add : abin kd .add (.int k a) (.int k b) = some (.int k (k.wrap (a + b))) := by simp [abin, aint]
@[simp] theorem abin_sub : abin kd .sub (.int k a) (.int k b) = some (.int k (k.wrap (a - b))) := by simp [abin, aint]
@[simp] theorem abin_mul : abin kd .mul (.int k a) (.int k b) = some (.int k (k.wrap (a * b))) := by simp [abin, aint]
@[simp] theorem abin_quo (h : b ≠ 0) : abin kd .quo (.int k a) (.int k b) = some (.int k (k.wrap (a.tdiv b))) := by simp [abin, aint, h]
@[simp] theorem abin_rem (h : b ≠ 0) : abin kd .rem (.int k a) (.int k b) = some (.int k (a.tmod b)) := by simp [abin, aint, h]
@[simp] theorem abin_eql : abin kd .eql (.int k a) (.int k b) = some (.bool (decide (a = b))) := by simp [abin, aint]
@[simp] theorem abin_neq : abin kd .neq (.int k a) (.int k b) = some (.bool (decide (a ≠ b))) := by simp [abin, aint]
@[simp] theorem abin_lss : abin kd .lss (.int k a) (.int k b) = some (.bool (decide (a < b))) := by simp [abin, aint]
@[simp] theorem abin_leq : abin kd .leq (.int k a) (.int k b) = some (.bool (decide (a ≤ b))) := by simp [abin, aint]
@[simp] theorem abin_gtr : abin kd .gtr (.int k a) (.int k b) = some (.bool (decide (b < a))) := by simp [abin, aint]
@[simp] theorem abin_geq : abin kd .geq (.int k a) (.int k b) = some (.bool (decide (b ≤ a))) := by simp [abin, aint]
@[simp] theorem abin_eqb {x y : Bool} : abin 1 .eql (.bool x) (.bool y) = some (.bool (decide (x = y))) := by simp [abin, aeq]
@[simp] theorem abin_neb {x y : Bool} : abin 1 .neq (.bool x) (.bool y) = some (.bool (!decide (x = y))) := by simp [abin, aeq]
@[simp] theorem abin_slnil {sz : Nat} {xs : List AV} {c : Cap} : abin 2 .eql (.sl sz xs c) .nilsl = some (.bool false) := id rfl
@[simp] theorem abin_nilnil : abin 2 .eql .nilsl .nilsl = some (.bool true) := id rfl
@[simp] theorem abin_slnil' {sz : Nat} {xs : List AV} {c : Cap} : abin 2 .neq (.sl sz xs c) .nilsl = some (.bool true) := id rfl
@[simp] theorem abin_nilnil' : abin 2 .neq .nilsl .nilsl = some (.bool false) := id rfl
@[simp] theorem abin_pair {c d : Int} : abin 12 .eql (.agg [.int k a, .int k b]) (.agg [.int k c, .int k d]) = some (.bool (decide (a = c) && decide (b = d))) := by simp [abin, aeq, aeqInts]
@[simp] theorem abin_pair' {c d : Int} : abin 12 .neq (.agg [.int k a, .int k b]) (.agg [.int k c, .int k d]) = some (.bool (!(decide (a = c) && decide (b = d)))) := by simp [abin, aeq, aeqInts]
@[simp] theorem apick_b {c : Bool} {x y : AV} : apick (.bool c) x y = some (bif c then x else y) := id rfl
@[simp] theorem aun_not {c : Bool} : aun .not (.bool c) = some (.bool (!c)) := id rfl
@[simp] theorem alen_nil : alenK false .nilsl = some (.int .i64 0) := id rfl
@[simp] theorem alen_sl {sz : Nat} {xs : List AV} {c : Cap} : alenK false (.sl sz xs c) = some (.int .i64 xs.length) := id rfl
@[simp] theorem aext_0 {x : AV} {xs : List AV} : aextract (.tup (x :: xs)) 0 = some x := id rfl
@[simp] theorem aext_1 {x y : AV} {xs : List AV} : aextract (.tup (x :: y :: xs)) 1 = some y := id rfl
@[simp] theorem aext_2 {x y z : AV} {xs : List AV} : aextract (.tup (x :: y :: z :: xs)) 2 = some z := id rfl
@[simp] theorem aconv_int {k' : IntKind} : aconv k (.int k' a) = some (.int k (k.wrap a)) := id rfl
end

@[simp] theorem aResult_1 {s : AS} {n : Nat} : aResult s [.t n] = some (s.env n) := id rfl
@[simp] theorem aResult_2 {s : AS} {n m : Nat} : aResult s [.t n, .t m] = some (.tup [s.env n, s.env m]) := id rfl
@[simp] theorem aResult_3 {s : AS} {n m k : Nat} : aResult s [.t n, .t m, .t k] = some (.tup [s.env n, s.env m, s.env k]) := id rfl
@[simp] theorem aResult_0 {s : AS} : aResult s [] = some (.tup []) := id rfl
@[simp] theorem aResult_cm {s : AS} {ag : Bool} {sz n m : Nat} : aResult s [.cell ag sz n, .t m] = (aload s.hs.heap ag sz (s.env n)).map fun x => .tup [x, s.env m] := by simp only [aResult, aResL, aRes]; cases aload s.hs.heap ag sz (s.env n) <;> rfl
@[simp] theorem aResult_cs {s : AS} {ag : Bool} {sz n : Nat} : aResult s [.cell ag sz n] = aload s.hs.heap ag sz (s.env n) := by simp only [aResult, aResL, aRes]; cases aload s.hs.heap ag sz (s.env n) <;> rfl
theorem store_pair {hp : Nat → Option (List AV)} {i : Nat} {u v : AV} (h : hp i = some [u, v]) {k1 k2 : IntKind} {a b : Int} : astore hp 2 (.ref i 0) (.agg [.int k1 a, .int k2 b]) = some (fun k => if k = i then some [.int k1 a, .int k2 b] else hp k) := by
  simp [astore, h, AV.sto, AV.cells, AV.leaf, setL]
@[simp] theorem load_ref_pair {hp : Nat → Option (List AV)} {i : Nat} {a b : AV} : aload (fun k => if k = i then some [a, b] else hp k) true 2 (.ref i 0) = some (.agg [a, b]) := by
  simp [aload, apart]
@[simp] theorem fill_pair {k1 k2 k3 k4 : IntKind} {a b c d : Int} : afill [.int k1 a, .int k2 b] [(0, 1, .int k3 c), (1, 1, .int k4 d)] = some [.int k3 c, .int k4 d] := by
  simp [afill, AV.sto, AV.cells, setL, AV.leaf]
@[simp] theorem fill_none {zs : List AV} : afill zs [] = some zs := by simp only [afill]
theorem At.loop {P : Program} {C : PCtx} {b : ACode} {Q : AEx → AS → Prop} {σ : Type} (I : σ → AS → Prop) (μ : σ → Nat) (x : σ) {s : AS} (h : I x s)
    (round : ∀ (N : AS → Prop) x s, (∀ y s', μ y < μ x → I y s' → At (N s')) → I x s → At (awp P C b (thenQ N Q) s)) : At (awp P C (.loop b) Q s) :=
  awp_loop I μ (fun x s h => round _ x s (fun y s' hy hI => ⟨y, hy, hI⟩) h) h
/-- a scope with jumps, by what holds at each jump ('I x s'), where it leads ('lab x': the first label) and a number that every pass lowers -/
theorem At.jump {P : Program} {C : PCtx} {b r1 r2 : ACode} {l1 l2 : Nat} {Q : AEx → AS → Prop} {σ : Type} (I : σ → AS → Prop) (lab : σ → Bool) (μ : σ → Nat) (M : Nat) {s : AS} (hne : l1 ≠ l2 ∨ ∀ x, lab x = true)
    (first : ∀ G : Nat → AS → Prop, (∀ y s', μ y < M → I y s' → At (G (if lab y = true then l1 else l2) s')) → At (awp P C b (gotoQ G Q) s))
    (round : ∀ (G : Nat → AS → Prop) x s, (∀ y s', μ y < μ x → I y s' → At (G (if lab y = true then l1 else l2) s')) → I x s → At (awp P C (if lab x = true then r1 else r2) (gotoQ G Q) s)) : At (awp P C (.jump b l1 r1 l2 r2) Q s) := by
  refine ⟨M, first _ ?_⟩
  have key : ∀ n x s, μ x < n → I x s → jmpG (awp P C r1) (awp P C r2) l1 l2 Q n (if lab x = true then l1 else l2) s := by
    intro n
    induction n with
    | zero => intro x s h; exact absurd h (by omega)
    | succ n ih =>
      intro x s hx hI
      have hr := round (jmpG (awp P C r1) (awp P C r2) l1 l2 Q n) x s (fun y s' hy hI' => ih y s' (by omega) hI') hI
      simp only [jmpG]
      cases hl : lab x with
      | true => rw [hl, if_pos rfl] at hr; rw [if_pos rfl, if_pos rfl]; exact hr
      | false =>
        rw [hl, if_neg (by simp)] at hr
        have hn : ¬ l2 = l1 := by
          rcases hne with hne | hne
          · exact fun h => hne h.symm
          · rw [hne x] at hl; cases hl
        have e : (if false = true then l1 else l2) = l2 := rfl
        rw [e, if_neg hn, if_pos rfl]
        exact hr
  exact fun y s' hy hI => key M y s' hy hI
theorem wrap_nat {n : Nat} (h : n < 9223372036854775808) : IntKind.i64.wrap (n : Int) = n := wrap64 (by omega) (by omega)
theorem wrap_nat1 {n : Nat} (h : n < 9223372036854775807) : IntKind.i64.wrap ((n : Int) + 1) = ((n + 1 : Nat) : Int) := by rw [wrap64 (by omega) (by omega)]; omega

/-! specs of functions -/
def PCtx.add (C : PCtx) (g : FuncId) (S : List AV → Option AV) : PCtx := fun f args => if f = g then S args else C f args
def PCtx.nil : PCtx := fun _ _ => none
theorem CtxOk.nil {P : Program} : CtxOk P PCtx.nil := fun f args r h => by cases h
theorem CtxOk.add {P : Program} {C : PCtx} (hC : CtxOk P C) {g : FuncId} {S : List AV → Option AV} (h : ∀ args r, S args = some r → PCall P g args r) : CtxOk P (C.add g S) := by
  intro f args r e
  unfold PCtx.add at e
  split at e
  · rename_i hf; subst hf; exact h _ _ e
  · exact hC _ _ _ e

/-! lists of integers, with a bound for their lengths -/
def asI : AV → Option (List Int)
  | .nilsl => some []
  | .sl 1 xs _ => if xs.length < 4294967296 then deInts xs else none
  | _ => none
theorem asI_inv {x : AV} {l : List Int} (h : asI x = some l) : (x = .nilsl ∧ l = []) ∨ ∃ c, x = .sl 1 (ints l) c := by
  unfold asI at h
  split at h
  · injection h with h; exact .inl ⟨rfl, h.symm⟩
  · rename_i xs c
    split at h <;> (try (cases h; done))
    exact .inr ⟨c, by rw [deInts_inv h]⟩
  · cases h
theorem asI_len {x : AV} {l : List Int} (h : asI x = some l) : l.length < 4294967296 := by
  unfold asI at h
  split at h
  · injection h with h; subst h; simp
  · rename_i xs c
    split at h <;> (try (cases h; done))
    rename_i hl
    rw [deInts_inv h] at hl
    simpa using hl
  · cases h
theorem asI_sl {l : List Int} {c : Cap} (h : l.length < 4294967296) : asI (.sl 1 (ints l) c) = some l := by
  simp only [asI, ints, List.length_map, h, if_true]; exact deInts_ints l
@[simp] theorem asI_nil : asI .nilsl = some [] := id rfl
theorem alen_of {x : AV} {l : List Int} (h : asI x = some l) : alenK false x = some (.int .i64 l.length) := by
  rcases asI_inv h with ⟨rfl, rfl⟩ | ⟨c, rfl⟩
  · rfl
  · simp [alenK]
theorem aidx_of {x : AV} {l : List Int} (h : asI x = some l) {k : IntKind} {n : Int} {v : Int} (h0 : 0 ≤ n) (hv : l[n.toNat]? = some v) : aidxS 1 x (.int k n) = some (.ptr (.int .i64 v)) := by
  rcases asI_inv h with ⟨rfl, rfl⟩ | ⟨c, rfl⟩
  · simp at hv
  · simp only [aidxS, h0, and_self, if_true, ints, List.getElem?_map, hv, Option.map_some]
theorem aidx_nat {x : AV} {l : List Int} (h : asI x = some l) {k : IntKind} {i : Nat} (hi : i < l.length) : aidxS 1 x (.int k (i : Int)) = some (.ptr (.int .i64 l[i])) :=
  aidx_of h (by omega) (by simp [hi])
theorem take_snoc {α : Type} {l : List α} {i : Nat} (hi : i < l.length) : l.take (i + 1) = l.take i ++ [l[i]] := by rw [List.take_add_one, List.getElem?_eq_getElem hi]; rfl
theorem mem_take_succ {α : Type} {l : List α} {i : Nat} (hi : i < l.length) {x : α} : x ∈ l.take (i + 1) ↔ x ∈ l.take i ∨ x = l[i] := by rw [take_snoc hi]; simp only [List.mem_append, List.mem_singleton]
end Fw
set_option linter.unusedVariables false
set_option linter.unusedSimpArgs false
namespace Fw
open Go

def Cap.share : Cap → Cap
  | .own _ => .shared
  | c => c
mutual
def AV.share : AV → AV
  | .sl sz xs c => .sl sz (shareL xs) c.share
  | .ptr x => .ptr x.share
  | .agg xs => .agg (shareL xs)
  | .tup xs => .tup (shareL xs)
  | .fn f a b => .fn f (shareL a) (shareL b)
  | .iface t x => .iface t x.share
  | x => x
def shareL : List AV → List AV
  | [] => []
  | x :: xs => x.share :: shareL xs
end
theorem shareL_map (xs : List AV) : shareL xs = xs.map AV.share := by
  induction xs with
  | nil => rfl
  | cons x xs ih => simp only [shareL, List.map_cons, ih]
theorem share_cells (x : AV) : x.share.cells = x.cells.map AV.share := by
  cases x <;> simp [AV.share, AV.cells, shareL_map]
theorem share_leaf (x : AV) : x.share.leaf = x.leaf := by cases x <;> simp [AV.share, AV.leaf]
theorem share_flat (xs : List AV) : flat (xs.map AV.share) = (flat xs).map AV.share := by
  induction xs with
  | nil => rfl
  | cons x xs ih => simp only [List.map_cons, flat, List.map_append, ih, share_cells]
theorem CapOk.share {c : CM} {b o len sz cap : Nat} {cp : Cap} (h : CapOk c b o len sz cap cp) : CapOk c b o len sz cap cp.share := by
  cases cp with
  | exact => exact h
  | shared => exact h
  | own k => exact h.le
theorem Rep.share {c : CM} {v : Value} {x : AV} (h : Rep c v x) : Rep c v x.share := by
  have getm : ∀ {xs : List AV} {j : Nat} {y : AV}, (xs.map AV.share)[j]? = some y → ∃ y0, xs[j]? = some y0 ∧ y = y0.share := by
    intro xs j y hy
    rw [List.getElem?_map] at hy
    cases hx : xs[j]? with
    | none => rw [hx] at hy; cases hy
    | some y0 => rw [hx] at hy; injection hy with hy; exact ⟨y0, rfl, hy.symm⟩
  induction h with
  | int k n => exact .int k n
  | bool b => exact .bool b
  | str s => exact .str s
  | nilptr => exact .nilptr
  | nilsl => exact .nilsl
  | nilif => exact .nilif
  | nilfn => exact .nilfn
  | ptr b o vs x hl hc h lf ih =>
    refine .ptr b o vs _ (by rw [share_cells]; simpa using hl) hc (fun j v y hv hy => ?_) (fun j y hy => ?_)
    · rw [share_cells] at hy
      obtain ⟨y0, h0, rfl⟩ := getm hy
      exact ih j v y0 hv h0
    · rw [share_cells] at hy
      obtain ⟨y0, h0, rfl⟩ := getm hy
      rw [share_leaf]; exact lf j y0 h0
  | ref i off hi => exact .ref i off hi
  | msl ag sz i off len cap ex hi hl he => exact .msl ag sz i off len cap ex hi hl he
  | gsl b o cap sz n k hn hcap => exact .gsl b o cap sz n k hn hcap
  | esl a => exact .esl a
  | osl ag sz i len cap k hi hcap => exact .osl ag sz i len cap k hi hcap
  | nilmp => exact .nilmp
  | mp i hi => exact .mp i hi
  | sl b o cap sz xs cp vs hl hz hc h lf hcap ih =>
    have := Rep.sl (c := c) b o cap sz (xs.map AV.share) cp.share vs (by rw [share_flat]; simpa using hl) ?_ hc ?_ ?_ (by rw [List.length_map]; exact hcap.share)
    · rw [List.length_map] at this
      simpa [AV.share, shareL_map] using this
    · intro x hx
      simp only [List.mem_map] at hx
      obtain ⟨x0, hx0, rfl⟩ := hx
      rw [share_cells, List.length_map]; exact hz x0 hx0
    · intro j v y hv hy
      rw [share_flat] at hy
      obtain ⟨y0, h0, rfl⟩ := getm hy
      exact ih j v y0 hv h0
    · intro j y hy
      rw [share_flat] at hy
      obtain ⟨y0, h0, rfl⟩ := getm hy
      rw [share_leaf]; exact lf j y0 h0
  | agg vs xs hl h lf ih =>
    have := Rep.agg (c := c) vs (xs.map AV.share) (by simpa using hl) ?_ ?_
    · simpa [AV.share, shareL_map] using this
    · intro j v y hv hy
      obtain ⟨y0, h0, rfl⟩ := getm hy
      exact ih j v y0 hv h0
    · intro j y hy
      obtain ⟨y0, h0, rfl⟩ := getm hy
      rw [share_leaf]; exact lf j y0 h0
  | tup vs xs hl h ih =>
    have := Rep.tup (c := c) vs (xs.map AV.share) (by simpa using hl) ?_
    · simpa [AV.share, shareL_map] using this
    · intro j v y hv hy
      obtain ⟨y0, h0, rfl⟩ := getm hy
      exact ih j v y0 hv h0
  | fn f v1 v2 x1 x2 hl1 hl2 h1 h2 ih1 ih2 =>
    have := Rep.fn (c := c) f v1 v2 (x1.map AV.share) (x2.map AV.share) (by simpa using hl1) (by simpa using hl2) ?_ ?_
    · simpa [AV.share, shareL_map] using this
    · intro j v y hv hy
      obtain ⟨y0, h0, rfl⟩ := getm hy
      exact ih1 j v y0 hv h0
    · intro j v y hv hy
      obtain ⟨y0, h0, rfl⟩ := getm hy
      exact ih2 j v y0 hv h0
  | iface t v x h ih => exact .iface t v _ ih

/-- a value of which the result is a reading -/
def Reads (r : AV) (e : AEnd) : Prop := ∃ x, e = .ret x ∧ x.share = r
theorem FCall.share {P : Program} {f : FuncId} {args : List AV} {hs : HS} {r : AV} (h : FCall P f args hs fun e _ => Reads r e) : FCall P f args hs fun e _ => e = .ret r := by
  refine ⟨h.ok, fun c w vs hi hv => (h.run c w vs hi hv).mono ?_⟩
  rintro e w' ⟨ae, hs', c', ⟨x, rfl, rfl⟩, he, h2, h3⟩
  refine ⟨.ret x.share, hs', c', rfl, ?_, h2, h3⟩
  cases e with
  | returned v => exact Rep.share (show Rep c' v x from he)
  | panicked ch => exact he
  | outgrown => exact he
theorem PCall.of {P : Program} {C : PCtx} (hC : CtxOk P C) {f : FuncId} {muts : List Nat} {pu : List FuncId} {ac : ACode} {rs : List ARes} {n : Nat} (hf : FnOk P f muts pu ac rs n) {args : List AV} {r : AV} (hn : args.length ≤ n) (hp : r.plain = true)
    (h : ∀ hs : HS, hs.bare → At (awp P C ac (finQ rs fun e _ => Reads r e) ⟨argEnv args, hs⟩)) : PCall P f args r :=
  ⟨hp, fun hs hb => FCall.share (FCall.of_body hC hf hn (h hs hb))⟩
@[simp] theorem At.reads {x r : AV} : At (Reads r (.ret x)) = (x.share = r) := by
  simp only [At, Reads, eq_iff_iff]
  exact ⟨fun ⟨y, h1, h2⟩ => by injection h1 with h1; subst h1; exact h2, fun h => ⟨x, rfl, h⟩⟩
@[simp] theorem share_int {k : IntKind} {n : Int} : (AV.int k n).share = .int k n := by simp only [AV.share]
@[simp] theorem share_bool {b : Bool} : (AV.bool b).share = .bool b := by simp only [AV.share]
@[simp] theorem share_nilsl : AV.nilsl.share = .nilsl := by simp only [AV.share]
@[simp] theorem share_sl {sz : Nat} {xs : List AV} {c : Cap} : (AV.sl sz xs c).share = .sl sz (xs.map AV.share) c.share := by simp only [AV.share, shareL_map]
@[simp] theorem share_tup {xs : List AV} : (AV.tup xs).share = .tup (xs.map AV.share) := by simp only [AV.share, shareL_map]
@[simp] theorem share_agg {xs : List AV} : (AV.agg xs).share = .agg (xs.map AV.share) := by simp only [AV.share, shareL_map]
@[simp] theorem share_ptr {x : AV} : (AV.ptr x).share = .ptr x.share := by simp only [AV.share]
@[simp] theorem share_iface {t : TypeId} {x : AV} : (AV.iface t x).share = .iface t x.share := by simp only [AV.share]
@[simp] theorem capshare_o {k : Nat} : (Cap.own k).share = .shared := id rfl
@[simp] theorem capshare_s : Cap.shared.share = .shared := id rfl
@[simp] theorem capshare_e : Cap.exact.share = .exact := id rfl
@[simp] theorem share_ints (l : List Int) : (ints l).map AV.share = ints l := by simp [ints]
@[simp] theorem asI_share {x : AV} {l : List Int} (h : asI x = some l) : asI x.share = some l := by
  rcases asI_inv h with ⟨rfl, rfl⟩ | ⟨c, rfl⟩
  · simp
  · have := asI_len h
    rw [share_sl, share_ints]
    exact asI_sl this
end Fw
set_option linter.unusedVariables false
set_option linter.unusedSimpArgs false
namespace Fw
open Go

/-- the elements of a slice, with a bound for their number -/
def asV (sz : Nat) : AV → Option (List AV)
  | .nilsl => some []
  | .sl sz' xs _ => if sz' = sz ∧ xs.length < 4294967296 then some xs else none
  | _ => none
theorem asV_inv {sz : Nat} {x : AV} {l : List AV} (h : asV sz x = some l) : ((x = .nilsl ∧ l = []) ∨ ∃ c, x = .sl sz l c) ∧ l.length < 4294967296 := by
  unfold asV at h
  split at h
  · injection h with h; subst h; exact ⟨.inl ⟨rfl, rfl⟩, by simp⟩
  · split at h <;> (try (cases h; done))
    rename_i hc
    obtain ⟨rfl, hl⟩ := hc
    injection h with h; subst h
    exact ⟨.inr ⟨_, rfl⟩, hl⟩
  · cases h
theorem asV_sl {sz : Nat} {l : List AV} {c : Cap} (h : l.length < 4294967296) : asV sz (.sl sz l c) = some l := by simp [asV, h]
@[simp] theorem asV_nil {sz : Nat} : asV sz .nilsl = some [] := id rfl
theorem asI_asV {x : AV} {l : List Int} (h : asI x = some l) : asV 1 x = some (ints l) := by
  have hl := asI_len h
  rcases asI_inv h with ⟨rfl, rfl⟩ | ⟨c, rfl⟩
  · rfl
  · exact asV_sl (by simpa using hl)
theorem asV_asI {x : AV} {l : List Int} (h : asV 1 x = some (ints l)) : asI x = some l := by
  obtain ⟨h1, h2⟩ := asV_inv h
  rcases h1 with ⟨rfl, h1⟩ | ⟨c, rfl⟩
  · cases l with
    | nil => rfl
    | cons a l => simp [ints] at h1
  · exact asI_sl (by simpa using h2)
@[simp] theorem load_ptr_pair {hp : Nat → Option (List AV)} {a b : AV} : aload hp true 2 (.ptr (.agg [a, b])) = some (.agg [a, b]) := id rfl
@[simp] theorem load_ptr_sl {hp : Nat → Option (List AV)} {sz : Nat} {xs : List AV} {c : Cap} : aload hp false 1 (.ptr (.sl sz xs c)) = some (.sl sz xs c) := id rfl
@[simp] theorem load_ptr_nil {hp : Nat → Option (List AV)} : aload hp false 1 (.ptr .nilsl) = some .nilsl := id rfl
/-! parts of slices -/
def takeV (n : Nat) : AV → AV
  | .sl sz xs _ => .sl sz (xs.take n) .shared
  | x => x
theorem slice_take {sz : Nat} {x : AV} {l : List AV} (h : asV sz x = some l) {n : Nat} (hn : n ≤ l.length) {k : IntKind} : aslice sz x none (some (.int k (n : Int))) none = some (takeV n x) := by
  rcases (asV_inv h).1 with ⟨rfl, rfl⟩ | ⟨c, rfl⟩
  · simp at hn; subst hn; rfl
  · simp [aslice, aidx, asliceL, takeV, hn]
theorem asV_take {sz : Nat} {x : AV} {l : List AV} (h : asV sz x = some l) (n : Nat) : asV sz (takeV n x) = some (l.take n) := by
  obtain ⟨h1, h2⟩ := asV_inv h
  rcases h1 with ⟨rfl, rfl⟩ | ⟨c, rfl⟩
  · simp [takeV]
  · exact asV_sl (by simp; omega)
theorem ints_take (l : List Int) (n : Nat) : (ints l).take n = ints (l.take n) := by simp [ints, List.map_take]
theorem asI_take {x : AV} {l : List Int} (h : asI x = some l) (n : Nat) : asI (takeV n x) = some (l.take n) := asV_asI (by rw [asV_take (asI_asV h), ints_take])
theorem ints_len (l : List Int) : (ints l).length = l.length := by simp [ints]

/-! slices that are built by appending -/
/-- may be appended to -/
def Fresh (hs : HS) : AV → Prop
  | .nilsl => True
  | .sl _ _ .exact => True
  | .sl _ _ (.own k) => hs.tok k = true ∧ k < hs.nt
  | _ => False
/-- how a built slice reads from outside: nil before the first element -/
def outV (sz : Nat) : List AV → AV
  | [] => .nilsl
  | l => .sl sz l .shared
/-- a slice under way that reads as a list from outside -/
structure Outs (sz : Nat) (hs : HS) (x : AV) (l : List AV) : Prop where
  fresh : Fresh hs x
  sh : x.share = outV sz l
theorem Outs.nil {sz : Nat} {hs : HS} : Outs sz hs .nilsl [] := ⟨trivial, by simp [outV]⟩
theorem outV_ne {sz : Nat} {l : List AV} (h : l ≠ []) : outV sz l = .sl sz l .shared := by cases l with | nil => exact absurd rfl h | cons a l => rfl
/-- what was appendable remains so -/
structure KeepT (hs hs' : HS) : Prop where
  nt : hs.nt ≤ hs'.nt
  tok : ∀ k, k < hs.nt → hs.tok k = true → hs'.tok k = true
theorem KeepT.refl (hs : HS) : KeepT hs hs := ⟨Nat.le_refl _, fun _ _ h => h⟩
theorem KeepT.trans {a b c : HS} (h : KeepT a b) (h' : KeepT b c) : KeepT a c := ⟨Nat.le_trans h.nt h'.nt, fun k hk ht => h'.tok k (Nat.lt_of_lt_of_le hk h.nt) (h.tok k hk ht)⟩
theorem Outs.keep {sz : Nat} {hs hs' : HS} {x : AV} {l : List AV} (h : Outs sz hs x l) (ht : KeepT hs hs') : Outs sz hs' x l := by
  refine ⟨?_, h.sh⟩
  have := h.fresh
  revert this
  unfold Fresh
  split <;> intro h
  · trivial
  · trivial
  · exact ⟨ht.tok _ h.2 h.1, Nat.lt_of_lt_of_le h.2 ht.nt⟩
  · exact h
theorem Outs.cong {sz : Nat} {hs hs' : HS} {x : AV} {l : List AV} (h : Outs sz hs x l) (ht : hs'.tok = hs.tok) (hn : hs'.nt = hs.nt) : Outs sz hs' x l := h.keep ⟨by omega, fun k _ h => by rw [ht]; exact h⟩
theorem Outs.inv {sz : Nat} {hs : HS} {x : AV} {l : List AV} (h : Outs sz hs x l) : (x = .nilsl ∧ l = []) ∨ ∃ xs k, x = .sl sz xs (.own k) ∧ (hs.tok k = true ∧ k < hs.nt) ∧ xs.map AV.share = l ∧ l ≠ [] := by
  obtain ⟨h1, h2⟩ := h
  cases l with
  | nil =>
    cases x <;> simp_all [outV, AV.share]
  | cons a l =>
    cases x <;> simp_all [outV, AV.share]
    rename_i sz' xs c
    cases c <;> simp_all [Fresh, Cap.share, shareL_map]
    exact ⟨_, _, ⟨rfl, rfl⟩, h1, h2.2⟩
/-- a state in which only the appendable places differ -/
structure SameMem (hs hs' : HS) : Prop where
  heap : hs'.heap = hs.heap
  nh : hs'.nh = hs.nh
theorem SameMem.refl (hs : HS) : SameMem hs hs := ⟨rfl, rfl⟩
theorem SameMem.trans {a b c : HS} (h : SameMem a b) (h' : SameMem b c) : SameMem a c := ⟨h'.heap.trans h.heap, h'.nh.trans h.nh⟩
theorem elems_of {sz : Nat} {q : AV} {ys : List AV} (hq : asV sz q = some ys) : aelems q = some ys ∧ aszOk sz q = true := by
  rcases (asV_inv hq).1 with ⟨rfl, rfl⟩ | ⟨c, rfl⟩
  · exact ⟨rfl, rfl⟩
  · exact ⟨rfl, by simp [aszOk]⟩
def appP (sz : Nat) (hs : HS) (xs ys : List AV) : AV → Option (AV × HS)
  | .nilsl => some (.sl sz ys (.own hs.nt), { hs with nt := hs.nt + 1, tok := fun t => if t = hs.nt then true else hs.tok t })
  | .sl _ _ .exact => some (.sl sz (xs ++ ys) (.own hs.nt), { hs with nt := hs.nt + 1, tok := fun t => if t = hs.nt then true else hs.tok t })
  | .sl _ _ (.own k) => if hs.tok k = true then some (.sl sz (xs ++ ys) (.own hs.nt), { hs with nt := hs.nt + 1, tok := fun t => if t = hs.nt then true else if t = k then false else hs.tok t }) else none
  | _ => none
theorem append_eq {sz : Nat} {hs : HS} {p q : AV} {xs ys : List AV} (hp : aelems p = some xs) (hq : aelems q = some ys) (h1 : aszOk sz p = true) (h2 : aszOk sz q = true) (hl : xs.length + ys.length ≤ 1073741824) :
    aappend sz hs p q = if ys = [] then some (p, hs) else appP sz hs xs ys p := by
  have e : ∀ {x : AV} {l : List AV}, aelems x = some l → aelemsH hs.heap x = some l := by
    intro x l hx
    cases x <;> first | exact hx | (simp [aelems] at hx)
  unfold aappend
  rw [e hp, e hq]
  simp only [h1, h2, hl, and_self, if_true]
  split
  · rfl
  · cases p with
    | sl sz' xs' cp => cases cp <;> rfl
    | msl ag sz' i off len ex => simp [aelems] at hp
    | _ => rfl
theorem append_outs {sz : Nat} {hs : HS} {x q : AV} {l ys : List AV} (h : Outs sz hs x l) (hq : asV sz q = some ys) (hl : l.length + ys.length ≤ 1073741824) :
    ∃ y hs', aappend sz hs x q = some (y, hs') ∧ Outs sz hs' y (l ++ ys.map AV.share) ∧ SameMem hs hs' := by
  obtain ⟨e1, e2⟩ := elems_of hq
  rcases h.inv with ⟨rfl, rfl⟩ | ⟨xs, k, rfl, htk, rfl, hne⟩
  · rw [append_eq (xs := []) rfl e1 rfl e2 (by simpa using hl)]
    split
    · rename_i hy; subst hy; exact ⟨_, _, rfl, .nil, .refl _⟩
    · rename_i hy
      refine ⟨_, _, rfl, ⟨by simp [Fresh], ?_⟩, ⟨rfl, rfl⟩⟩
      rw [outV_ne (by simpa using hy)]
      simp
  · rw [append_eq (xs := xs) rfl e1 (by simp [aszOk]) e2 (by simpa using hl)]
    split
    · rename_i hy; subst hy; exact ⟨_, _, rfl, by simpa using h, .refl _⟩
    · rename_i hy
      simp only [appP, htk.1, if_true]
      refine ⟨_, _, rfl, ⟨by simp [Fresh], ?_⟩, ⟨rfl, rfl⟩⟩
      rw [outV_ne (by simp [hy])]
      simp
/-- appending to an exact slice -/
theorem append_exact {sz : Nat} {hs : HS} {xs ys : List AV} {q : AV} (hq : asV sz q = some ys) (hl : xs.length + ys.length ≤ 1073741824) (hne : ys ≠ []) :
    ∃ hs', aappend sz hs (.sl sz xs .exact) q = some (.sl sz (xs ++ ys) (.own hs.nt), hs') ∧ hs'.tok hs.nt = true ∧ SameMem hs hs' ∧ KeepT hs hs' ∧ hs'.nt = hs.nt + 1 := by
  obtain ⟨e1, e2⟩ := elems_of hq
  rw [append_eq (xs := xs) rfl e1 (by simp [aszOk]) e2 hl, if_neg hne]
  exact ⟨_, rfl, by simp, ⟨rfl, rfl⟩, ⟨by simp, fun k hk h => by simp [h]⟩, rfl⟩
/-! pairs of integers -/
abbrev prs (l : List (Int × Int)) : List AV := l.map fun p => .agg [.int .i64 p.1, .int .i64 p.2]
/-! blocks of two -/
@[simp] theorem store_new {hp : Nat → Option (List AV)} {i : Nat} {u v : AV} {k1 k2 : IntKind} {a b : Int} : astore (fun k => if k = i then some [u, v] else hp k) 2 (.ref i 0) (.agg [.int k1 a, .int k2 b]) = some (fun k => if k = i then some [.int k1 a, .int k2 b] else if k = i then some [u, v] else hp k) := by
  simp [astore, AV.sto, AV.cells, AV.leaf, setL]
@[simp] theorem idxA_ref0 {i : Nat} {k : IntKind} : aidxA 2 false 1 (.ref i 0) (.int k 0) = some (.ref i 0) := by simp [aidxA, afaddr]
@[simp] theorem idxA_ref1 {i : Nat} {k : IntKind} : aidxA 2 false 1 (.ref i 0) (.int k 1) = some (.ref i 1) := by simp [aidxA, afaddr]
@[simp] theorem load_ref_0 {hp : Nat → Option (List AV)} {i : Nat} {a b : AV} : aload (fun k => if k = i then some [a, b] else hp k) false 1 (.ref i 0) = some a := by simp [aload, apart]
@[simp] theorem load_ref_1 {hp : Nat → Option (List AV)} {i : Nat} {a b : AV} : aload (fun k => if k = i then some [a, b] else hp k) false 1 (.ref i 1) = some b := by simp [aload, apart]
@[simp] theorem index_pair0 {k : IntKind} {a b : AV} : aindex 2 false 1 (.agg [a, b]) (.int k 0) = some a := by simp [aindex, apart]
@[simp] theorem index_pair1 {k : IntKind} {a b : AV} : aindex 2 false 1 (.agg [a, b]) (.int k 1) = some b := by simp [aindex, apart]

/-! the first error of a row of checks -/
/-! pairs behind pointers -/
@[simp] theorem faddr_p0 {a b : AV} : afaddr false 1 0 (.ptr (.agg [a, b])) = some (.ptr a) := by simp [afaddr, apart, AV.cells]
@[simp] theorem faddr_p1 {a b : AV} : afaddr false 1 1 (.ptr (.agg [a, b])) = some (.ptr b) := by simp [afaddr, apart, AV.cells]
@[simp] theorem sto_pair {k1 k2 : IntKind} {a b : Int} : (AV.agg [.int k1 a, .int k2 b]).sto = true := by simp [AV.sto, AV.leaf]
@[simp] theorem sto_int {k1 : IntKind} {a : Int} : (AV.int k1 a).sto = true := by simp [AV.sto, AV.leaf]
@[simp] theorem amin_int {k : IntKind} {a b : Int} : amin (.int k a) (.int k b) = some (.int k (if a ≤ b then a else b)) := by simp [amin, Int.min_def]
@[simp] theorem amax_int {k : IntKind} {a b : Int} : amax (.int k a) (.int k b) = some (.int k (if a ≤ b then b else a)) := by simp [amax, Int.max_def]
/-! calls that use the caller's memory -/
theorem At.hc {P : Program} {f : FuncId} {args : List AV} {d : Option Nat} {K : AS → Prop} {Q : AEx → AS → Prop} {s : AS} {R : AEnd → HS → Prop} (h : FCall P f args s.hs R)
    (h1 : ∀ v hs', R (.ret v) hs' → At (K ((⟨s.env, hs'⟩ : AS).put d v))) (h2 : ∀ v hs', R (.panic v) hs' → At (Q (.panic v) ⟨s.env, hs'⟩)) : At (hcW P f args d K Q s) :=
  h.mono fun e hs' he => by cases e <;> first | exact h1 _ _ he | exact h2 _ _ he
@[simp] theorem At.cv {P : Program} {f : FuncId} {xs ys args : List AV} {d : Option Nat} {K : AS → Prop} {Q : AEx → AS → Prop} {s : AS} : At (cvW P (.fn (.func f) xs ys) args d K Q s) = At (hcW P f (xs ++ args ++ ys) d K Q s) := id rfl
@[simp] theorem At.pn {t : TypeId} {v : AV} {Q : AEx → AS → Prop} {s : AS} : At (pnW (.iface t v) Q s) = At (Q (.panic (.iface t v)) s) := id rfl
/-- memory that has grown, with all that was there as it was -/
structure HsExt (hs hs' : HS) : Prop where
  nh : hs.nh ≤ hs'.nh
  heap : ∀ i, i < hs.nh → hs'.heap i = hs.heap i
theorem HsExt.refl (hs : HS) : HsExt hs hs := ⟨Nat.le_refl _, fun _ _ => rfl⟩
theorem HsExt.trans {a b c : HS} (h : HsExt a b) (h' : HsExt b c) : HsExt a c := ⟨Nat.le_trans h.nh h'.nh, fun i hi => by rw [h'.heap i (Nat.lt_of_lt_of_le hi h.nh), h.heap i hi]⟩
@[simp] theorem faddr_t0 {a b c : AV} : afaddr false 1 0 (.ptr (.agg [a, b, c])) = some (.ptr a) := by simp [afaddr, apart, AV.cells]
@[simp] theorem faddr_t1 {a b c : AV} : afaddr false 1 1 (.ptr (.agg [a, b, c])) = some (.ptr b) := by simp [afaddr, apart, AV.cells]
@[simp] theorem faddr_t2 {a b c : AV} : afaddr false 1 2 (.ptr (.agg [a, b, c])) = some (.ptr c) := by simp [afaddr, apart, AV.cells]
@[simp] theorem load_ptr_three {hp : Nat → Option (List AV)} {a b c : AV} : aload hp true 3 (.ptr (.agg [a, b, c])) = some (.agg [a, b, c]) := by simp [aload, apart, AV.cells]
/-! pieces of code -/
/-! blocks of one -/
@[simp] theorem sto_sl {sz : Nat} {xs : List AV} {c : Cap} : (AV.sl sz xs c).sto = true := by simp [AV.sto, AV.leaf]
@[simp] theorem sto_nil : AV.nilsl.sto = true := by simp [AV.sto, AV.leaf]
@[simp] theorem cells_sl {sz : Nat} {xs : List AV} {c : Cap} : (AV.sl sz xs c).cells = [.sl sz xs c] := by simp [AV.cells]
@[simp] theorem cells_nil : AV.nilsl.cells = [.nilsl] := by simp [AV.cells]
@[simp] theorem cells_int {k : IntKind} {n : Int} : (AV.int k n).cells = [.int k n] := by simp [AV.cells]
end Fw
set_option linter.unusedVariables false
set_option linter.unusedSimpArgs false
namespace Fw
open Go

theorem share_int_inv {x : AV} {k : IntKind} {n : Int} (h : x.share = .int k n) : x = .int k n := by
  cases x <;> simp_all [AV.share]
theorem share_ints_inv : ∀ {xs : List AV} {l : List Int}, xs.map AV.share = ints l → xs = ints l
  | [], [], h => rfl
  | [], a :: l, h => by simp [ints] at h
  | x :: xs, [], h => by simp [ints] at h
  | x :: xs, a :: l, h => by
    simp only [ints, List.map_cons, List.cons.injEq] at h
    rw [share_int_inv h.1, share_ints_inv (l := l) h.2]
    rfl
theorem Outs.asI {hs : HS} {x : AV} {l : List Int} (h : Outs 1 hs x (ints l)) (hl : l.length < 4294967296) : Fw.asI x = some l := by
  rcases h.inv with ⟨rfl, h2⟩ | ⟨xs, k, rfl, h1, h2, h3⟩
  · cases l with
    | nil => rfl
    | cons a l => simp [ints] at h2
  · rw [share_ints_inv h2]
    exact asI_sl hl
theorem Outs.add1 {hs : HS} {x : AV} {l : List Int} (h : Outs 1 hs x (ints l)) (hl : l.length ≤ 1000000) (n : Int) :
    ∃ y hs', aappend 1 hs x (.sl 1 [.int .i64 n] .exact) = some (y, hs') ∧ Outs 1 hs' y (ints (l ++ [n])) ∧ SameMem hs hs' := by
  obtain ⟨y, hs', h1, h2, h3⟩ := append_outs h (q := .sl 1 [.int .i64 n] .exact) (ys := [.int .i64 n]) (asV_sl (by simp)) (by simp [ints]; omega)
  refine ⟨y, hs', h1, ?_, h3⟩
  simpa [ints] using h2
theorem asI_outV {l : List Int} (h : l.length < 4294967296) : Fw.asI (outV 1 (ints l)) = some l := by
  cases l with
  | nil => rfl
  | cons a r => exact asI_sl h
/-- a list of numbers that may be appended to -/
structure Grow (hs : HS) (x : AV) (l : List Int) : Prop where
  fresh : Fresh hs x
  as : Fw.asI x = some l
theorem Grow.keep {hs hs' : HS} {x : AV} {l : List Int} (h : Grow hs x l) (k : KeepT hs hs') : Grow hs' x l := by
  refine ⟨?_, h.as⟩
  have := h.fresh
  revert this
  unfold Fresh
  split <;> intro h
  · trivial
  · trivial
  · exact ⟨k.tok _ h.2 h.1, Nat.lt_of_lt_of_le h.2 k.nt⟩
  · exact h
theorem Grow.add {hs : HS} {x : AV} {l : List Int} (h : Grow hs x l) (hl : l.length ≤ 1000000) (n : Int) :
    ∃ y hs', aappend 1 hs x (.sl 1 [.int .i64 n] .exact) = some (y, hs') ∧ Grow hs' y (l ++ [n]) ∧ SameMem hs hs' := by
  have e1 : aelems (.sl 1 [.int .i64 n] .exact) = some [.int .i64 n] := rfl
  have e2 : aszOk 1 (.sl 1 [.int .i64 n] .exact) = true := rfl
  have hi : ints l ++ [.int .i64 n] = ints (l ++ [n]) := by simp [ints]
  rcases asI_inv h.as with ⟨rfl, rfl⟩ | ⟨c, rfl⟩
  · rw [append_eq (xs := []) rfl e1 rfl e2 (by simp), if_neg (by simp)]
    exact ⟨_, _, rfl, ⟨by simp [Fresh], rfl⟩, rfl, rfl⟩
  · rw [append_eq (xs := ints l) rfl e1 rfl e2 (by simp [ints]; omega), if_neg (by simp)]
    have hf := h.fresh
    cases c with
    | exact =>
      refine ⟨_, _, rfl, ⟨by simp [Fresh], ?_⟩, rfl, rfl⟩
      rw [hi]; exact asI_sl (by simp; omega)
    | shared => simp [Fresh] at hf
    | own k =>
      simp [Fresh] at hf
      simp only [appP, hf.1, if_true]
      refine ⟨_, _, rfl, ⟨by simp [Fresh], ?_⟩, rfl, rfl⟩
      rw [hi]; exact asI_sl (by simp; omega)
end Fw
set_option linter.unusedVariables false
set_option linter.unusedSimpArgs false
namespace Fw
open Go

/-- a value of which, its mutable slices read by their content, the result is a reading -/
def ReadsZ (n : Nat) (r : AV) (e : AEnd) (hs : HS) : Prop := ∃ x, e = .ret x ∧ (frz hs.heap n x).share = r
theorem FCall.shareZ {P : Program} {f : FuncId} {args : List AV} {hs : HS} {n : Nat} {r : AV} (h : FCall P f args hs fun e hs' => ReadsZ n r e hs') : FCall P f args hs fun e _ => e = .ret r := by
  -- the result before it is shared depends on the run: freeze and share in one step
  refine ⟨h.ok, fun c w vs hi hv => (h.run c w vs hi hv).mono ?_⟩
  rintro e w' ⟨ae, hs', c', ⟨x, rfl, rfl⟩, he, h2, h3⟩
  cases e with
  | returned v =>
    have he : Rep c' v x := he
    let c'' : CM := { c' with cl := fun b o => match c'.cl b o with | .blk _ _ => (match w'.cell? ⟨b, o, none⟩ with | some v => .imm v | none => .no) | x => x }
    have himm : ∀ b o v, c'.cl b o = .imm v → c''.cl b o = .imm v := fun b o v e => by simp only [c'', e]
    have htok : ∀ b o k, c'.cl b o = .tok k → c''.cl b o = .tok k := fun b o v e => by simp only [c'', e]
    have hk : Knows c' c'' := ⟨himm, rfl, fun _ => rfl, rfl, fun k e => ⟨e, fun b o e' => htok b o k e'⟩⟩
    have hb : ∀ b o i j v, c'.cl b o = .blk i j → w'.cell? ⟨b, o, none⟩ = some v → c''.cl b o = .imm v := fun b o i j v e e' => by simp only [c'', e, e']
    refine ⟨.ret _, { hs' with heap := fun _ => none, mp := fun _ => none }, c'', rfl, Rep.share (Rep.frz hk h2 hb n he), ⟨h2.nh, h2.nt, h2.tokv, h2.vlt, ?_, ?_, fun i ys e => by simp at e, ?_, fun i ps e => by simp at e, h2.glob.to himm⟩,
      ⟨⟨fun b o v e => himm _ _ _ (h3.le.imm b o v e), h3.le.nh, h3.le.loc, h3.le.nt, h3.le.val, fun b o k hk e e' => htok _ _ _ (h3.le.tok b o k hk e e')⟩, h3.os, h3.out, h3.size, h3.blk, ?_, h3.frz⟩⟩
    · intro b o u e
      simp only [c''] at e
      split at e
      · split at e
        · rename_i u' hu
          injection e with e; subst e; exact hu
        · cases e
      · exact h2.imm b o u e
    · intro b o k e
      simp only [c''] at e
      split at e
      · split at e <;> cases e
      · exact h2.toks b o k e
    · intro b o hb'
      simp only [c'', h2.dom b o hb']
    · intro b o hb' e
      simp only [c'', h3.no b o hb' e]
  | panicked ch => exact he.elim
  | outgrown => exact he.elim
theorem PCall.ofZ {P : Program} {C : PCtx} (hC : CtxOk P C) {f : FuncId} {muts : List Nat} {pu : List FuncId} {ac : ACode} {rs : List ARes} {n : Nat} (hf : FnOk P f muts pu ac rs n) {args : List AV} {r : AV} (hn : args.length ≤ n) (hp : r.plain = true)
    (h : ∀ hs : HS, hs.bare → At (awp P C ac (finQ rs fun e hs' => ReadsZ 2 r e hs') ⟨argEnv args, hs⟩)) : PCall P f args r :=
  ⟨hp, fun hs hb => FCall.shareZ (FCall.of_body hC hf hn (h hs hb))⟩
@[simp] theorem At.readsZ {n : Nat} {x r : AV} {hs : HS} : At (ReadsZ n r (.ret x) hs) = ((frz hs.heap n x).share = r) := by
  simp only [At, ReadsZ, eq_iff_iff]
  exact ⟨fun ⟨y, h1, h2⟩ => by injection h1 with h1; subst h1; exact h2, fun h => ⟨x, rfl, h⟩⟩

@[simp] theorem frz_tup {h : Nat → Option (List AV)} {n : Nat} {xs : List AV} : frz h n (.tup xs) = .tup (xs.map (frzC (frzL h n))) := id rfl
@[simp] theorem frz_agg {h : Nat → Option (List AV)} {n : Nat} {xs : List AV} : frz h n (.agg xs) = .agg (xs.map (frzL h n)) := id rfl
@[simp] theorem frz_int {h : Nat → Option (List AV)} {n : Nat} {k : IntKind} {a : Int} : frz h n (.int k a) = .int k a := by cases n <;> rfl
@[simp] theorem frz_bool {h : Nat → Option (List AV)} {n : Nat} {b : Bool} : frz h n (.bool b) = .bool b := by cases n <;> rfl
@[simp] theorem frz_nilsl {h : Nat → Option (List AV)} {n : Nat} : frz h n .nilsl = .nilsl := by cases n <;> rfl
@[simp] theorem frz_msl {h : Nat → Option (List AV)} {n : Nat} {ag : Bool} {sz i off len : Nat} {ex : Bool} : frz h n (.msl ag sz i off len ex) = frzL h n (.msl ag sz i off len ex) := id rfl
@[simp] theorem frzC_agg {g : AV → AV} {xs : List AV} : frzC g (.agg xs) = .agg (xs.map g) := id rfl
@[simp] theorem frzC_int {h : Nat → Option (List AV)} {n : Nat} {k : IntKind} {a : Int} : frzC (frzL h n) (.int k a) = .int k a := by cases n <;> rfl
@[simp] theorem frzC_bool {h : Nat → Option (List AV)} {n : Nat} {b : Bool} : frzC (frzL h n) (.bool b) = .bool b := by cases n <;> rfl
@[simp] theorem frzC_nilsl {h : Nat → Option (List AV)} {n : Nat} : frzC (frzL h n) .nilsl = .nilsl := by cases n <;> rfl
@[simp] theorem frzC_msl {h : Nat → Option (List AV)} {n : Nat} {ag : Bool} {sz i off len : Nat} {ex : Bool} : frzC (frzL h n) (.msl ag sz i off len ex) = frzL h n (.msl ag sz i off len ex) := id rfl
@[simp] theorem frzL_int {h : Nat → Option (List AV)} {n : Nat} {k : IntKind} {a : Int} : frzL h n (.int k a) = .int k a := by cases n <;> rfl
@[simp] theorem frzL_bool {h : Nat → Option (List AV)} {n : Nat} {b : Bool} : frzL h n (.bool b) = .bool b := by cases n <;> rfl
@[simp] theorem frzL_nilsl {h : Nat → Option (List AV)} {n : Nat} : frzL h n .nilsl = .nilsl := by cases n <;> rfl
@[simp] theorem frz_sl {h : Nat → Option (List AV)} {n : Nat} {sz : Nat} {xs : List AV} {c : Cap} : frz h n (.sl sz xs c) = frzL h n (.sl sz xs c) := id rfl
@[simp] theorem frzC_sl {h : Nat → Option (List AV)} {n : Nat} {sz : Nat} {xs : List AV} {c : Cap} : frzC (frzL h n) (.sl sz xs c) = frzL h n (.sl sz xs c) := id rfl
@[simp] theorem frz_osl {h : Nat → Option (List AV)} {n : Nat} {ag : Bool} {sz i len k : Nat} : frz h n (.osl ag sz i len k) = frzL h n (.osl ag sz i len k) := id rfl
@[simp] theorem frzC_osl {h : Nat → Option (List AV)} {n : Nat} {ag : Bool} {sz i len k : Nat} : frzC (frzL h n) (.osl ag sz i len k) = frzL h n (.osl ag sz i len k) := id rfl
/-- nothing mutable inside -/
def noM : Nat → AV → Bool
  | 0, _ => true
  | n + 1, .sl _ xs _ => xs.all fun x => match x with
    | .agg cs => cs.all (noM n)
    | x => noM n x
  | _ + 1, .msl .. => false
  | _ + 1, .osl .. => false
  | _ + 1, _ => true
theorem frzL_noM {h : Nat → Option (List AV)} : ∀ {n : Nat} {x : AV}, noM n x = true → frzL h n x = x
  | 0, x, _ => rfl
  | n + 1, x, hx => by
    cases x <;> simp only [noM] at hx <;> (try (cases hx; done)) <;> (try rfl)
    rename_i sz xs c
    show AV.sl sz (xs.map (frzC (frzL h n))) c = _
    congr 1
    conv => rhs; rw [← List.map_id xs]
    apply List.map_congr_left
    intro y hy
    have := List.all_eq_true.1 hx y hy
    cases y <;> first
      | exact frzL_noM this
      | (rename_i cs
         show AV.agg (cs.map (frzL h n)) = _
         congr 1
         conv => rhs; rw [← List.map_id cs]
         apply List.map_congr_left
         intro z hz
         exact frzL_noM (List.all_eq_true.1 this z hz))
theorem frzC_noM {h : Nat → Option (List AV)} {n : Nat} {x : AV} (hx : noM n x = true) (ha : x.leaf = true) : frzC (frzL h n) x = x := by
  cases x <;> first | exact frzL_noM hx | (simp [AV.leaf] at ha)
theorem noM_ints (n : Nat) (l : List Int) (c : Cap) : noM n (.sl 1 (ints l) c) = true := by
  cases n with
  | zero => rfl
  | succ n =>
    simp only [noM, ints, List.all_map, List.all_eq_true]
    intro a _
    simp only [Function.comp]
    cases n <;> rfl
theorem frzL_msl {h : Nat → Option (List AV)} {n : Nat} {ag : Bool} {sz i off len : Nat} {ex : Bool} {ys xs : List AV} (h1 : h i = some ys) (h2 : mcont ag sz off len ys = some xs) :
    frzL h (n + 1) (.msl ag sz i off len ex) = .sl sz (xs.map (frzC (frzL h n))) (if ex = true then .exact else .shared) := by
  simp only [frzL, h1, h2]
theorem frzL_osl {h : Nat → Option (List AV)} {n : Nat} {ag : Bool} {sz i len k : Nat} {ys xs : List AV} (h1 : h i = some ys) (h2 : mcont ag sz 0 len ys = some xs) :
    frzL h (n + 1) (.osl ag sz i len k) = .sl sz (xs.map (frzC (frzL h n))) .shared := by
  simp only [frzL, h1, h2]
/-- lists that no freezing changes -/
theorem map_frz {h : Nat → Option (List AV)} {n : Nat} {xs : List AV} (hx : ∀ x ∈ xs, (∃ k a, x = .int k a) ∨ ∃ b, x = .bool b) : xs.map (frzC (frzL h n)) = xs := by
  conv => rhs; rw [← List.map_id xs]
  apply List.map_congr_left
  intro x hx'
  rcases hx x hx' with ⟨k, a, rfl⟩ | ⟨b, rfl⟩ <;> simp
@[simp] theorem map_frz_ints {h : Nat → Option (List AV)} {n : Nat} {l : List Int} : (ints l).map (frzC (frzL h n)) = ints l := map_frz fun x hx => by
  simp only [ints, List.mem_map] at hx
  obtain ⟨a, _, rfl⟩ := hx
  exact .inl ⟨_, _, rfl⟩
theorem mcont_one {ys : List AV} : mcont false 1 0 ys.length ys = some ys := by
  unfold mcont
  simp only [Nat.zero_add, Nat.mul_one, Nat.le_refl, true_and, or_true, if_true, Bool.false_eq_true, if_false, Option.some.injEq]
  apply List.ext_getElem?
  intro j
  rw [List.getElem?_map]
  rcases Nat.lt_or_ge j ys.length with hj | hj
  · rw [List.getElem?_range hj, List.getElem?_eq_getElem hj]
    simp [List.getD, hj]
  · rw [List.getElem?_eq_none (by simpa using hj), List.getElem?_eq_none hj]; rfl
theorem mcont_full {ys : List AV} {n : Nat} (h : ys.length = n) : mcont false 1 0 n ys = some ys := by subst h; exact mcont_one

@[simp] theorem alen_msl {ag : Bool} {sz i off len : Nat} {ex : Bool} : alenK false (.msl ag sz i off len ex) = some (.int .i64 len) := id rfl
theorem aidx_msl {ag : Bool} {i off len : Nat} {ex : Bool} {k : IntKind} {n : Int} (h0 : 0 ≤ n) (h1 : n < len) : aidxS 1 (.msl ag 1 i off len ex) (.int k n) = some (.ref i (off + n.toNat)) := by
  simp only [aidxS, h0, h1, and_self, if_true, Nat.mul_one]
@[simp] theorem aidx_msln {ag : Bool} {i len : Nat} {ex : Bool} {k : IntKind} {n : Nat} (h1 : n < len) : aidxS 1 (.msl ag 1 i 0 len ex) (.int k (n : Int)) = some (.ref i n) := by
  rw [aidx_msl (by omega) (by omega)]; simp
theorem mzs_one (z : AV) (n : Nat) : mzs [z] n = List.replicate n z := by
  unfold mzs
  rw [List.eq_replicate_iff]
  refine ⟨by simp, fun b hb => ?_⟩
  simp only [List.mem_map, List.mem_range, List.length_cons, List.length_nil, Nat.zero_add, Nat.mod_one] at hb
  obtain ⟨j, _, rfl⟩ := hb
  rfl
/-- a new row of n cells -/
def HS.blk (hs : HS) (ys : List AV) : HS := { hs with heap := fun i => if i = hs.nh then some ys else hs.heap i, nh := hs.nh + 1 }
@[simp] theorem HS.blk_new {hs : HS} {ys : List AV} : (hs.blk ys).heap hs.nh = some ys := by simp [HS.blk]
@[simp] theorem HS.blk_nh {hs : HS} {ys : List AV} : (hs.blk ys).nh = hs.nh + 1 := id rfl
theorem amake_eq {z : AV} {hs : HS} {k1 k2 : IntKind} {n : Nat} (h : n ≤ 1000000) : amake false 1 [z] hs (.int k1 (n : Int)) (.int k2 (n : Int)) = some (.msl false 1 hs.nh 0 n true, hs.blk (List.replicate n z)) := by
  simp only [amake, Int.natCast_nonneg, Int.le_refl, true_and, Int.toNat_natCast, Nat.mul_one, mzs_one, HS.blk, if_true]
  rw [if_pos (by omega)]
/-- a block that holds other cells -/
def HS.upd (hs : HS) (i : Nat) (ys : List AV) : HS := { hs with heap := fun k => if k = i then some ys else hs.heap k }
@[simp] theorem HS.upd_same {hs : HS} {i : Nat} {ys : List AV} : (hs.upd i ys).heap i = some ys := by simp [HS.upd]
@[simp] theorem HS.upd_nh {hs : HS} {i : Nat} {ys : List AV} : (hs.upd i ys).nh = hs.nh := id rfl
@[simp] theorem HS.upd_nt {hs : HS} {i : Nat} {ys : List AV} : (hs.upd i ys).nt = hs.nt := id rfl
@[simp] theorem HS.upd_tok {hs : HS} {i : Nat} {ys : List AV} : (hs.upd i ys).tok = hs.tok := id rfl
@[simp] theorem HS.upd_upd {hs : HS} {i : Nat} {ys zs : List AV} : (hs.upd i ys).upd i zs = hs.upd i zs := by
  simp only [HS.upd]; congr 1; funext k; split <;> rfl
@[simp] theorem HS.upd_blk {hs : HS} {ys zs : List AV} : (hs.blk ys).upd hs.nh zs = hs.blk zs := by
  simp only [HS.upd, HS.blk]; congr 1; funext k; split <;> rfl
theorem store_cell {hp : Nat → Option (List AV)} {i o : Nat} {ys : List AV} {v : AV} (h : hp i = some ys) (ho : o < ys.length) (hv : v.leaf = true) : astore hp 1 (.ref i o) v = some (fun k => if k = i then some (ys.set o v) else hp k) := by
  have h1 : v.sto = true := by cases v <;> first | rfl | (simp [AV.leaf] at hv)
  have h2 : v.cells = [v] := by cases v <;> first | rfl | (simp [AV.leaf] at hv)
  simp only [astore, h, Option.bind_some, h1, h2, List.length_cons, List.length_nil, Nat.zero_add, true_and, setL]
  rw [if_pos (by omega)]
theorem load_cell {hp : Nat → Option (List AV)} {i o : Nat} {ys : List AV} (h : hp i = some ys) (ho : o < ys.length) : aload hp false 1 (.ref i o) = some ys[o] := by
  simp [aload, h, apart, ho]
end Fw
set_option linter.unusedVariables false
set_option linter.unusedSimpArgs false
namespace Fw
open Go

theorem aiW_mono {P : Program} {C : PCtx} {o : AI} {K K' : AS → Prop} {Q Q' : AEx → AS → Prop} (hk : ∀ s, K s → K' s) (hq : ∀ e s, Q e s → Q' e s) : ∀ s, aiW P C o K Q s → aiW P C o K' Q' s := by
  intro s h
  have hcm : ∀ {f : FuncId} {args : List AV} {d : Option Nat}, hcW P f args d K Q s → hcW P f args d K' Q' s := by
    intro f args d h
    unfold hcW at h ⊢
    exact h.mono fun e hs' he => by cases e <;> first | exact hk _ he | exact hq _ _ he
  unfold aiW condP at h ⊢
  split at h
  · rename_i hw
    rw [if_pos hw]
    by_cases hsp : special o.op = true
    · obtain ⟨jd, jg, jop⟩ := o
      cases jop <;> simp only [special] at hsp <;> (try (cases hsp; done))
      case hcall f args => exact hcm h
      case callv x args =>
        simp only [opW] at h ⊢
        unfold cvW at h ⊢
        split at h <;> (try (exact h.elim))
        exact hcm h
      case invk ms x args =>
        simp only [opW] at h ⊢
        unfold ivW at h ⊢
        split at h <;> (try (exact h.elim))
        exact hcm h
      case panic x =>
        simp only [opW] at h ⊢
        unfold pnW at h ⊢
        split at h
        · exact hq _ _ h
        · exact h.elim
    · have hsp' : special o.op = false := by simpa using hsp
      rw [opW_det hsp'] at h ⊢
      cases he : evalOp C s o.op with
      | none => rw [he] at h; exact h.elim
      | some r => rw [he] at h; exact hk _ h
  · rename_i hw
    rw [if_neg hw]
    exact hk _ h
theorem allW_of {f : Nat → Prop} : ∀ {l : List Nat}, (∀ i ∈ l, f i) → allW l f
  | [], _ => trivial
  | i :: l, h => ⟨h i (by simp), allW_of fun j hj => h j (by simp [hj])⟩
/-- every dependence goes backwards in the text -/
def backw (ds : List (List Nat)) : Bool := (List.range ds.length).all fun i => (ds.getD i []).all fun j => decide (j < i)
theorem readyL_mem {ds : List (List Nat)} {done : List Nat} {i : Nat} : i ∈ readyL ds done ↔ i < ds.length ∧ i ∉ done ∧ ∀ j ∈ ds.getD i [], j ∈ done := by
  unfold readyL
  simp only [List.mem_filter, List.mem_range, Bool.and_eq_true, Bool.not_eq_true', List.all_eq_true, List.contains_iff_mem]
  constructor
  · rintro ⟨h1, h2, h3⟩
    refine ⟨h1, fun h => ?_, h3⟩
    rw [List.contains_iff_mem.2 h] at h2; cases h2
  · rintro ⟨h1, h2, h3⟩
    refine ⟨h1, ?_, h3⟩
    cases hc : done.contains i with
    | false => rfl
    | true => exact absurd (List.contains_iff_mem.1 hc) h2
theorem ready_none {ds : List (List Nat)} (hb : backw ds = true) {done : List Nat} (h : readyL ds done = []) : ∀ i, i < ds.length → i ∈ done := by
  intro i
  induction i using Nat.strongRecOn with
  | _ i ih =>
    intro hi
    apply Classical.byContradiction
    intro hn
    have : i ∈ readyL ds done := by
      rw [readyL_mem]
      refine ⟨hi, hn, fun j hj => ?_⟩
      unfold backw at hb
      rw [List.all_eq_true] at hb
      have := hb i (by simpa using hi)
      rw [List.all_eq_true] at this
      have hji : j < i := by simpa using this j hj
      exact ih j hji (by omega)
    rw [h] at this; cases this
theorem nodup_le : ∀ {n : Nat} {l : List Nat}, l.Nodup → (∀ i ∈ l, i < n) → l.length ≤ n
  | 0, l, _, h => by
    cases l with
    | nil => exact Nat.le_refl _
    | cons a l => exact absurd (h a (by simp)) (by omega)
  | n + 1, l, hn, h => by
    have h1 : (l.erase n).length ≤ n := nodup_le (hn.erase n) fun i hi => by
      have h2 := h i (List.mem_of_mem_erase hi)
      have h3 : i ≠ n := fun e => by subst e; exact (hn.mem_erase_iff.1 hi).1 rfl
      omega
    by_cases hm : n ∈ l
    · have := List.length_erase_of_mem hm
      omega
    · rw [List.erase_of_not_mem hm] at h1
      omega
theorem anyW_inv {P : Program} {C : PCtx} {ds : List (List Nat)} {xs : List AI} {Q : AEx → AS → Prop} (I : List Nat → AS → Prop) (hb : backw ds = true)
    (step : ∀ done i s, i < ds.length → i ∉ done → (∀ j ∈ ds.getD i [], j ∈ done) → I done s → optW (fun x => aiW P C x (I (i :: done)) Q s) xs[i]?)
    (fin : ∀ done s, (∀ i, i < ds.length → i ∈ done) → I done s → Q .normal s) :
    ∀ (m : Nat) (done : List Nat) (s : AS), done.Nodup → (∀ i ∈ done, i < ds.length) → done.length + m = ds.length → I done s → anyW P C ds xs m done Q s
  | 0, done, s, hnd, hlt, hl, hI => by
    have hall : ∀ i, i < ds.length → i ∈ done := by
      intro i hi
      apply Classical.byContradiction
      intro hn
      have hsub := nodup_le (List.nodup_cons.2 ⟨hn, hnd⟩) (n := ds.length) fun j hj => by
        rcases List.mem_cons.1 hj with rfl | hj
        · exact hi
        · exact hlt j hj
      simp at hsub
      omega
    refine ⟨?_, fin done s hall hI⟩
    rw [List.eq_nil_iff_forall_not_mem]
    intro i hi
    rw [readyL_mem] at hi
    exact hi.2.1 (hall i hi.1)
  | m + 1, done, s, hnd, hlt, hl, hI => by
    refine ⟨fun h => fin done s (ready_none hb h) hI, allW_of fun i hi => ?_⟩
    rw [readyL_mem] at hi
    have := step done i s hi.1 hi.2.1 hi.2.2 hI
    cases hx : xs[i]? with
    | none => rw [hx] at this; exact this
    | some x =>
      rw [hx] at this
      refine aiW_mono (fun s' hs' => ?_) (fun _ _ h => h) s this
      refine anyW_inv I hb step fin m (i :: done) s' (List.nodup_cons.2 ⟨hi.2.1, hnd⟩) ?_ (by simp; omega) hs'
      intro j hj
      rcases List.mem_cons.1 hj with rfl | hj
      · exact hi.1
      · exact hlt j hj
theorem At.any_inv {P : Program} {C : PCtx} {ds : List (List Nat)} {xs : List AI} {Q : AEx → AS → Prop} {m : Nat} {s : AS} (I : List Nat → AS → Prop) (hb : backw ds = true) (hm : m = ds.length) (h0 : I [] s)
    (step : ∀ done i s, i < ds.length → i ∉ done → (∀ j ∈ ds.getD i [], j ∈ done) → I done s → At (optW (fun x => aiW P C x (I (i :: done)) Q s) xs[i]?))
    (fin : ∀ done s, (∀ i, i < ds.length → i ∈ done) → I done s → At (Q .normal s)) : At (anyW P C ds xs m [] Q s) :=
  anyW_inv I hb step fin m [] s List.nodup_nil (by simp) (by simp [hm]) h0
theorem At.intro {p : Prop} (h : p) : At p := h
end Fw
set_option linter.unusedVariables false
set_option linter.unusedSimpArgs false
namespace Fw
open Go

theorem aiW_unput {P : Program} {C : PCtx} {i j : AI} (hap : apartI j i = true) {K K' : AS → Prop} {Q : AEx → AS → Prop} (hQ : ∀ x s d v, Q (.panic x) (s.put d v) → Q (.panic x) s) {s : AS} {xi : AV}
    (h : aiW P C j K' Q (s.put i.dst xi)) (hk : ∀ s1, SameOn i.reads s1 s → K' (s1.put i.dst xi) → K s1) : aiW P C j K Q s := by
  obtain ⟨a1, a2, a3⟩ := apartI_spec hap
  have hsame : SameOn j.reads (s.put i.dst xi) s := put_same (h := s.hs) a3
  unfold aiW condP at h ⊢
  rw [want_congr (s' := s) hsame.left] at h
  have comm : ∀ (x : AV) (hs' : HS), (⟨(s.put i.dst xi).env, hs'⟩ : AS).put j.dst x = ((⟨s.env, hs'⟩ : AS).put j.dst x).put i.dst xi := by
    intro x hs'
    have := put_comm s.env hs' (d1 := i.dst) (d2 := j.dst) (fun d h1 h2 => a2 d h2 h1) xi x s.hs hs'
    rw [put_eta ((⟨s.env, hs'⟩ : AS).put j.dst x), put_hs]
    exact this
  have stay : ∀ (x : AV) (hs' : HS), SameOn i.reads ((⟨s.env, hs'⟩ : AS).put j.dst x) s := fun x hs' => put_same a1
  have pan : ∀ (v : AV) (hs' : HS), Q (.panic v) ⟨(s.put i.dst xi).env, hs'⟩ → Q (.panic v) ⟨s.env, hs'⟩ := by
    intro v hs' hq
    refine hQ v ⟨s.env, hs'⟩ i.dst xi ?_
    cases hd : i.dst <;> rw [hd] at hq <;> exact hq
  have call : ∀ f args, hcW P f args j.dst K' Q (s.put i.dst xi) → hcW P f args j.dst K Q s := by
    intro f args hc
    unfold hcW at hc ⊢
    rw [put_hs] at hc
    refine hc.mono fun e hs' he => ?_
    cases e with
    | ret v => simp only at he ⊢; rw [comm] at he; exact hk _ (stay _ _) he
    | panic v => exact pan _ _ he
  split at h
  · rename_i hw
    rw [if_pos hw]
    by_cases hsp : special j.op = true
    · obtain ⟨jd, jg, jop⟩ := j
      cases jop <;> simp only [special] at hsp <;> (try (cases hsp; done))
      case hcall f args =>
        simp only [opW] at h ⊢
        have hr : SameOn (lReads args) (s.put i.dst xi) s := hsame.right
        rw [evs_congr hr] at h
        exact call _ _ h
      case callv x args =>
        simp only [opW] at h ⊢
        have hr : SameOn (x.reads ++ lReads args) (s.put i.dst xi) s := hsame.right
        rw [evs_congr (SameOn.right hr), ev_congr (SameOn.left hr)] at h
        unfold cvW at h ⊢
        split at h <;> (try (exact h.elim))
        exact call _ _ h
      case invk ms x args =>
        simp only [opW] at h ⊢
        have hr : SameOn (x.reads ++ lReads args) (s.put i.dst xi) s := hsame.right
        rw [evs_congr (SameOn.right hr), ev_congr (SameOn.left hr)] at h
        unfold ivW at h ⊢
        split at h <;> (try (exact h.elim))
        exact call _ _ h
      case panic x =>
        simp only [opW] at h ⊢
        have hr : SameOn x.reads (s.put i.dst xi) s := hsame.right
        rw [ev_congr hr] at h
        unfold pnW at h ⊢
        split at h
        · exact hQ _ _ _ _ h
        · exact h.elim
    · have hsp' : special j.op = false := by simpa using hsp
      rw [opW_det hsp'] at h ⊢
      rw [evalOp_congr C j.op hsame.right (put_hs _ _ _)] at h
      cases he : evalOp C s j.op with
      | none => rw [he] at h; exact h.elim
      | some r => rw [he] at h; simp only [optK] at h ⊢; rw [comm] at h; exact hk _ (stay _ _) h
  · rename_i hw
    rw [if_neg hw]
    have := comm .undef s.hs
    rw [put_eta (s.put i.dst xi), put_hs, this] at h
    exact hk _ (stay _ _) h

theorem contains_congr {a b : List Nat} (h : ∀ x, x ∈ a ↔ x ∈ b) (k : Nat) : a.contains k = b.contains k := by
  rw [Bool.eq_iff_iff, List.contains_iff_mem, List.contains_iff_mem]; exact h k
theorem readyL_congr {ds : List (List Nat)} {a b : List Nat} (h : ∀ x, x ∈ a ↔ x ∈ b) : readyL ds a = readyL ds b := by
  unfold readyL
  congr 1
  funext i
  rw [contains_congr h]
  congr 1
  congr 1
  funext k
  exact contains_congr h k
theorem anyW_congr {P : Program} {C : PCtx} {ds : List (List Nat)} {xs : List AI} {Q : AEx → AS → Prop} : ∀ (m : Nat) {a b : List Nat}, (∀ x, x ∈ a ↔ x ∈ b) → ∀ {s : AS}, anyW P C ds xs m a Q s → anyW P C ds xs m b Q s
  | 0, a, b, h, s, hw => ⟨by rw [← readyL_congr h]; exact hw.1, hw.2⟩
  | m + 1, a, b, h, s, hw => by
    refine ⟨fun e => hw.1 (by rw [readyL_congr h]; exact e), allW_of fun i hi => ?_⟩
    rw [← readyL_congr h] at hi
    have := allW_mem hw.2 hi
    cases hx : xs[i]? with
    | none => rw [hx] at this; exact this
    | some x =>
      rw [hx] at this
      exact aiW_mono (fun s' hs' => anyW_congr m (fun y => by simp only [List.mem_cons, h]) hs') (fun _ _ h => h) s this
/-- what an operation gives hangs on the environment alone -/
def PureI (C : PCtx) (o : AI) (s : AS) (v : AV) : Prop := ∀ h : HS, resI C ⟨s.env, h⟩ o = some (v, h)
def indepB (ds : List (List Nat)) (xs : List AI) (done : List Nat) (i : Nat) (o : AI) : Bool :=
  (List.range ds.length).all fun k => done.contains k || k == i || (ds.getD k []).contains i || (match xs[k]? with | some x => apartI x o | none => true)
theorem indepB_spec {ds : List (List Nat)} {xs : List AI} {done : List Nat} {i : Nat} {o : AI} (h : indepB ds xs done i o = true) {k : Nat} {x : AI} (hk : k < ds.length) (h1 : k ∉ done) (h2 : k ≠ i) (h3 : i ∉ ds.getD k []) (hx : xs[k]? = some x) : apartI x o = true := by
  unfold indepB at h
  rw [List.all_eq_true] at h
  have := h k (by simpa using hk)
  rw [hx] at this
  simp only [Bool.or_eq_true, List.contains_iff_mem, beq_iff_eq] at this
  rcases this with ((h' | h') | h') | h'
  · exact absurd h' h1
  · exact absurd h' h2
  · exact absurd h' h3
  · exact h'
theorem anyW_first {P : Program} {C : PCtx} {ds : List (List Nat)} {xs : List AI} {Q : AEx → AS → Prop} (hQ : ∀ x s d v, Q (.panic x) (s.put d v) → Q (.panic x) s) {i : Nat} {o : AI} {v : AV} (hi : i < ds.length) (hx : xs[i]? = some o) (hsp : o.spec = false) :
    ∀ (m : Nat) (done : List Nat) (s : AS), i ∉ done → (∀ j ∈ ds.getD i [], j ∈ done) → (∀ k x, k < ds.length → k ∉ done → k ≠ i → i ∉ ds.getD k [] → xs[k]? = some x → apartI x o = true) → PureI C o s v →
      anyW P C ds xs m (i :: done) Q (s.put o.dst v) → anyW P C ds xs (m + 1) done Q s
  | m, done, s, hnd, hd, hap, hp, h => by
    have hir : i ∈ readyL ds done := readyL_mem.2 ⟨hi, hnd, hd⟩
    refine ⟨fun e => (by rw [e] at hir; cases hir), allW_of fun k hk => ?_⟩
    by_cases hki : k = i
    · subst hki
      rw [hx]
      exact (aiW_det hsp).2 ⟨(v, s.hs), hp s.hs, h⟩
    · obtain ⟨k1, k2, k3⟩ := readyL_mem.1 hk
      have hkr : k ∈ readyL ds (i :: done) := readyL_mem.2 ⟨k1, by simp [hki, k2], fun j hj => List.mem_cons_of_mem _ (k3 j hj)⟩
      cases m with
      | zero => exact absurd h.1 (fun e => by rw [e] at hkr; cases hkr)
      | succ m =>
        have h2 := allW_mem h.2 hkr
        cases hxk : xs[k]? with
        | none => rw [hxk] at h2; exact h2
        | some x =>
          rw [hxk] at h2
          have hik : i ∉ ds.getD k [] := fun e => hnd (k3 i e)
          have hapk := hap k x k1 k2 hki hik hxk
          refine aiW_unput hapk hQ h2 fun s1 hs1 h3 => ?_
          refine anyW_first hQ hi hx hsp m (k :: done) s1 (by simp [Ne.symm hki, hnd]) (fun j hj => List.mem_cons_of_mem _ (hd j hj)) (fun k' x' a b c d e => hap k' x' a (fun hm => b (List.mem_cons_of_mem _ hm)) c d e) ?_
            (anyW_congr m (fun y => by simp only [List.mem_cons]; exact or_left_comm) h3)
          intro hh
          rw [← hp hh]
          exact resI_congr C o (s := ⟨s1.env, hh⟩) (s' := ⟨s.env, hh⟩) hs1 rfl
theorem At.any_p {P : Program} {C : PCtx} {ds : List (List Nat)} {xs : List AI} {Q : AEx → AS → Prop} {m : Nat} {done : List Nat} {s : AS} (i : Nat) {o : AI} {v : AV} (hQ : ∀ x s d v, Q (.panic x) (s.put d v) → Q (.panic x) s) (hx : xs[i]? = some o)
    (hc : (decide (i < ds.length) && !done.contains i && (ds.getD i []).all done.contains && !o.spec && indepB ds xs done i o) = true) (hp : PureI C o s v)
    (h : At (anyW P C ds xs m (i :: done) Q (s.put o.dst v))) : At (anyW P C ds xs (m + 1) done Q s) := by
  simp only [Bool.and_eq_true, decide_eq_true_eq, Bool.not_eq_true', List.all_eq_true] at hc
  obtain ⟨⟨⟨⟨h1, h2⟩, h3⟩, h4⟩, h5⟩ := hc
  exact anyW_first hQ h1 hx h4 m done s (fun hm => by rw [List.contains_iff_mem.2 hm] at h2; cases h2) (fun j hj => List.contains_iff_mem.1 (h3 j hj)) (fun k x a b c d e => indepB_spec h5 a b c d e) hp h
theorem any_mono {P : Program} {C : PCtx} {ds : List (List Nat)} {xs : List AI} {Q Q' : AEx → AS → Prop} (h : ∀ e s, Q e s → Q' e s) : ∀ (m : Nat) {done : List Nat} {s : AS}, anyW P C ds xs m done Q s → anyW P C ds xs m done Q' s
  | 0, done, s, hw => ⟨hw.1, h _ _ hw.2⟩
  | m + 1, done, s, hw => by
    refine ⟨fun e => h _ _ (hw.1 e), allW_of fun i hi => ?_⟩
    have := allW_mem hw.2 hi
    cases hx : xs[i]? with
    | none => rw [hx] at this; exact this
    | some x =>
      rw [hx] at this
      exact aiW_mono (fun s' hs' => any_mono h m hs') h s this
/-- a region by what it ends with -/
def endN (F : AS → Prop) : AEx → AS → Prop
  | .normal, s => F s
  | _, _ => False
theorem At.any_to {P : Program} {C : PCtx} {ds : List (List Nat)} {xs : List AI} {Q : AEx → AS → Prop} {m : Nat} {done : List Nat} {s : AS} (F : AS → Prop) (h : At (anyW P C ds xs m done (endN F) s)) (h2 : ∀ s', F s' → At (Q .normal s')) : At (anyW P C ds xs m done Q s) :=
  any_mono (fun e s' he => by cases e <;> first | exact h2 s' he | exact he.elim) m h
theorem endN_p {F : AS → Prop} : ∀ x s d v, endN F (.panic x) (s.put d v) → endN F (.panic x) s := fun _ _ _ _ h => h
@[simp] theorem At.endN_n {F : AS → Prop} {s : AS} : At (endN F .normal s) = At (F s) := id rfl
/-- an operation that reads its operands alone -/
theorem At.any_q {P : Program} {C : PCtx} {ds : List (List Nat)} {xs : List AI} {Q : AEx → AS → Prop} {m : Nat} {done : List Nat} {s : AS} (i : Nat) {o : AI} (hQ : ∀ x s d v, Q (.panic x) (s.put d v) → Q (.panic x) s) (hx : xs[i]? = some o)
    (hc : (decide (i < ds.length) && !done.contains i && (ds.getD i []).all done.contains && !o.spec && indepB ds xs done i o) = true) (hq : o.op.cls = 0)
    (h : At (aiW P C o (anyW P C ds xs m (i :: done) Q) Q s)) : At (anyW P C ds xs (m + 1) done Q s) := by
  have hsp : o.spec = false := cls_spec (by omega)
  obtain ⟨r, h1, h2⟩ := (aiW_det hsp).1 h
  have h3 := quiet_same hq h1
  refine At.any_p i (v := r.1) hQ hx hc (fun hh => ?_) ?_
  · have := resI_p C hq s.env s.hs hh
    rw [this, show (⟨s.env, s.hs⟩ : AS) = s from rfl, h1]; rfl
  · rw [h3] at h2; exact h2
/-- the only operation that is ready -/
theorem At.any_o {P : Program} {C : PCtx} {ds : List (List Nat)} {xs : List AI} {Q : AEx → AS → Prop} {m : Nat} {done : List Nat} {s : AS} (i : Nat) {o : AI} (hr : readyL ds done = [i]) (hx : xs[i]? = some o)
    (h : At (aiW P C o (anyW P C ds xs m (i :: done) Q) Q s)) : At (anyW P C ds xs (m + 1) done Q s) := by
  refine ⟨fun e => (by rw [hr] at e; cases e), ?_⟩
  rw [hr]
  refine ⟨?_, trivial⟩
  show optW _ xs[i]?; rw [hx]; exact h
theorem At.any_e {P : Program} {C : PCtx} {ds : List (List Nat)} {xs : List AI} {Q : AEx → AS → Prop} {done : List Nat} {s : AS} (hr : readyL ds done = []) (h : At (Q .normal s)) : At (anyW P C ds xs 0 done Q s) := ⟨hr, h⟩
end Fw
set_option linter.unusedVariables false
set_option linter.unusedSimpArgs false
namespace Fw
open Go

end Fw
set_option linter.unusedVariables false
set_option linter.unusedSimpArgs false
namespace Fw
open Go

end Fw
set_option linter.unusedVariables false
set_option linter.unusedSimpArgs false
namespace Fw
open Go

abbrev FEv := FuncId → List AV → HS → Option (AEnd × HS)
def evI (C : PCtx) (F : FEv) (o : AI) (s : AS) : Option (AEx × AS) :=
  match s.want o.g with
  | false => some (.normal, s.put o.dst .undef)
  | true => match o.op with
    | .hcall f args => match F f (args.map s.ev) s.hs with
      | some (.ret v, hs') => some (.normal, (⟨s.env, hs'⟩ : AS).put o.dst v)
      | some (.panic v, hs') => some (.panic v, ⟨s.env, hs'⟩)
      | none => none
    | .callv x args => match s.ev x with
      | .fn (.func f) xs ys => match F f (xs ++ args.map s.ev ++ ys) s.hs with
        | some (.ret v, hs') => some (.normal, (⟨s.env, hs'⟩ : AS).put o.dst v)
        | some (.panic v, hs') => some (.panic v, ⟨s.env, hs'⟩)
        | none => none
      | _ => none
    | .invk ms x args => match ivF ms (s.ev x) (args.map s.ev) with
      | some (f, as) => match F f as s.hs with
        | some (.ret v, hs') => some (.normal, (⟨s.env, hs'⟩ : AS).put o.dst v)
        | some (.panic v, hs') => some (.panic v, ⟨s.env, hs'⟩)
        | none => none
      | none => none
    | .panic x => match s.ev x with
      | .iface t v => some (.panic (.iface t v), s)
      | _ => none
    | op => match evalOp C s op with
      | some r => some (.normal, (⟨s.env, r.2⟩ : AS).put o.dst r.1)
      | none => none
def evOps (C : PCtx) (F : FEv) : List AI → AS → Option (AEx × AS)
  | [], s => some (.normal, s)
  | o :: os, s => match evI C F o s with
    | some (.normal, s') => evOps C F os s'
    | r => r
def evLoop (body : AS → Option (AEx × AS)) : Nat → AS → Option (AEx × AS)
  | 0, _ => none
  | n + 1, s => match body s with
    | some (.normal, s') => evLoop body n s'
    | r => r
def evC (C : PCtx) (F : FEv) (L : Nat) : ACode → AS → Option (AEx × AS)
  | .skip, s => some (.normal, s)
  | .reg ops, s => evOps C F ops s
  | .regd ops, s => match evOps C F ops s with
    | some (.panic _, _) => none
    | r => r
  | .regl ops, s => evOps C F ops s
  | .rega _ _, _ => none
  | .seq a b, s => match evC C F L a s with
    | some (.normal, s') => evC C F L b s'
    | r => r
  | .cond c a b, s => match s.ev c with
    | .bool true => evC C F L a s
    | .bool false => evC C F L b s
    | _ => none
  | .block id b, s => match evC C F L b s with
    | some (.exit j, s') => if j = id then some (.normal, s') else some (.exit j, s')
    | r => r
  | .loop b, s => evLoop (evC C F L b) L s
  | .scope b, s => match evC C F L b s with
    | some (.goto _, _) => none
    | r => r
  | .exit id, s => some (.exit id, s)
  | .label _, s => some (.normal, s)
  | .ret, s => some (.ret, s)
  | .goto l, s => some (.goto l, s)
  | .jump _ _ _ _ _, _ => none
inductive Entry where
  | code (ac : ACode) (rs : List ARes) (k : Nat)
  | spec (S : List AV → Option AV)
def hs00 : HS := ⟨fun _ => none, 0, 0, fun _ => false, fun _ => none⟩
/-- a call alone, evaluated in memory of its own -/
def evP (F : FEv) : PCtx := fun f args => match plainL (shareL args) with
  | true => match F f (shareL args) hs00 with
    | some (.ret x, _) => match x.share.plain with
      | true => some x.share
      | false => none
    | _ => none
  | false => none
def evEnd (rs : List ARes) : Option (AEx × AS) → Option (AEnd × HS)
  | some (.normal, s) => (aResult s rs).map fun x => (.ret x, s.hs)
  | some (.ret, s) => (aResult s rs).map fun x => (.ret x, s.hs)
  | some (.panic x, s) => some (.panic x, s.hs)
  | _ => none
def evF (T : FuncId → Option Entry) (L : Nat) : Nat → FEv
  | 0, _, _, _ => none
  | n + 1, f, args, hs => match T f with
    | some (.code ac rs k) => if args.length ≤ k then evEnd rs (evC (evP (evF T L n)) (evF T L n) L ac ⟨argEnv args, hs⟩) else none
    | some (.spec S) => match S args with
      | some r => some (.ret r, hs)
      | none => none
    | none => none

def FSound (P : Program) (F : FEv) : Prop := ∀ f args hs e hs', F f args hs = some (e, hs') → FCall P f args hs fun x h => x = e ∧ h = hs'
theorem evI_sound {P : Program} {C : PCtx} {F : FEv} (hF : FSound P F) {o : AI} {s : AS} {e : AEx} {s' : AS} (h : evI C F o s = some (e, s')) :
    ∀ (K : AS → Prop) (Q : AEx → AS → Prop), (e = .normal → K s') → (e ≠ .normal → Q e s') → aiW P C o K Q s := by
  intro K Q hK hQ
  have call : ∀ {f : FuncId} {args : List AV}, (match F f args s.hs with
      | some (.ret v, hs') => some (AEx.normal, (⟨s.env, hs'⟩ : AS).put o.dst v)
      | some (.panic v, hs') => some (.panic v, ⟨s.env, hs'⟩)
      | none => none) = some (e, s') → hcW P f args o.dst K Q s := by
    intro f args h
    cases hc : F f args s.hs with
    | none => rw [hc] at h; cases h
    | some r =>
      obtain ⟨ae, hs'⟩ := r
      rw [hc] at h
      refine (hF _ _ _ _ _ hc).mono ?_
      rintro e1 h1 ⟨rfl, rfl⟩
      cases e1 with
      | ret v =>
        simp only [Option.some.injEq, Prod.mk.injEq] at h
        obtain ⟨rfl, rfl⟩ := h
        exact hK rfl
      | panic v =>
        simp only [Option.some.injEq, Prod.mk.injEq] at h
        obtain ⟨rfl, rfl⟩ := h
        exact hQ (by simp)
  unfold evI at h
  unfold aiW condP
  cases hw : s.want o.g with
  | false =>
    rw [hw] at h
    simp only [Option.some.injEq, Prod.mk.injEq] at h
    obtain ⟨rfl, rfl⟩ := h
    simpa using hK rfl
  | true =>
    rw [hw] at h
    simp only [if_true]
    have gen : special o.op = false → (match evalOp C s o.op with
      | some r => some (AEx.normal, (⟨s.env, r.2⟩ : AS).put o.dst r.1)
      | none => none) = some (e, s') → opW P C o.dst o.op K Q s := by
      intro hsp h
      rw [opW_det hsp]
      cases he : evalOp C s o.op with
      | none => rw [he] at h; cases h
      | some r =>
        rw [he] at h
        simp only [Option.some.injEq, Prod.mk.injEq] at h
        obtain ⟨rfl, rfl⟩ := h
        exact hK rfl
    obtain ⟨d, g, op⟩ := o
    cases op
    case hcall f args => exact call h
    case callv x args =>
      simp only at h
      show cvW P (s.ev x) (args.map s.ev) d K Q s
      unfold cvW
      cases hx : s.ev x <;> rw [hx] at h <;> (try (cases h; done))
      rename_i fn xs ys
      cases fn <;> (try (cases h; done))
      exact call h
    case invk ms x args =>
      simp only at h
      show ivW P ms (s.ev x) (args.map s.ev) d K Q s
      unfold ivW
      cases hx : ivF ms (s.ev x) (args.map s.ev) with
      | none => rw [hx] at h; cases h
      | some r =>
        rw [hx] at h
        exact call h
    case panic x =>
      simp only at h
      show pnW (s.ev x) Q s
      unfold pnW
      cases hx : s.ev x <;> rw [hx] at h <;> (try (cases h; done))
      simp only [Option.some.injEq, Prod.mk.injEq] at h
      obtain ⟨rfl, rfl⟩ := h
      exact hQ (by simp)
    all_goals exact gen rfl h
theorem evOps_sound {P : Program} {C : PCtx} {F : FEv} (hF : FSound P F) : ∀ {ops : List AI} {s : AS} {e : AEx} {s' : AS}, evOps C F ops s = some (e, s') → ∀ Q : AEx → AS → Prop, Q e s' → runW P C ops Q s
  | [], s, e, s', h, Q, hq => by
    simp only [evOps, Option.some.injEq, Prod.mk.injEq] at h
    obtain ⟨rfl, rfl⟩ := h
    exact hq
  | o :: os, s, e, s', h, Q, hq => by
    simp only [evOps] at h
    cases hi : evI C F o s with
    | none => rw [hi] at h; cases h
    | some r =>
      obtain ⟨e1, s1⟩ := r
      rw [hi] at h
      refine evI_sound hF hi _ _ (fun he => ?_) (fun he => ?_)
      · subst he
        exact evOps_sound hF h Q hq
      · cases e1 <;> simp only [Option.some.injEq, Prod.mk.injEq] at h <;> first | exact absurd rfl he | (obtain ⟨rfl, rfl⟩ := h; exact hq)
theorem evC_sound {P : Program} {C : PCtx} {F : FEv} (hF : FSound P F) {L : Nat} : ∀ (ac : ACode) {s : AS} {e : AEx} {s' : AS}, evC C F L ac s = some (e, s') → ∀ Q : AEx → AS → Prop, Q e s' → awp P C ac Q s := by
  intro ac
  induction ac with
  | skip =>
    intro s e s' h Q hq
    simp only [evC, Option.some.injEq, Prod.mk.injEq] at h
    obtain ⟨rfl, rfl⟩ := h
    exact hq
  | reg ops => intro s e s' h Q hq; exact evOps_sound hF h Q hq
  | regd ops =>
    intro s e s' h Q hq
    simp only [evC] at h
    cases ho : evOps C F ops s with
    | none => rw [ho] at h; cases h
    | some r =>
      obtain ⟨e1, s1⟩ := r
      rw [ho] at h
      cases e1 <;> simp only [Option.some.injEq, Prod.mk.injEq] at h <;> first | (cases h; done) | (obtain ⟨rfl, rfl⟩ := h; exact evOps_sound hF ho _ hq)
  | regl ops => intro s e s' h Q hq; exact evOps_sound hF h Q hq
  | rega ds ops => intro s e s' h Q hq; cases h
  | seq a b iha ihb =>
    intro s e s' h Q hq
    simp only [evC] at h
    cases ha : evC C F L a s with
    | none => rw [ha] at h; cases h
    | some r =>
      obtain ⟨e1, s1⟩ := r
      rw [ha] at h
      refine iha ha _ ?_
      cases e1 <;> simp only [Option.some.injEq, Prod.mk.injEq] at h <;> first | exact ihb h Q hq | (obtain ⟨rfl, rfl⟩ := h; exact hq)
  | cond c a b iha ihb =>
    intro s e s' h Q hq
    simp only [evC] at h
    simp only [awp, condV, condP]
    cases hx : s.ev c <;> rw [hx] at h <;> (try (cases h; done))
    rename_i v
    cases v
    · simpa using ihb h Q hq
    · simpa using iha h Q hq
  | block id b ih =>
    intro s e s' h Q hq
    simp only [evC] at h
    cases hb : evC C F L b s with
    | none => rw [hb] at h; cases h
    | some r =>
      obtain ⟨e1, s1⟩ := r
      rw [hb] at h
      refine ih hb _ ?_
      cases e1
      case exit j =>
        simp only at h
        simp only [blkQ]
        split at h <;> (simp only [Option.some.injEq, Prod.mk.injEq] at h; obtain ⟨rfl, rfl⟩ := h)
        · rename_i hj; rw [if_pos hj]; exact hq
        · rename_i hj; rw [if_neg hj]; exact hq
      all_goals (simp only [Option.some.injEq, Prod.mk.injEq] at h; obtain ⟨rfl, rfl⟩ := h; exact hq)
  | loop b ih =>
    intro s e s' h Q hq
    simp only [evC] at h
    have key : ∀ n (s : AS), evLoop (evC C F L b) n s = some (e, s') → loopW (awp P C b) n Q s := by
      intro n
      induction n with
      | zero => intro s h; cases h
      | succ n ihn =>
        intro s h
        simp only [evLoop] at h
        cases hb : evC C F L b s with
        | none => rw [hb] at h; cases h
        | some r =>
          obtain ⟨e1, s1⟩ := r
          rw [hb] at h
          refine ih hb _ ?_
          cases e1 <;> simp only [Option.some.injEq, Prod.mk.injEq] at h <;> first | exact ihn _ h | (obtain ⟨rfl, rfl⟩ := h; exact hq)
    exact ⟨L, key L s h⟩
  | scope b ih =>
    intro s e s' h Q hq
    simp only [evC] at h
    cases hb : evC C F L b s with
    | none => rw [hb] at h; cases h
    | some r =>
      obtain ⟨e1, s1⟩ := r
      rw [hb] at h
      refine ih hb _ ?_
      cases e1 <;> simp only [Option.some.injEq, Prod.mk.injEq] at h <;> first | (cases h; done) | (obtain ⟨rfl, rfl⟩ := h; exact hq)
  | exit id =>
    intro s e s' h Q hq
    simp only [evC, Option.some.injEq, Prod.mk.injEq] at h
    obtain ⟨rfl, rfl⟩ := h
    exact hq
  | label l =>
    intro s e s' h Q hq
    simp only [evC, Option.some.injEq, Prod.mk.injEq] at h
    obtain ⟨rfl, rfl⟩ := h
    exact hq
  | goto l =>
    intro s e s' h Q hq
    simp only [evC, Option.some.injEq, Prod.mk.injEq] at h
    obtain ⟨rfl, rfl⟩ := h
    exact hq
  | jump b l1 r1 l2 r2 => intro s e s' h; cases h
  | ret =>
    intro s e s' h Q hq
    simp only [evC, Option.some.injEq, Prod.mk.injEq] at h
    obtain ⟨rfl, rfl⟩ := h
    exact hq

theorem RepL.share {c : CM} {vs : List Value} {xs : List AV} (h : RepL c vs xs) : RepL c vs (shareL xs) := by
  induction xs generalizing vs with
  | nil => exact h
  | cons x xs ih =>
    obtain ⟨v, vs, rfl, hv, hvs⟩ := h.cons_inv
    exact .cons hv.share (ih hvs)
theorem RepL.plain_mono {c c' : CM} (hi : ∀ b o v, c.cl b o = .imm v → c'.cl b o = .imm v) {vs : List Value} {xs : List AV} (h : RepL c vs xs) (hp : plainL xs = true) : RepL c' vs xs :=
  ⟨h.1, fun j v y a b => (h.2 j v y a b).plain_mono hi (plainL_get hp b)⟩
/-- a call in memory of its own: a call alone -/
theorem PCall.of0 {P : Program} {f : FuncId} {args : List AV} {r : AV} (hp : r.plain = true) (ha : plainL (shareL args) = true) (h : FCall P f (shareL args) hs00 fun e _ => e = .ret r) : PCall P f args r := by
  refine ⟨hp, fun hs hb => ⟨h.ok, fun c w vs hi hv => ?_⟩⟩
  let cp : CM := { cl := fun b o => match c.cl b o with | .imm v => .imm v | _ => .no, loc := fun _ => (0, 0), nh := 0, nt := 0, val := fun _ => false }
  have hcl : ∀ b o v, cp.cl b o = .imm v ↔ c.cl b o = .imm v := by
    intro b o v
    simp only [cp]
    split <;> simp_all
  have hnw : ∀ b o, (cp.cl b o).writable = false := by
    intro b o
    simp only [cp]
    split <;> rfl
  have hip : Inv cp hs00 w := by
    refine ⟨rfl, rfl, fun _ => rfl, fun k hk => by simp [cp] at hk, fun b o v e => hi.imm b o v ((hcl b o v).1 e), fun b o k e => ?_, fun i ys e => by simp [hs00] at e, fun b o hb => ?_, fun i ps e => by simp [hs00] at e, hi.glob.to fun b o v e => (hcl b o v).2 e⟩
    · simp only [cp] at e
      split at e <;> cases e
    · simp only [cp, hi.dom b o hb]
  have hvp : RepL cp vs (shareL args) := hv.share.plain_mono (fun b o v e => (hcl b o v).2 e) ha
  refine (h.run cp w vs hip hvp).mono ?_
  rintro e w' ⟨ae, hs', c', rfl, he, hi', hf⟩
  cases e with
  | returned v =>
    have he : Rep c' v r := he
    let c'' : CM := { c with cl := fun b o => if b < w.heap.size then c.cl b o else match c'.cl b o with | .imm v => .imm v | _ => .no }
    have himm : ∀ b o v, c'.cl b o = .imm v → c''.cl b o = .imm v := by
      intro b o v e
      simp only [c'']
      split
      · rename_i hb
        cases hc : cp.cl b o with
        | no => rw [hf.no b o hb hc] at e; cases e
        | imm u =>
          have := hf.le.imm b o u hc
          rw [this] at e
          injection e with e
          subst e
          exact (hcl b o u).1 hc
        | blk i j => have := hnw b o; rw [hc] at this; cases this
        | tok k => have := hnw b o; rw [hc] at this; cases this
      · rw [e]
    have hlt : ∀ b o, c.cl b o ≠ .no → b < w.heap.size := fun b o hn => hi.lt hn
    have hcold : ∀ b o, b < w.heap.size → c''.cl b o = c.cl b o := fun b o hb => by simp only [c'', hb, if_true]
    have hle : c.le c'' := by
      refine ⟨fun b o v e => ?_, Nat.le_refl _, fun _ _ => rfl, Nat.le_refl _, fun _ _ e => e, fun b o k _ e _ => ?_⟩
      · rw [hcold b o (hlt b o (by rw [e]; simp))]; exact e
      · rw [hcold b o (hlt b o (by rw [e]; simp))]; exact e
    have hcell : ∀ b o v, w.cell? ⟨b, o, none⟩ = some v → w'.cell? ⟨b, o, none⟩ = some v := fun b o v e => hf.cell (hnw b o) e
    have hmap : ∀ (b : Nat) es k, w.heap[b]? = some (.map es k) → w'.heap[b]? = some (.map es k) := fun b es k e => by
      have hb : b < w.heap.size := by
        rcases Nat.lt_or_ge b w.heap.size with h' | h'
        · exact h'
        · rw [Array.getElem?_eq_none h'] at e; cases e
      have := hf.blk b hb
      rw [e] at this
      simp only [FrB] at this
      obtain ⟨es', k', e1, e2⟩ := this
      obtain ⟨rfl, rfl⟩ := e2 (hnw b 0)
      exact e1
    refine ⟨.ret r, hs, c'', rfl, Rep.plain_mono himm he hp, ⟨hi.nh, hi.nt, hi.tokv, hi.vlt, ?_, ?_, ?_, ?_, hi.mapsTo hle (fun _ _ h => h) (fun b i e _ => by rw [hcold b 0 (hlt b 0 (by rw [e]; simp))]; exact e) hmap, hi.glob.mono hle⟩, ⟨hle, hf.os, hf.out, hf.size, ?_, fun b o hb e => by rw [hcold b o hb]; exact e, hf.frz⟩⟩
    · intro b o u e
      by_cases hb : b < w.heap.size
      · rw [hcold b o hb] at e
        exact hcell _ _ _ (hi.imm b o u e)
      · simp only [c'', hb, if_false] at e
        split at e
        · rename_i u' hu
          injection e with e; subst e
          exact hi'.imm b o u' hu
        · cases e
    · intro b o k e
      have hb : b < w.heap.size := by
        rcases Nat.lt_or_ge b w.heap.size with hb | hb
        · exact hb
        · simp only [c'', Nat.not_lt.2 hb, if_false] at e
          split at e <;> cases e
      rw [hcold b o hb] at e
      obtain ⟨⟨u, hu⟩, hz⟩ := hi.toks b o k e
      exact ⟨⟨u, hcell _ _ _ hu⟩, by rw [hf.frz _ (World.block_lt_of_cell? w _ hu)]; exact hz⟩
    · intro i ys e
      rw [hb.1 i] at e; cases e
    · intro b o hb
      simp only [c'', Nat.not_lt.2 (Nat.le_trans hf.size hb), if_false]
      rw [hi'.dom b o hb]
    · intro b hb
      have := hf.blk b hb
      generalize w.heap[b]? = x at this ⊢
      cases x with
      | none => exact this
      | some x =>
        cases x with
        | cells cs e fr =>
          simp only [FrB] at this ⊢
          obtain ⟨cs', h1, h2, h3⟩ := this
          exact ⟨cs', h1, h2, fun o _ => h3 o (hnw b o)⟩
        | map es k =>
          simp only [FrB] at this ⊢
          obtain ⟨es', k', h1, h2⟩ := this
          exact ⟨es', k', h1, fun _ => h2 (hnw b 0)⟩
        | _ => exact this
  | panicked chain => exact he.elim
  | outgrown => exact he.elim
def TOk (P : Program) (T : FuncId → Option Entry) : Prop := ∀ f x, T f = some x → match x with
  | .code ac rs k => ∃ muts pu, FnOk P f muts pu ac rs k
  | .spec S => ∀ a r, S a = some r → PCall P f a r
theorem evF_sound {P : Program} {T : FuncId → Option Entry} (hT : TOk P T) {L : Nat} : ∀ n, FSound P (evF T L n)
  | 0 => fun f args hs e hs' h => by cases h
  | n + 1 => fun f args hs e hs' h => by
    have ih := evF_sound hT (L := L) n
    simp only [evF] at h
    cases ht : T f with
    | none => rw [ht] at h; cases h
    | some x =>
      rw [ht] at h
      have htk := hT f x ht
      cases x with
      | spec S =>
        simp only at h htk
        cases hs1 : S args with
        | none => rw [hs1] at h; cases h
        | some r =>
          rw [hs1] at h
          simp only [Option.some.injEq, Prod.mk.injEq] at h
          obtain ⟨rfl, rfl⟩ := h
          have hp := htk args r hs1
          refine ⟨(hp.run hs00 ⟨fun _ => rfl, fun _ => rfl⟩).ok, fun c w vs hi hv => (hp.sound hi hv).mono ?_⟩
          rintro e w' ⟨v, c', rfl, h1, h2, h3⟩
          exact ⟨.ret r, hs, c', ⟨rfl, rfl⟩, h1, h2, h3⟩
      | code ac rs k =>
        obtain ⟨muts, pu, hf⟩ := htk
        simp only at h
        split at h <;> (try (cases h; done))
        rename_i hk
        have hC : CtxOk P (evP (evF T L n)) := by
          intro g a r hr
          unfold evP at hr
          split at hr <;> (try (cases hr; done))
          rename_i hpl
          split at hr <;> (try (cases hr; done))
          rename_i y hy2 hy
          split at hr <;> (try (cases hr; done))
          rename_i hpy
          injection hr with hr; subst hr
          refine PCall.of0 hpy hpl ?_
          exact FCall.share ((ih _ _ _ _ _ hy).mono fun e h ⟨h1, _⟩ => ⟨y, h1, rfl⟩)
        refine FCall.of_body hC hf hk ?_
        cases hc : evC (evP (evF T L n)) (evF T L n) L ac ⟨argEnv args, hs⟩ with
        | none => rw [hc] at h; cases h
        | some r =>
          obtain ⟨e1, s1⟩ := r
          rw [hc] at h
          refine evC_sound ih ac hc _ ?_
          cases e1 <;> simp only [evEnd] at h <;> (try (cases h; done))
          · obtain ⟨x, hx, he⟩ := Option.map_eq_some_iff.1 h
            simp only [Prod.mk.injEq] at he
            obtain ⟨rfl, rfl⟩ := he
            simp only [finQ, hx, optK, and_self]
          · obtain ⟨x, hx, he⟩ := Option.map_eq_some_iff.1 h
            simp only [Prod.mk.injEq] at he
            obtain ⟨rfl, rfl⟩ := he
            simp only [finQ, hx, optK, and_self]
          · simp only [Option.some.injEq, Prod.mk.injEq] at h
            obtain ⟨rfl, rfl⟩ := h
            simp only [finQ, and_self]
/-- that a closed call returns a value: evaluated -/
def evIs (T : FuncId → Option Entry) (L n : Nat) (f : FuncId) (args : List AV) (ok : AV → Bool) : Bool :=
  match evP (evF T L n) f args with
  | some r => ok r
  | none => false
theorem evIs_sound {P : Program} {T : FuncId → Option Entry} (hT : TOk P T) {L n : Nat} {f : FuncId} {args : List AV} {ok : AV → Bool} (h : evIs T L n f args ok = true) : ∃ r, ok r = true ∧ PCall P f args r := by
  unfold evIs at h
  cases hr : evP (evF T L n) f args with
  | none => rw [hr] at h; cases h
  | some r =>
    rw [hr] at h
    refine ⟨r, h, ?_⟩
    unfold evP at hr
    split at hr <;> (try (cases hr; done))
    rename_i hpl
    split at hr <;> (try (cases hr; done))
    rename_i y hy2 hy
    split at hr <;> (try (cases hr; done))
    rename_i hpy
    injection hr with hr; subst hr
    refine PCall.of0 hpy hpl ?_
    exact FCall.share ((evF_sound hT n _ _ _ _ _ hy).mono fun e h ⟨h1, _⟩ => ⟨y, h1, rfl⟩)
end Fw
