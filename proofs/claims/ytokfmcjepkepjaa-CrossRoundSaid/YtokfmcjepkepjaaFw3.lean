/-
  How the abstract weakest precondition is stepped: equations for simp; lists of integers; integers of 64 bits; contexts of contracts. Own work; over any program.
  Stepping with a mark: the equations of FwS, at the mark's place alone, so that what is not reached yet stays as it is; specs of functions; lists of integers. Own work; over any program.
  Results with owned slices: read as shared ones from outside. Own work; over any program.
  Lists as values: taken, dropped, clipped, appended. Own work; over any program.
  From a contract to the whole program's world: nothing of the caller's memory may be written, so all of it is as it was. Own work; over any program.
  Arguments of whatever plain type (integers, bools, strings, slices of these, structs, arrays), read by value: one law for all of them. Own work; over any program.
  From a contract of a law to its row: whatever its arguments are. Own work, after the template that the seat lays; over any program.
-/
import Derived.Test.YtokfmcjepkepjaaFw2
import Derived.RowKit3
import Derived.Deep.Slices
import Derived.OpenShut
import Derived.ProofKit
set_option linter.unusedVariables false
set_option linter.unusedSimpArgs false
namespace Fw
open Go

attribute [congr] Option.map_congr
theorem condP_congr {b b' : Bool} {p q : Prop} (h : b = b') : condP b p q = condP b' p q := by rw [h]
theorem condV_congr {b b' : AV} {p q : Prop} (h : b = b') : condV b p q = condV b' p q := by rw [h]
theorem optK_congr {α : Type} {b b' : Option α} {K : α → Prop} (h : b = b') : optK b K = optK b' K := by rw [h]
attribute [congr] condP_congr condV_congr optK_congr

section
variable {P : Program} {C : PCtx} {d : Option Nat} {K : AS → Prop} {Q : AEx → AS → Prop} {s : AS}
theorem condP_true {p q : Prop} : condP true p q = p := by simp [condP]
theorem condP_false {p q : Prop} : condP false p q = q := by simp [condP]
theorem condV_bool {b : Bool} {p q : Prop} : condV (.bool b) p q = condP b p q := id rfl
theorem condP_split {b : Bool} {p q : Prop} (h1 : b = true → p) (h2 : b = false → q) : condP b p q := by cases b <;> simp_all [condP]
theorem condP_dec {c : Prop} [Decidable c] {p q : Prop} (h1 : c → p) (h2 : ¬ c → q) : condP (decide c) p q := by by_cases h : c <;> simp_all [condP]
theorem optK_some {α : Type} {a : α} {K : α → Prop} : optK (some a) K = K a := id rfl
theorem aiW_n {op : AOp} : aiW P C ⟨d, none, op⟩ K Q s = opW P C d op K Q s := by simp [aiW, AS.want, condP]
theorem aiW_s {t : Nat} {b : Bool} {op : AOp} : aiW P C ⟨d, some (t, b), op⟩ K Q s = condP (wantB (s.env t) b) (opW P C d op K Q s) (K (s.put d .undef)) := id rfl
theorem wantB_t {b : Bool} : wantB (.bool b) true = b := by cases b <;> rfl
theorem wantB_f {b : Bool} : wantB (.bool b) false = !b := by cases b <;> rfl
theorem runW_nil : runW P C [] Q s = Q .normal s := id rfl
theorem runW_cons {o : AI} {os : List AI} : runW P C (o :: os) Q s = aiW P C o (runW P C os Q) Q s := id rfl
theorem ev_t {n : Nat} : s.ev (.t n) = s.env n := id rfl
theorem ev_c {x : AV} : s.ev (.c x) = x := id rfl
theorem env_put {n i : Nat} {x : AV} : (s.put (some n) x).env i = if i = n then x else s.env i := id rfl
theorem hs_put {x : AV} : (s.put d x).hs = s.hs := put_hs s d x
theorem hs_mk {env : Nat → AV} {hs : HS} : (⟨env, hs⟩ : AS).hs = hs := id rfl
theorem env_mk {env : Nat → AV} {hs : HS} : (⟨env, hs⟩ : AS).env = env := id rfl
theorem env_none {x : AV} : (s.put none x).env = s.env := id rfl
theorem argEnv_0 {x : AV} {xs : List AV} : argEnv (x :: xs) 0 = x := id rfl
theorem argEnv_s {x : AV} {xs : List AV} {i : Nat} : argEnv (x :: xs) (i + 1) = argEnv xs i := id rfl
theorem argEnv_nil {i : Nat} : argEnv [] i = .undef := id rfl

theorem opW_mv {x : AOpd} : opW P C d (.mv x) K Q s = K (s.put d (s.ev x)) := id rfl
theorem opW_pick {x y z : AOpd} : opW P C d (.pick x y z) K Q s = optK (apick (s.ev x) (s.ev y) (s.ev z)) fun r => K (s.put d r) := by simp only [opW, evalOp]; cases apick (s.ev x) (s.ev y) (s.ev z) <;> rfl
theorem opW_bin {kd : Nat} {op : BinOp} {x y : AOpd} : opW P C d (.bin kd op x y) K Q s = optK (abin kd op (s.ev x) (s.ev y)) fun r => K (s.put d r) := by simp only [opW, evalOp]; cases abin kd op (s.ev x) (s.ev y) <;> rfl
theorem opW_un {op : UnOp} {x : AOpd} : opW P C d (.un op x) K Q s = optK (aun op (s.ev x)) fun r => K (s.put d r) := by simp only [opW, evalOp]; cases aun op (s.ev x) <;> rfl
theorem opW_conv {k : IntKind} {x : AOpd} : opW P C d (.conv k x) K Q s = optK (aconv k (s.ev x)) fun r => K (s.put d r) := by simp only [opW, evalOp]; cases aconv k (s.ev x) <;> rfl
theorem opW_alloc {zs : List AV} : opW P C d (.alloc zs) K Q s = K ((⟨s.env, { s.hs with heap := fun i => if i = s.hs.nh then some zs else s.hs.heap i, nh := s.hs.nh + 1 }⟩ : AS).put d (.ref s.hs.nh 0)) := id rfl
theorem opW_make {ag : Bool} {sz : Nat} {zs : List AV} {x y : AOpd} : opW P C d (.make ag sz zs x y) K Q s = optK (amake ag sz zs s.hs (s.ev x) (s.ev y)) fun r => K ((⟨s.env, r.2⟩ : AS).put d r.1) := id rfl
theorem opW_lcall {f : FuncId} {args : List AOpd} : opW P C d (.lcall f args) K Q s = optK (alcall C f s.hs (args.map s.ev)) fun r => K (s.put d r) := by simp only [opW, evalOp]; cases alcall C f s.hs (args.map s.ev) <;> rfl
theorem opW_cap {x : AOpd} : opW P C d (.cap x) K Q s = optK (acap (s.ev x)) fun r => K (s.put d r) := by simp only [opW, evalOp]; cases acap (s.ev x) <;> rfl
theorem opW_appz {sz : Nat} {x y : AOpd} : opW P C d (.appz sz x y) K Q s = optK (aappz sz s.hs (s.ev x) (s.ev y)) fun r => K ((⟨s.env, r.2⟩ : AS).put d r.1) := id rfl
theorem opW_boxi {x : AOpd} : opW P C d (.boxi x) K Q s = condP (s.ev x).sto (K (s.put d (.ptr (s.ev x)))) False := by simp only [opW, evalOp, condP]; split <;> rfl
theorem opW_boxm {x : AOpd} : opW P C d (.boxm x) K Q s = condP (s.ev x).sto (K ((⟨s.env, { s.hs with heap := fun i => if i = s.hs.nh then some (s.ev x).cells else s.hs.heap i, nh := s.hs.nh + 1 }⟩ : AS).put d (.ref s.hs.nh 0))) False := by simp only [opW, evalOp, condP]; split <;> rfl
theorem opW_build {zs : List AV} {ps : List (Nat × Nat × AOpd)} : opW P C d (.build zs ps) K Q s = optK (afill zs (ps.map fun p => (p.1, p.2.1, s.ev p.2.2))) fun r => K (s.put d (.agg r)) := by simp only [opW, evalOp]; cases afill zs (ps.map fun p => (p.1, p.2.1, s.ev p.2.2)) <;> rfl
theorem opW_buildSl {sz : Nat} {xs : List AOpd} : opW P C d (.buildSl sz xs) K Q s = condP (astoAll sz (xs.map s.ev)) (K (s.put d (.sl sz (xs.map s.ev) .exact))) False := by simp only [opW, evalOp, condP]; split <;> rfl
theorem opW_load {ag : Bool} {sz : Nat} {x : AOpd} : opW P C d (.load ag sz x) K Q s = optK (aload s.hs.heap ag sz (s.ev x)) fun r => K (s.put d r) := by simp only [opW, evalOp]; cases aload s.hs.heap ag sz (s.ev x) <;> rfl
theorem opW_store {sz : Nat} {x y : AOpd} : opW P C d (.store sz x y) K Q s = optK (astore s.hs.heap sz (s.ev x) (s.ev y)) fun r => K ((⟨s.env, { s.hs with heap := r }⟩ : AS).put d .undef) := by simp only [opW, evalOp]; cases astore s.hs.heap sz (s.ev x) (s.ev y) <;> rfl
theorem opW_faddr {ag : Bool} {sz off : Nat} {x : AOpd} : opW P C d (.faddr ag sz off x) K Q s = optK (afaddr ag sz off (s.ev x)) fun r => K (s.put d r) := by simp only [opW, evalOp]; cases afaddr ag sz off (s.ev x) <;> rfl
theorem opW_field {ag : Bool} {sz off : Nat} {x : AOpd} : opW P C d (.field ag sz off x) K Q s = optK (afield ag sz off (s.ev x)) fun r => K (s.put d r) := by simp only [opW, evalOp]; cases afield ag sz off (s.ev x) <;> rfl
theorem opW_iaddrS {sz : Nat} {x y : AOpd} : opW P C d (.iaddrS sz x y) K Q s = optK (aidxS sz (s.ev x) (s.ev y)) fun r => K (s.put d r) := by simp only [opW, evalOp]; cases aidxS sz (s.ev x) (s.ev y) <;> rfl
theorem opW_iaddrA {len : Nat} {ag : Bool} {sz : Nat} {x y : AOpd} : opW P C d (.iaddrA len ag sz x y) K Q s = optK (aidxA len ag sz (s.ev x) (s.ev y)) fun r => K (s.put d r) := by simp only [opW, evalOp]; cases aidxA len ag sz (s.ev x) (s.ev y) <;> rfl
theorem opW_index {len : Nat} {ag : Bool} {sz : Nat} {x y : AOpd} : opW P C d (.index len ag sz x y) K Q s = optK (aindex len ag sz (s.ev x) (s.ev y)) fun r => K (s.put d r) := by simp only [opW, evalOp]; cases aindex len ag sz (s.ev x) (s.ev y) <;> rfl
theorem opW_slice {sz : Nat} {x : AOpd} {lo hi mx : Option AOpd} : opW P C d (.slice sz x lo hi mx) K Q s = optK (aslice sz (s.ev x) (lo.map s.ev) (hi.map s.ev) (mx.map s.ev)) fun r => K (s.put d r) := by simp only [opW, evalOp]; cases aslice sz (s.ev x) (lo.map s.ev) (hi.map s.ev) (mx.map s.ev) <;> rfl
theorem opW_extract {x : AOpd} {n : Nat} : opW P C d (.extract x n) K Q s = optK (aextract (s.ev x) n) fun r => K (s.put d r) := by simp only [opW, evalOp]; cases aextract (s.ev x) n <;> rfl
theorem opW_mkfn {f : Fn} {xs ys : List AOpd} : opW P C d (.mkfn f xs ys) K Q s = K (s.put d (.fn f (xs.map s.ev) (ys.map s.ev))) := id rfl
theorem opW_len {st : Bool} {x : AOpd} : opW P C d (.len st x) K Q s = optK (alenK st (s.ev x)) fun r => K (s.put d r) := by simp only [opW, evalOp]; cases alenK st (s.ev x) <;> rfl
theorem opW_appm {sz : Nat} {x y : AOpd} : opW P C d (.appm sz x y) K Q s = optK (aappm sz s.hs (s.ev x) (s.ev y)) fun r => K ((⟨s.env, r.2⟩ : AS).put d r.1) := id rfl
theorem opW_append {sz : Nat} {x y : AOpd} : opW P C d (.append sz x y) K Q s = optK (aappend sz s.hs (s.ev x) (s.ev y)) fun r => K ((⟨s.env, r.2⟩ : AS).put d r.1) := id rfl
theorem opW_min {x y : AOpd} : opW P C d (.min x y) K Q s = optK (amin (s.ev x) (s.ev y)) fun r => K (s.put d r) := by simp only [opW, evalOp]; cases amin (s.ev x) (s.ev y) <;> rfl
theorem opW_max {x y : AOpd} : opW P C d (.max x y) K Q s = optK (amax (s.ev x) (s.ev y)) fun r => K (s.put d r) := by simp only [opW, evalOp]; cases amax (s.ev x) (s.ev y) <;> rfl
theorem opW_mkif {t : TypeId} {x : AOpd} : opW P C d (.mkif t x) K Q s = K (s.put d (.iface t (s.ev x))) := id rfl
theorem opW_nilchk {x : AOpd} : opW P C d (.nilchk x) K Q s = optK (anilchk (s.ev x)) fun r => K (s.put d r) := by simp only [opW, evalOp]; cases anilchk (s.ev x) <;> rfl
theorem opW_pcall {f : FuncId} {args : List AOpd} : opW P C d (.pcall f args) K Q s = optK (C f (args.map s.ev)) fun r => K (s.put d r) := by simp only [opW, evalOp]; cases C f (args.map s.ev) <;> rfl
theorem opW_hcall {f : FuncId} {args : List AOpd} : opW P C d (.hcall f args) K Q s = hcW P f (args.map s.ev) d K Q s := id rfl
theorem opW_callv {x : AOpd} {args : List AOpd} : opW P C d (.callv x args) K Q s = cvW P (s.ev x) (args.map s.ev) d K Q s := id rfl
theorem opW_panic {x : AOpd} : opW P C d (.panic x) K Q s = pnW (s.ev x) Q s := id rfl

theorem awp_skip : awp P C .skip Q s = Q .normal s := id rfl
theorem awp_reg {ops : List AI} : awp P C (.reg ops) Q s = runW P C ops Q s := id rfl
theorem awp_regd {ops : List AI} : awp P C (.regd ops) Q s = runW P C ops (noPQ Q) s := id rfl
theorem awp_seq {a b : ACode} : awp P C (.seq a b) Q s = awp P C a (thenQ (awp P C b Q) Q) s := id rfl
theorem awp_regl {ops : List AI} : awp P C (.regl ops) Q s = runW P C ops Q s := id rfl
theorem awp_rega {ds : List (List Nat)} {ops : List AI} : awp P C (.rega ds ops) Q s = anyW P C ds ops ops.length [] Q s := id rfl
theorem awp_cond {c : AOpd} {a b : ACode} : awp P C (.cond c a b) Q s = condV (s.ev c) (awp P C a Q s) (awp P C b Q s) := id rfl
theorem awp_block {id : Nat} {b : ACode} : awp P C (.block id b) Q s = awp P C b (blkQ id Q) s := rfl
theorem awp_scope {b : ACode} : awp P C (.scope b) Q s = awp P C b (noGQ Q) s := id rfl
theorem awp_exit {id : Nat} : awp P C (.exit id) Q s = Q (.exit id) s := rfl
theorem awp_label {l : Nat} : awp P C (.label l) Q s = Q .normal s := id rfl
theorem awp_goto {l : Nat} : awp P C (.goto l) Q s = Q (.goto l) s := id rfl
theorem awp_ret : awp P C .ret Q s = Q .ret s := id rfl
theorem thenQ_n : thenQ K Q .normal s = K s := id rfl
theorem thenQ_e {i : Nat} : thenQ K Q (.exit i) s = Q (.exit i) s := id rfl
theorem thenQ_r : thenQ K Q .ret s = Q .ret s := id rfl
theorem thenQ_p {x : AV} : thenQ K Q (.panic x) s = Q (.panic x) s := id rfl
theorem blkQ_n {i : Nat} : blkQ i Q .normal s = Q .normal s := id rfl
theorem blkQ_e {i j : Nat} : blkQ i Q (.exit j) s = if j = i then Q .normal s else Q (.exit j) s := id rfl
theorem blkQ_r {i : Nat} : blkQ i Q .ret s = Q .ret s := id rfl
theorem blkQ_p {i : Nat} {x : AV} : blkQ i Q (.panic x) s = Q (.panic x) s := id rfl
theorem noPQ_n : noPQ Q .normal s = Q .normal s := id rfl
theorem noGQ_n : noGQ Q .normal s = Q .normal s := id rfl
theorem noGQ_e {i : Nat} : noGQ Q (.exit i) s = Q (.exit i) s := id rfl
theorem noGQ_r : noGQ Q .ret s = Q .ret s := id rfl
theorem noGQ_p {x : AV} : noGQ Q (.panic x) s = Q (.panic x) s := id rfl
theorem finQ_n {rs : List ARes} {R : AEnd → HS → Prop} : finQ rs R .normal s = optK (aResult s rs) fun x => R (.ret x) s.hs := id rfl
theorem finQ_r {rs : List ARes} {R : AEnd → HS → Prop} : finQ rs R .ret s = optK (aResult s rs) fun x => R (.ret x) s.hs := id rfl
theorem finQ_p {rs : List ARes} {R : AEnd → HS → Prop} {x : AV} : finQ rs R (.panic x) s = R (.panic x) s.hs := id rfl
end

/-! a loop -/
theorem awp_mono {P : Program} {C : PCtx} : ∀ (ac : ACode) {Q Q' : AEx → AS → Prop}, (∀ e s, Q e s → Q' e s) → ∀ s, awp P C ac Q s → awp P C ac Q' s := by
  have hcm : ∀ {f : FuncId} {args : List AV} {d : Option Nat} {K K' : AS → Prop} {Q Q' : AEx → AS → Prop}, (∀ s, K s → K' s) → (∀ e s, Q e s → Q' e s) → ∀ s, hcW P f args d K Q s → hcW P f args d K' Q' s := by
    intro f args d K K' Q Q' hk hq s h
    unfold hcW at h ⊢
    exact h.mono fun e hs' he => by cases e <;> first | exact hk _ he | exact hq _ _ he
  have aim : ∀ {o : AI} {K K' : AS → Prop} {Q Q' : AEx → AS → Prop}, (∀ s, K s → K' s) → (∀ e s, Q e s → Q' e s) → ∀ s, aiW P C o K Q s → aiW P C o K' Q' s := by
    intro o K K' Q Q' hk hq s h
    unfold aiW condP at h ⊢
    split at h
    · rename_i hw
      rw [if_pos hw]
      by_cases hsp : special o.op = true
      · obtain ⟨jd, jg, jop⟩ := o
        cases jop <;> simp only [special] at hsp <;> (try (cases hsp; done))
        case hcall f args => exact hcm hk hq _ h
        case callv x args =>
          simp only [opW] at h ⊢
          unfold cvW at h ⊢
          split at h <;> (try (exact h.elim))
          exact hcm hk hq _ h
        case panic x =>
          simp only [opW] at h ⊢
          unfold pnW at h ⊢
          split at h
          · exact hq _ _ h
          · exact h.elim
      · have hsp' : special o.op = false := by simpa using hsp
        rw [opW_det hsp'] at h ⊢
        cases he : evalOp C s o.op with
        | none => rw [he] at h; exact h.elim
        | some r => rw [he] at h; exact hk _ h
    · rename_i hw
      rw [if_neg hw]
      exact hk _ h
  have runm : ∀ (ops : List AI) {Q Q' : AEx → AS → Prop}, (∀ e s, Q e s → Q' e s) → ∀ s, runW P C ops Q s → runW P C ops Q' s := by
    intro ops
    induction ops with
    | nil => intro Q Q' hq s h; exact hq _ _ h
    | cons o ops ih => intro Q Q' hq s h; exact aim (fun s h => ih hq s h) hq s h
  have alm : ∀ {l : List Nat} {f g : Nat → Prop}, (∀ i, f i → g i) → allW l f → allW l g := by
    intro l f g h
    induction l with
    | nil => exact fun _ => trivial
    | cons i l ih => exact fun h' => ⟨h i h'.1, ih h'.2⟩
  have anm : ∀ (ds : List (List Nat)) (xs : List AI) (m : Nat) (done : List Nat) {Q Q' : AEx → AS → Prop}, (∀ e s, Q e s → Q' e s) → ∀ s, anyW P C ds xs m done Q s → anyW P C ds xs m done Q' s := by
    intro ds xs m
    induction m with
    | zero => intro done Q Q' hq s h; exact ⟨h.1, hq _ _ h.2⟩
    | succ m ih =>
      intro done Q Q' hq s h
      refine ⟨fun e => hq _ _ (h.1 e), alm (fun i hi => ?_) h.2⟩
      cases hx : xs[i]? with
      | none => rw [hx] at hi; exact hi
      | some x => rw [hx] at hi; exact aim (fun s h => ih _ hq s h) hq s hi
  intro ac
  induction ac with
  | skip => intro Q Q' hq s h; exact hq _ _ h
  | rega ds ops => intro Q Q' hq s h; exact anm ds ops ops.length [] hq s h
  | reg ops => intro Q Q' hq s h; exact runm ops hq s h
  | regd ops => intro Q Q' hq s h; exact runm ops (fun e s h => by cases e <;> first | exact hq _ _ h | exact h) s h
  | regl ops => intro Q Q' hq s h; exact runm ops hq s h
  | seq a b iha ihb => intro Q Q' hq s h; exact iha (fun e s h => by cases e <;> first | exact ihb hq _ h | exact hq _ _ h) s h
  | cond c a b iha ihb =>
    intro Q Q' hq s h
    simp only [awp] at h ⊢
    unfold condV condP at h ⊢
    split at h
    · split at h
      · rename_i hb; rw [if_pos hb]; exact iha hq s h
      · rename_i hb; rw [if_neg hb]; exact ihb hq s h
    · exact h.elim
  | block id b ih =>
    intro Q Q' hq s h
    exact ih (fun e s h => by
      cases e <;> simp only [blkQ] at h ⊢ <;> first
        | exact hq _ _ h
        | (split at h
           · rename_i he; rw [if_pos he]; exact hq _ _ h
           · rename_i he; rw [if_neg he]; exact hq _ _ h)) s h
  | loop b ih =>
    intro Q Q' hq s h
    obtain ⟨n, h⟩ := h
    refine ⟨n, ?_⟩
    induction n generalizing s with
    | zero => exact h
    | succ n ihn => exact ih (fun e s h => by cases e <;> first | exact ihn _ h | exact hq _ _ h) s h
  | scope b ih => intro Q Q' hq s h; exact ih (fun e s h => by cases e <;> first | exact hq _ _ h | exact h) s h
  | exit id => intro Q Q' hq s h; exact hq _ _ h
  | label l => intro Q Q' hq s h; exact hq _ _ h
  | goto l => intro Q Q' hq s h; exact hq _ _ h
  | jump b l1 r1 l2 r2 ih ih1 ih2 =>
    intro Q Q' hq s h
    obtain ⟨n, h⟩ := h
    have gm : ∀ n l s, jmpG (awp P C r1) (awp P C r2) l1 l2 Q n l s → jmpG (awp P C r1) (awp P C r2) l1 l2 Q' n l s := by
      intro n
      induction n with
      | zero => intro l s h; exact h
      | succ n ihn =>
        have gq : ∀ e s, gotoQ (jmpG (awp P C r1) (awp P C r2) l1 l2 Q n) Q e s → gotoQ (jmpG (awp P C r1) (awp P C r2) l1 l2 Q' n) Q' e s := fun e s h => by
          cases e <;> first | exact ihn _ _ h | exact hq _ _ h
        intro l s h
        simp only [jmpG] at h ⊢
        split at h
        · rename_i hl; rw [if_pos hl]; exact ih1 gq s h
        · rename_i hl
          rw [if_neg hl]
          split at h
          · rename_i hl2; rw [if_pos hl2]; exact ih2 gq s h
          · exact h.elim
    exact ⟨n, ih (fun e s h => by cases e <;> first | exact gm _ _ _ h | exact hq _ _ h) s h⟩
  | ret => intro Q Q' hq s h; exact hq _ _ h

theorem loopW_mono {P : Program} {C : PCtx} {b : ACode} : ∀ (n m : Nat), n ≤ m → ∀ {Q : AEx → AS → Prop} (s : AS), loopW (awp P C b) n Q s → loopW (awp P C b) m Q s
  | 0, _, _, Q, s, h => h.elim
  | n + 1, 0, hm, Q, s, h => absurd hm (by omega)
  | n + 1, m + 1, hm, Q, s, h => awp_mono b (fun e s h => by cases e <;> first | exact loopW_mono n m (by omega) s h | exact h) s h

/-- a loop by what holds at each round's head ('I x s': the round that x names) and a number that every round lowers -/
theorem awp_loop {P : Program} {C : PCtx} {b : ACode} {Q : AEx → AS → Prop} {σ : Type} (I : σ → AS → Prop) (μ : σ → Nat)
    (round : ∀ x s, I x s → awp P C b (thenQ (fun s' => ∃ y, μ y < μ x ∧ I y s') Q) s) {x : σ} {s : AS} (h : I x s) : awp P C (.loop b) Q s := by
  have key : ∀ n (x : σ) (s : AS), μ x ≤ n → I x s → loopW (awp P C b) (n + 1) Q s := by
    intro n
    induction n with
    | zero =>
      intro x s hx h
      exact awp_mono b (fun e s h => by
        cases e <;> first
          | exact h
          | (obtain ⟨y, hy, _⟩ := h; omega)) s (round x s h)
    | succ n ih =>
      intro x s hx h
      exact awp_mono b (fun e s h => by
        cases e <;> first
          | exact h
          | (obtain ⟨y, hy, hI⟩ := h; exact ih y _ (by omega) hI)) s (round x s h)
  exact ⟨_, key _ x s (Nat.le_refl _) h⟩

/-! lists of integers -/
abbrev ints (l : List Int) : List AV := l.map (AV.int .i64)
def deInts : List AV → Option (List Int)
  | [] => some []
  | .int .i64 n :: xs => (deInts xs).map (n :: ·)
  | _ => none
/-- a value that reads as a list of integers -/
def asInts : AV → Option (List Int)
  | .nilsl => some []
  | .sl 1 xs _ => deInts xs
  | _ => none
theorem deInts_ints (l : List Int) : deInts (ints l) = some l := by
  induction l with
  | nil => rfl
  | cons a l ih => simp only [ints, List.map_cons, deInts]; rw [show List.map (AV.int .i64) l = ints l from rfl, ih]; rfl
theorem deInts_inv {xs : List AV} {l : List Int} (h : deInts xs = some l) : xs = ints l := by
  induction xs generalizing l with
  | nil => simp only [deInts] at h; injection h with h; subst h; rfl
  | cons x xs ih =>
    unfold deInts at h
    split at h
    · rename_i heq; cases heq
    · rename_i n ys heq
      injection heq with e1 e2; subst e1; subst e2
      cases hr : deInts xs with
      | none => simp [hr] at h
      | some r =>
        simp [hr] at h; subst h
        simp only [ints, List.map_cons]
        rw [ih hr]
    · cases h
theorem asInts_inv {x : AV} {l : List Int} (h : asInts x = some l) : (x = .nilsl ∧ l = []) ∨ ∃ c, x = .sl 1 (ints l) c := by
  unfold asInts at h
  split at h
  · injection h with h; exact .inl ⟨rfl, h.symm⟩
  · rename_i xs c; exact .inr ⟨c, by rw [deInts_inv h]⟩
  · cases h
theorem asInts_sl (l : List Int) (c : Cap) : asInts (.sl 1 (ints l) c) = some l := deInts_ints l
theorem asInts_nil : asInts .nilsl = some [] := id rfl
theorem plain_ints (l : List Int) : plainL (ints l) = true := by
  induction l with
  | nil => rfl
  | cons a l ih => simp only [ints, List.map_cons, plainL, AV.plain, Bool.true_and]; exact ih

theorem len_of {x : AV} {l : List Int} (h : asInts x = some l) : alenK false x = some (.int .i64 l.length) := by
  rcases asInts_inv h with ⟨rfl, rfl⟩ | ⟨c, rfl⟩
  · rfl
  · simp [alenK]
theorem idx_of {x : AV} {l : List Int} (h : asInts x = some l) {k : IntKind} {n : Int} {v : Int} (h0 : 0 ≤ n) (hv : l[n.toNat]? = some v) : aidxS 1 x (.int k n) = some (.ptr (.int .i64 v)) := by
  rcases asInts_inv h with ⟨rfl, rfl⟩ | ⟨c, rfl⟩
  · simp at hv
  · simp only [aidxS, h0, and_self, if_true, ints, List.getElem?_map, hv, Option.map_some]
theorem load_ptr_int {hp : Nat → Option (List AV)} {k : IntKind} {v : Int} : aload hp false 1 (.ptr (.int k v)) = some (.int k v) := id rfl
theorem load_ptr_bool {hp : Nat → Option (List AV)} {v : Bool} : aload hp false 1 (.ptr (.bool v)) = some (.bool v) := id rfl

/-! integers of 64 bits -/
theorem wrap64 {n : Int} (h1 : -9223372036854775808 ≤ n) (h2 : n < 9223372036854775808) : IntKind.i64.wrap n = n := by
  rw [IntKind.wrap_i64]; omega
end Fw
set_option linter.unusedVariables false
set_option linter.unusedSimpArgs false
namespace Fw
open Go

/-- the place where a run stands -/
def At (p : Prop) : Prop := p
theorem At.i {p : Prop} (h : At p) : p := h
theorem At.of {p : Prop} (h : p) : At p := h

section
variable {P : Program} {C : PCtx} {d : Option Nat} {K : AS → Prop} {Q : AEx → AS → Prop} {s : AS}
@[simp] theorem At.cond_t {p q : Prop} : At (condP true p q) = At p := by simp [At, condP]
@[simp] theorem At.cond_f {p q : Prop} : At (condP false p q) = At q := by simp [At, condP]
@[simp] theorem At.cond_v {b : Bool} {p q : Prop} : At (condV (.bool b) p q) = At (condP b p q) := id rfl
@[simp] theorem At.optS {α : Type} {a : α} {K : α → Prop} : At (optK (some a) K) = At (K a) := id rfl
theorem At.split {b : Bool} {p q : Prop} (h1 : b = true → At p) (h2 : b = false → At q) : At (condP b p q) := by cases b <;> simp_all [condP, At]
theorem At.dec {c : Prop} [Decidable c] {p q : Prop} (h1 : c → At p) (h2 : ¬ c → At q) : At (condP (decide c) p q) := by by_cases h : c <;> simp_all [condP, At]
theorem At.decn {c : Prop} [Decidable c] {p q : Prop} (h1 : c → At q) (h2 : ¬ c → At p) : At (condP (!decide c) p q) := by by_cases h : c <;> simp_all [condP, At]
@[simp] theorem At.tr : At True = True := id rfl
@[simp] theorem At.eqr {x y : AV} : At (AEnd.ret x = AEnd.ret y) = (x = y) := by simp [At]

@[simp] theorem At.aiW_n {op : AOp} : At (aiW P C ⟨d, none, op⟩ K Q s) = At (opW P C d op K Q s) := congrArg At Fw.aiW_n
@[simp] theorem At.aiW_s {t : Nat} {b : Bool} {op : AOp} : At (aiW P C ⟨d, some (t, b), op⟩ K Q s) = At (condP (wantB (s.env t) b) (opW P C d op K Q s) (K (s.put d .undef))) := congrArg At Fw.aiW_s
@[simp] theorem At.runW_nil : At (runW P C [] Q s) = At (Q .normal s) := congrArg At Fw.runW_nil
@[simp] theorem At.runW_cons {o : AI} {os : List AI} : At (runW P C (o :: os) Q s) = At (aiW P C o (runW P C os Q) Q s) := congrArg At Fw.runW_cons
@[simp] theorem At.opW_mv {x : AOpd} : At (opW P C d (.mv x) K Q s) = At (K (s.put d (s.ev x))) := congrArg At Fw.opW_mv
@[simp] theorem At.opW_pick {x y z : AOpd} : At (opW P C d (.pick x y z) K Q s) = At (optK (apick (s.ev x) (s.ev y) (s.ev z)) fun r => K (s.put d r)) := congrArg At Fw.opW_pick
@[simp] theorem At.opW_bin {kd : Nat} {op : BinOp} {x y : AOpd} : At (opW P C d (.bin kd op x y) K Q s) = At (optK (abin kd op (s.ev x) (s.ev y)) fun r => K (s.put d r)) := congrArg At Fw.opW_bin
@[simp] theorem At.opW_un {op : UnOp} {x : AOpd} : At (opW P C d (.un op x) K Q s) = At (optK (aun op (s.ev x)) fun r => K (s.put d r)) := congrArg At Fw.opW_un
@[simp] theorem At.opW_conv {k : IntKind} {x : AOpd} : At (opW P C d (.conv k x) K Q s) = At (optK (aconv k (s.ev x)) fun r => K (s.put d r)) := congrArg At Fw.opW_conv
@[simp] theorem At.opW_alloc {zs : List AV} : At (opW P C d (.alloc zs) K Q s) = At (K ((⟨s.env, { s.hs with heap := fun i => if i = s.hs.nh then some zs else s.hs.heap i, nh := s.hs.nh + 1 }⟩ : AS).put d (.ref s.hs.nh 0))) := congrArg At Fw.opW_alloc
@[simp] theorem At.opW_make {ag : Bool} {sz : Nat} {zs : List AV} {x y : AOpd} : At (opW P C d (.make ag sz zs x y) K Q s) = At (optK (amake ag sz zs s.hs (s.ev x) (s.ev y)) fun r => K ((⟨s.env, r.2⟩ : AS).put d r.1)) := congrArg At Fw.opW_make
@[simp] theorem At.opW_lcall {f : FuncId} {args : List AOpd} : At (opW P C d (.lcall f args) K Q s) = At (optK (alcall C f s.hs (args.map s.ev)) fun r => K (s.put d r)) := congrArg At Fw.opW_lcall
@[simp] theorem At.opW_cap {x : AOpd} : At (opW P C d (.cap x) K Q s) = At (optK (acap (s.ev x)) fun r => K (s.put d r)) := congrArg At Fw.opW_cap
@[simp] theorem At.opW_appz {sz : Nat} {x y : AOpd} : At (opW P C d (.appz sz x y) K Q s) = At (optK (aappz sz s.hs (s.ev x) (s.ev y)) fun r => K ((⟨s.env, r.2⟩ : AS).put d r.1)) := congrArg At Fw.opW_appz
@[simp] theorem At.opW_boxi {x : AOpd} : At (opW P C d (.boxi x) K Q s) = At (condP (s.ev x).sto (K (s.put d (.ptr (s.ev x)))) False) := congrArg At Fw.opW_boxi
@[simp] theorem At.opW_boxm {x : AOpd} : At (opW P C d (.boxm x) K Q s) = At (condP (s.ev x).sto (K ((⟨s.env, { s.hs with heap := fun i => if i = s.hs.nh then some (s.ev x).cells else s.hs.heap i, nh := s.hs.nh + 1 }⟩ : AS).put d (.ref s.hs.nh 0))) False) := congrArg At Fw.opW_boxm
@[simp] theorem At.opW_build {zs : List AV} {ps : List (Nat × Nat × AOpd)} : At (opW P C d (.build zs ps) K Q s) = At (optK (afill zs (ps.map fun p => (p.1, p.2.1, s.ev p.2.2))) fun r => K (s.put d (.agg r))) := congrArg At Fw.opW_build
@[simp] theorem At.opW_buildSl {sz : Nat} {xs : List AOpd} : At (opW P C d (.buildSl sz xs) K Q s) = At (condP (astoAll sz (xs.map s.ev)) (K (s.put d (.sl sz (xs.map s.ev) .exact))) False) := congrArg At Fw.opW_buildSl
@[simp] theorem At.opW_load {ag : Bool} {sz : Nat} {x : AOpd} : At (opW P C d (.load ag sz x) K Q s) = At (optK (aload s.hs.heap ag sz (s.ev x)) fun r => K (s.put d r)) := congrArg At Fw.opW_load
@[simp] theorem At.opW_store {sz : Nat} {x y : AOpd} : At (opW P C d (.store sz x y) K Q s) = At (optK (astore s.hs.heap sz (s.ev x) (s.ev y)) fun r => K ((⟨s.env, { s.hs with heap := r }⟩ : AS).put d .undef)) := congrArg At Fw.opW_store
@[simp] theorem At.opW_faddr {ag : Bool} {sz off : Nat} {x : AOpd} : At (opW P C d (.faddr ag sz off x) K Q s) = At (optK (afaddr ag sz off (s.ev x)) fun r => K (s.put d r)) := congrArg At Fw.opW_faddr
@[simp] theorem At.opW_field {ag : Bool} {sz off : Nat} {x : AOpd} : At (opW P C d (.field ag sz off x) K Q s) = At (optK (afield ag sz off (s.ev x)) fun r => K (s.put d r)) := congrArg At Fw.opW_field
@[simp] theorem At.opW_iaddrS {sz : Nat} {x y : AOpd} : At (opW P C d (.iaddrS sz x y) K Q s) = At (optK (aidxS sz (s.ev x) (s.ev y)) fun r => K (s.put d r)) := congrArg At Fw.opW_iaddrS
@[simp] theorem At.opW_iaddrA {len : Nat} {ag : Bool} {sz : Nat} {x y : AOpd} : At (opW P C d (.iaddrA len ag sz x y) K Q s) = At (optK (aidxA len ag sz (s.ev x) (s.ev y)) fun r => K (s.put d r)) := congrArg At Fw.opW_iaddrA
@[simp] theorem At.opW_index {len : Nat} {ag : Bool} {sz : Nat} {x y : AOpd} : At (opW P C d (.index len ag sz x y) K Q s) = At (optK (aindex len ag sz (s.ev x) (s.ev y)) fun r => K (s.put d r)) := congrArg At Fw.opW_index
@[simp] theorem At.opW_slice {sz : Nat} {x : AOpd} {lo hi mx : Option AOpd} : At (opW P C d (.slice sz x lo hi mx) K Q s) = At (optK (aslice sz (s.ev x) (lo.map s.ev) (hi.map s.ev) (mx.map s.ev)) fun r => K (s.put d r)) := congrArg At Fw.opW_slice
@[simp] theorem At.opW_extract {x : AOpd} {n : Nat} : At (opW P C d (.extract x n) K Q s) = At (optK (aextract (s.ev x) n) fun r => K (s.put d r)) := congrArg At Fw.opW_extract
@[simp] theorem At.opW_mkfn {f : Fn} {xs ys : List AOpd} : At (opW P C d (.mkfn f xs ys) K Q s) = At (K (s.put d (.fn f (xs.map s.ev) (ys.map s.ev)))) := congrArg At Fw.opW_mkfn
@[simp] theorem At.opW_len {st : Bool} {x : AOpd} : At (opW P C d (.len st x) K Q s) = At (optK (alenK st (s.ev x)) fun r => K (s.put d r)) := congrArg At Fw.opW_len
@[simp] theorem At.opW_appm {sz : Nat} {x y : AOpd} : At (opW P C d (.appm sz x y) K Q s) = At (optK (aappm sz s.hs (s.ev x) (s.ev y)) fun r => K ((⟨s.env, r.2⟩ : AS).put d r.1)) := congrArg At Fw.opW_appm
@[simp] theorem At.opW_append {sz : Nat} {x y : AOpd} : At (opW P C d (.append sz x y) K Q s) = At (optK (aappend sz s.hs (s.ev x) (s.ev y)) fun r => K ((⟨s.env, r.2⟩ : AS).put d r.1)) := congrArg At Fw.opW_append
@[simp] theorem At.opW_min {x y : AOpd} : At (opW P C d (.min x y) K Q s) = At (optK (amin (s.ev x) (s.ev y)) fun r => K (s.put d r)) := congrArg At Fw.opW_min
@[simp] theorem At.opW_max {x y : AOpd} : At (opW P C d (.max x y) K Q s) = At (optK (amax (s.ev x) (s.ev y)) fun r => K (s.put d r)) := congrArg At Fw.opW_max
@[simp] theorem At.opW_mkif {t : TypeId} {x : AOpd} : At (opW P C d (.mkif t x) K Q s) = At (K (s.put d (.iface t (s.ev x)))) := congrArg At Fw.opW_mkif
@[simp] theorem At.opW_nilchk {x : AOpd} : At (opW P C d (.nilchk x) K Q s) = At (optK (anilchk (s.ev x)) fun r => K (s.put d r)) := congrArg At Fw.opW_nilchk
@[simp] theorem At.opW_pcall {f : FuncId} {args : List AOpd} : At (opW P C d (.pcall f args) K Q s) = At (optK (C f (args.map s.ev)) fun r => K (s.put d r)) := congrArg At Fw.opW_pcall
@[simp] theorem At.opW_hcall {f : FuncId} {args : List AOpd} : At (opW P C d (.hcall f args) K Q s) = At (hcW P f (args.map s.ev) d K Q s) := congrArg At Fw.opW_hcall
@[simp] theorem At.opW_callv {x : AOpd} {args : List AOpd} : At (opW P C d (.callv x args) K Q s) = At (cvW P (s.ev x) (args.map s.ev) d K Q s) := congrArg At Fw.opW_callv
@[simp] theorem At.opW_panic {x : AOpd} : At (opW P C d (.panic x) K Q s) = At (pnW (s.ev x) Q s) := congrArg At Fw.opW_panic
@[simp] theorem At.awp_skip : At (awp P C .skip Q s) = At (Q .normal s) := congrArg At Fw.awp_skip
@[simp] theorem At.awp_reg {ops : List AI} : At (awp P C (.reg ops) Q s) = At (runW P C ops Q s) := congrArg At Fw.awp_reg
@[simp] theorem At.awp_regd {ops : List AI} : At (awp P C (.regd ops) Q s) = At (runW P C ops (noPQ Q) s) := congrArg At Fw.awp_regd
@[simp] theorem At.awp_seq {a b : ACode} : At (awp P C (.seq a b) Q s) = At (awp P C a (thenQ (awp P C b Q) Q) s) := congrArg At Fw.awp_seq
@[simp] theorem At.awp_regl {ops : List AI} : At (awp P C (.regl ops) Q s) = At (runW P C ops Q s) := congrArg At Fw.awp_regl
@[simp] theorem At.awp_rega {ds : List (List Nat)} {ops : List AI} : At (awp P C (.rega ds ops) Q s) = At (anyW P C ds ops ops.length [] Q s) := congrArg At Fw.awp_rega
theorem At.any_0 {ds : List (List Nat)} {xs : List AI} {done : List Nat} (h : readyL ds done = []) (h2 : At (Q .normal s)) : At (anyW P C ds xs 0 done Q s) := ⟨h, h2⟩
theorem At.any_s {ds : List (List Nat)} {xs : List AI} {m : Nat} {done : List Nat} (h : (readyL ds done).isEmpty = false) (h2 : At (allW (readyL ds done) fun i => optW (fun x => aiW P C x (anyW P C ds xs m (i :: done) Q) Q s) xs[i]?)) : At (anyW P C ds xs (m + 1) done Q s) := ⟨fun e => absurd h (by rw [e]; decide), h2⟩
theorem At.all_c {i : Nat} {l : List Nat} {f : Nat → Prop} (h1 : At (f i)) (h2 : At (allW l f)) : At (allW (i :: l) f) := ⟨h1, h2⟩
theorem At.all_n {f : Nat → Prop} : At (allW [] f) := trivial
@[simp] theorem At.opt_s {x : AI} {f : AI → Prop} : At (optW f (some x)) = At (f x) := id rfl
@[simp] theorem At.awp_cond {c : AOpd} {a b : ACode} : At (awp P C (.cond c a b) Q s) = At (condV (s.ev c) (awp P C a Q s) (awp P C b Q s)) := congrArg At Fw.awp_cond
@[simp] theorem At.awp_block {id : Nat} {b : ACode} : At (awp P C (.block id b) Q s) = At (awp P C b (blkQ id Q) s) := congrArg At Fw.awp_block
@[simp] theorem At.awp_scope {b : ACode} : At (awp P C (.scope b) Q s) = At (awp P C b (noGQ Q) s) := congrArg At Fw.awp_scope
@[simp] theorem At.awp_exit {id : Nat} : At (awp P C (.exit id) Q s) = At (Q (.exit id) s) := congrArg At Fw.awp_exit
@[simp] theorem At.awp_label {l : Nat} : At (awp P C (.label l) Q s) = At (Q .normal s) := congrArg At Fw.awp_label
@[simp] theorem At.awp_goto {l : Nat} : At (awp P C (.goto l) Q s) = At (Q (.goto l) s) := congrArg At Fw.awp_goto
@[simp] theorem At.thenQ_g {i : Nat} : At (thenQ K Q (.goto i) s) = At (Q (.goto i) s) := id rfl
@[simp] theorem At.blkQ_g {i l : Nat} : At (blkQ i Q (.goto l) s) = At (Q (.goto l) s) := id rfl
@[simp] theorem At.gotoQ_n {G : Nat → AS → Prop} : At (gotoQ G Q .normal s) = At (Q .normal s) := id rfl
@[simp] theorem At.gotoQ_e {G : Nat → AS → Prop} {i : Nat} : At (gotoQ G Q (.exit i) s) = At (Q (.exit i) s) := id rfl
@[simp] theorem At.gotoQ_r {G : Nat → AS → Prop} : At (gotoQ G Q .ret s) = At (Q .ret s) := id rfl
@[simp] theorem At.gotoQ_p {G : Nat → AS → Prop} {x : AV} : At (gotoQ G Q (.panic x) s) = At (Q (.panic x) s) := id rfl
@[simp] theorem At.gotoQ_g {G : Nat → AS → Prop} {l : Nat} : At (gotoQ G Q (.goto l) s) = At (G l s) := id rfl
@[simp] theorem At.awp_ret : At (awp P C .ret Q s) = At (Q .ret s) := congrArg At Fw.awp_ret
@[simp] theorem At.thenQ_n : At (thenQ K Q .normal s) = At (K s) := congrArg At Fw.thenQ_n
@[simp] theorem At.thenQ_e {i : Nat} : At (thenQ K Q (.exit i) s) = At (Q (.exit i) s) := congrArg At Fw.thenQ_e
@[simp] theorem At.thenQ_r : At (thenQ K Q .ret s) = At (Q .ret s) := congrArg At Fw.thenQ_r
@[simp] theorem At.thenQ_p {x : AV} : At (thenQ K Q (.panic x) s) = At (Q (.panic x) s) := congrArg At Fw.thenQ_p
@[simp] theorem At.blkQ_n {i : Nat} : At (blkQ i Q .normal s) = At (Q .normal s) := congrArg At Fw.blkQ_n
@[simp] theorem At.blkQ_e {i j : Nat} : At (blkQ i Q (.exit j) s) = At (if j = i then Q .normal s else Q (.exit j) s) := congrArg At Fw.blkQ_e
@[simp] theorem At.blkQ_r {i : Nat} : At (blkQ i Q .ret s) = At (Q .ret s) := congrArg At Fw.blkQ_r
@[simp] theorem At.blkQ_p {i : Nat} {x : AV} : At (blkQ i Q (.panic x) s) = At (Q (.panic x) s) := congrArg At Fw.blkQ_p
@[simp] theorem At.noPQ_n : At (noPQ Q .normal s) = At (Q .normal s) := congrArg At Fw.noPQ_n
@[simp] theorem At.noGQ_n : At (noGQ Q .normal s) = At (Q .normal s) := congrArg At Fw.noGQ_n
@[simp] theorem At.noGQ_e {i : Nat} : At (noGQ Q (.exit i) s) = At (Q (.exit i) s) := congrArg At Fw.noGQ_e
@[simp] theorem At.noGQ_r : At (noGQ Q .ret s) = At (Q .ret s) := congrArg At Fw.noGQ_r
@[simp] theorem At.noGQ_p {x : AV} : At (noGQ Q (.panic x) s) = At (Q (.panic x) s) := congrArg At Fw.noGQ_p
@[simp] theorem At.finQ_n {rs : List ARes} {R : AEnd → HS → Prop} : At (finQ rs R .normal s) = At (optK (aResult s rs) fun x => R (.ret x) s.hs) := congrArg At Fw.finQ_n
@[simp] theorem At.finQ_r {rs : List ARes} {R : AEnd → HS → Prop} : At (finQ rs R .ret s) = At (optK (aResult s rs) fun x => R (.ret x) s.hs) := congrArg At Fw.finQ_r
@[simp] theorem At.finQ_p {rs : List ARes} {R : AEnd → HS → Prop} {x : AV} : At (finQ rs R (.panic x) s) = At (R (.panic x) s.hs) := congrArg At Fw.finQ_p
end
attribute [simp] wantB_t wantB_f ev_t ev_c env_put hs_put hs_mk env_mk env_none argEnv_0 argEnv_s argEnv_nil load_ptr_int load_ptr_bool

/-! values -/
@[simp] theorem wantB_u {b : Bool} : wantB .undef b = false := by cases b <;> rfl
section
variable {kd : Nat} {k : IntKind} {a b : Int}
@[simp] theorem abin_add : abin kd .add (.int k a) (.int k b) = some (.int k (k.wrap (a + b))) := by simp [abin, aint]
@[simp] theorem abin_sub : abin kd .sub (.int k a) (.int k b) = some (.int k (k.wrap (a - b))) := by simp [abin, aint]
@[simp] theorem abin_mul : abin kd .mul (.int k a) (.int k b) = some (.int k (k.wrap (a * b))) := by simp [abin, aint]
@[simp] theorem abin_quo (h : b ≠ 0) : abin kd .quo (.int k a) (.int k b) = some (.int k (k.wrap (a.tdiv b))) := by simp [abin, aint, h]
@[simp] theorem abin_rem (h : b ≠ 0) : abin kd .rem (.int k a) (.int k b) = some (.int k (a.tmod b)) := by simp [abin, aint, h]
@[simp] theorem abin_eql : abin kd .eql (.int k a) (.int k b) = some (.bool (decide (a = b))) := by simp [abin, aint]
@[simp] theorem abin_neq : abin kd .neq (.int k a) (.int k b) = some (.bool (decide (a ≠ b))) := by simp [abin, aint]
@[simp] theorem abin_lss : abin kd .lss (.int k a) (.int k b) = some (.bool (decide (a < b))) := by simp [abin, aint]
@[simp] theorem abin_leq : abin kd .leq (.int k a) (.int k b) = some (.bool (decide (a ≤ b))) := by simp [abin, aint]
@[simp] theorem abin_gtr : abin kd .gtr (.int k a) (.int k b) = some (.bool (decide (b < a))) := by simp [abin, aint]
@[simp] theorem abin_geq : abin kd .geq (.int k a) (.int k b) = some (.bool (decide (b ≤ a))) := by simp [abin, aint]
theorem abin_shl {k' : IntKind} (h : 0 ≤ b) : abin kd .shl (.int k a) (.int k' b) = some (.int k (k.wrap (a * 2 ^ (min b.toNat k.bits)))) := by simp [abin, aint, h]
theorem abin_shr {k' : IntKind} (h : 0 ≤ b) : abin kd .shr (.int k a) (.int k' b) = some (.int k (a.fdiv (2 ^ (min b.toNat k.bits)))) := by simp [abin, aint, h]
@[simp] theorem abin_eqb {x y : Bool} : abin 1 .eql (.bool x) (.bool y) = some (.bool (decide (x = y))) := by simp [abin, aeq]
@[simp] theorem abin_neb {x y : Bool} : abin 1 .neq (.bool x) (.bool y) = some (.bool (!decide (x = y))) := by simp [abin, aeq]
@[simp] theorem abin_slnil {sz : Nat} {xs : List AV} {c : Cap} : abin 2 .eql (.sl sz xs c) .nilsl = some (.bool false) := id rfl
@[simp] theorem abin_nilnil : abin 2 .eql .nilsl .nilsl = some (.bool true) := id rfl
@[simp] theorem abin_slnil' {sz : Nat} {xs : List AV} {c : Cap} : abin 2 .neq (.sl sz xs c) .nilsl = some (.bool true) := id rfl
@[simp] theorem abin_nilnil' : abin 2 .neq .nilsl .nilsl = some (.bool false) := id rfl
@[simp] theorem abin_pair {c d : Int} : abin 6 .eql (.agg [.int k a, .int k b]) (.agg [.int k c, .int k d]) = some (.bool (decide (a = c) && decide (b = d))) := by simp [abin, aeq, aeqInts]
@[simp] theorem abin_pair' {c d : Int} : abin 6 .neq (.agg [.int k a, .int k b]) (.agg [.int k c, .int k d]) = some (.bool (!(decide (a = c) && decide (b = d)))) := by simp [abin, aeq, aeqInts]
@[simp] theorem apick_b {c : Bool} {x y : AV} : apick (.bool c) x y = some (bif c then x else y) := id rfl
@[simp] theorem aun_not {c : Bool} : aun .not (.bool c) = some (.bool (!c)) := id rfl
@[simp] theorem alen_nil : alenK false .nilsl = some (.int .i64 0) := id rfl
@[simp] theorem alen_sl {sz : Nat} {xs : List AV} {c : Cap} : alenK false (.sl sz xs c) = some (.int .i64 xs.length) := id rfl
@[simp] theorem aext_0 {x : AV} {xs : List AV} : aextract (.tup (x :: xs)) 0 = some x := id rfl
@[simp] theorem aext_1 {x y : AV} {xs : List AV} : aextract (.tup (x :: y :: xs)) 1 = some y := id rfl
@[simp] theorem aext_2 {x y z : AV} {xs : List AV} : aextract (.tup (x :: y :: z :: xs)) 2 = some z := id rfl
@[simp] theorem aconv_int {k' : IntKind} : aconv k (.int k' a) = some (.int k (k.wrap a)) := id rfl
end

@[simp] theorem aResult_1 {s : AS} {n : Nat} : aResult s [.t n] = some (s.env n) := id rfl
@[simp] theorem aResult_2 {s : AS} {n m : Nat} : aResult s [.t n, .t m] = some (.tup [s.env n, s.env m]) := id rfl
@[simp] theorem aResult_3 {s : AS} {n m k : Nat} : aResult s [.t n, .t m, .t k] = some (.tup [s.env n, s.env m, s.env k]) := id rfl
@[simp] theorem aResult_0 {s : AS} : aResult s [] = some (.tup []) := id rfl
@[simp] theorem aResult_cm {s : AS} {ag : Bool} {sz n m : Nat} : aResult s [.cell ag sz n, .t m] = (aload s.hs.heap ag sz (s.env n)).map fun x => .tup [x, s.env m] := by simp only [aResult, aResL, aRes]; cases aload s.hs.heap ag sz (s.env n) <;> rfl
@[simp] theorem aResult_cs {s : AS} {ag : Bool} {sz n : Nat} : aResult s [.cell ag sz n] = aload s.hs.heap ag sz (s.env n) := by simp only [aResult, aResL, aRes]; cases aload s.hs.heap ag sz (s.env n) <;> rfl
theorem store_pair {hp : Nat → Option (List AV)} {i : Nat} {u v : AV} (h : hp i = some [u, v]) {k1 k2 : IntKind} {a b : Int} : astore hp 2 (.ref i 0) (.agg [.int k1 a, .int k2 b]) = some (fun k => if k = i then some [.int k1 a, .int k2 b] else hp k) := by
  simp [astore, h, AV.sto, AV.cells, AV.leaf, setL]
@[simp] theorem load_ref_pair {hp : Nat → Option (List AV)} {i : Nat} {a b : AV} : aload (fun k => if k = i then some [a, b] else hp k) true 2 (.ref i 0) = some (.agg [a, b]) := by
  simp [aload, apart]
@[simp] theorem fill_pair {k1 k2 k3 k4 : IntKind} {a b c d : Int} : afill [.int k1 a, .int k2 b] [(0, 1, .int k3 c), (1, 1, .int k4 d)] = some [.int k3 c, .int k4 d] := by
  simp [afill, AV.sto, AV.cells, setL, AV.leaf]
@[simp] theorem fill_none {zs : List AV} : afill zs [] = some zs := by simp only [afill]
theorem aResult_c {s : AS} {ag : Bool} {sz n : Nat} {x : AV} (h : aload s.hs.heap ag sz (s.env n) = some x) : aResult s [.cell ag sz n] = some x := by simp [aResult, aResL, aRes, h]
theorem aResult_ct {s : AS} {ag : Bool} {sz n m : Nat} {x : AV} (h : aload s.hs.heap ag sz (s.env n) = some x) : aResult s [.cell ag sz n, .t m] = some (.tup [x, s.env m]) := by simp [aResult, aResL, aRes, h]

theorem At.loop {P : Program} {C : PCtx} {b : ACode} {Q : AEx → AS → Prop} {σ : Type} (I : σ → AS → Prop) (μ : σ → Nat) (x : σ) {s : AS} (h : I x s)
    (round : ∀ (N : AS → Prop) x s, (∀ y s', μ y < μ x → I y s' → At (N s')) → I x s → At (awp P C b (thenQ N Q) s)) : At (awp P C (.loop b) Q s) :=
  awp_loop I μ (fun x s h => round _ x s (fun y s' hy hI => ⟨y, hy, hI⟩) h) h
/-- a scope with jumps, by what holds at each jump ('I x s'), where it leads ('lab x': the first label) and a number that every pass lowers -/
theorem At.jump {P : Program} {C : PCtx} {b r1 r2 : ACode} {l1 l2 : Nat} {Q : AEx → AS → Prop} {σ : Type} (I : σ → AS → Prop) (lab : σ → Bool) (μ : σ → Nat) (M : Nat) {s : AS} (hne : l1 ≠ l2 ∨ ∀ x, lab x = true)
    (first : ∀ G : Nat → AS → Prop, (∀ y s', μ y < M → I y s' → At (G (if lab y = true then l1 else l2) s')) → At (awp P C b (gotoQ G Q) s))
    (round : ∀ (G : Nat → AS → Prop) x s, (∀ y s', μ y < μ x → I y s' → At (G (if lab y = true then l1 else l2) s')) → I x s → At (awp P C (if lab x = true then r1 else r2) (gotoQ G Q) s)) : At (awp P C (.jump b l1 r1 l2 r2) Q s) := by
  refine ⟨M, first _ ?_⟩
  have key : ∀ n x s, μ x < n → I x s → jmpG (awp P C r1) (awp P C r2) l1 l2 Q n (if lab x = true then l1 else l2) s := by
    intro n
    induction n with
    | zero => intro x s h; exact absurd h (by omega)
    | succ n ih =>
      intro x s hx hI
      have hr := round (jmpG (awp P C r1) (awp P C r2) l1 l2 Q n) x s (fun y s' hy hI' => ih y s' (by omega) hI') hI
      simp only [jmpG]
      cases hl : lab x with
      | true => rw [hl, if_pos rfl] at hr; rw [if_pos rfl, if_pos rfl]; exact hr
      | false =>
        rw [hl, if_neg (by simp)] at hr
        have hn : ¬ l2 = l1 := by
          rcases hne with hne | hne
          · exact fun h => hne h.symm
          · rw [hne x] at hl; cases hl
        have e : (if false = true then l1 else l2) = l2 := rfl
        rw [e, if_neg hn, if_pos rfl]
        exact hr
  exact fun y s' hy hI => key M y s' hy hI
theorem wrap_nat {n : Nat} (h : n < 9223372036854775808) : IntKind.i64.wrap (n : Int) = n := wrap64 (by omega) (by omega)
theorem wrap_nat1 {n : Nat} (h : n < 9223372036854775807) : IntKind.i64.wrap ((n : Int) + 1) = ((n + 1 : Nat) : Int) := by rw [wrap64 (by omega) (by omega)]; omega

/-! specs of functions -/
def PCtx.add (C : PCtx) (g : FuncId) (S : List AV → Option AV) : PCtx := fun f args => if f = g then S args else C f args
def PCtx.nil : PCtx := fun _ _ => none
theorem CtxOk.nil {P : Program} : CtxOk P PCtx.nil := fun f args r h => by cases h
theorem CtxOk.add {P : Program} {C : PCtx} (hC : CtxOk P C) {g : FuncId} {S : List AV → Option AV} (h : ∀ args r, S args = some r → PCall P g args r) : CtxOk P (C.add g S) := by
  intro f args r e
  unfold PCtx.add at e
  split at e
  · rename_i hf; subst hf; exact h _ _ e
  · exact hC _ _ _ e

/-! lists of integers, with a bound for their lengths -/
def asI : AV → Option (List Int)
  | .nilsl => some []
  | .sl 1 xs _ => if xs.length < 4294967296 then deInts xs else none
  | _ => none
theorem asI_inv {x : AV} {l : List Int} (h : asI x = some l) : (x = .nilsl ∧ l = []) ∨ ∃ c, x = .sl 1 (ints l) c := by
  unfold asI at h
  split at h
  · injection h with h; exact .inl ⟨rfl, h.symm⟩
  · rename_i xs c
    split at h <;> (try (cases h; done))
    exact .inr ⟨c, by rw [deInts_inv h]⟩
  · cases h
theorem asI_len {x : AV} {l : List Int} (h : asI x = some l) : l.length < 4294967296 := by
  unfold asI at h
  split at h
  · injection h with h; subst h; simp
  · rename_i xs c
    split at h <;> (try (cases h; done))
    rename_i hl
    rw [deInts_inv h] at hl
    simpa using hl
  · cases h
theorem asI_sl {l : List Int} {c : Cap} (h : l.length < 4294967296) : asI (.sl 1 (ints l) c) = some l := by
  simp only [asI, ints, List.length_map, h, if_true]; exact deInts_ints l
@[simp] theorem asI_nil : asI .nilsl = some [] := id rfl
theorem alen_of {x : AV} {l : List Int} (h : asI x = some l) : alenK false x = some (.int .i64 l.length) := by
  rcases asI_inv h with ⟨rfl, rfl⟩ | ⟨c, rfl⟩
  · rfl
  · simp [alenK]
theorem aidx_of {x : AV} {l : List Int} (h : asI x = some l) {k : IntKind} {n : Int} {v : Int} (h0 : 0 ≤ n) (hv : l[n.toNat]? = some v) : aidxS 1 x (.int k n) = some (.ptr (.int .i64 v)) := by
  rcases asI_inv h with ⟨rfl, rfl⟩ | ⟨c, rfl⟩
  · simp at hv
  · simp only [aidxS, h0, and_self, if_true, ints, List.getElem?_map, hv, Option.map_some]
theorem aidx_nat {x : AV} {l : List Int} (h : asI x = some l) {k : IntKind} {i : Nat} (hi : i < l.length) : aidxS 1 x (.int k (i : Int)) = some (.ptr (.int .i64 l[i])) :=
  aidx_of h (by omega) (by simp [hi])
theorem take_snoc {α : Type} {l : List α} {i : Nat} (hi : i < l.length) : l.take (i + 1) = l.take i ++ [l[i]] := by rw [List.take_add_one, List.getElem?_eq_getElem hi]; rfl
theorem mem_take_succ {α : Type} {l : List α} {i : Nat} (hi : i < l.length) {x : α} : x ∈ l.take (i + 1) ↔ x ∈ l.take i ∨ x = l[i] := by rw [take_snoc hi]; simp only [List.mem_append, List.mem_singleton]
theorem get_of {l : List Int} {n : Int} (h0 : 0 ≤ n) (h1 : n < l.length) : l[n.toNat]? = some (l.getD n.toNat 0) := by
  have : n.toNat < l.length := by omega
  simp [List.getD, List.getElem?_eq_getElem this]
end Fw
set_option linter.unusedVariables false
set_option linter.unusedSimpArgs false
namespace Fw
open Go

def Cap.share : Cap → Cap
  | .own _ => .shared
  | c => c
mutual
def AV.share : AV → AV
  | .sl sz xs c => .sl sz (shareL xs) c.share
  | .ptr x => .ptr x.share
  | .agg xs => .agg (shareL xs)
  | .tup xs => .tup (shareL xs)
  | .fn f a b => .fn f (shareL a) (shareL b)
  | .iface t x => .iface t x.share
  | x => x
def shareL : List AV → List AV
  | [] => []
  | x :: xs => x.share :: shareL xs
end
theorem shareL_map (xs : List AV) : shareL xs = xs.map AV.share := by
  induction xs with
  | nil => rfl
  | cons x xs ih => simp only [shareL, List.map_cons, ih]
theorem share_cells (x : AV) : x.share.cells = x.cells.map AV.share := by
  cases x <;> simp [AV.share, AV.cells, shareL_map]
theorem share_leaf (x : AV) : x.share.leaf = x.leaf := by cases x <;> simp [AV.share, AV.leaf]
theorem share_flat (xs : List AV) : flat (xs.map AV.share) = (flat xs).map AV.share := by
  induction xs with
  | nil => rfl
  | cons x xs ih => simp only [List.map_cons, flat, List.map_append, ih, share_cells]
theorem CapOk.share {c : CM} {b o len sz cap : Nat} {cp : Cap} (h : CapOk c b o len sz cap cp) : CapOk c b o len sz cap cp.share := by
  cases cp with
  | exact => exact h
  | shared => exact h
  | own k => exact h.le
theorem Rep.share {c : CM} {v : Value} {x : AV} (h : Rep c v x) : Rep c v x.share := by
  have getm : ∀ {xs : List AV} {j : Nat} {y : AV}, (xs.map AV.share)[j]? = some y → ∃ y0, xs[j]? = some y0 ∧ y = y0.share := by
    intro xs j y hy
    rw [List.getElem?_map] at hy
    cases hx : xs[j]? with
    | none => rw [hx] at hy; cases hy
    | some y0 => rw [hx] at hy; injection hy with hy; exact ⟨y0, rfl, hy.symm⟩
  induction h with
  | int k n => exact .int k n
  | bool b => exact .bool b
  | str s => exact .str s
  | nilptr => exact .nilptr
  | nilsl => exact .nilsl
  | nilif => exact .nilif
  | nilfn => exact .nilfn
  | ptr b o vs x hl hc h lf ih =>
    refine .ptr b o vs _ (by rw [share_cells]; simpa using hl) hc (fun j v y hv hy => ?_) (fun j y hy => ?_)
    · rw [share_cells] at hy
      obtain ⟨y0, h0, rfl⟩ := getm hy
      exact ih j v y0 hv h0
    · rw [share_cells] at hy
      obtain ⟨y0, h0, rfl⟩ := getm hy
      rw [share_leaf]; exact lf j y0 h0
  | ref i off hi => exact .ref i off hi
  | msl ag sz i off len cap ex hi hl he => exact .msl ag sz i off len cap ex hi hl he
  | gsl b o cap sz n k hn hcap => exact .gsl b o cap sz n k hn hcap
  | sl b o cap sz xs cp vs hl hz hc h lf hcap ih =>
    have := Rep.sl (c := c) b o cap sz (xs.map AV.share) cp.share vs (by rw [share_flat]; simpa using hl) ?_ hc ?_ ?_ (by rw [List.length_map]; exact hcap.share)
    · rw [List.length_map] at this
      simpa [AV.share, shareL_map] using this
    · intro x hx
      simp only [List.mem_map] at hx
      obtain ⟨x0, hx0, rfl⟩ := hx
      rw [share_cells, List.length_map]; exact hz x0 hx0
    · intro j v y hv hy
      rw [share_flat] at hy
      obtain ⟨y0, h0, rfl⟩ := getm hy
      exact ih j v y0 hv h0
    · intro j y hy
      rw [share_flat] at hy
      obtain ⟨y0, h0, rfl⟩ := getm hy
      rw [share_leaf]; exact lf j y0 h0
  | agg vs xs hl h lf ih =>
    have := Rep.agg (c := c) vs (xs.map AV.share) (by simpa using hl) ?_ ?_
    · simpa [AV.share, shareL_map] using this
    · intro j v y hv hy
      obtain ⟨y0, h0, rfl⟩ := getm hy
      exact ih j v y0 hv h0
    · intro j y hy
      obtain ⟨y0, h0, rfl⟩ := getm hy
      rw [share_leaf]; exact lf j y0 h0
  | tup vs xs hl h ih =>
    have := Rep.tup (c := c) vs (xs.map AV.share) (by simpa using hl) ?_
    · simpa [AV.share, shareL_map] using this
    · intro j v y hv hy
      obtain ⟨y0, h0, rfl⟩ := getm hy
      exact ih j v y0 hv h0
  | fn f v1 v2 x1 x2 hl1 hl2 h1 h2 ih1 ih2 =>
    have := Rep.fn (c := c) f v1 v2 (x1.map AV.share) (x2.map AV.share) (by simpa using hl1) (by simpa using hl2) ?_ ?_
    · simpa [AV.share, shareL_map] using this
    · intro j v y hv hy
      obtain ⟨y0, h0, rfl⟩ := getm hy
      exact ih1 j v y0 hv h0
    · intro j v y hv hy
      obtain ⟨y0, h0, rfl⟩ := getm hy
      exact ih2 j v y0 hv h0
  | iface t v x h ih => exact .iface t v _ ih

/-- a value of which the result is a reading -/
def Reads (r : AV) (e : AEnd) : Prop := ∃ x, e = .ret x ∧ x.share = r
theorem FCall.share {P : Program} {f : FuncId} {args : List AV} {hs : HS} {r : AV} (h : FCall P f args hs fun e _ => Reads r e) : FCall P f args hs fun e _ => e = .ret r := by
  refine ⟨h.ok, fun c w vs hi hv => (h.run c w vs hi hv).mono ?_⟩
  rintro e w' ⟨ae, hs', c', ⟨x, rfl, rfl⟩, he, h2, h3⟩
  refine ⟨.ret x.share, hs', c', rfl, ?_, h2, h3⟩
  cases e with
  | returned v => exact Rep.share (show Rep c' v x from he)
  | panicked ch => exact he
  | outgrown => exact he
theorem PCall.of {P : Program} {C : PCtx} (hC : CtxOk P C) {f : FuncId} {muts : List Nat} {pu : List FuncId} {ac : ACode} {rs : List ARes} {n : Nat} (hf : FnOk P f muts pu ac rs n) {args : List AV} {r : AV} (hn : args.length ≤ n) (hp : r.plain = true)
    (h : ∀ hs : HS, hs.bare → At (awp P C ac (finQ rs fun e _ => Reads r e) ⟨argEnv args, hs⟩)) : PCall P f args r :=
  ⟨hp, fun hs hb => FCall.share (FCall.of_body hC hf hn (h hs hb))⟩
@[simp] theorem At.reads {x r : AV} : At (Reads r (.ret x)) = (x.share = r) := by
  simp only [At, Reads, eq_iff_iff]
  exact ⟨fun ⟨y, h1, h2⟩ => by injection h1 with h1; subst h1; exact h2, fun h => ⟨x, rfl, h⟩⟩
@[simp] theorem share_int {k : IntKind} {n : Int} : (AV.int k n).share = .int k n := by simp only [AV.share]
@[simp] theorem share_bool {b : Bool} : (AV.bool b).share = .bool b := by simp only [AV.share]
@[simp] theorem share_nilsl : AV.nilsl.share = .nilsl := by simp only [AV.share]
@[simp] theorem share_sl {sz : Nat} {xs : List AV} {c : Cap} : (AV.sl sz xs c).share = .sl sz (xs.map AV.share) c.share := by simp only [AV.share, shareL_map]
@[simp] theorem share_tup {xs : List AV} : (AV.tup xs).share = .tup (xs.map AV.share) := by simp only [AV.share, shareL_map]
@[simp] theorem share_agg {xs : List AV} : (AV.agg xs).share = .agg (xs.map AV.share) := by simp only [AV.share, shareL_map]
@[simp] theorem share_ptr {x : AV} : (AV.ptr x).share = .ptr x.share := by simp only [AV.share]
@[simp] theorem share_iface {t : TypeId} {x : AV} : (AV.iface t x).share = .iface t x.share := by simp only [AV.share]
@[simp] theorem capshare_o {k : Nat} : (Cap.own k).share = .shared := id rfl
@[simp] theorem capshare_s : Cap.shared.share = .shared := id rfl
@[simp] theorem capshare_e : Cap.exact.share = .exact := id rfl
@[simp] theorem share_ints (l : List Int) : (ints l).map AV.share = ints l := by simp [ints]
@[simp] theorem asI_share {x : AV} {l : List Int} (h : asI x = some l) : asI x.share = some l := by
  rcases asI_inv h with ⟨rfl, rfl⟩ | ⟨c, rfl⟩
  · simp
  · have := asI_len h
    rw [share_sl, share_ints]
    exact asI_sl this
end Fw
set_option linter.unusedVariables false
set_option linter.unusedSimpArgs false
namespace Fw
open Go

/-- the elements of a slice, with a bound for their number -/
def asV (sz : Nat) : AV → Option (List AV)
  | .nilsl => some []
  | .sl sz' xs _ => if sz' = sz ∧ xs.length < 4294967296 then some xs else none
  | _ => none
theorem asV_inv {sz : Nat} {x : AV} {l : List AV} (h : asV sz x = some l) : ((x = .nilsl ∧ l = []) ∨ ∃ c, x = .sl sz l c) ∧ l.length < 4294967296 := by
  unfold asV at h
  split at h
  · injection h with h; subst h; exact ⟨.inl ⟨rfl, rfl⟩, by simp⟩
  · split at h <;> (try (cases h; done))
    rename_i hc
    obtain ⟨rfl, hl⟩ := hc
    injection h with h; subst h
    exact ⟨.inr ⟨_, rfl⟩, hl⟩
  · cases h
theorem asV_sl {sz : Nat} {l : List AV} {c : Cap} (h : l.length < 4294967296) : asV sz (.sl sz l c) = some l := by simp [asV, h]
@[simp] theorem asV_nil {sz : Nat} : asV sz .nilsl = some [] := id rfl
theorem asI_asV {x : AV} {l : List Int} (h : asI x = some l) : asV 1 x = some (ints l) := by
  have hl := asI_len h
  rcases asI_inv h with ⟨rfl, rfl⟩ | ⟨c, rfl⟩
  · rfl
  · exact asV_sl (by simpa using hl)
theorem asV_asI {x : AV} {l : List Int} (h : asV 1 x = some (ints l)) : asI x = some l := by
  obtain ⟨h1, h2⟩ := asV_inv h
  rcases h1 with ⟨rfl, h1⟩ | ⟨c, rfl⟩
  · cases l with
    | nil => rfl
    | cons a l => simp [ints] at h1
  · exact asI_sl (by simpa using h2)
theorem lenV {sz : Nat} {x : AV} {l : List AV} (h : asV sz x = some l) : alenK false x = some (.int .i64 l.length) := by
  rcases (asV_inv h).1 with ⟨rfl, rfl⟩ | ⟨c, rfl⟩ <;> rfl
theorem idxV {sz : Nat} {x : AV} {l : List AV} (h : asV sz x = some l) {k : IntKind} {i : Nat} (hi : i < l.length) : aidxS sz x (.int k (i : Int)) = some (.ptr l[i]) := by
  rcases (asV_inv h).1 with ⟨rfl, rfl⟩ | ⟨c, rfl⟩
  · simp at hi
  · simp [aidxS, hi]
@[simp] theorem load_ptr_pair {hp : Nat → Option (List AV)} {a b : AV} : aload hp true 2 (.ptr (.agg [a, b])) = some (.agg [a, b]) := id rfl
@[simp] theorem load_ptr_sl {hp : Nat → Option (List AV)} {sz : Nat} {xs : List AV} {c : Cap} : aload hp false 1 (.ptr (.sl sz xs c)) = some (.sl sz xs c) := id rfl
@[simp] theorem load_ptr_nil {hp : Nat → Option (List AV)} : aload hp false 1 (.ptr .nilsl) = some .nilsl := id rfl
theorem load_ptr_list {hp : Nat → Option (List AV)} {x : AV} {sz : Nat} {l : List AV} (h : asV sz x = some l) : aload hp false 1 (.ptr x) = some x := by
  rcases (asV_inv h).1 with ⟨rfl, rfl⟩ | ⟨c, rfl⟩ <;> rfl

/-! parts of slices -/
def takeV (n : Nat) : AV → AV
  | .sl sz xs _ => .sl sz (xs.take n) .shared
  | x => x
def dropV (n : Nat) : AV → AV
  | .sl sz xs c => .sl sz (xs.drop n) c
  | x => x
def clipV : AV → AV
  | .sl sz xs _ => .sl sz xs .exact
  | x => x
theorem slice_take {sz : Nat} {x : AV} {l : List AV} (h : asV sz x = some l) {n : Nat} (hn : n ≤ l.length) {k : IntKind} : aslice sz x none (some (.int k (n : Int))) none = some (takeV n x) := by
  rcases (asV_inv h).1 with ⟨rfl, rfl⟩ | ⟨c, rfl⟩
  · simp at hn; subst hn; rfl
  · simp [aslice, aidx, asliceL, takeV, hn]
theorem slice_drop {sz : Nat} {x : AV} {l : List AV} (h : asV sz x = some l) {n : Nat} (hn : n ≤ l.length) {k : IntKind} : aslice sz x (some (.int k (n : Int))) none none = some (dropV n x) := by
  rcases (asV_inv h).1 with ⟨rfl, rfl⟩ | ⟨c, rfl⟩
  · simp at hn; subst hn; rfl
  · simp [aslice, aidx, asliceL, dropV, hn]
theorem slice_clip {sz : Nat} {x : AV} {l : List AV} (h : asV sz x = some l) {k : IntKind} : aslice sz x none (some (.int k (l.length : Int))) (some (.int k (l.length : Int))) = some (clipV x) := by
  rcases (asV_inv h).1 with ⟨rfl, rfl⟩ | ⟨c, rfl⟩
  · rfl
  · simp [aslice, aidx, asliceL, clipV]
theorem asV_take {sz : Nat} {x : AV} {l : List AV} (h : asV sz x = some l) (n : Nat) : asV sz (takeV n x) = some (l.take n) := by
  obtain ⟨h1, h2⟩ := asV_inv h
  rcases h1 with ⟨rfl, rfl⟩ | ⟨c, rfl⟩
  · simp [takeV]
  · exact asV_sl (by simp; omega)
theorem asV_drop {sz : Nat} {x : AV} {l : List AV} (h : asV sz x = some l) (n : Nat) : asV sz (dropV n x) = some (l.drop n) := by
  obtain ⟨h1, h2⟩ := asV_inv h
  rcases h1 with ⟨rfl, rfl⟩ | ⟨c, rfl⟩
  · simp [dropV]
  · exact asV_sl (by simp; omega)
theorem asV_clip {sz : Nat} {x : AV} {l : List AV} (h : asV sz x = some l) : asV sz (clipV x) = some l := by
  obtain ⟨h1, h2⟩ := asV_inv h
  rcases h1 with ⟨rfl, rfl⟩ | ⟨c, rfl⟩
  · simp [clipV]
  · exact asV_sl h2
theorem ints_take (l : List Int) (n : Nat) : (ints l).take n = ints (l.take n) := by simp [ints, List.map_take]
theorem ints_drop (l : List Int) (n : Nat) : (ints l).drop n = ints (l.drop n) := by simp [ints, List.map_drop]
theorem asI_take {x : AV} {l : List Int} (h : asI x = some l) (n : Nat) : asI (takeV n x) = some (l.take n) := asV_asI (by rw [asV_take (asI_asV h), ints_take])
theorem asI_drop {x : AV} {l : List Int} (h : asI x = some l) (n : Nat) : asI (dropV n x) = some (l.drop n) := asV_asI (by rw [asV_drop (asI_asV h), ints_drop])
theorem asI_clip {x : AV} {l : List Int} (h : asI x = some l) : asI (clipV x) = some l := asV_asI (asV_clip (asI_asV h))
theorem ints_len (l : List Int) : (ints l).length = l.length := by simp [ints]

/-! slices that are built by appending -/
/-- may be appended to -/
def Fresh (hs : HS) : AV → Prop
  | .nilsl => True
  | .sl _ _ .exact => True
  | .sl _ _ (.own k) => hs.tok k = true ∧ k < hs.nt
  | _ => False
/-- how a built slice reads from outside: nil before the first element -/
def outV (sz : Nat) : List AV → AV
  | [] => .nilsl
  | l => .sl sz l .shared
/-- a slice under way that reads as a list from outside -/
structure Outs (sz : Nat) (hs : HS) (x : AV) (l : List AV) : Prop where
  fresh : Fresh hs x
  sh : x.share = outV sz l
theorem Outs.nil {sz : Nat} {hs : HS} : Outs sz hs .nilsl [] := ⟨trivial, by simp [outV]⟩
theorem outV_ne {sz : Nat} {l : List AV} (h : l ≠ []) : outV sz l = .sl sz l .shared := by cases l with | nil => exact absurd rfl h | cons a l => rfl
/-- what was appendable remains so -/
structure KeepT (hs hs' : HS) : Prop where
  nt : hs.nt ≤ hs'.nt
  tok : ∀ k, k < hs.nt → hs.tok k = true → hs'.tok k = true
theorem KeepT.refl (hs : HS) : KeepT hs hs := ⟨Nat.le_refl _, fun _ _ h => h⟩
theorem KeepT.trans {a b c : HS} (h : KeepT a b) (h' : KeepT b c) : KeepT a c := ⟨Nat.le_trans h.nt h'.nt, fun k hk ht => h'.tok k (Nat.lt_of_lt_of_le hk h.nt) (h.tok k hk ht)⟩
theorem Outs.keep {sz : Nat} {hs hs' : HS} {x : AV} {l : List AV} (h : Outs sz hs x l) (ht : KeepT hs hs') : Outs sz hs' x l := by
  refine ⟨?_, h.sh⟩
  have := h.fresh
  revert this
  unfold Fresh
  split <;> intro h
  · trivial
  · trivial
  · exact ⟨ht.tok _ h.2 h.1, Nat.lt_of_lt_of_le h.2 ht.nt⟩
  · exact h
theorem Outs.cong {sz : Nat} {hs hs' : HS} {x : AV} {l : List AV} (h : Outs sz hs x l) (ht : hs'.tok = hs.tok) (hn : hs'.nt = hs.nt) : Outs sz hs' x l := h.keep ⟨by omega, fun k _ h => by rw [ht]; exact h⟩
theorem Outs.inv {sz : Nat} {hs : HS} {x : AV} {l : List AV} (h : Outs sz hs x l) : (x = .nilsl ∧ l = []) ∨ ∃ xs k, x = .sl sz xs (.own k) ∧ (hs.tok k = true ∧ k < hs.nt) ∧ xs.map AV.share = l ∧ l ≠ [] := by
  obtain ⟨h1, h2⟩ := h
  cases l with
  | nil =>
    cases x <;> simp_all [outV, AV.share]
  | cons a l =>
    cases x <;> simp_all [outV, AV.share]
    rename_i sz' xs c
    cases c <;> simp_all [Fresh, Cap.share, shareL_map]
    exact ⟨_, _, ⟨rfl, rfl⟩, h1, h2.2⟩
/-- a state in which only the appendable places differ -/
structure SameMem (hs hs' : HS) : Prop where
  heap : hs'.heap = hs.heap
  nh : hs'.nh = hs.nh
theorem SameMem.refl (hs : HS) : SameMem hs hs := ⟨rfl, rfl⟩
theorem SameMem.trans {a b c : HS} (h : SameMem a b) (h' : SameMem b c) : SameMem a c := ⟨h'.heap.trans h.heap, h'.nh.trans h.nh⟩
theorem elems_of {sz : Nat} {q : AV} {ys : List AV} (hq : asV sz q = some ys) : aelems q = some ys ∧ aszOk sz q = true := by
  rcases (asV_inv hq).1 with ⟨rfl, rfl⟩ | ⟨c, rfl⟩
  · exact ⟨rfl, rfl⟩
  · exact ⟨rfl, by simp [aszOk]⟩
def appP (sz : Nat) (hs : HS) (xs ys : List AV) : AV → Option (AV × HS)
  | .nilsl => some (.sl sz ys (.own hs.nt), { hs with nt := hs.nt + 1, tok := fun t => if t = hs.nt then true else hs.tok t })
  | .sl _ _ .exact => some (.sl sz (xs ++ ys) (.own hs.nt), { hs with nt := hs.nt + 1, tok := fun t => if t = hs.nt then true else hs.tok t })
  | .sl _ _ (.own k) => if hs.tok k = true then some (.sl sz (xs ++ ys) (.own hs.nt), { hs with nt := hs.nt + 1, tok := fun t => if t = hs.nt then true else if t = k then false else hs.tok t }) else none
  | _ => none
theorem append_eq {sz : Nat} {hs : HS} {p q : AV} {xs ys : List AV} (hp : aelems p = some xs) (hq : aelems q = some ys) (h1 : aszOk sz p = true) (h2 : aszOk sz q = true) (hl : xs.length + ys.length ≤ 1073741824) :
    aappend sz hs p q = if ys = [] then some (p, hs) else appP sz hs xs ys p := by
  have e : ∀ {x : AV} {l : List AV}, aelems x = some l → aelemsH hs.heap x = some l := by
    intro x l hx
    cases x <;> first | exact hx | (simp [aelems] at hx)
  unfold aappend
  rw [e hp, e hq]
  simp only [h1, h2, hl, and_self, if_true]
  split
  · rfl
  · cases p with
    | sl sz' xs' cp => cases cp <;> rfl
    | msl ag sz' i off len ex => simp [aelems] at hp
    | _ => rfl
theorem append_outs {sz : Nat} {hs : HS} {x q : AV} {l ys : List AV} (h : Outs sz hs x l) (hq : asV sz q = some ys) (hl : l.length + ys.length ≤ 1073741824) :
    ∃ y hs', aappend sz hs x q = some (y, hs') ∧ Outs sz hs' y (l ++ ys.map AV.share) ∧ SameMem hs hs' := by
  obtain ⟨e1, e2⟩ := elems_of hq
  rcases h.inv with ⟨rfl, rfl⟩ | ⟨xs, k, rfl, htk, rfl, hne⟩
  · rw [append_eq (xs := []) rfl e1 rfl e2 (by simpa using hl)]
    split
    · rename_i hy; subst hy; exact ⟨_, _, rfl, .nil, .refl _⟩
    · rename_i hy
      refine ⟨_, _, rfl, ⟨by simp [Fresh], ?_⟩, ⟨rfl, rfl⟩⟩
      rw [outV_ne (by simpa using hy)]
      simp
  · rw [append_eq (xs := xs) rfl e1 (by simp [aszOk]) e2 (by simpa using hl)]
    split
    · rename_i hy; subst hy; exact ⟨_, _, rfl, by simpa using h, .refl _⟩
    · rename_i hy
      simp only [appP, htk.1, if_true]
      refine ⟨_, _, rfl, ⟨by simp [Fresh], ?_⟩, ⟨rfl, rfl⟩⟩
      rw [outV_ne (by simp [hy])]
      simp
/-- appending to an exact slice -/
theorem append_exact {sz : Nat} {hs : HS} {xs ys : List AV} {q : AV} (hq : asV sz q = some ys) (hl : xs.length + ys.length ≤ 1073741824) (hne : ys ≠ []) :
    ∃ hs', aappend sz hs (.sl sz xs .exact) q = some (.sl sz (xs ++ ys) (.own hs.nt), hs') ∧ hs'.tok hs.nt = true ∧ SameMem hs hs' ∧ KeepT hs hs' ∧ hs'.nt = hs.nt + 1 := by
  obtain ⟨e1, e2⟩ := elems_of hq
  rw [append_eq (xs := xs) rfl e1 (by simp [aszOk]) e2 hl, if_neg hne]
  exact ⟨_, rfl, by simp, ⟨rfl, rfl⟩, ⟨by simp, fun k hk h => by simp [h]⟩, rfl⟩
/-- a copy of a list, and one more element -/
theorem copy_snoc {hs : HS} {x : AV} {c : List Int} (hx : asI x = some c) (hne : c ≠ []) (hl : c.length ≤ 1000) (n : Int) :
    ∃ y1 hs1 y hs2, aappend 1 hs (.sl 1 [] .exact) x = some (y1, hs1) ∧ aappend 1 hs1 y1 (.sl 1 [.int .i64 n] .exact) = some (y, hs2) ∧ asI y = some (c ++ [n]) ∧ SameMem hs hs2 ∧ KeepT hs hs2 := by
  obtain ⟨hs1, a1, a2, a3, a4, a5⟩ := append_exact (sz := 1) (hs := hs) (xs := []) (q := x) (ys := ints c) (asI_asV hx) (by simp [ints]; omega) (by simpa [ints] using hne)
  obtain ⟨e1, e2⟩ := elems_of (sz := 1) (q := .sl 1 [.int .i64 n] .exact) (ys := [.int .i64 n]) (asV_sl (by simp))
  refine ⟨_, hs1, .sl 1 (ints c ++ [.int .i64 n]) (.own hs1.nt), { hs1 with nt := hs1.nt + 1, tok := fun t => if t = hs1.nt then true else if t = hs.nt then false else hs1.tok t }, a1, ?_, ?_, ⟨?_, ?_⟩, ⟨?_, ?_⟩⟩
  · rw [append_eq (xs := ints c) (by rfl) e1 (by simp [aszOk]) e2 (by simp [ints]; omega), if_neg (by simp)]
    simp only [appP, List.nil_append]
    rw [if_pos a2]
  · have : ints c ++ [.int .i64 n] = ints (c ++ [n]) := by simp [ints]
    rw [this]
    exact asI_sl (by simp; omega)
  · exact a3.heap
  · exact a3.nh
  · show hs.nt ≤ hs1.nt + 1
    omega
  · intro k hk h
    have := a4.tok k hk h
    show (if k = hs1.nt then true else if k = hs.nt then false else hs1.tok k) = true
    rw [if_neg (by omega), if_neg (by omega)]
    exact this
theorem mem_take_of {α : Type} {l : List α} {i j : Nat} (hj : j < i) (h : j < l.length) : l[j] ∈ l.take i := List.mem_take_iff_getElem.2 ⟨j, by omega, rfl⟩
theorem idxOf_of {l : List Int} {n : Int} {i : Nat} (hi : i < l.length) (e : l[i] = n) (hn : n ∉ l.take i) : l.idxOf n = i := by
  rw [List.idxOf.eq_1]
  refine (List.findIdx_eq hi).2 ⟨by simp [e], fun j hj => ?_⟩
  simp only [beq_eq_false_iff_ne, ne_eq]
  intro h
  exact hn (h ▸ mem_take_of hj (by omega))
/-! pairs of integers -/
abbrev prs (l : List (Int × Int)) : List AV := l.map fun p => .agg [.int .i64 p.1, .int .i64 p.2]
theorem plain_prs (l : List (Int × Int)) : plainL (prs l) = true := by
  induction l with
  | nil => rfl
  | cons a l ih => simp only [prs, List.map_cons, plainL, AV.plain, Bool.true_and, Bool.and_self]; exact ih
theorem take_eq_succ {α : Type} {a b : List α} {i : Nat} (h1 : i < a.length) (h2 : i < b.length) (h : a.take i = b.take i) (e : a[i] = b[i]) : a.take (i + 1) = b.take (i + 1) := by
  rw [take_snoc h1, take_snoc h2, h, e]
theorem ne_of_get {α : Type} {a b : List α} {i : Nat} (h1 : i < a.length) (h2 : i < b.length) (e : ¬ a[i] = b[i]) : a ≠ b := by
  intro h; subst h; exact e rfl
/-! blocks of two -/
@[simp] theorem store_new {hp : Nat → Option (List AV)} {i : Nat} {u v : AV} {k1 k2 : IntKind} {a b : Int} : astore (fun k => if k = i then some [u, v] else hp k) 2 (.ref i 0) (.agg [.int k1 a, .int k2 b]) = some (fun k => if k = i then some [.int k1 a, .int k2 b] else if k = i then some [u, v] else hp k) := by
  simp [astore, AV.sto, AV.cells, AV.leaf, setL]
@[simp] theorem idxA_ref0 {i : Nat} {k : IntKind} : aidxA 2 false 1 (.ref i 0) (.int k 0) = some (.ref i 0) := by simp [aidxA, afaddr]
@[simp] theorem idxA_ref1 {i : Nat} {k : IntKind} : aidxA 2 false 1 (.ref i 0) (.int k 1) = some (.ref i 1) := by simp [aidxA, afaddr]
@[simp] theorem load_ref_0 {hp : Nat → Option (List AV)} {i : Nat} {a b : AV} : aload (fun k => if k = i then some [a, b] else hp k) false 1 (.ref i 0) = some a := by simp [aload, apart]
@[simp] theorem load_ref_1 {hp : Nat → Option (List AV)} {i : Nat} {a b : AV} : aload (fun k => if k = i then some [a, b] else hp k) false 1 (.ref i 1) = some b := by simp [aload, apart]
@[simp] theorem index_pair0 {k : IntKind} {a b : AV} : aindex 2 false 1 (.agg [a, b]) (.int k 0) = some a := by simp [aindex, apart]
@[simp] theorem index_pair1 {k : IntKind} {a b : AV} : aindex 2 false 1 (.agg [a, b]) (.int k 1) = some b := by simp [aindex, apart]

/-! the first error of a row of checks -/
def firstE (f : Nat → Int) : Nat → Int
  | 0 => 0
  | n + 1 => if firstE f n ≠ 0 then firstE f n else f n
theorem firstE_zero {f : Nat → Int} {n : Nat} (h : ∀ k, k < n → f k = 0) : firstE f n = 0 := by
  induction n with
  | zero => rfl
  | succ n ih => simp [firstE, ih (fun k hk => h k (by omega)), h n (by omega)]
theorem firstE_hit {f : Nat → Int} {i : Nat} (h : ∀ k, k < i → f k = 0) (he : f i ≠ 0) : ∀ {n : Nat}, i < n → firstE f n = f i := by
  intro n
  induction n with
  | zero => intro hi; omega
  | succ n ih =>
    intro hi
    rcases Nat.lt_or_ge i n with h' | h'
    · simp [firstE, ih h', he]
    · have : i = n := by omega
      subst this
      simp [firstE, firstE_zero h]
theorem firstE_all {f : Nat → Int} {n : Nat} (h : firstE f n = 0) : ∀ k, k < n → f k = 0 := by
  induction n with
  | zero => intro k hk; omega
  | succ n ih =>
    intro k hk
    simp only [firstE] at h
    split at h
    · rename_i h'; exact absurd h h'
    · rename_i h'
      rcases Nat.lt_or_ge k n with hk' | hk'
      · exact ih (by simpa using h') k hk'
      · have : k = n := by omega
        subst this; exact h
theorem pair_of_adj {l : List Int} (h : ∀ k (hk : k + 1 < l.length), l[k] < l[k + 1]) : l.Pairwise (· < ·) := by
  rw [List.pairwise_iff_getElem]
  intro i j hi hj hij
  induction j with
  | zero => omega
  | succ j ih =>
    rcases Nat.lt_or_ge i j with h' | h'
    · have := ih (by omega) h'; have := h j hj; omega
    · have : i = j := by omega
      subst this; exact h i hj
/-! pairs behind pointers -/
@[simp] theorem faddr_p0 {a b : AV} : afaddr false 1 0 (.ptr (.agg [a, b])) = some (.ptr a) := by simp [afaddr, apart, AV.cells]
@[simp] theorem faddr_p1 {a b : AV} : afaddr false 1 1 (.ptr (.agg [a, b])) = some (.ptr b) := by simp [afaddr, apart, AV.cells]
@[simp] theorem sto_pair {k1 k2 : IntKind} {a b : Int} : (AV.agg [.int k1 a, .int k2 b]).sto = true := by simp [AV.sto, AV.leaf]
@[simp] theorem sto_int {k1 : IntKind} {a : Int} : (AV.int k1 a).sto = true := by simp [AV.sto, AV.leaf]
@[simp] theorem amin_int {k : IntKind} {a b : Int} : amin (.int k a) (.int k b) = some (.int k (if a ≤ b then a else b)) := by simp [amin, Int.min_def]
@[simp] theorem amax_int {k : IntKind} {a b : Int} : amax (.int k a) (.int k b) = some (.int k (if a ≤ b then b else a)) := by simp [amax, Int.max_def]
theorem any_take_succ {α : Type} {l : List α} {i : Nat} (hi : i < l.length) {f : α → Bool} : (l.take (i + 1)).any f = ((l.take i).any f || f l[i]) := by rw [take_snoc hi]; simp only [List.any_append, List.any_cons, List.any_nil, Bool.or_false]
/-! calls that use the caller's memory -/
theorem At.hc {P : Program} {f : FuncId} {args : List AV} {d : Option Nat} {K : AS → Prop} {Q : AEx → AS → Prop} {s : AS} {R : AEnd → HS → Prop} (h : FCall P f args s.hs R)
    (h1 : ∀ v hs', R (.ret v) hs' → At (K ((⟨s.env, hs'⟩ : AS).put d v))) (h2 : ∀ v hs', R (.panic v) hs' → At (Q (.panic v) ⟨s.env, hs'⟩)) : At (hcW P f args d K Q s) :=
  h.mono fun e hs' he => by cases e <;> first | exact h1 _ _ he | exact h2 _ _ he
@[simp] theorem At.cv {P : Program} {f : FuncId} {xs ys args : List AV} {d : Option Nat} {K : AS → Prop} {Q : AEx → AS → Prop} {s : AS} : At (cvW P (.fn (.func f) xs ys) args d K Q s) = At (hcW P f (xs ++ args ++ ys) d K Q s) := id rfl
@[simp] theorem At.pn {t : TypeId} {v : AV} {Q : AEx → AS → Prop} {s : AS} : At (pnW (.iface t v) Q s) = At (Q (.panic (.iface t v)) s) := id rfl
/-- memory that has grown, with all that was there as it was -/
structure HsExt (hs hs' : HS) : Prop where
  nh : hs.nh ≤ hs'.nh
  heap : ∀ i, i < hs.nh → hs'.heap i = hs.heap i
theorem HsExt.refl (hs : HS) : HsExt hs hs := ⟨Nat.le_refl _, fun _ _ => rfl⟩
theorem HsExt.trans {a b c : HS} (h : HsExt a b) (h' : HsExt b c) : HsExt a c := ⟨Nat.le_trans h.nh h'.nh, fun i hi => by rw [h'.heap i (Nat.lt_of_lt_of_le hi h.nh), h.heap i hi]⟩
theorem HsExt.same {a b : HS} (h : SameMem a b) : HsExt a b := ⟨by rw [h.nh]; exact Nat.le_refl _, fun i _ => by rw [h.heap]⟩
@[simp] theorem faddr_t0 {a b c : AV} : afaddr false 1 0 (.ptr (.agg [a, b, c])) = some (.ptr a) := by simp [afaddr, apart, AV.cells]
@[simp] theorem faddr_t1 {a b c : AV} : afaddr false 1 1 (.ptr (.agg [a, b, c])) = some (.ptr b) := by simp [afaddr, apart, AV.cells]
@[simp] theorem faddr_t2 {a b c : AV} : afaddr false 1 2 (.ptr (.agg [a, b, c])) = some (.ptr c) := by simp [afaddr, apart, AV.cells]
@[simp] theorem load_ptr_three {hp : Nat → Option (List AV)} {a b c : AV} : aload hp true 3 (.ptr (.agg [a, b, c])) = some (.agg [a, b, c]) := by simp [aload, apart, AV.cells]
theorem At.app_exact {sz : Nat} {hs : HS} {xs ys : List AV} {q : AV} {K : AV × HS → Prop} (hq : asV sz q = some ys) (hl : xs.length + ys.length ≤ 1073741824) (hne : ys ≠ [])
    (h : ∀ hs', hs'.tok hs.nt = true → SameMem hs hs' → KeepT hs hs' → At (K (.sl sz (xs ++ ys) (.own hs.nt), hs'))) : At (optK (aappend sz hs (.sl sz xs .exact) q) K) := by
  obtain ⟨hs', q1, q2, q3, q4, q5⟩ := append_exact (hs := hs) hq hl hne
  rw [q1]
  exact h hs' q2 q3 q4
/-! pieces of code -/
def cAt : List Bool → Code → Code
  | [], c => c
  | false :: p, .seq a _ => cAt p a
  | true :: p, .seq _ b => cAt p b
  | _, c => c
/-! blocks of one -/
theorem store_one {hp : Nat → Option (List AV)} {i : Nat} {u v : AV} (h : hp i = some [u]) (hv : v.sto = true) (hc : v.cells = [v]) : astore hp 1 (.ref i 0) v = some (fun k => if k = i then some [v] else hp k) := by
  simp [astore, h, hv, hc, setL]
theorem load_one {hp : Nat → Option (List AV)} {i : Nat} {u : AV} (h : hp i = some [u]) : aload hp false 1 (.ref i 0) = some u := by simp [aload, apart, h]
@[simp] theorem sto_sl {sz : Nat} {xs : List AV} {c : Cap} : (AV.sl sz xs c).sto = true := by simp [AV.sto, AV.leaf]
@[simp] theorem sto_nil : AV.nilsl.sto = true := by simp [AV.sto, AV.leaf]
@[simp] theorem cells_sl {sz : Nat} {xs : List AV} {c : Cap} : (AV.sl sz xs c).cells = [.sl sz xs c] := by simp [AV.cells]
@[simp] theorem cells_nil : AV.nilsl.cells = [.nilsl] := by simp [AV.cells]
@[simp] theorem cells_int {k : IntKind} {n : Int} : (AV.int k n).cells = [.int k n] := by simp [AV.cells]
end Fw
set_option linter.unusedVariables false
set_option linter.unusedSimpArgs false
namespace Fw
open Go Go.RowKit

def cm0 (W : World) : CM := { cl := fun b o => match W.cell? ⟨b, o, none⟩ with | some v => .imm v | none => .no, loc := fun _ => (0, 0), nh := 0, nt := 0, val := fun _ => false }
def hs0 : HS := ⟨fun _ => none, 0, 0, fun _ => false⟩
theorem cm0_nw (W : World) (b o : Nat) : ((cm0 W).cl b o).writable = false := by
  simp only [cm0]
  split <;> rfl
theorem inv0 (W : World) : Inv (cm0 W) hs0 W := by
  refine ⟨rfl, rfl, fun _ => rfl, fun k h => by simp [cm0] at h, fun b o v h => ?_, fun b o k h => ?_, fun i ys h => by simp [hs0] at h, fun b o hb => ?_⟩
  · simp only [cm0] at h
    split at h
    · rename_i u hu; injection h with h; subst h; exact hu
    · cases h
  · simp only [cm0] at h
    split at h <;> cases h
  · simp only [cm0]
    have : W.cell? ⟨b, o, none⟩ = none := by
      simp [World.cell?, hb]
    rw [this]
theorem grown0 {W W' : World} {c : CM} (h : Fr (cm0 W) W c W') : Grown W W' := by
  refine ⟨⟨h.os, h.out, fun i hi => ?_⟩, h.frz, h.size⟩
  have := h.blk i hi
  generalize hx : W.heap[i]? = x at this
  cases x with
  | none => simp at hx; omega
  | some x =>
    cases x with
    | cells cs e fr =>
      simp only [FrB] at this
      obtain ⟨cs', e1, e2, e3⟩ := this
      rw [e1]
      exact ⟨rfl, rfl, e2, fun j _ => e3 j (cm0_nw W i j)⟩
    | map es clock =>
      simp only [FrB] at this
      rw [this]
      exact .inr ⟨rfl, rfl⟩
    | _ =>
      simp only [FrB] at this
      rw [this]
theorem lift_true {P : Program} {f : FuncId} {args : List AV} (h : PCall P f args (.bool true)) {W : World} {vs : List Value} (hv : RepL (cm0 W) vs args) :
    Calls P f vs.toArray W fun e W' => e = .returned (.bool true) ∧ Grown W W' := by
  refine (h.sound (inv0 W) hv).mono ?_
  rintro e W' ⟨v, c', rfl, hr, _, hf⟩
  cases hr
  exact ⟨rfl, grown0 hf⟩
/-- a slice of numbers of the caller reads as one -/
theorem rep_ints {W : World} {b o cap : Nat} {zs : List Int} (hc : zs.length ≤ cap) (hcell : ∀ i, i < zs.length → W.cell? ⟨b, o + i, none⟩ = some (.int .i64 (zs.getD i 0))) :
    Rep (cm0 W) (.slice (some ⟨b, o, none⟩) zs.length cap) (.sl 1 (ints zs) .shared) := by
  have hflat : ∀ l : List Int, flat (ints l) = ints l := by
    intro l
    induction l with
    | nil => rfl
    | cons a l ih => simp only [ints, List.map_cons, flat, AV.cells]; rw [show List.map (AV.int .i64) l = ints l from rfl, ih]; rfl
  have := Rep.sl (c := cm0 W) b o cap 1 (ints zs) .shared (zs.map (Value.int .i64)) (by rw [hflat]; simp [ints]) (by
    intro x hx
    simp only [ints, List.mem_map] at hx
    obtain ⟨a, _, rfl⟩ := hx
    rfl) ?_ ?_ ?_ (by simpa [CapOk, ints] using hc)
  · simpa [ints] using this
  · intro j v hj
    rw [List.getElem?_map] at hj
    cases hz : zs[j]? with
    | none => rw [hz] at hj; cases hj
    | some a =>
      rw [hz] at hj; injection hj with hj; subst hj
      have hjl : j < zs.length := by
        rcases Nat.lt_or_ge j zs.length with h' | h'
        · exact h'
        · rw [List.getElem?_eq_none h'] at hz; cases hz
      have := hcell j hjl
      simp only [cm0, this]
      simp [List.getD, hz]
  · intro j v y hj hy
    rw [hflat] at hy
    simp only [ints, List.getElem?_map] at hj hy
    cases hz : zs[j]? with
    | none => rw [hz] at hj; cases hj
    | some a =>
      rw [hz] at hj hy
      injection hj with hj; injection hy with hy
      subst hj; subst hy
      exact .int .i64 a
  · intro j y hy
    rw [hflat] at hy
    simp only [ints, List.getElem?_map] at hy
    cases hz : zs[j]? with
    | none => rw [hz] at hy; cases hy
    | some a => rw [hz] at hy; injection hy with hy; subst hy; rfl
end Fw
set_option linter.unusedVariables false
set_option linter.unusedSimpArgs false
namespace Fw
open Go Go.RowKit Go.Deep Go.ChangeShapes Go.WideShapes

inductive Ty where
  | int (k : IntKind)
  | bool
  | str
  | sl (e : Ty)
  | st (r : Ty)
  | ar (n : Nat) (e : Ty)
  | fnil
  | fcons (f r : Ty)

def Ty.size : Ty → Nat
  | .int _ => 1
  | .bool => 1
  | .str => 1
  | .sl _ => 1
  | .st r => r.size
  | .ar n e => n * e.size
  | .fnil => 0
  | .fcons f r => f.size + r.size
def Ty.isAgg : Ty → Bool
  | .st _ => true
  | .ar _ _ => true
  | _ => false

/-- that a type of the program is of this form: (as a type, as a row of fields from an offset on); inside slices: no slices -/
def Ty.ok (P : Program) : Ty → Bool → (TypeId → Bool) × (List Field → Nat → Bool)
  | .int k, _ => (fun t => match P.underlying t with | some (.int k') => decide (k' = k) && decide (P.cellsOf t = 1) | _ => false, fun _ _ => false)
  | .bool, _ => (fun t => match P.underlying t with | some .bool => decide (P.cellsOf t = 1) | _ => false, fun _ _ => false)
  | .str, _ => (fun t => match P.underlying t with | some .string => decide (P.cellsOf t = 1) | _ => false, fun _ _ => false)
  | .sl e, inner => (fun t => match P.underlying t with | some (.slice te) => !inner && decide (P.cellsOf t = 1) && decide (P.cellsOf te = e.size) && decide (0 < e.size) && (e.ok P true).1 te | _ => false, fun _ _ => false)
  | .st r, inner => (fun t => match P.underlying t with | some (.struct fs) => decide (P.cellsOf t = r.size) && (r.ok P inner).2 fs.toList 0 | _ => false, fun _ _ => false)
  | .ar n e, inner => (fun t => match P.underlying t with | some (.array m te) => decide (m = n) && decide (P.cellsOf t = n * e.size) && decide (P.cellsOf te = e.size) && (e.ok P inner).1 te | _ => false, fun _ _ => false)
  | .fnil, _ => (fun _ => false, fun fs _ => fs.isEmpty)
  | .fcons f r, inner => (fun _ => false, fun fs off => match fs with | fd :: fds => decide (fd.offset = off) && decide (P.cellsOf fd.type = f.size) && (f.ok P inner).1 fd.type && (r.ok P inner).2 fds (off + f.size) | [] => false)

/-- what cells of a type read as -/
def Sh : Ty → List AV → Prop
  | .int k, cs => ∃ n, cs = [.int k n] ∧ (Lit.int k n).wf = true
  | .bool, cs => ∃ b, cs = [.bool b]
  | .str, cs => ∃ s, cs = [.str s]
  | .sl e, cs => cs = [.nilsl] ∨ ∃ xs, cs = [.sl e.size xs .shared] ∧ xs.length ≤ maxLen ∧ ∀ x ∈ xs, Sh e x.cells ∧ (if e.isAgg = true then x = .agg x.cells else x.cells = [x])
  | .st r, cs => Sh r cs
  | .ar n e, cs => ∃ ls : List (List AV), cs = ls.flatten ∧ ls.length = n ∧ ∀ l ∈ ls, Sh e l
  | .fnil, cs => cs = []
  | .fcons f r, cs => ∃ a b, cs = a ++ b ∧ Sh f a ∧ Sh r b
def ShV (T : Ty) (x : AV) : Prop := Sh T x.cells ∧ (if T.isAgg = true then x = .agg x.cells else x.cells = [x])

theorem Sh.len : ∀ {T : Ty} {cs : List AV}, Sh T cs → cs.length = T.size
  | .int k, cs, h => by obtain ⟨n, rfl, _⟩ := h; rfl
  | .bool, cs, h => by obtain ⟨n, rfl⟩ := h; rfl
  | .str, cs, h => by obtain ⟨n, rfl⟩ := h; rfl
  | .sl e, cs, h => by rcases h with rfl | ⟨xs, rfl, _⟩ <;> rfl
  | .st r, cs, h => Sh.len (T := r) h
  | .ar n e, cs, h => by
    obtain ⟨ls, rfl, rfl, h⟩ := h
    simp only [Ty.size]
    induction ls with
    | nil => simp
    | cons l ls ih =>
      have h1 := Sh.len (h l (by simp))
      have h2 := ih (fun l hl => h l (by simp [hl]))
      simp only [List.flatten_cons, List.length_append, List.length_cons, h1, h2, Nat.add_mul, Nat.one_mul]
      omega
  | .fnil, cs, h => by rw [show cs = [] from h]; rfl
  | .fcons f r, cs, h => by
    obtain ⟨a, b, rfl, h1, h2⟩ := h
    have := h1.len
    have := h2.len
    simp only [List.length_append, Ty.size]; omega

theorem flat_len {sz : Nat} : ∀ {xs : List AV}, (∀ x ∈ xs, x.cells.length = sz) → (flat xs).length = xs.length * sz
  | [], _ => by simp [flat]
  | x :: xs, h => by
    have := flat_len (xs := xs) (fun y hy => h y (by simp [hy]))
    have := h x (by simp)
    simp only [flat, List.length_append, List.length_cons, Nat.add_mul, Nat.one_mul]; omega
theorem flat_get {sz : Nat} : ∀ {xs : List AV}, (∀ x ∈ xs, x.cells.length = sz) → ∀ (i r : Nat) (hi : i < xs.length), r < sz → (flat xs)[i * sz + r]? = (xs[i]).cells[r]?
  | [], _, i, r, hi, _ => by simp at hi
  | x :: xs, h, 0, r, hi, hr => by
    have h1 := h x (by simp)
    simp only [flat, Nat.zero_mul, Nat.zero_add, List.getElem_cons_zero]
    rw [List.getElem?_append_left (by omega)]
  | x :: xs, h, i + 1, r, hi, hr => by
    have h1 := h x (by simp)
    simp only [flat, List.getElem_cons_succ]
    rw [List.getElem?_append_right (by rw [h1, Nat.add_mul]; omega), h1, show (i + 1) * sz + r - sz = i * sz + r by rw [Nat.add_mul]; omega]
    exact flat_get (fun y hy => h y (by simp [hy])) i r (by simpa using hi) hr

theorem grown_cell {W W' : World} (h : Grown W W') {a : Addr} {v : Value} (hc : W.cell? a = some v) : W'.cell? a = some v := by
  have hlt : a.block < W.heap.size := by
    rcases Nat.lt_or_ge a.block W.heap.size with h' | h'
    · exact h'
    · simp [World.cell?, h'] at hc
  have hk := h.1.2.2 a.block hlt
  unfold World.cell? at hc ⊢
  generalize W.heap[a.block]? = x at hk hc
  cases x with
  | none => cases hc
  | some x =>
    cases x <;> simp only at hc <;> (try (cases hc; done))
    rename_i cs t fr
    generalize W'.heap[a.block]? = y at hk ⊢
    cases y with
    | none => simp at hk
    | some y =>
      cases y <;> simp at hk
      rename_i cs' t' fr'
      simp only
      split at hc
      · cases hc
      · rename_i hsp
        rw [if_neg hsp, hk.2.2.2 a.off]; exact hc
theorem grown_cells {W W' : World} (h : Grown W W') {b : Nat} {a : Addr} {n : Nat} {cs : List Value} (hc : W.cells? b a n = some cs) : W'.cells? b a n = some cs := by
  obtain ⟨h1, h2, h3⟩ := World.cells?_some hc
  have key : ∀ i, i < n → W'.cell? (a.add i) = some (cs.getD i undef) := fun i hi => by
    have := h3 i hi
    rw [List.getElem?_eq_getElem (by omega)] at this
    rw [grown_cell h this]
    simp [List.getD, List.getElem?_eq_getElem (show i < cs.length by omega)]
  unfold World.cells?
  rw [if_pos h1, Go.ChangeShapes.mapM_range_of n key]
  congr 1
  apply List.ext_getElem
  · simp [h2]
  · intro i h4 h5
    simp [List.getD, h5]

variable {H : Type} {enc : TypeId × Value → H} {P : Program} {W : World}

/-- what is known of cells that read -/
structure Opn (P : Program) (enc : TypeId × Value → H) (W : World) (T : Ty) (cs : List Value) (xs : List AV) : Prop where
  rep : RepL (cm0 W) cs xs
  leaf : ∀ (j : Nat) (y : AV), xs[j]? = some y → y.leaf = true
  sh : Sh T xs

def Again (P : Program) (enc : TypeId × Value → H) (W : World) (t : TypeId) (cs : List Value) (d : DataW H) (p : List MemPlace) : Prop :=
  ∀ W', Grown W W' → ∀ sp : Nat → Bool, (∀ q ∈ p, sp q.block = true) → ∃ n, DataW.trod enc P W' 0 sp true n t cs = some (d, p)
def NoSpot (cs : List Value) : Prop := ∀ (a : Addr) (l c : Nat), Value.slice (some a) l c ∈ cs → a.spot = none

def MotT (P : Program) (enc : TypeId × Value → H) (W : World) (T : Ty) : Prop := ∀ (inner : Bool) (t : TypeId) (fuel : Nat) (cs : List Value) (d : DataW H) (p : List MemPlace), (T.ok P inner).1 t = true → (inner = false → NoSpot cs) →
  DataW.trod enc P W 0 (fun _ => true) true fuel t cs = some (d, p) → (∃ xs, Opn P enc W T cs xs) ∧ Again P enc W t cs d p
def MotR (P : Program) (enc : TypeId × Value → H) (W : World) (T : Ty) : Prop := ∀ (inner : Bool) (fds : List Field) (off n : Nat) (cs : List Value) (ys : List (DataW H × List MemPlace)), (T.ok P inner).2 fds off = true → (inner = false → NoSpot cs) →
  (∀ (i : Nat) (f : Field), fds[i]? = some f → DataW.trod enc P W 0 (fun _ => true) true n f.type ((cs.drop f.offset).take (P.cellsOf f.type)) = ys[i]?) → ys.length = fds.length → cs.length = off + T.size →
  (∃ xs, Opn P enc W T (cs.drop off) xs) ∧ ∀ W', Grown W W' → ∀ sp : Nat → Bool, (∀ q ∈ ys.flatMap (·.2), sp q.block = true) → ∃ m, fds.mapM (fun f => DataW.trod enc P W' 0 sp true m f.type ((cs.drop f.offset).take (P.cellsOf f.type))) = some ys

theorem leaf1 {x : AV} (h : x.leaf = true) : ∀ (j : Nat) (y : AV), [x][j]? = some y → y.leaf = true := by
  intro j y hy
  cases j with
  | zero => simp at hy; subst hy; exact h
  | succ j => simp at hy
theorem leaf_app {a b : List AV} (ha : ∀ (j : Nat) (y : AV), a[j]? = some y → y.leaf = true) (hb : ∀ (j : Nat) (y : AV), b[j]? = some y → y.leaf = true) : ∀ (j : Nat) (y : AV), (a ++ b)[j]? = some y → y.leaf = true := by
  intro j y hy
  rw [List.getElem?_append] at hy
  split at hy
  · exact ha _ _ hy
  · exact hb _ _ hy
theorem RepL.len {c : CM} {vs : List Value} {xs : List AV} (h : RepL c vs xs) : vs.length = xs.length := h.1
theorem nospot_drop {cs : List Value} (h : NoSpot cs) (n : Nat) : NoSpot (cs.drop n) := fun a l c hm => h a l c (List.mem_of_mem_drop hm)
theorem nospot_take {cs : List Value} (h : NoSpot cs) (n : Nat) : NoSpot (cs.take n) := fun a l c hm => h a l c (List.mem_of_mem_take hm)

section
variable {base : Nat} {spare : Nat → Bool} {held : Bool} {fuel : Nat} {t : TypeId} {cs : List Value} {d : DataW H} {p : List MemPlace}
theorem trod_int {k : IntKind} (ht : P.underlying t = some (.int k)) (h : DataW.trod enc P W base spare held fuel t cs = some (d, p)) : ∃ m, cs = [.int k m] ∧ (Lit.int k m).wf = true ∧ d = .lit (.int k m) ∧ p = [] := by
  cases fuel with
  | zero => simp [DataW.trod] at h
  | succ n =>
    unfold DataW.trod at h
    rw [ht] at h
    split at h <;> simp_all
theorem trod_bool {t : TypeId} (ht : P.underlying t = some .bool) (h : DataW.trod enc P W base spare held fuel t cs = some (d, p)) : ∃ m, cs = [.bool m] ∧ d = .lit (.bool m) ∧ p = [] := by
  cases fuel with
  | zero => simp [DataW.trod] at h
  | succ n =>
    unfold DataW.trod at h
    rw [ht] at h
    split at h <;> simp_all
theorem trod_str {t : TypeId} (ht : P.underlying t = some .string) (h : DataW.trod enc P W base spare held fuel t cs = some (d, p)) : ∃ s, cs = [.string s] ∧ s.size ≤ maxLen ∧ d = .lit (.string s.data.toList) ∧ p = [] := by
  cases fuel with
  | zero => simp [DataW.trod] at h
  | succ n =>
    unfold DataW.trod at h
    rw [ht] at h
    split at h <;> simp_all
theorem trod_array_mk {n m : Nat} {e : TypeId} {xs : List (DataW H × List MemPlace)} (ht : P.underlying t = some (.array n e)) (hl : cs.length = P.cellsOf t)
    (hp : (List.range n).mapM (fun i => DataW.trod enc P W base spare held m e ((cs.drop (i * P.cellsOf e)).take (P.cellsOf e))) = some xs) :
    DataW.trod enc P W base spare held (m + 1) t cs = some (.agg (xs.map (·.1)), xs.flatMap (·.2)) := by
  unfold DataW.trod
  rw [ht]
  split <;> simp_all
end

theorem mot_int (k : IntKind) : MotT P enc W (.int k) := by
  intro inner t fuel cs d p hok hns h
  simp only [Ty.ok] at hok
  split at hok <;> (try (cases hok; done))
  rename_i k' hu
  simp at hok
  obtain ⟨rfl, hc⟩ := hok
  obtain ⟨m, rfl, hwf, rfl, rfl⟩ := trod_int hu h
  refine ⟨⟨[.int _ m], ⟨.cons (.int _ m) .nil, leaf1 rfl, ⟨m, rfl, hwf⟩⟩⟩, fun W' hg sp hsp => ⟨1, ?_⟩⟩
  unfold DataW.trod
  simp [hu, hwf]
theorem mot_bool : MotT P enc W .bool := by
  intro inner t fuel cs d p hok hns h
  simp only [Ty.ok] at hok
  split at hok <;> (try (cases hok; done))
  rename_i hu
  obtain ⟨m, rfl, rfl, rfl⟩ := trod_bool hu h
  refine ⟨⟨[.bool m], ⟨.cons (.bool m) .nil, leaf1 rfl, ⟨m, rfl⟩⟩⟩, fun W' hg sp hsp => ⟨1, ?_⟩⟩
  unfold DataW.trod
  simp [hu]
theorem mot_str : MotT P enc W .str := by
  intro inner t fuel cs d p hok hns h
  simp only [Ty.ok] at hok
  split at hok <;> (try (cases hok; done))
  rename_i hu
  obtain ⟨m, rfl, hm, rfl, rfl⟩ := trod_str hu h
  refine ⟨⟨[.str m], ⟨.cons (.str m) .nil, leaf1 rfl, ⟨m, rfl⟩⟩⟩, fun W' hg sp hsp => ⟨1, ?_⟩⟩
  unfold DataW.trod
  simp [hu, hm]
theorem flat_leaf : ∀ {xs : List AV}, (∀ x ∈ xs, ∀ (j : Nat) (y : AV), x.cells[j]? = some y → y.leaf = true) → ∀ (j : Nat) (y : AV), (flat xs)[j]? = some y → y.leaf = true
  | [], _, j, y, h => by simp [flat] at h
  | x :: xs, hx, j, y, h => leaf_app (hx x (by simp)) (flat_leaf fun x h => hx x (by simp [h])) j y h
/-- one value out of its cells -/
def mkV (T : Ty) (xs : List AV) : AV := if T.isAgg = true then .agg xs else xs.headD .nilsl
theorem mkV_is {T : Ty} {xs : List AV} (h : Sh T xs) (hlf : ∀ (j : Nat) (y : AV), xs[j]? = some y → y.leaf = true) (h1 : T.isAgg = false → xs.length = 1) : (mkV T xs).cells = xs ∧ ShV T (mkV T xs) := by
  have hc : (mkV T xs).cells = xs := by
    unfold mkV
    split
    · rfl
    · rename_i ha
      have hl := h1 (by simpa using ha)
      match xs, hl with
      | [x], _ =>
        have := hlf 0 x rfl
        cases x <;> simp_all [AV.leaf, AV.cells]
  refine ⟨hc, ?_, ?_⟩
  · rw [hc]; exact h
  · rw [hc]
    unfold mkV
    split
    · rfl
    · rename_i ha
      have hl := h1 (by simpa using ha)
      match xs, hl with
      | [x], _ => rfl
theorem ok_size1 {T : Ty} {inner : Bool} {t : TypeId} (h : (T.ok P inner).1 t = true) (ha : T.isAgg = false) : T.size = 1 := by
  cases T <;> simp_all [Ty.isAgg, Ty.size, Ty.ok]

theorem mot_sl {e : Ty} (ihe : MotT P enc W e) : MotT P enc W (.sl e) := by
  intro inner t fuel cs d p hok hns h
  simp only [Ty.ok] at hok
  split at hok <;> (try (cases hok; done))
  rename_i te hu
  simp at hok
  obtain ⟨⟨⟨⟨hin, hc1⟩, hce⟩, hpos⟩, hoke⟩ := hok
  subst hin
  rcases open_slice hu h with ⟨rfl, hx⟩ | ⟨a, len, cap, m, n, D, Pl, rfl, hb, hl, hm, hmm, hx, hel⟩
  · injection hx with h1 h2; subst h1; subst h2
    refine ⟨⟨[.nilsl], ⟨.cons .nilsl .nil, leaf1 rfl, .inl rfl⟩⟩, fun W' hg sp hsp => ⟨1, ?_⟩⟩
    unfold DataW.trod
    simp [hu]
  · have hspot := hns rfl a len cap (by simp)
    obtain ⟨b, o, sp0⟩ := a
    simp only at hspot
    subst hspot
    simp only [if_true] at hmm
    have hmm' := hmm.symm
    subst hmm'
    injection hx with h1 h2
    rw [hce] at hel h2
    generalize hz : e.size = z at *
    -- each element
    have helt : ∀ i, i < len → ∃ xs, (∃ cs', W.cells? 0 (Addr.add ⟨b, o, none⟩ (i * z)) z = some cs' ∧ Opn P enc W e cs' xs) := fun i hi => by
      obtain ⟨cs', g1, g2⟩ := hel i (by omega)
      obtain ⟨⟨xs, hxs⟩, _⟩ := ihe true te n cs' (D i) (Pl i) hoke (fun h => by cases h) g2
      exact ⟨xs, cs', g1, hxs⟩
    obtain ⟨F, hF⟩ := choose_lt helt
    have hFl : ∀ i, i < len → (F i).length = z := fun i hi => by
      obtain ⟨cs', g1, g2⟩ := hF i hi
      rw [g2.sh.len, hz]
    have hone : e.isAgg = false → ∀ i, i < len → (F i).length = 1 := fun ha i hi => by rw [hFl i hi, ← hz]; exact ok_size1 hoke ha
    have hmk : ∀ i, i < len → (mkV e (F i)).cells = F i ∧ ShV e (mkV e (F i)) := fun i hi => by
      obtain ⟨cs', g1, g2⟩ := hF i hi
      exact mkV_is g2.sh g2.leaf (fun ha => hone ha i hi)
    let xs : List AV := (List.range len).map fun i => mkV e (F i)
    have hxl : xs.length = len := by simp [xs]
    have hxz : ∀ x ∈ xs, x.cells.length = z := by
      intro x hx
      simp only [xs, List.mem_map, List.mem_range] at hx
      obtain ⟨i, hi, rfl⟩ := hx
      rw [(hmk i hi).1, hFl i hi]
    let vs : List Value := (List.range (len * z)).map fun j => (W.cell? ⟨b, o + j, none⟩).getD undef
    have hvl : vs.length = len * z := by simp [vs]
    have hfl : (flat xs).length = len * z := by rw [flat_len hxz, hxl]
    -- each cell
    have hcell : ∀ i r, i < len → r < z → ∃ v y, W.cell? ⟨b, o + (i * z + r), none⟩ = some v ∧ (F i)[r]? = some y ∧ Rep (cm0 W) v y := fun i r hi hr => by
      obtain ⟨cs', g1, g2⟩ := hF i hi
      obtain ⟨_, g3, g4⟩ := World.cells?_some g1
      have hy : (F i)[r]? = some ((F i)[r]'(by rw [hFl i hi]; exact hr)) := by simp [hFl i hi, hr]
      obtain ⟨v, hv1, hv2⟩ := g2.rep.get hy
      refine ⟨v, _, ?_, hy, hv2⟩
      have := g4 r hr
      rw [Go.Deep.add_add, add_plain, hv1] at this
      exact this
    have hdiv : ∀ j, j < len * z → j / z < len ∧ j % z < z ∧ j = j / z * z + j % z := fun j hj => by
      refine ⟨(Nat.div_lt_iff_lt_mul hpos).2 hj, Nat.mod_lt _ hpos, ?_⟩
      rw [Nat.mul_comm]; exact (Nat.div_add_mod j z).symm
    have hall : ∀ j, j < len * z → ∃ v y, W.cell? ⟨b, o + j, none⟩ = some v ∧ vs[j]? = some v ∧ (flat xs)[j]? = some y ∧ Rep (cm0 W) v y := fun j hj => by
      obtain ⟨h1, h2, h3⟩ := hdiv j hj
      obtain ⟨v, y, g1, g2, g3⟩ := hcell _ _ h1 h2
      rw [← h3] at g1
      refine ⟨v, y, g1, by simp [vs, hj, g1], ?_, g3⟩
      rw [h3, flat_get hxz _ _ (by rw [hxl]; exact h1) h2]
      have : xs[j / z]'(by rw [hxl]; exact h1) = mkV e (F (j / z)) := by simp [xs]
      rw [this, (hmk _ h1).1]
      exact g2
    have hrep : Rep (cm0 W) (.slice (some ⟨b, o, none⟩) xs.length cap) (.sl z xs .shared) := by
      refine .sl b o cap z xs .shared vs (by rw [hvl, hfl]) hxz ?_ ?_ ?_ (by simpa [CapOk, hxl] using hl)
      · intro j v hj
        have hjl : j < len * z := by
          rcases Nat.lt_or_ge j (len * z) with h' | h'
          · exact h'
          · rw [List.getElem?_eq_none (by omega)] at hj; cases hj
        obtain ⟨v', y, g1, g2, _⟩ := hall j hjl
        rw [g2] at hj; injection hj with hj; subst hj
        simp only [cm0, g1]
      · intro j v y hj hy
        have hjl : j < len * z := by
          rcases Nat.lt_or_ge j (len * z) with h' | h'
          · exact h'
          · rw [List.getElem?_eq_none (by omega)] at hj; cases hj
        obtain ⟨v', y', g1, g2, g3, g4⟩ := hall j hjl
        rw [g2] at hj; injection hj with hj; subst hj
        rw [g3] at hy; injection hy with hy; subst hy
        exact g4
      · refine flat_leaf fun x hx => ?_
        simp only [xs, List.mem_map, List.mem_range] at hx
        obtain ⟨i, hi, rfl⟩ := hx
        rw [(hmk i hi).1]
        obtain ⟨cs', g1, g2⟩ := hF i hi
        exact g2.leaf
    rw [hxl] at hrep
    refine ⟨⟨[.sl z xs .shared], ⟨.cons hrep .nil, leaf1 rfl, .inr ⟨xs, by rw [hz], by omega, ?_⟩⟩⟩, ?_⟩
    · intro x hx
      simp only [xs, List.mem_map, List.mem_range] at hx
      obtain ⟨i, hi, rfl⟩ := hx
      exact (hmk i hi).2
    · intro W' hg sp hsp
      have hre : ∀ i, i < cap → sp b = true → ∃ cs' k, W'.cells? 0 (Addr.add ⟨b, o, none⟩ (i * P.cellsOf te)) (P.cellsOf te) = some cs' ∧ DataW.trod enc P W' 0 sp true k te cs' = some (D i, Pl i) := fun i hi hb => by
        obtain ⟨cs', g1, g2⟩ := hel i hi
        obtain ⟨_, hag⟩ := ihe true te n cs' (D i) (Pl i) hoke (fun h => by cases h) g2
        obtain ⟨k, hk⟩ := hag W' hg sp (fun q hq => hsp q (by
          rw [h2]
          refine List.mem_append_right _ ?_
          rw [List.mem_flatMap]
          exact ⟨i, by simpa using hi, hq⟩))
        rw [hce]
        exact ⟨cs', k, grown_cells hg g1, hk⟩
      by_cases hc0 : cap = 0
      · subst hc0
        have : len = 0 := by omega
        subst this
        cases hsb : sp b with
        | true =>
          obtain ⟨n', hn'⟩ := Go.Deep.shut_slice_whole_cells (enc := enc) (w := W') (held := true) (base := 0) (spare := sp) (a := ⟨b, o, none⟩) hu hb hl hm hsb D Pl (fun i hi => by omega)
          refine ⟨n', ?_⟩
          rw [hn', h1, h2]
          simp
        | false =>
          obtain ⟨n', hn'⟩ := Go.Deep.shut_slice_cells (enc := enc) (w := W') (held := true) (base := 0) (spare := sp) (a := ⟨b, o, none⟩) hu hb hl hm hsb D Pl (fun i hi => by omega)
          refine ⟨n', ?_⟩
          rw [hn', h1, h2]
          simp
      · have hsb : sp b = true := hsp (.cell b o) (by
          rw [h2]
          refine List.mem_append_left _ ?_
          rw [MemPlace.mem_row]
          exact ⟨0, Nat.mul_pos (by omega) hpos, rfl⟩)
        obtain ⟨n', hn'⟩ := Go.Deep.shut_slice_whole_cells (enc := enc) (w := W') (held := true) (base := 0) (spare := sp) (a := ⟨b, o, none⟩) hu hb hl hm hsb D Pl (fun i hi => hre i hi hsb)
        refine ⟨n', ?_⟩
        rw [hn', h1, h2, hce]

theorem mapM_list {α β : Type} {f : α → Option β} : ∀ {l : List α} {r : List β}, r.length = l.length → (∀ (i : Nat) (a : α), l[i]? = some a → f a = r[i]?) → l.mapM f = some r
  | [], r, hl, h => by
    have : r = [] := List.length_eq_zero_iff.1 hl
    subst this; rfl
  | a :: l, [], hl, h => by simp at hl
  | a :: l, b :: r, hl, h => by
    have h0 := h 0 a rfl
    have ih := mapM_list (f := f) (l := l) (r := r) (by simpa using hl) (fun i x hx => h (i + 1) x hx)
    simp [List.mapM_cons, h0, ih]

theorem mot_fnil : MotR P enc W .fnil := by
  intro inner fds off n cs ys hok hns hf hyl hl
  simp [Ty.ok] at hok
  subst hok
  have hy : ys = [] := List.length_eq_zero_iff.1 hyl
  subst hy
  refine ⟨⟨[], ⟨?_, fun j y h => by simp at h, rfl⟩⟩, fun W' hg sp hsp => ⟨0, rfl⟩⟩
  rw [List.drop_eq_nil_of_le (by simp [Ty.size] at hl; omega)]
  exact .nil
theorem mot_fcons {f r : Ty} (ihf : MotT P enc W f) (ihr : MotR P enc W r) : MotR P enc W (.fcons f r) := by
  intro inner fds off n cs ys hok hns hf hyl hl
  cases fds with
  | nil => simp [Ty.ok] at hok
  | cons fd fds =>
    simp [Ty.ok] at hok
    obtain ⟨⟨⟨ho, hc⟩, hokf⟩, hokr⟩ := hok
    cases ys with
    | nil => simp at hyl
    | cons y ys =>
      have h0 := hf 0 fd rfl
      simp only [List.getElem?_cons_zero] at h0
      obtain ⟨⟨xs, hxs⟩, hag⟩ := ihf inner fd.type n _ y.1 y.2 hokf (fun hi => nospot_take (nospot_drop (hns hi) _) _) h0
      obtain ⟨⟨xr, hxr⟩, hagr⟩ := ihr inner fds (off + f.size) n cs ys hokr hns (fun i g hg => by simpa using hf (i + 1) g (by simpa using hg)) (by simpa using hyl) (by simp only [Ty.size] at hl; omega)
      have hsplit : cs.drop off = (cs.drop fd.offset).take (P.cellsOf fd.type) ++ cs.drop (off + f.size) := by
        rw [ho, hc, ← List.drop_drop, List.take_append_drop]
      refine ⟨⟨xs ++ xr, ⟨?_, leaf_app hxs.leaf hxr.leaf, ⟨xs, xr, rfl, hxs.sh, hxr.sh⟩⟩⟩, fun W' hg sp hsp => ?_⟩
      · rw [hsplit]; exact hxs.rep.append hxr.rep
      · obtain ⟨k, hk⟩ := hag W' hg sp (fun q hq => hsp q (by simp [hq]))
        obtain ⟨m, hm⟩ := hagr W' hg sp (fun q hq => hsp q (by simp only [List.flatMap_cons, List.mem_append]; exact .inr hq))
        refine ⟨max k m, ?_⟩
        have hk' := DataW.trod_le (Nat.le_max_left k m) hk
        have hm' : fds.mapM (fun f => DataW.trod enc P W' 0 sp true (max k m) f.type ((cs.drop f.offset).take (P.cellsOf f.type))) = some ys :=
          mapM_carry hm fun x y hx hy he => DataW.trod_le (Nat.le_max_right k m) he
        simp only [List.mapM_cons, hk', hm']
        rfl
theorem mot_st {r : Ty} (ihr : MotR P enc W r) : MotT P enc W (.st r) := by
  intro inner t fuel cs d p hok hns h
  simp only [Ty.ok] at hok
  split at hok <;> (try (cases hok; done))
  rename_i fs hu
  simp at hok
  obtain ⟨hc, hokr⟩ := hok
  obtain ⟨ys, n, rfl, hx, hl, hyl, hf⟩ := DataW.trod_struct hu h
  injection hx with h1 h2
  obtain ⟨⟨xs, hxs⟩, hag⟩ := ihr inner fs.toList 0 n cs ys hokr hns (fun i f hi => hf i f (by simpa using hi)) (by simpa using hyl) (by rw [hl, hc]; omega)
  refine ⟨⟨xs, ⟨by simpa using hxs.rep, hxs.leaf, hxs.sh⟩⟩, fun W' hg sp hsp => ?_⟩
  obtain ⟨m, hm⟩ := hag W' hg sp (fun q hq => hsp q (by rw [h2]; exact hq))
  refine ⟨m + 1, ?_⟩
  rw [h1, h2]
  exact trod_struct_mk hu hl hm
theorem mot_ar {k : Nat} {e : Ty} (ihe : MotT P enc W e) : MotT P enc W (.ar k e) := by
  intro inner t fuel cs d p hok hns h
  simp only [Ty.ok] at hok
  split at hok <;> (try (cases hok; done))
  rename_i m te hu
  simp at hok
  obtain ⟨⟨⟨rfl, hc⟩, hce⟩, hoke⟩ := hok
  obtain ⟨ys, n, rfl, hx, hl, hyl, hf⟩ := DataW.trod_array hu h
  injection hx with h1 h2
  rw [hce] at hf
  have hel : ∀ i, i < m → ∃ y, ys[i]? = some y ∧ (∃ xs, Opn P enc W e ((cs.drop (i * e.size)).take e.size) xs) ∧ Again P enc W te ((cs.drop (i * e.size)).take e.size) y.1 y.2 := fun i hi => by
    have hy : ys[i]? = some (ys[i]'(by omega)) := by simp [hyl, hi]
    have := hf i hi
    rw [hy] at this
    obtain ⟨g1, g2⟩ := ihe inner te n _ _ _ hoke (fun hi => nospot_take (nospot_drop (hns hi) _) _) this
    exact ⟨_, hy, g1, g2⟩
  have hA : ∀ j, j ≤ m → ∃ ls : List (List AV), ls.length = j ∧ (∀ l ∈ ls, Sh e l) ∧ RepL (cm0 W) (cs.take (j * e.size)) ls.flatten ∧ ∀ (i : Nat) (y : AV), ls.flatten[i]? = some y → y.leaf = true := by
    intro j
    induction j with
    | zero => intro _; exact ⟨[], rfl, fun l h => by simp at h, by simp; exact .nil, fun i y h => by simp at h⟩
    | succ j ih =>
      intro hj
      obtain ⟨ls, g1, g2, g3, g4⟩ := ih (by omega)
      obtain ⟨y, _, ⟨xs, hxs⟩, _⟩ := hel j (by omega)
      refine ⟨ls ++ [xs], by simp [g1], fun l hl => ?_, ?_, ?_⟩
      · simp only [List.mem_append, List.mem_singleton] at hl
        rcases hl with hl | rfl
        · exact g2 l hl
        · exact hxs.sh
      · rw [Nat.add_mul, Nat.one_mul, List.take_add]
        simp only [List.flatten_append, List.flatten_cons, List.flatten_nil, List.append_nil]
        exact g3.append hxs.rep
      · simp only [List.flatten_append, List.flatten_cons, List.flatten_nil, List.append_nil]
        exact leaf_app g4 hxs.leaf
  refine ⟨?_, fun W' hg sp hsp => ?_⟩
  · obtain ⟨ls, g1, g2, g3, g4⟩ := hA m (Nat.le_refl _)
    rw [List.take_of_length_le (by omega)] at g3
    exact ⟨ls.flatten, g3, g4, ls, rfl, g1, g2⟩
  · have hB : ∀ i, i < m → ∃ k y, ys[i]? = some y ∧ DataW.trod enc P W' 0 sp true k te ((cs.drop (i * e.size)).take e.size) = some y := fun i hi => by
      obtain ⟨y, hy, _, hag⟩ := hel i hi
      obtain ⟨k, hk⟩ := hag W' hg sp (fun q hq => hsp q (by
        rw [h2, List.mem_flatMap]
        exact ⟨y, List.mem_of_getElem? hy, hq⟩))
      exact ⟨k, y, hy, hk⟩
    obtain ⟨k, hk⟩ := fuel_lt (n := m) (q := fun i k => ∃ y, ys[i]? = some y ∧ DataW.trod enc P W' 0 sp true k te ((cs.drop (i * e.size)).take e.size) = some y) (fun i a b hab h => by
      obtain ⟨y, hy, h⟩ := h
      exact ⟨y, hy, DataW.trod_le hab h⟩) hB
    refine ⟨k + 1, ?_⟩
    rw [h1, h2]
    refine trod_array_mk hu hl ?_
    rw [hce]
    exact mapM_list (by simp [hyl]) fun i a ha => by
      have hi : i < m := by
        rcases Nat.lt_or_ge i m with h' | h'
        · exact h'
        · rw [List.getElem?_eq_none (by simpa using h')] at ha; cases ha
      simp [hi] at ha
      subst ha
      obtain ⟨y, hy, h⟩ := hk i hi
      rw [hy]; exact h

theorem mot_all : ∀ T : Ty, MotT P enc W T ∧ MotR P enc W T
  | .int k => ⟨mot_int k, fun inner fds off n cs ys hok => by simp [Ty.ok] at hok⟩
  | .bool => ⟨mot_bool, fun inner fds off n cs ys hok => by simp [Ty.ok] at hok⟩
  | .str => ⟨mot_str, fun inner fds off n cs ys hok => by simp [Ty.ok] at hok⟩
  | .sl e => ⟨mot_sl (mot_all e).1, fun inner fds off n cs ys hok => by simp [Ty.ok] at hok⟩
  | .st r => ⟨mot_st (mot_all r).2, fun inner fds off n cs ys hok => by simp [Ty.ok] at hok⟩
  | .ar n e => ⟨mot_ar (mot_all e).1, fun inner fds off n cs ys hok => by simp [Ty.ok] at hok⟩
  | .fnil => ⟨fun inner t fuel cs d p hok => by simp [Ty.ok] at hok, mot_fnil⟩
  | .fcons f r => ⟨fun inner t fuel cs d p hok => by simp [Ty.ok] at hok, mot_fcons (mot_all f).1 (mot_all r).2⟩

/-! the arguments of a call -/
theorem cell_nospot {b0 : Nat} {u : TypeId} {a : Addr} {l c : Nat} (h : Cell.okWide P W .any b0 u (.slice (some a) l c)) : a.spot = none := by
  unfold Cell.okWide at h
  split at h <;> (try (rename_i h1; cases h1; done))
  unfold Cell.ok at h
  split at h <;> simp_all [World.has]
theorem val_form {T : Ty} {b0 : Nat} {t : TypeId} {v : Value} (hok : (T.ok P false).1 t = true) (hv : Value.okWide P W .any b0 t v) : NoSpot v.cells.toList ∧ (if T.isAgg = true then v = .agg v.cells else v.cells = #[v]) := by
  unfold Value.okWide at hv
  have key : (∃ cs, v = .agg cs ∧ cs.size = P.cellsOf t ∧ Row.okWide P W .any b0 t cs) → NoSpot v.cells.toList ∧ v = .agg v.cells := by
    rintro ⟨cs, rfl, hs, ts, _, _, hcell⟩
    refine ⟨fun a l c hm => ?_, rfl⟩
    obtain ⟨i, hi, he⟩ := List.getElem_of_mem hm
    obtain ⟨u, _, hu⟩ := hcell i (.slice (some a) l c) (by
      simp only [Value.cells] at he hi
      rw [Array.getElem?_eq_getElem (by simpa using hi)]
      simpa using he)
    exact cell_nospot hu
  have key2 : Cell.okWide P W .any b0 t v → NoSpot [v] := by
    intro h a l c hm
    simp at hm
    subst hm
    exact cell_nospot h
  have one : ∀ {v : Value}, (∀ cs, v ≠ .agg cs) → v.cells = #[v] := by
    intro v h
    cases v <;> first | rfl | exact absurd rfl (h _)
  have leafy : Cell.okWide P W .any b0 t v → (∀ cs, v ≠ .agg cs) → NoSpot v.cells.toList ∧ v.cells = #[v] := fun h h2 => by
    rw [one h2]; exact ⟨key2 h, rfl⟩
  by_cases ha : T.isAgg = true
  · rw [if_pos ha]
    refine key ?_
    cases T <;> (try (cases ha; done)) <;> simp only [Ty.ok] at hok <;> split at hok <;> (try (cases hok; done)) <;> rename_i hu <;> rw [hu] at hv <;> exact hv
  · rw [if_neg ha]
    have hc : Cell.okWide P W .any b0 t v ∧ ∀ cs, v ≠ .agg cs := by
      cases T <;> (try (exact absurd rfl ha)) <;> simp only [Ty.ok] at hok <;> (try (cases hok; done)) <;> split at hok <;> (try (cases hok; done)) <;> rename_i hu <;> rw [hu] at hv <;> refine ⟨hv, ?_⟩ <;>
        (rintro cs rfl; simp [Cell.okWide, hu, Cell.ok] at hv)
    exact leafy hc.1 hc.2
theorem open_arg {T : Ty} {b0 : Nat} {t : TypeId} {v : Value} {d : DataW H} {p : List MemPlace} (hok : (T.ok P false).1 t = true) (hv : Value.okWide P W .any b0 t v)
    (h : DataW.Trod enc P W 0 (fun _ => true) true t v d p) :
    ∃ x, ShV T x ∧ Rep (cm0 W) v x ∧ ∀ W', Grown W W' → ∀ sp : Nat → Bool, (∀ q ∈ p, sp q.block = true) → DataW.Trod enc P W' 0 sp true t v d p := by
  obtain ⟨fuel, h⟩ := h
  obtain ⟨h1, h2⟩ := val_form hok hv
  obtain ⟨⟨xs, hxs⟩, hag⟩ := (mot_all T).1 false t fuel _ d p hok (fun _ => h1) h
  have hlen : T.isAgg = false → xs.length = 1 := fun ha => by rw [hxs.sh.len]; exact ok_size1 hok ha
  obtain ⟨g1, g2⟩ := mkV_is hxs.sh hxs.leaf hlen
  refine ⟨mkV T xs, g2, ?_, fun W' hg sp hsp => hag W' hg sp hsp⟩
  unfold mkV
  split
  · rename_i ha
    rw [if_pos ha] at h2
    rw [h2]
    have := Rep.agg (c := cm0 W) v.cells.toList xs hxs.rep.1 hxs.rep.2 hxs.leaf
    simpa [Value.cells] using this
  · rename_i ha
    rw [if_neg ha] at h2
    have hl := hlen (by simpa using ha)
    have hr := hxs.rep
    match xs, hl with
    | [x], _ =>
      rw [h2] at hr
      exact hr.2 0 v x rfl rfl
theorem open_args : ∀ {Ts : List Ty} {ts : List TypeId} {vs : List Value} {ds : List (DataW H)} {p : List MemPlace} {b0 : Nat}, ts.length = Ts.length → (∀ (j : Nat) (t : TypeId) (T : Ty), ts[j]? = some t → Ts[j]? = some T → (T.ok P false).1 t = true) →
    (∀ (j : Nat) t v, ts[j]? = some t → vs[j]? = some v → Value.okWide P W .any b0 t v) → DataW.TrodAll enc P W 0 (fun _ => true) true ts vs ds p →
    ∃ xs, xs.length = Ts.length ∧ (∀ (j : Nat) (T : Ty) (x : AV), Ts[j]? = some T → xs[j]? = some x → ShV T x) ∧ RepL (cm0 W) vs xs ∧ ∀ W', Grown W W' → ∀ sp : Nat → Bool, (∀ q ∈ p, sp q.block = true) → DataW.TrodAll enc P W' 0 sp true ts vs ds p
  | [], [], vs, ds, p, b0, _, _, _, h => by
    obtain ⟨rfl, rfl, rfl⟩ := trodAll_nil h
    exact ⟨[], rfl, fun j T x h => by simp at h, .nil, fun W' _ sp _ => rfl⟩
  | T :: Ts, t :: ts, vs, ds, p, b0, hl, hok, hv, h => by
    obtain ⟨v, vs', d, ds', p1, p2, rfl, rfl, rfl, h1, h2⟩ := trodAll_cons h
    obtain ⟨x, g1, g2, g3⟩ := open_arg (hok 0 t T rfl rfl) (hv 0 t v rfl rfl) h1
    obtain ⟨xs, k1, k2, k3, k4⟩ := open_args (Ts := Ts) (ts := ts) (by simpa using hl) (fun j t T h1 h2 => hok (j + 1) t T h1 h2) (fun j t v h1 h2 => hv (j + 1) t v h1 h2) h2
    refine ⟨x :: xs, by simp [k1], fun j T' y hT hy => ?_, .cons g2 k3, fun W' hg sp hsp => trodAll_cons_mk (g3 W' hg sp fun q hq => hsp q (by simp [hq])) (k4 W' hg sp fun q hq => hsp q (by simp [hq]))⟩
    cases j with
    | zero => simp at hT hy; subst hT; subst hy; exact g1
    | succ j => exact k2 j T' y (by simpa using hT) (by simpa using hy)
end Fw
set_option linter.unusedVariables false
set_option linter.unusedSimpArgs false
namespace Fw
open Go Go.ChangeShapes Go.WideShapes Go.ChangeAt Go.RowKit

def Typed : List Ty → List AV → Prop
  | [], [] => True
  | T :: Ts, x :: xs => ShV T x ∧ Typed Ts xs
  | _, _ => False
theorem Typed.of : ∀ {Ts : List Ty} {xs : List AV}, xs.length = Ts.length → (∀ (j : Nat) (T : Ty) (x : AV), Ts[j]? = some T → xs[j]? = some x → ShV T x) → Typed Ts xs
  | [], [], _, _ => trivial
  | [], x :: xs, h, _ => by simp at h
  | T :: Ts, [], h, _ => by simp at h
  | T :: Ts, x :: xs, h, hx => ⟨hx 0 T x rfl rfl, Typed.of (by simpa using h) fun j T' y h1 h2 => hx (j + 1) T' y (by simpa using h1) (by simpa using h2)⟩

theorem law_lifted {C : Checked} {os : Os} {f : FuncId} {fn : Func} {s : ChangeSpec} {conds : List PathCond} {H : Type} {enc : TypeId × Value → H} (Ts : List Ty) (tb : TypeId)
    (own : ownKnob C.prog.godebug = none) (started : os.Started) (noInit : C.prog.inits.idxOf? f = none) (hfn : C.prog.funcs[f]? = some fn)
    (witness : ∃ (w : World) (tape : Tape) (i : Input), w.os = os ∧ (w.forCall tape i).Shaped C.prog ∧ i.vars = [] ∧ Input.okWide C.prog (w.forCall tape i) .any w.heap.size f i ∧
      s.pre6 enc C.prog fn conds false (w.forCall tape i).memory i.args ∧ ({} : Assume).holds C.prog (lone (Frame.enter C.prog f i.args .normal) [] (w.forCall tape i)))
    (hvars : s.vars = []) (hlen : fn.params.toList.length = Ts.length) (hok : (fn.params.toList.zip Ts).all (fun p => (p.2.ok C.prog false).1 p.1) = true)
    (hspec : ∀ ds : List (DataW H), ds.length = Ts.length → s.fn H ds = { results := [.lit (.bool true)], args := ds })
    (hres : fn.resultTypes = #[tb]) (htb : C.prog.underlying tb = some .bool)
    (h : ∀ xs, Typed Ts xs → PCall C.prog f xs (.bool true)) :
    ReturnsInHanded {} C os f .any (s.pre6 enc C.prog fn conds false) (s.post enc C.prog fn false true false false) := by
  refine returnsInHanded_of_change (C := C) own started noInit hfn witness ?_
  intro W base args ds gs before hval hW hcnd _
  have hW' := hW
  obtain ⟨p, q, hA, hV, rfl, hfz, hnd⟩ := hW
  rw [hvars] at hV
  obtain ⟨rfl, rfl⟩ := trodVars_none hV
  obtain ⟨xs, g1, g2, g3, g4⟩ := open_args (b0 := base) hlen (fun j t T h1 h2 => by
    have := List.all_eq_true.1 hok (t, T) (List.mem_of_getElem? (i := j) (by rw [List.getElem?_zip_eq_some]; exact ⟨h1, h2⟩))
    exact this) (fun j t v h1 h2 => hval j t v (by simpa using h1) (by simpa using h2)) hA
  have hdl : ds.length = Ts.length := by
    have : ∀ {ts : List TypeId} {vs : List Value} {ds : List (DataW H)} {ps : List MemPlace}, DataW.TrodAll enc C.prog W 0 (fun _ => true) true ts vs ds ps → ds.length = ts.length := by
      intro ts
      induction ts with
      | nil => intro vs ds ps h; obtain ⟨rfl, rfl, rfl⟩ := trodAll_nil h; rfl
      | cons t ts ih =>
        intro vs ds ps h
        obtain ⟨v, vs', d, ds', p1, p2, rfl, rfl, rfl, h1, h2⟩ := trodAll_cons h
        simp [ih h2]
    rw [this hA, hlen]
  have hsp := hspec ds hdl
  have hv := g3
  refine (Fw.lift_true (h xs (Typed.of g1 g2)) hv).mono fun e W' ⟨he, hg⟩ => ?_
  subst he
  simp only [List.append_nil] at hW'
  refine ⟨_, rfl, post_of_same (pa := p) (pv := []) hW' (fun _ _ _ => ?_) (fun sp hsp' => ?_) (fun sp hsp' => ?_) (by simp) (hg.frame _) hg.2.1 (ok_one hres rfl (okWide_bool_mk htb _))⟩
  · rw [List.append_nil, hsp, hres]
    exact trodAll_mk1 (shut_bool htb _)
  · rw [List.append_nil, hsp]
    exact g4 W' hg sp hsp'
  · rw [List.append_nil, hsp, hvars]
    exact rfl

/-! the forms, one by one -/
theorem shv_int {k : IntKind} {x : AV} (h : ShV (.int k) x) : ∃ n, x = .int k n ∧ (Lit.int k n).wf = true := by
  obtain ⟨⟨n, h1, h2⟩, h3⟩ := h
  simp only [Ty.isAgg, Bool.false_eq_true, if_false] at h3
  rw [h3] at h1
  injection h1 with h1
  exact ⟨n, h1, h2⟩
theorem shv_sl {e : Ty} {x : AV} (h : ShV (.sl e) x) : x = .nilsl ∨ ∃ xs, x = .sl e.size xs .shared ∧ xs.length ≤ maxLen ∧ ∀ y ∈ xs, ShV e y := by
  obtain ⟨h1, h3⟩ := h
  simp only [Ty.isAgg, Bool.false_eq_true, if_false] at h3
  rw [h3] at h1
  rcases h1 with h1 | ⟨xs, h1, h2, h4⟩
  · injection h1 with h1; exact .inl h1
  · injection h1 with h1; exact .inr ⟨xs, h1, h2, h4⟩
theorem shv_intsK {k : IntKind} {x : AV} (h : ShV (.sl (.int k)) x) : ∃ l : List Int, (x = .nilsl ∧ l = [] ∨ x = .sl 1 (l.map (AV.int k)) .shared) ∧ l.length ≤ maxLen ∧ ∀ n ∈ l, (Lit.int k n).wf = true := by
  rcases shv_sl h with rfl | ⟨xs, rfl, h1, h2⟩
  · exact ⟨[], .inl ⟨rfl, rfl⟩, by simp, fun n h => by simp at h⟩
  · have : ∀ xs : List AV, (∀ y ∈ xs, ShV (.int k) y) → ∃ l : List Int, xs = l.map (AV.int k) ∧ ∀ n ∈ l, (Lit.int k n).wf = true := by
      intro xs
      induction xs with
      | nil => intro _; exact ⟨[], rfl, fun n h => by simp at h⟩
      | cons y xs ih =>
        intro h
        obtain ⟨n, rfl, hn⟩ := shv_int (h y (by simp))
        obtain ⟨l, rfl, hl⟩ := ih (fun z hz => h z (by simp [hz]))
        exact ⟨n :: l, rfl, fun m hm => by
          simp at hm
          rcases hm with rfl | hm
          · exact hn
          · exact hl m hm⟩
    obtain ⟨l, rfl, hl⟩ := this xs h2
    exact ⟨l, .inr rfl, by simpa using h1, hl⟩
theorem shv_agg {T : Ty} {x : AV} (ha : T.isAgg = true) (h : ShV T x) : ∃ cs, x = .agg cs ∧ Sh T cs := by
  obtain ⟨h1, h2⟩ := h
  rw [if_pos ha] at h2
  exact ⟨_, h2, h1⟩
theorem sh_cons {f r : Ty} {cs : List AV} (h : Sh (.fcons f r) cs) : ∃ a b, cs = a ++ b ∧ Sh f a ∧ Sh r b := h
theorem sh_nil {cs : List AV} (h : Sh .fnil cs) : cs = [] := h
theorem sh_int {k : IntKind} {cs : List AV} (h : Sh (.int k) cs) : ∃ n, cs = [.int k n] ∧ (Lit.int k n).wf = true := h
theorem sh_leaf1 {T : Ty} {cs : List AV} (ha : T.isAgg = false) (h1 : T.size = 1) (h : Sh T cs) (hlf : ∀ x ∈ cs, x.leaf = true) : ∃ x, cs = [x] ∧ ShV T x := by
  have hl := h.len
  rw [h1] at hl
  match cs, hl with
  | [x], _ =>
    have hc : x.cells = [x] := by
      have := hlf x (by simp)
      cases x <;> simp_all [AV.leaf, AV.cells]
    refine ⟨x, rfl, ?_, ?_⟩
    · rw [hc]; exact h
    · rw [if_neg (by simp [ha]), hc]
theorem Typed.nil {xs : List AV} (h : Typed [] xs) : xs = [] := by
  cases xs with
  | nil => rfl
  | cons x xs => exact h.elim
theorem Typed.cons {T : Ty} {Ts : List Ty} {xs : List AV} (h : Typed (T :: Ts) xs) : ∃ x r, xs = x :: r ∧ ShV T x ∧ Typed Ts r := by
  cases xs with
  | nil => exact h.elim
  | cons x xs => exact ⟨x, xs, rfl, h.1, h.2⟩
theorem Typed.one {A : Ty} {xs : List AV} (h : Typed [A] xs) : ∃ x, xs = [x] ∧ ShV A x := by
  obtain ⟨x, r, rfl, h1, h2⟩ := h.cons
  rw [h2.nil]; exact ⟨x, rfl, h1⟩
theorem Typed.two {A B : Ty} {xs : List AV} (h : Typed [A, B] xs) : ∃ x y, xs = [x, y] ∧ ShV A x ∧ ShV B y := by
  obtain ⟨x, r, rfl, h1, h2⟩ := h.cons
  obtain ⟨y, rfl, h3⟩ := h2.one
  exact ⟨x, y, rfl, h1, h3⟩
theorem Typed.three {A B C : Ty} {xs : List AV} (h : Typed [A, B, C] xs) : ∃ x y z, xs = [x, y, z] ∧ ShV A x ∧ ShV B y ∧ ShV C z := by
  obtain ⟨x, r, rfl, h1, h2⟩ := h.cons
  obtain ⟨y, z, rfl, h3, h4⟩ := h2.two
  exact ⟨x, y, z, rfl, h1, h3, h4⟩
theorem Typed.four {A B C D : Ty} {xs : List AV} (h : Typed [A, B, C, D] xs) : ∃ x y z w, xs = [x, y, z, w] ∧ ShV A x ∧ ShV B y ∧ ShV C z ∧ ShV D w := by
  obtain ⟨x, r, rfl, h1, h2⟩ := h.cons
  obtain ⟨y, z, w, rfl, h3, h4, h5⟩ := h2.three
  exact ⟨x, y, z, w, rfl, h1, h3, h4, h5⟩
theorem Typed.five {A B C D E : Ty} {xs : List AV} (h : Typed [A, B, C, D, E] xs) : ∃ x y z w v, xs = [x, y, z, w, v] ∧ ShV A x ∧ ShV B y ∧ ShV C z ∧ ShV D w ∧ ShV E v := by
  obtain ⟨x, r, rfl, h1, h2⟩ := h.cons
  obtain ⟨y, z, w, v, rfl, h3, h4, h5, h6⟩ := h2.four
  exact ⟨x, y, z, w, v, rfl, h1, h3, h4, h5, h6⟩
end Fw
