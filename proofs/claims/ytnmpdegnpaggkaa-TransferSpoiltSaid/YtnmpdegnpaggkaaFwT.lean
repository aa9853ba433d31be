/-
  Stepping with a mark: the equations of FwS, at the mark's place alone, so that what is not reached yet stays as it is; specs of functions; lists of integers. Own work; over any program.
-/
import Derived.Test.YtnmpdegnpaggkaaFwS
set_option linter.unusedVariables false
set_option linter.unusedSimpArgs false
namespace Fw
open Go

/-- the place where a run stands -/
def At (p : Prop) : Prop := p
theorem At.i {p : Prop} (h : At p) : p := h
theorem At.of {p : Prop} (h : p) : At p := h

section
variable {P : Program} {C : PCtx} {d : Option Nat} {K : AS → Prop} {Q : AEx → AS → Prop} {s : AS}
@[simp] theorem At.cond_t {p q : Prop} : At (condP true p q) = At p := by simp [At, condP]
@[simp] theorem At.cond_f {p q : Prop} : At (condP false p q) = At q := by simp [At, condP]
@[simp] theorem At.cond_v {b : Bool} {p q : Prop} : At (condV (.bool b) p q) = At (condP b p q) := id rfl
@[simp] theorem At.optS {α : Type} {a : α} {K : α → Prop} : At (optK (some a) K) = At (K a) := id rfl
theorem At.split {b : Bool} {p q : Prop} (h1 : b = true → At p) (h2 : b = false → At q) : At (condP b p q) := by cases b <;> simp_all [condP, At]
theorem At.dec {c : Prop} [Decidable c] {p q : Prop} (h1 : c → At p) (h2 : ¬ c → At q) : At (condP (decide c) p q) := by by_cases h : c <;> simp_all [condP, At]
theorem At.decn {c : Prop} [Decidable c] {p q : Prop} (h1 : c → At q) (h2 : ¬ c → At p) : At (condP (!decide c) p q) := by by_cases h : c <;> simp_all [condP, At]
@[simp] theorem At.tr : At True = True := id rfl
@[simp] theorem At.eqr {x y : AV} : At (AEnd.ret x = AEnd.ret y) = (x = y) := by simp [At]

@[simp] theorem At.aiW_n {op : AOp} : At (aiW P C ⟨d, none, op⟩ K Q s) = At (opW P C d op K Q s) := congrArg At Fw.aiW_n
@[simp] theorem At.aiW_s {t : Nat} {b : Bool} {op : AOp} : At (aiW P C ⟨d, some (t, b), op⟩ K Q s) = At (condP (wantB (s.env t) b) (opW P C d op K Q s) (K (s.put d .undef))) := congrArg At Fw.aiW_s
@[simp] theorem At.runW_nil : At (runW P C [] Q s) = At (Q .normal s) := congrArg At Fw.runW_nil
@[simp] theorem At.runW_cons {o : AI} {os : List AI} : At (runW P C (o :: os) Q s) = At (aiW P C o (runW P C os Q) Q s) := congrArg At Fw.runW_cons
@[simp] theorem At.opW_mv {x : AOpd} : At (opW P C d (.mv x) K Q s) = At (K (s.put d (s.ev x))) := congrArg At Fw.opW_mv
@[simp] theorem At.opW_pick {x y z : AOpd} : At (opW P C d (.pick x y z) K Q s) = At (optK (apick (s.ev x) (s.ev y) (s.ev z)) fun r => K (s.put d r)) := congrArg At Fw.opW_pick
@[simp] theorem At.opW_bin {kd : Nat} {op : BinOp} {x y : AOpd} : At (opW P C d (.bin kd op x y) K Q s) = At (optK (abin kd op (s.ev x) (s.ev y)) fun r => K (s.put d r)) := congrArg At Fw.opW_bin
@[simp] theorem At.opW_un {op : UnOp} {x : AOpd} : At (opW P C d (.un op x) K Q s) = At (optK (aun op (s.ev x)) fun r => K (s.put d r)) := congrArg At Fw.opW_un
@[simp] theorem At.opW_conv {k : IntKind} {x : AOpd} : At (opW P C d (.conv k x) K Q s) = At (optK (aconv k (s.ev x)) fun r => K (s.put d r)) := congrArg At Fw.opW_conv
@[simp] theorem At.opW_alloc {zs : List AV} : At (opW P C d (.alloc zs) K Q s) = At (K ((⟨s.env, { s.hs with heap := fun i => if i = s.hs.nh then some zs else s.hs.heap i, nh := s.hs.nh + 1 }⟩ : AS).put d (.ref s.hs.nh 0))) := congrArg At Fw.opW_alloc
@[simp] theorem At.opW_boxi {x : AOpd} : At (opW P C d (.boxi x) K Q s) = At (condP (s.ev x).sto (K (s.put d (.ptr (s.ev x)))) False) := congrArg At Fw.opW_boxi
@[simp] theorem At.opW_boxm {x : AOpd} : At (opW P C d (.boxm x) K Q s) = At (condP (s.ev x).sto (K ((⟨s.env, { s.hs with heap := fun i => if i = s.hs.nh then some (s.ev x).cells else s.hs.heap i, nh := s.hs.nh + 1 }⟩ : AS).put d (.ref s.hs.nh 0))) False) := congrArg At Fw.opW_boxm
@[simp] theorem At.opW_build {zs : List AV} {ps : List (Nat × Nat × AOpd)} : At (opW P C d (.build zs ps) K Q s) = At (optK (afill zs (ps.map fun p => (p.1, p.2.1, s.ev p.2.2))) fun r => K (s.put d (.agg r))) := congrArg At Fw.opW_build
@[simp] theorem At.opW_buildSl {sz : Nat} {xs : List AOpd} : At (opW P C d (.buildSl sz xs) K Q s) = At (condP (astoAll sz (xs.map s.ev)) (K (s.put d (.sl sz (xs.map s.ev) .exact))) False) := congrArg At Fw.opW_buildSl
@[simp] theorem At.opW_load {ag : Bool} {sz : Nat} {x : AOpd} : At (opW P C d (.load ag sz x) K Q s) = At (optK (aload s.hs.heap ag sz (s.ev x)) fun r => K (s.put d r)) := congrArg At Fw.opW_load
@[simp] theorem At.opW_store {sz : Nat} {x y : AOpd} : At (opW P C d (.store sz x y) K Q s) = At (optK (astore s.hs.heap sz (s.ev x) (s.ev y)) fun r => K ((⟨s.env, { s.hs with heap := r }⟩ : AS).put d .undef)) := congrArg At Fw.opW_store
@[simp] theorem At.opW_faddr {ag : Bool} {sz off : Nat} {x : AOpd} : At (opW P C d (.faddr ag sz off x) K Q s) = At (optK (afaddr ag sz off (s.ev x)) fun r => K (s.put d r)) := congrArg At Fw.opW_faddr
@[simp] theorem At.opW_field {ag : Bool} {sz off : Nat} {x : AOpd} : At (opW P C d (.field ag sz off x) K Q s) = At (optK (afield ag sz off (s.ev x)) fun r => K (s.put d r)) := congrArg At Fw.opW_field
@[simp] theorem At.opW_iaddrS {sz : Nat} {x y : AOpd} : At (opW P C d (.iaddrS sz x y) K Q s) = At (optK (aidxS sz (s.ev x) (s.ev y)) fun r => K (s.put d r)) := congrArg At Fw.opW_iaddrS
@[simp] theorem At.opW_iaddrA {len : Nat} {ag : Bool} {sz : Nat} {x y : AOpd} : At (opW P C d (.iaddrA len ag sz x y) K Q s) = At (optK (aidxA len ag sz (s.ev x) (s.ev y)) fun r => K (s.put d r)) := congrArg At Fw.opW_iaddrA
@[simp] theorem At.opW_index {len : Nat} {ag : Bool} {sz : Nat} {x y : AOpd} : At (opW P C d (.index len ag sz x y) K Q s) = At (optK (aindex len ag sz (s.ev x) (s.ev y)) fun r => K (s.put d r)) := congrArg At Fw.opW_index
@[simp] theorem At.opW_slice {sz : Nat} {x : AOpd} {lo hi mx : Option AOpd} : At (opW P C d (.slice sz x lo hi mx) K Q s) = At (optK (aslice sz (s.ev x) (lo.map s.ev) (hi.map s.ev) (mx.map s.ev)) fun r => K (s.put d r)) := congrArg At Fw.opW_slice
@[simp] theorem At.opW_extract {x : AOpd} {n : Nat} : At (opW P C d (.extract x n) K Q s) = At (optK (aextract (s.ev x) n) fun r => K (s.put d r)) := congrArg At Fw.opW_extract
@[simp] theorem At.opW_mkfn {f : Fn} {xs ys : List AOpd} : At (opW P C d (.mkfn f xs ys) K Q s) = At (K (s.put d (.fn f (xs.map s.ev) (ys.map s.ev)))) := congrArg At Fw.opW_mkfn
@[simp] theorem At.opW_len {st : Bool} {x : AOpd} : At (opW P C d (.len st x) K Q s) = At (optK (alenK st (s.ev x)) fun r => K (s.put d r)) := congrArg At Fw.opW_len
@[simp] theorem At.opW_append {sz : Nat} {x y : AOpd} : At (opW P C d (.append sz x y) K Q s) = At (optK (aappend sz s.hs (s.ev x) (s.ev y)) fun r => K ((⟨s.env, r.2⟩ : AS).put d r.1)) := congrArg At Fw.opW_append
@[simp] theorem At.opW_min {x y : AOpd} : At (opW P C d (.min x y) K Q s) = At (optK (amin (s.ev x) (s.ev y)) fun r => K (s.put d r)) := congrArg At Fw.opW_min
@[simp] theorem At.opW_max {x y : AOpd} : At (opW P C d (.max x y) K Q s) = At (optK (amax (s.ev x) (s.ev y)) fun r => K (s.put d r)) := congrArg At Fw.opW_max
@[simp] theorem At.opW_mkif {t : TypeId} {x : AOpd} : At (opW P C d (.mkif t x) K Q s) = At (K (s.put d (.iface t (s.ev x)))) := congrArg At Fw.opW_mkif
@[simp] theorem At.opW_nilchk {x : AOpd} : At (opW P C d (.nilchk x) K Q s) = At (optK (anilchk (s.ev x)) fun r => K (s.put d r)) := congrArg At Fw.opW_nilchk
@[simp] theorem At.opW_pcall {f : FuncId} {args : List AOpd} : At (opW P C d (.pcall f args) K Q s) = At (optK (C f (args.map s.ev)) fun r => K (s.put d r)) := congrArg At Fw.opW_pcall
@[simp] theorem At.opW_hcall {f : FuncId} {args : List AOpd} : At (opW P C d (.hcall f args) K Q s) = At (hcW P f (args.map s.ev) d K Q s) := congrArg At Fw.opW_hcall
@[simp] theorem At.opW_callv {x : AOpd} {args : List AOpd} : At (opW P C d (.callv x args) K Q s) = At (cvW P (s.ev x) (args.map s.ev) d K Q s) := congrArg At Fw.opW_callv
@[simp] theorem At.opW_panic {x : AOpd} : At (opW P C d (.panic x) K Q s) = At (pnW (s.ev x) Q s) := congrArg At Fw.opW_panic
@[simp] theorem At.awp_skip : At (awp P C .skip Q s) = At (Q .normal s) := congrArg At Fw.awp_skip
@[simp] theorem At.awp_reg {ops : List AI} : At (awp P C (.reg ops) Q s) = At (runW P C ops Q s) := congrArg At Fw.awp_reg
@[simp] theorem At.awp_regd {ops : List AI} : At (awp P C (.regd ops) Q s) = At (runW P C ops (noPQ Q) s) := congrArg At Fw.awp_regd
@[simp] theorem At.awp_seq {a b : ACode} : At (awp P C (.seq a b) Q s) = At (awp P C a (thenQ (awp P C b Q) Q) s) := congrArg At Fw.awp_seq
@[simp] theorem At.awp_regl {ops : List AI} : At (awp P C (.regl ops) Q s) = At (runW P C ops Q s) := congrArg At Fw.awp_regl
@[simp] theorem At.awp_rega {ds : List (List Nat)} {ops : List AI} : At (awp P C (.rega ds ops) Q s) = At (anyW P C ds ops ops.length [] Q s) := congrArg At Fw.awp_rega
theorem At.any_0 {ds : List (List Nat)} {xs : List AI} {done : List Nat} (h : readyL ds done = []) (h2 : At (Q .normal s)) : At (anyW P C ds xs 0 done Q s) := ⟨h, h2⟩
theorem At.any_s {ds : List (List Nat)} {xs : List AI} {m : Nat} {done : List Nat} (h : (readyL ds done).isEmpty = false) (h2 : At (allW (readyL ds done) fun i => optW (fun x => aiW P C x (anyW P C ds xs m (i :: done) Q) Q s) xs[i]?)) : At (anyW P C ds xs (m + 1) done Q s) := ⟨fun e => absurd h (by rw [e]; decide), h2⟩
theorem At.all_c {i : Nat} {l : List Nat} {f : Nat → Prop} (h1 : At (f i)) (h2 : At (allW l f)) : At (allW (i :: l) f) := ⟨h1, h2⟩
theorem At.all_n {f : Nat → Prop} : At (allW [] f) := trivial
@[simp] theorem At.opt_s {x : AI} {f : AI → Prop} : At (optW f (some x)) = At (f x) := id rfl
@[simp] theorem At.awp_cond {c : AOpd} {a b : ACode} : At (awp P C (.cond c a b) Q s) = At (condV (s.ev c) (awp P C a Q s) (awp P C b Q s)) := congrArg At Fw.awp_cond
@[simp] theorem At.awp_block {id : Nat} {b : ACode} : At (awp P C (.block id b) Q s) = At (awp P C b (blkQ id Q) s) := congrArg At Fw.awp_block
@[simp] theorem At.awp_scope {b : ACode} : At (awp P C (.scope b) Q s) = At (awp P C b (noGQ Q) s) := congrArg At Fw.awp_scope
@[simp] theorem At.awp_exit {id : Nat} : At (awp P C (.exit id) Q s) = At (Q (.exit id) s) := congrArg At Fw.awp_exit
@[simp] theorem At.awp_label : At (awp P C .label Q s) = At (Q .normal s) := congrArg At Fw.awp_label
@[simp] theorem At.awp_ret : At (awp P C .ret Q s) = At (Q .ret s) := congrArg At Fw.awp_ret
@[simp] theorem At.thenQ_n : At (thenQ K Q .normal s) = At (K s) := congrArg At Fw.thenQ_n
@[simp] theorem At.thenQ_e {i : Nat} : At (thenQ K Q (.exit i) s) = At (Q (.exit i) s) := congrArg At Fw.thenQ_e
@[simp] theorem At.thenQ_r : At (thenQ K Q .ret s) = At (Q .ret s) := congrArg At Fw.thenQ_r
@[simp] theorem At.thenQ_p {x : AV} : At (thenQ K Q (.panic x) s) = At (Q (.panic x) s) := congrArg At Fw.thenQ_p
@[simp] theorem At.blkQ_n {i : Nat} : At (blkQ i Q .normal s) = At (Q .normal s) := congrArg At Fw.blkQ_n
@[simp] theorem At.blkQ_e {i j : Nat} : At (blkQ i Q (.exit j) s) = At (if j = i then Q .normal s else Q (.exit j) s) := congrArg At Fw.blkQ_e
@[simp] theorem At.blkQ_r {i : Nat} : At (blkQ i Q .ret s) = At (Q .ret s) := congrArg At Fw.blkQ_r
@[simp] theorem At.blkQ_p {i : Nat} {x : AV} : At (blkQ i Q (.panic x) s) = At (Q (.panic x) s) := congrArg At Fw.blkQ_p
@[simp] theorem At.noPQ_n : At (noPQ Q .normal s) = At (Q .normal s) := congrArg At Fw.noPQ_n
@[simp] theorem At.noGQ_n : At (noGQ Q .normal s) = At (Q .normal s) := congrArg At Fw.noGQ_n
@[simp] theorem At.noGQ_e {i : Nat} : At (noGQ Q (.exit i) s) = At (Q (.exit i) s) := congrArg At Fw.noGQ_e
@[simp] theorem At.noGQ_r : At (noGQ Q .ret s) = At (Q .ret s) := congrArg At Fw.noGQ_r
@[simp] theorem At.noGQ_p {x : AV} : At (noGQ Q (.panic x) s) = At (Q (.panic x) s) := congrArg At Fw.noGQ_p
@[simp] theorem At.finQ_n {rs : List ARes} {R : AEnd → HS → Prop} : At (finQ rs R .normal s) = At (optK (aResult s rs) fun x => R (.ret x) s.hs) := congrArg At Fw.finQ_n
@[simp] theorem At.finQ_r {rs : List ARes} {R : AEnd → HS → Prop} : At (finQ rs R .ret s) = At (optK (aResult s rs) fun x => R (.ret x) s.hs) := congrArg At Fw.finQ_r
@[simp] theorem At.finQ_p {rs : List ARes} {R : AEnd → HS → Prop} {x : AV} : At (finQ rs R (.panic x) s) = At (R (.panic x) s.hs) := congrArg At Fw.finQ_p
end
attribute [simp] wantB_t wantB_f ev_t ev_c env_put hs_put hs_mk env_mk env_none argEnv_0 argEnv_s argEnv_nil load_ptr_int load_ptr_bool

/-! values -/
@[simp] theorem wantB_u {b : Bool} : wantB .undef b = false := by cases b <;> rfl
section
variable {kd : Nat} {k : IntKind} {a b : Int}
@[simp] theorem abin_add : abin kd .add (.int k a) (.int k b) = some (.int k (k.wrap (a + b))) := by simp [abin, aint]
@[simp] theorem abin_sub : abin kd .sub (.int k a) (.int k b) = some (.int k (k.wrap (a - b))) := by simp [abin, aint]
@[simp] theorem abin_mul : abin kd .mul (.int k a) (.int k b) = some (.int k (k.wrap (a * b))) := by simp [abin, aint]
@[simp] theorem abin_quo (h : b ≠ 0) : abin kd .quo (.int k a) (.int k b) = some (.int k (k.wrap (a.tdiv b))) := by simp [abin, aint, h]
@[simp] theorem abin_rem (h : b ≠ 0) : abin kd .rem (.int k a) (.int k b) = some (.int k (a.tmod b)) := by simp [abin, aint, h]
@[simp] theorem abin_eql : abin kd .eql (.int k a) (.int k b) = some (.bool (decide (a = b))) := by simp [abin, aint]
@[simp] theorem abin_neq : abin kd .neq (.int k a) (.int k b) = some (.bool (decide (a ≠ b))) := by simp [abin, aint]
@[simp] theorem abin_lss : abin kd .lss (.int k a) (.int k b) = some (.bool (decide (a < b))) := by simp [abin, aint]
@[simp] theorem abin_leq : abin kd .leq (.int k a) (.int k b) = some (.bool (decide (a ≤ b))) := by simp [abin, aint]
@[simp] theorem abin_gtr : abin kd .gtr (.int k a) (.int k b) = some (.bool (decide (b < a))) := by simp [abin, aint]
@[simp] theorem abin_geq : abin kd .geq (.int k a) (.int k b) = some (.bool (decide (b ≤ a))) := by simp [abin, aint]
theorem abin_shl {k' : IntKind} (h : 0 ≤ b) : abin kd .shl (.int k a) (.int k' b) = some (.int k (k.wrap (a * 2 ^ (min b.toNat k.bits)))) := by simp [abin, aint, h]
theorem abin_shr {k' : IntKind} (h : 0 ≤ b) : abin kd .shr (.int k a) (.int k' b) = some (.int k (a.fdiv (2 ^ (min b.toNat k.bits)))) := by simp [abin, aint, h]
@[simp] theorem abin_eqb {x y : Bool} : abin 1 .eql (.bool x) (.bool y) = some (.bool (decide (x = y))) := by simp [abin, aeq]
@[simp] theorem abin_neb {x y : Bool} : abin 1 .neq (.bool x) (.bool y) = some (.bool (!decide (x = y))) := by simp [abin, aeq]
@[simp] theorem abin_slnil {sz : Nat} {xs : List AV} {c : Cap} : abin 2 .eql (.sl sz xs c) .nilsl = some (.bool false) := id rfl
@[simp] theorem abin_nilnil : abin 2 .eql .nilsl .nilsl = some (.bool true) := id rfl
@[simp] theorem abin_slnil' {sz : Nat} {xs : List AV} {c : Cap} : abin 2 .neq (.sl sz xs c) .nilsl = some (.bool true) := id rfl
@[simp] theorem abin_nilnil' : abin 2 .neq .nilsl .nilsl = some (.bool false) := id rfl
@[simp] theorem abin_pair {c d : Int} : abin 6 .eql (.agg [.int k a, .int k b]) (.agg [.int k c, .int k d]) = some (.bool (decide (a = c) && decide (b = d))) := by simp [abin, aeq, aeqInts]
@[simp] theorem abin_pair' {c d : Int} : abin 6 .neq (.agg [.int k a, .int k b]) (.agg [.int k c, .int k d]) = some (.bool (!(decide (a = c) && decide (b = d)))) := by simp [abin, aeq, aeqInts]
@[simp] theorem apick_b {c : Bool} {x y : AV} : apick (.bool c) x y = some (bif c then x else y) := id rfl
@[simp] theorem aun_not {c : Bool} : aun .not (.bool c) = some (.bool (!c)) := id rfl
@[simp] theorem alen_nil : alenK false .nilsl = some (.int .i64 0) := id rfl
@[simp] theorem alen_sl {sz : Nat} {xs : List AV} {c : Cap} : alenK false (.sl sz xs c) = some (.int .i64 xs.length) := id rfl
@[simp] theorem aext_0 {x : AV} {xs : List AV} : aextract (.tup (x :: xs)) 0 = some x := id rfl
@[simp] theorem aext_1 {x y : AV} {xs : List AV} : aextract (.tup (x :: y :: xs)) 1 = some y := id rfl
@[simp] theorem aext_2 {x y z : AV} {xs : List AV} : aextract (.tup (x :: y :: z :: xs)) 2 = some z := id rfl
@[simp] theorem aconv_int {k' : IntKind} : aconv k (.int k' a) = some (.int k (k.wrap a)) := id rfl
end

@[simp] theorem aResult_1 {s : AS} {n : Nat} : aResult s [.t n] = some (s.env n) := id rfl
@[simp] theorem aResult_2 {s : AS} {n m : Nat} : aResult s [.t n, .t m] = some (.tup [s.env n, s.env m]) := id rfl
@[simp] theorem aResult_3 {s : AS} {n m k : Nat} : aResult s [.t n, .t m, .t k] = some (.tup [s.env n, s.env m, s.env k]) := id rfl
@[simp] theorem aResult_0 {s : AS} : aResult s [] = some (.tup []) := id rfl
@[simp] theorem aResult_cm {s : AS} {ag : Bool} {sz n m : Nat} : aResult s [.cell ag sz n, .t m] = (aload s.hs.heap ag sz (s.env n)).map fun x => .tup [x, s.env m] := by simp only [aResult, aResL, aRes]; cases aload s.hs.heap ag sz (s.env n) <;> rfl
@[simp] theorem aResult_cs {s : AS} {ag : Bool} {sz n : Nat} : aResult s [.cell ag sz n] = aload s.hs.heap ag sz (s.env n) := by simp only [aResult, aResL, aRes]; cases aload s.hs.heap ag sz (s.env n) <;> rfl
theorem store_pair {hp : Nat → Option (List AV)} {i : Nat} {u v : AV} (h : hp i = some [u, v]) {k1 k2 : IntKind} {a b : Int} : astore hp 2 (.ref i 0) (.agg [.int k1 a, .int k2 b]) = some (fun k => if k = i then some [.int k1 a, .int k2 b] else hp k) := by
  simp [astore, h, AV.sto, AV.cells, AV.leaf, setL]
@[simp] theorem load_ref_pair {hp : Nat → Option (List AV)} {i : Nat} {a b : AV} : aload (fun k => if k = i then some [a, b] else hp k) true 2 (.ref i 0) = some (.agg [a, b]) := by
  simp [aload, apart]
@[simp] theorem fill_pair {k1 k2 k3 k4 : IntKind} {a b c d : Int} : afill [.int k1 a, .int k2 b] [(0, 1, .int k3 c), (1, 1, .int k4 d)] = some [.int k3 c, .int k4 d] := by
  simp [afill, AV.sto, AV.cells, setL, AV.leaf]
@[simp] theorem fill_none {zs : List AV} : afill zs [] = some zs := by simp only [afill]
theorem aResult_c {s : AS} {ag : Bool} {sz n : Nat} {x : AV} (h : aload s.hs.heap ag sz (s.env n) = some x) : aResult s [.cell ag sz n] = some x := by simp [aResult, aResL, aRes, h]
theorem aResult_ct {s : AS} {ag : Bool} {sz n m : Nat} {x : AV} (h : aload s.hs.heap ag sz (s.env n) = some x) : aResult s [.cell ag sz n, .t m] = some (.tup [x, s.env m]) := by simp [aResult, aResL, aRes, h]

theorem At.loop {P : Program} {C : PCtx} {b : ACode} {Q : AEx → AS → Prop} {σ : Type} (I : σ → AS → Prop) (μ : σ → Nat) (x : σ) {s : AS} (h : I x s)
    (round : ∀ (N : AS → Prop) x s, (∀ y s', μ y < μ x → I y s' → At (N s')) → I x s → At (awp P C b (thenQ N Q) s)) : At (awp P C (.loop b) Q s) :=
  awp_loop I μ (fun x s h => round _ x s (fun y s' hy hI => ⟨y, hy, hI⟩) h) h
theorem wrap_nat {n : Nat} (h : n < 9223372036854775808) : IntKind.i64.wrap (n : Int) = n := wrap64 (by omega) (by omega)
theorem wrap_nat1 {n : Nat} (h : n < 9223372036854775807) : IntKind.i64.wrap ((n : Int) + 1) = ((n + 1 : Nat) : Int) := by rw [wrap64 (by omega) (by omega)]; omega

/-! specs of functions -/
def PCtx.add (C : PCtx) (g : FuncId) (S : List AV → Option AV) : PCtx := fun f args => if f = g then S args else C f args
def PCtx.nil : PCtx := fun _ _ => none
theorem CtxOk.nil {P : Program} : CtxOk P PCtx.nil := fun f args r h => by cases h
theorem CtxOk.add {P : Program} {C : PCtx} (hC : CtxOk P C) {g : FuncId} {S : List AV → Option AV} (h : ∀ args r, S args = some r → PCall P g args r) : CtxOk P (C.add g S) := by
  intro f args r e
  unfold PCtx.add at e
  split at e
  · rename_i hf; subst hf; exact h _ _ e
  · exact hC _ _ _ e

/-! lists of integers, with a bound for their lengths -/
def asI : AV → Option (List Int)
  | .nilsl => some []
  | .sl 1 xs _ => if xs.length < 4294967296 then deInts xs else none
  | _ => none
theorem asI_inv {x : AV} {l : List Int} (h : asI x = some l) : (x = .nilsl ∧ l = []) ∨ ∃ c, x = .sl 1 (ints l) c := by
  unfold asI at h
  split at h
  · injection h with h; exact .inl ⟨rfl, h.symm⟩
  · rename_i xs c
    split at h <;> (try (cases h; done))
    exact .inr ⟨c, by rw [deInts_inv h]⟩
  · cases h
theorem asI_len {x : AV} {l : List Int} (h : asI x = some l) : l.length < 4294967296 := by
  unfold asI at h
  split at h
  · injection h with h; subst h; simp
  · rename_i xs c
    split at h <;> (try (cases h; done))
    rename_i hl
    rw [deInts_inv h] at hl
    simpa using hl
  · cases h
theorem asI_sl {l : List Int} {c : Cap} (h : l.length < 4294967296) : asI (.sl 1 (ints l) c) = some l := by
  simp only [asI, ints, List.length_map, h, if_true]; exact deInts_ints l
@[simp] theorem asI_nil : asI .nilsl = some [] := id rfl
theorem alen_of {x : AV} {l : List Int} (h : asI x = some l) : alenK false x = some (.int .i64 l.length) := by
  rcases asI_inv h with ⟨rfl, rfl⟩ | ⟨c, rfl⟩
  · rfl
  · simp [alenK]
theorem aidx_of {x : AV} {l : List Int} (h : asI x = some l) {k : IntKind} {n : Int} {v : Int} (h0 : 0 ≤ n) (hv : l[n.toNat]? = some v) : aidxS 1 x (.int k n) = some (.ptr (.int .i64 v)) := by
  rcases asI_inv h with ⟨rfl, rfl⟩ | ⟨c, rfl⟩
  · simp at hv
  · simp only [aidxS, h0, and_self, if_true, ints, List.getElem?_map, hv, Option.map_some]
theorem aidx_nat {x : AV} {l : List Int} (h : asI x = some l) {k : IntKind} {i : Nat} (hi : i < l.length) : aidxS 1 x (.int k (i : Int)) = some (.ptr (.int .i64 l[i])) :=
  aidx_of h (by omega) (by simp [hi])
theorem take_snoc {α : Type} {l : List α} {i : Nat} (hi : i < l.length) : l.take (i + 1) = l.take i ++ [l[i]] := by rw [List.take_add_one, List.getElem?_eq_getElem hi]; rfl
theorem mem_take_succ {α : Type} {l : List α} {i : Nat} (hi : i < l.length) {x : α} : x ∈ l.take (i + 1) ↔ x ∈ l.take i ∨ x = l[i] := by rw [take_snoc hi]; simp only [List.mem_append, List.mem_singleton]
theorem get_of {l : List Int} {n : Int} (h0 : 0 ≤ n) (h1 : n < l.length) : l[n.toNat]? = some (l.getD n.toNat 0) := by
  have : n.toNat < l.length := by omega
  simp [List.getD, List.getElem?_eq_getElem this]
end Fw
