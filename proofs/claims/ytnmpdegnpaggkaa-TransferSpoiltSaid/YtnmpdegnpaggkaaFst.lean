/-
  The first chain that is met: a search that a panic ends. Own work; the pieces of the compacted function are printed by wip/tools/Gen.lean.
-/
import Derived.Test.YtnmpdegnpaggkaaVis
import Derived.Tactics
import Derived.Tactics2
import Derived.Defers
import Derived.Recover
import Derived.Laws.Pointers
set_option linter.unusedVariables false
set_option linter.unusedSimpArgs false
namespace Go.Proofs.Ytnmpdegnpaggkaa
open Go Fw

def A52l : ACode := .reg [⟨some 1, none, .boxi (.t 0)⟩, ⟨some 2, none, .alloc [.nilsl]⟩]
theorem pc52l : cvtC Try.prog 16 [] pureFns (cAt [false] (Try.f52.body.getD .skip)) = some A52l := by kernel_rfl
def A52rl : ACode := .seq (.reg [⟨some 4, none, .faddr false 1 1 (.t 1)⟩, ⟨some 5, none, .load false 1 (.t 4)⟩, ⟨some 6, none, .pcall 65 [.t 5, .c (.int .i64 1)]⟩])
  (.cond (.t 6) (.seq (.reg [⟨none, none, .store 1 (.t 2) (.c (.nilsl))⟩])
  (.ret)) (.skip))
theorem pc52rl : cvtC Try.prog 16 [] pureFns (cAt [true, false] (Try.f52.body.getD .skip)) = some A52rl := by kernel_rfl
def A52rrr : ACode := .seq (.seq (.reg [⟨some 8, none, .mv (.c (.int .i64 0))⟩])
  (.block 0 (.loop (.seq (.reg [⟨some 9, none, .bin 0 .lss (.t 8) (.c (.int .i64 8))⟩])
  (.seq (.cond (.t 9) (.skip) (.exit 0))
  (.seq (.block 1 (.seq (.reg [⟨some 10, none, .mv (.t 8)⟩, ⟨some 3, none, .mv (.t 10)⟩])
  (.reg [⟨some 11, none, .load true 3 (.t 1)⟩, ⟨some 12, none, .buildSl 1 [.c (.int .i64 1)]⟩, ⟨some 13, none, .mv (.t 3)⟩, ⟨some 14, none, .hcall 54 [.t 11, .t 12, .t 13, .c (.fn (.func 67) [] [])]⟩])))
  (.reg [⟨some 15, none, .bin 0 .add (.t 8) (.c (.int .i64 1))⟩, ⟨some 8, none, .mv (.t 15)⟩])))))))
  (.seq (.reg [⟨none, none, .store 1 (.t 2) (.c (.nilsl))⟩])
  (.ret))
theorem pc52rrr : cvtC Try.prog 16 [] pureFns (cAt [true, true, true] (Try.f52.body.getD .skip)) = some A52rrr := by kernel_rfl

/-- the callback panics with a copy of the chain -/
theorem cloneV_ch {x : AV} {c : List Int} (hx : asI x = some c) (hne : c ≠ []) : cloneV x = chV c := by
  rcases asI_inv hx with ⟨_, h⟩ | ⟨cc, rfl⟩
  · exact absurd h hne
  · cases c with
    | nil => exact absurd rfl hne
    | cons a c => rfl
@[simp] theorem D13_62 : D13 62 = S62 := id rfl
def JF (i0 : Nat) : List (List Int) → HS → Prop := fun d hs => d = [] ∧ hs.heap i0 = some [.nilsl] ∧ i0 < hs.nh
def ZF (i0 : Nat) : List (List Int) → List Int → AV → HS → Prop := fun d c p hs => d = [] ∧ p = .iface 22 (chV c) ∧ hs.heap i0 = some [.nilsl] ∧ i0 < hs.nh
theorem eachF (i0 : Nat) : Each 67 [] [] (JF i0) (ZF i0) := by
  refine ⟨?_, ?_⟩
  · rintro d hs hs' hx ⟨h1, h2, h3⟩
    exact ⟨h1, by rw [hx.heap i0 h3]; exact h2, Nat.lt_of_lt_of_le h3 hx.nh⟩
  · rintro d hs x c hx hb hl hne ⟨h1, h2, h3⟩
    refine FCall.of_body D13ok ok67 (by simp) (At.i ?_)
    simp [A67, R67, S62, hx, show c.length ≤ 1000 by omega]
    exact At.of ⟨h1, by rw [cloneV_ch hx hne], h2, h3⟩

/-- in how many steps, and which chain is first -/
def fstK (n : Int) (sp : List Int) (row : Bool) : Option Nat := firstK (fun k => decide (0 < (visL n sp row k [1]).length)) 8 0
theorem goodV1 {n : Int} (h1 : 1 ≤ n) (h2 : n ≤ 46) {k : Nat} (hk : k ≤ 7) : GoodV n k [1] :=
  ⟨by simp, by simp; omega, fun a ha => by simp at ha; subst ha; omega, by simp, h1, h2, hk⟩
/-- how the search's loop ends -/
def QF (n : Int) (sp : List Int) (row : Bool) (i0 : Nat) : AEx → AS → Prop
  | .ret, s => fstK n sp row = none ∧ s.hs.heap i0 = some [.nilsl] ∧ i0 < s.hs.nh ∧ s.env 2 = .ref i0 0
  | .panic x, s => (∃ k c r, fstK n sp row = some k ∧ visL n sp row k [1] = c :: r ∧ x = .iface 22 (chV c)) ∧ s.hs.heap i0 = some [.nilsl] ∧ i0 < s.hs.nh ∧ s.env 2 = .ref i0 0
  | _, _ => False
theorem rest52 {n : Int} (h1 : 1 ≤ n) (h2 : n ≤ 46) {y : AV} {sp : List Int} (hy : asI y = some sp) (row : Bool) (i0 : Nat) {s : AS}
    (e1 : s.env 1 = .ptr (.agg [.int .i64 n, y, .bool row])) (e2 : s.env 2 = .ref i0 0) (hJ : JF i0 [] s.hs) : awp Try.prog D13 A52rrr (QF n sp row i0) s := by
  refine At.i ?_
  simp [A52rrr]
  refine At.loop (fun (k : Nat) s0 => k ≤ 8 ∧ s0.env 1 = .ptr (.agg [.int .i64 n, y, .bool row]) ∧ s0.env 2 = .ref i0 0 ∧ s0.env 8 = .int .i64 k ∧ JF i0 [] s0.hs ∧ fstK n sp row = firstK (fun k => decide (0 < (visL n sp row k [1]).length)) (8 - k) k) (fun k => 8 - k) 0 ?_ ?_
  · simp [e1, e2, fstK]; exact hJ
  rintro N k s1 hN ⟨hk, e1, e2, e8, hJ, hK⟩
  simp [e1, e2, e8]
  refine At.dec (fun h3 => ?_) (fun h3 => ?_)
  · have hk7 : k ≤ 7 := by omega
    rw [show 8 - k = (7 - k) + 1 by omega, firstK] at hK
    simp [e1, e2, e8, astoAll, AV.sto, AV.cells, AV.leaf]
    refine At.hc (p54 (eachF i0) hy row k _ [1] [] s1.hs asI_one (goodV1 h1 h2 hk7) hJ) ?_ ?_
    · rintro v hs' (⟨e, hJ'⟩ | ⟨pre, c', post, p, _, e, _⟩)
      · have hv : visL n sp row k [1] = [] := by simpa [JF] using hJ'.1
        rw [if_neg (by simp [hv])] at hK
        simp [e1, e2, e8]
        refine hN (k + 1) _ (by omega) ⟨by omega, ?_⟩
        simp [e1, e2, e8, wrap_nat1 (show k < _ by omega)]
        refine ⟨?_, hK⟩
        rw [hv] at hJ'
        simpa using hJ'
      · cases e
    · rintro v hs' (⟨e, _⟩ | ⟨pre, c', post, p, hpre, e, hZ⟩)
      · cases e
      · injection e with e; subst e
        obtain ⟨z1, z2, z3, z4⟩ := hZ
        have hp : pre = [] := by simpa using z1
        subst hp
        rw [if_pos (by rw [hpre]; simp)] at hK
        simp
        exact At.of ⟨⟨k, c', post, hK, by simpa using hpre, z2⟩, z3, z4, by simp [e2]⟩
  · have : k = 8 := by omega
    subst this
    obtain ⟨j1, j2, j3⟩ := hJ
    simp [e1, e2, e8, store_one j2]
    refine At.of ⟨hK, by simp, j3, by simp [e2]⟩

theorem catch_idle (p : Addr) (w : World) :
    CallsD Try.prog 66 #[.pointer (some p)] .returning w fun e u' w' => e = .returned (.tuple #[]) ∧ u' = .returning ∧ w' = w := by
  have hnil : ∀ w : World, (binOp BinOp.neq 20 .nilIface .nilIface).run Try.prog w = .ok (.bool false) w := fun _ => by kernel_rfl
  refine callsD_of_wpS Try.func66 rfl fun c₀ cs hu => ?_
  apply wpS_seq
  apply wpS_region
  simp [wpOpsS, go_sem, recoverD, hu, Try.ntmps66, Exit.thenS]
  apply wpS_seq
  apply wpS_region
  simp [wpOpsS, go_sem, Exit.thenS, hnil]
  refine wpS_cond (t := false) (by simp [Act.eval, Array.replicate]) ?_
  simp only [Bool.false_eq_true, if_false]
  refine wpS_of_wp (wp_skip ?_)
  cases c₀
  simp_all [bodyPostS, results, Try.results66]
theorem catch_panicking (p : Addr) (old : Value) (a : Option Addr) (l c : Nat) (w : World) (hc : w.cell? p = some old) (hz : w.frozen? p = false) :
    CallsD Try.prog 66 #[.pointer (some p)] (.panicking [{ v := .iface 22 (.slice a l c), recovered := false }]) w fun e u' w' =>
      e = .returned (.tuple #[]) ∧ u' = .panicking [{ v := .iface 22 (.slice a l c), recovered := true }] ∧ w' = w.setCell p (.slice a l c) := by
  have hta : ∀ w : World, (Instr.typeAssert (.iface 22 (.slice a l c)) 20 22 false).run Try.prog w = .ok (.slice a l c) w := fun _ => by kernel_rfl
  have hne : ∀ w : World, (binOp BinOp.neq 20 (.iface 22 (.slice a l c)) .nilIface).run Try.prog w = .ok (.bool true) w := fun _ => by kernel_rfl
  refine callsD_of_wpS Try.func66 rfl fun c₀ cs hu => ?_
  apply wpS_seq
  apply wpS_region
  simp [wpOpsS, go_sem, recoverD, hu, Try.ntmps66, Exit.thenS]
  apply wpS_seq
  apply wpS_region
  simp [wpOpsS, go_sem, Exit.thenS, hne]
  refine wpS_cond (t := true) (by simp [Act.eval, Array.replicate]) ?_
  simp only [if_true]
  apply wpS_region
  simp [wpOpsS, go_sem, hta, hc, hz, bodyPostS, results, Try.results66]

theorem entry_st {n : Nat} {c : CM} {w : World} {vs : List Value} {args : List AV} {hs : HS} (hi : Inv c hs w) (hv : RepL c vs args) (hn : args.length ≤ n) :
    St n c w [] c ⟨argEnv args, hs⟩ { tmps := vs.toArray ++ Array.replicate (n - vs.toArray.size) undef, defers := [] } w := by
  have hvl := hv.1
  refine ⟨⟨by simp; omega, fun t v ht => ?_⟩, hi, .refl _ _, rfl⟩
  simp only [argEnv]
  rw [Array.getElem?_append] at ht
  split at ht
  · rename_i hlt
    simp at hlt
    have hta : t < args.length := by omega
    rw [List.getD_eq_getElem?_getD, List.getElem?_eq_getElem hta]
    exact hv.2 t v args[t] (by simpa using ht) (List.getElem?_eq_getElem hta)
  · rename_i hlt
    simp at hlt
    rw [Array.getElem?_replicate] at ht
    split at ht <;> (try (cases ht; done))
    injection ht with ht; subst ht
    rw [List.getD_eq_getElem?_getD, List.getElem?_eq_none (by omega)]
    exact Rep.tup [] [] rfl (fun j v y h => by simp at h)

def fstV (n : Int) (sp : List Int) (row : Bool) : AV :=
  if (1 : Int) ∈ sp then .nilsl else match fstK n sp row with | some k => chV ((visL n sp row k [1]).headD []) | none => .nilsl
def Q52a (n : Int) (y : AV) (row : Bool) (i0 : Nat) : AEx → AS → Prop
  | .normal, s => s.env 1 = .ptr (.agg [.int .i64 n, y, .bool row]) ∧ s.env 2 = .ref i0 0 ∧ JF i0 [] s.hs
  | _, _ => False
def Q52b (n : Int) (y : AV) (sp : List Int) (row : Bool) (i0 : Nat) : AEx → AS → Prop
  | .normal, s => ((1 : Int) ∉ sp) ∧ s.env 1 = .ptr (.agg [.int .i64 n, y, .bool row]) ∧ s.env 2 = .ref i0 0 ∧ JF i0 [] s.hs
  | .ret, s => (1 : Int) ∈ sp ∧ s.env 2 = .ref i0 0 ∧ s.hs.heap i0 = some [.nilsl]
  | _, _ => False
theorem a52l {n : Int} {y : AV} {sp : List Int} (hy : asI y = some sp) (row : Bool) (hs : HS) : awp Try.prog D13 A52l (Q52a n y row hs.nh) ⟨argEnv [.agg [.int .i64 n, y, .bool row]], hs⟩ := by
  have hsto : (AV.agg [.int .i64 n, y, .bool row]).sto = true := by
    rcases asI_inv hy with ⟨rfl, rfl⟩ | ⟨cc, rfl⟩ <;> simp [AV.sto, AV.leaf]
  refine At.i ?_
  simp [A52l, hsto]
  refine At.of ⟨by simp, by simp, rfl, by simp, by simp⟩
theorem a52rl {n : Int} {y : AV} {sp : List Int} (hy : asI y = some sp) (row : Bool) (i0 : Nat) {s : AS} (h : Q52a n y row i0 .normal s) : awp Try.prog D13 A52rl (Q52b n y sp row i0) s := by
  obtain ⟨e1, e2, j1, j2, j3⟩ := h
  have hyl : ∀ hp : Nat → Option (List AV), aload hp false 1 (.ptr y) = some y := fun hp => load_ptr_list (asI_asV hy)
  refine At.i ?_
  simp [A52rl, e1, e2, hyl, SHas, hy]
  refine At.dec (fun h => ?_) (fun h => ?_)
  · simp [e1, e2, store_one j2]
    exact At.of ⟨h, by simp [e2], by simp⟩
  · simp
    exact At.of ⟨h, by simp [e1], by simp [e2], rfl, j2, j3⟩
theorem p52 {n : Int} (h1 : 1 ≤ n) (h2 : n ≤ 46) {y : AV} {sp : List Int} (hy : asI y = some sp) (row : Bool) (hs : HS) :
    FCall Try.prog 52 [.agg [.int .i64 n, y, .bool row]] hs fun e _ => e = .ret (fstV n sp row) := by
  refine ⟨by kernel_rfl, fun c w vs hi hv => ?_⟩
  refine calls_of_wp_defers Try.func52 rfl ?_
  have hst := entry_st (n := 16) hi hv (by simp)
  have hres : cvRs Try.prog 16 Try.f52.results.toList = some [.cell false 1 2] := by kernel_rfl
  refine wp_seq (wp_mono (awp_sound D13ok _ A52l pc52l (Q52a n y row hs.nh) c _ _ w (a52l hy row hs) hst) ?_)
  rintro e a1 w1 ⟨ae, c1, s1, hq, hm, hs1⟩
  cases ae <;> cases e <;> simp only [ExM] at hm <;> (try (exact hq.elim))
  refine wp_seq (wp_mono (awp_sound D13ok _ A52rl pc52rl (Q52b n y sp row hs.nh) c1 _ _ w1 (a52rl hy row hs.nh hq) hs1) ?_)
  rintro e a2 w2 ⟨ae, c2, s2, hq, hm, hs2⟩
  cases ae <;> cases e <;> simp only [ExM] at hm <;> (try (exact hq.elim))
  case ret.ret =>
    obtain ⟨q1, q2, q3⟩ := hq
    have hr : aResult s2 [.cell false 1 2] = some .nilsl := by rw [aResult_cs, q2]; exact load_one q3
    obtain ⟨v, g1, g2⟩ := results_sound hs2.env hs2.inv hres hr
    show Leaves _ _ _ _ a2.defers _ _
    rw [hs2.df]
    exact ⟨v, g1, .ret .nilsl, s2.hs, c2, by simp [fstV, q1], g2, hs2.inv, hs2.fr⟩
  obtain ⟨q0, q1, q2, q3⟩ := hq
  have hsz : 2 < a2.tmps.size := by rw [hs2.env.size]; decide
  have hr2 := hs2.env.rep 2 a2.tmps[2] (by simp [hsz])
  rw [q2] at hr2
  generalize hp2 : a2.tmps[2] = p2 at hr2
  cases hr2 with
  | ref i0 off hlt =>
  generalize hpa : (⟨(c2.loc hs.nh).1, (c2.loc hs.nh).2 + 0, none⟩ : Addr) = pa at hp2
  have hev : a2.tmps.getD 2 undef = .pointer (some pa) := by simp [hsz, hp2]
  refine wp_seq_k fun K hK => wp_region ?_
  have hmf : ∀ (fn : Fn) (first cap : Array Value) (w : World), (Instr.makeFunc fn first cap).run Try.prog w = .ok (.func fn first cap) w := fun _ _ _ _ => rfl
  have h7 : 7 < a2.tmps.size := by rw [hs2.env.size]; decide
  simp [wpOps, go_sem, hev, hmf, h7]
  refine .inl (.inl (hK _ _ ?_))
  rw [hs2.df]
  have hfn : Rep c2 (.func (.func 66) #[] #[.pointer (some pa)]) (.fn (.func 66) [] [.ref hs.nh 0]) := by
    have := Rep.fn (c := c2) (.func 66) [] [.pointer (some pa)] [] [.ref hs.nh 0] rfl rfl (fun j v y h => by simp at h) (fun j v y h1 h2 => by
      cases j with
      | zero => simp at h1 h2; subst h1; subst h2; rw [← hpa]; exact .ref _ 0 hlt
      | succ j => simp at h1)
    simpa using this
  have hst3 : St 16 c2 w2 [{ target := .fn (.func 66) #[.pointer (some pa)], args := #[] }] c2 (s2.put (some 7) (.fn (.func 66) [] [.ref hs.nh 0])) { tmps := a2.tmps.setIfInBounds 7 (.func (.func 66) #[] #[.pointer (some pa)]), defers := [{ target := .fn (.func 66) #[.pointer (some pa)], args := #[] }] } w2 := by
    have he := hs2.env.put (CM.le.refl c2) (some 7) hfn s2.hs
    exact ⟨⟨he.size, he.rep⟩, hs2.inv, .refl _ _, rfl⟩
  refine wp_mono (awp_sound D13ok _ A52rrr pc52rrr (QF n sp row hs.nh) c2 _ _ w2 (rest52 h1 h2 hy row hs.nh (by simp [q1]) (by simp [q2]) (by simpa using q3)) hst3) ?_
  rintro e a3 w3 ⟨ae, c3, s3, hq, hm, hs3⟩
  have hinv : ∀ w : World, (invoke (.fn (.func 66) #[.pointer (some pa)]) #[]).run Try.prog w = .ok (.enter 66 #[.pointer (some pa)]) w := fun _ => by kernel_rfl
  have hloc : c3.loc hs.nh = c2.loc hs.nh := hs3.fr.le.loc _ hlt
  have hfr3 : Fr c w c3 w3 := hs2.fr.trans hs3.fr
  cases ae <;> cases e <;> simp only [ExM] at hm <;> (try (exact hq.elim))
  · obtain ⟨f1, f2, f3, f4⟩ := hq
    show Leaves _ _ _ _ a3.defers _ _
    rw [hs3.df]
    refine ⟨by simp, _, _, 66, #[.pointer (some pa)], rfl, hinv w3, ?_⟩
    refine (catch_idle pa w3).mono ?_
    rintro e u' w4 ⟨rfl, rfl, rfl⟩
    have hr : aResult s3 [.cell false 1 2] = some .nilsl := by rw [aResult_cs, f4]; exact load_one f2
    obtain ⟨v, g1, g2⟩ := results_sound hs3.env hs3.inv hres hr
    exact ⟨v, g1, .ret .nilsl, s3.hs, c3, by simp [fstV, q0, f1], g2, hs3.inv, hfr3⟩
  · obtain ⟨⟨k, ch, r, f0, f1, rfl⟩, f2, f3, f4⟩ := hq
    obtain ⟨v, rfl, hv1⟩ := hm
    cases hv1 with
    | iface tt v0 x0 hv0 =>
    have hv0' := hv0
    cases hv0 with
    | sl b o cap sz xs cp vs2 hl hz hc hrr lf hcap =>
    obtain ⟨hi1, hi2⟩ := hs3.inv.heap _ _ f2
    obtain ⟨hy1, hy2, hy3, old, hy4, hy5⟩ := hi2 0 .nilsl rfl
    rw [hloc, hpa] at hy3 hy4
    have hst := sound_store (P := Try.prog) (t := 22) (i := (Try.prog.info? 22).getD default) (by kernel_rfl) hs3.inv (u := .pointer (some pa)) (p := .ref hs.nh 0) (by rw [← hpa, ← hloc]; exact .ref _ 0 hi1) hv0' (hp' := fun k => if k = hs.nh then some [chV ch] else s3.hs.heap k) (by
      have : ((Try.prog.info? 22).getD default).size = 1 := by kernel_rfl
      rw [this]
      exact store_one f2 (by simp [chV]) (by simp [chV]))
    obtain ⟨w4, r1, r2, r3⟩ := hst
    have hw4 : w4 = w3.setCell pa (.slice (some ⟨b, o, none⟩) (ints ch).length cap) := by
      simp [go_sem, Instr.storeAt, hy3, hy4] at r1
      rw [← r1]
      simp [ints]
    show Leaves _ _ _ _ a3.defers _ _
    rw [hs3.df]
    refine ⟨by simp, _, _, 66, #[.pointer (some pa)], rfl, hinv w3, ?_⟩
    refine (catch_panicking pa old _ _ _ w3 hy4 hy3).mono ?_
    rintro e u' w5 ⟨rfl, rfl, rfl⟩
    rw [← hw4]
    have he5 : EnvRep 16 c3 a3 ⟨s3.env, { s3.hs with heap := fun k => if k = hs.nh then some [chV ch] else s3.hs.heap k }⟩ := ⟨hs3.env.size, hs3.env.rep⟩
    have hr : aResult ⟨s3.env, { s3.hs with heap := fun k => if k = hs.nh then some [chV ch] else s3.hs.heap k }⟩ [.cell false 1 2] = some (chV ch) := by
      rw [aResult_cs]
      show aload _ false 1 (s3.env 2) = _
      rw [f4]; exact load_one (by simp)
    obtain ⟨v, g1, g2⟩ := results_sound he5 r2 hres hr
    exact ⟨v, g1, .ret (chV ch), _, c3, by simp [fstV, q0, f0, f1], g2, r2, hfr3.trans r3⟩
end Go.Proofs.Ytnmpdegnpaggkaa
