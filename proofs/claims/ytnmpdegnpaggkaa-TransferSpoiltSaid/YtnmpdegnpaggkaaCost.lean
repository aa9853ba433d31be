/-
  Costs, twice. Own work.
-/
import Derived.Test.YtnmpdegnpaggkaaRow
set_option linter.unusedVariables false
set_option linter.unusedSimpArgs false
namespace Go.Proofs.Ytnmpdegnpaggkaa
open Go Fw

def D7 : PCtx := (D6.add 18 SRow).add 19 SRow
theorem D7ok : CtxOk Try.prog D7 := (D6ok.add c18).add c19
@[simp] theorem D7_21 : D7 21 = SChk := id rfl
@[simp] theorem D7_22 : D7 22 = SChk := id rfl
@[simp] theorem D7_50 : D7 50 = S50 := id rfl
@[simp] theorem D7_51 : D7 51 = S64 := id rfl
@[simp] theorem D7_65 : D7 65 = SHas := id rfl
@[simp] theorem D7_68 : D7 68 = SHas := id rfl

def goodP (s t : Int) : Bool := btw 0 s 1000 && btw 0 t 1000
theorem p57 (s t : Int) : PCall Try.prog 57 [.agg [.int .i64 s, .int .i64 t]] (.bool (goodP s t)) := by
  refine PCall.of D7ok ok57 (by simp) rfl fun hs' hb => ?_
  simp [A57, R57, S50]
  refine At.split (fun h => ?_) (fun h => ?_) <;> simp [h, goodP, S50]
theorem p59 (s t : Int) : PCall Try.prog 59 [.agg [.int .i64 s, .int .i64 t]] (.bool (goodP s t)) := by
  refine PCall.of D7ok ok59 (by simp) rfl fun hs' hb => ?_
  simp [A59, R59, S64]
  refine At.split (fun h => ?_) (fun h => ?_) <;> simp [h, goodP, S64]

def cst (s t : Int) (a b : Bool) : Int := if a then (if b then (if s ≤ t then s else t) else s) else if b then t else 1001
def sameQ (pre : List Int) (n : Int) : Bool := pre.any fun a => decide (2 * a = n)
def twoQ (pre q : List Int) (n : Int) : Bool := q.any fun a => !decide (2 * a = n) && decide (n - a ∈ pre)
def costOf (s t : Int) (pre : List Int) (n : Int) : Int := cst s t (sameQ pre n) (twoQ pre pre n)
theorem cst_bound {s t : Int} {a b : Bool} (h : goodP s t = true) : 0 ≤ cst s t a b ∧ cst s t a b ≤ 1001 := by
  simp only [goodP, btw, Bool.and_eq_true, decide_eq_true_eq] at h
  unfold cst
  cases a <;> cases b <;> simp <;> (try split) <;> omega
theorem cst_two {s t : Int} {a b : Bool} (h : goodP s t = true) : (if cst s t a b ≤ t then cst s t a b else t) = cst s t a true := by
  simp only [goodP, btw, Bool.and_eq_true, decide_eq_true_eq] at h
  unfold cst
  cases a <;> cases b <;> simp <;> (repeat' split) <;> omega
theorem cst_same {s t : Int} {a b : Bool} (h : goodP s t = true) : (if cst s t a b ≤ s then cst s t a b else s) = cst s t true b := by
  simp only [goodP, btw, Bool.and_eq_true, decide_eq_true_eq] at h
  unfold cst
  cases a <;> cases b <;> simp <;> (repeat' split) <;> omega
/-- numbers of chains -/
def Ps (l : List Int) : Prop := ∀ a ∈ l, 1 ≤ a ∧ a ≤ 100000
instance (l : List Int) : Decidable (Ps l) := by unfold Ps; infer_instance
theorem ps_take {l : List Int} (h : Ps l) (n : Nat) : Ps (l.take n) := fun a ha => h a (List.mem_of_mem_take ha)
theorem sameQ_is {pre : List Int} {n : Int} (hp : Ps pre) (hn : 1 ≤ n ∧ n ≤ 100000) : sameQ pre n = (decide (n.tmod 2 = 0) && decide (n.tdiv 2 ∈ pre)) := by
  have e1 : n.tmod 2 = n % 2 := Int.tmod_eq_emod_of_nonneg (by omega)
  have e2 : n.tdiv 2 = n / 2 := Int.tdiv_eq_ediv_of_nonneg (by omega)
  rw [e1, e2, Bool.eq_iff_iff]
  simp only [sameQ, List.any_eq_true, decide_eq_true_eq, Bool.and_eq_true]
  constructor
  · rintro ⟨a, ha, h⟩
    have : n / 2 = a := by omega
    exact ⟨by omega, this ▸ ha⟩
  · rintro ⟨h1, h2⟩
    exact ⟨_, h2, by omega⟩

theorem p70 {x : AV} {l : List Int} (hx : asI x = some l) (hp : Ps l) {m : Nat} (hm : l.length = m + 1) {s t : Int} (hg : goodP s t = true) : PCall Try.prog 70 [.agg [.int .i64 s, .int .i64 t], x] (.int .i64 (costOf s t (l.take m) (l.getD m 0))) := by
  have hl := asI_len hx
  refine PCall.of D7ok ok70 (by simp) rfl fun hs' hb => ?_
  have ha := alen_of hx
  rw [show ((l.length : Nat) : Int) = (m : Int) + 1 by omega] at ha
  have hml : m < l.length := by omega
  have et : aslice 1 x none (some (.int .i64 (m : Int))) none = some (takeV m x) := slice_take (asI_asV hx) (n := m) (k := .i64) (by rw [ints_len]; omega)
  have wm : IntKind.i64.wrap (m : Int) = m := wrap_nat (by omega)
  have htk := asI_take hx m
  have hlt : (l.take m).length = m := by simp; omega
  have hn := hp l[m] (List.getElem_mem hml)
  have hgd := getD_get hml
  have hpt := ps_take hp m
  have ltk := alen_of htk
  rw [hlt] at ltk
  have hq : IntKind.i64.wrap (l[m].tdiv 2) = l[m].tdiv 2 := by
    rw [Int.tdiv_eq_ediv_of_nonneg (by omega)]
    exact wrap64 (by omega) (by omega)
  simp [A70, ha, wm, aidx_nat hx hml, et]
  have hsq := sameQ_is hpt hn
  refine At.dec (fun h1 => ?_) (fun h1 => ?_)
  case' refine_1 =>
    simp [h1, hq, SHas, htk]
    refine At.dec (fun h2 => ?_) (fun h2 => ?_)
    case' refine_1 =>
      have hS : cst s t (sameQ (l.take m) l[m]) false = s := by simp [hsq, h1, h2, cst]
    case' refine_2 =>
      have hS : cst s t (sameQ (l.take m) l[m]) false = 1001 := by simp [hsq, h1, h2, cst]
  case' refine_2 =>
    have hS : cst s t (sameQ (l.take m) l[m]) false = 1001 := by simp [hsq, h1, cst]
  all_goals
    simp [h1, ltk]
    refine At.loop (fun (i : Nat) s0 => i ≤ m ∧ s0.env 2 = .ptr (.agg [.int .i64 s, .int .i64 t]) ∧ s0.env 5 = .int .i64 l[m] ∧ s0.env 6 = takeV m x ∧ s0.env 32 = takeV m x ∧ s0.env 33 = .int .i64 m ∧ s0.env 34 = .int .i64 i ∧ s0.env 7 = .int .i64 (cst s t (sameQ (l.take m) l[m]) (twoQ (l.take m) ((l.take m).take i) l[m]))) (fun i => m - i) 0 ?_ ?_
    · simp [hS, twoQ]
    rintro N i s1 hN ⟨hi, e2, e5, e6, e32, e33, e34, e7⟩
    simp [e2, e5, e6, e7, e32, e33, e34]
    refine At.dec (fun h => ?_) (fun h => ?_)
    · have hit : i < (l.take m).length := by omega
      have ai := aidx_nat htk (k := .i64) hit
      rw [List.getElem_take] at ai
      have hb2 := hp l[i] (List.getElem_mem (by omega))
      have w2 : IntKind.i64.wrap (2 * l[i]) = 2 * l[i] := wrap64 (by omega) (by omega)
      have w3 : IntKind.i64.wrap (l[m] - l[i]) = l[m] - l[i] := wrap64 (by omega) (by omega)
      have hts : twoQ (l.take m) ((l.take m).take (i + 1)) l[m] = (twoQ (l.take m) ((l.take m).take i) l[m] || (!decide (2 * l[i] = l[m]) && decide (l[m] - l[i] ∈ l.take m))) := by
        unfold twoQ
        rw [any_take_succ hit, List.getElem_take]
      simp [e2, e5, e6, e7, e32, e33, e34, ai, w2]
      refine At.decn (fun h2 => ?_) (fun h2 => ?_)
      · simp [e2, e5, e6, e7, e32, e33, e34, h2]
        refine hN (i + 1) _ (by omega) ⟨by omega, ?_⟩
        simp [e2, e5, e6, e7, e32, e33, e34, wrap_nat1 (show i < _ by omega), hts, h2]
      · simp [e2, e5, e6, e7, e32, e33, e34, h2, w3, SHas, htk]
        refine At.dec (fun h3 => ?_) (fun h3 => ?_)
        · simp [e2, e5, e6, e7, e32, e33, e34]
          refine hN (i + 1) _ (by omega) ⟨by omega, ?_⟩
          simp [e2, e5, e6, e7, e32, e33, e34, wrap_nat1 (show i < _ by omega), hts, h2, h3, cst_two hg]
        · simp [e2, e5, e6, e7, e32, e33, e34]
          refine hN (i + 1) _ (by omega) ⟨by omega, ?_⟩
          simp [e2, e5, e6, e7, e32, e33, e34, wrap_nat1 (show i < _ by omega), hts, h2, h3]
    · have hi' : i = m := by omega
      subst hi'
      simp [e2, e5, e6, e7, e32, e33, e34, R70]
      rw [List.take_take, Nat.min_self]
      simp [costOf, List.getElem?_eq_getElem hml]

def S57 : List AV → Option AV
  | [.agg [.int .i64 s, .int .i64 t]] => some (.bool (goodP s t))
  | _ => none
theorem c57 : ∀ a r, S57 a = some r → PCall Try.prog 57 a r := by
  intro a r h
  unfold S57 at h
  split at h <;> (try (cases h; done))
  injection h with h; subst h
  exact p57 _ _
theorem c59 : ∀ a r, S57 a = some r → PCall Try.prog 59 a r := by
  intro a r h
  unfold S57 at h
  split at h <;> (try (cases h; done))
  injection h with h; subst h
  exact p59 _ _
def S70 : List AV → Option AV
  | [.agg [.int .i64 s, .int .i64 t], x] => (asI x).bind fun l => if Ps l ∧ 0 < l.length ∧ goodP s t = true then some (.int .i64 (costOf s t (l.take (l.length - 1)) (l.getD (l.length - 1) 0))) else none
  | _ => none
theorem c70 : ∀ a r, S70 a = some r → PCall Try.prog 70 a r := by
  intro a r h
  unfold S70 at h
  split at h <;> (try (cases h; done))
  obtain ⟨l, hl, h⟩ := Option.bind_eq_some_iff.1 h
  split at h <;> (try (cases h; done))
  rename_i hc
  injection h with h; subst h
  exact p70 hl hc.1 (by omega) hc.2.2
def D8 : PCtx := ((D7.add 57 S57).add 59 S57).add 70 S70
theorem D8ok : CtxOk Try.prog D8 := ((D7ok.add c57).add c59).add c70
@[simp] theorem D8_57 : D8 57 = S57 := id rfl
@[simp] theorem D8_59 : D8 59 = S57 := id rfl
@[simp] theorem D8_70 : D8 70 = S70 := id rfl
@[simp] theorem D8_21 : D8 21 = SChk := id rfl
@[simp] theorem D8_22 : D8 22 = SChk := id rfl
@[simp] theorem D8_68 : D8 68 = SHas := id rfl

def sumC (f : Nat → Int) : Nat → Int
  | 0 => 0
  | n + 1 => sumC f n + f n
theorem sumC_bound {f : Nat → Int} (h : ∀ k, 0 ≤ f k ∧ f k ≤ 1001) : ∀ n, 0 ≤ sumC f n ∧ sumC f n ≤ 1001 * n
  | 0 => by simp [sumC]
  | n + 1 => by
    have := sumC_bound h n
    have := h n
    simp only [sumC]
    omega
def costF (s t : Int) (l : List Int) (j : Nat) : Int := costOf s t (l.take (j + 1)) (l.getD (j + 1) 0)
def costL (s t : Int) (l : List Int) : Int := sumC (costF s t l) (l.length - 1)
theorem costF_bound {s t : Int} (h : goodP s t = true) (l : List Int) (k : Nat) : 0 ≤ costF s t l k ∧ costF s t l k ≤ 1001 := cst_bound h
theorem p58 {x : AV} {l : List Int} (hx : asI x = some l) (hp : Ps l) (hlen : l.length ≤ 1000) {s t : Int} (hg : goodP s t = true) : PCall Try.prog 58 [.agg [.int .i64 s, .int .i64 t], x] (.int .i64 (costL s t l)) := by
  refine PCall.of D8ok ok58 (by simp) rfl fun hs' hb => ?_
  simp [A58, R58]
  refine At.loop (fun (j : Nat) s0 => (j = 0 ∨ j + 1 ≤ l.length) ∧ s0.env 1 = x ∧ s0.env 2 = .ptr (.agg [.int .i64 s, .int .i64 t]) ∧ s0.env 5 = .int .i64 (sumC (costF s t l) j) ∧ s0.env 6 = .int .i64 ((j + 2 : Nat) : Int)) (fun j => l.length + 1 - j) 0 ?_ ?_
  · simp [sumC]
  rintro N j s1 hN ⟨hj, e1, e2, e5, e6⟩
  simp [e1, e2, e5, e6, alen_of hx]
  refine At.dec (fun h => ?_) (fun h => ?_)
  · have hj1 : j + 1 < l.length := by omega
    have et : aslice 1 x none (some (.int .i64 ((j : Int) + 2))) none = some (takeV (j + 2) x) := by
      have := slice_take (asI_asV hx) (n := j + 2) (k := .i64) (by rw [ints_len]; omega)
      simpa using this
    have hmin : min (j + 2) l.length = j + 2 := by omega
    have hf : costOf s t ((l.take (j + 2)).take (j + 1)) ((l.take (j + 2)).getD (j + 1) 0) = costF s t l j := by
      unfold costF
      rw [List.take_take, Nat.min_eq_left (by omega)]
      congr 1
      simp [hj1]
    have hb1 := sumC_bound (costF_bound hg l) j
    have hb2 := costF_bound hg l j
    have w1 : IntKind.i64.wrap (sumC (costF s t l) j + costF s t l j) = sumC (costF s t l) j + costF s t l j := wrap64 (by omega) (by omega)
    have w2 : IntKind.i64.wrap ((j : Int) + 2 + 1) = (j : Int) + 2 + 1 := wrap64 (by omega) (by omega)
    have hS : S70 [.agg [.int .i64 s, .int .i64 t], takeV (j + 2) x] = some (.int .i64 (costF s t l j)) := by
      simp only [S70, asI_take hx, Option.bind_some, List.length_take, hmin]
      rw [if_pos ⟨ps_take hp _, by omega, hg⟩]
      rw [show j + 2 - 1 = j + 1 by omega, hf]
    simp [e1, e2, e5, e6, et, hS, w1]
    refine hN (j + 1) _ (by omega) ⟨.inr (by omega), ?_⟩
    simp [e1, e2, e5, e6, w2, sumC]
    omega
  · simp [e1, e2, e5, e6, costL]
    rcases hj with hj | hj
    · subst hj
      rw [show l.length - 1 = 0 by omega]
    · rw [show l.length - 1 = j by omega]
theorem p60 {x : AV} {l : List Int} (hx : asI x = some l) (hp : Ps l) (hlen : l.length ≤ 1000) {s t : Int} (hg : goodP s t = true) : PCall Try.prog 60 [x, .agg [.int .i64 s, .int .i64 t]] (.int .i64 (costL s t l)) := by
  refine PCall.of D8ok ok60 (by simp) rfl fun hs' hb => ?_
  simp [A60, R60]
  refine At.loop (fun (j : Nat) s0 => (j = 0 ∨ j + 1 ≤ l.length) ∧ s0.env 0 = x ∧ s0.env 3 = .ptr (.agg [.int .i64 s, .int .i64 t]) ∧ s0.env 5 = .int .i64 (sumC (costF s t l) j) ∧ s0.env 6 = .int .i64 ((j + 1 : Nat) : Int)) (fun j => l.length + 1 - j) 0 ?_ ?_
  · simp [sumC]
  rintro N j s1 hN ⟨hj, e0, e3, e5, e6⟩
  have cj : ((j + 1 : Nat) : Int) = (j : Int) + 1 := by omega
  simp [e0, e3, e5, e6, alen_of hx]
  refine At.dec (fun h => ?_) (fun h => ?_)
  · have hj1 : j + 1 < l.length := by omega
    have ai := aidx_nat hx (k := .i64) hj1
    rw [cj] at ai
    have et : aslice 1 x none (some (.int .i64 ((j : Int) + 1))) none = some (takeV (j + 1) x) := by
      have := slice_take (asI_asV hx) (n := j + 1) (k := .i64) (by rw [ints_len]; omega)
      simpa using this
    have hgd := getD_get hj1
    have hb1 := sumC_bound (costF_bound hg l) j
    have hb2 := costF_bound hg l j
    have w1 : IntKind.i64.wrap (sumC (costF s t l) j + costF s t l j) = sumC (costF s t l) j + costF s t l j := wrap64 (by omega) (by omega)
    have w2 : IntKind.i64.wrap ((j : Int) + 1 + 1) = (j : Int) + 1 + 1 := wrap64 (by omega) (by omega)
    simp [e0, e3, e5, e6]
    refine At.loop (fun (k : Nat) s0 => k ≤ j + 1 ∧ s0.env 0 = x ∧ s0.env 3 = .ptr (.agg [.int .i64 s, .int .i64 t]) ∧ s0.env 5 = .int .i64 (sumC (costF s t l) j) ∧ s0.env 6 = .int .i64 ((j : Int) + 1) ∧ s0.env 8 = .int .i64 k ∧ s0.env 7 = .int .i64 (cst s t (sameQ (l.take k) l[j + 1]) (twoQ (l.take (j + 1)) (l.take k) l[j + 1]))) (fun k => j + 1 - k) 0 ?_ ?_
    · simp [e0, e3, e5, e6, sameQ, twoQ, cst]
    rintro N' k s2 hN' ⟨hk, e0, e3, e5, e6, e8, e7⟩
    simp [e0, e3, e5, e6, e7, e8]
    refine At.dec (fun h2 => ?_) (fun h2 => ?_)
    · have hkl : k < l.length := by omega
      have hbk := hp l[k] (List.getElem_mem hkl)
      have hbj := hp l[j + 1] (List.getElem_mem hj1)
      have w3 : IntKind.i64.wrap (2 * l[k]) = 2 * l[k] := wrap64 (by omega) (by omega)
      have w4 : IntKind.i64.wrap (l[j + 1] - l[k]) = l[j + 1] - l[k] := wrap64 (by omega) (by omega)
      have w5 : IntKind.i64.wrap ((k : Int) + 1) = (k : Int) + 1 := wrap64 (by omega) (by omega)
      have hts : twoQ (l.take (j + 1)) (l.take (k + 1)) l[j + 1] = (twoQ (l.take (j + 1)) (l.take k) l[j + 1] || (!decide (2 * l[k] = l[j + 1]) && decide (l[j + 1] - l[k] ∈ l.take (j + 1)))) := by
        unfold twoQ
        rw [any_take_succ hkl]
      have hss : sameQ (l.take (k + 1)) l[j + 1] = (sameQ (l.take k) l[j + 1] || decide (2 * l[k] = l[j + 1])) := by
        unfold sameQ
        rw [any_take_succ hkl]
      simp [e0, e3, e5, e6, e7, e8, aidx_nat hx hkl, ai, w3]
      refine At.dec (fun h3 => ?_) (fun h3 => ?_)
      · simp [e0, e3, e5, e6, e7, e8]
        refine hN' (k + 1) _ (by omega) ⟨by omega, ?_⟩
        simp [e0, e3, e5, e6, e7, e8, w5, hts, hss, h3, cst_same hg]
      · simp [e0, e3, e5, e6, e7, e8, et, aidx_nat hx hkl, ai, w4, SHas, asI_take hx]
        refine At.dec (fun h4 => ?_) (fun h4 => ?_)
        · simp [e0, e3, e5, e6, e7, e8]
          refine hN' (k + 1) _ (by omega) ⟨by omega, ?_⟩
          simp [e0, e3, e5, e6, e7, e8, w5, hts, hss, h3, h4, cst_two hg]
        · simp [e0, e3, e5, e6, e7, e8]
          refine hN' (k + 1) _ (by omega) ⟨by omega, ?_⟩
          simp [e0, e3, e5, e6, e7, e8, w5, hts, hss, h3, h4]
    · have hk' : k = j + 1 := by omega
      subst hk'
      have hcf : cst s t (sameQ (l.take (j + 1)) l[j + 1]) (twoQ (l.take (j + 1)) (l.take (j + 1)) l[j + 1]) = costF s t l j := by unfold costF costOf; rw [hgd]
      rw [hcf] at e7
      simp [e0, e3, e5, e6, e7, e8, w1]
      refine hN (j + 1) _ (by omega) ⟨.inr (by omega), ?_⟩
      simp [e0, e3, e5, e6, e7, e8, w2, sumC]
  · simp [e0, e3, e5, e6, costL]
    rcases hj with hj | hj
    · subst hj
      rw [show l.length - 1 = 0 by omega]
    · rw [show l.length - 1 = j by omega]
def S58 : List AV → Option AV
  | [.agg [.int .i64 s, .int .i64 t], x] => (asI x).bind fun l => if Ps l ∧ l.length ≤ 1000 ∧ goodP s t = true then some (.int .i64 (costL s t l)) else none
  | _ => none
theorem c58 : ∀ a r, S58 a = some r → PCall Try.prog 58 a r := by
  intro a r h
  unfold S58 at h
  split at h <;> (try (cases h; done))
  obtain ⟨l, hl, h⟩ := Option.bind_eq_some_iff.1 h
  split at h <;> (try (cases h; done))
  rename_i hc
  injection h with h; subst h
  exact p58 hl hc.1 hc.2.1 hc.2.2
def S60 : List AV → Option AV
  | [x, .agg [.int .i64 s, .int .i64 t]] => (asI x).bind fun l => if Ps l ∧ l.length ≤ 1000 ∧ goodP s t = true then some (.int .i64 (costL s t l)) else none
  | _ => none
theorem c60 : ∀ a r, S60 a = some r → PCall Try.prog 60 a r := by
  intro a r h
  unfold S60 at h
  split at h <;> (try (cases h; done))
  obtain ⟨l, hl, h⟩ := Option.bind_eq_some_iff.1 h
  split at h <;> (try (cases h; done))
  rename_i hc
  injection h with h; subst h
  exact p60 hl hc.1 hc.2.1 hc.2.2
def D9 : PCtx := (D8.add 58 S58).add 60 S60
theorem D9ok : CtxOk Try.prog D9 := (D8ok.add c58).add c60
@[simp] theorem D9_57 : D9 57 = S57 := id rfl
@[simp] theorem D9_59 : D9 59 = S57 := id rfl
@[simp] theorem D9_58 : D9 58 = S58 := id rfl
@[simp] theorem D9_60 : D9 60 = S60 := id rfl
@[simp] theorem D9_21 : D9 21 = SChk := id rfl
@[simp] theorem D9_22 : D9 22 = SChk := id rfl
theorem Good.ps {l : List Int} (h : Good l) : Ps l := fun a ha => by have := h.bound a ha; omega
/-- the result of Cost -/
def costR (s t : Int) (l : List Int) : AV := if chk l = 0 then (if goodP s t = true then .tup [.int .i64 (costL s t l), .int .i64 0] else .tup [.int .i64 0, .int .i64 3]) else .tup [.int .i64 0, .int .i64 (chk l)]
theorem costR_plain (s t : Int) (l : List Int) : (costR s t l).plain = true := by
  unfold costR
  split
  · split <;> rfl
  · rfl
theorem p36 {x : AV} {l : List Int} (hx : asI x = some l) (s t : Int) : PCall Try.prog 36 [x, .agg [.int .i64 s, .int .i64 t]] (costR s t l) := by
  refine PCall.of D9ok ok36 (by simp) (costR_plain s t l) fun hs' hb => ?_
  simp [A36, R36, SChk, hx]
  refine At.decn (fun h => ?_) (fun h => ?_)
  · have g := Good.of h
    simp [S57]
    refine At.split (fun h2 => ?_) (fun h2 => ?_)
    · simp at h2
      simp [costR, h, h2]
    · simp at h2
      have := g.len
      simp [costR, h, h2, S58, hx, g.ps, show l.length ≤ 1000 by omega]
  · simp [costR, h]
theorem p37 {x : AV} {l : List Int} (hx : asI x = some l) (s t : Int) : PCall Try.prog 37 [x, .agg [.int .i64 s, .int .i64 t]] (costR s t l) := by
  refine PCall.of D9ok ok37 (by simp) (costR_plain s t l) fun hs' hb => ?_
  simp [A37, R37, SChk, hx]
  refine At.dec (fun h => ?_) (fun h => ?_)
  · have g := Good.of h
    simp [S57, h]
    refine At.split (fun h2 => ?_) (fun h2 => ?_)
    · simp at h2
      simp [costR, h, h2]
    · simp at h2
      have := g.len
      simp [costR, h, h2, S60, hx, g.ps, show l.length ≤ 1000 by omega]
  · simp [costR, h]
def SCost : List AV → Option AV
  | [x, .agg [.int .i64 s, .int .i64 t]] => (asI x).map fun l => costR s t l
  | _ => none
theorem c36 : ∀ a r, SCost a = some r → PCall Try.prog 36 a r := by
  intro a r h
  unfold SCost at h
  split at h <;> (try (cases h; done))
  obtain ⟨l, hl, rfl⟩ := optmap_some h
  exact p36 hl _ _
theorem c37 : ∀ a r, SCost a = some r → PCall Try.prog 37 a r := by
  intro a r h
  unfold SCost at h
  split at h <;> (try (cases h; done))
  obtain ⟨l, hl, rfl⟩ := optmap_some h
  exact p37 hl _ _
end Go.Proofs.Ytnmpdegnpaggkaa
