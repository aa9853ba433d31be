/-
  The reference's answers. Own work.
-/
import Derived.Test.YtnmpdegnpaggkaaSho
set_option linter.unusedVariables false
set_option linter.unusedSimpArgs false
namespace Go.Proofs.Ytnmpdegnpaggkaa
open Go Fw

@[simp] theorem load_ptr_chV {hp : Nat → Option (List AV)} {c : List Int} : aload hp false 1 (.ptr (chV c)) = some (chV c) := by simp [chV]
attribute [simp] share_chV
theorem asI_chV {c : List Int} (h : c.length ≤ 100) : asI (chV c) = some c := asI_sl (by omega)

structure Chn (n : Int) (m : Nat) (c : List Int) : Prop where
  bound : ∀ a ∈ c, 1 ≤ a ∧ a ≤ 46
  len : c.length = m
  sorted : c.Pairwise (· < ·)
  last : lastL c = n
theorem le_last {c : List Int} (hs : c.Pairwise (· < ·)) {a : Int} (ha : a ∈ c) : a ≤ lastL c := by
  obtain ⟨i, hi, rfl⟩ := List.getElem_of_mem ha
  rw [lastL_get (by omega)]
  rcases Nat.lt_or_ge i (c.length - 1) with h | h
  · have := sorted_get hs (show c.length - 1 < c.length by omega) h; omega
  · have : i = c.length - 1 := by omega
    subst this; exact Int.le_refl _
theorem sorted_snoc {c : List Int} (hs : c.Pairwise (· < ·)) {a : Int} (ha : lastL c < a) : (c ++ [a]).Pairwise (· < ·) := by
  rw [List.pairwise_append]
  refine ⟨hs, by simp, fun x hx y hy => ?_⟩
  simp at hy; subst hy
  have := le_last hs hx; omega
theorem ext_mem {n : Int} (hn : n ≤ 46) (sp : List Int) : ∀ (k : Nat) (c0 c : List Int), (∀ a ∈ c0, 1 ≤ a ∧ a ≤ 46) → 0 < c0.length → c0.Pairwise (· < ·) → c ∈ extL n sp k c0 → Chn n (c0.length + k) c
  | 0, c0, c, hb, hl, hs, h => by
    unfold extL at h
    split at h
    · rename_i hla
      simp at h; subst h
      exact ⟨hb, rfl, hs, hla⟩
    · simp at h
  | k + 1, c0, c, hb, hl, hs, h => by
    rw [extL] at h
    split at h
    · simp at h
    · rw [List.mem_flatMap] at h
      obtain ⟨j, hj, h⟩ := h
      split at h
      · simp at h
      · simp only [List.mem_range] at hj
        have hc := @cands_le (lastL c0) n
        have hlm : lastL c0 ∈ c0 := by rw [lastL_get hl]; exact List.getElem_mem _
        have hlb := hb _ hlm
        have := ext_mem hn sp k (c0 ++ [lastL c0 + 1 + (j : Int)]) c (fun a ha => by
          simp only [List.mem_append, List.mem_singleton] at ha
          rcases ha with ha | ha
          · exact hb a ha
          · subst ha; omega) (by simp) (sorted_snoc hs (by omega)) h
        simpa [Nat.add_assoc, Nat.add_comm 1 k] using this
theorem ext_mem1 {n : Int} (hn : n ≤ 46) {sp : List Int} {k : Nat} {c : List Int} (h : c ∈ extL n sp k [1]) : Chn n (k + 1) c := by
  have := ext_mem hn sp k [1] c (fun a ha => by simp at ha; subst ha; omega) (by simp) (by simp) h
  simpa [Nat.add_comm] using this
theorem sh_mem {n : Int} (hn : n ≤ 46) {sp : List Int} {c : List Int} (h : c ∈ shL n sp) : ∃ m, m ≤ 8 ∧ 0 < m ∧ Chn n m c := by
  unfold shL at h
  split at h
  · rename_i k hk
    have := (shK_le hk).1
    exact ⟨k + 1, by omega, by omega, ext_mem1 hn h⟩
  · simp at h
theorem sh_len {n : Int} (hn : n ≤ 46) (sp : List Int) : (shL n sp).length ≤ 100000000 := by
  unfold shL
  split
  · rename_i k hk; exact num_ok hn sp (shK_le hk).1 (by decide)
  · simp

def S53 : List AV → Option AV
  | [.int .i64 n, y] => (asI y).bind fun sp => if 1 ≤ n ∧ n ≤ 46 then some (shV n sp) else none
  | _ => none
theorem c53 : ∀ a r, S53 a = some r → PCall Try.prog 53 a r := by
  intro a r h
  unfold S53 at h
  split at h <;> (try (cases h; done))
  obtain ⟨l, hl, h⟩ := Option.bind_eq_some_iff.1 h
  split at h <;> (try (cases h; done))
  rename_i hc
  injection h with h; subst h
  exact p53 hl hc.1 hc.2
def D12 : PCtx := D11.add 53 S53
theorem D12ok : CtxOk Try.prog D12 := D11ok.add c53
@[simp] theorem D12_53 : D12 53 = S53 := id rfl
@[simp] theorem D12_56 : D12 56 = S56 8 := id rfl
@[simp] theorem D12_51 : D12 51 = S64 := id rfl
@[simp] theorem D12_49 : D12 49 = S49 := id rfl
@[simp] theorem D12_59 : D12 59 = S57 := id rfl
@[simp] theorem D12_60 : D12 60 = S60 := id rfl

def hdL (n : Int) (sp : List Int) : List Int := (shL n sp).headD []
def chainR (n : Int) : AV := if btw 1 n 46 = true then .tup [chV (hdL n []), .int .i64 0] else .tup [.nilsl, .int .i64 3]
theorem btw_iff {a b c : Int} : btw a b c = true ↔ a ≤ b ∧ b ≤ c := by simp [btw]
theorem chainR_plain (n : Int) : (chainR n).plain = true := by
  unfold chainR; split
  · simp only [AV.plain, plainL, plain_chV, Bool.and_self]
  · rfl
theorem hd_get {n : Int} {sp : List Int} (h : 0 < (shL n sp).length) : hdL n sp = (shL n sp)[0] := by
  unfold hdL
  revert h
  generalize shL n sp = l
  intro h
  cases l with
  | nil => simp at h
  | cons a r => rfl
theorem p26 (n : Int) : PCall Try.prog 26 [.int .i64 n] (chainR n) := by
  refine PCall.of D12ok ok26 (by simp) (chainR_plain n) fun hs' hb => ?_
  simp [A26, R26, S64]
  refine At.split (fun h => ?_) (fun h => ?_)
  · simp at h
    simp [chainR, h]
  · simp at h
    obtain ⟨h1, h2⟩ := btw_iff.1 h
    have hne := shL_ne h1 h2
    have hv := shV_as h2 []
    have ai := idxV hv (k := .i64) (i := 0) (by simpa using hne)
    simp only [List.getElem_map, Int.natCast_zero] at ai
    simp [S53, h1, h2, ai]
    simp [chainR, h, hd_get hne]
def SChain : List AV → Option AV
  | [.int .i64 n] => some (chainR n)
  | _ => none
theorem c26 : ∀ a r, SChain a = some r → PCall Try.prog 26 a r := by
  intro a r h
  unfold SChain at h
  split at h <;> (try (cases h; done))
  injection h with h; subst h
  exact p26 _
def D13 : PCtx := D12.add 26 SChain
theorem D13ok : CtxOk Try.prog D13 := D12ok.add c26
@[simp] theorem D13_26 : D13 26 = SChain := id rfl
@[simp] theorem D13_53 : D13 53 = S53 := id rfl
@[simp] theorem D13_56 : D13 56 = S56 8 := id rfl
@[simp] theorem D13_51 : D13 51 = S64 := id rfl
@[simp] theorem D13_49 : D13 49 = S49 := id rfl
@[simp] theorem D13_59 : D13 59 = S57 := id rfl
@[simp] theorem D13_60 : D13 60 = S60 := id rfl
theorem hd_mem {n : Int} {sp : List Int} (h : 0 < (shL n sp).length) : hdL n sp ∈ shL n sp := by rw [hd_get h]; exact List.getElem_mem _
theorem hd_chn {n : Int} (h1 : 1 ≤ n) (h2 : n ≤ 46) : ∃ m, m ≤ 8 ∧ 0 < m ∧ Chn n m (hdL n []) := sh_mem h2 (hd_mem (shL_ne h1 h2))
def distR (n : Int) : AV := if btw 1 n 46 = true then .tup [.int .i64 (((hdL n []).length : Int) - 1), .int .i64 0] else .tup [.int .i64 0, .int .i64 3]
theorem distR_plain (n : Int) : (distR n).plain = true := by unfold distR; split <;> rfl
theorem p24 (n : Int) : PCall Try.prog 24 [.int .i64 n] (distR n) := by
  refine PCall.of D13ok ok24 (by simp) (distR_plain n) fun hs' hb => ?_
  simp [A24, R24, SChain]
  by_cases h : btw 1 n 46 = true
  · obtain ⟨h1, h2⟩ := btw_iff.1 h
    obtain ⟨m, hm, hm0, hc⟩ := hd_chn h1 h2
    have hlen := hc.len
    have la := alen_of (asI_chV (c := hdL n []) (by omega))
    have w : IntKind.i64.wrap (((hdL n []).length : Int) - 1) = ((hdL n []).length : Int) - 1 := wrap64 (by omega) (by omega)
    simp [chainR, h, la, w]
    simp [distR, h]
  · simp [chainR, h]
    simp [distR, h]
def countR (n : Int) : AV := if btw 1 n 46 = true then .tup [.int .i64 (shL n []).length, .int .i64 0] else .tup [.int .i64 0, .int .i64 3]
theorem countR_plain (n : Int) : (countR n).plain = true := by unfold countR; split <;> rfl
theorem p29 (n : Int) : PCall Try.prog 29 [.int .i64 n] (countR n) := by
  refine PCall.of D13ok ok29 (by simp) (countR_plain n) fun hs' hb => ?_
  simp [A29, R29, S64]
  refine At.split (fun h => ?_) (fun h => ?_)
  · simp at h
    simp [countR, h]
  · simp at h
    obtain ⟨h1, h2⟩ := btw_iff.1 h
    have la := lenV (shV_as h2 [])
    rw [List.length_map] at la
    simp [S53, h1, h2, la]
    simp [countR, h]
def inrowR (n : Int) : AV := if btw 1 n 46 = true then (match (shL n []).find? rowB with | some c => .tup [chV c, .int .i64 0] | none => .tup [.nilsl, .int .i64 14]) else .tup [.nilsl, .int .i64 3]
theorem inrowR_plain (n : Int) : (inrowR n).plain = true := by
  unfold inrowR; split
  · split
    · simp only [AV.plain, plainL, plain_chV, Bool.and_self]
    · rfl
  · rfl
theorem find_none_take {l : List (List Int)} {f : List Int → Bool} {i : Nat} (hi : i < l.length) (h : (l.take i).find? f = none) (hf : f l[i] = true) : l.find? f = some l[i] := by
  have e : l.find? f = (l.take i ++ l[i] :: l.drop (i + 1)).find? f := by congr 1; simp
  rw [e, List.find?_append, h]
  simp only [Option.none_or, List.find?_cons, hf]
theorem p31 (n : Int) : PCall Try.prog 31 [.int .i64 n] (inrowR n) := by
  refine PCall.of D13ok ok31 (by simp) (inrowR_plain n) fun hs' hb => ?_
  simp [A31, R31, S64]
  refine At.split (fun h => ?_) (fun h => ?_)
  · simp at h
    simp [inrowR, h]
  · simp at h
    obtain ⟨h1, h2⟩ := btw_iff.1 h
    have hv := shV_as h2 []
    have la := lenV hv
    rw [List.length_map] at la
    have hsl := sh_len h2 []
    simp [S53, h1, h2]
    refine At.loop (fun (i : Nat) s0 => i ≤ (shL n []).length ∧ s0.env 4 = shV n [] ∧ s0.env 5 = .int .i64 i ∧ ((shL n []).take i).find? rowB = none) (fun i => (shL n []).length - i) 0 (by simp) ?_
    rintro N i s1 hN ⟨hi, e4, e5, hf⟩
    simp [e4, e5, la]
    refine At.dec (fun h3 => ?_) (fun h3 => ?_)
    · have ai := idxV hv (k := .i64) (i := i) (by simpa using h3)
      simp only [List.getElem_map] at ai
      obtain ⟨m, hm, hm0, hc⟩ := sh_mem h2 (List.getElem_mem h3)
      have hcl := hc.len
      have hsm := sm_of hc.bound
      simp [e4, e5, ai, S49, asI_chV (show ((shL n [])[i]).length ≤ 100 by omega), hsm]
      refine At.split (fun h4 => ?_) (fun h4 => ?_)
      · simp [e4, e5, ai]
        simp [inrowR, h, find_none_take h3 hf h4]
      · simp [e4, e5]
        refine hN (i + 1) _ (by omega) ⟨by omega, ?_⟩
        simp [e4, e5, wrap_nat1 (show i < _ by omega)]
        rw [take_snoc h3]
        intro x hx
        rcases List.mem_append.1 hx with hx | hx
        · simpa using List.find?_eq_none.1 hf x hx
        · simp at hx; subst hx; exact h4
    · have : i = (shL n []).length := by omega
      subst this
      rw [List.take_length] at hf
      simp [e4, e5]
      simp [inrowR, h, hf]
def reachP (k n : Int) : Bool := (List.range (k.toNat + 1)).any fun j => decide (0 < (extL n [] j [1]).length)
def reachTo (k : Int) (m : Nat) : List Int := ((List.range m).map fun (j : Nat) => (j : Int) + 1).filter (reachP k)
def reachR (k : Int) : AV := if btw 0 k 7 = true then .tup [outV 1 (ints (reachTo k 46)), .int .i64 0] else .tup [.nilsl, .int .i64 3]
theorem reachR_plain (n : Int) : (reachR n).plain = true := by
  unfold reachR; split
  · simp only [AV.plain, plainL, plain_outV (plain_ints _), Bool.and_self]
  · rfl
theorem any_range_succ {f : Nat → Bool} {m : Nat} : (List.range (m + 1)).any f = ((List.range m).any f || f m) := by rw [List.range_succ]; simp
theorem reachTo_succ (k : Int) (m : Nat) : reachTo k (m + 1) = reachTo k m ++ (if reachP k ((m : Int) + 1) = true then [(m : Int) + 1] else []) := by
  unfold reachTo
  rw [List.range_succ, List.map_append, List.filter_append]
  congr 1
  simp only [List.map_cons, List.map_nil, List.filter_cons, List.filter_nil]
theorem reachTo_len (k : Int) (m : Nat) : (reachTo k m).length ≤ m := by
  unfold reachTo
  refine Nat.le_trans (List.length_filter_le _ _) (by simp)
theorem p33 (k : Int) : PCall Try.prog 33 [.int .i64 k] (reachR k) := by
  refine PCall.of D13ok ok33 (by simp) (reachR_plain k) fun hs' hb => ?_
  simp [A33, R33, S64]
  refine At.split (fun h => ?_) (fun h => ?_)
  · simp at h
    simp [reachR, h]
  · simp at h
    obtain ⟨h1, h2⟩ := btw_iff.1 h
    simp
    refine At.loop (fun (i : Nat) s0 => i ≤ 46 ∧ s0.env 0 = .int .i64 k ∧ s0.env 5 = .int .i64 ((i : Int) + 1) ∧ Outs 1 s0.hs (s0.env 4) (ints (reachTo k i))) (fun i => 46 - i) 0 ?_ ?_
    · simp
      exact .nil
    rintro N i s1 hN ⟨hi, e0, e5, ho⟩
    have w1 : IntKind.i64.wrap ((i : Int) + 1 + 1) = (i : Int) + 1 + 1 := wrap64 (by omega) (by omega)
    simp [e0, e5]
    refine At.dec (fun h3 => ?_) (fun h3 => ?_)
    · simp [e0, e5]
      refine At.loop (fun (j : Nat) s0 => (j : Int) ≤ k + 1 ∧ s0.env 0 = .int .i64 k ∧ s0.env 5 = .int .i64 ((i : Int) + 1) ∧ s0.env 7 = .int .i64 j ∧ s0.env 6 = .bool ((List.range j).any fun j => decide (0 < (extL ((i : Int) + 1) [] j [1]).length)) ∧ ((List.range (j - 1)).any fun j => decide (0 < (extL ((i : Int) + 1) [] j [1]).length)) = false ∧ Outs 1 s0.hs (s0.env 4) (ints (reachTo k i))) (fun j => 9 - j) 0 ?_ ?_
      · simp [e0, e5]
        exact ⟨by omega, ho⟩
      rintro N' j s2 hN' ⟨hj, e0, e5, e7, e6, hprev, ho⟩
      simp [e0, e5, e7, e6]
      refine At.dec (fun h4 => ?_) (fun h4 => ?_)
      case' refine_2 =>
        have hA : (List.range j).any (fun j => decide (0 < (extL ((i : Int) + 1) [] j [1]).length)) = reachP k ((i : Int) + 1) := by
          unfold reachP
          rw [show k.toNat + 1 = j by omega]
      case' refine_1 =>
        simp [e0, e5, e7, e6, h4]
        refine At.split (fun h5 => ?_) (fun h5 => ?_)
        case' refine_2 =>
          have hP : reachP k ((i : Int) + 1) = true := by
            simp at h5
            obtain ⟨x, hx, h5⟩ := h5
            unfold reachP
            rw [List.any_eq_true]
            exact ⟨x, by simp; omega, by simpa [List.length_pos_iff] using h5⟩
          have hA : (List.range j).any (fun j => decide (0 < (extL ((i : Int) + 1) [] j [1]).length)) = reachP k ((i : Int) + 1) := by
            rw [hP]
            simp at h5
            obtain ⟨x, hx, h5⟩ := h5
            rw [List.any_eq_true]
            exact ⟨x, by simp; omega, by simpa [List.length_pos_iff] using h5⟩
      case' refine_1 =>
        have hA : (List.range j).any (fun j => decide (0 < (extL ((i : Int) + 1) [] j [1]).length)) = false := by simpa using h5
        have hj7 : j ≤ 7 := by omega
        have hS := S56_1 asI_one (show asI .nilsl = some [] from rfl) (n := (i : Int) + 1) (by omega) (by omega) hj7
        have hev := asV_extV (num_ok (n := (i : Int) + 1) (by omega) [] hj7 (c := [1]) (by decide))
        have hlen := lenV hev
        rw [List.length_map] at hlen
        simp [e0, e5, e7, e6, astoAll, hS, AV.sto, AV.cells, AV.leaf, hlen]
        refine hN' (j + 1) _ (by omega) ⟨by omega, ?_⟩
        simp only [env_put, hs_put]
        refine ⟨by simp [e0], by simp [e5], by simp [wrap_nat1 (show j < _ by omega)], ?_, hA, by simpa using ho⟩
        rw [any_range_succ, hA]
        simp [List.length_pos_iff]
      all_goals
        rw [hA] at e6
        simp [e0, e5, e7, e6, h4]
        cases hP : reachP k ((i : Int) + 1) with
        | false =>
          simp [e0, e5, w1]
          refine hN (i + 1) _ (by omega) ⟨by omega, ?_⟩
          simp [e0, e5, w1, reachTo_succ, hP]
          exact ho
        | true =>
          have hln := reachTo_len k i
          obtain ⟨z, hs3, z1, z2, z3⟩ := append_outs ho (q := .sl 1 [.int .i64 ((i : Int) + 1)] .exact) (ys := [.int .i64 ((i : Int) + 1)]) (asV_sl (by simp)) (by simp; omega)
          simp [e0, e5, w1, astoAll, z1, AV.sto, AV.cells, AV.leaf]
          refine hN (i + 1) _ (by omega) ⟨by omega, ?_⟩
          simp [e0, e5, w1, reachTo_succ, hP]
          simpa using z2
    · have : i = 46 := by omega
      subst this
      simp [e0, e5]
      simp [reachR, h, ho.sh]

def withoutR (n : Int) (sp : List Int) : AV :=
  if btw 1 n 46 = true then (if 12 < sp.length then .tup [.nilsl, .int .i64 2] else if (shL n sp).length = 0 then .tup [.nilsl, .int .i64 14] else .tup [chV (hdL n sp), .int .i64 0]) else .tup [.nilsl, .int .i64 3]
theorem withoutR_plain (n : Int) (sp : List Int) : (withoutR n sp).plain = true := by
  unfold withoutR; split
  · split
    · rfl
    · split
      · rfl
      · simp only [AV.plain, plainL, plain_chV, Bool.and_self]
  · rfl
theorem p35 (n : Int) {y : AV} {sp : List Int} (hy : asI y = some sp) : PCall Try.prog 35 [.int .i64 n, y] (withoutR n sp) := by
  refine PCall.of D13ok ok35 (by simp) (withoutR_plain n sp) fun hs' hb => ?_
  simp [A35, R35, S64]
  refine At.split (fun h => ?_) (fun h => ?_)
  · simp at h
    simp [withoutR, h]
  · simp at h
    obtain ⟨h1, h2⟩ := btw_iff.1 h
    simp [alen_of hy]
    refine At.dec (fun h3 => ?_) (fun h3 => ?_)
    · simp
      simp [withoutR, h, show 12 < sp.length by omega]
    · have hv := shV_as h2 sp
      have la := lenV hv
      rw [List.length_map] at la
      simp [S53, h1, h2, hy, la]
      refine At.dec (fun h4 => ?_) (fun h4 => ?_)
      · simp
        simp [withoutR, h, h4, show ¬ 12 < sp.length by omega]
      · have hne : 0 < (shL n sp).length := List.length_pos_iff.2 h4
        have ai := idxV hv (k := .i64) (i := 0) (by simpa using hne)
        simp only [List.getElem_map, Int.natCast_zero] at ai
        simp [ai]
        simp [withoutR, h, h4, show ¬ 12 < sp.length by omega, hd_get hne]
def bestF (s t b : Int) (c : List Int) : Int := if b < 0 ∨ costL s t c < b then costL s t c else b
def leastL (n s t : Int) : Int := (List.range 8).foldl (fun b k => (extL n [] k [1]).foldl (bestF s t) b) (-1)
def leastR (n s t : Int) : AV := if btw 1 n 46 = true ∧ goodP s t = true then .tup [.int .i64 (leastL n s t), .int .i64 0] else .tup [.int .i64 0, .int .i64 3]
theorem leastR_plain (n s t : Int) : (leastR n s t).plain = true := by unfold leastR; split <;> rfl
theorem foldl_range_succ {α : Type} (f : α → Nat → α) (b : α) (k : Nat) : (List.range (k + 1)).foldl f b = f ((List.range k).foldl f b) k := by rw [List.range_succ]; simp
theorem foldl_take_succ {α β : Type} (f : α → β → α) (b : α) {l : List β} {i : Nat} (hi : i < l.length) : (l.take (i + 1)).foldl f b = f ((l.take i).foldl f b) l[i] := by rw [take_snoc hi, List.foldl_append]; rfl
theorem p39 (n s t : Int) : PCall Try.prog 39 [.int .i64 n, .agg [.int .i64 s, .int .i64 t]] (leastR n s t) := by
  refine PCall.of D13ok ok39 (by simp) (leastR_plain n s t) fun hs' hb => ?_
  simp [A39, R39, S64]
  refine At.split (fun h => ?_) (fun h => ?_)
  · simp [h, S57]
    refine At.split (fun hg => ?_) (fun hg => ?_)
    · simp at hg
      simp [leastR, h, hg]
    · simp at hg
      obtain ⟨h1, h2⟩ := btw_iff.1 h
      simp
      refine At.loop (fun (k : Nat) s0 => k ≤ 8 ∧ s0.env 0 = .int .i64 n ∧ s0.env 3 = .ptr (.agg [.int .i64 s, .int .i64 t]) ∧ s0.env 7 = .int .i64 k ∧ s0.env 6 = .int .i64 ((List.range k).foldl (fun b k => (extL n [] k [1]).foldl (bestF s t) b) (-1))) (fun k => 8 - k) 0 (by simp) ?_
      rintro N k s1 hN ⟨hk, e0, e3, e7, e6⟩
      simp [e0, e3, e6, e7]
      refine At.dec (fun h3 => ?_) (fun h3 => ?_)
      · have hk7 : k ≤ 7 := by omega
        have hS := S56_1 asI_one (show asI .nilsl = some [] from rfl) h1 h2 hk7
        have hnum := num_ok h2 [] hk7 (c := [1]) (by decide)
        have hev := asV_extV hnum
        have hlen := lenV hev
        rw [List.length_map] at hlen
        have hmem : ∀ c ∈ extL n [] k [1], Chn n (k + 1) c := fun c hc => ext_mem1 h2 hc
        generalize hL : extL n [] k [1] = L at hev hlen hmem hnum
        generalize hB : (List.range k).foldl (fun b k => (extL n [] k [1]).foldl (bestF s t) b) (-1) = B at e6
        simp [e0, e3, e6, e7, astoAll, hS, AV.sto, AV.cells, AV.leaf]
        refine At.loop (fun (i : Nat) s0 => i ≤ L.length ∧ s0.env 0 = .int .i64 n ∧ s0.env 3 = .ptr (.agg [.int .i64 s, .int .i64 t]) ∧ s0.env 7 = .int .i64 k ∧ s0.env 8 = extV n [] k [1] ∧ s0.env 9 = .int .i64 i ∧ s0.env 6 = .int .i64 ((L.take i).foldl (bestF s t) B)) (fun i => L.length - i) 0 (by simp [e0, e3, e6, e7]) ?_
        rintro N' i s2 hN' ⟨hi, e0, e3, e7, e8, e9, e6⟩
        simp [e0, e3, e6, e7, e8, e9, hlen]
        refine At.dec (fun h4 => ?_) (fun h4 => ?_)
        · have ai := idxV hev (k := .i64) (i := i) (by simpa using h4)
          simp only [List.getElem_map] at ai
          have hc := hmem L[i] (List.getElem_mem h4)
          have hcl := hc.len
          have hps : Ps L[i] := fun a ha => by have := hc.bound a ha; omega
          have hfs := foldl_take_succ (bestF s t) B h4
          generalize (L.take i).foldl (bestF s t) B = b at e6 hfs
          simp [e0, e3, e6, e7, e8, e9, ai, S60, asI_chV (show (L[i]).length ≤ 100 by omega), hps, hg, show (L[i]).length ≤ 1000 by omega]
          refine At.decn (fun h5 => ?_) (fun h5 => ?_)
          · simp [e0, e3, e6, e7, e8, e9, h5]
            refine hN' (i + 1) _ (by omega) ⟨by omega, ?_⟩
            simp [e0, e3, e6, e7, e8, e9, wrap_nat1 (show i < _ by omega)]
            rw [hfs, bestF, if_pos (.inl h5)]
          · simp [e0, e3, e6, e7, e8, e9, h5]
            refine At.dec (fun h6 => ?_) (fun h6 => ?_)
            · simp [e0, e3, e6, e7, e8, e9]
              refine hN' (i + 1) _ (by omega) ⟨by omega, ?_⟩
              simp [e0, e3, e6, e7, e8, e9, wrap_nat1 (show i < _ by omega)]
              rw [hfs, bestF, if_pos (.inr h6)]
            · simp [e0, e3, e6, e7, e8, e9]
              refine hN' (i + 1) _ (by omega) ⟨by omega, ?_⟩
              simp [e0, e3, e6, e7, e8, e9, wrap_nat1 (show i < _ by omega)]
              rw [hfs, bestF, if_neg (by omega)]
        · have : i = L.length := by omega
          subst this
          rw [List.take_length] at e6
          simp [e0, e3, e6, e7, e8, e9]
          refine hN (k + 1) _ (by omega) ⟨by omega, ?_⟩
          simp [e0, e3, e6, e7, e8, e9, wrap_nat1 (show k < _ by omega)]
          rw [foldl_range_succ, hB, hL]
      · have : k = 8 := by omega
        subst this
        simp [e0, e3, e6, e7]
        simp [leastR, h, hg, leastL]
  · simp [h]
    simp [leastR, h]
end Go.Proofs.Ytnmpdegnpaggkaa
