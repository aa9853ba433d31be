/-
  Of which numbers one is the sum: both ways of looking. Own work.
-/
import Derived.Test.YtnmpdegnpaggkaaBin
set_option linter.unusedVariables false
set_option linter.unusedSimpArgs false
namespace Go.Proofs.Ytnmpdegnpaggkaa
open Go Fw

def wayFrom (l : List Int) (n : Int) : Nat → Option (Nat × Nat)
  | 0 => none
  | m + 1 => if (n - l.getD m 0) ∈ l.take (m + 1) then some (m, l.idxOf (n - l.getD m 0)) else wayFrom l n m
def wayL (l : List Int) (n : Int) : Option (Nat × Nat) := wayFrom l n l.length
def wayR : Option (Nat × Nat) → AV
  | some (i, k) => .tup [.agg [.int .i64 i, .int .i64 k], .bool true]
  | none => .tup [.agg [.int .i64 0, .int .i64 0], .bool false]
def wayR2 : Option (Nat × Nat) → AV
  | some (i, k) => .agg [.int .i64 i, .int .i64 k]
  | none => .agg [.int .i64 (-1), .int .i64 (-1)]
/-- small numbers -/
def Sm (l : List Int) : Prop := ∀ a ∈ l, -100000 ≤ a ∧ a ≤ 100000
instance (l : List Int) : Decidable (Sm l) := by unfold Sm; infer_instance

def S63 : List AV → Option AV
  | [x, .int .i64 n] => (asI x).bind fun l => if l.Pairwise (· < ·) then some (.tup [.int .i64 (lowB l n), .bool (decide (n ∈ l))]) else none
  | _ => none
theorem c63 : ∀ a r, S63 a = some r → PCall Try.prog 63 a r := by
  intro a r h
  unfold S63 at h
  split at h <;> (try (cases h; done))
  obtain ⟨l, hl, h⟩ := Option.bind_eq_some_iff.1 h
  split at h <;> (try (cases h; done))
  injection h with h; subst h
  exact p63 hl (by assumption) _
def S27 : List AV → Option AV
  | [x, y] => (asI x).bind fun a => (asI y).map fun b => .bool (decide (a = b))
  | _ => none
theorem c27 : ∀ a r, S27 a = some r → PCall Try.prog 27 a r := by
  intro a r h
  unfold S27 at h
  split at h <;> (try (cases h; done))
  obtain ⟨l, hl, h⟩ := Option.bind_eq_some_iff.1 h
  obtain ⟨m, hm, rfl⟩ := optmap_some h
  exact p27 hl hm
def dePrs : List AV → Option (List (Int × Int))
  | [] => some []
  | .agg [.int .i64 a, .int .i64 b] :: xs => (dePrs xs).map ((a, b) :: ·)
  | _ => none
theorem dePrs_inv : ∀ {xs : List AV} {l : List (Int × Int)}, dePrs xs = some l → xs = prs l
  | [], l, h => by simp only [dePrs] at h; injection h with h; subst h; rfl
  | x :: xs, l, h => by
    unfold dePrs at h
    split at h
    · rename_i he; cases he
    · rename_i a b ys he
      injection he with e1 e2; subst e1; subst e2
      obtain ⟨r, hr, rfl⟩ := optmap_some h
      rw [dePrs_inv hr]; rfl
    · cases h
theorem dePrs_prs (l : List (Int × Int)) : dePrs (prs l) = some l := by
  induction l with
  | nil => rfl
  | cons a l ih => simp only [prs, List.map_cons, dePrs]; rw [show List.map _ l = prs l from rfl, ih]; rfl
def S20 : List AV → Option AV
  | [x, y] => ((asV 2 x).bind dePrs).bind fun a => ((asV 2 y).bind dePrs).map fun b => .bool (decide (a = b))
  | _ => none
theorem c20 : ∀ a r, S20 a = some r → PCall Try.prog 20 a r := by
  intro a r h
  unfold S20 at h
  split at h <;> (try (cases h; done))
  obtain ⟨l, hl, h⟩ := Option.bind_eq_some_iff.1 h
  obtain ⟨m, hm, rfl⟩ := optmap_some h
  obtain ⟨l', hl', h1⟩ := Option.bind_eq_some_iff.1 hl
  obtain ⟨m', hm', h2⟩ := Option.bind_eq_some_iff.1 hm
  rw [dePrs_inv h1] at hl'
  rw [dePrs_inv h2] at hm'
  exact p20 hl' hm'
def S42 : List AV → Option AV
  | [.sl 1 xs .exact] => (deInts xs).bind fun l => if l.length < 4294967296 then some (.sl 1 xs .exact) else none
  | _ => none
theorem c42 : ∀ a r, S42 a = some r → PCall Try.prog 42 a r := by
  intro a r h
  unfold S42 at h
  split at h <;> (try (cases h; done))
  obtain ⟨l, hl, h⟩ := Option.bind_eq_some_iff.1 h
  split at h <;> (try (cases h; done))
  rename_i hlen
  injection h with h; subst h
  rw [deInts_inv hl]
  exact p42 (asI_sl hlen) (plain_ints l) (by simp)
def D3 : PCtx := (((D2.add 63 S63).add 27 S27).add 20 S20).add 42 S42
theorem D3ok : CtxOk Try.prog D3 := (((D2ok.add c63).add c27).add c20).add c42
@[simp] theorem D3_63 : D3 63 = S63 := id rfl
@[simp] theorem D3_27 : D3 27 = S27 := id rfl
@[simp] theorem D3_20 : D3 20 = S20 := id rfl
@[simp] theorem D3_42 : D3 42 = S42 := id rfl
@[simp] theorem D3_50 : D3 50 = S50 := id rfl
@[simp] theorem D3_51 : D3 51 = S64 := id rfl
@[simp] theorem D3_65 : D3 65 = SHas := id rfl
@[simp] theorem D3_68 : D3 68 = SHas := id rfl
@[simp] theorem D3_69 : D3 69 = S69 := id rfl
@[simp] theorem D3_62 : D3 62 = S62 := id rfl

theorem lowB_idx {l : List Int} (hs : l.Pairwise (· < ·)) {n : Int} (h : n ∈ l) : lowB l n = l.idxOf n := by
  have hlt : l.idxOf n < l.length := List.idxOf_lt_length_of_mem h
  have he := List.getElem_idxOf hlt
  refine lowB_is (by omega) (fun k hk hki => ?_) (fun k hk hki => ?_)
  · have := sorted_get hs hlt hki; omega
  · rcases Nat.lt_or_ge (l.idxOf n) k with h' | h'
    · have := sorted_get hs hk h'; omega
    · have : k = l.idxOf n := by omega
      subst this; omega
theorem idxOf_take {l : List Int} {n : Int} {m : Nat} (h : n ∈ l.take m) : (l.take m).idxOf n = l.idxOf n := by
  have hlt : (l.take m).idxOf n < (l.take m).length := List.idxOf_lt_length_of_mem h
  have he := List.getElem_idxOf hlt
  have hlt' := hlt
  rw [List.length_take] at hlt'
  refine (idxOf_of (by omega) ?_ ?_).symm
  · rw [List.getElem_take] at he; exact he
  · intro hm
    have hn : ¬ n ∈ (l.take m).take ((l.take m).idxOf n) := by
      intro hm2
      obtain ⟨k, hk, e⟩ := List.getElem_of_mem hm2
      have hk' := hk
      simp only [List.length_take] at hk'
      rw [List.getElem_take] at e
      have h1 : (l.take m).idxOf n = k := by
        have := @List.not_of_lt_findIdx _ (fun x => x == n) (l.take m) k (by
          have : (l.take m).idxOf n = (l.take m).findIdx (fun x => x == n) := by rw [List.idxOf.eq_1]
          omega)
        simp only [beq_eq_false_iff_ne, ne_eq] at this
        exact absurd e this
      omega
    apply hn
    rw [List.take_take, Nat.min_eq_left (by omega)]
    exact hm

theorem p47 {x : AV} {l : List Int} (hx : asI x = some l) (hs : l.Pairwise (· < ·)) (hm : Sm l) (n : Int) (hn : -100000 ≤ n ∧ n ≤ 100000) : PCall Try.prog 47 [x, .int .i64 n] (wayR (wayL l n)) := by
  have hl := asI_len hx
  refine PCall.of D3ok ok47 (by simp) (by unfold wayR; split <;> rfl) fun hs' hb => ?_
  have w0 : IntKind.i64.wrap ((l.length : Int) - 1) = (l.length : Int) - 1 := wrap64 (by omega) (by omega)
  simp [A47, R47, alen_of hx, w0]
  refine At.loop (fun (m : Nat) s => m ≤ l.length ∧ s.env 0 = x ∧ s.env 1 = .int .i64 n ∧ s.env 4 = .ref hs'.nh 0 ∧ s.env 6 = .int .i64 ((m : Int) - 1) ∧ s.hs.heap hs'.nh = some [.int .i64 0, .int .i64 0] ∧ wayL l n = wayFrom l n m) (fun m => m) l.length (by simp [wayL]) ?_
  rintro N m s hN ⟨hml, h0, h1, h4, h6, hh, hw⟩
  rcases m with _ | m
  · simp [h0, h1, h4, h6, store_pair hh, hw, wayFrom, wayR]
  · have h6' : s.env 6 = .int .i64 (m : Int) := by rw [h6]; congr 1; omega
    have hlm : m < l.length := by omega
    have w1 : IntKind.i64.wrap ((m : Int) + 1) = (m : Int) + 1 := wrap64 (by omega) (by omega)
    have e1 : aslice 1 x none (some (.int .i64 ((m : Int) + 1))) none = some (takeV (m + 1) x) := by
      have := slice_take (asI_asV hx) (n := m + 1) (k := .i64) (by rw [ints_len]; omega)
      simpa using this
    have hb1 := hm l[m] (List.getElem_mem hlm)
    have w2 : IntKind.i64.wrap (n - l[m]) = n - l[m] := wrap64 (by omega) (by omega)
    have hp : (l.take (m + 1)).Pairwise (· < ·) := hs.sublist (List.take_sublist _ _)
    have hg : l.getD m 0 = l[m] := by simp [hlm]
    simp [h0, h1, h4, h6', w1, e1, aidx_nat hx hlm, w2, S63, asI_take hx, hp]
    refine At.dec (fun hmem => ?_) (fun hmem => ?_)
    · have hlow : lowB (l.take (m + 1)) (n - l[m]) = l.idxOf (n - l[m]) := by rw [lowB_idx hp hmem, idxOf_take hmem]
      have hw2 : wayFrom l n (m + 1) = some (m, l.idxOf (n - l[m])) := by unfold wayFrom; rw [hg, if_pos hmem]
      simp [h0, h1, h4, h6', store_pair hh, hlow, hw, hw2, wayR]
    · have hw2 : wayFrom l n (m + 1) = wayFrom l n m := by rw [wayFrom, hg, if_neg hmem]
      have w3 : IntKind.i64.wrap ((m : Int) - 1) = (m : Int) - 1 := wrap64 (by omega) (by omega)
      simp [h0, h1, h4, h6']
      refine hN m _ (by omega) ⟨by omega, ?_⟩
      simp [h0, h1, h4, h6', w3, hh, hw, hw2]
theorem p48 {x : AV} {l : List Int} (hx : asI x = some l) (hm : Sm l) (n : Int) (hn : -100000 ≤ n ∧ n ≤ 100000) : PCall Try.prog 48 [x, .int .i64 n] (wayR2 (wayL l n)) := by
  have hl := asI_len hx
  refine PCall.of D3ok ok48 (by simp) (by unfold wayR2; split <;> rfl) fun hs' hb => ?_
  have w0 : IntKind.i64.wrap ((l.length : Int) - 1) = (l.length : Int) - 1 := wrap64 (by omega) (by omega)
  simp [A48, R48, alen_of hx, w0]
  refine At.loop (fun (m : Nat) s => m ≤ l.length ∧ s.env 0 = x ∧ s.env 1 = .int .i64 n ∧ s.env 4 = .ref hs'.nh 0 ∧ s.env 5 = .int .i64 ((m : Int) - 1) ∧ s.hs.heap hs'.nh = some [.int .i64 0, .int .i64 0] ∧ wayL l n = wayFrom l n m) (fun m => m) l.length (by simp [wayL]) ?_
  rintro N m s hN ⟨hml, h0, h1, h4, h5, hh, hw⟩
  rcases m with _ | m
  · simp [h0, h1, h4, h5, store_pair hh, hw, wayFrom, wayR2]
  · have h5' : s.env 5 = .int .i64 (m : Int) := by rw [h5]; congr 1; omega
    have hlm : m < l.length := by omega
    have hg : l.getD m 0 = l[m] := by simp [hlm]
    have hb1 := hm l[m] (List.getElem_mem hlm)
    have w3 : IntKind.i64.wrap ((m : Int) - 1) = (m : Int) - 1 := wrap64 (by omega) (by omega)
    simp [h0, h1, h4, h5']
    refine At.loop (fun (k : Nat) s => k ≤ m + 1 ∧ s.env 0 = x ∧ s.env 1 = .int .i64 n ∧ s.env 4 = .ref hs'.nh 0 ∧ s.env 5 = .int .i64 (m : Int) ∧ s.env 6 = .int .i64 (k : Int) ∧ s.hs.heap hs'.nh = some [.int .i64 0, .int .i64 0] ∧ (n - l[m]) ∉ l.take k) (fun k => m + 1 - k) 0 (by simp [h0, h1, h4, h5', hh]) ?_
    rintro N' k s' hN' ⟨hk, h0, h1, h4, h5, h6, hh, hnot⟩
    simp [h0, h1, h4, h5, h6]
    refine At.dec (fun hkm => ?_) (fun hkm => ?_)
    · have hlk : k < l.length := by omega
      have hb2 := hm l[k] (List.getElem_mem hlk)
      have w2 : IntKind.i64.wrap (l[m] + l[k]) = l[m] + l[k] := wrap64 (by omega) (by omega)
      simp [h0, h1, h4, h5, h6, aidx_nat hx hlm, aidx_nat hx hlk, w2]
      refine At.dec (fun e => ?_) (fun e => ?_)
      · have e' : l[k] = n - l[m] := by omega
        have hmem : (n - l[m]) ∈ l.take (m + 1) := e' ▸ mem_take_of (by omega) hlk
        have hidx : l.idxOf (n - l[m]) = k := idxOf_of hlk e' hnot
        have hw2 : wayFrom l n (m + 1) = some (m, k) := by unfold wayFrom; rw [hg, if_pos hmem, hidx]
        simp [h0, h1, h4, h5, h6, store_pair hh, hw, hw2, wayR2]
      · simp [h0, h1, h4, h5, h6]
        refine hN' (k + 1) _ (by omega) ⟨by omega, ?_⟩
        have : ¬ n - l[m] = l[k] := by omega
        simp [h0, h1, h4, h5, h6, hh, wrap_nat1 (show k < _ by omega), mem_take_succ hlk, hnot, this]
    · have hk' : k = m + 1 := by omega
      subst hk'
      have hw2 : wayFrom l n (m + 1) = wayFrom l n m := by rw [wayFrom, hg, if_neg hnot]
      simp [h0, h1, h4, h5, h6, w3]
      refine hN m _ (by omega) ⟨by omega, ?_⟩
      simp [h0, h1, h4, h5, h6, hh, hw, hw2]
end Go.Proofs.Ytnmpdegnpaggkaa
