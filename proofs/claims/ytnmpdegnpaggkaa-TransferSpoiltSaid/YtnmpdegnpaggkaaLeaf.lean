/-
  Contracts of the small functions. Own work.
-/
import Derived.Test.YtnmpdegnpaggkaaCode
import Derived.Test.YtnmpdegnpaggkaaFwV
set_option linter.unusedVariables false
set_option linter.unusedSimpArgs false
namespace Go.Proofs.Ytnmpdegnpaggkaa
open Go Fw

def btw (lo n hi : Int) : Bool := decide (lo ≤ n) && decide (n ≤ hi)
theorem p50 {C : PCtx} (hC : CtxOk Try.prog C) (lo n hi : Int) : PCall Try.prog 50 [.int .i64 lo, .int .i64 n, .int .i64 hi] (.bool (btw lo n hi)) := by
  refine PCall.of hC ok50 (by simp) rfl fun hs hb => ?_
  simp [A50, R50]
  refine At.dec (fun h => ?_) (fun h => ?_) <;> simp [h, btw]
theorem p64 {C : PCtx} (hC : CtxOk Try.prog C) (n lo hi : Int) : PCall Try.prog 64 [.int .i64 n, .int .i64 lo, .int .i64 hi] (.bool (btw lo n hi)) := by
  refine PCall.of hC ok64 (by simp) rfl fun hs hb => ?_
  simp [A64, R64]
  refine At.dec (fun h => ?_) (fun h => ?_) <;> simp [h, btw]
theorem p72 {C : PCtx} (hC : CtxOk Try.prog C) (n : Int) : PCall Try.prog 72 [.int .i64 n] (.bool false) := by
  refine PCall.of hC ok72 (by simp) rfl fun hs hb => ?_
  simp [A72, R72]
theorem p74 {C : PCtx} (hC : CtxOk Try.prog C) (n : Int) : PCall Try.prog 74 [.int .i64 n] (.bool false) := by
  refine PCall.of hC ok74 (by simp) rfl fun hs hb => ?_
  simp [A74, R74]
theorem p68 {C : PCtx} (hC : CtxOk Try.prog C) {x : AV} {l : List Int} (hx : asI x = some l) (n : Int) : PCall Try.prog 68 [x, .int .i64 n] (.bool (decide (n ∈ l))) := by
  have hl := asI_len hx
  refine PCall.of hC ok68 (by simp) rfl fun hs hb => ?_
  simp [A68, R68]
  refine At.loop (fun (i : Nat) s => i ≤ l.length ∧ s.env 0 = x ∧ s.env 1 = .int .i64 n ∧ s.env 5 = .int .i64 i ∧ n ∉ l.take i) (fun i => l.length - i) 0 (by simp) ?_
  rintro N i s hN ⟨hi, h0, h1, h5, hn⟩
  simp [h0, h1, h5, alen_of hx]
  refine At.dec (fun h => ?_) (fun h => ?_)
  · have hi' : i < l.length := by omega
    simp [h0, h1, h5, aidx_nat hx hi']
    refine At.dec (fun e => ?_) (fun e => ?_)
    · simp [← e]
    · simp [h0, h1, h5]
      refine hN (i + 1) _ (by omega) ⟨by omega, ?_⟩
      simp [h0, h1, wrap_nat1 (show i < _ by omega), mem_take_succ hi', hn, Ne.symm e]
  · have : i = l.length := by omega
    subst this
    simp [h0, h1, h5]
    simpa using hn
/-- the first place of a number, or -1 -/
def idxI (l : List Int) (n : Int) : Int := if n ∈ l then (l.idxOf n : Int) else -1
theorem p73 {C : PCtx} (hC : CtxOk Try.prog C) {x : AV} {l : List Int} (hx : asI x = some l) (n : Int) : PCall Try.prog 73 [x, .int .i64 n] (.int .i64 (idxI l n)) := by
  have hl := asI_len hx
  refine PCall.of hC ok73 (by simp) rfl fun hs hb => ?_
  simp [A73, R73, alen_of hx]
  refine At.loop (fun (i : Nat) s => i ≤ l.length ∧ s.env 0 = x ∧ s.env 1 = .int .i64 n ∧ s.env 7 = .int .i64 l.length ∧ s.env 8 = .int .i64 i ∧ n ∉ l.take i) (fun i => l.length - i) 0 (by simp) ?_
  rintro N i s hN ⟨hi, h0, h1, h7, h8, hn⟩
  simp [h0, h1, h7, h8]
  refine At.dec (fun h => ?_) (fun h => ?_)
  · have hi' : i < l.length := by omega
    simp [h0, h1, h8, aidx_nat hx hi']
    refine At.dec (fun e => ?_) (fun e => ?_)
    · have hmem : n ∈ l := by rw [e]; exact List.getElem_mem hi'
      have : l.idxOf n = i := idxOf_of hi' e.symm hn
      simp [h0, h1, h8, idxI, hmem, this]
    · simp [h0, h1, h8]
      refine hN (i + 1) _ (by omega) ⟨by omega, ?_⟩
      simp [h0, h1, h7, wrap_nat1 (show i < _ by omega), mem_take_succ hi', hn, e]
  · have : i = l.length := by omega
    subst this
    have hn' : n ∉ l := by simpa using hn
    simp [h0, h1, h8, idxI, hn']
theorem p69 {C : PCtx} (hC : CtxOk Try.prog C) {x : AV} {l : List Int} (hx : asI x = some l) (hp : x.plain = true ∨ True) : PCall Try.prog 69 [x] (clipV x) := by
  have hl := asI_len hx
  have hs' := slice_clip (asI_asV hx) (k := .i64)
  rw [ints_len] at hs'
  refine PCall.of hC ok69 (by simp) ?_ fun hs hb => ?_
  · rcases asI_inv hx with ⟨rfl, rfl⟩ | ⟨c, rfl⟩
    · rfl
    · exact plain_ints l
  · simp [A69, R69, alen_of hx, hs']
    rcases asI_inv hx with ⟨rfl, rfl⟩ | ⟨c, rfl⟩ <;> simp [clipV]
/-- a list that is nil when empty and given as nil; else a new one -/
def cloneV : AV → AV
  | .sl sz [] _ => .sl sz [] .exact
  | .sl sz xs _ => .sl sz xs .shared
  | x => x
theorem asI_clone {x : AV} {l : List Int} (hx : asI x = some l) : asI (cloneV x) = some l := by
  rcases asI_inv hx with ⟨rfl, rfl⟩ | ⟨c, rfl⟩
  · rfl
  · have := asI_len hx
    cases l with
    | nil => rfl
    | cons a l => exact asI_sl this
theorem p62 {C : PCtx} (hC : CtxOk Try.prog C) {x : AV} {l : List Int} (hx : asI x = some l) (hl : l.length ≤ 1000) : PCall Try.prog 62 [x] (cloneV x) := by
  refine PCall.of hC ok62 (by simp) ?_ fun hs hb => ?_
  · rcases asI_inv hx with ⟨rfl, rfl⟩ | ⟨c, rfl⟩
    · rfl
    · cases l with
      | nil => rfl
      | cons a l => exact plain_ints (a :: l)
  · rcases asI_inv hx with ⟨rfl, rfl⟩ | ⟨c, rfl⟩
    · simp [A62, R62, cloneV]
    · simp [A62, R62, astoAll]
      cases l with
      | nil => simp [aappend, aelems, aszOk, cloneV]
      | cons a l =>
        obtain ⟨hs', e1, e2, e3⟩ := append_exact (sz := 1) (hs := hs) (xs := []) (q := .sl 1 (ints (a :: l)) c) (ys := ints (a :: l)) (asI_asV hx) (by simp [ints]; simp at hl; omega) (by simp [ints])
        simp only [ints, List.map_cons] at e1
        simp [e1, cloneV]

def S50 : List AV → Option AV
  | [.int .i64 lo, .int .i64 n, .int .i64 hi] => some (.bool (btw lo n hi))
  | _ => none
theorem c50 {C : PCtx} (hC : CtxOk Try.prog C) : ∀ a r, S50 a = some r → PCall Try.prog 50 a r := by
  intro a r h
  unfold S50 at h
  split at h <;> (try (cases h; done))
  injection h with h; subst h
  exact p50 hC _ _ _
def S64 : List AV → Option AV
  | [.int .i64 n, .int .i64 lo, .int .i64 hi] => some (.bool (btw lo n hi))
  | _ => none
theorem c64 {C : PCtx} (hC : CtxOk Try.prog C) : ∀ a r, S64 a = some r → PCall Try.prog 64 a r := by
  intro a r h
  unfold S64 at h
  split at h <;> (try (cases h; done))
  injection h with h; subst h
  exact p64 hC _ _ _
def SNaN : List AV → Option AV
  | [.int .i64 n] => some (.bool false)
  | _ => none
theorem c72 {C : PCtx} (hC : CtxOk Try.prog C) : ∀ a r, SNaN a = some r → PCall Try.prog 72 a r := by
  intro a r h
  unfold SNaN at h
  split at h <;> (try (cases h; done))
  injection h with h; subst h
  exact p72 hC _
theorem c74 {C : PCtx} (hC : CtxOk Try.prog C) : ∀ a r, SNaN a = some r → PCall Try.prog 74 a r := by
  intro a r h
  unfold SNaN at h
  split at h <;> (try (cases h; done))
  injection h with h; subst h
  exact p74 hC _
def SHas : List AV → Option AV
  | [x, .int .i64 n] => (asI x).map fun l => .bool (decide (n ∈ l))
  | _ => none
theorem c68 {C : PCtx} (hC : CtxOk Try.prog C) : ∀ a r, SHas a = some r → PCall Try.prog 68 a r := by
  intro a r h
  unfold SHas at h
  split at h <;> (try (cases h; done))
  obtain ⟨l, hl, rfl⟩ := optmap_some h
  exact p68 hC hl _
def S73 : List AV → Option AV
  | [x, .int .i64 n] => (asI x).map fun l => .int .i64 (idxI l n)
  | _ => none
theorem c73 {C : PCtx} (hC : CtxOk Try.prog C) : ∀ a r, S73 a = some r → PCall Try.prog 73 a r := by
  intro a r h
  unfold S73 at h
  split at h <;> (try (cases h; done))
  obtain ⟨l, hl, rfl⟩ := optmap_some h
  exact p73 hC hl _
def S69 : List AV → Option AV
  | [x] => (asI x).map fun l => clipV x
  | _ => none
theorem c69 {C : PCtx} (hC : CtxOk Try.prog C) : ∀ a r, S69 a = some r → PCall Try.prog 69 a r := by
  intro a r h
  unfold S69 at h
  split at h <;> (try (cases h; done))
  obtain ⟨l, hl, rfl⟩ := optmap_some h
  exact p69 hC hl (.inr trivial)
def S62 : List AV → Option AV
  | [x] => (asI x).bind fun l => if l.length ≤ 1000 then some (cloneV x) else none
  | _ => none
theorem c62 {C : PCtx} (hC : CtxOk Try.prog C) : ∀ a r, S62 a = some r → PCall Try.prog 62 a r := by
  intro a r h
  unfold S62 at h
  split at h <;> (try (cases h; done))
  obtain ⟨l, hl, h⟩ := Option.bind_eq_some_iff.1 h
  split at h <;> (try (cases h; done))
  injection h with h; subst h
  exact p62 hC hl (by assumption)

def D1 : PCtx := (((((((PCtx.nil.add 50 S50).add 64 S64).add 72 SNaN).add 74 SNaN).add 68 SHas).add 73 S73).add 69 S69).add 62 S62
theorem D1ok : CtxOk Try.prog D1 := (((((((CtxOk.nil.add (c50 .nil)).add (c64 .nil)).add (c72 .nil)).add (c74 .nil)).add (c68 .nil)).add (c73 .nil)).add (c69 .nil)).add (c62 .nil)

@[simp] theorem D1_50 : D1 50 = S50 := id rfl
@[simp] theorem D1_64 : D1 64 = S64 := id rfl
@[simp] theorem D1_72 : D1 72 = SNaN := id rfl
@[simp] theorem D1_74 : D1 74 = SNaN := id rfl
@[simp] theorem D1_68 : D1 68 = SHas := id rfl
@[simp] theorem D1_73 : D1 73 = S73 := id rfl
@[simp] theorem D1_69 : D1 69 = S69 := id rfl
@[simp] theorem D1_62 : D1 62 = S62 := id rfl

theorem p51 (n lo hi : Int) : PCall Try.prog 51 [.int .i64 n, .int .i64 lo, .int .i64 hi] (.bool (btw lo n hi)) := by
  refine PCall.of D1ok ok51 (by simp) rfl fun hs hb => ?_
  simp [A51, R51, S64]
theorem c51 : ∀ a r, S64 a = some r → PCall Try.prog 51 a r := by
  intro a r h
  unfold S64 at h
  split at h <;> (try (cases h; done))
  injection h with h; subst h
  exact p51 _ _ _
theorem p71 (n m : Int) : PCall Try.prog 71 [.int .i64 n, .int .i64 m] (.bool (decide (n < m))) := by
  refine PCall.of D1ok ok71 (by simp) rfl fun hs hb => ?_
  simp [A71, R71, SNaN]
def S71 : List AV → Option AV
  | [.int .i64 n, .int .i64 m] => some (.bool (decide (n < m)))
  | _ => none
theorem c71 : ∀ a r, S71 a = some r → PCall Try.prog 71 a r := by
  intro a r h
  unfold S71 at h
  split at h <;> (try (cases h; done))
  injection h with h; subst h
  exact p71 _ _
theorem p65 {x : AV} {l : List Int} (hx : asI x = some l) (n : Int) : PCall Try.prog 65 [x, .int .i64 n] (.bool (decide (n ∈ l))) := by
  refine PCall.of D1ok ok65 (by simp) rfl fun hs hb => ?_
  simp [A65, R65, S73, hx, idxI]
  by_cases h : n ∈ l <;> simp [h]
theorem c65 : ∀ a r, SHas a = some r → PCall Try.prog 65 a r := by
  intro a r h
  unfold SHas at h
  split at h <;> (try (cases h; done))
  obtain ⟨l, hl, rfl⟩ := optmap_some h
  exact p65 hl _
def D2 : PCtx := ((D1.add 51 S64).add 71 S71).add 65 SHas
theorem D2ok : CtxOk Try.prog D2 := ((D1ok.add c51).add c71).add c65

@[simp] theorem D2_51 : D2 51 = S64 := id rfl
@[simp] theorem D2_71 : D2 71 = S71 := id rfl
@[simp] theorem D2_65 : D2 65 = SHas := id rfl
@[simp] theorem D2_50 : D2 50 = S50 := id rfl
@[simp] theorem D2_72 : D2 72 = SNaN := id rfl
@[simp] theorem D2_68 : D2 68 = SHas := id rfl
@[simp] theorem D2_69 : D2 69 = S69 := id rfl
@[simp] theorem D2_62 : D2 62 = S62 := id rfl

/-- the place of the first number that is not smaller -/
def lowB (l : List Int) (n : Int) : Nat := l.findIdx fun a => decide (n ≤ a)
theorem lowB_is {l : List Int} {n : Int} {i : Nat} (hi : i ≤ l.length) (h1 : ∀ k (hk : k < l.length), k < i → l[k] < n) (h2 : ∀ k (hk : k < l.length), i ≤ k → n ≤ l[k]) : lowB l n = i := by
  unfold lowB
  by_cases h : i < l.length
  · exact (List.findIdx_eq h).2 ⟨by simpa using h2 i h (Nat.le_refl _), fun j hj => by simpa using h1 j (by omega) hj⟩
  · have : i = l.length := by omega
    subst this
    rw [List.findIdx_eq_length]
    intro x hx
    obtain ⟨k, hk, rfl⟩ := List.getElem_of_mem hx
    simpa using h1 k hk hk
theorem sorted_get {l : List Int} (hs : l.Pairwise (· < ·)) {i j : Nat} (hj : j < l.length) (h : i < j) : l[i] < l[j] := List.pairwise_iff_getElem.1 hs i j (by omega) hj h
end Go.Proofs.Ytnmpdegnpaggkaa
