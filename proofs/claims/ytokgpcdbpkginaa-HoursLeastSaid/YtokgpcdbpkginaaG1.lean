/-
  The small functions. Own work.
  Concat, and the checks of works. Own work.
  The sums of artists and machines. Own work.
  The sums of the reference. Own work.
  Sums, and the kinds of bounds. Own work.
  Shortest and its bounds. Own work.
  Why and Bound. Own work.
  Bound, and the reference's Why. Own work.
  Busy, Room and Enough. Own work.
  Enough. Own work.
-/
import Derived.Test.YtokgpcdbpkginaaC1
import Derived.Test.YtokgpcdbpkginaaFx4
import Derived.Test.YtokgpcdbpkginaaFx3
set_option linter.unusedVariables false
set_option linter.unusedSimpArgs false
namespace Go.Proofs.Ytokgpcdbpkginaa
open Go Fw

def btw (lo n hi : Int) : Bool := decide (lo ≤ n) && decide (n ≤ hi)
theorem p64 (lo n hi : Int) : PCall Try.prog 64 [.int .i64 lo, .int .i64 n, .int .i64 hi] (.bool (btw lo n hi)) := by
  refine PCall.of CtxOk.nil ok64 (by simp) rfl fun hs hb => ?_
  simp [A64, R64]
  refine At.dec (fun h => ?_) (fun h => ?_) <;> simp [h, btw]
theorem p77 (n lo hi : Int) : PCall Try.prog 77 [.int .i64 n, .int .i64 lo, .int .i64 hi] (.bool (btw lo n hi)) := by
  refine PCall.of CtxOk.nil ok77 (by simp) rfl fun hs hb => ?_
  simp [A77, R77]
  refine At.dec (fun h => ?_) (fun h => ?_) <;> simp [h, btw]
def SBtw : List AV → Option AV
  | [.int .i64 lo, .int .i64 n, .int .i64 hi] => some (.bool (btw lo n hi))
  | _ => none
def SIs : List AV → Option AV
  | [.int .i64 n, .int .i64 lo, .int .i64 hi] => some (.bool (btw lo n hi))
  | _ => none
def SUp : List AV → Option AV
  | [.int .i64 a, .int .i64 b] => if 0 ≤ a ∧ a ≤ 1000000 ∧ 1 ≤ b ∧ b ≤ 1000 then some (.int .i64 ((a + b - 1) / b)) else none
  | _ => none
theorem p61 (n lo hi : Int) : PCall Try.prog 61 [.int .i64 n, .int .i64 lo, .int .i64 hi] (.bool (btw lo n hi)) := by
  refine PCall.of (CtxOk.nil.pt (p77 n lo hi)) ok61 (by simp) rfl fun hs hb => ?_
  simp [A61, R61]
theorem p66 (n : Int) : PCall Try.prog 66 [.int .i64 n] (.int .i64 n) := by
  refine PCall.of CtxOk.nil ok66 (by simp) rfl fun hs hb => ?_
  simp [A66, R66]
theorem p83 {a b : Int} (h : 0 ≤ a ∧ a ≤ 1000000 ∧ 1 ≤ b ∧ b ≤ 1000) : PCall Try.prog 83 [.int .i64 a, .int .i64 b] (.int .i64 ((a + b - 1) / b)) := by
  have w1 : IntKind.i64.wrap (a + b) = a + b := wrap64 (by omega) (by omega)
  have w2 : IntKind.i64.wrap (a + b - 1) = a + b - 1 := wrap64 (by omega) (by omega)
  have hb : ¬ b = 0 := by omega
  have w3 : (a + b - 1).tdiv b = (a + b - 1) / b := Int.tdiv_eq_ediv_of_nonneg (by omega)
  have h4 : 0 ≤ (a + b - 1) / b := Int.ediv_nonneg (by omega) (by omega)
  have h5 : (a + b - 1) / b ≤ a + b - 1 := Int.ediv_le_self _ (by omega)
  have w4 : IntKind.i64.wrap ((a + b - 1) / b) = (a + b - 1) / b := wrap64 (by omega) (by omega)
  refine PCall.of CtxOk.nil ok83 (by simp) rfl fun hs hb => ?_
  simp [A83, R83, w1, w2, hb, w3, w4, show ¬ b = 0 by omega]
theorem c64 : ∀ a r, SBtw a = some r → PCall Try.prog 64 a r := by
  intro a r h
  unfold SBtw at h
  split at h <;> (try (cases h; done))
  injection h with h; subst h; exact p64 _ _ _
theorem c61 : ∀ a r, SIs a = some r → PCall Try.prog 61 a r := by
  intro a r h
  unfold SIs at h
  split at h <;> (try (cases h; done))
  injection h with h; subst h; exact p61 _ _ _
theorem c83 : ∀ a r, SUp a = some r → PCall Try.prog 83 a r := by
  intro a r h
  unfold SUp at h
  split at h <;> (try (cases h; done))
  split at h <;> (try (cases h; done))
  rename_i hc
  injection h with h; subst h; exact p83 hc
@[simp] theorem SBtw_i {a b c : Int} : SBtw [.int .i64 a, .int .i64 b, .int .i64 c] = some (.bool (btw a b c)) := id rfl
@[simp] theorem SIs_i {a b c : Int} : SIs [.int .i64 a, .int .i64 b, .int .i64 c] = some (.bool (btw b a c)) := id rfl
theorem SUp_i {a b : Int} (h : 0 ≤ a ∧ a ≤ 1000000 ∧ 1 ≤ b ∧ b ≤ 1000) : SUp [.int .i64 a, .int .i64 b] = some (.int .i64 ((a + b - 1) / b)) := if_pos h
def PCtx.nil : PCtx := fun _ _ => none
def D0 : PCtx := ((PCtx.nil.add 64 SBtw).add 61 SIs).add 83 SUp
theorem D0ok : CtxOk Try.prog D0 := ((CtxOk.add (C := PCtx.nil) (fun _ _ _ h => by cases h) c64).add c61).add c83
@[simp] theorem D0_64 : D0 64 = SBtw := id rfl
@[simp] theorem D0_61 : D0 61 = SIs := id rfl
@[simp] theorem D0_83 : D0 83 = SUp := id rfl
/-- equal lists -/
theorem p29 {x y : AV} {l m : List Int} (hx : asI x = some l) (hy : asI y = some m) : PCall Try.prog 29 [x, y] (.bool (decide (l = m))) := by
  have hl := asI_len hx
  have hm := asI_len hy
  refine PCall.of D0ok ok29 (by simp) rfl fun hs hb => ?_
  by_cases hlm : l.length = m.length
  rotate_left
  · have h1 : ¬ ((l.length : Int) = (m.length : Int)) := by omega
    have h2 : ¬ l = m := fun h => hlm (by rw [h])
    simp [A29, R29, alen_of hx, alen_of hy, h2, hlm, h1]
  simp [A29, R29, alen_of hx, alen_of hy, hlm]
  refine At.loop (fun (i : Nat) s => i ≤ l.length ∧ s.env 0 = x ∧ s.env 1 = y ∧ s.env 5 = .int .i64 (i : Int) ∧ ∀ j (h : j < l.length) (h' : j < m.length), j < i → l[j] = m[j]) (fun i => l.length - i) 0 ?_ ?_
  · simp
  rintro N i s hN ⟨hi, e0, e1, e5, hno⟩
  simp [e0, e5, alen_of hx]
  refine At.dec (fun hlt => ?_) (fun hlt => ?_)
  · have hi' : i < l.length := by omega
    have hi2 : i < m.length := by omega
    simp [e0, e1, e5, aidx_nat hx hi', aidx_nat hy hi2]
    by_cases hv : l[i] = m[i]
    · simp [hv, e5]
      refine hN (i + 1) _ (by omega) ⟨by omega, ?_⟩
      simp [e0, e1, wrap_nat1 (show i < _ by omega)]
      intro j h h' hj
      by_cases hji : j = i
      · subst hji; exact hv
      · exact hno j h h' (by omega)
    · have : ¬ l = m := fun h => hv (by simp [h])
      simp [hv, this]
  · have : l = m := List.ext_getElem hlm fun j h h' => hno j h h' (by omega)
    simp [this]
theorem p47 {x : AV} {l : List Int} (hx : asI x = some l) : PCall Try.prog 47 [x] x.share := by
  have hp : x.share.plain = true := by
    rcases asI_inv hx with ⟨rfl, _⟩ | ⟨c, rfl⟩
    · rfl
    · rw [share_sl, share_ints]; cases c <;> exact plain_ints l
  refine PCall.of D0ok ok47 (by simp) hp fun hs hb => ?_
  simp [A47, R47]
/-- the first of the numbers below n that has a property; -1: none -/
def fidx (q : Nat → Bool) (n : Nat) : Int := match (List.range n).find? q with | some i => (i : Int) | none => -1
theorem fidx_hit {q : Nat → Bool} {n i : Nat} (hi : i < n) (hq : q i = true) (hb : ∀ j, j < i → q j = false) : fidx q n = i := by
  have : (List.range n).find? q = some i := by
    rw [List.find?_range_eq_some]
    exact ⟨hq, List.mem_range.2 hi, fun j hj => by simp [hb j hj]⟩
  simp [fidx, this]
theorem fidx_none {q : Nat → Bool} {n : Nat} (hb : ∀ j, j < n → q j = false) : fidx q n = -1 := by
  have : (List.range n).find? q = none := by
    rw [List.find?_range_eq_none]
    intro i hi
    simp [hb i hi]
  simp [fidx, this]
theorem fidx_any (q : Nat → Bool) (n : Nat) : decide (0 ≤ fidx q n) = (List.range n).any q := by
  unfold fidx
  cases h : (List.range n).find? q with
  | none =>
    have : (List.range n).any q = false := by
      rw [List.any_eq_false]
      intro x hx
      have := List.find?_eq_none.1 h x hx
      simpa using this
    rw [this]; rfl
  | some i =>
    have h1 := List.find?_some h
    have h2 := List.mem_of_find?_eq_some h
    have : (List.range n).any q = true := List.any_eq_true.2 ⟨i, h2, h1⟩
    rw [this]
    simp
theorem p84 {x : AV} {m : List (List Int)} {R : Nat → AV} (hx : IsM x m R) {f : FuncId} {a1 a2 : List AV} {q : Nat → Bool} (hq : ∀ i, i < m.length → PCall Try.prog f (a1 ++ [R i] ++ a2) (.bool (q i))) :
    PCall Try.prog 84 [x, .fn (.func f) a1 a2] (.int .i64 (fidx q m.length)) := by
  have hl := hx.lt
  refine PCall.of D0ok ok84 (by simp) rfl fun hs hb => ?_
  simp [A84, R84, hx.len]
  refine At.loop (fun (i : Nat) s => i ≤ m.length ∧ s.env 0 = x ∧ s.env 1 = .fn (.func f) a1 a2 ∧ s.env 7 = .int .i64 (m.length : Int) ∧ s.env 8 = .int .i64 (i : Int) ∧ ∀ j, j < i → q j = false) (fun i => m.length - i) 0 ?_ ?_
  · exact ⟨by omega, by simp, by simp, by simp [hx.len], by simp, fun j hj => by omega⟩
  rintro N i s hN ⟨hi, e0, e1, e7, e8, hno⟩
  simp [e7, e8]
  refine At.dec (fun hlt => ?_) (fun hlt => ?_)
  · have hi' : i < m.length := by omega
    simp [e0, e1, e8, hx.get hi', hx.ld hi']
    refine At.hp (by simpa using hq i hi') ?_
    cases hqi : q i with
    | true =>
      simp [e8, fidx_hit hi' hqi hno]
    | false =>
      simp [e8]
      refine hN (i + 1) _ (by omega) ⟨by omega, by simp [e0], by simp [e1], by simp [e7], by simp [wrap_nat1 (show i < _ by omega)], fun j hj => ?_⟩
      by_cases hji : j = i
      · subst hji; exact hqi
      · exact hno j (by omega)
  · have : i = m.length := by omega
    subst this
    simp [fidx_none hno]
theorem p69 {x : AV} {m : List (List Int)} {R : Nat → AV} (hx : IsM x m R) {f : FuncId} {a1 a2 : List AV} {q : Nat → Bool} (hq : ∀ i, i < m.length → PCall Try.prog f (a1 ++ [R i] ++ a2) (.bool (q i))) :
    PCall Try.prog 69 [x, .fn (.func f) a1 a2] (.bool ((List.range m.length).any q)) := by
  refine PCall.of (D0ok.pt (p84 hx hq)) ok69 (by simp) rfl fun hs hb => ?_
  rw [← fidx_any]
  simp [A69, R69]
theorem p75 {x : AV} {l : List Int} (hx : asI x = some l) {f : FuncId} {a1 a2 : List AV} {q : Nat → Bool} (hq : ∀ (i : Nat) (h : i < l.length), PCall Try.prog f (a1 ++ [.int .i64 l[i]] ++ a2) (.bool (q i))) :
    PCall Try.prog 75 [x, .fn (.func f) a1 a2] (.int .i64 (fidx q l.length)) := by
  have hl := asI_len hx
  refine PCall.of D0ok ok75 (by simp) rfl fun hs hb => ?_
  simp [A75, R75, alen_of hx]
  refine At.loop (fun (i : Nat) s => i ≤ l.length ∧ s.env 0 = x ∧ s.env 1 = .fn (.func f) a1 a2 ∧ s.env 7 = .int .i64 (l.length : Int) ∧ s.env 8 = .int .i64 (i : Int) ∧ ∀ j, j < i → q j = false) (fun i => l.length - i) 0 ?_ ?_
  · exact ⟨by omega, by simp, by simp, by simp [alen_of hx], by simp, fun j hj => by omega⟩
  rintro N i s hN ⟨hi, e0, e1, e7, e8, hno⟩
  simp [e7, e8]
  refine At.dec (fun hlt => ?_) (fun hlt => ?_)
  · have hi' : i < l.length := by omega
    simp [e0, e1, e8, aidx_nat hx hi']
    refine At.hp (by simpa using hq i hi') ?_
    cases hqi : q i with
    | true => simp [e8, fidx_hit hi' hqi hno]
    | false =>
      simp [e8]
      refine hN (i + 1) _ (by omega) ⟨by omega, by simp [e0], by simp [e1], by simp [e7], by simp [wrap_nat1 (show i < _ by omega)], fun j hj => ?_⟩
      by_cases hji : j = i
      · subst hji; exact hqi
      · exact hno j (by omega)
  · have : i = l.length := by omega
    subst this
    simp [fidx_none hno]
theorem f75 {x : AV} {l : List Int} (hx : asI x = some l) {f : FuncId} {a1 a2 : List AV} {q : Nat → Bool} {hs : HS} (hq : ∀ (i : Nat) (h : i < l.length), FCall Try.prog f (a1 ++ [.int .i64 l[i]] ++ a2) hs fun e hs' => e = .ret (.bool (q i)) ∧ hs' = hs) :
    FCall Try.prog 75 [x, .fn (.func f) a1 a2] hs fun e hs' => e = .ret (.int .i64 (fidx q l.length)) ∧ hs' = hs := by
  have hl := asI_len hx
  refine FCall.ofAt D0ok ok75 (by simp) ?_
  simp [A75, R75, alen_of hx]
  refine At.loop (fun (i : Nat) s => i ≤ l.length ∧ s.hs = hs ∧ s.env 0 = x ∧ s.env 1 = .fn (.func f) a1 a2 ∧ s.env 7 = .int .i64 (l.length : Int) ∧ s.env 8 = .int .i64 (i : Int) ∧ ∀ j, j < i → q j = false) (fun i => l.length - i) 0 ?_ ?_
  · exact ⟨by omega, by simp, by simp, by simp, by simp [alen_of hx], by simp, fun j hj => by omega⟩
  rintro N i s hN ⟨hi, eh, e0, e1, e7, e8, hno⟩
  simp [e7, e8]
  refine At.dec (fun hlt => ?_) (fun hlt => ?_)
  · have hi' : i < l.length := by omega
    simp [e0, e1, e8, aidx_nat hx hi']
    refine At.hc (by simpa [eh] using hq i hi') ?_ (fun v hs' h => by cases h.1)
    rintro v hs2 ⟨hv, rfl⟩
    injection hv with hv; subst hv
    cases hqi : q i with
    | true => simp [e8, fidx_hit hi' hqi hno]
    | false =>
      simp [e8]
      refine hN (i + 1) _ (by omega) ⟨by omega, by simp [eh], by simp [e0], by simp [e1], by simp [e7], by simp [wrap_nat1 (show i < _ by omega)], fun j hj => ?_⟩
      by_cases hji : j = i
      · subst hji; exact hqi
      · exact hno j (by omega)
  · have : i = l.length := by omega
    subst this
    simp [fidx_none hno, eh]
theorem p56 {x : AV} {l : List Int} (hx : asI x = some l) {f : FuncId} {a1 a2 : List AV} {q : Nat → Bool} (hq : ∀ (i : Nat) (h : i < l.length), PCall Try.prog f (a1 ++ [.int .i64 l[i]] ++ a2) (.bool (q i))) :
    PCall Try.prog 56 [x, .fn (.func f) a1 a2] (.bool ((List.range l.length).any q)) := by
  refine PCall.of D0ok ok56 (by simp) rfl fun hs hb => ?_
  rw [← fidx_any]
  simp [A56, R56]
  refine At.hp (p75 hx hq) ?_
  simp
theorem f56 {x : AV} {l : List Int} (hx : asI x = some l) {f : FuncId} {a1 a2 : List AV} {q : Nat → Bool} {hs : HS} (hq : ∀ (i : Nat) (h : i < l.length), FCall Try.prog f (a1 ++ [.int .i64 l[i]] ++ a2) hs fun e hs' => e = .ret (.bool (q i)) ∧ hs' = hs) :
    FCall Try.prog 56 [x, .fn (.func f) a1 a2] hs fun e hs' => e = .ret (.bool ((List.range l.length).any q)) ∧ hs' = hs := by
  refine FCall.ofAt D0ok ok56 (by simp) ?_
  rw [← fidx_any]
  simp [A56, R56]
  refine At.hc (f75 hx hq) ?_ (fun v hs' h => by cases h.1)
  rintro v hs2 ⟨hv, rfl⟩
  injection hv with hv; subst hv
  simp
theorem any_range {l : List Int} {f : Int → Bool} : (List.range l.length).any (fun i => f (l.getD i 0)) = l.any f := by
  rw [Bool.eq_iff_iff, List.any_eq_true, List.any_eq_true]
  constructor
  · rintro ⟨i, hi, h⟩
    have hi := List.mem_range.1 hi
    refine ⟨l[i], List.getElem_mem _, ?_⟩
    simpa [List.getD, hi] using h
  · rintro ⟨x, hx, h⟩
    obtain ⟨i, hi, rfl⟩ := List.mem_iff_getElem.1 hx
    exact ⟨i, List.mem_range.2 hi, by simpa [List.getD, hi] using h⟩
/-! sums, and the greatest -/
theorem sum_take {l : List Int} {i : Nat} (hi : i < l.length) : (l.take (i + 1)).sum = (l.take i).sum + l[i] := by
  rw [take_snoc hi, List.sum_append]; simp
theorem sum_bd {l : List Int} {b : Int} (hb : ∀ n ∈ l, 0 ≤ n ∧ n ≤ b) : 0 ≤ l.sum ∧ l.sum ≤ l.length * b := by
  induction l with
  | nil => simp
  | cons a l ih =>
    have h1 := ih (fun n hn => hb n (by simp [hn]))
    have h2 := hb a (by simp)
    simp only [List.sum_cons, List.length_cons, Int.natCast_add, Int.add_mul]
    omega
theorem sum_le {l : List Int} (h : ∀ n ∈ l, 0 ≤ n) : ∀ i, (l.take i).sum ≤ l.sum ∧ 0 ≤ (l.take i).sum := by
  intro i
  have h1 : l.sum = (l.take i).sum + (l.drop i).sum := by rw [← List.sum_append, List.take_append_drop]
  have nn : ∀ m : List Int, (∀ n ∈ m, 0 ≤ n) → 0 ≤ m.sum := by
    intro m
    induction m with
    | nil => simp
    | cons a m ih =>
      intro h
      have := ih (fun n hn => h n (by simp [hn]))
      have := h a (by simp)
      simp only [List.sum_cons]; omega
  have h2 := nn (l.take i) (fun n hn => h n (List.mem_of_mem_take hn))
  have h3 := nn (l.drop i) (fun n hn => h n (List.mem_of_mem_drop hn))
  omega
theorem p65 {x : AV} {l : List Int} (hx : asI x = some l) (hb : ∀ n ∈ l, 0 ≤ n) (hs : l.sum ≤ 1000000000) : PCall Try.prog 65 [x, .fn (.func 66) [] []] (.int .i64 l.sum) := by
  have hl := asI_len hx
  refine PCall.of D0ok ok65 (by simp) rfl fun hs' hb' => ?_
  simp [A65, R65, alen_of hx]
  refine At.loop (fun (i : Nat) s => i ≤ l.length ∧ s.env 1 = .fn (.func 66) [] [] ∧ s.env 5 = .int .i64 (l.take i).sum ∧ s.env 8 = x ∧ s.env 9 = .int .i64 (l.length : Int) ∧ s.env 10 = .int .i64 (i : Int)) (fun i => l.length - i) 0 ?_ ?_
  · exact ⟨by omega, by simp, by simp, by simp, by simp [alen_of hx], by simp⟩
  rintro N i s hN ⟨hi, e1, e5, e8, e9, e10⟩
  simp [e9, e10]
  refine At.dec (fun hlt => ?_) (fun hlt => ?_)
  · have hi' : i < l.length := by omega
    have b1 := sum_le hb (i + 1)
    rw [sum_take hi'] at b1
    have w : IntKind.i64.wrap ((l.take i).sum + l[i]) = (l.take i).sum + l[i] := wrap64 (by omega) (by omega)
    simp [e1, e5, e8, e10, aidx_nat hx hi']
    refine At.hp (by simpa using p66 l[i]) ?_
    simp [e5, e10, w]
    refine hN (i + 1) _ (by omega) ⟨by omega, by simp [e1], by simp [sum_take hi'], by simp [e8], by simp [e9], by simp [wrap_nat1 (show i < _ by omega)]⟩
  · have : i = l.length := by omega
    subst this
    simp [e5]
/-- the greatest of numbers from a start on -/
def gtr (a : Int) (l : List Int) : Int := l.foldl max a
theorem gtr_snoc {a : Int} {l : List Int} {i : Nat} (hi : i < l.length) : gtr a (l.take (i + 1)) = max (gtr a (l.take i)) l[i] := by
  unfold gtr; rw [take_snoc hi, List.foldl_append]; rfl
theorem p52 {x : AV} {l : List Int} (hx : asI x = some l) : PCall Try.prog 52 [x] (.int .i64 (gtr 0 l)) := by
  have hl := asI_len hx
  refine PCall.of D0ok ok52 (by simp) rfl fun hs' hb' => ?_
  simp [A52, R52]
  refine At.loop (fun (i : Nat) s => i ≤ l.length ∧ s.env 0 = x ∧ s.env 3 = .int .i64 (gtr 0 (l.take i)) ∧ s.env 4 = .int .i64 (i : Int)) (fun i => l.length - i) 0 ?_ ?_
  · exact ⟨by omega, by simp, by simp [gtr], by simp⟩
  rintro N i s hN ⟨hi, e0, e3, e4⟩
  simp [e0, e4, alen_of hx]
  refine At.dec (fun hlt => ?_) (fun hlt => ?_)
  · have hi' : i < l.length := by omega
    simp [e0, e3, e4, aidx_nat hx hi']
    refine hN (i + 1) _ (by omega) ⟨by omega, by simp [e0], by simp [gtr_snoc hi', Int.max_def], by simp [wrap_nat1 (show i < _ by omega)]⟩
  · have : i = l.length := by omega
    subst this
    simp [e3]
theorem p67 {x : AV} {l : List Int} (hx : asI x = some l) (hne : 0 < l.length) : PCall Try.prog 67 [x] (.int .i64 (gtr (l.getD 0 0) (l.drop 1))) := by
  have hl := asI_len hx
  have h1 : ¬ l.length < 1 := by omega
  have h2 : ¬ (l.length : Int) < 1 := by omega
  have h0 := aidx_nat hx (i := 0) hne (k := .i64)
  simp only [Int.ofNat_eq_natCast, Int.natCast_zero] at h0
  have hg : l.getD 0 0 = l[0] := by simp [List.getD, hne]
  refine PCall.of D0ok ok67 (by simp) rfl fun hs' hb' => ?_
  simp only [hg]
  simp [A67, R67, alen_of hx, h1, h2, h0]
  refine At.loop (fun (i : Nat) s => i + 1 ≤ l.length ∧ s.env 0 = x ∧ s.env 3 = .int .i64 (gtr l[0] ((l.drop 1).take i)) ∧ s.env 4 = .int .i64 ((i + 1 : Nat) : Int)) (fun i => l.length - i) 0 ?_ ?_
  · exact ⟨by omega, by simp, by simp [gtr], by simp⟩
  rintro N i s hN ⟨hi, e0, e3, e4⟩
  simp [e0, e4, alen_of hx]
  refine At.dec (fun hlt => ?_) (fun hlt => ?_)
  · have hi' : i + 1 < l.length := by omega
    have hix := aidx_nat hx hi' (k := .i64)
    have hid : i < (l.drop 1).length := by rw [List.length_drop]; omega
    have hgt := gtr_snoc (a := l[0]) hid
    have hde : (l.drop 1)[i] = l[i + 1] := by rw [List.getElem_drop]; congr 1; omega
    rw [hde] at hgt
    rw [Int.natCast_add, Int.natCast_one] at hix
    simp [e0, e3, e4, hix]
    have hw := wrap_nat1 (show i + 1 < _ by omega)
    rw [Int.natCast_add, Int.natCast_one] at hw
    refine hN (i + 1) _ (by omega) ⟨by omega, by simp [e0], ?_, by simp [hw]⟩
    simp only [List.drop_one] at hgt
    simp [hgt, Int.max_def]
  · have hil : i = (l.drop 1).length := by rw [List.length_drop]; omega
    simp only [List.drop_one] at hil e3
    rw [hil, List.take_length] at e3
    simp [e3]
end Go.Proofs.Ytokgpcdbpkginaa
set_option linter.unusedVariables false
set_option linter.unusedSimpArgs false
namespace Go.Proofs.Ytokgpcdbpkginaa
open Go Fw

/-- a list of numbers under way that has room of its own -/
def Own1 (hs : HS) (x : AV) (l : List Int) : Prop := (x = .nilsl ∧ l = []) ∨ ∃ k, x = .sl 1 (ints l) (.own k) ∧ hs.tok k = true ∧ k < hs.nt
theorem Own1.asI {hs : HS} {x : AV} {l : List Int} (h : Own1 hs x l) (hl : l.length < 4294967296) : Fw.asI x = some l := by
  rcases h with ⟨rfl, rfl⟩ | ⟨k, rfl, _, _⟩
  · rfl
  · exact asI_sl hl
theorem append_eqH {sz : Nat} {hs : HS} {p q : AV} {xs ys : List AV} (hp : aelemsH hs.heap p = some xs) (hq : aelemsH hs.heap q = some ys) (h1 : aszOk sz p = true) (h2 : aszOk sz q = true) (hl : xs.length + ys.length ≤ 1073741824)
    (hm : ∀ a b c d e f, p ≠ .msl a b c d e f) : aappend sz hs p q = if ys = [] then some (p, hs) else appP sz hs xs ys p := by
  unfold aappend
  rw [hp, hq]
  simp only [h1, h2, hl, and_self, if_true]
  split
  · rfl
  · cases p with
    | sl sz' xs' cp => cases cp <;> rfl
    | msl ag sz' i off len ex => exact absurd rfl (hm _ _ _ _ _ _)
    | _ => rfl
theorem own_append {n : Nat} {hs : HS} {x q : AV} {l m : List Int} (h : Own1 hs x l) (hq : RdI n hs.heap q m) (hl : l.length + m.length ≤ 1000000000) :
    ∃ y hs', aappend 1 hs x q = some (y, hs') ∧ Own1 hs' y (l ++ m) ∧ SameMem hs hs' ∧ (x = .nilsl → m = [] → y = .nilsl) := by
  obtain ⟨e1, e2⟩ := hq.elems
  rcases h with ⟨rfl, rfl⟩ | ⟨k, rfl, h1, h2⟩
  · rw [append_eqH (xs := []) rfl e1 rfl e2 (by simp [ints] at hl ⊢; omega) (by simp)]
    split
    · rename_i hy
      have : m = [] := by simpa [ints] using hy
      subst this
      exact ⟨_, _, rfl, .inl ⟨rfl, rfl⟩, .refl _, fun _ _ => rfl⟩
    · rename_i hy
      refine ⟨_, _, rfl, .inr ⟨hs.nt, by simp, by simp, by simp⟩, ⟨rfl, rfl⟩, fun _ hm => absurd (by rw [hm]; rfl) hy⟩
  · rw [append_eqH (xs := ints l) rfl e1 (by simp [aszOk]) e2 (by simp [ints]; omega) (by simp)]
    split
    · rename_i hy
      have : m = [] := by simpa [ints] using hy
      subst this
      exact ⟨_, _, rfl, .inr ⟨k, by simp, h1, h2⟩, .refl _, fun h => by cases h⟩
    · rename_i hy
      simp only [appP, h1, if_true]
      refine ⟨_, _, rfl, .inr ⟨hs.nt, by simp [ints], by simp, by simp⟩, ⟨rfl, rfl⟩, fun h => by cases h⟩
/-- the lists one behind the other: the first i -/
def catL (ls : Nat → List Int) : Nat → List Int
  | 0 => []
  | i + 1 => catL ls i ++ ls i
theorem catL_le (ls : Nat → List Int) : ∀ {i j : Nat}, i ≤ j → (catL ls i).length ≤ (catL ls j).length
  | i, 0, h => by have : i = 0 := by omega
                  subst this; exact Nat.le_refl _
  | i, j + 1, h => by
    rcases Nat.lt_or_ge i (j + 1) with h' | h'
    · have := catL_le ls (i := i) (j := j) (by omega)
      simp only [catL, List.length_append]; omega
    · have : i = j + 1 := by omega
      subst this; exact Nat.le_refl _
theorem p76 (n : Nat) (hn : n ≤ 1000000) (hs : HS) : FCall Try.prog 76 [.nilsl, .int .i64 (n : Int)] hs fun e hs' => ∃ y, e = .ret y ∧ Own1 hs' y [] ∧ SameMem hs hs' ∧ (n = 0 → y = .nilsl) ∧ (n ≠ 0 → y ≠ .nilsl) := by
  refine FCall.ofAt D0ok ok76 (by simp) ?_
  simp [A76, R76]
  refine At.dec (fun h => ?_) (fun h => ?_)
  · omega
  have w1 : IntKind.i64.wrap ((n : Int)) = n := by rw [wrap64 (by omega) (by omega)]
  have w2 : IntKind.i64.wrap 0 = 0 := by decide
  simp [acap, w1, w2]
  refine At.dec (fun h2 => ?_) (fun h2 => ?_)
  · have hn0 : 0 < n := by omega
    have ha : aslice 1 .nilsl none (some (.int .i64 0)) none = some .nilsl := by simp [aslice, aidx, asliceN]
    have hg : ∀ m k, aslice 1 (.gsl 1 m k) none (some (.int .i64 0)) none = some (.sl 1 [] (.own k)) := fun m k => by simp [aslice, aidx]
    simp [acap, ha, hg, aappz, hn0, show (n : Int) ≤ 1000000 by omega]
    exact At.of ⟨.inr ⟨hs.nt, by simp [ints], by simp, by simp⟩, ⟨rfl, rfl⟩, by omega⟩
  · have hn0 : n = 0 := by omega
    subst hn0
    simp
    exact At.of ⟨.inl ⟨rfl, rfl⟩, .refl _⟩
theorem p57 {n : Nat} {hs : HS} {x : AV} {xs : List AV} {c : Cap} {ls : Nat → List Int} (hf : x = .nilsl ∧ xs = [] ∨ x = .sl 1 xs c) (hx : ∀ (i : Nat) (h : i < xs.length), RdI n hs.heap xs[i] (ls i)) (hlen : ∀ i, i ≤ xs.length → (catL ls i).length ≤ 1000000) (hxl : xs.length ≤ 1000) :
    FCall Try.prog 57 [x] hs fun e hs' => ∃ y, e = .ret y ∧ Own1 hs' y (catL ls xs.length) ∧ SameMem hs hs' := by
  refine FCall.ofAt D0ok ok57 (by simp) ?_
  simp [A57, R57]
  have hal : alenK false x = some (.int .i64 xs.length) := by
    rcases hf with ⟨rfl, rfl⟩ | rfl
    · rfl
    · simp [alenK]
  have hidx : ∀ i (h : i < xs.length), aidxS 1 x (.int .i64 (i : Int)) = some (.ptr xs[i]) := fun i h => by
    rcases hf with ⟨rfl, rfl⟩ | rfl
    · simp at h
    · simp [aidxS, h]
  have hld : ∀ (i : Nat) (h : i < xs.length) hp, aload hp false 1 (.ptr xs[i]) = some xs[i] := fun i h hp => leaf_ld (hx i h).leaf hp
  simp [hal]
  refine At.loop (fun (i : Nat) s => i ≤ xs.length ∧ s.hs = hs ∧ s.env 0 = x ∧ s.env 3 = .int .i64 ((catL ls i).length : Int) ∧ s.env 9 = x ∧ s.env 10 = .int .i64 (xs.length : Int) ∧ s.env 11 = .int .i64 (i : Int)) (fun i => xs.length - i) 0 ?_ ?_
  · simp [catL, hal]
  rintro N i s hN ⟨hi, e_, e0, e3, e9, e10, e11⟩
  simp [e10, e11]
  refine At.dec (fun hlt => ?_) (fun hlt => ?_)
  · have hi' : i < xs.length := by omega
    have hl1 := hlen (i + 1) (by omega)
    simp only [catL, List.length_append] at hl1
    have w1 : IntKind.i64.wrap (((catL ls i).length : Int) + ((ls i).length : Int)) = ((catL ls i).length : Int) + ((ls i).length : Int) := wrap64 (by omega) (by omega)
    simp [e3, e9, e11, hidx i hi', hld i hi', (hx i hi').len, w1]
    refine At.dec (fun h => ?_) (fun h => ?_)
    · omega
    · simp [e11]
      refine hN (i + 1) _ (by omega) ⟨by omega, ?_⟩
      simp [e_, e0, e9, e10, catL, wrap_nat1 (show i < _ by omega)]
  · have : i = xs.length := by omega
    subst this
    have hln := hlen xs.length (Nat.le_refl _)
    simp [e3]
    refine At.hc (p76 _ hln s.hs) ?_ ?_
    · rintro v hs2 ⟨y, hv, ho, hsm, hy0, hy1⟩
      injection hv with hv; subst hv
      rw [e_] at hsm
      simp [e0, hal]
      refine At.loop (fun (i : Nat) s => i ≤ xs.length ∧ SameMem hs s.hs ∧ s.env 25 = x ∧ s.env 26 = .int .i64 (xs.length : Int) ∧ s.env 27 = .int .i64 (i : Int) ∧ Own1 s.hs (s.env 6) (catL ls i)) (fun i => xs.length - i) 0 ?_ ?_
      · simp [catL, hal, hsm]; exact ho
      rintro N2 i s hN2 ⟨hi, hsm, e25, e26, e27, ho⟩
      simp [e26, e27]
      refine At.dec (fun hlt => ?_) (fun hlt => ?_)
      · have hi' : i < xs.length := by omega
        have hl1 := hlen (i + 1) (by omega)
        simp only [catL, List.length_append] at hl1
        have hr := (hx i hi')
        rw [← hsm.heap] at hr
        obtain ⟨y2, hs3, b1, b2, b3, b4⟩ := own_append ho hr (by omega)
        simp [e25, e27, hidx i hi', hld i hi', b1]
        refine hN2 (i + 1) _ (by omega) ⟨by omega, ?_⟩
        simp [e25, e26, catL, wrap_nat1 (show i < _ by omega)]
        exact ⟨hsm.trans b3, b2⟩
      · have : i = xs.length := by omega
        subst this
        simp
        exact At.of ⟨ho, hsm⟩
    · rintro v hs2 ⟨y, hv, _⟩
      cases hv

/-! the error of a work -/
def chkE (m : List (List Int)) : Int :=
  if m.length = 0 then 1 else if 6 < m.length then 2
  else if (btw 1 ((m.getD 0 []).length : Int) 6 = false) ∨ (m.any fun r => r.length != (m.getD 0 []).length) = true then 3
  else if (m.any fun r => r.any fun h => !btw 0 h 30) = true then 4 else 0
/-- a work -/
structure OkW (m : List (List Int)) : Prop where
  r1 : 1 ≤ m.length
  r6 : m.length ≤ 6
  c1 : 1 ≤ (m.getD 0 []).length
  c6 : (m.getD 0 []).length ≤ 6
  row : ∀ r ∈ m, r.length = (m.getD 0 []).length
  bd : ∀ r ∈ m, ∀ h ∈ r, 0 ≤ h ∧ h ≤ 30
theorem chkE_zero {m : List (List Int)} : chkE m = 0 ↔ OkW m := by
  unfold chkE
  split
  · rename_i h; exact ⟨fun h => absurd h (by decide), fun h' => by have := h'.r1; omega⟩
  split
  · rename_i h; exact ⟨fun h => absurd h (by decide), fun h' => by have := h'.r6; omega⟩
  split
  · rename_i h
    refine ⟨fun h => absurd h (by decide), fun h' => ?_⟩
    exfalso
    rcases h with h | h
    · have := h'.c1; have := h'.c6
      have hb : btw 1 ((m.getD 0 []).length : Int) 6 = true := by
        simp only [btw, Bool.and_eq_true, decide_eq_true_eq]; omega
      rw [hb] at h; cases h
    · obtain ⟨r, hr, h⟩ := List.any_eq_true.1 h
      simp [h'.row r hr] at h
  rename_i h1 h2 h3
  have g1 : btw 1 ((m.getD 0 []).length : Int) 6 = true := by
    cases hb : btw 1 ((m.getD 0 []).length : Int) 6 with
    | true => rfl
    | false => exact absurd (.inl hb) h3
  have g2 : ∀ r ∈ m, r.length = (m.getD 0 []).length := fun r hr => by
    rcases Nat.decEq r.length (m.getD 0 []).length with hne | he
    · exact absurd (.inr (List.any_eq_true.2 ⟨r, hr, by simpa using hne⟩)) h3
    · exact he
  simp only [btw, Bool.and_eq_true, decide_eq_true_eq] at g1
  split
  · rename_i h
    refine ⟨fun h => absurd h (by decide), fun h' => ?_⟩
    exfalso
    obtain ⟨r, hr, h⟩ := List.any_eq_true.1 h
    obtain ⟨a, ha, h⟩ := List.any_eq_true.1 h
    have := h'.bd r hr a ha
    simp [btw, this] at h
  · rename_i h
    refine ⟨fun _ => ⟨by omega, by omega, by omega, by omega, g2, fun r hr a ha => ?_⟩, fun _ => rfl⟩
    have : btw 0 a 30 = true := by
      cases hb : btw 0 a 30 with
      | true => rfl
      | false => exact absurd (List.any_eq_true.2 ⟨r, hr, List.any_eq_true.2 ⟨a, ha, by simp [hb]⟩⟩) h
    simpa [btw] using this
theorem p71 (h : Int) : PCall Try.prog 71 [.int .i64 h] (.bool (!btw 0 h 30)) := by
  refine PCall.of D0ok ok71 (by simp) rfl fun hs hb => ?_
  simp [A71, R71, aun]
theorem p70 {x : AV} {m : List (List Int)} {R : Nat → AV} (hx : IsM x m R) (hm : 0 < m.length) {i : Nat} (hi : i < m.length) : PCall Try.prog 70 [R i, .ptr x] (.bool (decide ((m[i]).length ≠ (m[0]).length))) := by
  refine PCall.of D0ok ok70 (by simp) rfl fun hs hb => ?_
  simp [A70, R70, hx.rlen hi, leaf_ld hx.leaf, hx.get0 hm, hx.ld hm, hx.rlen hm]
  omega
theorem catL_flat (m : List (List Int)) : ∀ i, i ≤ m.length → catL (fun i => m.getD i []) i = (m.take i).flatten
  | 0, _ => rfl
  | i + 1, h => by
    have hi : i < m.length := by omega
    rw [catL, catL_flat m i (by omega), take_snoc hi, List.flatten_append]
    simp [List.getD, hi]
theorem flat_le (m : List (List Int)) (k : Nat) (h : ∀ r ∈ m, r.length ≤ k) : m.flatten.length ≤ m.length * k := by
  induction m with
  | nil => simp
  | cons r m ih =>
    have h1 := ih (fun r hr => h r (by simp [hr]))
    have h2 := h r (by simp)
    simp only [List.flatten_cons, List.length_append, List.length_cons, Nat.add_mul]
    omega
theorem row0 {m : List (List Int)} (h : 0 < m.length) : m.getD 0 [] = m[0] := by simp [List.getD, h]
theorem p39 {x : AV} {m : List (List Int)} {R : Nat → AV} (hx : IsM x m R) : PCall Try.prog 39 [x] (.int .i64 (chkE m)) := by
  have hl := hx.lt
  by_cases h0 : m.length = 0
  · have hE : chkE m = 1 := by rw [chkE, if_pos h0]
    refine PCall.of D0ok ok39 (by simp) rfl fun hs hb => ?_
    rw [hE]
    simp [A39, R39, leaf_sto hx.leaf, leaf_ld hx.leaf, hx.len, h0]
  by_cases h6 : 6 < m.length
  · have hE : chkE m = 2 := by rw [chkE, if_neg h0, if_pos h6]
    have h6i : (6 : Int) < (m.length : Int) := by omega
    refine PCall.of D0ok ok39 (by simp) rfl fun hs hb => ?_
    rw [hE]
    simp [A39, R39, leaf_sto hx.leaf, leaf_ld hx.leaf, hx.len, h0, h6, h6i]
  have h6i : ¬ (6 : Int) < (m.length : Int) := by omega
  have hm : 0 < m.length := by omega
  have hrow : m.getD 0 [] = m[0] := row0 hm
  have c69 := p69 hx (f := 70) (a1 := []) (a2 := [.ptr x]) (q := fun i => decide ((m.getD i []).length ≠ (m[0]).length)) (fun i hi => by
    have := p70 hx hm hi
    have e : m.getD i [] = m[i] := by simp [List.getD, hi]
    rw [← e] at this
    exact this)
  have hany : (List.range m.length).any (fun i => decide ((m.getD i []).length ≠ (m[0]).length)) = m.any fun r => r.length != (m.getD 0 []).length := by
    rw [hrow, Bool.eq_iff_iff, List.any_eq_true, List.any_eq_true]
    constructor
    · rintro ⟨i, hi, h⟩
      have hi := List.mem_range.1 hi
      exact ⟨m[i], List.getElem_mem _, by simpa [List.getD, hi] using h⟩
    · rintro ⟨r, hr, h⟩
      obtain ⟨i, hi, rfl⟩ := List.mem_iff_getElem.1 hr
      exact ⟨i, List.mem_range.2 hi, by simpa [List.getD, hi] using h⟩
  rw [hany] at c69
  obtain ⟨C, hC, k56, n56⟩ := ctx_l (f := 56) (zs := [.fn (.func 71) [] []]) (r := fun l => .bool (l.any fun h => !btw 0 h 30)) (D0ok.pt c69) (fun {y l} hy => by
    have := p56 hy (f := 71) (a1 := []) (a2 := []) (q := fun i => !btw 0 (l.getD i 0) 30) (fun i hi => by simpa [List.getD, hi] using p71 l[i])
    rwa [any_range (f := fun h => !btw 0 h 30)] at this)
  have k64 : C 64 = SBtw := by rw [n56 64 (by decide)]; funext a; simp
  have k69 : C 69 [x, .fn (.func 70) [] [.ptr x]] = some (.bool (m.any fun r => r.length != (m.getD 0 []).length)) := by rw [n56 69 (by decide)]; simp
  refine PCall.of hC ok39 (by simp) rfl fun hs hb => ?_
  have r0 := hx.rlen hm
  rw [← hrow] at r0
  by_cases h3 : (btw 1 ((m.getD 0 []).length : Int) 6 = false) ∨ (m.any fun r => r.length != (m.getD 0 []).length) = true
  · have hE : chkE m = 3 := by rw [chkE, if_neg h0, if_neg h6, if_pos h3]
    rw [hE]
    cases hb1 : btw 1 ((m.getD 0 []).length : Int) 6 with
    | false =>
      simp [A39, R39, leaf_sto hx.leaf, leaf_ld hx.leaf, hx.len, h0, h6, h6i, hx.get0 hm, hx.ld hm, r0, k64, SBtw, aun]
      simp only [List.getD_eq_getElem?_getD] at hb1
      simp [hb1]
    | true =>
      rcases h3 with h3 | h3
      · rw [hb1] at h3; cases h3
      rw [h3] at k69
      simp only [List.getD_eq_getElem?_getD] at hb1
      simp [A39, R39, leaf_sto hx.leaf, leaf_ld hx.leaf, hx.len, h0, h6, h6i, hx.get0 hm, hx.ld hm, r0, k64, SBtw, aun, k69, hb1]
  · have hb1 : btw 1 ((m.getD 0 []).length : Int) 6 = true := by
      cases hb : btw 1 ((m.getD 0 []).length : Int) 6 with
      | true => rfl
      | false => exact absurd (.inl hb) h3
    have hb2 : (m.any fun r => r.length != (m.getD 0 []).length) = false := by
      cases hb : m.any fun r => r.length != (m.getD 0 []).length with
      | false => rfl
      | true => exact absurd (.inr hb) h3
    have hrl : ∀ r ∈ m, r.length ≤ 6 := fun r hr => by
      have h1 := List.any_eq_false.1 hb2 r hr
      have h2 : r.length = (m.getD 0 []).length := by simpa using h1
      simp only [btw, Bool.and_eq_true, decide_eq_true_eq] at hb1
      omega
    have hpos : ∀ i (h : i < m.length), 0 < (m[i]).length := fun i h => by
      have h1 := List.any_eq_false.1 hb2 m[i] (List.getElem_mem _)
      have h2 : (m[i]).length = (m.getD 0 []).length := by simpa using h1
      simp only [btw, Bool.and_eq_true, decide_eq_true_eq] at hb1
      omega
    have hfl := flat_le m 6 hrl
    have hcat := catL_flat m m.length (Nat.le_refl _)
    rw [List.take_length] at hcat
    have hE : chkE m = if (m.flatten.any fun h => !btw 0 h 30) = true then 4 else 0 := by
      rw [chkE, if_neg h0, if_neg h6, if_neg h3, List.any_flatten]
    rw [hE]
    generalize hbb : (m.flatten.any fun h => !btw 0 h 30) = bb
    rw [hb2] at k69
    simp only [List.getD_eq_getElem?_getD] at hb1
    simp [A39, R39, leaf_sto hx.leaf, leaf_ld hx.leaf, hx.len, h0, h6, h6i, hx.get0 hm, hx.ld hm, r0, k64, SBtw, aun, k69, hb1]
    have hform : x = .nilsl ∧ (List.range m.length).map R = [] ∨ ∃ c, x = .sl 1 ((List.range m.length).map R) c := by
      rcases hx.form with ⟨h1, h2⟩ | h
      · exact .inl ⟨h1, by rw [h2]; rfl⟩
      · exact .inr h
    obtain ⟨c, hxc⟩ : ∃ c, x = .sl 1 ((List.range m.length).map R) c := by
      rcases hx.form with ⟨_, h2⟩ | h
      · rw [h2] at hm; simp at hm
      · exact h
    refine At.hc (p57 (n := 0) (xs := (List.range m.length).map R) (c := c) (ls := fun i => m.getD i []) (.inr hxc) (fun i hi => ?_) (fun i hi => ?_) ?_) ?_ ?_
    · have hi' : i < m.length := by simpa using hi
      have : m.getD i [] = m[i] := by simp [List.getD, hi']
      rw [this]
      simp only [List.getElem_map, List.getElem_range]
      exact RdI.of (rowI_ne (hx.row i hi') (hpos i hi'))
    · have := catL_le (fun i => m.getD i []) (i := i) (j := m.length) (by simpa using hi)
      rw [hcat] at this
      omega
    · simp; omega
    · rintro v hs2 ⟨y, hv, ho, _⟩
      injection hv with hv; subst hv
      simp only [List.length_map, List.length_range, hcat] at ho
      have hy := ho.asI (by omega)
      have hk := k56 _ _ hy
      rw [hbb] at hk
      simp
      refine At.hp (by simpa using hC _ _ _ hk) ?_
      cases bb <;> simp
    · rintro v hs2 ⟨y, hv, _⟩
      cases hv
theorem fst_bad {n : Nat} {P : Nat → Prop} [DecidablePred P] : (∀ i, i < n → ¬ P i) ∨ ∃ i, i < n ∧ P i ∧ ∀ j, j < i → ¬ P j := by
  induction n with
  | zero => exact .inl (fun i h => by omega)
  | succ n ih =>
    rcases ih with h | ⟨i, h1, h2⟩
    · by_cases hp : P n
      · exact .inr ⟨n, by omega, hp, h⟩
      · exact .inl fun i hi => by
          by_cases hin : i = n
          · subst hin; exact hp
          · exact h i (by omega)
    · exact .inr ⟨i, by omega, h2⟩
theorem p46 {x : AV} {m : List (List Int)} {R : Nat → AV} (hx : IsM x m R) : PCall Try.prog 46 [x] (.int .i64 (chkE m)) := by
  have hl := hx.lt
  by_cases h0 : m.length = 0
  · have hE : chkE m = 1 := by rw [chkE, if_pos h0]
    refine PCall.of D0ok ok46 (by simp) rfl fun hs hb => ?_
    rw [hE]
    simp [A46, R46, hx.len, h0]
  by_cases h6 : 6 < m.length
  · have hE : chkE m = 2 := by rw [chkE, if_neg h0, if_pos h6]
    have h6i : (6 : Int) < (m.length : Int) := by omega
    refine PCall.of D0ok ok46 (by simp) rfl fun hs hb => ?_
    rw [hE]
    simp [A46, R46, hx.len, h0, h6, h6i]
  have h6i : ¬ (6 : Int) < (m.length : Int) := by omega
  have hm : 0 < m.length := by omega
  have hrow : m.getD 0 [] = m[0] := row0 hm
  have r0 := hx.rlen hm
  obtain ⟨c, hc⟩ : ∃ c, (m[0]).length = c := ⟨_, rfl⟩
  rw [hc] at r0
  have hcd : (m.getD 0 []).length = c := by rw [hrow, hc]
  refine PCall.of D0ok ok46 (by simp) rfl fun hs hb => ?_
  have hg := hx.get0 hm (k := .i64)
  simp [A46, R46, hx.len, h0, h6, h6i]
  refine At.loop (fun (i : Nat) t => i ≤ m.length ∧ t.env 0 = x ∧ t.env 3 = .int .i64 (i : Int) ∧ (0 < i → btw 1 (c : Int) 6 = true) ∧ ∀ j (h : j < m.length), j < i → (m[j]).length = c) (fun i => m.length - i) 0 ?_ ?_
  · exact ⟨by omega, by simp, by simp, by omega, fun j h hj => by omega⟩
  rintro N i t hN ⟨hi, e0, e3, hb1, hr⟩
  simp [e0, e3, hx.len]
  refine At.dec (fun hlt => ?_) (fun hlt => ?_)
  · have hi' : i < m.length := by omega
    by_cases hbt : btw 1 (c : Int) 6 = true
    · by_cases hrl : (m[i]).length = c
      · have hrl2 : ((m[i]).length : Int) = (c : Int) := by omega
        simp [e0, e3, hg, hx.ld hm, r0, hbt, aun, hx.get hi', hx.ld hi', hx.rlen hi', hrl]
        refine hN (i + 1) _ (by omega) ⟨by omega, by simp [e0], by simp [wrap_nat1 (show i < _ by omega)], fun _ => hbt, fun j h hj => ?_⟩
        by_cases hji : j = i
        · subst hji; exact hrl
        · exact hr j h (by omega)
      · have hrl2 : ¬ ((m[i]).length : Int) = (c : Int) := by omega
        have hE : chkE m = 3 := by
          rw [chkE, if_neg h0, if_neg h6, if_pos]
          exact .inr (List.any_eq_true.2 ⟨m[i], List.getElem_mem _, by rw [hcd]; simpa using hrl⟩)
        simp [e0, e3, hg, hx.ld hm, r0, hbt, aun, hx.get hi', hx.ld hi', hx.rlen hi', hrl, hrl2, hE]
    · rw [Bool.not_eq_true] at hbt
      have hE : chkE m = 3 := by
        rw [chkE, if_neg h0, if_neg h6, if_pos]
        rw [hcd]; exact .inl hbt
      simp [e0, e3, hg, hx.ld hm, r0, hbt, aun, hE]
  · have him : i = m.length := by omega
    subst him
    have hb1 := hb1 hm
    have hc6 : 1 ≤ c ∧ c ≤ 6 := by simp only [btw, Bool.and_eq_true, decide_eq_true_eq] at hb1; omega
    have hany : (m.any fun r => r.length != (m.getD 0 []).length) = false := by
      rw [List.any_eq_false]
      intro r hr'
      obtain ⟨j, hj, rfl⟩ := List.mem_iff_getElem.1 hr'
      rw [hcd, hr j hj hj]; simp
    have hE : chkE m = if (m.any fun r => r.any fun h => !btw 0 h 30) = true then 4 else 0 := by
      rw [chkE, if_neg h0, if_neg h6, if_neg]
      rw [hany, hcd, hb1]; simp
    have hasI : ∀ j (h : j < m.length), asI (R j) = some m[j] := fun j h => rowI_ne (hx.row j h) (by have := hr j h h; omega)
    simp
    refine At.loop (fun (i : Nat) t => i ≤ m.length ∧ t.env 0 = x ∧ t.env 4 = .int .i64 (i : Int) ∧ ∀ j (h : j < m.length), j < i → ∀ a ∈ m[j], btw 0 a 30 = true) (fun i => m.length - i) 0 ?_ ?_
    · exact ⟨by omega, by simp [e0], by simp, fun j h hj => by omega⟩
    rintro N2 i t hN2 ⟨hi, e0, e4, hok⟩
    simp [e0, e4, hx.len]
    refine At.dec (fun hlt => ?_) (fun hlt => ?_)
    · have hi' : i < m.length := by omega
      simp
      refine At.loop (fun (k : Nat) t => k ≤ (m[i]).length ∧ t.env 0 = x ∧ t.env 4 = .int .i64 (i : Int) ∧ t.env 5 = .int .i64 (k : Int) ∧ ∀ j (h : j < (m[i]).length), j < k → btw 0 (m[i])[j] 30 = true) (fun k => (m[i]).length - k) 0 ?_ ?_
      · exact ⟨by omega, by simp [e0], by simp [e4], by simp, fun j h hj => by omega⟩
      rintro N3 k t hN3 ⟨hk, e0, e4, e5, hokk⟩
      simp [e0, e4, e5, hx.get hi', hx.ld hi', hx.rlen hi']
      refine At.dec (fun hlt3 => ?_) (fun hlt3 => ?_)
      · have hk' : k < (m[i]).length := by omega
        have hl6 := hr i hi' hi'
        cases hbt : btw 0 (m[i])[k] 30 with
        | true =>
          simp [e0, e4, e5, hx.get hi', hx.ld hi', aidx_nat (hasI i hi') hk', hbt, aun]
          refine hN3 (k + 1) _ (by omega) ⟨by omega, by simp [e0], by simp [e4], by simp [wrap_nat1 (show k < _ by omega)], fun j h hj => ?_⟩
          by_cases hjk : j = k
          · subst hjk; exact hbt
          · exact hokk j h (by omega)
        | false =>
          have : (m.any fun r => r.any fun h => !btw 0 h 30) = true := List.any_eq_true.2 ⟨m[i], List.getElem_mem _, List.any_eq_true.2 ⟨(m[i])[k], List.getElem_mem _, by rw [hbt]; rfl⟩⟩
          rw [if_pos this] at hE
          simp [e0, e4, e5, hx.get hi', hx.ld hi', aidx_nat (hasI i hi') hk', hbt, aun, hE]
      · have : k = (m[i]).length := by omega
        subst this
        simp [e4]
        refine hN2 (i + 1) _ (by omega) ⟨by omega, by simp [e0], by simp [wrap_nat1 (show i < _ by omega)], fun j h hj a ha => ?_⟩
        by_cases hji : j = i
        · subst hji
          obtain ⟨q, hq, rfl⟩ := List.mem_iff_getElem.1 ha
          exact hokk q hq hq
        · exact hok j h (by omega) a ha
    · have : i = m.length := by omega
      subst this
      have hn : (m.any fun r => r.any fun h => !btw 0 h 30) = false := by
        rw [List.any_eq_false]
        intro r hr' h
        obtain ⟨j, hj, rfl⟩ := List.mem_iff_getElem.1 hr'
        obtain ⟨a, ha, h⟩ := List.any_eq_true.1 h
        rw [hok j hj hj a ha] at h; cases h
      rw [if_neg (by rw [hn]; decide)] at hE
      simp [hE]
/-- the error of a work and seats -/
def chsE (m : List (List Int)) (seats : Int) : Int := if chkE m = 0 then (if btw 1 seats 6 = true then 0 else 4) else chkE m
theorem p53 {x : AV} {m : List (List Int)} {R : Nat → AV} (hx : IsM x m R) (seats : Int) : PCall Try.prog 53 [x, .int .i64 seats] (.int .i64 (chsE m seats)) := by
  obtain ⟨C, hC, k39, k64⟩ : ∃ C, CtxOk Try.prog C ∧ C 39 [x] = some (.int .i64 (chkE m)) ∧ C 64 = SBtw := ⟨_, D0ok.pt (p39 hx), by simp, by funext a; simp⟩
  refine PCall.of hC ok53 (by simp) rfl fun hs hb => ?_
  unfold chsE
  by_cases h : chkE m = 0
  · cases hb : btw 1 seats 6 <;> simp [A53, R53, k39, k64, h, hb, aun]
  · simp [A53, R53, k39, h]
theorem p50 {x : AV} {m : List (List Int)} {R : Nat → AV} (hx : IsM x m R) (seats : Int) : PCall Try.prog 50 [x, .int .i64 seats] (.int .i64 (chsE m seats)) := by
  obtain ⟨C, hC, k46, k61⟩ : ∃ C, CtxOk Try.prog C ∧ C 46 [x] = some (.int .i64 (chkE m)) ∧ C 61 = SIs := ⟨_, D0ok.pt (p46 hx), by simp, by funext a; simp⟩
  refine PCall.of hC ok50 (by simp) rfl fun hs hb => ?_
  unfold chsE
  by_cases h : chkE m = 0
  · cases hb : btw 1 seats 6 <;> simp [A50, R50, k46, k61, h, hb, aun]
  · simp [A50, R50, k46, h]
end Go.Proofs.Ytokgpcdbpkginaa
set_option linter.unusedVariables false
set_option linter.unusedSimpArgs false
namespace Go.Proofs.Ytokgpcdbpkginaa
open Go Fw

def arts (m : List (List Int)) : List Int := m.map List.sum
def cols (m : List (List Int)) : Nat := (m.getD 0 []).length
def colN (m : List (List Int)) (k : Nat) : Int := (m.map fun r => r.getD k 0).sum
def machs (m : List (List Int)) : List Int := (List.range (cols m)).map (colN m)
def tot (m : List (List Int)) : Int := (arts m).sum
theorem OkW.rows {m : List (List Int)} (h : OkW m) {x : AV} {R : Nat → AV} (hx : IsM x m R) {i : Nat} (hi : i < m.length) : asI (R i) = some m[i] :=
  rowI_ne (hx.row i hi) (by have := h.row m[i] (List.getElem_mem _); have := h.c1; omega)
theorem OkW.len {m : List (List Int)} (h : OkW m) {i : Nat} (hi : i < m.length) : (m[i]).length = cols m := h.row m[i] (List.getElem_mem _)
theorem OkW.art {m : List (List Int)} (h : OkW m) : ∀ n ∈ arts m, 0 ≤ n ∧ n ≤ 180 := by
  intro n hn
  obtain ⟨r, hr, rfl⟩ := List.mem_map.1 hn
  have := sum_bd (b := 30) (h.bd r hr)
  have h1 := h.row r hr
  have h2 := h.c6
  omega
theorem OkW.el {m : List (List Int)} (h : OkW m) {r : List Int} (hr : r ∈ m) (k : Nat) : 0 ≤ r.getD k 0 ∧ r.getD k 0 ≤ 30 := by
  rcases Nat.lt_or_ge k r.length with h' | h'
  · have := h.bd r hr r[k] (List.getElem_mem _)
    simpa [List.getD, h'] using this
  · simp [List.getD, List.getElem?_eq_none h']
theorem OkW.col {m : List (List Int)} (h : OkW m) (k : Nat) : 0 ≤ colN m k ∧ colN m k ≤ 180 := by
  have := sum_bd (b := 30) (l := m.map fun r => r.getD k 0) (fun n hn => by
    obtain ⟨r, hr, rfl⟩ := List.mem_map.1 hn
    exact h.el hr k)
  have h2 := h.r6
  rw [List.length_map] at this
  unfold colN
  omega
theorem OkW.mach {m : List (List Int)} (h : OkW m) : ∀ n ∈ machs m, 0 ≤ n ∧ n ≤ 180 := by
  intro n hn
  obtain ⟨k, _, rfl⟩ := List.mem_map.1 hn
  exact h.col k
theorem arts_len (m : List (List Int)) : (arts m).length = m.length := by simp [arts]
theorem machs_len (m : List (List Int)) : (machs m).length = cols m := by simp [machs]
theorem OkW.tot {m : List (List Int)} (h : OkW m) : 0 ≤ tot m ∧ tot m ≤ 1080 := by
  have := sum_bd (l := arts m) (b := 180) h.art
  have h2 := h.r6
  rw [arts_len] at this
  unfold Ytokgpcdbpkginaa.tot
  omega
theorem sum_add : ∀ (l m : List Int), l.length = m.length → (List.zipWith (· + ·) l m).sum = l.sum + m.sum
  | [], [], _ => rfl
  | [], b :: m, h => by simp at h
  | a :: l, [], h => by simp at h
  | a :: l, b :: m, h => by
    have := sum_add l m (by simpa using h)
    simp only [List.zipWith_cons_cons, List.sum_cons, this]; omega
theorem sum_range_getD : ∀ (n : Nat) (l : List Int), l.length = n → ((List.range n).map fun k => l.getD k 0).sum = l.sum := by
  intro n l h
  congr 1
  apply List.ext_getElem
  · simp [h]
  · intro i h1 h2
    simp [List.getD, h2]
theorem sum_map_add {α : Type} (f g : α → Int) : ∀ l : List α, (l.map fun x => f x + g x).sum = (l.map f).sum + (l.map g).sum
  | [] => rfl
  | a :: l => by
    have := sum_map_add f g l
    simp only [List.map_cons, List.sum_cons, this]; omega
theorem sum_swap : ∀ (m : List (List Int)) (n : Nat), (∀ r ∈ m, r.length = n) → ((List.range n).map (colN m)).sum = (arts m).sum
  | [], n, _ => by
    have : (List.range n).map (colN []) = (List.range n).map fun _ => (0 : Int) := List.map_congr_left fun _ _ => rfl
    rw [this]
    have z : ∀ l : List Nat, (l.map fun _ => (0 : Int)).sum = 0 := by
      intro l
      induction l with
      | nil => rfl
      | cons a l ih => simp [ih]
    simp [arts, z]
  | r :: m, n, h => by
    have ih := sum_swap m n (fun r hr => h r (by simp [hr]))
    have : (List.range n).map (colN (r :: m)) = (List.range n).map fun k => r.getD k 0 + colN m k := List.map_congr_left fun k _ => by simp [colN]
    rw [this, sum_map_add, ih, sum_range_getD n r (h r (by simp))]
    simp [arts]
theorem OkW.tot2 {m : List (List Int)} (h : OkW m) : (machs m).sum = Ytokgpcdbpkginaa.tot m := sum_swap m (cols m) (fun r hr => h.row r hr)
/-- column sums of the first rows -/
def colT (m : List (List Int)) (k i : Nat) : Int := ((m.take i).map fun r => r.getD k 0).sum
theorem colT_s {m : List (List Int)} {k i : Nat} (hi : i < m.length) : colT m k (i + 1) = colT m k i + (m[i]).getD k 0 := by
  unfold colT
  rw [take_snoc hi, List.map_append, List.sum_append]; simp
theorem colT_bd {m : List (List Int)} (h : OkW m) (k i : Nat) : 0 ≤ colT m k i ∧ colT m k i ≤ 180 := by
  have := sum_bd (b := 30) (l := (m.take i).map fun r => r.getD k 0) (fun n hn => by
    obtain ⟨r, hr, rfl⟩ := List.mem_map.1 hn
    exact h.el (List.mem_of_mem_take hr) k)
  have h2 := h.r6
  rw [List.length_map, List.length_take] at this
  unfold colT
  have h3 : (min i m.length : Nat) ≤ 6 := by omega
  omega
theorem p79 {x : AV} {l : List Int} (hx : asI x = some l) {k q : Nat} (hk : k < l.length) {hs : HS} (hq : hs.heap q = some [.int .i64 (k : Int)]) : FCall Try.prog 79 [x, .ref q 0] hs fun e hs' => e = .ret (.int .i64 l[k]) ∧ hs' = hs := by
  refine FCall.ofAt D0ok ok79 (by simp) ?_
  simp [A79, R79, load_one hq, aidx_nat hx hk]
theorem p78 {x : AV} {m : List (List Int)} {R : Nat → AV} (hx : IsM x m R) (hw : OkW m) {k q : Nat} (hk : k < cols m) {hs : HS} (hq : hs.heap q = some [.int .i64 (k : Int)]) :
    FCall Try.prog 78 [x, .fn (.func 79) [] [.ref q 0]] hs fun e hs' => e = .ret (.int .i64 (colN m k)) ∧ hs' = hs := by
  have h6 := hw.r6
  refine FCall.ofAt D0ok ok78 (by simp) ?_
  simp [A78, R78, hx.len]
  refine At.loop (fun (i : Nat) s => i ≤ m.length ∧ s.hs = hs ∧ s.env 1 = .fn (.func 79) [] [.ref q 0] ∧ s.env 5 = .int .i64 (colT m k i) ∧ s.env 8 = x ∧ s.env 9 = .int .i64 (m.length : Int) ∧ s.env 10 = .int .i64 (i : Int)) (fun i => m.length - i) 0 ?_ ?_
  · exact ⟨by omega, by simp, by simp, by simp [colT], by simp, by simp [hx.len], by simp⟩
  rintro N i s hN ⟨hi, eh, e1, e5, e8, e9, e10⟩
  simp [e9, e10]
  refine At.dec (fun hlt => ?_) (fun hlt => ?_)
  · have hi' : i < m.length := by omega
    have hki : k < (m[i]).length := by rw [hw.len hi']; exact hk
    have b1 := colT_bd hw k (i + 1)
    rw [colT_s hi'] at b1
    have hg : (m[i]).getD k 0 = (m[i])[k] := by simp [List.getD, hki]
    rw [hg] at b1
    have b2 := colT_bd hw k i
    have w : IntKind.i64.wrap (colT m k i + (m[i])[k]) = colT m k i + (m[i])[k] := wrap64 (by omega) (by omega)
    simp [e1, e5, e8, e10, hx.get hi', hx.ld hi']
    refine At.hc (by simpa [eh] using p79 (hw.rows hx hi') hki hq) ?_ (fun v hs' h => by cases h.1)
    rintro v hs' ⟨hv, rfl⟩
    injection hv with hv; subst hv
    simp [e5, e10, w]
    refine hN (i + 1) _ (by omega) ⟨by omega, by simp, by simp [e1], by simp only [colT_s hi', hg]; simp, by simp [e8], by simp [e9], by simp [wrap_nat1 (show i < _ by omega)]⟩
  · have : i = m.length := by omega
    subst this
    have : colT m k m.length = colN m k := by simp [colT, colN]
    simp [e5, eh, this]
theorem arts_take {m : List (List Int)} {i : Nat} (hi : i < m.length) : (arts m).take (i + 1) = (arts m).take i ++ [(m[i]).sum] := by
  have : i < (arts m).length := by rw [arts_len]; exact hi
  rw [take_snoc this]
  simp [arts]
theorem machs_take {m : List (List Int)} {k : Nat} (hk : k < cols m) : (machs m).take (k + 1) = (machs m).take k ++ [colN m k] := by
  have : k < (machs m).length := by rw [machs_len]; exact hk
  rw [take_snoc this]
  simp [machs]
/-- a block from n0 on that holds the list -/
def BlkI (n0 : Nat) (hs : HS) (x : AV) (l : List Int) : Prop := ∃ q k, x = .osl false 1 q l.length k ∧ n0 ≤ q ∧ q < hs.nh ∧ hs.heap q = some (ints l)
theorem BlkI.of {n0 : Nat} {hs : HS} {x : AV} {l : List Int} (h : OslI n0 hs x l) (hl : l ≠ []) : BlkI n0 hs x l := by
  rcases h with ⟨_, h⟩ | ⟨q, k, h1, h2, h3, h4, _⟩
  · exact absurd h hl
  · exact ⟨q, k, h1, h2, h3, h4⟩
theorem BlkI.up {n0 : Nat} {hs hs' : HS} {x : AV} {l : List Int} (h : BlkI n0 hs x l) (hn : hs.nh ≤ hs'.nh) (hh : ∀ j, j < hs.nh → hs'.heap j = hs.heap j) : BlkI n0 hs' x l := by
  obtain ⟨q, k, h1, h2, h3, h4⟩ := h
  exact ⟨q, k, h1, h2, by omega, by rw [hh q h3]; exact h4⟩
theorem BlkI.rd {n0 : Nat} {hs : HS} {x : AV} {l : List Int} (h : BlkI n0 hs x l) (hl : l.length < 4294967296) : RdI hs.nh hs.heap x l := by
  obtain ⟨q, k, h1, h2, h3, h4⟩ := h
  exact ⟨hl, .inr (.inl ⟨q, k, h1, h3, h4⟩)⟩
structure SumR (hs : HS) (A M : AV) (m : List (List Int)) (hs' : HS) : Prop where
  a : BlkI hs.nh hs' A (arts m)
  m : Own1 hs' M (machs m)
  ext : HsExt hs hs'
theorem p62 {x : AV} {m : List (List Int)} {R : Nat → AV} (hx : IsM x m R) (hw : OkW m) (hs : HS) : FCall Try.prog 62 [x] hs fun e hs' => ∃ A M, e = .ret (.tup [A, M]) ∧ SumR hs A M m hs' := by
  have h6 := hw.r6
  have hc6 := hw.c6
  have hm : 0 < m.length := hw.r1
  have hcd : (m.getD 0 []).length = cols m := rfl
  have r0 := hx.rlen hm
  rw [hw.len hm] at r0
  have hnil : CtxOk Try.prog PCtx.nil := fun _ _ _ h => by cases h
  obtain ⟨C, hC, k65, n65⟩ := ctx_lg hnil (f := 65) (zs := [.fn (.func 66) [] []]) (fun (l : List Int) => (∀ n ∈ l, 0 ≤ n) ∧ l.sum ≤ 1000000000) (r := fun l => .int .i64 l.sum) (fun {y l} hy hg => p65 hy hg.1 hg.2)
  refine FCall.ofAt hC ok62 (by simp) ?_
  simp [A62, R62, hx.len]
  refine At.loop (fun (i : Nat) s => i ≤ m.length ∧ s.env 0 = x ∧ s.env 3 = .nilsl ∧ s.env 7 = x ∧ s.env 8 = .int .i64 (m.length : Int) ∧ s.env 9 = .int .i64 (i : Int) ∧ OslI hs.nh s.hs (s.env 2) ((arts m).take i) ∧ HsExt hs s.hs) (fun i => m.length - i) 0 ?_ ?_
  · exact ⟨by omega, by simp, by simp, by simp, by simp [hx.len], by simp, by simp; exact .inl ⟨rfl, rfl⟩, by simp; exact .refl _⟩
  rintro N i s hN ⟨hi, e0, e3, e7, e8, e9, hO, hE⟩
  simp [e8, e9]
  refine At.dec (fun hlt => ?_) (fun hlt => ?_)
  · have hi' : i < m.length := by omega
    have hrow := hw.rows hx hi'
    have hbd := hw.bd m[i] (List.getElem_mem _)
    have hs1 := hw.art (m[i]).sum (List.mem_map.2 ⟨m[i], List.getElem_mem _, rfl⟩)
    have hk := k65 _ _ hrow ⟨fun n hn => (hbd n hn).1, by omega⟩
    have hal : alcall C 65 s.hs [R i, .fn (.func 66) [] []] = some (.int .i64 (m[i]).sum) := alcall_of (by simp [frz_asI hrow, hk]) rfl
    obtain ⟨y, hs2, a1, a2, a3, a4⟩ := hO.add hE.nh (by rw [List.length_take]; omega) (m[i]).sum
    rw [← arts_take hi'] at a2
    simp [e7, e9, hx.get hi', hx.ld hi', hal, astoAll, si, a1]
    refine hN (i + 1) _ (by omega) ⟨by omega, by simp [e0], by simp [e3], by simp [e7], by simp [e8], by simp [wrap_nat1 (show i < _ by omega)], by simpa using a2, ?_⟩
    simp
    exact ⟨by have := hE.nh; omega, fun j hj => by rw [a4 j hj]; exact hE.heap j hj⟩
  · have : i = m.length := by omega
    subst this
    have hat : (arts m).take m.length = arts m := List.take_of_length_le (by rw [arts_len]; exact Nat.le_refl _)
    rw [hat] at hO
    have hB := BlkI.of hO (by intro h; have := congrArg List.length h; rw [arts_len, List.length_nil] at this; omega)
    simp [e0, hx.get0 hm, hx.ld hm, r0]
    refine At.loop (fun (k : Nat) s => k ≤ cols m ∧ s.env 0 = x ∧ s.env 22 = .int .i64 (cols m : Int) ∧ s.env 23 = .int .i64 (k : Int) ∧ BlkI hs.nh s.hs (s.env 2) (arts m) ∧ Own1 s.hs (s.env 3) ((machs m).take k) ∧ HsExt hs s.hs) (fun k => cols m - k) 0 ?_ ?_
    · exact ⟨by omega, by simp [e0], by simp, by simp, by simpa using hB, by simp [e3]; exact .inl ⟨rfl, rfl⟩, by simpa using hE⟩
    rintro N2 k s hN2 ⟨hk, e0, e22, e23, hB, hM, hE⟩
    simp [e22, e23]
    refine At.dec (fun hlt => ?_) (fun hlt => ?_)
    · have hk' : k < cols m := by omega
      have hcb : cols m ≤ 6 := hw.c6
      simp [store_one (hp := fun i => if i = s.hs.nh then some [.int .i64 0] else s.hs.heap i) (i := s.hs.nh) (u := .int .i64 0) (v := .int .i64 (k : Int)) (by simp) rfl rfl, e0, e23]
      refine At.hc (p78 hx hw hk' (q := s.hs.nh) (by simp)) ?_ (fun v hs' h => by cases h.1)
      rintro v hs' ⟨hv, rfl⟩
      injection hv with hv; subst hv
      have hq1 : RdI 0 (fun j => if j = s.hs.nh then some [AV.int .i64 (k : Int)] else if j = s.hs.nh then some [AV.int .i64 0] else s.hs.heap j) (.sl 1 [.int .i64 (colN m k)] .exact) [colN m k] := RdI.of rfl
      obtain ⟨y2, hs3, b1, b2, b3, b4⟩ := own_append (hs := ⟨fun j => if j = s.hs.nh then some [AV.int .i64 (k : Int)] else if j = s.hs.nh then some [AV.int .i64 0] else s.hs.heap j, s.hs.nh + 1, s.hs.nt, s.hs.tok, s.hs.mp⟩) (x := s.env 3) (l := (machs m).take k) (by
        rcases hM with h | ⟨q, h1, h2, h3⟩
        · exact .inl h
        · exact .inr ⟨q, h1, h2, h3⟩) hq1 (by rw [List.length_take]; simp; omega)
      rw [← machs_take hk'] at b2
      simp [astoAll, si, b1, e23]
      refine hN2 (k + 1) _ (by omega) ⟨by omega, by simp [e0], by simp [e22], by simp [wrap_nat1 (show k < _ by omega)], ?_, by simpa using b2, ?_⟩
      · simp
        refine hB.up (by rw [b3.nh]; simp) (fun j hj => ?_)
        rw [b3.heap]
        simp only
        rw [if_neg (by omega), if_neg (by omega)]
      · simp
        refine ⟨by rw [b3.nh]; have := hE.nh; simp; omega, fun j hj => ?_⟩
        rw [b3.heap]
        have := hE.nh
        simp only
        rw [if_neg (by omega), if_neg (by omega)]
        exact hE.heap j hj
    · have : k = cols m := by omega
      subst this
      have hmt : (machs m).take (cols m) = machs m := List.take_of_length_le (by rw [machs_len]; exact Nat.le_refl _)
      rw [hmt] at hM
      simp
      exact At.of ⟨_, _, ⟨rfl, rfl⟩, ⟨hB, hM, hE⟩⟩
end Go.Proofs.Ytokgpcdbpkginaa
set_option linter.unusedVariables false
set_option linter.unusedSimpArgs false
namespace Go.Proofs.Ytokgpcdbpkginaa
open Go Fw

def aV (m : List (List Int)) (i j r : Nat) : Int := if r < i then (m.getD r []).sum else if r = i then ((m.getD i []).take j).sum else 0
def mV (m : List (List Int)) (i j k : Nat) : Int := colT m k i + if k < j then (m.getD i []).getD k 0 else 0
def tV (m : List (List Int)) (i j : Nat) : Int := ((arts m).take i).sum + ((m.getD i []).take j).sum
def aL (m : List (List Int)) (i j : Nat) : List Int := (List.range m.length).map (aV m i j)
def mL (m : List (List Int)) (i j : Nat) : List Int := (List.range (cols m)).map (mV m i j)
theorem aL_len {m : List (List Int)} {i j : Nat} : (aL m i j).length = m.length := by simp [aL]
theorem mL_len {m : List (List Int)} {i j : Nat} : (mL m i j).length = cols m := by simp [mL]
theorem getD_row {m : List (List Int)} {i : Nat} (h : i < m.length) : m.getD i [] = m[i] := by simp [List.getD, h]
theorem aL_get {m : List (List Int)} {i j r : Nat} (h : r < (aL m i j).length) : (aL m i j)[r] = aV m i j r := by simp [aL]
theorem mL_get {m : List (List Int)} {i j r : Nat} (h : r < (mL m i j).length) : (mL m i j)[r] = mV m i j r := by simp [mL]
theorem take_sum_s {l : List Int} {j : Nat} (h : j < l.length) : (l.take (j + 1)).sum = (l.take j).sum + l[j] := by
  rw [take_snoc h, List.sum_append]; simp
theorem aL_0 (m : List (List Int)) : aL m 0 0 = List.replicate m.length 0 := by
  rw [aL, List.eq_replicate_iff]
  refine ⟨by simp, fun b hb => ?_⟩
  simp only [List.mem_map, List.mem_range] at hb
  obtain ⟨r, _, rfl⟩ := hb
  simp [aV]
theorem mL_0 (m : List (List Int)) : mL m 0 0 = List.replicate (cols m) 0 := by
  rw [mL, List.eq_replicate_iff]
  refine ⟨by simp, fun b hb => ?_⟩
  simp only [List.mem_map, List.mem_range] at hb
  obtain ⟨r, _, rfl⟩ := hb
  simp [mV, colT]
theorem aL_s {m : List (List Int)} {i j : Nat} (hi : i < m.length) (hj : j < (m[i]).length) : aL m i (j + 1) = (aL m i j).set i (aV m i j i + (m[i])[j]) := by
  apply List.ext_getElem
  · simp [aL]
  · intro r h1 h2
    rw [aL_get, List.getElem_set]
    split
    · rename_i h; subst h
      simp only [aV, Nat.lt_irrefl, if_false, if_true, getD_row hi, take_sum_s hj]
    · rw [aL_get]
      have : r ≠ i := by omega
      simp only [aV, this, if_false]
theorem mL_s {m : List (List Int)} {i j : Nat} (hi : i < m.length) (hj : j < (m[i]).length) : mL m i (j + 1) = (mL m i j).set j (mV m i j j + (m[i])[j]) := by
  apply List.ext_getElem
  · simp [mL]
  · intro r h1 h2
    rw [mL_get, List.getElem_set]
    split
    · rename_i h; subst h
      have : (m[i]).getD j 0 = (m[i])[j] := by simp [List.getD, hj]
      simp only [mV, Nat.lt_irrefl, if_false, Nat.lt_succ_self, if_true, getD_row hi, this]; omega
    · rw [mL_get]
      have : (r < j + 1) = (r < j) := by apply propext; omega
      simp only [mV, this]
theorem aL_n {m : List (List Int)} {i : Nat} (hi : i < m.length) : aL m i (m[i]).length = aL m (i + 1) 0 := by
  apply List.ext_getElem
  · simp [aL]
  · intro r h1 h2
    rw [aL_get, aL_get]
    simp only [aV]
    by_cases h : r < i
    · rw [if_pos h, if_pos (by omega)]
    · by_cases h' : r = i
      · subst h'
        rw [if_neg h, if_pos rfl, if_pos (by omega), getD_row hi, List.take_length]
      · rw [if_neg h, if_neg h', if_neg (by omega)]
        split <;> simp
theorem mL_n {m : List (List Int)} {i : Nat} (hi : i < m.length) (hc : (m[i]).length = cols m) : mL m i (m[i]).length = mL m (i + 1) 0 := by
  apply List.ext_getElem
  · simp [mL]
  · intro r h1 h2
    rw [mL_get, mL_get]
    have : r < cols m := by rw [mL_len] at h1; exact h1
    simp only [mV, hc, this, if_true, Nat.not_lt_zero, if_false, colT_s hi, getD_row hi]; omega
theorem tV_s {m : List (List Int)} {i j : Nat} (hi : i < m.length) (hj : j < (m[i]).length) : tV m i (j + 1) = tV m i j + (m[i])[j] := by
  simp only [tV, getD_row hi, take_sum_s hj]; omega
theorem tV_n {m : List (List Int)} {i : Nat} (hi : i < m.length) : tV m i (m[i]).length = tV m (i + 1) 0 := by
  simp only [tV, getD_row hi, List.take_length, arts_take hi, List.sum_append, List.take_zero]; simp
theorem aL_e (m : List (List Int)) : aL m m.length 0 = arts m := by
  apply List.ext_getElem
  · simp [aL, arts]
  · intro r h1 h2
    have : r < m.length := by rw [aL_len] at h1; exact h1
    rw [aL_get]; simp [aV, this, arts]
theorem mL_e (m : List (List Int)) : mL m m.length 0 = machs m := by
  apply List.ext_getElem
  · simp [mL, machs]
  · intro r h1 h2
    rw [mL_get]; simp [mV, colT, machs, colN]
theorem tV_e (m : List (List Int)) : tV m m.length 0 = tot m := by
  have : (arts m).take m.length = arts m := List.take_of_length_le (by rw [arts_len]; exact Nat.le_refl _)
  simp [tV, this, tot]
theorem take_bd {b : Nat} {l : List Int} (h : ∀ n ∈ l, 0 ≤ n ∧ n ≤ (b : Int)) (j : Nat) : 0 ≤ (l.take j).sum ∧ (l.take j).sum ≤ b * l.length := by
  have h1 := sum_bd (b := b) (l := l.take j) (fun n hn => h n (List.mem_of_mem_take hn))
  have h2 : (l.take j).length ≤ l.length := by rw [List.length_take]; omega
  have h3 : (b : Int) * ((l.take j).length : Int) ≤ b * l.length := Int.mul_le_mul_of_nonneg_left (by omega) (by omega)
  exact ⟨h1.1, Int.le_trans (by rw [Int.mul_comm] at h1; exact h1.2) h3⟩
theorem OkW.aV {m : List (List Int)} (h : OkW m) {i : Nat} (hi : i < m.length) (j r : Nat) : 0 ≤ Ytokgpcdbpkginaa.aV m i j r ∧ Ytokgpcdbpkginaa.aV m i j r ≤ 180 := by
  unfold Ytokgpcdbpkginaa.aV
  split
  · rename_i hr
    rw [getD_row (by omega)]
    exact h.art _ (List.mem_map.2 ⟨m[r], List.getElem_mem _, rfl⟩)
  · split
    · rw [getD_row hi]
      have := take_bd (b := 30) (h.bd m[i] (List.getElem_mem _)) j
      have h1 := h.row m[i] (List.getElem_mem _)
      have h2 := h.c6
      omega
    · omega
theorem OkW.mV {m : List (List Int)} (h : OkW m) {i : Nat} (hi : i < m.length) (j k : Nat) : 0 ≤ Ytokgpcdbpkginaa.mV m i j k ∧ Ytokgpcdbpkginaa.mV m i j k ≤ 180 := by
  unfold Ytokgpcdbpkginaa.mV
  have h1 := colT_bd h k i
  split
  · rw [getD_row hi, ← colT_s hi]; exact colT_bd h k (i + 1)
  · omega
theorem OkW.tV {m : List (List Int)} (h : OkW m) {i : Nat} (hi : i < m.length) (j : Nat) : 0 ≤ Ytokgpcdbpkginaa.tV m i j ∧ Ytokgpcdbpkginaa.tV m i j ≤ 1260 := by
  unfold Ytokgpcdbpkginaa.tV
  have h1 := take_bd (b := 180) h.art i
  have h2 := take_bd (b := 30) (h.bd m[i] (List.getElem_mem _)) j
  have h3 := h.row m[i] (List.getElem_mem _)
  have h4 := h.c6
  have h5 := h.r6
  rw [arts_len] at h1
  rw [getD_row hi]
  omega
theorem ints_set (l : List Int) (i : Nat) (v : Int) : (ints l).set i (.int .i64 v) = ints (l.set i v) := by simp [ints, List.map_set]
theorem ints_len (l : List Int) : (ints l).length = l.length := by simp [ints]
theorem ints_rep (n : Nat) : List.replicate n (AV.int .i64 0) = ints (List.replicate n 0) := by simp [ints]
theorem ld_ints {hp : Nat → Option (List AV)} {i o : Nat} {l : List Int} (h : hp i = some (ints l)) (ho : o < l.length) : aload hp false 1 (.ref i o) = some (.int .i64 l[o]) := by
  rw [load_cell h (by rw [ints_len]; exact ho)]; simp [ints]
theorem st_ints {hp : Nat → Option (List AV)} {i o : Nat} {l : List Int} {v : Int} (h : hp i = some (ints l)) (ho : o < l.length) : astore hp 1 (.ref i o) (.int .i64 v) = some (fun k => if k = i then some (ints (l.set o v)) else hp k) := by
  rw [store_cell h (by rw [ints_len]; exact ho) rfl, ints_set]
def F51 (x : AV) (m : List (List Int)) (s : AS) : Prop := s.env 0 = x ∧ ∃ ia ib, s.env 5 = .msl false 1 ia 0 m.length true ∧ s.env 6 = .msl false 1 ib 0 (cols m) true ∧ ia ≠ ib ∧ s.hs.heap ia = some (ints (aL m 0 0)) ∧ s.hs.heap ib = some (ints (mL m 0 0))
def tup3 (m : List (List Int)) : AV := .tup [.sl 1 (ints (arts m)) .exact, .sl 1 (ints (machs m)) .exact, .int .i64 (tot m)]
theorem p51 {x : AV} {m : List (List Int)} {R : Nat → AV} (hx : IsM x m R) (hw : OkW m) : PCall Try.prog 51 [x] (tup3 m) := by
  have h6 := hw.r6
  have hc6 : cols m ≤ 6 := hw.c6
  have hm : 0 < m.length := hw.r1
  have r0 := hx.rlen hm
  rw [hw.len hm] at r0
  refine PCall.ofZ CtxOk.nil ok51 (by simp) (by simp [tup3, AV.plain, plainL, plain_ints]) fun hs hb => ?_
  simp [A51, R51]
  refine At.any_to (F51 x m) ?_ ?_
  · have mk1 : ∀ hs : HS, amake false 1 [.int .i64 0] hs (.int .i64 (m.length : Int)) (.int .i64 (m.length : Int)) = _ := fun hs => amake_eq (k1 := .i64) (k2 := .i64) (z := .int .i64 0) (hs := hs) (n := m.length) (by omega)
    have mk2 : ∀ hs : HS, amake false 1 [.int .i64 0] hs (.int .i64 (cols m : Int)) (.int .i64 (cols m : Int)) = _ := fun hs => amake_eq (k1 := .i64) (k2 := .i64) (z := .int .i64 0) (hs := hs) (n := cols m) (by omega)
    refine At.any_q 0 endN_p rfl rfl rfl ?_
    simp
    refine At.any_q 1 endN_p rfl rfl rfl ?_
    simp [hx.len]
    refine At.any_q 3 endN_p rfl rfl rfl ?_
    simp
    refine At.any_q 4 endN_p rfl rfl rfl ?_
    simp [hx.get0 hm]
    refine At.any_l 5 endN_p rfl rfl ⟨R 0, by simp⟩ ?_
    simp [hx.ld hm]
    refine At.any_q 6 endN_p rfl rfl rfl ?_
    simp [r0]
    refine At.any_2 2 7 rfl rfl rfl ?_ ?_
    · simp [mk1]
      refine At.any_q 8 endN_p rfl rfl rfl ?_
      simp
      refine At.any_o 7 rfl rfl ?_
      simp [mk2]
      refine At.any_o 9 rfl rfl ?_
      simp
      refine At.any_e rfl ?_
      simp
      refine At.of ⟨by simp, _, _, by simp; rfl, by simp; rfl, ?_, ?_, ?_⟩
      · simp
      · simp [HS.blk]; rw [ints_rep, aL_0]
      · simp [HS.blk]; rw [ints_rep, mL_0]
    · simp [mk2]
      refine At.any_o 2 rfl rfl ?_
      simp [mk1]
      refine At.any_o 8 rfl rfl ?_
      simp
      refine At.any_o 9 rfl rfl ?_
      simp
      refine At.any_e rfl ?_
      simp
      refine At.of ⟨by simp, _, _, by simp; rfl, by simp; rfl, ?_, ?_, ?_⟩
      · simp
      · simp [HS.blk]; rw [ints_rep, aL_0]
      · simp [HS.blk]; rw [ints_rep, mL_0]
  rintro s ⟨e0, ia, ib, e5, e6, hne, ha, hb⟩
  simp
  refine At.loop (fun (i : Nat) s => i ≤ m.length ∧ s.env 0 = x ∧ s.env 5 = .msl false 1 ia 0 m.length true ∧ s.env 6 = .msl false 1 ib 0 (cols m) true ∧ s.env 7 = .int .i64 (tV m i 0) ∧ s.env 8 = .int .i64 (i : Int) ∧ s.hs.heap ia = some (ints (aL m i 0)) ∧ s.hs.heap ib = some (ints (mL m i 0))) (fun i => m.length - i) 0 ?_ ?_
  · exact ⟨by omega, by simp [e0], by simp [e5], by simp [e6], by simp [tV], by simp, by simpa using ha, by simpa using hb⟩
  rintro N i s hN ⟨hi, e0, e5, e6, e7, e8, ha, hb⟩
  simp [e0, e8, hx.len]
  refine At.dec (fun hlt => ?_) (fun hlt => ?_)
  · have hi' : i < m.length := by omega
    have hl := hw.len hi'
    have hrow := hw.rows hx hi'
    simp
    refine At.loop (fun (j : Nat) s => j ≤ (m[i]).length ∧ s.env 0 = x ∧ s.env 5 = .msl false 1 ia 0 m.length true ∧ s.env 6 = .msl false 1 ib 0 (cols m) true ∧ s.env 7 = .int .i64 (tV m i j) ∧ s.env 8 = .int .i64 (i : Int) ∧ s.env 9 = .int .i64 (j : Int) ∧ s.hs.heap ia = some (ints (aL m i j)) ∧ s.hs.heap ib = some (ints (mL m i j))) (fun j => (m[i]).length - j) 0 ?_ ?_
    · exact ⟨by omega, by simp [e0], by simp [e5], by simp [e6], by simp [e7], by simp [e8], by simp, by simpa using ha, by simpa using hb⟩
    rintro N2 j s hN2 ⟨hj, e0, e5, e6, e7, e8, e9, ha, hb⟩
    simp [e0, e8, e9, hx.get hi', hx.ld hi', hx.rlen hi']
    refine At.dec (fun hlt2 => ?_) (fun hlt2 => ?_)
    · have hj' : j < (m[i]).length := by omega
      have h1 := hw.aV hi' j i
      have h2 := hw.mV hi' j j
      have h3 := hw.tV hi' j
      have h4 := hw.bd m[i] (List.getElem_mem _) (m[i])[j] (List.getElem_mem _)
      have w1 : IntKind.i64.wrap (aV m i j i + (m[i])[j]) = aV m i j i + (m[i])[j] := wrap64 (by omega) (by omega)
      have w2 : IntKind.i64.wrap (mV m i j j + (m[i])[j]) = mV m i j j + (m[i])[j] := wrap64 (by omega) (by omega)
      have w3 : IntKind.i64.wrap (tV m i j + (m[i])[j]) = tV m i j + (m[i])[j] := wrap64 (by omega) (by omega)
      have g1 : i < (aL m i j).length := by rw [aL_len]; exact hi'
      have g2 : j < (mL m i j).length := by rw [mL_len]; omega
      have g3 : j < cols m := by omega
      simp [e0, e5, e6, e7, e8, e9, hi', g3, hx.get hi', hx.ld hi', aidx_nat hrow hj', ld_ints ha g1, aL_get, w1, st_ints ha g1, ld_ints (hp := fun k => if k = ia then _ else s.hs.heap k) (i := ib) (by simp [Ne.symm hne, hb]) g2, mL_get, w2, st_ints (hp := fun k => if k = ia then _ else s.hs.heap k) (i := ib) (by simp [Ne.symm hne, hb]) g2, w3]
      refine hN2 (j + 1) _ (by omega) ⟨by omega, by simp [e0], by simp [e5], by simp [e6], by simp [tV_s hi' hj'], by simp [e8], by simp [wrap_nat1 (show j < _ by omega)], by simp [hne, aL_s hi' hj'], by simp [mL_s hi' hj']⟩
    · have : j = (m[i]).length := by omega
      subst this
      rw [aL_n hi'] at ha
      rw [mL_n hi' hl] at hb
      rw [tV_n hi'] at e7
      simp [e8]
      refine hN (i + 1) _ (by omega) ⟨by omega, by simp [e0], by simp [e5], by simp [e6], by simp [e7], by simp [wrap_nat1 (show i < _ by omega)], by simpa using ha, by simpa using hb⟩
  · have : i = m.length := by omega
    subst this
    rw [aL_e] at ha
    rw [mL_e] at hb
    rw [tV_e] at e7
    simp [e5, e6, e7]
    rw [frzL_msl ha (by rw [← arts_len m]; exact ints_cont _), frzL_msl hb (by rw [← machs_len m]; exact ints_cont _), map_frz_ints, map_frz_ints]
    simp [tup3]
end Go.Proofs.Ytokgpcdbpkginaa
set_option linter.unusedVariables false
set_option linter.unusedSimpArgs false
namespace Go.Proofs.Ytokgpcdbpkginaa
open Go Fw

def sumsR (m : List (List Int)) (c : Cap) : AV := if chkE m = 0 then .tup [.sl 1 (ints (arts m)) c, .sl 1 (ints (machs m)) c, .int .i64 0] else .tup [.nilsl, .nilsl, .int .i64 (chkE m)]
theorem sumsR_plain (m : List (List Int)) (c : Cap) (hc : (match c with | .own _ => false | _ => true) = true) : (sumsR m c).plain = true := by
  unfold sumsR
  split
  · cases c <;> simp [AV.plain, plainL, plain_ints] at hc ⊢
  · rfl
theorem Own1.frzS {hs : HS} {x : AV} {l : List Int} (h : Own1 hs x l) (hl : l ≠ []) (hp : Nat → Option (List AV)) (n : Nat) : (frz hp n x).share = .sl 1 (ints l) .shared := by
  rcases h with ⟨_, h⟩ | ⟨k, rfl, h⟩
  · exact absurd h hl
  · have : frz hp n (.sl 1 (ints l) (.own k)) = .sl 1 (ints l) (.own k) := frzL_noM (noM_ints n l _)
    rw [this]; simp
theorem BlkI.frzS {n0 : Nat} {hs : HS} {x : AV} {l : List Int} (h : BlkI n0 hs x l) (n : Nat) : (frz hs.heap (n + 1) x).share = .sl 1 (ints l) .shared := by
  obtain ⟨q, k, rfl, h1, h2, h3⟩ := h
  rw [frz_osl, frzL_osl h3 (ints_cont l), map_frz_ints]; simp
theorem OkW.artsN {m : List (List Int)} (h : OkW m) : arts m ≠ [] := by
  intro e; have := congrArg List.length e; rw [arts_len, List.length_nil] at this; have := h.r1; omega
theorem OkW.machsN {m : List (List Int)} (h : OkW m) : machs m ≠ [] := by
  intro e; have := congrArg List.length e; rw [machs_len, List.length_nil] at this; have : 1 ≤ cols m := h.c1; omega
theorem p40 {x : AV} {m : List (List Int)} {R : Nat → AV} (hx : IsM x m R) : PCall Try.prog 40 [x] (sumsR m .shared) := by
  obtain ⟨C, hC, k39⟩ : ∃ C, CtxOk Try.prog C ∧ C 39 [x] = some (.int .i64 (chkE m)) := ⟨_, D0ok.pt (p39 hx), by simp⟩
  refine PCall.ofZ hC ok40 (by simp) (sumsR_plain m _ rfl) fun hs hb => ?_
  simp [A40, R40, k39]
  refine At.decn (fun h => ?_) (fun h => ?_)
  · have hw := chkE_zero.1 h
    simp
    refine At.hc (p62 hx hw hs) ?_ (fun v hs' h => by obtain ⟨A, M, h, _⟩ := h; cases h)
    rintro v hs' ⟨A, M, hv, hr⟩
    injection hv with hv; subst hv
    simp [sumsR, h]
    have e1 := hr.a.frzS 1
    have e2 := hr.m.frzS hw.machsN hs'.heap 2
    have f1 : frzC (frzL hs'.heap 2) A = frz hs'.heap 2 A := by
      obtain ⟨q, k, rfl, _⟩ := hr.a; rfl
    have f2 : frzC (frzL hs'.heap 2) M = frz hs'.heap 2 M := by
      rcases hr.m with ⟨rfl, _⟩ | ⟨k, rfl, _⟩ <;> rfl
    rw [f1, f2, e1, e2]; exact ⟨rfl, rfl⟩
  · simp [sumsR, h]
/-- the reference's sums, for works that pass -/
theorem ctx51 {C : PCtx} (hC : CtxOk Try.prog C) : ∃ C', CtxOk Try.prog C' ∧ (∀ x m, asM x = some m → OkW m → C' 51 [x] = some (tup3 m)) ∧ ∀ g, ¬ g = 51 → C' g = C g :=
  ctx_mg hC (f := 51) (zs := []) (G := fun (m : List (List Int)) => OkW m) (r := tup3) fun {x m} hx hw => by
    obtain ⟨R, hR⟩ := asM.isM hx
    exact p51 hR hw
theorem p41 {x : AV} {m : List (List Int)} {R : Nat → AV} (hx : IsM x m R) : PCall Try.prog 41 [x] (sumsR m .exact) := by
  obtain ⟨C, hC, k46, k51⟩ : ∃ C, CtxOk Try.prog C ∧ C 46 [x] = some (.int .i64 (chkE m)) ∧ (OkW m → C 51 [x] = some (tup3 m)) := by
    obtain ⟨C, hC, h1, h2⟩ := ctx51 (D0ok.pt (p46 hx))
    exact ⟨C, hC, by rw [h2 46 (by decide)]; simp, fun hw => h1 _ _ hx.asM hw⟩
  refine PCall.of hC ok41 (by simp) (sumsR_plain m _ rfl) fun hs hb => ?_
  simp [A41, R41, k46]
  refine At.decn (fun h => ?_) (fun h => ?_)
  · have hw := chkE_zero.1 h
    simp [k51 hw, tup3, sumsR, h]
  · simp [sumsR, h]

/-! the kinds -/
def upN (m : List (List Int)) (seats : Int) : Int := (tot m + seats - 1) / seats
def bndL (m : List (List Int)) (seats : Int) : Nat → List Int
  | 0 => arts m
  | 1 => machs m
  | _ => [upN m seats]
def capK (qa qb : Nat) (seats : Int) : Nat → List AV
  | 0 => [.ref qa 0]
  | 1 => [.ref qb 0]
  | _ => [.ref qa 0, .ptr (.int .i64 seats)]
def kinA (m : List (List Int)) (seats : Int) (qa qb w : Nat) : AV := .agg [.int .i64 (bndL m seats w).length, .fn (.func (80 + w)) [] (capK qa qb seats w)]
def kinL (m : List (List Int)) (seats : Int) (qa qb : Nat) : AV := .sl 2 [kinA m seats qa qb 0, kinA m seats qa qb 1, kinA m seats qa qb 2] .exact
structure Kin (n : Nat) (hs : HS) (qa qb : Nat) (m : List (List Int)) : Prop where
  le : n ≤ hs.nh
  a : qa < n
  b : qb < n
  h : ∃ A M, hs.heap qa = some [A] ∧ hs.heap qb = some [M] ∧ RdI n hs.heap A (arts m) ∧ asI M = some (machs m)
theorem Kin.up {n : Nat} {hs hs' : HS} {qa qb : Nat} {m : List (List Int)} (h : Kin n hs qa qb m) (hn : n ≤ hs'.nh) (hh : ∀ j, j < n → hs'.heap j = hs.heap j) : Kin n hs' qa qb m := by
  obtain ⟨A, M, h1, h2, h3, h4⟩ := h.h
  exact ⟨hn, h.a, h.b, A, M, by rw [hh _ h.a]; exact h1, by rw [hh _ h.b]; exact h2, h3.up (Nat.le_refl _) hh, h4⟩
theorem cf (f : Fn) (xs ys : List AV) : (AV.fn f xs ys).cells = [.fn f xs ys] := rfl
theorem p68 {x : AV} {m : List (List Int)} {R : Nat → AV} (hx : IsM x m R) (hw : OkW m) (seats : Int) (hs : HS) :
    FCall Try.prog 68 [x, .int .i64 seats] hs fun e hs' => ∃ qa qb, e = .ret (kinL m seats qa qb) ∧ Kin hs'.nh hs' qa qb m ∧ HsExt hs hs' := by
  refine FCall.ofAt D0ok ok68 (by simp) ?_
  simp [A68, R68]
  refine At.hc (p62 hx hw hs) ?_ (fun v hs' h => by obtain ⟨A, M, h, _⟩ := h; cases h)
  rintro v hs' ⟨A, M, hv, hr⟩
  injection hv with hv; subst hv
  have hA : RdI hs'.nh hs'.heap A (arts m) := hr.a.rd (by rw [arts_len]; have := hw.r6; omega)
  have hM : asI M = some (machs m) := hr.m.asI (by rw [machs_len]; have : cols m ≤ 6 := hw.c6; omega)
  have hE := hr.ext
  simp [store_one (hp := fun i => if i = hs'.nh + 1 then some [.nilsl] else if i = hs'.nh then some [.nilsl] else hs'.heap i) (i := hs'.nh) (u := .nilsl) (v := A) (by simp) (leaf_sto hA.leaf) (leaf_cells hA.leaf),
    store_one (hp := fun i => if i = hs'.nh then some [A] else if i = hs'.nh + 1 then some [.nilsl] else if i = hs'.nh then some [.nilsl] else hs'.heap i) (i := hs'.nh + 1) (u := .nilsl) (v := M) (by simp) (asI_sto hM) (asI_cells hM)]
  simp [la, apart, hA.len, alen_of hM, afill, setL, ci, cf, ca, astoAll, sa, si, sf]
  refine At.of ⟨hs'.nh, hs'.nh + 1, rfl, ⟨Nat.le_refl _, by omega, by omega, A, M, by simp, by simp, hA.up (by omega) (fun j hj => by simp only; rw [if_neg (by omega), if_neg (by omega), if_neg (by omega), if_neg (by omega)]), hM⟩, ⟨by have := hE.nh; simp only; omega, fun j hj => ?_⟩⟩
  have := hE.nh
  simp only
  rw [if_neg (by omega), if_neg (by omega), if_neg (by omega), if_neg (by omega)]
  exact hE.heap j hj
theorem p80 {q n : Nat} {hs : HS} {A : AV} {l : List Int} (hq : hs.heap q = some [A]) (hA : RdI n hs.heap A l) {k : Nat} (hk : k < l.length) : FCall Try.prog 80 [.int .i64 (k : Int), .ref q 0] hs fun e hs' => e = .ret (.int .i64 l[k]) ∧ hs' = hs := by
  refine FCall.ofAt D0ok ok80 (by simp) ?_
  obtain ⟨p, h1, h2⟩ := hA.get hk (k := .i64)
  simp [A80, R80, load_one hq, h1, h2]
theorem p81 {q n : Nat} {hs : HS} {A : AV} {l : List Int} (hq : hs.heap q = some [A]) (hA : RdI n hs.heap A l) {k : Nat} (hk : k < l.length) : FCall Try.prog 81 [.int .i64 (k : Int), .ref q 0] hs fun e hs' => e = .ret (.int .i64 l[k]) ∧ hs' = hs := by
  refine FCall.ofAt D0ok ok81 (by simp) ?_
  obtain ⟨p, h1, h2⟩ := hA.get hk (k := .i64)
  simp [A81, R81, load_one hq, h1, h2]
theorem p82 {q n : Nat} {hs : HS} {A : AV} {m : List (List Int)} (hw : OkW m) (hq : hs.heap q = some [A]) (hA : RdI n hs.heap A (arts m)) {seats : Int} (hse : 1 ≤ seats ∧ seats ≤ 6) (j : AV) :
    FCall Try.prog 82 [j, .ref q 0, .ptr (.int .i64 seats)] hs fun e hs' => e = .ret (.int .i64 (upN m seats)) ∧ hs' = hs := by
  have ht := hw.tot
  have hnil : CtxOk Try.prog PCtx.nil := fun _ _ _ h => by cases h
  obtain ⟨C, hC, k65, n65⟩ := ctx_lg (D0ok) (f := 65) (zs := [.fn (.func 66) [] []]) (fun (l : List Int) => (∀ n ∈ l, 0 ≤ n) ∧ l.sum ≤ 1000000000) (r := fun l => .int .i64 l.sum) (fun {y l} hy hg => p65 hy hg.1 hg.2)
  have hal : alcall C 65 hs [A, .fn (.func 66) [] []] = some (.int .i64 (arts m).sum) := alcall_of (by
    have := k65 _ _ (hA.frz 1) ⟨fun n hn => (hw.art n hn).1, by have : (arts m).sum = tot m := rfl; omega⟩
    simpa using this) rfl
  have k83 : C 83 [.int .i64 (tot m), .int .i64 seats] = some (.int .i64 (upN m seats)) := by
    rw [n65 83 (by decide)]
    simp only [D0_83, SUp]
    rw [if_pos (by omega)]; rfl
  have hes : (arts m).sum = tot m := rfl
  refine FCall.ofAt hC ok82 (by simp) ?_
  simp [A82, R82, load_one hq, hal, hes, k83]
end Go.Proofs.Ytokgpcdbpkginaa
set_option linter.unusedVariables false
set_option linter.unusedSimpArgs false
namespace Go.Proofs.Ytokgpcdbpkginaa
open Go Fw

theorem gtr_app (a : Int) (l m : List Int) : gtr a (l ++ m) = gtr (gtr a l) m := by simp [gtr]
theorem gtr_max : ∀ (l : List Int) (a b : Int), gtr (max a b) l = max a (gtr b l)
  | [], _, _ => rfl
  | c :: l, a, b => by
    have : max (max a b) c = max a (max b c) := by omega
    show gtr (max (max a b) c) l = max a (gtr (max b c) l)
    rw [this, gtr_max l]
theorem gtr_0 {l : List Int} {a : Int} (h : 0 ≤ a) : gtr a l = max a (gtr 0 l) := by
  have := gtr_max l a 0
  rwa [show max a 0 = a by omega] at this
theorem gtr_ge (l : List Int) (a : Int) : a ≤ gtr a l := by
  induction l generalizing a with
  | nil => exact Int.le_refl _
  | cons c l ih => exact Int.le_trans (by omega) (ih (max a c))
theorem gtr_el {l : List Int} {a x : Int} (h : x ∈ l) : x ≤ gtr a l := by
  induction l generalizing a with
  | nil => cases h
  | cons c l ih =>
    rcases List.mem_cons.1 h with rfl | h
    · exact Int.le_trans (by omega) (gtr_ge l (max a x))
    · exact ih h
theorem gtr_bd {l : List Int} {a b : Int} (ha : a ≤ b) (h : ∀ n ∈ l, n ≤ b) : gtr a l ≤ b := by
  induction l generalizing a with
  | nil => exact ha
  | cons c l ih => exact ih (a := max a c) (by have := h c (by simp); omega) (fun n hn => h n (by simp [hn]))
theorem gtr_in (l : List Int) (a : Int) : gtr a l = a ∨ gtr a l ∈ l := by
  induction l generalizing a with
  | nil => exact .inl rfl
  | cons c l ih =>
    rcases ih (max a c) with h | h
    · rcases Int.le_total a c with h2 | h2
      · exact .inr (by show gtr (max a c) l ∈ _; rw [h, show max a c = c by omega]; simp)
      · exact .inl (by show gtr (max a c) l = a; rw [h]; omega)
    · exact .inr (by show gtr (max a c) l ∈ _; simp [h])
def short (m : List (List Int)) (seats : Int) : Int := max (max (gtr 0 (arts m)) (gtr 0 (machs m))) (upN m seats)
def preB (m : List (List Int)) (seats : Int) : Nat → List Int
  | 0 => []
  | w + 1 => preB m seats w ++ bndL m seats w
theorem upN_bd {m : List (List Int)} (hw : OkW m) {seats : Int} (hse : 1 ≤ seats ∧ seats ≤ 6) : 0 ≤ upN m seats ∧ upN m seats ≤ 1085 := by
  have ht := hw.tot
  unfold upN
  have h1 : 0 ≤ (tot m + seats - 1) / seats := Int.ediv_nonneg (by omega) (by omega)
  have h2 : (tot m + seats - 1) / seats ≤ tot m + seats - 1 := Int.ediv_le_self _ (by omega)
  omega
theorem preB_3 {m : List (List Int)} (hw : OkW m) {seats : Int} (hse : 1 ≤ seats ∧ seats ≤ 6) : gtr 0 (preB m seats 3) = short m seats := by
  have h1 := gtr_ge (arts m) 0
  have h2 := gtr_ge (machs m) 0
  have h3 := upN_bd hw hse
  simp only [preB, List.nil_append, bndL, gtr_app]
  rw [gtr_0 (l := machs m) h1, gtr_0 (l := [upN m seats]) (by omega)]
  simp only [gtr, List.foldl_cons, List.foldl_nil, short] at *
  omega
theorem bndL_bd {m : List (List Int)} (hw : OkW m) {seats : Int} (hse : 1 ≤ seats ∧ seats ≤ 6) (w : Nat) : ∀ n ∈ bndL m seats w, 0 ≤ n ∧ n ≤ 1085 := by
  intro n hn
  unfold bndL at hn
  split at hn
  · have := hw.art n hn; omega
  · have := hw.mach n hn; omega
  · have := upN_bd hw hse
    rw [List.mem_singleton] at hn; omega
theorem bndL_len {m : List (List Int)} (hw : OkW m) (seats : Int) (w : Nat) : 1 ≤ (bndL m seats w).length ∧ (bndL m seats w).length ≤ 6 := by
  unfold bndL
  split
  · rw [arts_len]; exact ⟨hw.r1, hw.r6⟩
  · rw [machs_len]; exact ⟨hw.c1, hw.c6⟩
  · simp
theorem short_bd {m : List (List Int)} (hw : OkW m) {seats : Int} (hse : 1 ≤ seats ∧ seats ≤ 6) : 0 ≤ short m seats ∧ short m seats ≤ 1085 := by
  have h1 := gtr_ge (arts m) 0
  have h2 := gtr_ge (machs m) 0
  have h3 := upN_bd hw hse
  have h4 := gtr_bd (a := 0) (b := 180) (l := arts m) (by omega) (fun n hn => (hw.art n hn).2)
  have h5 := gtr_bd (a := 0) (b := 180) (l := machs m) (by omega) (fun n hn => (hw.mach n hn).2)
  unfold short
  omega
theorem short_ge {m : List (List Int)} (hw : OkW m) {seats : Int} (w : Nat) : ∀ n ∈ bndL m seats w, n ≤ short m seats := by
  intro n hn
  unfold bndL at hn
  unfold short
  split at hn
  · have := gtr_el (a := 0) hn; omega
  · have := gtr_el (a := 0) hn; omega
  · rw [List.mem_singleton] at hn; omega
theorem short_in {m : List (List Int)} (hw : OkW m) {seats : Int} (hse : 1 ≤ seats ∧ seats ≤ 6) : ∃ w, w < 3 ∧ short m seats ∈ bndL m seats w := by
  have h3 := upN_bd hw hse
  by_cases h : short m seats = upN m seats
  · exact ⟨2, by omega, by simp [bndL, h]⟩
  by_cases h' : short m seats = gtr 0 (arts m)
  · rcases gtr_in (arts m) 0 with e | e
    · have := gtr_ge (machs m) 0
      unfold short at h h'; omega
    · exact ⟨0, by omega, by rw [h']; exact e⟩
  · have h'' : short m seats = gtr 0 (machs m) := by unfold short at h h' ⊢; omega
    rcases gtr_in (machs m) 0 with e | e
    · have := gtr_ge (arts m) 0
      unfold short at h h' h''; omega
    · exact ⟨1, by omega, by rw [h'']; exact e⟩
theorem chsE_zero {m : List (List Int)} {seats : Int} : chsE m seats = 0 ↔ OkW m ∧ 1 ≤ seats ∧ seats ≤ 6 := by
  unfold chsE
  rw [← chkE_zero]
  by_cases h : chkE m = 0
  · rw [if_pos h]
    by_cases h2 : 1 ≤ seats ∧ seats ≤ 6
    · simp [h, btw, h2]
    · rw [if_neg (by simp [btw]; omega)]
      simp only [h, true_and]
      constructor
      · intro h; omega
      · intro h; exact absurd h h2
  · rw [if_neg h]; simp [h]
def shV (m : List (List Int)) (seats : Int) : AV := if chsE m seats = 0 then .tup [.int .i64 (short m seats), .int .i64 0] else .tup [.int .i64 0, .int .i64 (chsE m seats)]

/-! walking over the kinds -/
theorem kin_len (m : List (List Int)) (seats : Int) (qa qb : Nat) : alenK false (kinL m seats qa qb) = some (.int .i64 3) := rfl
theorem kin_get (m : List (List Int)) (seats : Int) (qa qb : Nat) {w : Nat} (h : w < 3) : aidxS 2 (kinL m seats qa qb) (.int .i64 (w : Int)) = some (.ptr (kinA m seats qa qb w)) := by
  have h1 : (w : Int) < 3 := by omega
  rcases w with _ | _ | _ | w
  · simp [aidxS, kinL]
  · simp [aidxS, kinL]
  · simp [aidxS, kinL]
  · omega
theorem kin_ld (m : List (List Int)) (seats : Int) (qa qb w : Nat) (hp : Nat → Option (List AV)) : aload hp true 2 (.ptr (kinA m seats qa qb w)) = some (kinA m seats qa qb w) := rfl
theorem kin_cells (m : List (List Int)) (seats : Int) (qa qb w : Nat) : (kinA m seats qa qb w).cells = [.int .i64 (bndL m seats w).length, .fn (.func (80 + w)) [] (capK qa qb seats w)] := rfl
theorem kin_sto (m : List (List Int)) (seats : Int) (qa qb w : Nat) : (kinA m seats qa qb w).sto = true := rfl
theorem pk {n : Nat} {hs : HS} {qa qb : Nat} {m : List (List Int)} (hw : OkW m) {seats : Int} (hse : 1 ≤ seats ∧ seats ≤ 6) (hK : Kin n hs qa qb m) {w : Nat} (h3 : w < 3) {k : Nat} (hk : k < (bndL m seats w).length) :
    FCall Try.prog (80 + w) ([] ++ [.int .i64 (k : Int)] ++ capK qa qb seats w) hs fun e hs' => e = .ret (.int .i64 (bndL m seats w)[k]) ∧ hs' = hs := by
  obtain ⟨A, M, h1, h2, h4, h5⟩ := hK.h
  rcases w with _ | _ | _ | w
  · exact p80 h1 h4 hk
  · exact p81 h2 (RdI.of (n := 0) h5) hk
  · have : k = 0 := by simp [bndL] at hk; exact hk
    subst this
    exact p82 hw h1 h4 hse _
  · omega
theorem store_two {hp : Nat → Option (List AV)} {i : Nat} {u1 u2 v1 v2 v : AV} (h : hp i = some [u1, u2]) (hv : v.sto = true) (hc : v.cells = [v1, v2]) : astore hp 2 (.ref i 0) v = some (fun k => if k = i then some [v1, v2] else hp k) := by
  simp [astore, h, hv, hc, setL]
theorem p32 {x : AV} {m : List (List Int)} {R : Nat → AV} (hx : IsM x m R) (seats : Int) : PCall Try.prog 32 [x, .int .i64 seats] (shV m seats) := by
  obtain ⟨C, hC, k53⟩ : ∃ C, CtxOk Try.prog C ∧ C 53 [x, .int .i64 seats] = some (.int .i64 (chsE m seats)) := ⟨_, D0ok.pt (p53 hx seats), by simp⟩
  refine PCall.of hC ok32 (by simp) (by unfold shV; split <;> rfl) fun hs hb => ?_
  simp [A32, R32, k53]
  refine At.decn (fun h => ?_) (fun h => ?_)
  rotate_left
  · simp [shV, h]
  obtain ⟨hw, hse⟩ := chsE_zero.1 h
  simp
  refine At.hc (p68 hx hw seats hs) ?_ (fun v hs' h => by obtain ⟨A, M, h, _⟩ := h; cases h)
  rintro v hs1 ⟨qa, qb, hv, hK, hE⟩
  injection hv with hv; subst hv
  simp [kin_len]
  refine At.loop (fun (w : Nat) s => w ≤ 3 ∧ s.env 7 = .int .i64 (gtr 0 (preB m seats w)) ∧ s.env 19 = kinL m seats qa qb ∧ s.env 20 = .int .i64 3 ∧ s.env 21 = .int .i64 (w : Int) ∧ Kin hs1.nh s.hs qa qb m) (fun w => 3 - w) 0 ?_ ?_
  · exact ⟨by omega, by simp [gtr, preB], by simp, by simp, by simp, by simpa using hK⟩
  rintro N w s hN ⟨hi, e7, e19, e20, e21, hK⟩
  simp [e20, e21]
  refine At.dec (fun hlt => ?_) (fun hlt => ?_)
  · have hw3 : w < 3 := by omega
    have hlen := bndL_len hw seats w
    simp [e19, e21, kin_get m seats qa qb hw3, kin_ld, store_two (hp := fun k => if k = s.hs.nh then some [.int .i64 0, .nilfn] else s.hs.heap k) (i := s.hs.nh) (u1 := .int .i64 0) (u2 := .nilfn) (by simp) (kin_sto m seats qa qb w) (kin_cells m seats qa qb w), fa, la, apart]
    refine At.loop (fun (k : Nat) s2 => k ≤ (bndL m seats w).length ∧ s2.env 7 = .int .i64 (gtr 0 (preB m seats w ++ (bndL m seats w).take k)) ∧ s2.env 9 = .ref s.hs.nh 0 ∧ s2.env 19 = kinL m seats qa qb ∧ s2.env 20 = .int .i64 3 ∧ s2.env 21 = .int .i64 (w : Int) ∧ s2.env 26 = .int .i64 (bndL m seats w).length ∧ s2.env 27 = .int .i64 (k : Int) ∧ Kin hs1.nh s2.hs qa qb m ∧ s2.hs.heap s.hs.nh = some [.int .i64 (bndL m seats w).length, .fn (.func (80 + w)) [] (capK qa qb seats w)]) (fun k => (bndL m seats w).length - k) 0 ?_ ?_
    · refine ⟨by omega, by simp [e7], by simp, by simp [e19], by simp [e20], by simp [e21], by simp, by simp, ?_, by simp⟩
      have := hK.le
      refine hK.up (by simp; omega) (fun j hj => ?_)
      simp
      rw [if_neg (by omega), if_neg (by omega)]
    rintro N2 k s2 hN2 ⟨hk, e7, e9, e19, e20, e21, e26, e27, hK, hc⟩
    simp [e26, e27]
    refine At.dec (fun hlt2 => ?_) (fun hlt2 => ?_)
    · have hk' : k < (bndL m seats w).length := by omega
      simp [e7, e9, e27, fa, la, hc, apart]
      refine At.hc (by simpa using pk hw hse hK hw3 hk') ?_ (fun v hs' h => by cases h.1)
      rintro v hs2 ⟨hv, rfl⟩
      injection hv with hv; subst hv
      have hg : gtr 0 (preB m seats w ++ (bndL m seats w).take (k + 1)) = max (gtr 0 (preB m seats w ++ (bndL m seats w).take k)) (bndL m seats w)[k] := by
        rw [gtr_app, gtr_snoc hk', ← gtr_app]
      simp [e7, e27]
      refine hN2 (k + 1) _ (by omega) ⟨by omega, by rw [hg]; simp [Int.max_def], by simp [e9], by simp [e19], by simp [e20], by simp [e21], by simp [e26], by simp [wrap_nat1 (show k < _ by omega)], by simpa using hK, by simpa using hc⟩
    · have : k = (bndL m seats w).length := by omega
      subst this
      rw [List.take_length] at e7
      simp [e21]
      refine hN (w + 1) _ (by omega) ⟨by omega, by simp [e7, preB], by simp [e19], by simp [e20], by simp [wrap_nat1 (show w < _ by omega)], by simpa using hK⟩
  · have : w = 3 := by omega
    subst this
    rw [preB_3 hw hse] at e7
    simp [e7, shV, h]
theorem p17 {x : AV} {m : List (List Int)} {R : Nat → AV} (hx : IsM x m R) (seats : Int) : PCall Try.prog 17 [x, .int .i64 seats] (shV m seats) := by
  obtain ⟨C, hC, k50, k51, k52⟩ : ∃ C, CtxOk Try.prog C ∧ C 50 [x, .int .i64 seats] = some (.int .i64 (chsE m seats)) ∧ (OkW m → C 51 [x] = some (tup3 m)) ∧ (∀ y l, asI y = some l → C 52 [y] = some (.int .i64 (gtr 0 l))) := by
    obtain ⟨C, hC, h1, h2⟩ := ctx51 (D0ok.pt (p50 hx seats))
    obtain ⟨C', hC', h3, h4⟩ := ctx_l hC (f := 52) (zs := []) (r := fun l => .int .i64 (gtr 0 l)) (fun {y l} hy => p52 hy)
    exact ⟨C', hC', by rw [h4 50 (by decide), h2 50 (by decide)]; simp, fun hw => by rw [h4 51 (by decide)]; exact h1 _ _ hx.asM hw, h3⟩
  refine PCall.of hC ok17 (by simp) (by unfold shV; split <;> rfl) fun hs hb => ?_
  simp [A17, R17, k50]
  refine At.decn (fun h => ?_) (fun h => ?_)
  rotate_left
  · simp [shV, h]
  obtain ⟨hw, hse⟩ := chsE_zero.1 h
  have ht := hw.tot
  have w1 : IntKind.i64.wrap (tot m + seats) = tot m + seats := wrap64 (by omega) (by omega)
  have w2 : IntKind.i64.wrap (tot m + seats - 1) = tot m + seats - 1 := wrap64 (by omega) (by omega)
  have hub := upN_bd hw hse
  have w3 : (tot m + seats - 1).tdiv seats = upN m seats := Int.tdiv_eq_ediv_of_nonneg (by omega)
  have w4 : IntKind.i64.wrap (upN m seats) = upN m seats := wrap64 (by omega) (by omega)
  have i1 : asI (.sl 1 (ints (arts m)) .exact) = some (arts m) := asI_sl (by rw [arts_len]; have := hw.r6; omega)
  have i2 : asI (.sl 1 (ints (machs m)) .exact) = some (machs m) := asI_sl (by rw [machs_len]; have : cols m ≤ 6 := hw.c6; omega)
  simp [k51 hw, tup3, k52 _ _ i1, k52 _ _ i2, w1, w2, w3, w4, show ¬ seats = 0 by omega, amem, amax3, shV, h, short]
end Go.Proofs.Ytokgpcdbpkginaa
set_option linter.unusedVariables false
set_option linter.unusedSimpArgs false
namespace Go.Proofs.Ytokgpcdbpkginaa
open Go Fw

/-- the first bound that is the shortest -/
structure IsWhy (m : List (List Int)) (seats : Int) (w k : Nat) : Prop where
  w3 : w < 3
  lt : k < (bndL m seats w).length
  eq : (bndL m seats w).getD k 0 = short m seats
  before : ∀ w' k', k' < (bndL m seats w').length → w' < w ∨ w' = w ∧ k' < k → (bndL m seats w').getD k' 0 ≠ short m seats
theorem firstIn {p : Nat → Prop} : ∀ {n : Nat}, (∃ k, k < n ∧ p k) → ∃ k, k < n ∧ p k ∧ ∀ j, j < k → ¬ p j
  | 0, ⟨k, h, _⟩ => by omega
  | n + 1, ⟨k, h, hp⟩ => by
    by_cases h' : ∃ k, k < n ∧ p k
    · obtain ⟨k, h1, h2, h3⟩ := firstIn h'
      exact ⟨k, by omega, h2, h3⟩
    · have : k = n := by
        rcases Nat.lt_or_ge k n with h1 | h1
        · exact absurd ⟨k, h1, hp⟩ h'
        · omega
      subst this
      exact ⟨k, by omega, hp, fun j hj hpj => h' ⟨j, hj, hpj⟩⟩
theorem isWhy_ex {m : List (List Int)} (hw : OkW m) {seats : Int} (hse : 1 ≤ seats ∧ seats ≤ 6) : ∃ w k, IsWhy m seats w k := by
  obtain ⟨w0, h3, hin⟩ := short_in hw hse
  have hit : ∀ w, short m seats ∈ bndL m seats w → ∃ k, k < (bndL m seats w).length ∧ (bndL m seats w).getD k 0 = short m seats := fun w h => by
    obtain ⟨k, hk, e⟩ := List.getElem_of_mem h
    exact ⟨k, hk, by simp [List.getD, hk, e]⟩
  obtain ⟨w, hw3, ⟨k0, hk0⟩, hb⟩ := firstIn (p := fun w => ∃ k, k < (bndL m seats w).length ∧ (bndL m seats w).getD k 0 = short m seats) (n := 3) ⟨w0, h3, hit w0 hin⟩
  obtain ⟨k, hk, he, hb2⟩ := firstIn (p := fun k => (bndL m seats w).getD k 0 = short m seats) (n := (bndL m seats w).length) ⟨k0, hk0⟩
  refine ⟨w, k, hw3, hk, he, fun w' k' h1 h2 => ?_⟩
  rcases h2 with h2 | ⟨rfl, h2⟩
  · exact fun e => hb w' h2 ⟨k', h1, e⟩
  · exact hb2 k' h2
theorem getD_of {l : List Int} {k : Nat} (h : k < l.length) : l.getD k 0 = l[k] := by simp [List.getD, h]
theorem IsWhy.hit {m : List (List Int)} {seats : Int} {w0 k0 : Nat} (hW : IsWhy m seats w0 k0) {w k : Nat} (hk : k < (bndL m seats w).length) (hle : w < w0 ∨ w = w0 ∧ k ≤ k0) : (bndL m seats w)[k] = short m seats ↔ w = w0 ∧ k = k0 := by
  rw [← getD_of hk]
  constructor
  · intro h
    rcases hle with h' | ⟨rfl, h'⟩
    · exact absurd h (hW.before w k hk (.inl h'))
    · refine ⟨rfl, ?_⟩
      rcases Nat.lt_or_ge k k0 with h2 | h2
      · exact absurd h (hW.before w k hk (.inr ⟨rfl, h2⟩))
      · omega
  · rintro ⟨rfl, rfl⟩; exact hW.eq
theorem store_ag {hp : Nat → Option (List AV)} {i : Nat} {u1 u2 v1 v2 : AV} (h : hp i = some [u1, u2]) : astore hp 2 (.ref i 0) (.agg [v1, v2]) = some (fun k => if k = i then some [v1, v2] else hp k) := store_two h rfl rfl
def whyE (m : List (List Int)) (seats : Int) : AV := .tup [.agg [.int .i64 0, .int .i64 0], .int .i64 (chsE m seats)]
def whyK (w k : Nat) : AV := .tup [.agg [.int .i64 (w : Int), .int .i64 (k : Int)], .int .i64 0]
/-- the call of Shortest, of whatever rows -/
theorem al32 {C : PCtx} {x : AV} {m : List (List Int)} {R : Nat → AV} (hx : IsM x m R) (seats : Int) (k : C 32 [x, .int .i64 seats] = some (shV m seats)) (hs : HS) : alcall C 32 hs [x, .int .i64 seats] = some (shV m seats) :=
  alcall_of (by simp [hx.frz, k]) (by unfold shV; split <;> rfl)
theorem p42e {x : AV} {m : List (List Int)} {R : Nat → AV} (hx : IsM x m R) (seats : Int) (h : chsE m seats ≠ 0) : PCall Try.prog 42 [x, .int .i64 seats] (whyE m seats) := by
  obtain ⟨C, hC, k32⟩ : ∃ C, CtxOk Try.prog C ∧ C 32 [x, .int .i64 seats] = some (shV m seats) := ⟨_, D0ok.pt (p32 hx seats), by simp⟩
  refine PCall.of hC ok42 (by simp) rfl fun hs hb => ?_
  simp [A42, R42, al32 hx seats k32]
  simp [shV, h, afill, store_ag (hp := fun k => if k = hs.nh then some [.int .i64 0, .int .i64 0] else hs.heap k) (i := hs.nh) (u1 := .int .i64 0) (u2 := .int .i64 0) (by simp), aResult, aResL, aRes, fa, la, apart, whyE]
theorem p42 {x : AV} {m : List (List Int)} {R : Nat → AV} (hx : IsM x m R) (seats : Int) (hw : OkW m) (hse : 1 ≤ seats ∧ seats ≤ 6) {w0 k0 : Nat} (hW : IsWhy m seats w0 k0) : PCall Try.prog 42 [x, .int .i64 seats] (whyK w0 k0) := by
  have h := chsE_zero.2 ⟨hw, hse⟩
  obtain ⟨C, hC, k32⟩ : ∃ C, CtxOk Try.prog C ∧ C 32 [x, .int .i64 seats] = some (shV m seats) := ⟨_, D0ok.pt (p32 hx seats), by simp⟩
  refine PCall.of hC ok42 (by simp) rfl fun hs hb => ?_
  simp [A42, R42, al32 hx seats k32]
  simp [shV, h]
  refine At.hc (p68 hx hw seats _) ?_ (fun v hs' h => by obtain ⟨A, M, h, _⟩ := h; cases h)
  rintro v hs1 ⟨qa, qb, hv, hK, hE⟩
  injection hv with hv; subst hv
  have hn4 : hs.nh + 2 ≤ hs1.nh := by simpa using hE.nh
  have hc4 : hs1.heap hs.nh = some [.int .i64 0, .int .i64 0] := by rw [hE.heap _ (by simp <;> omega)]; simp
  have hc8 : hs1.heap (hs.nh + 1) = some [.int .i64 0, .int .i64 0] := by rw [hE.heap _ (by simp <;> omega)]; simp
  simp [kin_len]
  refine At.loop (fun (w : Nat) s => w ≤ w0 ∧ s.env 4 = .ref hs.nh 0 ∧ s.env 6 = .int .i64 (short m seats) ∧ s.env 8 = .ref (hs.nh + 1) 0 ∧ s.env 24 = kinL m seats qa qb ∧ s.env 25 = .int .i64 3 ∧ s.env 26 = .int .i64 (w : Int) ∧ Kin hs1.nh s.hs qa qb m ∧ (∀ j, j < hs1.nh → s.hs.heap j = hs1.heap j)) (fun w => 3 - w) 0 ?_ ?_
  · exact ⟨by omega, by simp, by simp, by simp, by simp, by simp, by simp, by simpa using hK, by simp⟩
  rintro N w s hN ⟨hi, e4, e6, e8, e24, e25, e26, hK, hH⟩
  have hw3 : w < 3 := by have := hW.w3; omega
  have hlen := bndL_len hw seats w
  have hnh := hK.le
  simp [e25, e26, show (w : Int) < 3 by omega]
  simp [e24, e26, kin_get m seats qa qb hw3, kin_ld, store_two (hp := fun k => if k = s.hs.nh then some [.int .i64 0, .nilfn] else s.hs.heap k) (i := s.hs.nh) (u1 := .int .i64 0) (u2 := .nilfn) (by simp) (kin_sto m seats qa qb w) (kin_cells m seats qa qb w), fa, la, apart]
  refine At.loop (fun (k : Nat) s2 => (w < w0 ∧ k ≤ (bndL m seats w).length ∨ w = w0 ∧ k ≤ k0) ∧ s2.env 4 = .ref hs.nh 0 ∧ s2.env 6 = .int .i64 (short m seats) ∧ s2.env 8 = .ref (hs.nh + 1) 0 ∧ s2.env 9 = .int .i64 (w : Int) ∧ s2.env 10 = .ref s.hs.nh 0 ∧ s2.env 24 = kinL m seats qa qb ∧ s2.env 25 = .int .i64 3 ∧ s2.env 26 = .int .i64 (w : Int) ∧ s2.env 32 = .int .i64 (bndL m seats w).length ∧ s2.env 33 = .int .i64 (k : Int) ∧ Kin hs1.nh s2.hs qa qb m ∧ s2.hs.heap s.hs.nh = some [.int .i64 (bndL m seats w).length, .fn (.func (80 + w)) [] (capK qa qb seats w)] ∧ (∀ j, j < hs1.nh → s2.hs.heap j = hs1.heap j)) (fun k => (bndL m seats w).length - k) 0 ?_ ?_
  · have h0 : w < w0 ∧ 0 ≤ (bndL m seats w).length ∨ w = w0 ∧ 0 ≤ k0 := by omega
    refine ⟨h0, by simp [e4], by simp [e6], by simp [e8], by simp, by simp, by simp [e24], by simp [e25], by simp [e26], by simp, by simp, ?_, by simp, fun j hj => ?_⟩
    · refine hK.up (by simp; omega) (fun j hj => ?_)
      simp
      rw [if_neg (by omega), if_neg (by omega)]
    · simp
      rw [if_neg (by omega), if_neg (by omega), hH j hj]
  rintro N2 k s2 hN2 ⟨hk, e4, e6, e8, e9, e10, e24, e25, e26, e32, e33, hK, hc, hH⟩
  simp [e32, e33]
  refine At.dec (fun hlt2 => ?_) (fun hlt2 => ?_)
  · have hk' : k < (bndL m seats w).length := by omega
    have hle : w < w0 ∨ w = w0 ∧ k ≤ k0 := by omega
    simp [e10, e33, fa, la, hc, apart]
    refine At.hc (by simpa using pk hw hse hK hw3 hk') ?_ (fun v hs' h => by cases h.1)
    rintro v hs2 ⟨hv, rfl⟩
    injection hv with hv; subst hv
    simp [e6]
    refine At.dec (fun hit => ?_) (fun hit => ?_)
    · obtain ⟨rfl, rfl⟩ := (hW.hit hk' hle).1 hit
      have h8 : s2.hs.heap (hs.nh + 1) = some [.int .i64 0, .int .i64 0] := by rw [hH _ (by omega)]; exact hc8
      have h4 : s2.hs.heap hs.nh = some [.int .i64 0, .int .i64 0] := by rw [hH _ (by omega)]; exact hc4
      simp [e4, e8, e9, afill, setL, ci, si, store_ag h8, la, apart, store_ag (hp := fun j => if j = hs.nh + 1 then some [AV.int .i64 (w : Int), AV.int .i64 (k : Int)] else s2.hs.heap j) (i := hs.nh) (u1 := .int .i64 0) (u2 := .int .i64 0) (by simp [h4]), aResult, aResL, aRes, whyK]
    · have hne : ¬ (w = w0 ∧ k = k0) := fun e => hit ((hW.hit hk' hle).2 e)
      simp [e33]
      refine hN2 (k + 1) _ (by omega) ⟨by omega, by simp [e4], by simp [e6], by simp [e8], by simp [e9], by simp [e10], by simp [e24], by simp [e25], by simp [e26], by simp [e32], by simp [wrap_nat1 (show k < _ by omega)], by simpa using hK, by simpa using hc, by simpa using hH⟩
  · have hww : w < w0 := by
      rcases hk with hk | ⟨rfl, hk⟩
      · exact hk.1
      · have := hW.lt; omega
    simp [e26]
    refine hN (w + 1) _ (by omega) ⟨by omega, by simp [e4], by simp [e6], by simp [e8], by simp [e24], by simp [e25], by simp [wrap_nat1 (show w < _ by omega)], by simpa using hK, by simpa using hH⟩
end Go.Proofs.Ytokgpcdbpkginaa
set_option linter.unusedVariables false
set_option linter.unusedSimpArgs false
namespace Go.Proofs.Ytokgpcdbpkginaa
open Go Fw

def inB (m : List (List Int)) (seats : Int) (kd at_ : Int) : Prop := 0 ≤ kd ∧ kd ≤ 2 ∧ 0 ≤ at_ ∧ at_ < (bndL m seats kd.toNat).length
instance (m : List (List Int)) (seats kd at_ : Int) : Decidable (inB m seats kd at_) := by unfold inB; exact inferInstance
def bndV (m : List (List Int)) (seats kd at_ : Int) : AV := if chsE m seats = 0 then (if inB m seats kd at_ then .tup [.int .i64 ((bndL m seats kd.toNat).getD at_.toNat 0), .int .i64 0] else .tup [.int .i64 0, .int .i64 5]) else .tup [.int .i64 0, .int .i64 (chsE m seats)]
theorem bndV_plain (m : List (List Int)) (seats kd at_ : Int) : (bndV m seats kd at_).plain = true := by
  unfold bndV; split <;> (try split) <;> rfl
theorem p44 {x : AV} {m : List (List Int)} {R : Nat → AV} (hx : IsM x m R) (seats kd at_ : Int) : PCall Try.prog 44 [x, .int .i64 seats, .agg [.int .i64 kd, .int .i64 at_]] (bndV m seats kd at_) := by
  obtain ⟨C, hC, k53, k64⟩ : ∃ C, CtxOk Try.prog C ∧ C 53 [x, .int .i64 seats] = some (.int .i64 (chsE m seats)) ∧ C 64 = SBtw := ⟨_, D0ok.pt (p53 hx seats), by simp, by funext a; simp⟩
  refine PCall.of hC ok44 (by simp) (bndV_plain _ _ _ _) fun hs hb => ?_
  simp [A44, R44, k53, sa]
  refine At.decn (fun h => ?_) (fun h => ?_)
  rotate_left
  · simp [bndV, h]
  obtain ⟨hw, hse⟩ := chsE_zero.1 h
  simp
  refine At.hc (p68 hx hw seats _) ?_ (fun v hs' h => by obtain ⟨A, M, h, _⟩ := h; cases h)
  rintro v hs1 ⟨qa, qb, hv, hK, hE⟩
  injection hv with hv; subst hv
  have li : ∀ (k : IntKind) (n : Int) hp, aload hp false 1 (.ptr (.int k n)) = some (.int k n) := fun k n hp => rfl
  have lf2 : ∀ (f : Fn) (xs ys : List AV) hp, aload hp false 1 (.ptr (.fn f xs ys)) = some (.fn f xs ys) := fun f xs ys hp => rfl
  simp [apart, afaddr, ca, li, k64]
  by_cases hkd : 0 ≤ kd ∧ kd ≤ 2
  rotate_left
  · have hb : btw 0 kd 2 = false := by simp [btw]; omega
    have hn : ¬ inB m seats kd at_ := fun h => hkd ⟨h.1, h.2.1⟩
    simp [hb, bndV, h, hn]
  have hb : btw 0 kd 2 = true := by simp [btw]; omega
  obtain ⟨w, rfl⟩ := Int.eq_ofNat_of_zero_le hkd.1
  have hw3 : w < 3 := by omega
  have hlen := bndL_len hw seats w
  have w1 : IntKind.i64.wrap (((bndL m seats w).length : Int) - 1) = ((bndL m seats w).length : Int) - 1 := wrap64 (by omega) (by omega)
  simp [hb, kin_get m seats qa qb hw3, apart, afaddr, ca, li, kin_cells, w1, k64]
  by_cases hat : 0 ≤ at_ ∧ at_ < (bndL m seats w).length
  rotate_left
  · have hb2 : btw 0 at_ (((bndL m seats w).length : Int) - 1) = false := by simp [btw]; omega
    have hn : ¬ inB m seats (w : Int) at_ := fun h => hat ⟨h.2.2.1, by simpa using h.2.2.2⟩
    simp [hb2, bndV, h, hn]
  have hb2 : btw 0 at_ (((bndL m seats w).length : Int) - 1) = true := by simp [btw]; omega
  obtain ⟨k, rfl⟩ := Int.eq_ofNat_of_zero_le hat.1
  have hk : k < (bndL m seats w).length := by omega
  have hin : inB m seats (w : Int) (k : Int) := ⟨hkd.1, hkd.2, hat.1, by simpa using hat.2⟩
  simp [hb2, kin_get m seats qa qb hw3, apart, afaddr, ca, li, kin_cells, lf2]
  refine At.hc (by simpa using pk hw hse hK hw3 hk) ?_ (fun v hs' h => by cases h.1)
  rintro v hs2 ⟨hv, rfl⟩
  injection hv with hv; subst hv
  simp [bndV, h, hin, hk]
theorem p45 {x : AV} {m : List (List Int)} {R : Nat → AV} (hx : IsM x m R) (seats kd at_ : Int) : PCall Try.prog 45 [x, .int .i64 seats, .agg [.int .i64 kd, .int .i64 at_]] (bndV m seats kd at_) := by
  obtain ⟨C, hC, k50, k51, k61⟩ : ∃ C, CtxOk Try.prog C ∧ C 50 [x, .int .i64 seats] = some (.int .i64 (chsE m seats)) ∧ (OkW m → C 51 [x] = some (tup3 m)) ∧ C 61 = SIs := by
    obtain ⟨C, hC, h1, h2⟩ := ctx51 (D0ok.pt (p50 hx seats))
    exact ⟨C, hC, by rw [h2 50 (by decide)]; simp, fun hw => h1 _ _ hx.asM hw, by rw [h2 61 (by decide)]; funext a; simp⟩
  refine PCall.of hC ok45 (by simp) (bndV_plain _ _ _ _) fun hs hb => ?_
  simp [A45, R45, k50, sa]
  refine At.decn (fun h => ?_) (fun h => ?_)
  rotate_left
  · simp [bndV, h]
  obtain ⟨hw, hse⟩ := chsE_zero.1 h
  have ht := hw.tot
  have hr := bndL_len hw seats 0
  have hc := bndL_len hw seats 1
  have w1 : IntKind.i64.wrap (tot m + seats) = tot m + seats := wrap64 (by omega) (by omega)
  have w2 : IntKind.i64.wrap (tot m + seats - 1) = tot m + seats - 1 := wrap64 (by omega) (by omega)
  have hub := upN_bd hw hse
  have w3 : (tot m + seats - 1).tdiv seats = upN m seats := Int.tdiv_eq_ediv_of_nonneg (by omega)
  have w4 : IntKind.i64.wrap (upN m seats) = upN m seats := wrap64 (by omega) (by omega)
  have i1 : asI (.sl 1 (ints (arts m)) .exact) = some (arts m) := asI_sl (by rw [arts_len]; have := hw.r6; omega)
  have i2 : asI (.sl 1 (ints (machs m)) .exact) = some (machs m) := asI_sl (by rw [machs_len]; have : cols m ≤ 6 := hw.c6; omega)
  have li : ∀ (k : IntKind) (n : Int) hp, aload hp false 1 (.ptr (.int k n)) = some (.int k n) := fun k n hp => rfl
  simp only [bndL] at hr hc
  have v1 : IntKind.i64.wrap (((arts m).length : Int) - 1) = ((arts m).length : Int) - 1 := wrap64 (by omega) (by omega)
  have v2 : IntKind.i64.wrap (((machs m).length : Int) - 1) = ((machs m).length : Int) - 1 := wrap64 (by omega) (by omega)
  have n1 : alenK false (.sl 1 (ints (arts m)) .exact) = some (.int .i64 (arts m).length) := alen_of i1
  have n2 : alenK false (.sl 1 (ints (machs m)) .exact) = some (.int .i64 (machs m).length) := alen_of i2
  simp [k51 hw, tup3, apart, afaddr, ca, li]
  by_cases h0 : kd = 0
  · subst h0
    simp [n1, v1, k61]
    by_cases hat : 0 ≤ at_ ∧ at_ < (arts m).length
    · have hb2 : btw 0 at_ (((arts m).length : Int) - 1) = true := by simp [btw]; omega
      obtain ⟨k, rfl⟩ := Int.eq_ofNat_of_zero_le hat.1
      have hk : k < (arts m).length := by omega
      have hin : inB m seats 0 (k : Int) := ⟨by omega, by omega, hat.1, hat.2⟩
      simp [hb2, apart, afaddr, ca, li, aidx_nat i1 hk, bndV, h, hin, bndL, hk]
    · have hb2 : btw 0 at_ (((arts m).length : Int) - 1) = false := by simp [btw]; omega
      have hn : ¬ inB m seats 0 at_ := fun h => hat ⟨h.2.2.1, h.2.2.2⟩
      simp [hb2, apart, afaddr, ca, li, bndV, h, hn]
  by_cases h1 : kd = 1
  · subst h1
    simp [n2, v2, k61, apart, afaddr, ca, li]
    by_cases hat : 0 ≤ at_ ∧ at_ < (machs m).length
    · have hb2 : btw 0 at_ (((machs m).length : Int) - 1) = true := by simp [btw]; omega
      obtain ⟨k, rfl⟩ := Int.eq_ofNat_of_zero_le hat.1
      have hk : k < (machs m).length := by omega
      have hin : inB m seats 1 (k : Int) := ⟨by omega, by omega, hat.1, hat.2⟩
      simp [hb2, apart, afaddr, ca, li, aidx_nat i2 hk, bndV, h, hin, bndL, hk]
    · have hb2 : btw 0 at_ (((machs m).length : Int) - 1) = false := by simp [btw]; omega
      have hn : ¬ inB m seats 1 at_ := fun h => hat ⟨h.2.2.1, h.2.2.2⟩
      simp [hb2, apart, afaddr, ca, li, bndV, h, hn]
  by_cases h2 : kd = 2 ∧ at_ = 0
  · obtain ⟨rfl, rfl⟩ := h2
    have hin : inB m seats 2 0 := ⟨by omega, by omega, by omega, by simp [bndL]⟩
    simp [apart, afaddr, ca, li, w1, w2, w3, w4, show ¬ seats = 0 by omega, bndV, h, hin, bndL]
  · have hn : ¬ inB m seats kd at_ := by
      rintro ⟨a, b, c, d⟩
      have : kd = 2 := by omega
      subst this
      simp [bndL] at d
      exact h2 ⟨rfl, by omega⟩
    simp [h0, h1, apart, afaddr, ca, li]
    by_cases h3 : kd = 2
    · have h4 : ¬ at_ = 0 := fun e => h2 ⟨h3, e⟩
      simp [h3, h4, apart, afaddr, ca, li, bndV, h, hn]
      rw [h3] at hn
      simp [hn]
    · simp [h3, bndV, h, hn]
theorem p43e {x : AV} {m : List (List Int)} {R : Nat → AV} (hx : IsM x m R) (seats : Int) (h : chsE m seats ≠ 0) : PCall Try.prog 43 [x, .int .i64 seats] (whyE m seats) := by
  obtain ⟨C, hC, k17⟩ : ∃ C, CtxOk Try.prog C ∧ C 17 [x, .int .i64 seats] = some (shV m seats) := ⟨_, D0ok.pt (p17 hx seats), by simp⟩
  refine PCall.of hC ok43 (by simp) rfl fun hs hb => ?_
  simp [A43, R43, k17]
  simp [shV, h, afill, store_ag (hp := fun k => if k = hs.nh then some [.int .i64 0, .int .i64 0] else hs.heap k) (i := hs.nh) (u1 := .int .i64 0) (u2 := .int .i64 0) (by simp), aResult, aResL, aRes, fa, la, apart, whyE]
theorem ctx45 {C : PCtx} (hC : CtxOk Try.prog C) {x : AV} {m : List (List Int)} {R : Nat → AV} (hx : IsM x m R) (seats : Int) : ∃ C', CtxOk Try.prog C' ∧ (∀ kd at_ : Int, C' 45 [x, .int .i64 seats, .agg [.int .i64 kd, .int .i64 at_]] = some (bndV m seats kd at_)) ∧ ∀ g, ¬ g = 45 → C' g = C g := by
  refine ⟨C.fam (ι := Int × Int) 45 (fun q => [x, .int .i64 seats, .agg [.int .i64 q.1, .int .i64 q.2]]) (fun q => bndV m seats q.1 q.2), hC.fam fun q => p45 hx seats q.1 q.2, fun kd at_ => ?_, fun g hg => funext fun a => fam_ne hg⟩
  refine fam_eq (g := fun q : Int × Int => [x, .int .i64 seats, .agg [.int .i64 q.1, .int .i64 q.2]]) (r := fun q => bndV m seats q.1 q.2) (fun i j e => ?_) (kd, at_)
  simp at e
  show bndV m seats i.1 i.2 = bndV m seats j.1 j.2
  rw [e.1, e.2]
theorem p43 {x : AV} {m : List (List Int)} {R : Nat → AV} (hx : IsM x m R) (seats : Int) (hw : OkW m) (hse : 1 ≤ seats ∧ seats ≤ 6) {w0 k0 : Nat} (hW : IsWhy m seats w0 k0) : PCall Try.prog 43 [x, .int .i64 seats] (whyK w0 k0) := by
  have h := chsE_zero.2 ⟨hw, hse⟩
  obtain ⟨C, hC, k45, kn⟩ := ctx45 (D0ok.pt (p17 hx seats)) hx seats
  have k17 : C 17 [x, .int .i64 seats] = some (shV m seats) := by rw [kn 17 (by decide)]; simp
  refine PCall.of hC ok43 (by simp) rfl fun hs hb => ?_
  simp [A43, R43, k17]
  simp [shV, h]
  refine At.loop (fun (w : Nat) s => w ≤ w0 ∧ w ≤ 2 ∧ s.env 0 = x ∧ s.env 1 = .int .i64 seats ∧ s.env 4 = .ref hs.nh 0 ∧ s.env 6 = .int .i64 (short m seats) ∧ s.env 8 = .int .i64 (w : Int) ∧ hs.nh < s.hs.nh ∧ s.hs.heap hs.nh = some [.int .i64 0, .int .i64 0]) (fun w => 3 - w) 0 ?_ ?_
  · exact ⟨by omega, by omega, by simp, by simp, by simp, by simp, by simp, by simp, by simp⟩
  rintro N w s hN ⟨hi, hi2, e0, e1, e4, e6, e8, hn, hc4⟩
  simp [e8]
  refine At.dec (fun hlt => ?_) (fun hlt => ?_)
  · have hw1 : w ≤ 1 := by omega
    simp
    refine At.loop (fun (k : Nat) s => (w < w0 ∧ k ≤ 6 ∨ w = w0 ∧ k ≤ k0) ∧ s.env 0 = x ∧ s.env 1 = .int .i64 seats ∧ s.env 4 = .ref hs.nh 0 ∧ s.env 6 = .int .i64 (short m seats) ∧ s.env 8 = .int .i64 (w : Int) ∧ s.env 9 = .int .i64 (k : Int) ∧ hs.nh < s.hs.nh ∧ s.hs.heap hs.nh = some [.int .i64 0, .int .i64 0]) (fun k => 6 - k) 0 ?_ ?_
    · have h0 : w < w0 ∧ 0 ≤ 6 ∨ w = w0 ∧ 0 ≤ k0 := by omega
      exact ⟨h0, by simp [e0], by simp [e1], by simp [e4], by simp [e6], by simp [e8], by simp, by simp [hn], by simp [hc4]⟩
    rintro N2 k s hN2 ⟨hk, e0, e1, e4, e6, e8, e9, hn, hc4⟩
    have hlen := bndL_len hw seats w
    simp [e9]
    refine At.dec (fun hlt2 => ?_) (fun hlt2 => ?_)
    · have hne : ¬ hs.nh = s.hs.nh := by omega
      simp [e0, e1, e8, e9, afill, setL, ci, si, store_ag (hp := fun k => if k = s.hs.nh then some [.int .i64 0, .int .i64 0] else s.hs.heap k) (i := s.hs.nh) (u1 := .int .i64 0) (u2 := .int .i64 0) (by simp), la, apart, k45]
      by_cases hk' : k < (bndL m seats w).length
      · have hin : inB m seats (w : Int) (k : Int) := ⟨by omega, by omega, by omega, by simpa using hk'⟩
        have hle : w < w0 ∨ w = w0 ∧ k ≤ k0 := by omega
        simp [bndV, h, hin, hk', e6]
        refine At.dec (fun hit => ?_) (fun hit => ?_)
        · obtain ⟨rfl, rfl⟩ := (hW.hit hk' hle).1 hit
          simp [e4, la, apart, store_ag (hp := fun j => if j = s.hs.nh then some [AV.int .i64 (w : Int), AV.int .i64 (k : Int)] else if j = s.hs.nh then some [.int .i64 0, .int .i64 0] else s.hs.heap j) (i := hs.nh) (u1 := .int .i64 0) (u2 := .int .i64 0) (by simp [hne, hc4]), aResult, aResL, aRes, whyK]
        · have hne2 : ¬ (w = w0 ∧ k = k0) := fun e => hit ((hW.hit hk' hle).2 e)
          simp [e9]
          refine hN2 (k + 1) _ (by omega) ⟨by omega, by simp [e0], by simp [e1], by simp [e4], by simp [e6], by simp [e8], by simp [wrap_nat1 (show k < _ by omega)], by simp; omega, by simp [hne, hc4]⟩
      · have hin : ¬ inB m seats (w : Int) (k : Int) := fun h => hk' (by simpa using h.2.2.2)
        simp [bndV, h, hin, e6, e9]
        have hww : w < w0 := by
          rcases hk with hk | ⟨rfl, hk⟩
          · exact hk.1
          · have := hW.lt; omega
        refine hN2 (k + 1) _ (by omega) ⟨by omega, by simp [e0], by simp [e1], by simp [e4], by simp [e6], by simp [e8], by simp [wrap_nat1 (show k < _ by omega)], by simp; omega, by simp [hne, hc4]⟩
    · have hww : w < w0 := by
        rcases hk with hk | ⟨rfl, hk⟩
        · exact hk.1
        · have := hW.lt; omega
      simp [e8]
      refine hN (w + 1) _ (by omega) ⟨by omega, by omega, by simp [e0], by simp [e1], by simp [e4], by simp [e6], by simp [wrap_nat1 (show w < _ by omega)], by simpa using hn, by simpa using hc4⟩
  · have hw2 : w0 = 2 := by have := hW.w3; omega
    subst hw2
    have hk0 : k0 = 0 := by have := hW.lt; simp [bndL] at this; exact this
    subst hk0
    simp [e4, afill, setL, ci, si, store_ag hc4, aResult, aResL, aRes, la, apart, whyK]
end Go.Proofs.Ytokgpcdbpkginaa
set_option linter.unusedVariables false
set_option linter.unusedSimpArgs false
namespace Go.Proofs.Ytokgpcdbpkginaa
open Go Fw

/-- a list under way, seen from outside -/
def ShI (y : AV) (l : List Int) : Prop := (y = .nilsl ∧ l = []) ∨ ∃ k, y = .sl 1 (ints l) (.own k) ∧ l ≠ []
theorem outs_shI {hs : HS} {y : AV} {l : List Int} (h : Outs 1 hs y (ints l)) : ShI y l := by
  rcases h.inv with ⟨rfl, h2⟩ | ⟨xs, k, rfl, _, h2, h3⟩
  · exact .inl ⟨rfl, by simpa [ints] using h2⟩
  · exact .inr ⟨k, by rw [share_ints_inv h2], fun e => h3 (by rw [e]; rfl)⟩
theorem ShI.fz {y : AV} {l : List Int} (h : ShI y l) (hp : Nat → Option (List AV)) (n : Nat) : (frzC (frzL hp n) y).share = outV 1 (ints l) := by
  rcases h with ⟨rfl, rfl⟩ | ⟨k, rfl, h⟩
  · cases n <;> rfl
  · have : frzC (frzL hp n) (.sl 1 (ints l) (.own k)) = .sl 1 (ints l) (.own k) := frzL_noM (noM_ints n l _)
    rw [this, outV_ne (by simpa [ints] using h)]; simp
theorem ShI.sh {y : AV} {l : List Int} (h : ShI y l) : y.share = outV 1 (ints l) := by
  rcases h with ⟨rfl, rfl⟩ | ⟨k, rfl, h⟩
  · rfl
  · rw [outV_ne (by simpa [ints] using h)]; simp
/-- where n stands, among the first i -/
def posT (l : List Int) (n : Int) (i : Nat) : List Int := ((List.range i).filter fun k => decide (l.getD k 0 = n)).map fun (k : Nat) => (k : Int)
def posI (l : List Int) (n : Int) : List Int := posT l n l.length
theorem posT_s (l : List Int) (n : Int) (i : Nat) (hi : i < l.length) : posT l n (i + 1) = posT l n i ++ if l[i] = n then [(i : Int)] else [] := by
  have e : l.getD i 0 = l[i] := getD_of hi
  unfold posT
  rw [List.range_succ, List.filter_append, List.map_append]
  by_cases h : l[i] = n
  · rw [if_pos h, List.filter_cons_of_pos (by rw [e]; simpa using h)]; rfl
  · rw [if_neg h, List.filter_cons_of_neg (by rw [e]; simpa using h)]; rfl
theorem posT_len (l : List Int) (n : Int) (i : Nat) : (posT l n i).length ≤ i := by
  unfold posT
  rw [List.length_map]
  exact Nat.le_trans (List.length_filter_le _ _) (by simp)
theorem p63 {k0 : Nat} {hs : HS} {x : AV} {l : List Int} (hx : RdI k0 hs.heap x l) (hl : l.length ≤ 1000000) (n : Int) : FCall Try.prog 63 [x, .int .i64 n] hs fun e hs' => ∃ y, e = .ret y ∧ ShI y (posI l n) ∧ SameMem hs hs' := by
  refine FCall.ofAt D0ok ok63 (by simp) ?_
  simp [A63, R63, hx.len]
  refine At.loop (fun (i : Nat) s => i ≤ l.length ∧ SameMem hs s.hs ∧ s.env 1 = .int .i64 n ∧ s.env 8 = x ∧ s.env 9 = .int .i64 (l.length : Int) ∧ s.env 10 = .int .i64 (i : Int) ∧ Outs 1 s.hs (s.env 5) (ints (posT l n i))) (fun i => l.length - i) 0 ?_ ?_
  · exact ⟨by omega, by simp; exact .refl _, by simp, by simp, by simp, by simp, by simp; exact Outs.nil⟩
  rintro N i s hN ⟨hi, hm, e1, e8, e9, e10, hO⟩
  simp [e9, e10]
  refine At.dec (fun hlt => ?_) (fun hlt => ?_)
  · have hi' : i < l.length := by omega
    have hx' := hx
    rw [← hm.heap] at hx'
    obtain ⟨p, g1, g2⟩ := hx'.get hi' (k := .i64)
    simp [e1, e8, e10, g1, g2]
    have hs1 := posT_s l n i hi'
    refine At.dec (fun h => ?_) (fun h => ?_)
    · rw [if_pos h] at hs1
      simp [astoAll, si]
      refine At.app1 hO (by have := posT_len l n i; omega) fun y hs' h1 h2 h3 => ?_
      simp [e10]
      refine hN (i + 1) _ (by omega) ⟨by omega, by simpa using hm.trans h2, by simp [e1], by simp [e8], by simp [e9], by simp [wrap_nat1 (show i < _ by omega)], by rw [hs1]; simpa using h1⟩
    · rw [if_neg h, List.append_nil] at hs1
      simp [e10]
      refine hN (i + 1) _ (by omega) ⟨by omega, by simpa using hm, by simp [e1], by simp [e8], by simp [e9], by simp [wrap_nat1 (show i < _ by omega)], by rw [hs1]; simpa using hO⟩
  · have : i = l.length := by omega
    subst this
    simp
    exact At.of ⟨outs_shI hO, hm⟩
def busV (m : List (List Int)) (seats : Int) : AV := if chsE m seats = 0 then .tup [outV 1 (ints (posI (arts m) (short m seats))), outV 1 (ints (posI (machs m) (short m seats))), .int .i64 0] else .tup [.nilsl, .nilsl, .int .i64 (chsE m seats)]
theorem busV_plain (m : List (List Int)) (seats : Int) : (busV m seats).plain = true := by
  unfold busV; split
  · simp [AV.plain, plainL, outI_plain]
  · rfl
theorem p23 {x : AV} {m : List (List Int)} {R : Nat → AV} (hx : IsM x m R) (seats : Int) : PCall Try.prog 23 [x, .int .i64 seats] (busV m seats) := by
  obtain ⟨C, hC, k32⟩ : ∃ C, CtxOk Try.prog C ∧ C 32 [x, .int .i64 seats] = some (shV m seats) := ⟨_, D0ok.pt (p32 hx seats), by simp⟩
  refine PCall.ofZ hC ok23 (by simp) (busV_plain _ _) fun hs hb => ?_
  simp [A23, R23, al32 hx seats k32]
  by_cases h : chsE m seats = 0
  rotate_left
  · simp [shV, busV, h]
  obtain ⟨hw, hse⟩ := chsE_zero.1 h
  simp [shV, h]
  refine At.hc (p62 hx hw _) ?_ (fun v hs' h => by obtain ⟨A, M, h, _⟩ := h; cases h)
  rintro v hs1 ⟨A, M, hv, hr⟩
  injection hv with hv; subst hv
  have hal : (arts m).length ≤ 6 := by rw [arts_len]; exact hw.r6
  have hml : (machs m).length ≤ 6 := by rw [machs_len]; exact hw.c6
  have hA : RdI hs1.nh hs1.heap A (arts m) := hr.a.rd (by omega)
  have hM : asI M = some (machs m) := hr.m.asI (by omega)
  simp
  refine At.hc (p63 hA (by omega) _) ?_ (fun v hs' h => by obtain ⟨A, h, _⟩ := h; cases h)
  rintro v hs2 ⟨y1, hv, hy1, _⟩
  injection hv with hv; subst hv
  simp
  refine At.hc (p63 (RdI.of (n := 0) hM) (by omega) _) ?_ (fun v hs' h => by obtain ⟨A, h, _⟩ := h; cases h)
  rintro v hs3 ⟨y2, hv, hy2, _⟩
  injection hv with hv; subst hv
  simp [busV, h, hy1.fz, hy2.fz]
theorem p24 {x : AV} {m : List (List Int)} {R : Nat → AV} (hx : IsM x m R) (seats : Int) : PCall Try.prog 24 [x, .int .i64 seats] (busV m seats) := by
  obtain ⟨C, hC, k17, k51⟩ : ∃ C, CtxOk Try.prog C ∧ C 17 [x, .int .i64 seats] = some (shV m seats) ∧ (OkW m → C 51 [x] = some (tup3 m)) := by
    obtain ⟨C, hC, h1, h2⟩ := ctx51 (D0ok.pt (p17 hx seats))
    exact ⟨C, hC, by rw [h2 17 (by decide)]; simp, fun hw => h1 _ _ hx.asM hw⟩
  refine PCall.ofZ hC ok24 (by simp) (busV_plain _ _) fun hs hb => ?_
  simp [A24, R24, k17]
  by_cases h : chsE m seats = 0
  rotate_left
  · simp [shV, busV, h]
  obtain ⟨hw, hse⟩ := chsE_zero.1 h
  have hal : (arts m).length ≤ 6 := by rw [arts_len]; exact hw.r6
  have hml : (machs m).length ≤ 6 := by rw [machs_len]; exact hw.c6
  have i1 : asI (.sl 1 (ints (arts m)) .exact) = some (arts m) := asI_sl (by omega)
  have i2 : asI (.sl 1 (ints (machs m)) .exact) = some (machs m) := asI_sl (by omega)
  simp [shV, h, k51 hw, tup3]
  generalize hS : short m seats = S
  generalize hXA : AV.sl 1 (ints (arts m)) .exact = XA at *
  generalize hXM : AV.sl 1 (ints (machs m)) .exact = XM at *
  refine At.loop (fun (i : Nat) s => i ≤ (arts m).length ∧ s.env 7 = .int .i64 S ∧ s.env 9 = XA ∧ s.env 10 = XM ∧ s.env 13 = .nilsl ∧ s.env 14 = .int .i64 (i : Int) ∧ Outs 1 s.hs (s.env 12) (ints (posT (arts m) S i))) (fun i => (arts m).length - i) 0 ?_ ?_
  · exact ⟨by omega, by simp, by simp, by simp, by simp, by simp, by simp; exact Outs.nil⟩
  rintro N i s hN ⟨hi, e7, e9, e10, e13, e14, hO⟩
  simp [e9, e14, alen_of i1]
  refine At.dec (fun hlt => ?_) (fun hlt => ?_)
  · have hi' : i < (arts m).length := by omega
    have hs1 := posT_s (arts m) S i hi'
    simp [e7, e9, e14, aidx_nat i1 hi']
    refine At.dec (fun h => ?_) (fun h => ?_)
    · rw [if_pos h] at hs1
      simp [e14, astoAll, si]
      refine At.app1 hO (by have := posT_len (arts m) S i; omega) fun y hs' h1 h2 h3 => ?_
      simp [e14]
      refine hN (i + 1) _ (by omega) ⟨by omega, by simp [e7], by simp [e9], by simp [e10], by simp [e13], by simp [wrap_nat1 (show i < _ by omega)], by rw [hs1]; simpa using h1⟩
    · rw [if_neg h, List.append_nil] at hs1
      simp [e14]
      refine hN (i + 1) _ (by omega) ⟨by omega, by simp [e7], by simp [e9], by simp [e10], by simp [e13], by simp [wrap_nat1 (show i < _ by omega)], by rw [hs1]; simpa using hO⟩
  · have : i = (arts m).length := by omega
    subst this
    have hy1 : ShI (s.env 12) (posI (arts m) S) := outs_shI hO
    generalize hY : s.env 12 = Y at hy1
    simp
    refine At.loop (fun (i : Nat) s => i ≤ (machs m).length ∧ s.env 7 = .int .i64 S ∧ s.env 10 = XM ∧ s.env 12 = Y ∧ s.env 15 = .int .i64 (i : Int) ∧ Outs 1 s.hs (s.env 13) (ints (posT (machs m) S i))) (fun i => (machs m).length - i) 0 ?_ ?_
    · exact ⟨by omega, by simp [e7], by simp [e10], by simp [hY], by simp, by simp [e13]; exact Outs.nil⟩
    rintro N i s hN ⟨hi, e7, e10, e12, e15, hO⟩
    simp [e10, e15, alen_of i2]
    refine At.dec (fun hlt => ?_) (fun hlt => ?_)
    · have hi' : i < (machs m).length := by omega
      have hs1 := posT_s (machs m) S i hi'
      simp [e7, e10, e15, aidx_nat i2 hi']
      refine At.dec (fun h => ?_) (fun h => ?_)
      · rw [if_pos h] at hs1
        simp [e15, astoAll, si]
        refine At.app1 hO (by have := posT_len (machs m) S i; omega) fun y hs' h1 h2 h3 => ?_
        simp [e15]
        refine hN (i + 1) _ (by omega) ⟨by omega, by simp [e7], by simp [e10], by simp [e12], by simp [wrap_nat1 (show i < _ by omega)], by rw [hs1]; simpa using h1⟩
      · rw [if_neg h, List.append_nil] at hs1
        simp [e15]
        refine hN (i + 1) _ (by omega) ⟨by omega, by simp [e7], by simp [e10], by simp [e12], by simp [wrap_nat1 (show i < _ by omega)], by rw [hs1]; simpa using hO⟩
    · have : i = (machs m).length := by omega
      subst this
      have hy2 : ShI (s.env 13) (posI (machs m) S) := outs_shI hO
      generalize hY2 : s.env 13 = Y2 at hy2
      simp [e12, hY2, busV, h, hS, hy1.fz, hy2.fz]

def inR (m : List (List Int)) (r c : Int) : Bool := btw 0 r ((m.length : Int) - 1) && btw 0 c ((cols m : Int) - 1)
def roomV (m : List (List Int)) (seats r c : Int) : AV := if chsE m seats = 0 then (if inR m r c = true then .tup [.int .i64 (min (min (short m seats - (arts m).getD r.toNat 0) (short m seats - (machs m).getD c.toNat 0)) (short m seats * seats - tot m)), .int .i64 0] else .tup [.int .i64 0, .int .i64 5]) else .tup [.int .i64 0, .int .i64 (chsE m seats)]
theorem roomV_plain (m : List (List Int)) (seats r c : Int) : (roomV m seats r c).plain = true := by
  unfold roomV; split <;> (try split) <;> rfl
theorem inR_spec {m : List (List Int)} {r c : Int} (h : inR m r c = true) : ∃ i j : Nat, r = i ∧ c = j ∧ i < m.length ∧ j < cols m := by
  simp only [inR, btw, Bool.and_eq_true, decide_eq_true_eq] at h
  exact ⟨r.toNat, c.toNat, by omega, by omega, by omega, by omega⟩
theorem p25 {x : AV} {m : List (List Int)} {R : Nat → AV} (hx : IsM x m R) (seats r c : Int) : PCall Try.prog 25 [x, .int .i64 seats, .int .i64 r, .int .i64 c] (roomV m seats r c) := by
  obtain ⟨C, hC, k32, k64, k65⟩ : ∃ C, CtxOk Try.prog C ∧ C 32 [x, .int .i64 seats] = some (shV m seats) ∧ C 64 = SBtw ∧ (∀ y l, asI y = some l → ((∀ n ∈ l, 0 ≤ n) ∧ l.sum ≤ 1000000000) → C 65 [y, .fn (.func 66) [] []] = some (.int .i64 l.sum)) := by
    obtain ⟨C, hC, k65, n65⟩ := ctx_lg (D0ok.pt (p32 hx seats)) (f := 65) (zs := [.fn (.func 66) [] []]) (fun (l : List Int) => (∀ n ∈ l, 0 ≤ n) ∧ l.sum ≤ 1000000000) (r := fun l => .int .i64 l.sum) (fun {y l} hy hg => p65 hy hg.1 hg.2)
    exact ⟨C, hC, by rw [n65 32 (by decide)]; simp, by rw [n65 64 (by decide)]; funext a; simp, k65⟩
  refine PCall.of hC ok25 (by simp) (roomV_plain _ _ _ _) fun hs hb => ?_
  simp [A25, R25, al32 hx seats k32]
  by_cases h : chsE m seats = 0
  rotate_left
  · simp [shV, roomV, h]
  obtain ⟨hw, hse⟩ := chsE_zero.1 h
  have h1 := hw.r1
  have h6 := hw.r6
  have g1 : 1 ≤ cols m := hw.c1
  have g6 : cols m ≤ 6 := hw.c6
  have r0 := hx.rlen h1
  rw [hw.len h1] at r0
  have w1 : IntKind.i64.wrap ((m.length : Int) - 1) = (m.length : Int) - 1 := wrap64 (by omega) (by omega)
  have w2 : IntKind.i64.wrap ((cols m : Int) - 1) = (cols m : Int) - 1 := wrap64 (by omega) (by omega)
  simp [shV, h, hx.len, w1, k64]
  by_cases hb1 : btw 0 r ((m.length : Int) - 1) = true
  rotate_left
  · have hb1' : btw 0 r ((m.length : Int) - 1) = false := by simpa using hb1
    simp [hb1', roomV, h, inR]
  simp [hb1, hx.get0 h1, hx.ld h1, r0, w2, k64]
  by_cases hb2 : btw 0 c ((cols m : Int) - 1) = true
  rotate_left
  · have hb2' : btw 0 c ((cols m : Int) - 1) = false := by simpa using hb2
    simp [hb2', roomV, h, inR]
  have hin : inR m r c = true := by simp [inR, hb1, hb2]
  obtain ⟨i, j, rfl, rfl, hi, hj⟩ := inR_spec hin
  simp [hb2]
  refine At.hc (p62 hx hw _) ?_ (fun v hs' h => by obtain ⟨A, M, h, _⟩ := h; cases h)
  rintro v hs1 ⟨A, M, hv, hr⟩
  injection hv with hv; subst hv
  have hal : (arts m).length = m.length := arts_len m
  have hml : (machs m).length = cols m := machs_len m
  have hA : RdI hs1.nh hs1.heap A (arts m) := hr.a.rd (by omega)
  have hM : asI M = some (machs m) := hr.m.asI (by omega)
  have hi' : i < (arts m).length := by omega
  have hj' : j < (machs m).length := by omega
  obtain ⟨p, a1, a2⟩ := hA.get hi' (k := .i64)
  have b1 := short_bd hw hse
  have b2 := hw.art _ (List.getElem_mem hi')
  have b3 := hw.mach _ (List.getElem_mem hj')
  have b4 := hw.tot
  have hal65 : alcall C 65 hs1 [A, .fn (.func 66) [] []] = some (.int .i64 (tot m)) := alcall_of (by
    have := k65 _ _ (hA.frz 1) ⟨fun n hn => (hw.art n hn).1, by have : (arts m).sum = tot m := rfl; omega⟩
    have e : (arts m).sum = tot m := rfl
    rw [e] at this
    simpa using this) rfl
  have b5 : 0 ≤ short m seats * seats := Int.mul_nonneg b1.1 (by omega)
  have b6 : short m seats * seats ≤ 1085 * 6 := Int.mul_le_mul b1.2 hse.2 (by omega) (by omega)
  have w3 : IntKind.i64.wrap (short m seats - (arts m)[i]) = short m seats - (arts m)[i] := wrap64 (by omega) (by omega)
  have w4 : IntKind.i64.wrap (short m seats - (machs m)[j]) = short m seats - (machs m)[j] := wrap64 (by omega) (by omega)
  have w5 : IntKind.i64.wrap (short m seats * seats) = short m seats * seats := wrap64 (by omega) (by omega)
  have w6 : IntKind.i64.wrap (short m seats * seats - tot m) = short m seats * seats - tot m := wrap64 (by omega) (by omega)
  simp [a1, a2, w3, aidx_nat hM hj', w4, w5, hal65, w6, amem, amin3, roomV, h, hin, hi', hj']
theorem p26 {x : AV} {m : List (List Int)} {R : Nat → AV} (hx : IsM x m R) (seats r c : Int) : PCall Try.prog 26 [x, .int .i64 seats, .int .i64 r, .int .i64 c] (roomV m seats r c) := by
  obtain ⟨C, hC, k17, k51, k61⟩ : ∃ C, CtxOk Try.prog C ∧ C 17 [x, .int .i64 seats] = some (shV m seats) ∧ (OkW m → C 51 [x] = some (tup3 m)) ∧ C 61 = SIs := by
    obtain ⟨C, hC, h1, h2⟩ := ctx51 (D0ok.pt (p17 hx seats))
    exact ⟨C, hC, by rw [h2 17 (by decide)]; simp, fun hw => h1 _ _ hx.asM hw, by rw [h2 61 (by decide)]; funext a; simp⟩
  refine PCall.of hC ok26 (by simp) (roomV_plain _ _ _ _) fun hs hb => ?_
  simp [A26, R26, k17]
  by_cases h : chsE m seats = 0
  rotate_left
  · simp [shV, roomV, h]
  obtain ⟨hw, hse⟩ := chsE_zero.1 h
  have h1 := hw.r1
  have h6 := hw.r6
  have g1 : 1 ≤ cols m := hw.c1
  have g6 : cols m ≤ 6 := hw.c6
  have r0 := hx.rlen h1
  rw [hw.len h1] at r0
  have w1 : IntKind.i64.wrap ((m.length : Int) - 1) = (m.length : Int) - 1 := wrap64 (by omega) (by omega)
  have w2 : IntKind.i64.wrap ((cols m : Int) - 1) = (cols m : Int) - 1 := wrap64 (by omega) (by omega)
  simp [shV, h, hx.len, w1, k61]
  by_cases hb1 : btw 0 r ((m.length : Int) - 1) = true
  rotate_left
  · have hb1' : btw 0 r ((m.length : Int) - 1) = false := by simpa using hb1
    simp [hb1', roomV, h, inR]
  simp [hb1, hx.get0 h1, hx.ld h1, r0, w2, k61]
  by_cases hb2 : btw 0 c ((cols m : Int) - 1) = true
  rotate_left
  · have hb2' : btw 0 c ((cols m : Int) - 1) = false := by simpa using hb2
    simp [hb2', roomV, h, inR]
  have hin : inR m r c = true := by simp [inR, hb1, hb2]
  obtain ⟨i, j, rfl, rfl, hi, hj⟩ := inR_spec hin
  have hal : (arts m).length = m.length := arts_len m
  have hml : (machs m).length = cols m := machs_len m
  have i1 : asI (.sl 1 (ints (arts m)) .exact) = some (arts m) := asI_sl (by omega)
  have i2 : asI (.sl 1 (ints (machs m)) .exact) = some (machs m) := asI_sl (by omega)
  have hi' : i < (arts m).length := by omega
  have hj' : j < (machs m).length := by omega
  have b1 := short_bd hw hse
  have b2 := hw.art _ (List.getElem_mem hi')
  have b3 := hw.mach _ (List.getElem_mem hj')
  have b4 := hw.tot
  have b5 : 0 ≤ short m seats * seats := Int.mul_nonneg b1.1 (by omega)
  have b6 : short m seats * seats ≤ 1085 * 6 := Int.mul_le_mul b1.2 hse.2 (by omega) (by omega)
  have w3 : IntKind.i64.wrap (short m seats - (arts m)[i]) = short m seats - (arts m)[i] := wrap64 (by omega) (by omega)
  have w4 : IntKind.i64.wrap (short m seats - (machs m)[j]) = short m seats - (machs m)[j] := wrap64 (by omega) (by omega)
  have w5 : IntKind.i64.wrap (short m seats * seats) = short m seats * seats := wrap64 (by omega) (by omega)
  have w6 : IntKind.i64.wrap (short m seats * seats - tot m) = short m seats * seats - tot m := wrap64 (by omega) (by omega)
  simp [hb2, k51 hw, tup3, aidx_nat i1 hi', w3, aidx_nat i2 hj', w4, w5, w6, amem, amin3, roomV, h, hin, hi', hj']
end Go.Proofs.Ytokgpcdbpkginaa
set_option linter.unusedVariables false
set_option linter.unusedSimpArgs false
namespace Go.Proofs.Ytokgpcdbpkginaa
open Go Fw

def maxL (m : List (List Int)) : Int := max (gtr 0 (arts m)) (gtr 0 (machs m))
def enoE (m : List (List Int)) (t : Int) : Int := if chkE m = 0 then (if t < 0 then 4 else if t < maxL m then 14 else 0) else chkE m
/-- how many seats of t hours hold n -/
def ceilN (n t : Int) : Int := if n = 0 then 0 else 1 + (n - 1) / t
def enoV (m : List (List Int)) (t : Int) : AV := if enoE m t = 0 then .tup [.int .i64 (ceilN (tot m) t), .int .i64 0] else .tup [.int .i64 0, .int .i64 (enoE m t)]
theorem enoV_plain (m : List (List Int)) (t : Int) : (enoV m t).plain = true := by unfold enoV; split <;> rfl
theorem enoV_14 {m : List (List Int)} {t : Int} (h : chkE m = 0) (h1 : ¬ t < 0) (h2 : t < maxL m) : enoV m t = .tup [.int .i64 0, .int .i64 14] := by
  have : enoE m t = 14 := by rw [enoE, if_pos h, if_neg h1, if_pos h2]
  rw [enoV, this]; rfl
theorem enoV_ok {m : List (List Int)} {t : Int} (h : chkE m = 0) (h1 : ¬ t < 0) (h2 : ¬ t < maxL m) : enoV m t = .tup [.int .i64 (ceilN (tot m) t), .int .i64 0] := by
  have : enoE m t = 0 := by rw [enoE, if_pos h, if_neg h1, if_neg h2]
  rw [enoV, this]; rfl
theorem sum_le_mx {l : List Int} (h : ∀ n ∈ l, 0 ≤ n) (h0 : l.sum ≠ 0) : 1 ≤ gtr 0 l := by
  rcases Int.lt_or_le 0 (gtr 0 l) with h1 | h1
  · omega
  · exfalso
    apply h0
    have : ∀ n ∈ l, n = 0 := fun n hn => by have := gtr_el (a := 0) hn; have := h n hn; omega
    clear h h0 h1
    induction l with
    | nil => rfl
    | cons a l ih => rw [List.sum_cons, this a (by simp), ih (fun n hn => this n (by simp [hn]))]; rfl
theorem gtr_hd {l : List Int} (h : ∀ n ∈ l, 0 ≤ n) (hl : 0 < l.length) : gtr (l.getD 0 0) (l.drop 1) = gtr 0 l := by
  cases l with
  | nil => simp at hl
  | cons a l =>
    have := h a (by simp)
    show gtr a l = gtr (max 0 a) l
    rw [show max 0 a = a by omega]
theorem maxL_bd {m : List (List Int)} (hw : OkW m) : 0 ≤ maxL m ∧ maxL m ≤ 180 := by
  have h1 := gtr_ge (arts m) 0
  have h2 := gtr_ge (machs m) 0
  have h4 := gtr_bd (a := 0) (b := 180) (l := arts m) (by omega) (fun n hn => (hw.art n hn).2)
  have h5 := gtr_bd (a := 0) (b := 180) (l := machs m) (by omega) (fun n hn => (hw.mach n hn).2)
  unfold maxL; omega
theorem ceil_bd {n t : Int} (hn : 0 ≤ n ∧ n ≤ 1080) (ht : n ≠ 0 → 1 ≤ t) : 0 ≤ ceilN n t ∧ ceilN n t ≤ 1080 := by
  unfold ceilN
  split
  · omega
  · rename_i h
    have h1 := ht h
    have h2 : 0 ≤ (n - 1) / t := Int.ediv_nonneg (by omega) (by omega)
    have h3 : (n - 1) / t ≤ n - 1 := Int.ediv_le_self _ (by omega)
    omega
theorem ceil_s {n t : Int} (hn : 0 < n) (ht : 1 ≤ t) : ceilN n t = 1 + ceilN (max 0 (n - t)) t := by
  unfold ceilN
  rw [if_neg (by omega)]
  by_cases h : n - t ≤ 0
  · rw [if_pos (by omega)]
    have : (n - 1) / t = 0 := Int.ediv_eq_zero_of_lt (by omega) (by omega)
    rw [this]
  · rw [if_neg (by omega), show max 0 (n - t) = n - t by omega]
    have : (n - 1) = (n - t - 1) + 1 * t := by omega
    rw [this, Int.add_mul_ediv_right _ _ (by omega)]; omega
theorem p27 {x : AV} {m : List (List Int)} {R : Nat → AV} (hx : IsM x m R) {t : Int} (ht : t ≤ 9223372036854775807) : PCall Try.prog 27 [x, .int .i64 t] (enoV m t) := by
  obtain ⟨C, hC, k39, k65, k67⟩ : ∃ C, CtxOk Try.prog C ∧ C 39 [x] = some (.int .i64 (chkE m)) ∧ (∀ y l, asI y = some l → ((∀ n ∈ l, 0 ≤ n) ∧ l.sum ≤ 1000000000) → C 65 [y, .fn (.func 66) [] []] = some (.int .i64 l.sum)) ∧ (∀ y l, asI y = some l → (0 < l.length) → C 67 [y] = some (.int .i64 (gtr (l.getD 0 0) (l.drop 1)))) := by
    obtain ⟨C, hC, k65, n65⟩ := ctx_lg (D0ok.pt (p39 hx)) (f := 65) (zs := [.fn (.func 66) [] []]) (fun (l : List Int) => (∀ n ∈ l, 0 ≤ n) ∧ l.sum ≤ 1000000000) (r := fun l => .int .i64 l.sum) (fun {y l} hy hg => p65 hy hg.1 hg.2)
    obtain ⟨C2, hC2, k67, n67⟩ := ctx_lg hC (f := 67) (zs := []) (fun (l : List Int) => 0 < l.length) (r := fun l => .int .i64 (gtr (l.getD 0 0) (l.drop 1))) (fun {y l} hy hg => p67 hy hg)
    exact ⟨C2, hC2, by rw [n67 39 (by decide), n65 39 (by decide)]; simp, fun y l a b => by rw [n67 65 (by decide)]; exact k65 y l a b, k67⟩
  refine PCall.of hC ok27 (by simp) (enoV_plain _ _) fun hs hb => ?_
  simp [A27, R27, k39]
  refine At.decn (fun h => ?_) (fun h => ?_)
  rotate_left
  · simp [enoV, enoE, h]
  have hw := chkE_zero.1 h
  simp
  refine At.dec (fun ht0 => ?_) (fun ht0 => ?_)
  · simp [enoV, enoE, h, ht0]
  simp
  refine At.hc (p62 hx hw _) ?_ (fun v hs' h => by obtain ⟨A, M, h, _⟩ := h; cases h)
  rintro v hs1 ⟨A, M, hv, hr⟩
  injection hv with hv; subst hv
  have hal : (arts m).length = m.length := arts_len m
  have hml : (machs m).length = cols m := machs_len m
  have h1 := hw.r1
  have h6 := hw.r6
  have g1 : 1 ≤ cols m := hw.c1
  have g6 : cols m ≤ 6 := hw.c6
  have hA : RdI hs1.nh hs1.heap A (arts m) := hr.a.rd (by omega)
  have hM : asI M = some (machs m) := hr.m.asI (by omega)
  have b4 := hw.tot
  have hal65 : alcall C 65 hs1 [A, .fn (.func 66) [] []] = some (.int .i64 (tot m)) := alcall_of (by
    have := k65 _ _ (hA.frz 1) ⟨fun n hn => (hw.art n hn).1, by have : (arts m).sum = tot m := rfl; omega⟩
    have e : (arts m).sum = tot m := rfl
    rw [e] at this
    simpa using this) rfl
  have hl1 : alcall C 67 hs1 [A] = some (.int .i64 (gtr 0 (arts m))) := alcall_of (by
    have := k67 _ _ (hA.frz 1) (by omega)
    rw [gtr_hd (fun n hn => (hw.art n hn).1) (by omega)] at this
    simpa using this) rfl
  have hl2 : alcall C 67 hs1 [M] = some (.int .i64 (gtr 0 (machs m))) := alcall_of (by
    have := k67 _ _ ((RdI.of (n := 0) (hp := hs1.heap) hM).frz 1) (by omega)
    rw [gtr_hd (fun n hn => (hw.mach n hn).1) (by omega)] at this
    simpa using this) rfl
  have hmx : (if gtr 0 (arts m) ≤ gtr 0 (machs m) then gtr 0 (machs m) else gtr 0 (arts m)) = maxL m := by simp only [maxL, Int.max_def]
  have hmx2 : max (gtr 0 (arts m)) (gtr 0 (machs m)) = maxL m := rfl
  simp [hal65, hl1, hl2, hmx2]
  refine At.dec (fun h2 => ?_) (fun h2 => ?_)
  · simp [enoV_14 h ht0 h2]
  simp
  refine At.dec (fun h3 => ?_) (fun h3 => ?_)
  · simp [enoV_ok h ht0 h2, ceilN, h3]
  have hmb := maxL_bd hw
  have h4 : 1 ≤ t := by
    have := sum_le_mx (l := arts m) (fun n hn => (hw.art n hn).1) h3
    have : gtr 0 (arts m) ≤ maxL m := by unfold maxL; omega
    omega
  have w1 : IntKind.i64.wrap (tot m - 1) = tot m - 1 := wrap64 (by omega) (by omega)
  have d0 : 0 ≤ (tot m - 1) / t := Int.ediv_nonneg (by omega) (by omega)
  have d1 : (tot m - 1) / t ≤ tot m - 1 := Int.ediv_le_self _ (by omega)
  have w2 : (tot m - 1).tdiv t = (tot m - 1) / t := Int.tdiv_eq_ediv_of_nonneg (by omega)
  have w3 : IntKind.i64.wrap ((tot m - 1) / t) = (tot m - 1) / t := wrap64 (by omega) (by omega)
  have w4 : IntKind.i64.wrap (1 + (tot m - 1) / t) = 1 + (tot m - 1) / t := wrap64 (by omega) (by omega)
  simp [w1, w2, w3, w4, show ¬ t = 0 by omega, enoV_ok h ht0 h2, ceilN, h3]
theorem p28 {x : AV} {m : List (List Int)} {R : Nat → AV} (hx : IsM x m R) {t : Int} (ht : t ≤ 9223372036854775807) : PCall Try.prog 28 [x, .int .i64 t] (enoV m t) := by
  obtain ⟨C, hC, k46, k51, k52⟩ : ∃ C, CtxOk Try.prog C ∧ C 46 [x] = some (.int .i64 (chkE m)) ∧ (OkW m → C 51 [x] = some (tup3 m)) ∧ (∀ y l, asI y = some l → C 52 [y] = some (.int .i64 (gtr 0 l))) := by
    obtain ⟨C, hC, h1, h2⟩ := ctx51 (D0ok.pt (p46 hx))
    obtain ⟨C', hC', h3, h4⟩ := ctx_l hC (f := 52) (zs := []) (r := fun l => .int .i64 (gtr 0 l)) (fun {y l} hy => p52 hy)
    exact ⟨C', hC', by rw [h4 46 (by decide), h2 46 (by decide)]; simp, fun hw => by rw [h4 51 (by decide)]; exact h1 _ _ hx.asM hw, h3⟩
  refine PCall.of hC ok28 (by simp) (enoV_plain _ _) fun hs hb => ?_
  simp [A28, R28, k46]
  by_cases h : chkE m = 0
  rotate_left
  · simp [enoV, enoE, h]
  have hw := chkE_zero.1 h
  simp [h]
  refine At.dec (fun ht0 => ?_) (fun ht0 => ?_)
  · simp [enoV, enoE, h, ht0]
  have hal : (arts m).length = m.length := arts_len m
  have hml : (machs m).length = cols m := machs_len m
  have h1 := hw.r1
  have h6 := hw.r6
  have g6 : cols m ≤ 6 := hw.c6
  have b4 := hw.tot
  have i1 : asI (.sl 1 (ints (arts m)) .exact) = some (arts m) := asI_sl (by omega)
  have i2 : asI (.sl 1 (ints (machs m)) .exact) = some (machs m) := asI_sl (by omega)
  have hmx2 : max (gtr 0 (arts m)) (gtr 0 (machs m)) = maxL m := rfl
  simp [k51 hw, tup3, k52 _ _ i1, k52 _ _ i2, hmx2]
  refine At.dec (fun h2 => ?_) (fun h2 => ?_)
  · simp [enoV_14 h ht0 h2]
  simp
  have hmb := maxL_bd hw
  have h4 : tot m ≠ 0 → 1 ≤ t := fun h3 => by
    have := sum_le_mx (l := arts m) (fun n hn => (hw.art n hn).1) h3
    have : gtr 0 (arts m) ≤ maxL m := by unfold maxL; omega
    omega
  refine At.loop (fun (n : Int) s => 0 ≤ max 0 n ∧ n ≤ tot m ∧ s.env 1 = .int .i64 t ∧ s.env 10 = .int .i64 (ceilN (tot m) t - ceilN (max 0 n) t) ∧ s.env 11 = .int .i64 n) (fun n => n.toNat) (tot m) ?_ ?_
  · exact ⟨by omega, by omega, by simp, by simp [show max 0 (tot m) = tot m by omega], by simp⟩
  rintro N n s hN ⟨hn, hn2, e1, e10, e11⟩
  simp [e11]
  refine At.dec (fun hlt => ?_) (fun hlt => ?_)
  · have ht1 := h4 (by omega)
    have hc := ceil_s (n := n) (t := t) (by omega) ht1
    have b1 := ceil_bd (n := tot m) (t := t) b4 h4
    have b2 := ceil_bd (n := max 0 n) (t := t) (by omega) (fun _ => ht1)
    have b3 := ceil_bd (n := max 0 (n - t)) (t := t) (by omega) (fun _ => ht1)
    rw [show max 0 n = n by omega] at e10 b2
    have w1 : IntKind.i64.wrap (ceilN (tot m) t - ceilN n t + 1) = ceilN (tot m) t - ceilN (max 0 (n - t)) t := by
      rw [wrap64 (by omega) (by omega)]; omega
    have w2 : IntKind.i64.wrap (n - t) = n - t := wrap64 (by omega) (by omega)
    simp [e1, e10, e11, w1, w2]
    refine hN (n - t) _ (by omega) ⟨by omega, by omega, by simp [e1], by simp, by simp⟩
  · have : max 0 n = 0 := by omega
    rw [this] at e10
    have hz : ceilN 0 t = 0 := by simp [ceilN]
    rw [hz] at e10
    simp [e10, enoV_ok h ht0 h2]
end Go.Proofs.Ytokgpcdbpkginaa
