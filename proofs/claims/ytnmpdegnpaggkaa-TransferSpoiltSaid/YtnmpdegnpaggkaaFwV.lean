/-
  Lists as values: taken, dropped, clipped, appended. Own work; over any program.
-/
import Derived.Test.YtnmpdegnpaggkaaFwU
set_option linter.unusedVariables false
set_option linter.unusedSimpArgs false
namespace Fw
open Go

/-- the elements of a slice, with a bound for their number -/
def asV (sz : Nat) : AV → Option (List AV)
  | .nilsl => some []
  | .sl sz' xs _ => if sz' = sz ∧ xs.length < 4294967296 then some xs else none
  | _ => none
theorem asV_inv {sz : Nat} {x : AV} {l : List AV} (h : asV sz x = some l) : ((x = .nilsl ∧ l = []) ∨ ∃ c, x = .sl sz l c) ∧ l.length < 4294967296 := by
  unfold asV at h
  split at h
  · injection h with h; subst h; exact ⟨.inl ⟨rfl, rfl⟩, by simp⟩
  · split at h <;> (try (cases h; done))
    rename_i hc
    obtain ⟨rfl, hl⟩ := hc
    injection h with h; subst h
    exact ⟨.inr ⟨_, rfl⟩, hl⟩
  · cases h
theorem asV_sl {sz : Nat} {l : List AV} {c : Cap} (h : l.length < 4294967296) : asV sz (.sl sz l c) = some l := by simp [asV, h]
@[simp] theorem asV_nil {sz : Nat} : asV sz .nilsl = some [] := id rfl
theorem asI_asV {x : AV} {l : List Int} (h : asI x = some l) : asV 1 x = some (ints l) := by
  have hl := asI_len h
  rcases asI_inv h with ⟨rfl, rfl⟩ | ⟨c, rfl⟩
  · rfl
  · exact asV_sl (by simpa using hl)
theorem asV_asI {x : AV} {l : List Int} (h : asV 1 x = some (ints l)) : asI x = some l := by
  obtain ⟨h1, h2⟩ := asV_inv h
  rcases h1 with ⟨rfl, h1⟩ | ⟨c, rfl⟩
  · cases l with
    | nil => rfl
    | cons a l => simp [ints] at h1
  · exact asI_sl (by simpa using h2)
theorem lenV {sz : Nat} {x : AV} {l : List AV} (h : asV sz x = some l) : alenK false x = some (.int .i64 l.length) := by
  rcases (asV_inv h).1 with ⟨rfl, rfl⟩ | ⟨c, rfl⟩ <;> rfl
theorem idxV {sz : Nat} {x : AV} {l : List AV} (h : asV sz x = some l) {k : IntKind} {i : Nat} (hi : i < l.length) : aidxS sz x (.int k (i : Int)) = some (.ptr l[i]) := by
  rcases (asV_inv h).1 with ⟨rfl, rfl⟩ | ⟨c, rfl⟩
  · simp at hi
  · simp [aidxS, hi]
@[simp] theorem load_ptr_pair {hp : Nat → Option (List AV)} {a b : AV} : aload hp true 2 (.ptr (.agg [a, b])) = some (.agg [a, b]) := id rfl
@[simp] theorem load_ptr_sl {hp : Nat → Option (List AV)} {sz : Nat} {xs : List AV} {c : Cap} : aload hp false 1 (.ptr (.sl sz xs c)) = some (.sl sz xs c) := id rfl
@[simp] theorem load_ptr_nil {hp : Nat → Option (List AV)} : aload hp false 1 (.ptr .nilsl) = some .nilsl := id rfl
theorem load_ptr_list {hp : Nat → Option (List AV)} {x : AV} {sz : Nat} {l : List AV} (h : asV sz x = some l) : aload hp false 1 (.ptr x) = some x := by
  rcases (asV_inv h).1 with ⟨rfl, rfl⟩ | ⟨c, rfl⟩ <;> rfl

/-! parts of slices -/
def takeV (n : Nat) : AV → AV
  | .sl sz xs _ => .sl sz (xs.take n) .shared
  | x => x
def dropV (n : Nat) : AV → AV
  | .sl sz xs c => .sl sz (xs.drop n) c
  | x => x
def clipV : AV → AV
  | .sl sz xs _ => .sl sz xs .exact
  | x => x
theorem slice_take {sz : Nat} {x : AV} {l : List AV} (h : asV sz x = some l) {n : Nat} (hn : n ≤ l.length) {k : IntKind} : aslice sz x none (some (.int k (n : Int))) none = some (takeV n x) := by
  rcases (asV_inv h).1 with ⟨rfl, rfl⟩ | ⟨c, rfl⟩
  · simp at hn; subst hn; rfl
  · simp [aslice, aidx, asliceL, takeV, hn]
theorem slice_drop {sz : Nat} {x : AV} {l : List AV} (h : asV sz x = some l) {n : Nat} (hn : n ≤ l.length) {k : IntKind} : aslice sz x (some (.int k (n : Int))) none none = some (dropV n x) := by
  rcases (asV_inv h).1 with ⟨rfl, rfl⟩ | ⟨c, rfl⟩
  · simp at hn; subst hn; rfl
  · simp [aslice, aidx, asliceL, dropV, hn]
theorem slice_clip {sz : Nat} {x : AV} {l : List AV} (h : asV sz x = some l) {k : IntKind} : aslice sz x none (some (.int k (l.length : Int))) (some (.int k (l.length : Int))) = some (clipV x) := by
  rcases (asV_inv h).1 with ⟨rfl, rfl⟩ | ⟨c, rfl⟩
  · rfl
  · simp [aslice, aidx, asliceL, clipV]
theorem asV_take {sz : Nat} {x : AV} {l : List AV} (h : asV sz x = some l) (n : Nat) : asV sz (takeV n x) = some (l.take n) := by
  obtain ⟨h1, h2⟩ := asV_inv h
  rcases h1 with ⟨rfl, rfl⟩ | ⟨c, rfl⟩
  · simp [takeV]
  · exact asV_sl (by simp; omega)
theorem asV_drop {sz : Nat} {x : AV} {l : List AV} (h : asV sz x = some l) (n : Nat) : asV sz (dropV n x) = some (l.drop n) := by
  obtain ⟨h1, h2⟩ := asV_inv h
  rcases h1 with ⟨rfl, rfl⟩ | ⟨c, rfl⟩
  · simp [dropV]
  · exact asV_sl (by simp; omega)
theorem asV_clip {sz : Nat} {x : AV} {l : List AV} (h : asV sz x = some l) : asV sz (clipV x) = some l := by
  obtain ⟨h1, h2⟩ := asV_inv h
  rcases h1 with ⟨rfl, rfl⟩ | ⟨c, rfl⟩
  · simp [clipV]
  · exact asV_sl h2
theorem ints_take (l : List Int) (n : Nat) : (ints l).take n = ints (l.take n) := by simp [ints, List.map_take]
theorem ints_drop (l : List Int) (n : Nat) : (ints l).drop n = ints (l.drop n) := by simp [ints, List.map_drop]
theorem asI_take {x : AV} {l : List Int} (h : asI x = some l) (n : Nat) : asI (takeV n x) = some (l.take n) := asV_asI (by rw [asV_take (asI_asV h), ints_take])
theorem asI_drop {x : AV} {l : List Int} (h : asI x = some l) (n : Nat) : asI (dropV n x) = some (l.drop n) := asV_asI (by rw [asV_drop (asI_asV h), ints_drop])
theorem asI_clip {x : AV} {l : List Int} (h : asI x = some l) : asI (clipV x) = some l := asV_asI (asV_clip (asI_asV h))
theorem ints_len (l : List Int) : (ints l).length = l.length := by simp [ints]

/-! slices that are built by appending -/
/-- may be appended to -/
def Fresh (hs : HS) : AV → Prop
  | .nilsl => True
  | .sl _ _ .exact => True
  | .sl _ _ (.own k) => hs.tok k = true ∧ k < hs.nt
  | _ => False
/-- how a built slice reads from outside: nil before the first element -/
def outV (sz : Nat) : List AV → AV
  | [] => .nilsl
  | l => .sl sz l .shared
/-- a slice under way that reads as a list from outside -/
structure Outs (sz : Nat) (hs : HS) (x : AV) (l : List AV) : Prop where
  fresh : Fresh hs x
  sh : x.share = outV sz l
theorem Outs.nil {sz : Nat} {hs : HS} : Outs sz hs .nilsl [] := ⟨trivial, by simp [outV]⟩
theorem outV_ne {sz : Nat} {l : List AV} (h : l ≠ []) : outV sz l = .sl sz l .shared := by cases l with | nil => exact absurd rfl h | cons a l => rfl
/-- what was appendable remains so -/
structure KeepT (hs hs' : HS) : Prop where
  nt : hs.nt ≤ hs'.nt
  tok : ∀ k, k < hs.nt → hs.tok k = true → hs'.tok k = true
theorem KeepT.refl (hs : HS) : KeepT hs hs := ⟨Nat.le_refl _, fun _ _ h => h⟩
theorem KeepT.trans {a b c : HS} (h : KeepT a b) (h' : KeepT b c) : KeepT a c := ⟨Nat.le_trans h.nt h'.nt, fun k hk ht => h'.tok k (Nat.lt_of_lt_of_le hk h.nt) (h.tok k hk ht)⟩
theorem Outs.keep {sz : Nat} {hs hs' : HS} {x : AV} {l : List AV} (h : Outs sz hs x l) (ht : KeepT hs hs') : Outs sz hs' x l := by
  refine ⟨?_, h.sh⟩
  have := h.fresh
  revert this
  unfold Fresh
  split <;> intro h
  · trivial
  · trivial
  · exact ⟨ht.tok _ h.2 h.1, Nat.lt_of_lt_of_le h.2 ht.nt⟩
  · exact h
theorem Outs.cong {sz : Nat} {hs hs' : HS} {x : AV} {l : List AV} (h : Outs sz hs x l) (ht : hs'.tok = hs.tok) (hn : hs'.nt = hs.nt) : Outs sz hs' x l := h.keep ⟨by omega, fun k _ h => by rw [ht]; exact h⟩
theorem Outs.inv {sz : Nat} {hs : HS} {x : AV} {l : List AV} (h : Outs sz hs x l) : (x = .nilsl ∧ l = []) ∨ ∃ xs k, x = .sl sz xs (.own k) ∧ (hs.tok k = true ∧ k < hs.nt) ∧ xs.map AV.share = l ∧ l ≠ [] := by
  obtain ⟨h1, h2⟩ := h
  cases l with
  | nil =>
    cases x <;> simp_all [outV, AV.share]
  | cons a l =>
    cases x <;> simp_all [outV, AV.share]
    rename_i sz' xs c
    cases c <;> simp_all [Fresh, Cap.share, shareL_map]
    exact ⟨_, _, ⟨rfl, rfl⟩, h1, h2.2⟩
/-- a state in which only the appendable places differ -/
structure SameMem (hs hs' : HS) : Prop where
  heap : hs'.heap = hs.heap
  nh : hs'.nh = hs.nh
theorem SameMem.refl (hs : HS) : SameMem hs hs := ⟨rfl, rfl⟩
theorem SameMem.trans {a b c : HS} (h : SameMem a b) (h' : SameMem b c) : SameMem a c := ⟨h'.heap.trans h.heap, h'.nh.trans h.nh⟩
theorem elems_of {sz : Nat} {q : AV} {ys : List AV} (hq : asV sz q = some ys) : aelems q = some ys ∧ aszOk sz q = true := by
  rcases (asV_inv hq).1 with ⟨rfl, rfl⟩ | ⟨c, rfl⟩
  · exact ⟨rfl, rfl⟩
  · exact ⟨rfl, by simp [aszOk]⟩
def appP (sz : Nat) (hs : HS) (xs ys : List AV) : AV → Option (AV × HS)
  | .nilsl => some (.sl sz ys (.own hs.nt), { hs with nt := hs.nt + 1, tok := fun t => if t = hs.nt then true else hs.tok t })
  | .sl _ _ .exact => some (.sl sz (xs ++ ys) (.own hs.nt), { hs with nt := hs.nt + 1, tok := fun t => if t = hs.nt then true else hs.tok t })
  | .sl _ _ (.own k) => if hs.tok k = true then some (.sl sz (xs ++ ys) (.own hs.nt), { hs with nt := hs.nt + 1, tok := fun t => if t = hs.nt then true else if t = k then false else hs.tok t }) else none
  | _ => none
theorem append_eq {sz : Nat} {hs : HS} {p q : AV} {xs ys : List AV} (hp : aelems p = some xs) (hq : aelems q = some ys) (h1 : aszOk sz p = true) (h2 : aszOk sz q = true) (hl : xs.length + ys.length ≤ 1073741824) :
    aappend sz hs p q = if ys = [] then some (p, hs) else appP sz hs xs ys p := by
  unfold aappend
  rw [hp, hq]
  simp only [h1, h2, hl, and_self, if_true]
  rfl
theorem append_outs {sz : Nat} {hs : HS} {x q : AV} {l ys : List AV} (h : Outs sz hs x l) (hq : asV sz q = some ys) (hl : l.length + ys.length ≤ 1073741824) :
    ∃ y hs', aappend sz hs x q = some (y, hs') ∧ Outs sz hs' y (l ++ ys.map AV.share) ∧ SameMem hs hs' := by
  obtain ⟨e1, e2⟩ := elems_of hq
  rcases h.inv with ⟨rfl, rfl⟩ | ⟨xs, k, rfl, htk, rfl, hne⟩
  · rw [append_eq (xs := []) rfl e1 rfl e2 (by simpa using hl)]
    split
    · rename_i hy; subst hy; exact ⟨_, _, rfl, .nil, .refl _⟩
    · rename_i hy
      refine ⟨_, _, rfl, ⟨by simp [Fresh], ?_⟩, ⟨rfl, rfl⟩⟩
      rw [outV_ne (by simpa using hy)]
      simp
  · rw [append_eq (xs := xs) rfl e1 (by simp [aszOk]) e2 (by simpa using hl)]
    split
    · rename_i hy; subst hy; exact ⟨_, _, rfl, by simpa using h, .refl _⟩
    · rename_i hy
      simp only [appP, htk.1, if_true]
      refine ⟨_, _, rfl, ⟨by simp [Fresh], ?_⟩, ⟨rfl, rfl⟩⟩
      rw [outV_ne (by simp [hy])]
      simp
/-- appending to an exact slice -/
theorem append_exact {sz : Nat} {hs : HS} {xs ys : List AV} {q : AV} (hq : asV sz q = some ys) (hl : xs.length + ys.length ≤ 1073741824) (hne : ys ≠ []) :
    ∃ hs', aappend sz hs (.sl sz xs .exact) q = some (.sl sz (xs ++ ys) (.own hs.nt), hs') ∧ hs'.tok hs.nt = true ∧ SameMem hs hs' ∧ KeepT hs hs' ∧ hs'.nt = hs.nt + 1 := by
  obtain ⟨e1, e2⟩ := elems_of hq
  rw [append_eq (xs := xs) rfl e1 (by simp [aszOk]) e2 hl, if_neg hne]
  exact ⟨_, rfl, by simp, ⟨rfl, rfl⟩, ⟨by simp, fun k hk h => by simp [h]⟩, rfl⟩
/-- a copy of a list, and one more element -/
theorem copy_snoc {hs : HS} {x : AV} {c : List Int} (hx : asI x = some c) (hne : c ≠ []) (hl : c.length ≤ 1000) (n : Int) :
    ∃ y1 hs1 y hs2, aappend 1 hs (.sl 1 [] .exact) x = some (y1, hs1) ∧ aappend 1 hs1 y1 (.sl 1 [.int .i64 n] .exact) = some (y, hs2) ∧ asI y = some (c ++ [n]) ∧ SameMem hs hs2 ∧ KeepT hs hs2 := by
  obtain ⟨hs1, a1, a2, a3, a4, a5⟩ := append_exact (sz := 1) (hs := hs) (xs := []) (q := x) (ys := ints c) (asI_asV hx) (by simp [ints]; omega) (by simpa [ints] using hne)
  obtain ⟨e1, e2⟩ := elems_of (sz := 1) (q := .sl 1 [.int .i64 n] .exact) (ys := [.int .i64 n]) (asV_sl (by simp))
  refine ⟨_, hs1, .sl 1 (ints c ++ [.int .i64 n]) (.own hs1.nt), { hs1 with nt := hs1.nt + 1, tok := fun t => if t = hs1.nt then true else if t = hs.nt then false else hs1.tok t }, a1, ?_, ?_, ⟨?_, ?_⟩, ⟨?_, ?_⟩⟩
  · rw [append_eq (xs := ints c) (by rfl) e1 (by simp [aszOk]) e2 (by simp [ints]; omega), if_neg (by simp)]
    simp only [appP, List.nil_append]
    rw [if_pos a2]
  · have : ints c ++ [.int .i64 n] = ints (c ++ [n]) := by simp [ints]
    rw [this]
    exact asI_sl (by simp; omega)
  · exact a3.heap
  · exact a3.nh
  · show hs.nt ≤ hs1.nt + 1
    omega
  · intro k hk h
    have := a4.tok k hk h
    show (if k = hs1.nt then true else if k = hs.nt then false else hs1.tok k) = true
    rw [if_neg (by omega), if_neg (by omega)]
    exact this
theorem mem_take_of {α : Type} {l : List α} {i j : Nat} (hj : j < i) (h : j < l.length) : l[j] ∈ l.take i := List.mem_take_iff_getElem.2 ⟨j, by omega, rfl⟩
theorem idxOf_of {l : List Int} {n : Int} {i : Nat} (hi : i < l.length) (e : l[i] = n) (hn : n ∉ l.take i) : l.idxOf n = i := by
  rw [List.idxOf.eq_1]
  refine (List.findIdx_eq hi).2 ⟨by simp [e], fun j hj => ?_⟩
  simp only [beq_eq_false_iff_ne, ne_eq]
  intro h
  exact hn (h ▸ mem_take_of hj (by omega))
/-! pairs of integers -/
abbrev prs (l : List (Int × Int)) : List AV := l.map fun p => .agg [.int .i64 p.1, .int .i64 p.2]
theorem plain_prs (l : List (Int × Int)) : plainL (prs l) = true := by
  induction l with
  | nil => rfl
  | cons a l ih => simp only [prs, List.map_cons, plainL, AV.plain, Bool.true_and, Bool.and_self]; exact ih
theorem take_eq_succ {α : Type} {a b : List α} {i : Nat} (h1 : i < a.length) (h2 : i < b.length) (h : a.take i = b.take i) (e : a[i] = b[i]) : a.take (i + 1) = b.take (i + 1) := by
  rw [take_snoc h1, take_snoc h2, h, e]
theorem ne_of_get {α : Type} {a b : List α} {i : Nat} (h1 : i < a.length) (h2 : i < b.length) (e : ¬ a[i] = b[i]) : a ≠ b := by
  intro h; subst h; exact e rfl
/-! blocks of two -/
@[simp] theorem store_new {hp : Nat → Option (List AV)} {i : Nat} {u v : AV} {k1 k2 : IntKind} {a b : Int} : astore (fun k => if k = i then some [u, v] else hp k) 2 (.ref i 0) (.agg [.int k1 a, .int k2 b]) = some (fun k => if k = i then some [.int k1 a, .int k2 b] else if k = i then some [u, v] else hp k) := by
  simp [astore, AV.sto, AV.cells, AV.leaf, setL]
@[simp] theorem idxA_ref0 {i : Nat} {k : IntKind} : aidxA 2 false 1 (.ref i 0) (.int k 0) = some (.ref i 0) := by simp [aidxA, afaddr]
@[simp] theorem idxA_ref1 {i : Nat} {k : IntKind} : aidxA 2 false 1 (.ref i 0) (.int k 1) = some (.ref i 1) := by simp [aidxA, afaddr]
@[simp] theorem load_ref_0 {hp : Nat → Option (List AV)} {i : Nat} {a b : AV} : aload (fun k => if k = i then some [a, b] else hp k) false 1 (.ref i 0) = some a := by simp [aload, apart]
@[simp] theorem load_ref_1 {hp : Nat → Option (List AV)} {i : Nat} {a b : AV} : aload (fun k => if k = i then some [a, b] else hp k) false 1 (.ref i 1) = some b := by simp [aload, apart]
@[simp] theorem index_pair0 {k : IntKind} {a b : AV} : aindex 2 false 1 (.agg [a, b]) (.int k 0) = some a := by simp [aindex, apart]
@[simp] theorem index_pair1 {k : IntKind} {a b : AV} : aindex 2 false 1 (.agg [a, b]) (.int k 1) = some b := by simp [aindex, apart]

/-! the first error of a row of checks -/
def firstE (f : Nat → Int) : Nat → Int
  | 0 => 0
  | n + 1 => if firstE f n ≠ 0 then firstE f n else f n
theorem firstE_zero {f : Nat → Int} {n : Nat} (h : ∀ k, k < n → f k = 0) : firstE f n = 0 := by
  induction n with
  | zero => rfl
  | succ n ih => simp [firstE, ih (fun k hk => h k (by omega)), h n (by omega)]
theorem firstE_hit {f : Nat → Int} {i : Nat} (h : ∀ k, k < i → f k = 0) (he : f i ≠ 0) : ∀ {n : Nat}, i < n → firstE f n = f i := by
  intro n
  induction n with
  | zero => intro hi; omega
  | succ n ih =>
    intro hi
    rcases Nat.lt_or_ge i n with h' | h'
    · simp [firstE, ih h', he]
    · have : i = n := by omega
      subst this
      simp [firstE, firstE_zero h]
theorem firstE_all {f : Nat → Int} {n : Nat} (h : firstE f n = 0) : ∀ k, k < n → f k = 0 := by
  induction n with
  | zero => intro k hk; omega
  | succ n ih =>
    intro k hk
    simp only [firstE] at h
    split at h
    · rename_i h'; exact absurd h h'
    · rename_i h'
      rcases Nat.lt_or_ge k n with hk' | hk'
      · exact ih (by simpa using h') k hk'
      · have : k = n := by omega
        subst this; exact h
theorem pair_of_adj {l : List Int} (h : ∀ k (hk : k + 1 < l.length), l[k] < l[k + 1]) : l.Pairwise (· < ·) := by
  rw [List.pairwise_iff_getElem]
  intro i j hi hj hij
  induction j with
  | zero => omega
  | succ j ih =>
    rcases Nat.lt_or_ge i j with h' | h'
    · have := ih (by omega) h'; have := h j hj; omega
    · have : i = j := by omega
      subst this; exact h i hj
/-! pairs behind pointers -/
@[simp] theorem faddr_p0 {a b : AV} : afaddr false 1 0 (.ptr (.agg [a, b])) = some (.ptr a) := by simp [afaddr, apart, AV.cells]
@[simp] theorem faddr_p1 {a b : AV} : afaddr false 1 1 (.ptr (.agg [a, b])) = some (.ptr b) := by simp [afaddr, apart, AV.cells]
@[simp] theorem sto_pair {k1 k2 : IntKind} {a b : Int} : (AV.agg [.int k1 a, .int k2 b]).sto = true := by simp [AV.sto, AV.leaf]
@[simp] theorem sto_int {k1 : IntKind} {a : Int} : (AV.int k1 a).sto = true := by simp [AV.sto, AV.leaf]
@[simp] theorem amin_int {k : IntKind} {a b : Int} : amin (.int k a) (.int k b) = some (.int k (if a ≤ b then a else b)) := by simp [amin, Int.min_def]
@[simp] theorem amax_int {k : IntKind} {a b : Int} : amax (.int k a) (.int k b) = some (.int k (if a ≤ b then b else a)) := by simp [amax, Int.max_def]
theorem any_take_succ {α : Type} {l : List α} {i : Nat} (hi : i < l.length) {f : α → Bool} : (l.take (i + 1)).any f = ((l.take i).any f || f l[i]) := by rw [take_snoc hi]; simp only [List.any_append, List.any_cons, List.any_nil, Bool.or_false]
/-! calls that use the caller's memory -/
theorem At.hc {P : Program} {f : FuncId} {args : List AV} {d : Option Nat} {K : AS → Prop} {Q : AEx → AS → Prop} {s : AS} {R : AEnd → HS → Prop} (h : FCall P f args s.hs R)
    (h1 : ∀ v hs', R (.ret v) hs' → At (K ((⟨s.env, hs'⟩ : AS).put d v))) (h2 : ∀ v hs', R (.panic v) hs' → At (Q (.panic v) ⟨s.env, hs'⟩)) : At (hcW P f args d K Q s) :=
  h.mono fun e hs' he => by cases e <;> first | exact h1 _ _ he | exact h2 _ _ he
@[simp] theorem At.cv {P : Program} {f : FuncId} {xs ys args : List AV} {d : Option Nat} {K : AS → Prop} {Q : AEx → AS → Prop} {s : AS} : At (cvW P (.fn (.func f) xs ys) args d K Q s) = At (hcW P f (xs ++ args ++ ys) d K Q s) := id rfl
@[simp] theorem At.pn {t : TypeId} {v : AV} {Q : AEx → AS → Prop} {s : AS} : At (pnW (.iface t v) Q s) = At (Q (.panic (.iface t v)) s) := id rfl
/-- memory that has grown, with all that was there as it was -/
structure HsExt (hs hs' : HS) : Prop where
  nh : hs.nh ≤ hs'.nh
  heap : ∀ i, i < hs.nh → hs'.heap i = hs.heap i
theorem HsExt.refl (hs : HS) : HsExt hs hs := ⟨Nat.le_refl _, fun _ _ => rfl⟩
theorem HsExt.trans {a b c : HS} (h : HsExt a b) (h' : HsExt b c) : HsExt a c := ⟨Nat.le_trans h.nh h'.nh, fun i hi => by rw [h'.heap i (Nat.lt_of_lt_of_le hi h.nh), h.heap i hi]⟩
theorem HsExt.same {a b : HS} (h : SameMem a b) : HsExt a b := ⟨by rw [h.nh]; exact Nat.le_refl _, fun i _ => by rw [h.heap]⟩
@[simp] theorem faddr_t0 {a b c : AV} : afaddr false 1 0 (.ptr (.agg [a, b, c])) = some (.ptr a) := by simp [afaddr, apart, AV.cells]
@[simp] theorem faddr_t1 {a b c : AV} : afaddr false 1 1 (.ptr (.agg [a, b, c])) = some (.ptr b) := by simp [afaddr, apart, AV.cells]
@[simp] theorem faddr_t2 {a b c : AV} : afaddr false 1 2 (.ptr (.agg [a, b, c])) = some (.ptr c) := by simp [afaddr, apart, AV.cells]
@[simp] theorem load_ptr_three {hp : Nat → Option (List AV)} {a b c : AV} : aload hp true 3 (.ptr (.agg [a, b, c])) = some (.agg [a, b, c]) := by simp [aload, apart, AV.cells]
theorem At.app_exact {sz : Nat} {hs : HS} {xs ys : List AV} {q : AV} {K : AV × HS → Prop} (hq : asV sz q = some ys) (hl : xs.length + ys.length ≤ 1073741824) (hne : ys ≠ [])
    (h : ∀ hs', hs'.tok hs.nt = true → SameMem hs hs' → KeepT hs hs' → At (K (.sl sz (xs ++ ys) (.own hs.nt), hs'))) : At (optK (aappend sz hs (.sl sz xs .exact) q) K) := by
  obtain ⟨hs', q1, q2, q3, q4, q5⟩ := append_exact (hs := hs) hq hl hne
  rw [q1]
  exact h hs' q2 q3 q4
/-! pieces of code -/
def cAt : List Bool → Code → Code
  | [], c => c
  | false :: p, .seq a _ => cAt p a
  | true :: p, .seq _ b => cAt p b
  | _, c => c
/-! blocks of one -/
theorem store_one {hp : Nat → Option (List AV)} {i : Nat} {u v : AV} (h : hp i = some [u]) (hv : v.sto = true) (hc : v.cells = [v]) : astore hp 1 (.ref i 0) v = some (fun k => if k = i then some [v] else hp k) := by
  simp [astore, h, hv, hc, setL]
theorem load_one {hp : Nat → Option (List AV)} {i : Nat} {u : AV} (h : hp i = some [u]) : aload hp false 1 (.ref i 0) = some u := by simp [aload, apart, h]
@[simp] theorem sto_sl {sz : Nat} {xs : List AV} {c : Cap} : (AV.sl sz xs c).sto = true := by simp [AV.sto, AV.leaf]
@[simp] theorem sto_nil : AV.nilsl.sto = true := by simp [AV.sto, AV.leaf]
@[simp] theorem cells_sl {sz : Nat} {xs : List AV} {c : Cap} : (AV.sl sz xs c).cells = [.sl sz xs c] := by simp [AV.cells]
@[simp] theorem cells_nil : AV.nilsl.cells = [.nilsl] := by simp [AV.cells]
@[simp] theorem cells_int {k : IntKind} {n : Int} : (AV.int k n).cells = [.int k n] := by simp [AV.cells]
end Fw
