/-
  Conversions, literals, small builtins: that each one's run reads as its abstract result. Own work; over any program.
-/
import Derived.Test.YtnmpdegnpaggkaaFwH
set_option linter.unusedVariables false
set_option linter.unusedSimpArgs false
namespace Fw
open Go

def aun : UnOp → AV → Option AV
  | .not, .bool b => some (.bool (!b))
  | .neg, .int k n => some (.int k (k.wrap (0 - n)))
  | _, _ => none
theorem sound_un {P : Program} {op : UnOp} {c : CM} {s : HS} {w : World} (h : Inv c s w) {v : Value} {p x : AV} (hp : Rep c v p) (hx : aun op p = some x) : DoneS P c w (Op.unary op v) x s := by
  cases op <;> cases hp <;> simp only [aun] at hx <;> (try (cases hx; done)) <;> (injection hx with hx; subst hx)
  · exact .pure h rfl (.int _ _)
  · exact .pure h rfl (.bool _)

def aconv (k : IntKind) : AV → Option AV
  | .int _ n => some (.int k (k.wrap n))
  | _ => none
theorem sound_conv {P : Program} {src dst : TypeId} {k : IntKind} {d : TypeDesc} (hs : P.underlying src = some d) (hd : P.underlying dst = some (.int k)) {c : CM} {s : HS} {w : World} (h : Inv c s w) {v : Value} {p x : AV} (hp : Rep c v p) (hx : aconv k p = some x) : DoneS P c w (convert src dst v) x s := by
  cases hp <;> simp only [aconv] at hx <;> (try (cases hx; done)) <;> (injection hx with hx; subst hx)
  rename_i k' n
  refine .pure h (v := .int k (k.wrap n)) ?_ (.int _ _)
  simp [convert, run_underlying hs, run_underlying hd, Conv.intToInt]

def amin : AV → AV → Option AV
  | .int k x, .int k' y => if k = k' then some (.int k (min x y)) else none
  | _, _ => none
def amax : AV → AV → Option AV
  | .int k x, .int k' y => if k = k' then some (.int k (max x y)) else none
  | _, _ => none
theorem sound_min {P : Program} {ts : Array TypeId} {ty : TypeId} {c : CM} {s : HS} {w : World} (h : Inv c s w) {v u : Value} {p q x : AV} (hp : Rep c v p) (hq : Rep c u q) (hx : amin p q = some x) : DoneS P c w (Builtin.min_ ts ty #[v, u]) x s := by
  cases hp <;> cases hq <;> simp only [amin] at hx <;> (try (cases hx; done))
  rename_i k a k' b
  split at hx <;> (try (cases hx; done))
  injection hx with hx; subst hx
  refine .pure h (v := .int k (min a b)) ?_ (.int _ _)
  simp only [Builtin.min_, List.foldlM, Builtin.min2]
  by_cases hb : b < a
  · simp [hb, Int.min_eq_right (Int.le_of_lt hb)]
  · simp [hb, Int.min_eq_left (Int.not_lt.1 hb)]
theorem sound_max {P : Program} {ts : Array TypeId} {ty : TypeId} {c : CM} {s : HS} {w : World} (h : Inv c s w) {v u : Value} {p q x : AV} (hp : Rep c v p) (hq : Rep c u q) (hx : amax p q = some x) : DoneS P c w (Builtin.max_ ts ty #[v, u]) x s := by
  cases hp <;> cases hq <;> simp only [amax] at hx <;> (try (cases hx; done))
  rename_i k a k' b
  split at hx <;> (try (cases hx; done))
  injection hx with hx; subst hx
  refine .pure h (v := .int k (max a b)) ?_ (.int _ _)
  simp only [Builtin.max_, List.foldlM, Builtin.max2]
  by_cases hb : a < b
  · simp [hb, Int.max_eq_right (Int.le_of_lt hb)]
  · simp [hb, Int.max_eq_left (Int.not_lt.1 hb)]

theorem sound_mkif {P : Program} {t : TypeId} {d : TypeDesc} (hd : P.underlying t = some d) (hn : (match d with | .interface _ => true | _ => false) = false) {c : CM} {s : HS} {w : World} (h : Inv c s w) {v : Value} {p : AV} (hp : Rep c v p) : DoneS P c w (Instr.makeInterface t v) (.iface t p) s := by
  refine .pure h (v := .iface t v) ?_ (.iface t v p hp)
  simp only [Instr.makeInterface, Sem.run_bind, run_underlying hd, Result.andThen_ok]
  cases d <;> first | rfl | (simp at hn)

/-! literals: parts laid over zeros -/
def setV : List Value → Nat → List Value → List Value
  | ys, _, [] => ys
  | ys, o, x :: xs => setV (ys.set o x) (o + 1) xs
theorem setV_length : ∀ (xs ys : List Value) (o : Nat), (setV ys o xs).length = ys.length
  | [], _, _ => rfl
  | x :: xs, ys, o => by simp [setV, setV_length xs]
theorem RepL.set {c : CM} {vs : List Value} {xs : List AV} (h : RepL c vs xs) (o : Nat) {v : Value} {x : AV} (hv : Rep c v x) : RepL c (vs.set o v) (xs.set o x) := by
  refine ⟨by simp [h.1], fun j a y h1 h2 => ?_⟩
  rw [List.getElem?_set] at h1 h2
  by_cases ho : o = j
  · subst ho
    simp only [if_true] at h1 h2
    split at h1 <;> (try (cases h1; done))
    split at h2 <;> (try (cases h2; done))
    injection h1 with h1; injection h2 with h2
    subst h1; subst h2; exact hv
  · simp only [ho, if_false] at h1 h2
    exact h.2 j a y h1 h2
theorem RepL.setL {c : CM} : ∀ (xs : List AV) (vs : List Value) (ys : List AV) (us : List Value) (o : Nat), RepL c us ys → RepL c vs xs → RepL c (setV us o vs) (setL ys o xs)
  | [], vs, ys, us, o, h, hr => by rw [hr.nil_inv]; exact h
  | x :: xs, vs, ys, us, o, h, hr => by
    obtain ⟨v, vs', rfl, hv, hvs⟩ := hr.cons_inv
    exact RepL.setL xs vs' _ _ _ (h.set o hv) hvs
theorem setL_leaf : ∀ (xs ys : List AV) (o : Nat), (∀ (j : Nat) (y : AV), xs[j]? = some y → y.leaf = true) → (∀ (j : Nat) (y : AV), ys[j]? = some y → y.leaf = true) → ∀ (j : Nat) (y : AV), (setL ys o xs)[j]? = some y → y.leaf = true
  | [], _, _, _, h => h
  | x :: xs, ys, o, h1, h2 => setL_leaf xs _ _ (fun j y hy => h1 (j + 1) y (by simpa using hy)) (fun j y hy => by
      rw [List.getElem?_set] at hy
      by_cases ho : o = j
      · simp only [ho, if_true] at hy
        split at hy <;> (try (cases hy; done))
        injection hy with hy; subst hy
        exact h1 0 _ rfl
      · simp only [ho, if_false] at hy
        exact h2 j y hy)

theorem foldl_set (vs : List Value) : ∀ (o k : Nat) (cs : Array Value), ((vs.zipIdx k).foldl (fun (cs : Array Value) (p : Value × Nat) => cs.setIfInBounds (o + p.2) p.1) cs).toList = setV cs.toList (o + k) vs := by
  induction vs with
  | nil => intro o k cs; rfl
  | cons v vs ih =>
    intro o k cs
    simp only [List.zipIdx_cons, List.foldl_cons, setV]
    rw [ih]
    simp [Nat.add_assoc]

/-- parts (place, size, value) laid over cells -/
def afill : List AV → List (Nat × Nat × AV) → Option (List AV)
  | zs, [] => some zs
  | zs, (off, sz, x) :: ps => if x.sto = true ∧ x.cells.length = sz ∧ off + sz ≤ zs.length then afill (setL zs off x.cells) ps else none

theorem sound_fill {c : CM} (place : Nat → Option (Nat × Nat)) : ∀ (ps : List (Nat × Nat × AV)) (qs : List (Nat × Value)) (zs r : List AV) (cs : Array Value), RepL c cs.toList zs → (∀ (j : Nat) (y : AV), zs[j]? = some y → y.leaf = true) →
    qs.length = ps.length → (∀ (j i : Nat) (v : Value) (off sz : Nat) (x : AV), qs[j]? = some (i, v) → ps[j]? = some (off, sz, x) → place i = some (off, sz) ∧ Rep c v x) →
    afill zs ps = some r → ∃ cs', Instr.fill place cs qs = some cs' ∧ RepL c cs'.toList r ∧ (∀ (j : Nat) (y : AV), r[j]? = some y → y.leaf = true)
  | [], qs, zs, r, cs, h, lf, hl, hp, hx => by
    simp only [afill] at hx
    injection hx with hx; subst hx
    have : qs = [] := List.length_eq_zero_iff.1 hl
    subst this
    exact ⟨cs, rfl, h, lf⟩
  | (off, sz, x) :: ps, qs, zs, r, cs, h, lf, hl, hp, hx => by
    cases qs with
    | nil => simp at hl
    | cons q qs =>
      obtain ⟨i, v⟩ := q
      obtain ⟨h1, h2⟩ := hp 0 i v off sz x rfl rfl
      simp only [afill] at hx
      split at hx <;> (try (cases hx; done))
      rename_i hc
      obtain ⟨c1, c2, c3⟩ := hc
      have hcl := h2.cells
      have hsz : v.cells.size = sz := by rw [← c2]; simpa using hcl.1
      have hcs : cs.size = zs.length := by simpa using h.1
      have hnot : ¬ (v.cells.size ≠ sz || off + v.cells.size > cs.size) = true := by simp [hsz, hcs]; omega
      simp only [Instr.fill, h1]
      rw [if_neg hnot]
      refine sound_fill place ps qs (setL zs off x.cells) r _ ?_ (setL_leaf _ _ _ (h2.cells_leaf c1) lf) (by simpa using hl) (fun j i' v' o' s' x' a b => hp (j + 1) i' v' o' s' x' (by simpa using a) (by simpa using b)) hx
      have e := foldl_set v.cells.toList off 0 cs
      rw [Nat.add_zero] at e
      have e2 : (v.cells.zipIdx.foldl (fun cs (x : Value × Nat) => cs.setIfInBounds (off + x.2) x.1) cs) = (v.cells.toList.zipIdx 0).foldl (fun (cs : Array Value) (p : Value × Nat) => cs.setIfInBounds (off + p.2) p.1) cs := by
        rw [← Array.foldl_toList]; simp
      rw [e2, e]
      exact RepL.setL _ _ _ _ _ h hcl

/-- zero cells, read -/
def zcells (z : Value) : Option (List AV) :=
  z.cells.toList.mapM fun
    | .int k n => some (AV.int k n)
    | .bool b => some (.bool b)
    | .string s => some (.str s)
    | .slice none 0 0 => some .nilsl
    | .pointer none => some .nilptr
    | .nilFunc => some .nilfn
    | .nilIface => some .nilif
    | _ => none

theorem mapM_RepL {c : CM} {f : Value → Option AV} (hf : ∀ v x, f v = some x → Rep c v x ∧ x.leaf = true) : ∀ (vs : List Value) (xs : List AV), vs.mapM f = some xs → RepL c vs xs ∧ ∀ (j : Nat) (y : AV), xs[j]? = some y → y.leaf = true
  | [], xs, h => by
    simp at h; subst h; exact ⟨.nil, fun j y hy => by simp at hy⟩
  | v :: vs, xs, h => by
    rw [List.mapM_cons] at h
    cases h1 : f v with
    | none => simp [h1] at h
    | some x =>
      cases h2 : vs.mapM f with
      | none => simp [h1, h2] at h
      | some xs' =>
        simp [h1, h2] at h
        subst h
        obtain ⟨a, b⟩ := mapM_RepL hf vs xs' h2
        obtain ⟨p, q⟩ := hf v x h1
        refine ⟨.cons p a, fun j y hy => ?_⟩
        cases j with
        | zero => simp at hy; subst hy; exact q
        | succ j => exact b j y (by simpa using hy)

theorem zcells_rep {c : CM} {z : Value} {zs : List AV} (h : zcells z = some zs) : RepL c z.cells.toList zs ∧ ∀ (j : Nat) (y : AV), zs[j]? = some y → y.leaf = true := by
  refine mapM_RepL (fun v x hx => ?_) _ _ h
  split at hx <;> (try (cases hx; done)) <;> (injection hx with hx; subst hx)
  · exact ⟨.int _ _, rfl⟩
  · exact ⟨.bool _, rfl⟩
  · exact ⟨.str _, rfl⟩
  · exact ⟨.nilsl, rfl⟩
  · exact ⟨.nilptr, rfl⟩
  · exact ⟨.nilfn, rfl⟩
  · exact ⟨.nilif, rfl⟩
end Fw
