/-
  A by-value reading of the model's worlds: abstract values, what it means that a value of the model reads as one, and what one call keeps. Own work; over any program.
-/
import Derived.Orders
import Derived.Laws.World
import Derived.Laws.Cells
set_option linter.unusedVariables false
namespace Fw
open Go

inductive Cap where
  | exact
  | shared
  | own (k : Nat)

inductive AV where
  | int (k : IntKind) (n : Int)
  | bool (b : Bool)
  | str (s : ByteArray)
  | nilptr
  | nilsl
  | nilif
  | nilfn
  | ptr (x : AV)
  | ref (i off : Nat)
  | sl (sz : Nat) (xs : List AV) (cap : Cap)
  | agg (xs : List AV)
  | tup (xs : List AV)
  | fn (f : Fn) (first cap : List AV)
  | iface (t : TypeId) (x : AV)

instance : Inhabited AV := ⟨.tup []⟩
def AV.undef : AV := .tup []
def AV.cells : AV → List AV
  | .agg xs => xs
  | x => [x]
def AV.leaf : AV → Bool
  | .agg _ => false
  | .tup _ => false
  | _ => true
def AV.sto : AV → Bool
  | .tup _ => false
  | _ => true
def flat : List AV → List AV
  | [] => []
  | x :: xs => x.cells ++ flat xs

inductive Cl where
  | no
  | imm (v : Value)
  | blk (i j : Nat)
  | tok (k : Nat)
def Cl.writable : Cl → Bool
  | .blk _ _ => true
  | .tok _ => true
  | _ => false

structure CM where
  cl : Nat → Nat → Cl
  loc : Nat → Nat × Nat
  nh : Nat
  nt : Nat
  val : Nat → Bool

structure CM.le (c c' : CM) : Prop where
  imm : ∀ b o v, c.cl b o = .imm v → c'.cl b o = .imm v
  nh : c.nh ≤ c'.nh
  loc : ∀ i, i < c.nh → c'.loc i = c.loc i
  nt : c.nt ≤ c'.nt
  val : ∀ k, k < c.nt → c'.val k = true → c.val k = true
  tok : ∀ b o k, k < c.nt → c.cl b o = .tok k → c'.val k = true → c'.cl b o = .tok k

theorem CM.le.refl (c : CM) : c.le c := ⟨fun _ _ _ h => h, Nat.le_refl _, fun _ _ => rfl, Nat.le_refl _, fun _ _ h => h, fun _ _ _ _ h _ => h⟩
theorem CM.le.trans {a b c : CM} (h : a.le b) (k : b.le c) : a.le c where
  imm := fun x o v e => k.imm x o v (h.imm x o v e)
  nh := Nat.le_trans h.nh k.nh
  loc := fun i hi => (k.loc i (Nat.lt_of_lt_of_le hi h.nh)).trans (h.loc i hi)
  nt := Nat.le_trans h.nt k.nt
  val := fun t ht e => h.val t ht (k.val t (Nat.lt_of_lt_of_le ht h.nt) e)
  tok := fun x o t ht e v => k.tok x o t (Nat.lt_of_lt_of_le ht h.nt) (h.tok x o t ht e (k.val t (Nat.lt_of_lt_of_le ht h.nt) v)) v

def CapOk (c : CM) (b o len sz cap : Nat) : Cap → Prop
  | .exact => cap = len
  | .shared => len ≤ cap
  | .own k => len ≤ cap ∧ k < c.nt ∧ (c.val k = true → ∀ j, len * sz ≤ j → j < cap * sz → c.cl b (o + j) = .tok k)

inductive Rep (c : CM) : Value → AV → Prop
  | int (k : IntKind) (n : Int) : Rep c (.int k n) (.int k n)
  | bool (b : Bool) : Rep c (.bool b) (.bool b)
  | str (s : ByteArray) : Rep c (.string s) (.str s)
  | nilptr : Rep c (.pointer none) .nilptr
  | nilsl : Rep c (.slice none 0 0) .nilsl
  | nilif : Rep c .nilIface .nilif
  | nilfn : Rep c .nilFunc .nilfn
  | ptr (b o : Nat) (vs : List Value) (x : AV) (hl : vs.length = x.cells.length)
      (hc : ∀ (j : Nat) (v : Value), vs[j]? = some v → c.cl b (o + j) = .imm v)
      (h : ∀ (j : Nat) (v : Value) (y : AV), vs[j]? = some v → x.cells[j]? = some y → Rep c v y)
      (lf : ∀ (j : Nat) (y : AV), x.cells[j]? = some y → y.leaf = true) : Rep c (.pointer (some ⟨b, o, none⟩)) (.ptr x)
  | ref (i off : Nat) (hi : i < c.nh) : Rep c (.pointer (some ⟨(c.loc i).1, (c.loc i).2 + off, none⟩)) (.ref i off)
  | sl (b o cap sz : Nat) (xs : List AV) (cp : Cap) (vs : List Value) (hl : vs.length = (flat xs).length)
      (hz : ∀ x ∈ xs, x.cells.length = sz)
      (hc : ∀ (j : Nat) (v : Value), vs[j]? = some v → c.cl b (o + j) = .imm v)
      (h : ∀ (j : Nat) (v : Value) (y : AV), vs[j]? = some v → (flat xs)[j]? = some y → Rep c v y)
      (lf : ∀ (j : Nat) (y : AV), (flat xs)[j]? = some y → y.leaf = true)
      (hcap : CapOk c b o xs.length sz cap cp) : Rep c (.slice (some ⟨b, o, none⟩) xs.length cap) (.sl sz xs cp)
  | agg (vs : List Value) (xs : List AV) (hl : vs.length = xs.length)
      (h : ∀ (j : Nat) (v : Value) (y : AV), vs[j]? = some v → xs[j]? = some y → Rep c v y)
      (lf : ∀ (j : Nat) (y : AV), xs[j]? = some y → y.leaf = true) : Rep c (.agg vs.toArray) (.agg xs)
  | tup (vs : List Value) (xs : List AV) (hl : vs.length = xs.length)
      (h : ∀ (j : Nat) (v : Value) (y : AV), vs[j]? = some v → xs[j]? = some y → Rep c v y) : Rep c (.tuple vs.toArray) (.tup xs)
  | fn (f : Fn) (v1 v2 : List Value) (x1 x2 : List AV) (hl1 : v1.length = x1.length) (hl2 : v2.length = x2.length)
      (h1 : ∀ (j : Nat) (v : Value) (y : AV), v1[j]? = some v → x1[j]? = some y → Rep c v y)
      (h2 : ∀ (j : Nat) (v : Value) (y : AV), v2[j]? = some v → x2[j]? = some y → Rep c v y) : Rep c (.func f v1.toArray v2.toArray) (.fn f x1 x2)
  | iface (t : TypeId) (v : Value) (x : AV) (h : Rep c v x) : Rep c (.iface t v) (.iface t x)

theorem CapOk.mono {c c' : CM} (hc : c.le c') {b o len sz cap : Nat} {cp : Cap} (h : CapOk c b o len sz cap cp) : CapOk c' b o len sz cap cp := by
  cases cp with
  | exact => exact h
  | shared => exact h
  | own k =>
    obtain ⟨h1, h2, h3⟩ := h
    refine ⟨h1, Nat.lt_of_lt_of_le h2 hc.nt, fun hv j hj hj' => ?_⟩
    exact hc.tok _ _ _ h2 (h3 (hc.val k h2 hv) j hj hj') hv

theorem Rep.mono {c c' : CM} (hc : c.le c') {v : Value} {x : AV} (h : Rep c v x) : Rep c' v x := by
  induction h with
  | int k n => exact .int k n
  | bool b => exact .bool b
  | str s => exact .str s
  | nilptr => exact .nilptr
  | nilsl => exact .nilsl
  | nilif => exact .nilif
  | nilfn => exact .nilfn
  | ptr b o vs x hl hcl h lf ih => exact .ptr b o vs x hl (fun j v e => hc.imm _ _ _ (hcl j v e)) ih lf
  | ref i off hi =>
    have := hc.loc i hi
    rw [← this]
    exact .ref i off (Nat.lt_of_lt_of_le hi hc.nh)
  | sl b o cap sz xs cp vs hl hz hcl h lf hcap ih => exact .sl b o cap sz xs cp vs hl hz (fun j v e => hc.imm _ _ _ (hcl j v e)) ih lf (hcap.mono hc)
  | agg vs xs hl h lf ih => exact .agg vs xs hl ih lf
  | tup vs xs hl h ih => exact .tup vs xs hl ih
  | fn f v1 v2 x1 x2 hl1 hl2 h1 h2 ih1 ih2 => exact .fn f v1 v2 x1 x2 hl1 hl2 ih1 ih2
  | iface t v x h ih => exact .iface t v x ih

/-- lists, place by place -/
def RepL (c : CM) (vs : List Value) (xs : List AV) : Prop :=
  vs.length = xs.length ∧ ∀ (j : Nat) (v : Value) (y : AV), vs[j]? = some v → xs[j]? = some y → Rep c v y
theorem RepL.mono {c c' : CM} (hc : c.le c') {vs : List Value} {xs : List AV} (h : RepL c vs xs) : RepL c' vs xs :=
  ⟨h.1, fun j v y a b => (h.2 j v y a b).mono hc⟩
theorem RepL.nil {c : CM} : RepL c [] [] := ⟨rfl, fun j v y h => by simp at h⟩
theorem RepL.cons {c : CM} {v : Value} {x : AV} {vs : List Value} {xs : List AV} (h : Rep c v x) (hs : RepL c vs xs) : RepL c (v :: vs) (x :: xs) := by
  refine ⟨by simp [hs.1], fun j a y h1 h2 => ?_⟩
  cases j with
  | zero => simp at h1 h2; subst h1; subst h2; exact h
  | succ j => exact hs.2 j a y (by simpa using h1) (by simpa using h2)
theorem RepL.cons_inv {c : CM} {vs : List Value} {x : AV} {xs : List AV} (h : RepL c vs (x :: xs)) : ∃ v vs', vs = v :: vs' ∧ Rep c v x ∧ RepL c vs' xs := by
  obtain ⟨hl, h⟩ := h
  cases vs with
  | nil => simp at hl
  | cons v vs =>
    exact ⟨v, vs, rfl, h 0 v x rfl rfl, by simpa using hl, fun j a y h1 h2 => h (j + 1) a y (by simpa using h1) (by simpa using h2)⟩
theorem RepL.nil_inv {c : CM} {vs : List Value} (h : RepL c vs []) : vs = [] := List.length_eq_zero_iff.1 h.1
theorem RepL.append {c : CM} {v1 v2 : List Value} {x1 x2 : List AV} (h1 : RepL c v1 x1) (h2 : RepL c v2 x2) : RepL c (v1 ++ v2) (x1 ++ x2) := by
  induction x1 generalizing v1 with
  | nil => rw [h1.nil_inv]; exact h2
  | cons x xs ih =>
    obtain ⟨v, vs, rfl, hv, hvs⟩ := h1.cons_inv
    exact .cons hv (ih hvs)
theorem RepL.take {c : CM} {vs : List Value} {xs : List AV} (h : RepL c vs xs) (n : Nat) : RepL c (vs.take n) (xs.take n) := by
  refine ⟨by simp [h.1], fun j v y h1 h2 => h.2 j v y ?_ ?_⟩
  · rw [List.getElem?_take] at h1; split at h1 <;> simp_all
  · rw [List.getElem?_take] at h2; split at h2 <;> simp_all
theorem RepL.drop {c : CM} {vs : List Value} {xs : List AV} (h : RepL c vs xs) (n : Nat) : RepL c (vs.drop n) (xs.drop n) := by
  refine ⟨by simp [h.1], fun j v y h1 h2 => h.2 (n + j) v y ?_ ?_⟩
  · rw [List.getElem?_drop] at h1; exact h1
  · rw [List.getElem?_drop] at h2; exact h2
theorem RepL.get {c : CM} {vs : List Value} {xs : List AV} (h : RepL c vs xs) {j : Nat} {y : AV} (hy : xs[j]? = some y) : ∃ v, vs[j]? = some v ∧ Rep c v y := by
  have hj : j < xs.length := by
    rcases Nat.lt_or_ge j xs.length with h' | h'
    · exact h'
    · simp [List.getElem?_eq_none h'] at hy
  have : j < vs.length := h.1 ▸ hj
  exact ⟨vs[j], by simp [this], h.2 j _ y (by simp [this]) hy⟩
theorem RepL.map {c : CM} {α : Type} (l : List α) (f : α → Value) (g : α → AV) (h : ∀ x ∈ l, Rep c (f x) (g x)) : RepL c (l.map f) (l.map g) := by
  induction l with
  | nil => exact .nil
  | cons a l ih => exact .cons (h a (by simp)) (ih fun x hx => h x (by simp [hx]))

/-- memory -/
structure HS where
  heap : Nat → Option (List AV)
  nh : Nat
  nt : Nat
  tok : Nat → Bool

structure Inv (c : CM) (s : HS) (w : World) : Prop where
  nh : s.nh = c.nh
  nt : s.nt = c.nt
  tokv : ∀ k, s.tok k = c.val k
  vlt : ∀ k, c.val k = true → k < c.nt
  imm : ∀ b o v, c.cl b o = .imm v → w.cell? ⟨b, o, none⟩ = some v
  toks : ∀ b o k, c.cl b o = .tok k → (∃ v, w.cell? ⟨b, o, none⟩ = some v) ∧ w.frozen? ⟨b, o, none⟩ = false
  heap : ∀ i ys, s.heap i = some ys → i < c.nh ∧ ∀ (j : Nat) (y : AV), ys[j]? = some y → y.leaf = true ∧
    c.cl (c.loc i).1 ((c.loc i).2 + j) = .blk i j ∧ w.frozen? ⟨(c.loc i).1, (c.loc i).2 + j, none⟩ = false ∧
    ∃ v, w.cell? ⟨(c.loc i).1, (c.loc i).2 + j, none⟩ = some v ∧ Rep c v y
  dom : ∀ b o, w.heap.size ≤ b → c.cl b o = .no

def FrB (c0 : CM) (b : Nat) : Option Obj → Option Obj → Prop
  | some (.cells cs e fr), r => ∃ cs', r = some (.cells cs' e fr) ∧ cs'.size = cs.size ∧ ∀ o, (c0.cl b o).writable = false → cs'[o]? = cs[o]?
  | x, r => r = x

structure Fr (c0 : CM) (w0 : World) (c : CM) (w : World) : Prop where
  le : c0.le c
  os : w.os = w0.os
  out : w.output = w0.output
  size : w0.heap.size ≤ w.heap.size
  blk : ∀ b, b < w0.heap.size → FrB c0 b (w0.heap[b]?) (w.heap[b]?)
  no : ∀ b o, b < w0.heap.size → c0.cl b o = .no → c.cl b o = .no
  frz : ∀ a, w.frozen? a = w0.frozen? a

theorem FrB.refl (c : CM) (b : Nat) (x : Option Obj) : FrB c b x x := by
  unfold FrB
  split
  · exact ⟨_, rfl, rfl, fun _ _ => rfl⟩
  · rfl
theorem Fr.refl (c : CM) (w : World) : Fr c w c w := ⟨.refl c, rfl, rfl, Nat.le_refl _, fun b _ => .refl _ _ _, fun _ _ _ h => h, fun _ => rfl⟩

theorem not_writable_of {c c' : CM} {w0 w : World} (h : Fr c w0 c' w) {b o : Nat} (hb : b < w0.heap.size) (hw : (c.cl b o).writable = false) : (c'.cl b o).writable = false := by
  cases hc : c.cl b o with
  | no => rw [h.no b o hb hc]; rfl
  | imm v => rw [h.le.imm b o v hc]; rfl
  | blk i j => rw [hc] at hw; cases hw
  | tok k => rw [hc] at hw; cases hw

theorem Fr.trans {c0 c1 c2 : CM} {w0 w1 w2 : World} (h : Fr c0 w0 c1 w1) (k : Fr c1 w1 c2 w2) : Fr c0 w0 c2 w2 where
  le := h.le.trans k.le
  os := k.os.trans h.os
  out := k.out.trans h.out
  size := Nat.le_trans h.size k.size
  no := fun b o hb e => k.no b o (Nat.lt_of_lt_of_le hb h.size) (h.no b o hb e)
  frz := fun a => (k.frz a).trans (h.frz a)
  blk := fun b hb => by
    have h1 := h.blk b hb
    have h2 := k.blk b (Nat.lt_of_lt_of_le hb h.size)
    generalize hx : w0.heap[b]? = x at h1 ⊢
    cases x with
    | none => simp only [FrB] at h1 ⊢; rw [h1] at h2; simpa only [FrB] using h2
    | some x =>
      cases x with
      | cells cs e fr =>
        simp only [FrB] at h1 ⊢
        obtain ⟨cs1, e1, e2, e3⟩ := h1
        rw [e1] at h2
        simp only [FrB] at h2
        obtain ⟨cs2, f1, f2, f3⟩ := h2
        exact ⟨cs2, f1, f2.trans e2, fun o ho => (f3 o (not_writable_of h hb ho)).trans (e3 o ho)⟩
      | _ => simp only [FrB] at h1 ⊢; rw [h1] at h2; simpa only [FrB] using h2

/-- a cell that is not writable reads as it did -/
theorem Fr.cell {c0 c : CM} {w0 w : World} (h : Fr c0 w0 c w) {b o : Nat} (hw : (c0.cl b o).writable = false) {v : Value} (hv : w0.cell? ⟨b, o, none⟩ = some v) : w.cell? ⟨b, o, none⟩ = some v := by
  have hb : b < w0.heap.size := World.block_lt_of_cell? w0 _ hv
  have h1 := h.blk b hb
  unfold World.cell? at hv ⊢
  simp only at hv ⊢
  generalize w0.heap[b]? = x at h1 hv
  cases x with
  | none => simp at hv
  | some x =>
    cases x with
    | cells cs e fr =>
      simp only [FrB] at h1
      obtain ⟨cs', e1, _, e3⟩ := h1
      rw [e1]
      simp at hv ⊢
      rw [e3 o hw]; exact hv
    | _ => simp at hv
theorem Fr.cell_some {c0 c : CM} {w0 w : World} (h : Fr c0 w0 c w) {b o : Nat} {v : Value} (hv : w0.cell? ⟨b, o, none⟩ = some v) : ∃ v', w.cell? ⟨b, o, none⟩ = some v' := by
  have hb : b < w0.heap.size := World.block_lt_of_cell? w0 _ hv
  have h1 := h.blk b hb
  unfold World.cell? at hv ⊢
  simp only at hv ⊢
  generalize w0.heap[b]? = x at h1 hv
  cases x with
  | none => simp at hv
  | some x =>
    cases x with
    | cells cs e fr =>
      simp only [FrB] at h1
      obtain ⟨cs', e1, e2, _⟩ := h1
      rw [e1]
      simp at hv ⊢
      have : o < cs.size := by
        rcases Nat.lt_or_ge o cs.size with h' | h'
        · exact h'
        · simp [Array.getElem?_eq_none h'] at hv
      exact ⟨cs'[o]'(by omega), by simp [e2, this]⟩
    | _ => simp at hv
end Fw
