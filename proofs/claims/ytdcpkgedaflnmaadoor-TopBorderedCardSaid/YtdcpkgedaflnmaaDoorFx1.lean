/-
  A by-value reading of the model's worlds: abstract values, what it means that a value of the model reads as one, and what one call keeps. Own work; over any program.
  New blocks, stores and appends under the by-value reading: how the reading goes on. Own work; over any program.
  Runs of stores and appends under the by-value reading. Own work; over any program.
  The operations of the model on abstract values, and that each one's run reads as its abstract result. Own work; over any program.
  More operations on abstract values: lengths, slices, appends, literals, arithmetic. Own work; over any program.
  Append on abstract slices. Own work; over any program.
  Arithmetic, comparisons, literals on abstract values. Own work; over any program.
  Binary operations, conversions, literals: that each one's run reads as its abstract result. Own work; over any program.
  Conversions, literals, small builtins: that each one's run reads as its abstract result. Own work; over any program.
  Contracts of calls under the by-value reading: a call that may use the caller's mutable memory, and a call that stands alone. Own work; over any program.
  Maps under the by-value reading: keys that are integers, strings, or rows of integers. Own work; over any program.
  Strings as lists of bytes: bytes and parts of a string; parts of an array in memory. Own work; over any program.
  A stack that shrinks: the cells of what is taken off become spare cells; slices that are built in memory which may be stored into. Own work; over any program.
  Type assertions, strings out of bytes, and methods behind interfaces. Own work; over any program.
  The model's operations, compacted, and that each one's run reads as its abstract result. Own work; over any program.
-/
import Derived.Orders
import Derived.Laws.World
import Derived.Laws.Cells
import Derived.Laws.Append
import Derived.Laws.MakeOwn
import Derived.Laws.Slices
import Derived.Laws.StructEq
import Derived.Laws.Concat
import Derived.MapKept
import Derived.WideKeyRuns
import Derived.Laws.Strings2
import Derived.Laws.BytesArg
set_option linter.unusedVariables false
namespace Fw
open Go

inductive Cap where
  | exact
  | shared
  | own (k : Nat)

inductive AV where
  | int (k : IntKind) (n : Int)
  | bool (b : Bool)
  | str (s : ByteArray)
  | nilptr
  | nilsl
  | nilif
  | nilfn
  | ptr (x : AV)
  | ref (i off : Nat)
  | msl (ag : Bool) (sz i off len : Nat) (ex : Bool)
  | gsl (sz n k : Nat)
  | esl
  | osl (ag : Bool) (sz i len k : Nat)
  | nilmp
  | mp (i : Nat)
  | sl (sz : Nat) (xs : List AV) (cap : Cap)
  | agg (xs : List AV)
  | tup (xs : List AV)
  | fn (f : Fn) (first cap : List AV)
  | iface (t : TypeId) (x : AV)

instance : Inhabited AV := ⟨.tup []⟩
def AV.undef : AV := .tup []
def AV.cells : AV → List AV
  | .agg xs => xs
  | x => [x]
def AV.leaf : AV → Bool
  | .agg _ => false
  | .tup _ => false
  | _ => true
def AV.sto : AV → Bool
  | .tup _ => false
  | _ => true
def flat : List AV → List AV
  | [] => []
  | x :: xs => x.cells ++ flat xs

inductive Cl where
  | no
  | imm (v : Value)
  | blk (i j : Nat)
  | tok (k : Nat)
def Cl.writable : Cl → Bool
  | .blk _ _ => true
  | .tok _ => true
  | _ => false

structure CM where
  cl : Nat → Nat → Cl
  loc : Nat → Nat × Nat
  nh : Nat
  nt : Nat
  val : Nat → Bool

structure CM.le (c c' : CM) : Prop where
  imm : ∀ b o v, c.cl b o = .imm v → c'.cl b o = .imm v
  nh : c.nh ≤ c'.nh
  loc : ∀ i, i < c.nh → c'.loc i = c.loc i
  nt : c.nt ≤ c'.nt
  val : ∀ k, k < c.nt → c'.val k = true → c.val k = true
  tok : ∀ b o k, k < c.nt → c.cl b o = .tok k → c'.val k = true → c'.cl b o = .tok k

theorem CM.le.refl (c : CM) : c.le c := ⟨fun _ _ _ h => h, Nat.le_refl _, fun _ _ => rfl, Nat.le_refl _, fun _ _ h => h, fun _ _ _ _ h _ => h⟩
theorem CM.le.trans {a b c : CM} (h : a.le b) (k : b.le c) : a.le c where
  imm := fun x o v e => k.imm x o v (h.imm x o v e)
  nh := Nat.le_trans h.nh k.nh
  loc := fun i hi => (k.loc i (Nat.lt_of_lt_of_le hi h.nh)).trans (h.loc i hi)
  nt := Nat.le_trans h.nt k.nt
  val := fun t ht e => h.val t ht (k.val t (Nat.lt_of_lt_of_le ht h.nt) e)
  tok := fun x o t ht e v => k.tok x o t (Nat.lt_of_lt_of_le ht h.nt) (h.tok x o t ht e (k.val t (Nat.lt_of_lt_of_le ht h.nt) v)) v

def CapOk (c : CM) (b o len sz cap : Nat) : Cap → Prop
  | .exact => cap = len
  | .shared => len ≤ cap
  | .own k => len ≤ cap ∧ k < c.nt ∧ (c.val k = true → ∀ j, len * sz ≤ j → j < cap * sz → c.cl b (o + j) = .tok k)

inductive Rep (c : CM) : Value → AV → Prop
  | int (k : IntKind) (n : Int) : Rep c (.int k n) (.int k n)
  | bool (b : Bool) : Rep c (.bool b) (.bool b)
  | str (s : ByteArray) : Rep c (.string s) (.str s)
  | nilptr : Rep c (.pointer none) .nilptr
  | nilsl : Rep c (.slice none 0 0) .nilsl
  | nilif : Rep c .nilIface .nilif
  | nilfn : Rep c .nilFunc .nilfn
  | ptr (b o : Nat) (vs : List Value) (x : AV) (hl : vs.length = x.cells.length)
      (hc : ∀ (j : Nat) (v : Value), vs[j]? = some v → c.cl b (o + j) = .imm v)
      (h : ∀ (j : Nat) (v : Value) (y : AV), vs[j]? = some v → x.cells[j]? = some y → Rep c v y)
      (lf : ∀ (j : Nat) (y : AV), x.cells[j]? = some y → y.leaf = true) : Rep c (.pointer (some ⟨b, o, none⟩)) (.ptr x)
  | ref (i off : Nat) (hi : i < c.nh) : Rep c (.pointer (some ⟨(c.loc i).1, (c.loc i).2 + off, none⟩)) (.ref i off)
  | msl (ag : Bool) (sz i off len cap : Nat) (ex : Bool) (hi : i < c.nh) (hl : len ≤ cap) (he : ex = true → cap = len) : Rep c (.slice (some ⟨(c.loc i).1, (c.loc i).2 + off, none⟩) len cap) (.msl ag sz i off len ex)
  | gsl (b o cap sz n k : Nat) (hn : n ≤ cap) (hcap : CapOk c b o 0 sz cap (.own k)) : Rep c (.slice (some ⟨b, o, none⟩) n cap) (.gsl sz n k)
  | esl (a : Addr) : Rep c (.slice (some a) 0 0) .esl
  | osl (ag : Bool) (sz i len cap k : Nat) (hi : i < c.nh) (hcap : CapOk c (c.loc i).1 (c.loc i).2 len sz cap (.own k)) : Rep c (.slice (some ⟨(c.loc i).1, (c.loc i).2, none⟩) len cap) (.osl ag sz i len k)
  | nilmp : Rep c (.map none) .nilmp
  | mp (i : Nat) (hi : i < c.nh) : Rep c (.map (some (c.loc i).1)) (.mp i)
  | sl (b o cap sz : Nat) (xs : List AV) (cp : Cap) (vs : List Value) (hl : vs.length = (flat xs).length)
      (hz : ∀ x ∈ xs, x.cells.length = sz)
      (hc : ∀ (j : Nat) (v : Value), vs[j]? = some v → c.cl b (o + j) = .imm v)
      (h : ∀ (j : Nat) (v : Value) (y : AV), vs[j]? = some v → (flat xs)[j]? = some y → Rep c v y)
      (lf : ∀ (j : Nat) (y : AV), (flat xs)[j]? = some y → y.leaf = true)
      (hcap : CapOk c b o xs.length sz cap cp) : Rep c (.slice (some ⟨b, o, none⟩) xs.length cap) (.sl sz xs cp)
  | agg (vs : List Value) (xs : List AV) (hl : vs.length = xs.length)
      (h : ∀ (j : Nat) (v : Value) (y : AV), vs[j]? = some v → xs[j]? = some y → Rep c v y)
      (lf : ∀ (j : Nat) (y : AV), xs[j]? = some y → y.leaf = true) : Rep c (.agg vs.toArray) (.agg xs)
  | tup (vs : List Value) (xs : List AV) (hl : vs.length = xs.length)
      (h : ∀ (j : Nat) (v : Value) (y : AV), vs[j]? = some v → xs[j]? = some y → Rep c v y) : Rep c (.tuple vs.toArray) (.tup xs)
  | fn (f : Fn) (v1 v2 : List Value) (x1 x2 : List AV) (hl1 : v1.length = x1.length) (hl2 : v2.length = x2.length)
      (h1 : ∀ (j : Nat) (v : Value) (y : AV), v1[j]? = some v → x1[j]? = some y → Rep c v y)
      (h2 : ∀ (j : Nat) (v : Value) (y : AV), v2[j]? = some v → x2[j]? = some y → Rep c v y) : Rep c (.func f v1.toArray v2.toArray) (.fn f x1 x2)
  | iface (t : TypeId) (v : Value) (x : AV) (h : Rep c v x) : Rep c (.iface t v) (.iface t x)

theorem CapOk.mono {c c' : CM} (hc : c.le c') {b o len sz cap : Nat} {cp : Cap} (h : CapOk c b o len sz cap cp) : CapOk c' b o len sz cap cp := by
  cases cp with
  | exact => exact h
  | shared => exact h
  | own k =>
    obtain ⟨h1, h2, h3⟩ := h
    refine ⟨h1, Nat.lt_of_lt_of_le h2 hc.nt, fun hv j hj hj' => ?_⟩
    exact hc.tok _ _ _ h2 (h3 (hc.val k h2 hv) j hj hj') hv

theorem Rep.mono {c c' : CM} (hc : c.le c') {v : Value} {x : AV} (h : Rep c v x) : Rep c' v x := by
  induction h with
  | int k n => exact .int k n
  | bool b => exact .bool b
  | str s => exact .str s
  | nilptr => exact .nilptr
  | nilsl => exact .nilsl
  | nilif => exact .nilif
  | nilfn => exact .nilfn
  | ptr b o vs x hl hcl h lf ih => exact .ptr b o vs x hl (fun j v e => hc.imm _ _ _ (hcl j v e)) ih lf
  | ref i off hi =>
    have := hc.loc i hi
    rw [← this]
    exact .ref i off (Nat.lt_of_lt_of_le hi hc.nh)
  | msl ag sz i off len cap ex hi hl he =>
    have := hc.loc i hi
    rw [← this]
    exact .msl ag sz i off len cap ex (Nat.lt_of_lt_of_le hi hc.nh) hl he
  | gsl b o cap sz n k hn hcap => exact .gsl b o cap sz n k hn (hcap.mono hc)
  | esl a => exact .esl a
  | osl ag sz i len cap k hi hcap =>
    have e := hc.loc i hi
    have h2 := hcap.mono hc
    rw [← e] at h2 ⊢
    exact .osl ag sz i len cap k (Nat.lt_of_lt_of_le hi hc.nh) h2
  | nilmp => exact .nilmp
  | mp i hi =>
    have := hc.loc i hi
    rw [← this]
    exact .mp i (Nat.lt_of_lt_of_le hi hc.nh)
  | sl b o cap sz xs cp vs hl hz hcl h lf hcap ih => exact .sl b o cap sz xs cp vs hl hz (fun j v e => hc.imm _ _ _ (hcl j v e)) ih lf (hcap.mono hc)
  | agg vs xs hl h lf ih => exact .agg vs xs hl ih lf
  | tup vs xs hl h ih => exact .tup vs xs hl ih
  | fn f v1 v2 x1 x2 hl1 hl2 h1 h2 ih1 ih2 => exact .fn f v1 v2 x1 x2 hl1 hl2 ih1 ih2
  | iface t v x h ih => exact .iface t v x ih

/-- lists, place by place -/
def RepL (c : CM) (vs : List Value) (xs : List AV) : Prop :=
  vs.length = xs.length ∧ ∀ (j : Nat) (v : Value) (y : AV), vs[j]? = some v → xs[j]? = some y → Rep c v y
theorem RepL.mono {c c' : CM} (hc : c.le c') {vs : List Value} {xs : List AV} (h : RepL c vs xs) : RepL c' vs xs :=
  ⟨h.1, fun j v y a b => (h.2 j v y a b).mono hc⟩
theorem RepL.nil {c : CM} : RepL c [] [] := ⟨rfl, fun j v y h => by simp at h⟩
theorem RepL.cons {c : CM} {v : Value} {x : AV} {vs : List Value} {xs : List AV} (h : Rep c v x) (hs : RepL c vs xs) : RepL c (v :: vs) (x :: xs) := by
  refine ⟨by simp [hs.1], fun j a y h1 h2 => ?_⟩
  cases j with
  | zero => simp at h1 h2; subst h1; subst h2; exact h
  | succ j => exact hs.2 j a y (by simpa using h1) (by simpa using h2)
theorem RepL.cons_inv {c : CM} {vs : List Value} {x : AV} {xs : List AV} (h : RepL c vs (x :: xs)) : ∃ v vs', vs = v :: vs' ∧ Rep c v x ∧ RepL c vs' xs := by
  obtain ⟨hl, h⟩ := h
  cases vs with
  | nil => simp at hl
  | cons v vs =>
    exact ⟨v, vs, rfl, h 0 v x rfl rfl, by simpa using hl, fun j a y h1 h2 => h (j + 1) a y (by simpa using h1) (by simpa using h2)⟩
theorem RepL.nil_inv {c : CM} {vs : List Value} (h : RepL c vs []) : vs = [] := List.length_eq_zero_iff.1 h.1
theorem RepL.append {c : CM} {v1 v2 : List Value} {x1 x2 : List AV} (h1 : RepL c v1 x1) (h2 : RepL c v2 x2) : RepL c (v1 ++ v2) (x1 ++ x2) := by
  induction x1 generalizing v1 with
  | nil => rw [h1.nil_inv]; exact h2
  | cons x xs ih =>
    obtain ⟨v, vs, rfl, hv, hvs⟩ := h1.cons_inv
    exact .cons hv (ih hvs)
theorem RepL.take {c : CM} {vs : List Value} {xs : List AV} (h : RepL c vs xs) (n : Nat) : RepL c (vs.take n) (xs.take n) := by
  refine ⟨by simp [h.1], fun j v y h1 h2 => h.2 j v y ?_ ?_⟩
  · rw [List.getElem?_take] at h1; split at h1 <;> simp_all
  · rw [List.getElem?_take] at h2; split at h2 <;> simp_all
theorem RepL.drop {c : CM} {vs : List Value} {xs : List AV} (h : RepL c vs xs) (n : Nat) : RepL c (vs.drop n) (xs.drop n) := by
  refine ⟨by simp [h.1], fun j v y h1 h2 => h.2 (n + j) v y ?_ ?_⟩
  · rw [List.getElem?_drop] at h1; exact h1
  · rw [List.getElem?_drop] at h2; exact h2
theorem RepL.get {c : CM} {vs : List Value} {xs : List AV} (h : RepL c vs xs) {j : Nat} {y : AV} (hy : xs[j]? = some y) : ∃ v, vs[j]? = some v ∧ Rep c v y := by
  have hj : j < xs.length := by
    rcases Nat.lt_or_ge j xs.length with h' | h'
    · exact h'
    · simp [List.getElem?_eq_none h'] at hy
  have : j < vs.length := h.1 ▸ hj
  exact ⟨vs[j], by simp [this], h.2 j _ y (by simp [this]) hy⟩
theorem RepL.map {c : CM} {α : Type} (l : List α) (f : α → Value) (g : α → AV) (h : ∀ x ∈ l, Rep c (f x) (g x)) : RepL c (l.map f) (l.map g) := by
  induction l with
  | nil => exact .nil
  | cons a l ih => exact .cons (h a (by simp)) (ih fun x hx => h x (by simp [hx]))

/-- memory -/
structure HS where
  heap : Nat → Option (List AV)
  nh : Nat
  nt : Nat
  tok : Nat → Bool
  mp : Nat → Option (List (AV × AV))

/-- entries of a map -/
def RepM (c : CM) (es : List MapEntry) (ps : List (AV × AV)) : Prop :=
  es.length = ps.length ∧ ∀ (j : Nat) (e : MapEntry) (p : AV × AV), es[j]? = some e → ps[j]? = some p → Rep c e.key p.1 ∧ Rep c e.val p.2
theorem RepM.mono {c c' : CM} (hc : c.le c') {es : List MapEntry} {ps : List (AV × AV)} (h : RepM c es ps) : RepM c' es ps :=
  ⟨h.1, fun j e p h1 h2 => ⟨(h.2 j e p h1 h2).1.mono hc, (h.2 j e p h1 h2).2.mono hc⟩⟩
/-- entries of a map, each laid in at a time of its own -/
structure RepE (c : CM) (es : Array MapEntry) (ck : Nat) (ps : List (AV × AV)) : Prop where
  rm : RepM c es.toList ps
  born : ∀ e ∈ es.toList, e.born < ck
  nd : (es.toList.map (·.born)).Nodup
theorem RepE.mono {c c' : CM} (hc : c.le c') {es : Array MapEntry} {ck : Nat} {ps : List (AV × AV)} (h : RepE c es ck ps) : RepE c' es ck ps := ⟨RepM.mono hc h.rm, h.born, h.nd⟩

/-- what the laid variable (number 0: how many marks a set has) holds -/
def cntN : List Int := [0, 1, 1, 2, 1, 2, 2, 3, 1, 2, 2, 3, 2, 3, 3, 4]
/-- the laid variable lasts -/
def GX (c : CM) : Prop := ∃ b o cap, 16 ≤ cap ∧ c.cl 0 0 = .imm (.slice (some ⟨b, o, none⟩) 16 cap) ∧ ∀ (j : Nat) (n : Int), cntN[j]? = some n → c.cl b (o + j) = .imm (.int .i64 n)
theorem GX.to {c c' : CM} (h : GX c) (hc : ∀ b o v, c.cl b o = .imm v → c'.cl b o = .imm v) : GX c' := by
  obtain ⟨b, o, cap, h1, h2, h3⟩ := h
  exact ⟨b, o, cap, h1, hc _ _ _ h2, fun j n e => hc _ _ _ (h3 j n e)⟩
theorem GX.mono {c c' : CM} (h : GX c) (hc : c.le c') : GX c' := h.to hc.imm

structure Inv (c : CM) (s : HS) (w : World) : Prop where
  nh : s.nh = c.nh
  nt : s.nt = c.nt
  tokv : ∀ k, s.tok k = c.val k
  vlt : ∀ k, c.val k = true → k < c.nt
  imm : ∀ b o v, c.cl b o = .imm v → w.cell? ⟨b, o, none⟩ = some v
  toks : ∀ b o k, c.cl b o = .tok k → (∃ v, w.cell? ⟨b, o, none⟩ = some v) ∧ w.frozen? ⟨b, o, none⟩ = false
  heap : ∀ i ys, s.heap i = some ys → i < c.nh ∧ ∀ (j : Nat) (y : AV), ys[j]? = some y → y.leaf = true ∧
    c.cl (c.loc i).1 ((c.loc i).2 + j) = .blk i j ∧ w.frozen? ⟨(c.loc i).1, (c.loc i).2 + j, none⟩ = false ∧
    ∃ v, w.cell? ⟨(c.loc i).1, (c.loc i).2 + j, none⟩ = some v ∧ Rep c v y
  dom : ∀ b o, w.heap.size ≤ b → c.cl b o = .no
  maps : ∀ i ps, s.mp i = some ps → i < c.nh ∧ c.cl (c.loc i).1 0 = .blk i 0 ∧ ∃ es ck, w.heap[(c.loc i).1]? = some (.map es ck) ∧ RepE c es ck ps
  glob : GX c

def FrB (c0 : CM) (b : Nat) : Option Obj → Option Obj → Prop
  | some (.cells cs e fr), r => ∃ cs', r = some (.cells cs' e fr) ∧ cs'.size = cs.size ∧ ∀ o, (c0.cl b o).writable = false → cs'[o]? = cs[o]?
  | some (.map es k), r => ∃ es' k', r = some (.map es' k') ∧ ((c0.cl b 0).writable = false → es' = es ∧ k' = k)
  | x, r => r = x

structure Fr (c0 : CM) (w0 : World) (c : CM) (w : World) : Prop where
  le : c0.le c
  os : w.os = w0.os
  out : w.output = w0.output
  size : w0.heap.size ≤ w.heap.size
  blk : ∀ b, b < w0.heap.size → FrB c0 b (w0.heap[b]?) (w.heap[b]?)
  no : ∀ b o, b < w0.heap.size → c0.cl b o = .no → c.cl b o = .no
  frz : ∀ a : Addr, a.block < w0.heap.size → w.frozen? a = w0.frozen? a

theorem FrB.refl (c : CM) (b : Nat) (x : Option Obj) : FrB c b x x := by
  unfold FrB
  split
  · exact ⟨_, rfl, rfl, fun _ _ => rfl⟩
  · exact ⟨_, _, rfl, fun _ => ⟨rfl, rfl⟩⟩
  · rfl
theorem Fr.refl (c : CM) (w : World) : Fr c w c w := ⟨.refl c, rfl, rfl, Nat.le_refl _, fun b _ => .refl _ _ _, fun _ _ _ h => h, fun _ _ => rfl⟩

theorem not_writable_of {c c' : CM} {w0 w : World} (h : Fr c w0 c' w) {b o : Nat} (hb : b < w0.heap.size) (hw : (c.cl b o).writable = false) : (c'.cl b o).writable = false := by
  cases hc : c.cl b o with
  | no => rw [h.no b o hb hc]; rfl
  | imm v => rw [h.le.imm b o v hc]; rfl
  | blk i j => rw [hc] at hw; cases hw
  | tok k => rw [hc] at hw; cases hw

theorem Fr.trans {c0 c1 c2 : CM} {w0 w1 w2 : World} (h : Fr c0 w0 c1 w1) (k : Fr c1 w1 c2 w2) : Fr c0 w0 c2 w2 where
  le := h.le.trans k.le
  os := k.os.trans h.os
  out := k.out.trans h.out
  size := Nat.le_trans h.size k.size
  no := fun b o hb e => k.no b o (Nat.lt_of_lt_of_le hb h.size) (h.no b o hb e)
  frz := fun a ha => (k.frz a (Nat.lt_of_lt_of_le ha h.size)).trans (h.frz a ha)
  blk := fun b hb => by
    have h1 := h.blk b hb
    have h2 := k.blk b (Nat.lt_of_lt_of_le hb h.size)
    generalize hx : w0.heap[b]? = x at h1 ⊢
    cases x with
    | none => simp only [FrB] at h1 ⊢; rw [h1] at h2; simpa only [FrB] using h2
    | some x =>
      cases x with
      | cells cs e fr =>
        simp only [FrB] at h1 ⊢
        obtain ⟨cs1, e1, e2, e3⟩ := h1
        rw [e1] at h2
        simp only [FrB] at h2
        obtain ⟨cs2, f1, f2, f3⟩ := h2
        exact ⟨cs2, f1, f2.trans e2, fun o ho => (f3 o (not_writable_of h hb ho)).trans (e3 o ho)⟩
      | map es k =>
        simp only [FrB] at h1 ⊢
        obtain ⟨es1, k1, e1, e2⟩ := h1
        rw [e1] at h2
        simp only [FrB] at h2
        obtain ⟨es2, k2, f1, f2⟩ := h2
        refine ⟨es2, k2, f1, fun ho => ?_⟩
        obtain ⟨g1, g2⟩ := f2 (not_writable_of h hb ho)
        obtain ⟨g3, g4⟩ := e2 ho
        exact ⟨g1.trans g3, g2.trans g4⟩
      | _ => simp only [FrB] at h1 ⊢; rw [h1] at h2; simpa only [FrB] using h2

/-- a cell that is not writable reads as it did -/
theorem Fr.cell {c0 c : CM} {w0 w : World} (h : Fr c0 w0 c w) {b o : Nat} (hw : (c0.cl b o).writable = false) {v : Value} (hv : w0.cell? ⟨b, o, none⟩ = some v) : w.cell? ⟨b, o, none⟩ = some v := by
  have hb : b < w0.heap.size := World.block_lt_of_cell? w0 _ hv
  have h1 := h.blk b hb
  unfold World.cell? at hv ⊢
  simp only at hv ⊢
  generalize w0.heap[b]? = x at h1 hv
  cases x with
  | none => simp at hv
  | some x =>
    cases x with
    | cells cs e fr =>
      simp only [FrB] at h1
      obtain ⟨cs', e1, _, e3⟩ := h1
      rw [e1]
      simp at hv ⊢
      rw [e3 o hw]; exact hv
    | _ => simp at hv
end Fw
set_option linter.unusedVariables false
set_option linter.unusedSimpArgs false
namespace Fw
open Go

theorem alloc_heap (w : World) (o : Obj) : (w.alloc o).heap = w.heap.push o := rfl
theorem wcell_old {w : World} {o : Obj} {b j : Nat} (h : b < w.heap.size) : (w.alloc o).cell? ⟨b, j, none⟩ = w.cell? ⟨b, j, none⟩ := World.cell?_alloc_old w o _ (by simpa using Nat.ne_of_lt h)
theorem wfroz_alloc {w : World} {cs : Array Value} {e : TypeId} (a : Addr) : (w.alloc (.cells cs e)).frozen? a = w.frozen? a := by
  by_cases h : a.block = w.heap.size
  · unfold World.frozen?; rw [alloc_heap, h]; simp
  · exact World.frozen?_alloc_old w _ _ h
theorem wcell_none {w : World} {b j : Nat} (h : w.heap.size ≤ b) : w.cell? ⟨b, j, none⟩ = none := by simp [World.cell?, Array.getElem?_eq_none h]

/-- the class map with a new block -/
def CM.at (c : CM) (b0 : Nat) (g : Nat → Cl) : Nat → Nat → Cl := fun b o => if b = b0 then g o else c.cl b o
theorem CM.at_ne (c : CM) {b0 b : Nat} (g : Nat → Cl) (o : Nat) (h : b ≠ b0) : c.at b0 g b o = c.cl b o := by simp [CM.at, h]
theorem CM.at_eq (c : CM) (b0 : Nat) (g : Nat → Cl) (o : Nat) : c.at b0 g b0 o = g o := by simp [CM.at]

theorem Inv.lt {c : CM} {s : HS} {w : World} (h : Inv c s w) {b o : Nat} (hn : c.cl b o ≠ .no) : b < w.heap.size := by
  rcases Nat.lt_or_ge b w.heap.size with h' | h'
  · exact h'
  · exact absurd (h.dom b o h') hn
theorem Inv.ne {c : CM} {s : HS} {w : World} (h : Inv c s w) {b o : Nat} (hn : c.cl b o ≠ .no) : b ≠ w.heap.size := Nat.ne_of_lt (h.lt hn)

theorem Inv.drew {c : CM} {s : HS} {w : World} (h : Inv c s w) : Inv c s w.drew := ⟨h.nh, h.nt, h.tokv, h.vlt, h.imm, h.toks, h.heap, h.dom, h.maps, h.glob⟩
theorem Fr.drew {c0 c : CM} {w0 w : World} (h : Fr c0 w0 c w) : Fr c0 w0 c w.drew := ⟨h.le, h.os, h.out, h.size, h.blk, h.no, h.frz⟩

/-- maps stay -/
theorem Inv.mapsTo {c c' : CM} {s s' : HS} {w w' : World} (h : Inv c s w) (hle : c.le c') (hmp : ∀ i ps, s'.mp i = some ps → s.mp i = some ps)
    (hcl : ∀ b i, c.cl b 0 = .blk i 0 → (∃ es k, w.heap[b]? = some (.map es k)) → c'.cl b 0 = .blk i 0) (hw : ∀ (b : Nat) es k, w.heap[b]? = some (.map es k) → w'.heap[b]? = some (.map es k)) :
    ∀ i ps, s'.mp i = some ps → i < c'.nh ∧ c'.cl (c'.loc i).1 0 = .blk i 0 ∧ ∃ es ck, w'.heap[(c'.loc i).1]? = some (.map es ck) ∧ RepE c' es ck ps := by
  intro i ps hi
  obtain ⟨h1, h2, es, ck, h3, h4⟩ := h.maps i ps (hmp i ps hi)
  rw [hle.loc i h1]
  exact ⟨Nat.lt_of_lt_of_le h1 hle.nh, hcl _ _ h2 ⟨es, ck, h3⟩, es, ck, hw _ _ _ h3, h4.mono hle⟩
theorem map_setCell {w : World} {a : Addr} {v : Value} {b : Nat} {es : Array MapEntry} {k : Nat} (h : w.heap[b]? = some (.map es k)) : (w.setCell a v).heap[b]? = some (.map es k) := by
  simp only [World.setCell, Array.getElem?_modify]
  split
  · rw [h]; rfl
  · exact h
theorem map_alloc {w : World} {o : Obj} {b : Nat} {es : Array MapEntry} {k : Nat} (h : w.heap[b]? = some (.map es k)) : (w.alloc o).heap[b]? = some (.map es k) := by
  have hb : b < w.heap.size := by
    rcases Nat.lt_or_ge b w.heap.size with h' | h'
    · exact h'
    · rw [Array.getElem?_eq_none h'] at h; cases h
  rw [alloc_heap, Array.getElem?_push, if_neg (by omega)]; exact h

/-- any new block: what has to be said of it alone -/
theorem Inv.newBlock {c : CM} {s : HS} {w : World} (h : Inv c s w) (cs : Array Value) (e : TypeId) (c' : CM) (s' : HS) (g : Nat → Cl)
    (hcl : c'.cl = c.at w.heap.size g)
    (hle : c.le c')
    (hnh : s'.nh = c'.nh) (hnt : s'.nt = c'.nt) (hv : ∀ k, s'.tok k = c'.val k) (hvlt : ∀ k, c'.val k = true → k < c'.nt)
    (gimm : ∀ o v, g o = .imm v → cs[o]? = some v)
    (gtok : ∀ o k, g o = .tok k → o < cs.size)
    (hheap : ∀ i ys, s'.heap i = some ys → (s.heap i = some ys ∨ (c'.loc i = (w.heap.size, 0) ∧ i < c'.nh ∧ ∀ (j : Nat) (y : AV), ys[j]? = some y → y.leaf = true ∧ g j = .blk i j ∧ ∃ v, cs[j]? = some v ∧ Rep c' v y)))
    (hmp : ∀ i ps, s'.mp i = some ps → s.mp i = some ps) :
    Inv c' s' (w.alloc (.cells cs e)) ∧ Fr c w c' (w.alloc (.cells cs e)) := by
  refine ⟨⟨hnh, hnt, hv, hvlt, ?_, ?_, ?_, ?_, h.mapsTo hle hmp (fun b i hb _ => by rw [hcl, CM.at_ne _ _ _ (h.ne (by rw [hb]; simp))]; exact hb) (fun b es k hb => map_alloc hb), h.glob.mono hle⟩, ⟨hle, rfl, rfl, by simp, ?_, ?_, fun a _ => wfroz_alloc a⟩⟩
  · intro b o v hb
    rw [hcl] at hb
    by_cases hbb : b = w.heap.size
    · subst hbb
      rw [CM.at_eq] at hb
      rw [World.cell?_alloc_new]; exact gimm o v hb
    · rw [CM.at_ne _ _ _ hbb] at hb
      rw [wcell_old (h.lt (by rw [hb]; simp))]; exact h.imm b o v hb
  · intro b o k hb
    rw [hcl] at hb
    by_cases hbb : b = w.heap.size
    · subst hbb
      rw [CM.at_eq] at hb
      have := gtok o k hb
      refine ⟨⟨cs[o], by rw [World.cell?_alloc_new]; simp [this]⟩, by simp⟩
    · rw [CM.at_ne _ _ _ hbb] at hb
      rw [wcell_old (h.lt (by rw [hb]; simp)), wfroz_alloc]; exact h.toks b o k hb
  · intro i ys hi
    rcases hheap i ys hi with hi' | ⟨hl, hlt, hj⟩
    · obtain ⟨hlt, hj⟩ := h.heap i ys hi'
      refine ⟨Nat.lt_of_lt_of_le hlt hle.nh, fun j y hy => ?_⟩
      obtain ⟨h0, h1, h2, v, h3, h4⟩ := hj j y hy
      rw [hle.loc i hlt]
      refine ⟨h0, ?_, by rw [wfroz_alloc]; exact h2, v, ?_, h4.mono hle⟩
      · rw [hcl, CM.at_ne _ _ _ (h.ne (by rw [h1]; simp))]; exact h1
      · rw [wcell_old (h.lt (o := (c.loc i).2 + j) (by rw [h1]; simp))]; exact h3
    · refine ⟨hlt, fun j y hy => ?_⟩
      obtain ⟨h0, h1, v, h2, h3⟩ := hj j y hy
      rw [hl]
      simp only [Nat.zero_add]
      exact ⟨h0, by rw [hcl, CM.at_eq]; exact h1, by simp, v, by rw [World.cell?_alloc_new]; exact h2, h3⟩
  · intro b o hb
    rw [hcl]
    simp at hb
    rw [CM.at_ne _ _ _ (by omega)]
    exact h.dom b o (by omega)
  · intro b hb
    have : (w.alloc (.cells cs e)).heap[b]? = w.heap[b]? := by
      rw [alloc_heap]; simp [Array.getElem?_push, Nat.ne_of_lt hb]
    rw [this]; exact .refl _ _ _
  · intro b o hb hno
    rw [hcl, CM.at_ne _ _ _ (Nat.ne_of_lt hb)]; exact hno

theorem CM.le_at {c : CM} {s : HS} {w : World} (h : Inv c s w) (c' : CM) (g : Nat → Cl) (hcl : c'.cl = c.at w.heap.size g) (hnh : c.nh ≤ c'.nh)
    (hloc : ∀ i, i < c.nh → c'.loc i = c.loc i) (hnt : c.nt ≤ c'.nt) (hval : ∀ k, k < c.nt → c'.val k = true → c.val k = true) : c.le c' where
  imm := fun b o v e => by rw [hcl, CM.at_ne _ _ _ (h.ne (by rw [e]; simp))]; exact e
  nh := hnh
  loc := hloc
  nt := hnt
  val := hval
  tok := fun b o k _ e _ => by rw [hcl, CM.at_ne _ _ _ (h.ne (by rw [e]; simp))]; exact e

/-- a new block whose cells stay -/
theorem Inv.newImm {c : CM} {s : HS} {w : World} (h : Inv c s w) (cs : Array Value) (e : TypeId) :
    ∃ c', Inv c' s (w.alloc (.cells cs e)) ∧ Fr c w c' (w.alloc (.cells cs e)) ∧ (∀ (j : Nat) v, cs[j]? = some v → c'.cl w.heap.size j = .imm v) := by
  let g : Nat → Cl := fun o => match cs[o]? with | some v => .imm v | none => .no
  let c' : CM := { c with cl := c.at w.heap.size g }
  have hle : c.le c' := CM.le_at h c' g rfl (Nat.le_refl _) (fun _ _ => rfl) (Nat.le_refl _) (fun _ _ e => e)
  obtain ⟨h1, h2⟩ := h.newBlock cs e c' s g rfl hle h.nh h.nt h.tokv h.vlt (by
      intro o v hg
      simp only [g] at hg
      split at hg <;> simp_all) (by
      intro o k hg
      simp only [g] at hg
      split at hg <;> simp_all) (fun i ys hi => .inl hi) (fun _ _ h => h)
  refine ⟨c', h1, h2, fun j v hj => ?_⟩
  simp only [c', CM.at_eq, g, hj]

/-- a new mutable block -/
theorem Inv.newBlk {c : CM} {s : HS} {w : World} (h : Inv c s w) (vs : List Value) (ys : List AV) (e : TypeId) (hr : RepL c vs ys) (hlf : ∀ (j : Nat) (y : AV), ys[j]? = some y → y.leaf = true) :
    ∃ c', Inv c' { s with heap := fun i => if i = s.nh then some ys else s.heap i, nh := s.nh + 1 } (w.alloc (.cells vs.toArray e)) ∧ Fr c w c' (w.alloc (.cells vs.toArray e)) ∧
      Rep c' (.pointer (some ⟨w.heap.size, 0, none⟩)) (.ref s.nh 0) := by
  let g : Nat → Cl := fun o => if o < vs.length then .blk c.nh o else .no
  let c' : CM := { c with cl := c.at w.heap.size g, nh := c.nh + 1, loc := fun i => if i = c.nh then (w.heap.size, 0) else c.loc i }
  have hle : c.le c' := CM.le_at h c' g rfl (by simp [c']) (fun i hi => by simp [c', Nat.ne_of_lt hi]) (Nat.le_refl _) (fun _ _ e => e)
  obtain ⟨h1, h2⟩ := h.newBlock vs.toArray e c' { s with heap := fun i => if i = s.nh then some ys else s.heap i, nh := s.nh + 1 } g rfl hle (by simp [c', h.nh]) h.nt h.tokv h.vlt (by
      intro o v hg
      simp only [g] at hg
      split at hg <;> simp_all) (by
      intro o k hg
      simp only [g] at hg
      split at hg <;> simp_all) (by
      intro i ys' hi
      simp only at hi
      split at hi
      · rename_i hin
        injection hi with hi; subst hi
        right
        rw [h.nh] at hin
        subst hin
        refine ⟨by simp [c'], by simp [c'], fun j y hy => ?_⟩
        obtain ⟨v, hv, hrv⟩ := hr.get hy
        have hj : j < vs.length := by
          rcases Nat.lt_or_ge j vs.length with h' | h'
          · exact h'
          · simp [List.getElem?_eq_none h'] at hv
        exact ⟨hlf j y hy, by simp [g, hj], v, by simpa using hv, hrv.mono hle⟩
      · exact .inl hi) (fun _ _ h => h)
  refine ⟨c', h1, h2, ?_⟩
  have := Rep.ref (c := c') c.nh 0 (by simp [c'])
  simp only [c', if_true] at this
  rw [h.nh]; exact this

/-- a store into a mutable block: one cell -/
theorem Inv.setBlk {c : CM} {s : HS} {w : World} (h : Inv c s w) {i : Nat} {ys : List AV} (hi : s.heap i = some ys) {j : Nat} (hj : j < ys.length) {v : Value} {x : AV} (hv : Rep c v x) (hx : x.leaf = true) :
    Inv c { s with heap := fun k => if k = i then some (ys.set j x) else s.heap k } (w.setCell ⟨(c.loc i).1, (c.loc i).2 + j, none⟩ v) ∧
    Fr c w c (w.setCell ⟨(c.loc i).1, (c.loc i).2 + j, none⟩ v) := by
  obtain ⟨hilt, hcells⟩ := h.heap i ys hi
  obtain ⟨_, hcl, hfz, u, hu, _⟩ := hcells j ys[j] (by simp [hj])
  have hne : ∀ b o, c.cl b o ≠ .blk i j → (⟨(c.loc i).1, (c.loc i).2 + j, none⟩ : Addr) ≠ ⟨b, o, none⟩ := by
    intro b o hb he
    injection he with e1 e2
    subst e1; subst e2
    exact hb hcl
  refine ⟨⟨h.nh, h.nt, h.tokv, h.vlt, ?_, ?_, ?_, ?_, h.mapsTo (.refl c) (fun _ _ h => h) (fun _ _ h _ => h) (fun _ _ _ h => map_setCell h), h.glob⟩, ⟨.refl c, rfl, rfl, by simp, ?_, fun _ _ _ h => h, fun a _ => by simp⟩⟩
  · intro b o v' hb
    rw [World.cell?_setCell_other w _ _ _ (hne b o (by rw [hb]; simp))]; exact h.imm b o v' hb
  · intro b o k hb
    rw [World.cell?_setCell_other w _ _ _ (hne b o (by rw [hb]; simp)), World.frozen?_setCell]; exact h.toks b o k hb
  · intro i' ys' hi'
    simp only at hi'
    split at hi'
    · rename_i he
      subst he
      injection hi' with hi'; subst hi'
      refine ⟨hilt, fun j' y hy => ?_⟩
      rw [List.getElem?_set] at hy
      split at hy
      · rename_i hjj
        subst hjj
        simp [hj] at hy
        subst hy
        exact ⟨hx, hcl, by simpa using hfz, v, World.cell?_setCell_same w _ _ hu, hv⟩
      · rename_i hjj
        obtain ⟨h0, h1, h2, v', h3, h4⟩ := hcells j' y hy
        refine ⟨h0, h1, by simpa using h2, v', ?_, h4⟩
        rw [World.cell?_setCell_other w _ _ _ (hne _ _ (by rw [h1]; intro e; injection e with _ e; exact hjj e.symm))]; exact h3
    · rename_i he
      obtain ⟨hlt, hall⟩ := h.heap i' ys' hi'
      refine ⟨hlt, fun j' y hy => ?_⟩
      obtain ⟨h0, h1, h2, v', h3, h4⟩ := hall j' y hy
      refine ⟨h0, h1, by simpa using h2, v', ?_, h4⟩
      rw [World.cell?_setCell_other w _ _ _ (hne _ _ (by rw [h1]; intro e; injection e with e _; exact he e))]; exact h3
  · intro b o hb
    exact h.dom b o (by simpa using hb)
  · intro b hb
    have hblk : (w.setCell ⟨(c.loc i).1, (c.loc i).2 + j, none⟩ v).heap[b]? = if (c.loc i).1 = b then (w.heap[b]?).map (fun
      | .cells cc elem frozen => .cells (cc.setIfInBounds ((c.loc i).2 + j) v) elem frozen
      | o => o) else w.heap[b]? := by
      simp only [World.setCell, Array.getElem?_modify]
      rfl
    rw [hblk]
    split
    · rename_i he
      subst he
      cases hh : w.heap[(c.loc i).1]? with
      | none => simp [FrB]
      | some x =>
        cases x with
        | cells cs e fr =>
          refine ⟨_, rfl, by simp, fun o ho => ?_⟩
          rw [Array.getElem?_setIfInBounds]
          split
          · rename_i hoo
            subst hoo
            rw [hcl] at ho
            simp [Cl.writable] at ho
          · rfl
        | map es k => exact ⟨es, k, rfl, fun _ => ⟨rfl, rfl⟩⟩
        | _ => simp [FrB]
    · exact .refl _ _ _
end Fw
set_option linter.unusedVariables false
set_option linter.unusedSimpArgs false
namespace Fw
open Go

def wset (w : World) (b : Nat) : Nat → List Value → World
  | _, [] => w
  | o, v :: vs => wset (w.setCell ⟨b, o, none⟩ v) b (o + 1) vs

theorem wset_size (b : Nat) (vs : List Value) : ∀ (o : Nat) (w : World), (wset w b o vs).heap.size = w.heap.size := by
  induction vs with
  | nil => intro o w; rfl
  | cons v vs ih => intro o w; simp [wset, ih]
theorem wset_frozen (b : Nat) (vs : List Value) : ∀ (o : Nat) (w : World) (a : Addr), (wset w b o vs).frozen? a = w.frozen? a := by
  induction vs with
  | nil => intro o w a; rfl
  | cons v vs ih => intro o w a; simp [wset, ih]
theorem wset_os (b : Nat) (vs : List Value) : ∀ (o : Nat) (w : World), (wset w b o vs).os = w.os ∧ (wset w b o vs).output = w.output := by
  induction vs with
  | nil => intro o w; exact ⟨rfl, rfl⟩
  | cons v vs ih => intro o w; exact ih _ _
theorem wset_out (b : Nat) (vs : List Value) : ∀ (o : Nat) (w : World) (b' x : Nat), (b' ≠ b ∨ x < o ∨ o + vs.length ≤ x) → (wset w b o vs).cell? ⟨b', x, none⟩ = w.cell? ⟨b', x, none⟩ := by
  induction vs with
  | nil => intro o w b' x _; rfl
  | cons v vs ih =>
    intro o w b' x h
    simp only [wset]
    rw [ih (o + 1) _ b' x (by simp only [List.length_cons] at h; omega)]
    refine World.cell?_setCell_other w _ _ _ ?_
    intro e
    injection e with e1 e2
    simp only [List.length_cons] at h
    omega
theorem wset_in (b : Nat) (vs : List Value) : ∀ (o : Nat) (w : World), (∀ j, j < vs.length → ∃ u, w.cell? ⟨b, o + j, none⟩ = some u) →
    ∀ (j : Nat) (v : Value), vs[j]? = some v → (wset w b o vs).cell? ⟨b, o + j, none⟩ = some v := by
  induction vs with
  | nil => intro o w _ j v h; simp at h
  | cons u vs ih =>
    intro o w hex j v h
    simp only [wset]
    cases j with
    | zero =>
      simp at h; subst h
      rw [wset_out b vs (o + 1) _ b (o + 0) (by omega)]
      obtain ⟨x, hx⟩ := hex 0 (by simp)
      exact World.cell?_setCell_same w _ _ hx
    | succ j =>
      have := ih (o + 1) (w.setCell ⟨b, o, none⟩ u) (fun j' hj' => by
        obtain ⟨x, hx⟩ := hex (j' + 1) (by simp; omega)
        refine ⟨x, ?_⟩
        rw [World.cell?_setCell_other w _ _ _ (by intro e; injection e with e1 e2; omega)]
        rw [show o + 1 + j' = o + (j' + 1) by omega]; exact hx) j v (by simpa using h)
      rw [show o + (j + 1) = o + 1 + j by omega]; exact this

theorem run_storeCells {P : Program} (b : Nat) (vs : List Value) : ∀ (o i : Nat) (w : World), (∀ j, j < vs.length → (∃ u, w.cell? ⟨b, o + i + j, none⟩ = some u) ∧ w.frozen? ⟨b, o + i + j, none⟩ = false) →
    (∀ v ∈ vs, v.oneCell' = true) → (storeCells ⟨b, o, none⟩ vs i).run P w = .ok () (wset w b (o + i) vs) := by
  induction vs with
  | nil => intro o i w _ _; rfl
  | cons v vs ih =>
    intro o i w h h1
    obtain ⟨⟨u, hu⟩, hf⟩ := h 0 (by simp)
    simp only [Nat.add_zero] at hu hf
    simp only [storeCells, Sem.run_bind, Addr.add_lit]
    rw [run_store P w _ v _ (h1 v (by simp))]
    simp only [hu, hf, Result.andThen_ok, Bool.false_eq_true, if_false]
    rw [ih o (i + 1) _ (fun j hj => ?_) (fun v hv => h1 v (by simp [hv]))]
    · rfl
    · obtain ⟨⟨u', hu'⟩, hf'⟩ := h (j + 1) (by simp; omega)
      rw [show o + (i + 1) + j = o + i + (j + 1) by omega]
      refine ⟨⟨u', ?_⟩, by simpa using hf'⟩
      rw [World.cell?_setCell_other w _ _ _ (by intro e; injection e with e1 e2; omega)]; exact hu'

theorem Rep.oneCell {c : CM} {v : Value} {x : AV} (h : Rep c v x) (hx : x.leaf = true) : v.oneCell' = true := by
  cases h <;> first | rfl | (simp [AV.leaf] at hx)

theorem RepL.oneCell {c : CM} {vs : List Value} {xs : List AV} (h : RepL c vs xs) (hx : ∀ (j : Nat) (y : AV), xs[j]? = some y → y.leaf = true) : ∀ v ∈ vs, v.oneCell' = true := by
  intro v hv
  obtain ⟨j, hj⟩ := List.mem_iff_getElem?.1 hv
  have hl : j < xs.length := by
    rw [← h.1]
    rcases Nat.lt_or_ge j vs.length with h' | h'
    · exact h'
    · simp [List.getElem?_eq_none h'] at hj
  exact (h.2 j v xs[j] hj (by simp [hl])).oneCell (hx j _ (by simp [hl]))

def setL : List AV → Nat → List AV → List AV
  | ys, _, [] => ys
  | ys, o, x :: xs => setL (ys.set o x) (o + 1) xs

/-- a store of several cells into a mutable block -/
theorem Inv.setBlkL {c : CM} (i : Nat) : ∀ (xs : List AV) (vs : List Value) (s : HS) (w : World) (ys : List AV) (o : Nat), Inv c s w → s.heap i = some ys → RepL c vs xs → (∀ (j : Nat) (y : AV), xs[j]? = some y → y.leaf = true) →
    o + xs.length ≤ ys.length → ∃ s', s' = { s with heap := fun k => if k = i then some (setL ys o xs) else s.heap k } ∧
      Inv c s' (wset w (c.loc i).1 ((c.loc i).2 + o) vs) ∧ Fr c w c (wset w (c.loc i).1 ((c.loc i).2 + o) vs) := by
  intro xs
  induction xs with
  | nil =>
    intro vs s w ys o h hi hr _ _
    rw [hr.nil_inv]
    refine ⟨_, rfl, ?_, Fr.refl c _⟩
    have : ({ s with heap := fun k => if k = i then some (setL ys o []) else s.heap k } : HS) = s := by
      obtain ⟨hp, a, b, d, mm⟩ := s
      congr 1
      funext k
      simp only [setL]
      split
      · rename_i e; rw [e]; exact hi.symm
      · rfl
    rw [this]; exact h
  | cons x xs ih =>
    intro vs s w ys o h hi hr hlf hlen
    obtain ⟨v, vs', rfl, hv, hvs⟩ := hr.cons_inv
    simp only [List.length_cons] at hlen
    obtain ⟨h1, f1⟩ := h.setBlk hi (j := o) (by omega) hv (hlf 0 x rfl)
    obtain ⟨s', hs', h2, f2⟩ := ih vs' _ _ (ys.set o x) (o + 1) h1 (by simp) hvs (fun j y hy => hlf (j + 1) y (by simpa using hy)) (by simp; omega)
    refine ⟨_, rfl, ?_, ?_⟩
    · have e : ({ s with heap := fun k => if k = i then some (setL ys o (x :: xs)) else s.heap k } : HS) = s' := by
        rw [hs']
        congr 1
        funext k
        simp only [setL]
        split <;> rfl
      rw [e]
      exact h2
    · exact f1.trans f2

/-- an append into spare cells that a token owns -/
theorem Inv.appendIn {c : CM} {s : HS} {w : World} (h : Inv c s w) (b lo hi k : Nat) (hv : c.val k = true) (hreg : ∀ x, lo ≤ x → x < hi → c.cl b x = .tok k)
    (vs : List Value) (hlen : lo + vs.length ≤ hi) :
    ∃ c', Inv c' { s with nt := s.nt + 1, tok := fun t => if t = s.nt then true else if t = k then false else s.tok t } (wset w b lo vs) ∧ Fr c w c' (wset w b lo vs) ∧
      (∀ (j : Nat) (v : Value), vs[j]? = some v → c'.cl b (lo + j) = .imm v) ∧ (∀ x, lo + vs.length ≤ x → x < hi → c'.cl b x = .tok s.nt) ∧ c'.nt = s.nt + 1 ∧ c'.val s.nt = true := by
  have hknt : k < c.nt := h.vlt k hv
  let c' : CM := { c with cl := fun b' x => if b' = b ∧ lo ≤ x ∧ x < hi then (match vs[x - lo]? with | some v => .imm v | none => .tok s.nt) else c.cl b' x, nt := c.nt + 1, val := fun t => if t = s.nt then true else if t = k then false else c.val t }
  have hin : ∀ j, j < vs.length → (∃ u, w.cell? ⟨b, lo + j, none⟩ = some u) ∧ w.frozen? ⟨b, lo + j, none⟩ = false := fun j hj => h.toks b (lo + j) k (hreg _ (by omega) (by omega))
  have hcl_out : ∀ b' x, ¬ (b' = b ∧ lo ≤ x ∧ x < hi) → c'.cl b' x = c.cl b' x := fun b' x hn => by simp only [c', hn, if_false]
  have hcl_imm : ∀ (j : Nat) (v : Value), vs[j]? = some v → c'.cl b (lo + j) = .imm v := by
    intro j v hj
    have : j < vs.length := by
      rcases Nat.lt_or_ge j vs.length with h' | h'
      · exact h'
      · simp [List.getElem?_eq_none h'] at hj
    have hc : b = b ∧ lo ≤ lo + j ∧ lo + j < hi := ⟨rfl, by omega, by omega⟩
    simp only [c', hc, if_true, Nat.add_sub_cancel_left, hj]
    simp
  have hcl_tok : ∀ x, lo + vs.length ≤ x → x < hi → c'.cl b x = .tok s.nt := by
    intro x h1 h2
    have hc : b = b ∧ lo ≤ x ∧ x < hi := ⟨rfl, by omega, h2⟩
    have : vs[x - lo]? = none := List.getElem?_eq_none (by omega)
    simp only [c', this]
    simp [hc]
  have hle : c.le c' := by
    refine ⟨?_, Nat.le_refl _, fun _ _ => rfl, by simp [c'], ?_, ?_⟩
    · intro b' o v he
      rw [hcl_out]
      · exact he
      · rintro ⟨rfl, h1, h2⟩
        rw [hreg o h1 h2] at he; cases he
    · intro t ht he
      simp only [c'] at he
      split at he
      · rename_i e; rw [h.nt] at e; omega
      · split at he
        · cases he
        · exact he
    · intro b' o t ht he hv'
      have htk : t ≠ k := by
        rintro rfl
        simp only [c'] at hv'
        split at hv'
        · rename_i e; rw [h.nt] at e; omega
        · simp at hv'
      rw [hcl_out]
      · exact he
      · rintro ⟨rfl, h1, h2⟩
        rw [hreg o h1 h2] at he
        injection he with he
        exact htk he.symm
  have wmap : ∀ (vs : List Value) (o : Nat) (w : World) (b' : Nat) es ck, w.heap[b']? = some (.map es ck) → (wset w b o vs).heap[b']? = some (.map es ck) := by
    intro vs
    induction vs with
    | nil => intro o w b' es ck h; exact h
    | cons v vs ih => intro o w b' es ck h; exact ih _ _ _ _ _ (map_setCell h)
  refine ⟨c', ⟨h.nh, by simp [c', h.nt], ?_, ?_, ?_, ?_, ?_, ?_, h.mapsTo hle (fun _ _ h => h) (fun b' i hb _ => by
    rw [hcl_out]
    · exact hb
    · rintro ⟨rfl, h1, h2⟩
      rw [hreg 0 h1 h2] at hb; cases hb) (fun b' es ck h => wmap vs lo w b' es ck h), h.glob.mono hle⟩, ⟨hle, (wset_os b vs lo w).1, (wset_os b vs lo w).2, by rw [wset_size]; exact Nat.le_refl _, ?_, ?_, fun a _ => wset_frozen b vs lo w a⟩, hcl_imm, hcl_tok, by simp [c', h.nt], by simp [c']⟩
  · intro t
    simp only [c', h.tokv]
  · intro t ht
    simp only [c'] at ht ⊢
    split at ht
    · rename_i e; rw [e, h.nt]; omega
    · split at ht
      · cases ht
      · have := h.vlt t ht; omega
  · intro b' o v he
    by_cases hc : b' = b ∧ lo ≤ o ∧ o < hi
    · obtain ⟨rfl, h1, h2⟩ := hc
      rcases Nat.lt_or_ge o (lo + vs.length) with h3 | h3
      · have h4 : vs[o - lo]? = some vs[o - lo] := List.getElem?_eq_getElem _
        have h5 := hcl_imm (o - lo) _ h4
        rw [show lo + (o - lo) = o by omega] at h5
        rw [h5] at he
        injection he with he
        have := wset_in b' vs lo w (fun j hj => (hin j hj).1) (o - lo) _ h4
        rw [show lo + (o - lo) = o by omega] at this
        rw [this, he]
      · rw [hcl_tok o h3 h2] at he; cases he
    · rw [hcl_out b' o hc] at he
      rw [wset_out b vs lo w b' o (by
        by_cases hb : b' = b
        · right
          rcases Nat.lt_or_ge o lo with h1 | h1
          · exact .inl h1
          · right
            have : ¬ o < hi := fun h2 => hc ⟨hb, h1, h2⟩
            omega
        · exact .inl hb)]
      exact h.imm b' o v he
  · intro b' o t he
    rw [wset_frozen]
    by_cases hc : b' = b ∧ lo ≤ o ∧ o < hi
    · obtain ⟨rfl, h1, h2⟩ := hc
      have h0 := h.toks b' o k (hreg o h1 h2)
      refine ⟨?_, h0.2⟩
      rcases Nat.lt_or_ge o (lo + vs.length) with h3 | h3
      · have h4 : vs[o - lo]? = some vs[o - lo] := List.getElem?_eq_getElem _
        have := wset_in b' vs lo w (fun j hj => (hin j hj).1) (o - lo) _ h4
        rw [show lo + (o - lo) = o by omega] at this
        exact ⟨_, this⟩
      · rw [wset_out b' vs lo w b' o (.inr (.inr h3))]; exact h0.1
    · rw [hcl_out b' o hc] at he
      rw [wset_out b vs lo w b' o (by
        by_cases hb : b' = b
        · right
          rcases Nat.lt_or_ge o lo with h1 | h1
          · exact .inl h1
          · right
            have : ¬ o < hi := fun h2 => hc ⟨hb, h1, h2⟩
            omega
        · exact .inl hb)]
      exact h.toks b' o t he
  · intro i ys hi'
    obtain ⟨hlt, hall⟩ := h.heap i ys hi'
    refine ⟨hlt, fun j y hy => ?_⟩
    rw [show c'.loc = c.loc from rfl]
    obtain ⟨h0, h1, h2, v, h3, h4⟩ := hall j y hy
    have hc : ¬ ((c.loc i).1 = b ∧ lo ≤ (c.loc i).2 + j ∧ (c.loc i).2 + j < hi) := by
      rintro ⟨e, e1, e2⟩
      rw [e, hreg _ e1 e2] at h1; cases h1
    refine ⟨h0, by rw [hcl_out _ _ hc]; exact h1, by rw [wset_frozen]; exact h2, v, ?_, h4.mono hle⟩
    rw [wset_out b vs lo w _ _ (by
        by_cases hb : (c.loc i).1 = b
        · right
          rcases Nat.lt_or_ge ((c.loc i).2 + j) lo with h1 | h1
          · exact .inl h1
          · right
            have : ¬ (c.loc i).2 + j < hi := fun h2 => hc ⟨hb, h1, h2⟩
            omega
        · exact .inl hb)]
    exact h3
  · intro b' o hb
    rw [wset_size] at hb
    have hno := h.dom b' o hb
    rw [hcl_out]
    · exact hno
    · rintro ⟨rfl, h1, h2⟩
      rw [hreg o h1 h2] at hno; cases hno
  · have key : ∀ (vs : List Value) (o : Nat) (w : World), lo ≤ o → o + vs.length ≤ hi → ∀ b', FrB c b' w.heap[b']? (wset w b o vs).heap[b']? := by
      intro vs
      induction vs with
      | nil => intro o w _ _ b'; exact .refl _ _ _
      | cons v vs ih =>
        intro o w ho1 ho2 b'
        simp only [List.length_cons] at ho2
        have h2 := ih (o + 1) (w.setCell ⟨b, o, none⟩ v) (by omega) (by omega) b'
        have h1 : FrB c b' w.heap[b']? (w.setCell ⟨b, o, none⟩ v).heap[b']? := by
          have hblk : (w.setCell ⟨b, o, none⟩ v).heap[b']? = if b = b' then (w.heap[b']?).map (fun
            | .cells cc elem frozen => .cells (cc.setIfInBounds o v) elem frozen
            | o => o) else w.heap[b']? := by
            simp only [World.setCell, Array.getElem?_modify]
            rfl
          rw [hblk]
          split
          · rename_i e
            subst e
            cases hh : w.heap[b]? with
            | none => simp [FrB]
            | some x =>
              cases x with
              | cells cs e fr =>
                refine ⟨_, rfl, by simp, fun x hx => ?_⟩
                rw [Array.getElem?_setIfInBounds]
                split
                · rename_i he
                  subst he
                  rw [hreg o ho1 (by omega)] at hx
                  simp [Cl.writable] at hx
                · rfl
              | map es k => exact ⟨es, k, rfl, fun _ => ⟨rfl, rfl⟩⟩
              | _ => simp [FrB]
          · exact .refl _ _ _
        simp only [wset]
        generalize w.heap[b']? = x at h1 ⊢
        generalize (w.setCell ⟨b, o, none⟩ v).heap[b']? = y at h1 h2
        cases x with
        | none => simp only [FrB] at h1 ⊢; rw [h1] at h2; simpa only [FrB] using h2
        | some x =>
          cases x with
          | cells cs e fr =>
            simp only [FrB] at h1 ⊢
            obtain ⟨cs1, e1, e2, e3⟩ := h1
            rw [e1] at h2
            simp only [FrB] at h2
            obtain ⟨cs2, f1, f2, f3⟩ := h2
            exact ⟨cs2, f1, f2.trans e2, fun o ho => (f3 o ho).trans (e3 o ho)⟩
          | map es k =>
            simp only [FrB] at h1 ⊢
            obtain ⟨es1, k1, e1, e2⟩ := h1
            rw [e1] at h2
            simp only [FrB] at h2
            obtain ⟨es2, k2, f1, f2⟩ := h2
            exact ⟨es2, k2, f1, fun ho => ⟨(f2 ho).1.trans (e2 ho).1, (f2 ho).2.trans (e2 ho).2⟩⟩
          | _ => simp only [FrB] at h1 ⊢; rw [h1] at h2; simpa only [FrB] using h2
    intro b' _
    exact key vs lo w (Nat.le_refl _) hlen b'
  · intro b' o hb hno
    rw [hcl_out]
    · exact hno
    · rintro ⟨rfl, h1, h2⟩
      rw [hreg o h1 h2] at hno; cases hno
end Fw
set_option linter.unusedVariables false
set_option linter.unusedSimpArgs false
namespace Fw
open Go

def DoneS (P : Program) (c : CM) (w : World) (m : Sem Value) (x : AV) (s' : HS) : Prop :=
  ∃ v w' c', m.run P w = .ok v w' ∧ Rep c' v x ∧ Inv c' s' w' ∧ Fr c w c' w'

theorem DoneS.pure {P : Program} {c : CM} {s : HS} {w : World} {m : Sem Value} {v : Value} {x : AV} (hi : Inv c s w) (h : m.run P w = .ok v w) (hr : Rep c v x) : DoneS P c w m x s :=
  ⟨v, w, c, h, hr, hi, .refl _ _⟩

theorem Rep.cells {c : CM} {v : Value} {x : AV} (h : Rep c v x) : RepL c v.cells.toList x.cells := by
  cases h with
  | agg vs xs hl h lf => exact ⟨by simpa [Value.cells, AV.cells] using hl, by simpa [Value.cells, AV.cells] using h⟩
  | int k n => exact .cons (.int k n) .nil
  | bool b => exact .cons (.bool b) .nil
  | str b => exact .cons (.str b) .nil
  | nilptr => exact .cons .nilptr .nil
  | nilsl => exact .cons .nilsl .nil
  | nilif => exact .cons .nilif .nil
  | nilfn => exact .cons .nilfn .nil
  | ptr b o vs x hl hc h lf => exact .cons (.ptr b o vs x hl hc h lf) .nil
  | ref i off hi => exact .cons (.ref i off hi) .nil
  | msl ag sz i off len cap ex hi hl he => exact .cons (.msl ag sz i off len cap ex hi hl he) .nil
  | gsl b o cap sz n k hn hcap => exact .cons (.gsl b o cap sz n k hn hcap) .nil
  | esl a => exact .cons (.esl a) .nil
  | osl ag sz i len cap k hi hcap => exact .cons (.osl ag sz i len cap k hi hcap) .nil
  | nilmp => exact .cons .nilmp .nil
  | mp i hi => exact .cons (.mp i hi) .nil
  | sl b o cap sz xs cp vs hl hz hc h lf hcap => exact .cons (.sl b o cap sz xs cp vs hl hz hc h lf hcap) .nil
  | tup vs xs hl h => exact .cons (.tup vs xs hl h) .nil
  | fn f v1 v2 x1 x2 a1 a2 a3 a4 => exact .cons (.fn f v1 v2 x1 x2 a1 a2 a3 a4) .nil
  | iface t v x h => exact .cons (.iface t v x h) .nil
theorem Rep.cells_leaf {c : CM} {v : Value} {x : AV} (h : Rep c v x) (hs : x.sto = true) : ∀ (j : Nat) (y : AV), x.cells[j]? = some y → y.leaf = true := by
  intro j y hy
  cases h <;> (try (simp [AV.sto] at hs; done)) <;> simp only [AV.cells] at hy
  case agg vs xs hl h lf => exact lf j y hy
  all_goals
    cases j with
    | zero => simp at hy; subst hy; rfl
    | succ j => simp at hy

/-! parts -/
def descAgg : TypeDesc → Bool
  | .struct _ => true
  | .array _ _ => true
  | _ => false
def apart (ag : Bool) (sz off : Nat) (cs : List AV) : Option AV :=
  if ag then (if off + sz ≤ cs.length then some (.agg ((cs.drop off).take sz)) else none)
  else cs[off]?

theorem run_part {P : Program} {t : TypeId} {d : TypeDesc} {i : TypeInfo} (hd : P.underlying t = some d) (hi : P.info? t = some i) (w : World) {ag : Bool} (hag : ag = descAgg d)
    {c : CM} {vs : List Value} {xs : List AV} (h : RepL c vs xs) (lf : ∀ (j : Nat) (y : AV), xs[j]? = some y → y.leaf = true) {off : Nat} {x : AV} (hx : apart ag i.size off xs = some x) :
    ∃ v, (part t vs.toArray off).run P w = .ok v w ∧ Rep c v x := by
  have hisAgg : (isAgg t).run P w = .ok ag w := by
    simp only [isAgg, Sem.run_bind, run_underlying hd, Result.andThen_ok]
    subst hag
    cases d <;> rfl
  simp only [part, Sem.run_bind, hisAgg, Result.andThen_ok]
  unfold apart at hx
  cases ag with
  | true =>
    simp only [if_true] at hx ⊢
    split at hx
    · rename_i hle
      injection hx with hx; subst hx
      refine ⟨.agg (vs.toArray.extract off (off + i.size)), by simp [Go.sizeOf, typeInfo, hi], ?_⟩
      have := Rep.agg ((vs.drop off).take i.size) ((xs.drop off).take i.size) (by simp [h.1]) (fun j v y h1 h2 => ((h.drop off).take i.size).2 j v y h1 h2) (fun j y hy => by
        rw [List.getElem?_take] at hy
        split at hy
        · rw [List.getElem?_drop] at hy; exact lf _ _ hy
        · cases hy)
      have e : (vs.toArray.extract off (off + i.size)) = ((vs.drop off).take i.size).toArray := by
        apply Array.ext'
        simp [List.extract_eq_take_drop]
      rw [e]; exact this
    · cases hx
  | false =>
    simp only [Bool.false_eq_true, if_false] at hx ⊢
    obtain ⟨v, hv, hr⟩ := h.get hx
    exact ⟨v, by simp [hv], hr⟩

/-! loads -/
def aload (hp : Nat → Option (List AV)) (ag : Bool) (sz : Nat) : AV → Option AV
  | .ptr x => apart ag sz 0 x.cells
  | .ref i off => (hp i).bind fun ys => apart ag sz off ys
  | _ => none

theorem run_loadVar {P : Program} {t : TypeId} {d : TypeDesc} {i : TypeInfo} (hd : P.underlying t = some d) (hi : P.info? t = some i) (w : World) {ag : Bool} (hag : ag = descAgg d)
    {c : CM} {b o : Nat} {vs : List Value} {xs : List AV} (h : RepL c vs xs) (lf : ∀ (j : Nat) (y : AV), xs[j]? = some y → y.leaf = true)
    (hc : ∀ (j : Nat) (v : Value), vs[j]? = some v → w.cell? ⟨b, o + j, none⟩ = some v) {off : Nat} {x : AV} (hx : apart ag i.size off xs = some x) :
    ∃ v, (loadVar t ⟨b, o + off, none⟩).run P w = .ok v w ∧ Rep c v x := by
  have hisAgg : (isAgg t).run P w = .ok ag w := by
    simp only [isAgg, Sem.run_bind, run_underlying hd, Result.andThen_ok]
    subst hag
    cases d <;> rfl
  simp only [loadVar, Sem.run_bind, hisAgg, Result.andThen_ok]
  unfold apart at hx
  cases ag with
  | true =>
    simp only [if_true] at hx ⊢
    split at hx
    · rename_i hle
      injection hx with hx; subst hx
      have hlen : ((vs.drop off).take i.size).length = i.size := by simp [h.1]; omega
      have hrun := run_loadCells_list (P := P) w ⟨b, o + off, none⟩ ((vs.drop off).take i.size) (fun j v hj => by
        rw [List.getElem?_take] at hj
        split at hj
        · rw [List.getElem?_drop] at hj
          rw [Addr.add_lit, show o + off + j = o + (off + j) by omega]
          exact hc _ _ hj
        · cases hj)
      rw [hlen] at hrun
      refine ⟨.agg ((vs.drop off).take i.size).toArray, by simp [Go.sizeOf, typeInfo, hi, hrun], ?_⟩
      exact Rep.agg ((vs.drop off).take i.size) ((xs.drop off).take i.size) (by simp [h.1]) (fun j v y h1 h2 => ((h.drop off).take i.size).2 j v y h1 h2) (fun j y hy => by
        rw [List.getElem?_take] at hy
        split at hy
        · rw [List.getElem?_drop] at hy; exact lf _ _ hy
        · cases hy)
    · cases hx
  | false =>
    simp only [Bool.false_eq_true, if_false] at hx ⊢
    obtain ⟨v, hv, hr⟩ := h.get hx
    exact ⟨v, by simp [hc _ _ hv], hr⟩

theorem Inv.readBlk {c : CM} {s : HS} {w : World} (h : Inv c s w) {i : Nat} {ys : List AV} (hi : s.heap i = some ys) :
    i < c.nh ∧ (∀ (j : Nat) (y : AV), ys[j]? = some y → y.leaf = true) ∧ ∃ vs, RepL c vs ys ∧ ∀ (j : Nat) (v : Value), vs[j]? = some v → w.cell? ⟨(c.loc i).1, (c.loc i).2 + j, none⟩ = some v := by
  obtain ⟨hlt, hall⟩ := h.heap i ys hi
  refine ⟨hlt, fun j y hy => (hall j y hy).1, ?_⟩
  have key : ∀ n, n ≤ ys.length → ∃ vs : List Value, vs.length = n ∧ (∀ (j : Nat) (v : Value) (y : AV), vs[j]? = some v → ys[j]? = some y → Rep c v y) ∧ ∀ (j : Nat) (v : Value), vs[j]? = some v → w.cell? ⟨(c.loc i).1, (c.loc i).2 + j, none⟩ = some v := by
    intro n
    induction n with
    | zero => intro _; exact ⟨[], rfl, fun j v y h => by simp at h, fun j v h => by simp at h⟩
    | succ n ih =>
      intro hn
      obtain ⟨vs, hl, h1, h2⟩ := ih (by omega)
      obtain ⟨_, _, _, v, hv, hr⟩ := hall n ys[n] (List.getElem?_eq_getElem _)
      refine ⟨vs ++ [v], by simp [hl], fun j u y hu hy => ?_, fun j u hu => ?_⟩
      · rw [List.getElem?_append] at hu
        split at hu
        · exact h1 j u y hu hy
        · have : j = n := by
            rcases Nat.lt_or_ge (j - vs.length) 1 with h' | h'
            · omega
            · rw [List.getElem?_eq_none (by simpa using h')] at hu; cases hu
          subst this
          simp [hl] at hu
          subst hu
          rw [List.getElem?_eq_getElem (by omega)] at hy
          injection hy with hy; subst hy; exact hr
      · rw [List.getElem?_append] at hu
        split at hu
        · exact h2 j u hu
        · have : j = n := by
            rcases Nat.lt_or_ge (j - vs.length) 1 with h' | h'
            · omega
            · rw [List.getElem?_eq_none (by simpa using h')] at hu; cases hu
          subst this
          simp [hl] at hu
          subst hu; exact hv
  obtain ⟨vs, h1, h2, h3⟩ := key ys.length (Nat.le_refl _)
  exact ⟨vs, ⟨h1, h2⟩, h3⟩

theorem sound_load {P : Program} {t : TypeId} {d : TypeDesc} {i : TypeInfo} (hd : P.underlying t = some d) (hi : P.info? t = some i) {ag : Bool} (hag : ag = descAgg d)
    {c : CM} {s : HS} {w : World} (h : Inv c s w) {v : Value} {p x : AV} (hp : Rep c v p) (hx : aload s.heap ag i.size p = some x) : DoneS P c w (Instr.loadAt t v) x s := by
  cases hp <;> simp only [aload] at hx <;> (try (cases hx; done))
  case ptr b o vs y hl hc hr lf =>
    obtain ⟨v, h1, h2⟩ := run_loadVar hd hi w hag (b := b) (o := o) ⟨hl, hr⟩ lf (fun j u hj => h.imm _ _ _ (hc j u hj)) hx
    exact .pure h (by simp only [Instr.loadAt, Instr.sureAddr, Sem.run_bind, Sem.run_pure, Result.andThen_ok]; simpa using h1) h2
  case ref k off hk =>
    cases hh : s.heap k with
    | none => simp [hh] at hx
    | some ys =>
      simp [hh] at hx
      obtain ⟨hlt, lf, vs, hr, hc⟩ := h.readBlk hh
      obtain ⟨v, h1, h2⟩ := run_loadVar hd hi w hag hr lf hc hx
      exact .pure h (by simp only [Instr.loadAt, Instr.sureAddr, Sem.run_bind, Sem.run_pure, Result.andThen_ok]; exact h1) h2

/-! stores -/
def astore (hp : Nat → Option (List AV)) (sz : Nat) (p x : AV) : Option (Nat → Option (List AV)) :=
  match p with
  | .ref i off => (hp i).bind fun ys => if x.sto = true ∧ x.cells.length = sz ∧ off + sz ≤ ys.length then some (fun k => if k = i then some (setL ys off x.cells) else hp k) else none
  | _ => none

theorem sound_store {P : Program} {t : TypeId} {i : TypeInfo} (hi : P.info? t = some i) {c : CM} {s : HS} {w : World} (h : Inv c s w) {u v : Value} {p x : AV} (hp : Rep c u p) (hv : Rep c v x)
    {hp' : Nat → Option (List AV)} (hx : astore s.heap i.size p x = some hp') : ∃ w', (Instr.storeAt t u v).run P w = .ok () w' ∧ Inv c { s with heap := hp' } w' ∧ Fr c w c w' := by
  cases hp <;> simp only [astore] at hx <;> (try (cases hx; done))
  case ref k off hk =>
    cases hh : s.heap k with
    | none => simp [hh] at hx
    | some ys =>
      simp [hh] at hx
      obtain ⟨⟨hs, hl, hlen⟩, rfl⟩ := hx
      have hcl := hv.cells
      obtain ⟨s', rfl, h1, h2⟩ := Inv.setBlkL k x.cells v.cells.toList s w ys off h hh hcl (hv.cells_leaf hs) (by omega)
      obtain ⟨hlt, hall⟩ := h.heap k ys hh
      have hsz : v.cells.size = i.size := by rw [← hl]; simpa using hcl.1
      have hrun := run_storeCells (P := P) (c.loc k).1 v.cells.toList ((c.loc k).2 + off) 0 w (fun j hj => by
        have hj' : off + j < ys.length := by rw [hcl.1] at hj; omega
        obtain ⟨_, _, h3, u', h4, _⟩ := hall (off + j) ys[off + j] (List.getElem?_eq_getElem _)
        rw [show (c.loc k).2 + off + 0 + j = (c.loc k).2 + (off + j) by omega]
        exact ⟨⟨u', h4⟩, h3⟩) (hcl.oneCell (hv.cells_leaf hs))
      refine ⟨_, ?_, h1, h2⟩
      simp only [Instr.storeAt, Instr.sureAddr, storeVar, Sem.run_bind, Sem.run_pure, Result.andThen_ok, Go.sizeOf, typeInfo, run_program, hi, hsz]
      simpa using hrun

/-! new variables -/
theorem sound_newBlk {P : Program} {t : TypeId} {c : CM} {s : HS} {w : World} (h : Inv c s w) {v : Value} {x : AV} (hv : Rep c v x) (hs : x.sto = true) :
    DoneS P c w (do Pure.pure (.pointer (some (← newVar t v)))) (.ref s.nh 0) { s with heap := fun i => if i = s.nh then some x.cells else s.heap i, nh := s.nh + 1 } := by
  obtain ⟨c', h1, h2, h3⟩ := h.newBlk v.cells.toList x.cells t hv.cells (hv.cells_leaf hs)
  refine ⟨.pointer (some ⟨w.heap.size, 0, none⟩), _, c', ?_, h3, h1, h2⟩
  simp [newVar, newRow]
theorem sound_newImm {P : Program} {t : TypeId} {c : CM} {s : HS} {w : World} (h : Inv c s w) {v : Value} {x : AV} (hv : Rep c v x) (hs : x.sto = true) :
    DoneS P c w (do Pure.pure (.pointer (some (← newVar t v)))) (.ptr x) s := by
  obtain ⟨c', h1, h2, h3⟩ := h.newImm v.cells t
  refine ⟨.pointer (some ⟨w.heap.size, 0, none⟩), _, c', by simp [newVar, newRow], ?_, h1, h2⟩
  have hcl := (hv.mono h2.le).cells
  exact .ptr w.heap.size 0 v.cells.toList x hcl.1 (fun j u hj => by rw [Nat.zero_add]; exact h3 j u (by simpa using hj)) hcl.2 (hv.cells_leaf hs)

/-! addresses -/
theorem Rep.ptr_part {c : CM} {b o : Nat} {vs : List Value} {xs : List AV} (h : RepL c vs xs) (hc : ∀ (j : Nat) (v : Value), vs[j]? = some v → c.cl b (o + j) = .imm v)
    (lf : ∀ (j : Nat) (y : AV), xs[j]? = some y → y.leaf = true) {ag : Bool} {sz off : Nat} {x : AV} (hx : apart ag sz off xs = some x) : Rep c (.pointer (some ⟨b, o + off, none⟩)) (.ptr x) := by
  unfold apart at hx
  cases ag with
  | true =>
    simp only [if_true] at hx
    split at hx
    · rename_i hle
      injection hx with hx; subst hx
      have hr := (h.drop off).take sz
      refine .ptr b (o + off) ((vs.drop off).take sz) _ hr.1 (fun j v hj => ?_) hr.2 (fun j y hy => ?_)
      · rw [List.getElem?_take] at hj
        split at hj
        · rw [List.getElem?_drop] at hj
          rw [Nat.add_assoc]; exact hc _ _ hj
        · cases hj
      · simp only [AV.cells] at hy
        rw [List.getElem?_take] at hy
        split at hy
        · rw [List.getElem?_drop] at hy; exact lf _ _ hy
        · cases hy
    · cases hx
  | false =>
    simp only [Bool.false_eq_true, if_false] at hx
    obtain ⟨v, hv, hr⟩ := h.get hx
    have hl := lf _ _ hx
    have hcells : x.cells = [x] := by cases x <;> first | rfl | (simp [AV.leaf] at hl)
    refine .ptr b (o + off) [v] x (by simp [hcells]) (fun j u hj => ?_) (fun j u y hu hy => ?_) (fun j y hy => ?_)
    · cases j with
      | zero => simp at hj; subst hj; exact hc _ _ hv
      | succ j => simp at hj
    · rw [hcells] at hy
      cases j with
      | zero => simp at hu hy; subst hu; subst hy; exact hr
      | succ j => simp at hu
    · rw [hcells] at hy
      cases j with
      | zero => simp at hy; subst hy; exact hl
      | succ j => simp at hy

def afaddr (ag : Bool) (sz off : Nat) : AV → Option AV
  | .ptr x => (apart ag sz off x.cells).map .ptr
  | .ref i o => some (.ref i (o + off))
  | _ => none

theorem Rep.shift {c : CM} {v : Value} {p x : AV} (hp : Rep c v p) {ag : Bool} {sz off : Nat} (hx : afaddr ag sz off p = some x) : ∃ a, v = .pointer (some a) ∧ Rep c (.pointer (some (a.add off))) x := by
  cases hp <;> simp only [afaddr] at hx <;> (try (cases hx; done))
  case ptr b o vs y hl hc hr lf =>
    cases h : apart ag sz off y.cells with
    | none => simp [h] at hx
    | some z =>
      simp [h] at hx; subst hx
      exact ⟨_, rfl, by rw [Addr.add_lit]; exact Rep.ptr_part ⟨hl, hr⟩ hc lf h⟩
  case ref i o hi =>
    injection hx with hx; subst hx
    exact ⟨_, rfl, by rw [Addr.add_lit, Nat.add_assoc]; exact .ref i (o + off) hi⟩

theorem sound_fieldAddr {P : Program} {t : TypeId} {fs : Array Field} {fno : Nat} {f : Field} {i : TypeInfo} (hd : P.underlying t = some (.struct fs)) (hf : fs[fno]? = some f) (hi : P.info? f.type = some i) (hz : i.size ≠ 0) {ag : Bool}
    {c : CM} {s : HS} {w : World} (h : Inv c s w) {v : Value} {p x : AV} (hp : Rep c v p) (hx : afaddr ag i.size f.offset p = some x) : DoneS P c w (Instr.fieldAt t v fno) x s := by
  obtain ⟨a, rfl, hr⟩ := hp.shift hx
  refine .pure h ?_ hr
  simp [Instr.fieldAt, run_underlying hd, hf, Instr.sureAddr, fieldPlace, Go.sizeOf, typeInfo, hi, hz]

/-! elements -/
theorem flat_length {xs : List AV} {sz : Nat} (h : ∀ x ∈ xs, x.cells.length = sz) : (flat xs).length = xs.length * sz := by
  induction xs with
  | nil => simp [flat]
  | cons x xs ih =>
    simp only [flat, List.length_append, List.length_cons, h x (by simp), ih fun y hy => h y (by simp [hy])]
    rw [Nat.add_mul]; omega
theorem flat_append (xs ys : List AV) : flat (xs ++ ys) = flat xs ++ flat ys := by
  induction xs with
  | nil => rfl
  | cons x xs ih => simp [flat, ih]
theorem flat_take {xs : List AV} {sz : Nat} (h : ∀ x ∈ xs, x.cells.length = sz) (n : Nat) : flat (xs.take n) = (flat xs).take (n * sz) := by
  induction xs generalizing n with
  | nil => simp [flat]
  | cons x xs ih =>
    cases n with
    | zero => simp [flat]
    | succ n =>
      have hx := h x (by simp)
      simp only [List.take_succ_cons, flat, ih (fun y hy => h y (by simp [hy])) n]
      rw [List.take_append, hx, List.take_of_length_le (l := x.cells) (by rw [hx, Nat.add_mul]; omega), Nat.add_mul]
      congr 2; omega
theorem flat_drop {xs : List AV} {sz : Nat} (h : ∀ x ∈ xs, x.cells.length = sz) (n : Nat) : flat (xs.drop n) = (flat xs).drop (n * sz) := by
  induction xs generalizing n with
  | nil => simp [flat]
  | cons x xs ih =>
    cases n with
    | zero => simp [flat]
    | succ n =>
      have hx := h x (by simp)
      simp only [List.drop_succ_cons, flat, ih (fun y hy => h y (by simp [hy])) n]
      rw [List.drop_append, hx, List.drop_eq_nil_of_le (as := x.cells) (by rw [hx, Nat.add_mul]; omega), Nat.add_mul]
      simp only [List.nil_append]
      congr 1; omega
theorem flat_elem {xs : List AV} {sz : Nat} (h : ∀ x ∈ xs, x.cells.length = sz) {n : Nat} {x : AV} (hx : xs[n]? = some x) : ((flat xs).drop (n * sz)).take sz = x.cells := by
  have hn : n < xs.length := by
    rcases Nat.lt_or_ge n xs.length with h' | h'
    · exact h'
    · simp [List.getElem?_eq_none h'] at hx
  rw [← flat_drop h n, List.drop_eq_getElem_cons hn]
  have hxe : xs[n] = x := by rw [List.getElem?_eq_getElem hn] at hx; injection hx
  rw [hxe]
  simp only [flat]
  rw [← h x (List.mem_iff_getElem?.2 ⟨n, hx⟩), List.take_left]

def aidxS (sz : Nat) : AV → AV → Option AV
  | .sl sz' xs _, .int _ n => if sz' = sz ∧ 0 ≤ n then (xs[n.toNat]?).map .ptr else none
  | .msl _ sz' i off len _, .int _ n => if sz' = sz ∧ 0 ≤ n ∧ n < len then some (.ref i (off + n.toNat * sz)) else none
  | .osl _ sz' i len _, .int _ n => if sz' = sz ∧ 0 ≤ n ∧ n < len then some (.ref i (n.toNat * sz)) else none
  | _, _ => none

theorem sound_indexS {P : Program} {t e : TypeId} {i : TypeInfo} (hd : P.underlying t = some (.slice e)) (hi : P.info? e = some i)
    {c : CM} {s : HS} {w : World} (h : Inv c s w) {v u : Value} {p k x : AV} (hp : Rep c v p) (hk : Rep c u k) (hx : aidxS i.size p k = some x) : DoneS P c w (Instr.indexAt t v u) x s := by
  cases hp <;> cases hk <;> simp only [aidxS] at hx <;> (try (cases hx; done))
  case msl.int ag sz j off len cap ex hi' hl he kk n =>
    split at hx <;> (try (cases hx; done))
    rename_i hcond
    obtain ⟨rfl, h0, h1⟩ := hcond
    injection hx with hx; subst hx
    refine .pure h (v := .pointer (some ⟨(c.loc j).1, (c.loc j).2 + off + n.toNat * i.size, none⟩)) ?_ ?_
    · simp [Instr.indexAt, asIntOf, run_underlying hd, h0, h1, Go.sizeOf, typeInfo, hi, Addr.add_lit]
    · rw [Nat.add_assoc]; exact .ref j _ hi'
  case osl.int ag sz j len cap tk hi' hcap kk n =>
    split at hx <;> (try (cases hx; done))
    rename_i hcond
    obtain ⟨rfl, h0, h1⟩ := hcond
    injection hx with hx; subst hx
    refine .pure h (v := .pointer (some ⟨(c.loc j).1, (c.loc j).2 + n.toNat * i.size, none⟩)) ?_ ?_
    · simp [Instr.indexAt, asIntOf, run_underlying hd, h0, h1, Go.sizeOf, typeInfo, hi, Addr.add_lit]
    · exact .ref j _ hi'
  case sl.int b o cap sz xs cp vs hl hz hc hr lf hcap kk n =>
    split at hx
    · rename_i hcond
      obtain ⟨rfl, h0⟩ := hcond
      cases hxn : xs[n.toNat]? with
      | none => simp [hxn] at hx
      | some y =>
        simp [hxn] at hx; subst hx
        have hn : n.toNat < xs.length := by
          rcases Nat.lt_or_ge n.toNat xs.length with h' | h'
          · exact h'
          · simp [List.getElem?_eq_none h'] at hxn
        have hlt : n < (xs.length : Int) := by omega
        refine .pure h (v := .pointer (some ⟨b, o + n.toNat * i.size, none⟩)) ?_ ?_
        · simp [Instr.indexAt, asIntOf, run_underlying hd, h0, hlt, Go.sizeOf, typeInfo, hi, Addr.add_lit]
        · have hy : y.cells.length = i.size := hz y (List.mem_iff_getElem?.2 ⟨_, hxn⟩)
          have he := flat_elem hz hxn
          have hr' : RepL c vs (flat xs) := ⟨hl, hr⟩
          have hrr := (hr'.drop (n.toNat * i.size)).take i.size
          rw [he] at hrr
          refine .ptr b (o + n.toNat * i.size) _ y hrr.1 (fun j u hj => ?_) hrr.2 (fun j z hj => ?_)
          · rw [List.getElem?_take] at hj
            split at hj
            · rw [List.getElem?_drop] at hj
              rw [Nat.add_assoc]; exact hc _ _ hj
            · cases hj
          · rw [← he, List.getElem?_take] at hj
            split at hj
            · rw [List.getElem?_drop] at hj; exact lf _ _ hj
            · cases hj
    · cases hx

/-- element of an array behind a pointer -/
def aidxA (len : Nat) (ag : Bool) (sz : Nat) : AV → AV → Option AV
  | p, .int _ n => if 0 ≤ n ∧ n < len then afaddr ag sz (n.toNat * sz) p else none
  | _, _ => none

theorem sound_indexA {P : Program} {t e : TypeId} {len : Nat} {i : TypeInfo} (hd : P.underlying t = some (.array len e)) (hi : P.info? e = some i) {ag : Bool}
    {c : CM} {s : HS} {w : World} (h : Inv c s w) {v u : Value} {p k x : AV} (hp : Rep c v p) (hk : Rep c u k) (hx : aidxA len ag i.size p k = some x) : DoneS P c w (Instr.indexAt t v u) x s := by
  cases hk <;> simp only [aidxA] at hx <;> (try (cases hx; done))
  case int kk n =>
    split at hx
    · rename_i hcond
      obtain ⟨h0, h1⟩ := hcond
      obtain ⟨a, rfl, hr⟩ := hp.shift hx
      refine .pure h ?_ hr
      simp [Instr.indexAt, asIntOf, run_underlying hd, h0, h1, Instr.sureAddr, Go.sizeOf, typeInfo, hi]
    · cases hx

/-- element of an array value -/
def aindex (len : Nat) (ag : Bool) (sz : Nat) : AV → AV → Option AV
  | .agg xs, .int _ n => if 0 ≤ n ∧ n < len then apart ag sz (n.toNat * sz) xs else none
  | _, _ => none

theorem sound_index {P : Program} {t e : TypeId} {len : Nat} {d : TypeDesc} {i : TypeInfo} (hd : P.underlying t = some (.array len e)) (hde : P.underlying e = some d) (hi : P.info? e = some i) {ag : Bool} (hag : ag = descAgg d)
    {c : CM} {s : HS} {w : World} (h : Inv c s w) {v u : Value} {p k x : AV} (hp : Rep c v p) (hk : Rep c u k) (hx : aindex len ag i.size p k = some x) : DoneS P c w (Instr.index t v u) x s := by
  cases hp <;> cases hk <;> simp only [aindex] at hx <;> (try (cases hx; done))
  case agg.int vs xs hl hr lf kk n =>
    split at hx
    · rename_i hcond
      obtain ⟨h0, h1⟩ := hcond
      obtain ⟨v, e1, e2⟩ := run_part hde hi w hag ⟨hl, hr⟩ lf hx
      refine .pure h ?_ e2
      simp only [Instr.index, asIntOf, Sem.run_bind, Sem.run_pure, Result.andThen_ok, run_underlying hd, h0, h1, and_self, if_true, Go.sizeOf, typeInfo, run_program, hi]
      exact e1
    · cases hx

def afield (ag : Bool) (sz off : Nat) : AV → Option AV
  | .agg xs => apart ag sz off xs
  | _ => none

theorem sound_field {P : Program} {t : TypeId} {fs : Array Field} {fno : Nat} {f : Field} {d : TypeDesc} {i : TypeInfo} (hd : P.underlying t = some (.struct fs)) (hf : fs[fno]? = some f) (hde : P.underlying f.type = some d) (hi : P.info? f.type = some i) {ag : Bool} (hag : ag = descAgg d)
    {c : CM} {s : HS} {w : World} (h : Inv c s w) {v : Value} {p x : AV} (hp : Rep c v p) (hx : afield ag i.size f.offset p = some x) : DoneS P c w (Instr.field t v fno) x s := by
  cases hp <;> simp only [afield] at hx <;> (try (cases hx; done))
  case agg vs xs hl hr lf =>
    obtain ⟨v, e1, e2⟩ := run_part hde hi w hag ⟨hl, hr⟩ lf hx
    refine .pure h ?_ e2
    simp only [Instr.field, Sem.run_bind, run_underlying hd, Result.andThen_ok, hf, asAgg, Sem.run_pure]
    exact e1

def aextract : AV → Nat → Option AV
  | .tup xs, n => xs[n]?
  | _, _ => none
theorem sound_extract {P : Program} {c : CM} {s : HS} {w : World} (h : Inv c s w) {v : Value} {p x : AV} (hp : Rep c v p) {n : Nat} (hx : aextract p n = some x) : DoneS P c w (Instr.extract v n) x s := by
  cases hp <;> simp only [aextract] at hx <;> (try (cases hx; done))
  case tup vs xs hl hr =>
    obtain ⟨v, hv, hr'⟩ := RepL.get ⟨hl, hr⟩ hx
    exact .pure h (by simp [Instr.extract, hv]) hr'

end Fw
set_option linter.unusedVariables false
set_option linter.unusedSimpArgs false
namespace Fw
open Go

/-! slices of slices -/
def aidx : Option AV → Option (Option Int)
  | none => some none
  | some (.int _ n) => some (some n)
  | _ => none
def asliceL (sz : Nat) (xs : List AV) (cp : Cap) : Option Int → Option Int → Option Int → Option AV
  | none, none, none => some (.sl sz xs cp)
  | some l, none, none => if 0 ≤ l ∧ l ≤ xs.length then some (.sl sz (xs.drop l.toNat) cp) else none
  | none, some n, none => if 0 ≤ n ∧ n ≤ xs.length then some (.sl sz (xs.take n.toNat) .shared) else none
  | some l, some n, none => if 0 ≤ l ∧ l ≤ n ∧ n ≤ xs.length then some (.sl sz ((xs.take n.toNat).drop l.toNat) .shared) else none
  | none, some n, some m => if 0 ≤ n ∧ n ≤ xs.length ∧ m = n then some (.sl sz (xs.take n.toNat) .exact) else none
  | some l, some n, some m => if 0 ≤ l ∧ l ≤ n ∧ n ≤ xs.length ∧ m = n then some (.sl sz ((xs.take n.toNat).drop l.toNat) .exact) else none
  | none, none, some _ => none
  | some _, none, some _ => none
def asliceN : Option Int → Option Int → Option Int → Option AV
  | none, none, none => some .nilsl
  | some l, none, none => if l = 0 then some .nilsl else none
  | none, some n, none => if n = 0 then some .nilsl else none
  | some l, some n, none => if l = 0 ∧ n = 0 then some .nilsl else none
  | none, some n, some m => if n = 0 ∧ m = 0 then some .nilsl else none
  | some l, some n, some m => if l = 0 ∧ n = 0 ∧ m = 0 then some .nilsl else none
  | none, none, some _ => none
  | some _, none, some _ => none
/-- part of a slice of mutable cells: l to n, with no spare beyond n if ex -/
def amsub (ag : Bool) (sz i off l n : Nat) (ex : Bool) : AV := if l = n then .sl sz [] (if ex = true then .exact else .shared) else .msl ag sz i (off + l * sz) (n - l) ex
def amslice (ag : Bool) (sz i off len : Nat) (ex : Bool) : Option Int → Option Int → Option Int → Option AV
  | none, none, none => some (.msl ag sz i off len ex)
  | some l, none, none => if 0 ≤ l ∧ l ≤ len then some (amsub ag sz i off l.toNat len ex) else none
  | none, some n, none => if 0 ≤ n ∧ n ≤ len then some (amsub ag sz i off 0 n.toNat false) else none
  | some l, some n, none => if 0 ≤ l ∧ l ≤ n ∧ n ≤ len then some (amsub ag sz i off l.toNat n.toNat false) else none
  | none, some n, some m => if 0 ≤ n ∧ n ≤ len ∧ m = n then some (amsub ag sz i off 0 n.toNat true) else none
  | some l, some n, some m => if 0 ≤ l ∧ l ≤ n ∧ n ≤ len ∧ m = n then some (amsub ag sz i off l.toNat n.toNat true) else none
  | none, none, some _ => none
  | some _, none, some _ => none
def aslice (sz : Nat) (p : AV) (lo hi mx : Option AV) : Option AV :=
  match aidx lo, aidx hi, aidx mx with
  | some l, some h, some m =>
    match p with
    | .sl sz' xs cp => if sz' = sz then asliceL sz xs cp l h m else none
    | .msl ag sz' i off len ex => if sz' = sz then amslice ag sz i off len ex l h m else none
    | .nilsl => asliceN l h m
    | .gsl sz' n k => if sz' = sz ∧ l = none ∧ h = some 0 ∧ m = none then some (.sl sz [] (.own k)) else none
    | _ => none
  | _, _, _ => none

theorem CapOk.le {c : CM} {b o len sz cap : Nat} {cp : Cap} (h : CapOk c b o len sz cap cp) : len ≤ cap := by
  cases cp with
  | exact => exact Nat.le_of_eq h.symm
  | shared => exact h
  | own k => exact h.1

/-- the slice of xs from l on, up to n, reads so: at whatever address where nothing is left -/
theorem Rep.slice {c : CM} {b o cap sz : Nat} {xs : List AV} {cp : Cap} {vs : List Value} (hl : vs.length = (flat xs).length)
    (hz : ∀ x ∈ xs, x.cells.length = sz) (hc : ∀ (j : Nat) (v : Value), vs[j]? = some v → c.cl b (o + j) = .imm v)
    (h : ∀ (j : Nat) (v : Value) (y : AV), vs[j]? = some v → (flat xs)[j]? = some y → Rep c v y)
    (lf : ∀ (j : Nat) (y : AV), (flat xs)[j]? = some y → y.leaf = true) (hcap : CapOk c b o xs.length sz cap cp)
    {l n m : Nat} (h1 : l ≤ n) (h2 : n ≤ xs.length) (hnm : n ≤ m) (hm : m ≤ cap) (cp' : Cap)
    (hcp : cp' = .shared ∨ (cp' = .exact ∧ m = n) ∨ (cp' = cp ∧ n = xs.length ∧ m = cap)) :
    Rep c (.slice (if m = l then some ⟨b, o, none⟩ else some (Addr.add ⟨b, o, none⟩ (l * sz))) (n - l) (m - l)) (.sl sz ((xs.take n).drop l) cp') := by
  have hlen : ((xs.take n).drop l).length = n - l := by simp [Nat.min_eq_left h2]
  have hz' : ∀ x ∈ (xs.take n).drop l, x.cells.length = sz := fun x hx => hz x (List.mem_of_mem_take (List.mem_of_mem_drop hx))
  have hfl : flat ((xs.take n).drop l) = ((flat xs).take (n * sz)).drop (l * sz) := by
    rw [flat_drop (fun x hx => hz x (List.mem_of_mem_take hx)), flat_take hz]
  have hr : RepL c ((vs.take (n * sz)).drop (l * sz)) (flat ((xs.take n).drop l)) := by
    rw [hfl]; exact (RepL.take (c := c) (vs := vs) (xs := flat xs) ⟨hl, h⟩ _).drop _
  have hlf : ∀ (j : Nat) (y : AV), (flat ((xs.take n).drop l))[j]? = some y → y.leaf = true := by
    intro j y hy
    rw [hfl, List.getElem?_drop, List.getElem?_take] at hy
    split at hy
    · exact lf _ _ hy
    · cases hy
  by_cases hml : m = l
  · have hn : n = l := by omega
    subst hml; subst hn
    have hemp : (xs.take n).drop n = [] := by simp
    rw [hemp]
    simp only [if_true, Nat.sub_self]
    have := Rep.sl (c := c) b o 0 sz [] cp' [] rfl (by simp) (by simp) (by simp) (by simp [flat]) (by
      rcases hcp with rfl | ⟨rfl, _⟩ | ⟨rfl, e, e'⟩
      · exact Nat.le_refl _
      · rfl
      · cases cp' with
        | exact => rfl
        | shared => exact Nat.le_refl _
        | own k =>
          obtain ⟨_, hk, _⟩ := hcap
          exact ⟨Nat.le_refl _, hk, fun _ j _ hj => by simp at hj⟩)
    exact this
  · rw [if_neg hml, Addr.add_lit]
    have := Rep.sl (c := c) b (o + l * sz) (m - l) sz ((xs.take n).drop l) cp' ((vs.take (n * sz)).drop (l * sz)) hr.1 hz' (fun j v hj => by
        rw [List.getElem?_drop, List.getElem?_take] at hj
        split at hj
        · rw [Nat.add_assoc]; exact hc _ _ hj
        · cases hj) hr.2 hlf (by
      rw [hlen]
      rcases hcp with rfl | ⟨rfl, e⟩ | ⟨rfl, e, e'⟩
      · show n - l ≤ m - l; omega
      · show m - l = n - l; omega
      · cases cp' with
        | exact =>
          have : cap = xs.length := hcap
          show m - l = n - l; omega
        | shared => show n - l ≤ m - l; omega
        | own k =>
          obtain ⟨h0, hk, hreg⟩ := hcap
          refine ⟨by omega, hk, fun hv j hj hj' => ?_⟩
          have hn : n * sz = (n - l) * sz + l * sz := by rw [← Nat.add_mul, Nat.sub_add_cancel h1]
          have hm' : m * sz = (m - l) * sz + l * sz := by rw [← Nat.add_mul, Nat.sub_add_cancel (by omega)]
          have := hreg hv (l * sz + j) (by rw [← e]; omega) (by rw [← e']; omega)
          rw [← Nat.add_assoc] at this; exact this)
    rw [hlen] at this
    exact this

theorem Rep.mslice {c : CM} {ag : Bool} {sz i off len cap : Nat} (hi : i < c.nh) {l n m : Nat} (h1 : l ≤ n) (h2 : n ≤ len) (hnm : n ≤ m) (hm : m ≤ cap) (ex : Bool) (hex : ex = true → m = n) :
    Rep c (.slice (if m = l then some ⟨(c.loc i).1, (c.loc i).2 + off, none⟩ else some (Addr.add ⟨(c.loc i).1, (c.loc i).2 + off, none⟩ (l * sz))) (n - l) (m - l)) (amsub ag sz i off l n ex) := by
  unfold amsub
  by_cases hln : l = n
  · subst hln
    rw [if_pos rfl, Nat.sub_self]
    have key : ∀ o, Rep c (.slice (some ⟨(c.loc i).1, o, none⟩) 0 (m - l)) (.sl sz [] (if ex = true then .exact else .shared)) := fun o => by
      have := Rep.sl (c := c) (c.loc i).1 o (m - l) sz [] (if ex = true then .exact else .shared) [] rfl (by simp) (by simp) (by simp) (by simp [flat]) (by
        cases ex with
        | true => have := hex rfl; subst this; simp [CapOk]
        | false => simp [CapOk])
      simpa using this
    split
    · exact key _
    · rw [Addr.add_lit]; exact key _
  · rw [if_neg hln, if_neg (by omega), Addr.add_lit, Nat.add_assoc]
    exact .msl ag sz i _ _ _ ex hi (by omega) (fun e => by have := hex e; omega)
def optRep (c : CM) : Option Value → Option AV → Prop
  | none, none => True
  | some v, some x => Rep c v x
  | _, _ => False

theorem aidx_inv {c : CM} {v : Option Value} {x : Option AV} (h : optRep c v x) {l : Option Int} (hl : aidx x = some l) : (v = none ∧ l = none) ∨ ∃ k n, v = some (.int k n) ∧ l = some n := by
  cases v <;> cases x <;> simp only [optRep] at h
  · simp only [aidx] at hl; injection hl with hl; exact .inl ⟨rfl, hl.symm⟩
  · right
    cases h <;> simp only [aidx] at hl <;> (try (cases hl; done))
    injection hl with hl
    exact ⟨_, _, rfl, hl.symm⟩

theorem sound_slice {P : Program} {t e : TypeId} {i : TypeInfo} (hd : P.underlying t = some (.slice e)) (hi : P.info? e = some i)
    {c : CM} {s : HS} {w : World} (h : Inv c s w) {v : Value} {p x : AV} (hp : Rep c v p) {lo hi' mx : Option Value} {alo ahi amx : Option AV} (hlo : optRep c lo alo) (hhi : optRep c hi' ahi) (hmx : optRep c mx amx)
    (hx : aslice i.size p alo ahi amx = some x) : DoneS P c w (Instr.sliceAt t v lo hi' mx) x s := by
  have hde : P.underlying t = some (.slice (P.elem t)) := by simp [Program.elem, hd]
  have hel : P.elem t = e := by simp [Program.elem, hd]
  have hsz : ∀ w, (Go.sizeOf (P.elem t)).run P w = .ok i.size w := fun w => by rw [hel]; simp [Go.sizeOf, typeInfo, hi]
  unfold aslice at hx
  cases e1 : aidx alo with
  | none => simp [e1] at hx
  | some l =>
  cases e2 : aidx ahi with
  | none => simp [e1, e2] at hx
  | some n =>
  cases e3 : aidx amx with
  | none => simp [e1, e2, e3] at hx
  | some m =>
  simp only [e1, e2, e3] at hx
  cases hp <;> simp only at hx <;> (try (cases hx; done))
  case nilsl =>
    rcases aidx_inv hlo e1 with ⟨rfl, rfl⟩ | ⟨k1, l, rfl, rfl⟩ <;> rcases aidx_inv hhi e2 with ⟨rfl, rfl⟩ | ⟨k2, n, rfl, rfl⟩ <;> rcases aidx_inv hmx e3 with ⟨rfl, rfl⟩ | ⟨k3, m, rfl, rfl⟩ <;> simp only [asliceN] at hx <;> (try (cases hx; done))
    all_goals
      refine .pure h (v := .slice none 0 0) ?_ ?_ <;> (try split at hx) <;> (try (cases hx; done)) <;> (try (injection hx with hx; subst hx; exact .nilsl))
    all_goals (rw [run_sliceAt_slice w t _ _ _ _ hde])
    all_goals simp_all [Instr.slice, run_underlying hde, Instr.sliceBounds, Instr.sliceBound, asIntOf, hsz]
  case gsl b o cap sz n0 k hn0 hcap =>
    split at hx <;> (try (cases hx; done))
    rename_i hcond
    obtain ⟨rfl, rfl, rfl, rfl⟩ := hcond
    injection hx with hx; subst hx
    rcases aidx_inv hlo e1 with ⟨rfl, _⟩ | ⟨k1, l, rfl, h'⟩ <;> (try (cases h'; done))
    rcases aidx_inv hhi e2 with ⟨rfl, h'⟩ | ⟨k2, n, rfl, h'⟩ <;> (try (cases h'; done))
    rcases aidx_inv hmx e3 with ⟨rfl, _⟩ | ⟨k3, m, rfl, h''⟩ <;> (try (cases h''; done))
    injection h' with h'; subst h'
    refine .pure h (by rw [run_sliceAt_slice w t _ _ _ _ hde, run_slice_h w t _ _ _ hde k2 0 (Int.le_refl _) (by omega), hsz]; rfl) ?_
    have := Rep.sl (c := c) b o cap i.size [] (.own k) [] rfl (by simp) (by simp) (by simp) (by simp [flat]) hcap
    have hz : ∀ a : Addr, (if cap = 0 then some a else some (a.add 0)) = some a := by intro a; simp [Addr.add]
    simpa [sliced, hz] using this
  case msl ag sz j off len cap ex hj hle he =>
    split at hx <;> (try (cases hx; done))
    rename_i hszz
    subst hszz
    rcases aidx_inv hlo e1 with ⟨rfl, rfl⟩ | ⟨k1, l, rfl, rfl⟩ <;> rcases aidx_inv hhi e2 with ⟨rfl, rfl⟩ | ⟨k2, n, rfl, rfl⟩ <;> rcases aidx_inv hmx e3 with ⟨rfl, rfl⟩ | ⟨k3, m, rfl, rfl⟩ <;> simp only [amslice] at hx <;> (try (cases hx; done))
    · injection hx with hx; subst hx
      refine .pure h (by rw [run_sliceAt_slice w t _ _ _ _ hde, run_slice_all w t _ _ _ hde, hsz]; rfl) ?_
      have := Rep.msl (c := c) ag i.size j off len cap ex hj hle he
      have hz : ∀ a : Addr, (if cap = 0 then some a else some (a.add 0)) = some a := by intro a; simp [Addr.add]
      simpa [sliced, hz] using this
    · split at hx <;> (try (cases hx; done))
      rename_i hcond
      injection hx with hx; subst hx
      refine .pure h (by rw [run_sliceAt_slice w t _ _ _ _ hde, run_slice_h w t _ _ _ hde k2 n hcond.1 (by omega), hsz]; rfl) ?_
      have := Rep.mslice (c := c) (ag := ag) (sz := i.size) (off := off) (len := len) (cap := cap) hj (l := 0) (n := n.toNat) (m := cap) (Nat.zero_le _) (by omega) (by omega) (Nat.le_refl _) false (fun e => by cases e)
      simpa [sliced] using this
    · split at hx <;> (try (cases hx; done))
      rename_i hcond
      obtain ⟨c1, c3, rfl⟩ := hcond
      injection hx with hx; subst hx
      refine .pure h (by rw [run_sliceAt_slice w t _ _ _ _ hde, run_slice_hm w t _ _ _ hde k2 k3 m m c1 (Int.le_refl _) (by omega), hsz]; rfl) ?_
      have := Rep.mslice (c := c) (ag := ag) (sz := i.size) (off := off) (len := len) (cap := cap) hj (l := 0) (n := m.toNat) (m := m.toNat) (Nat.zero_le _) (by omega) (Nat.le_refl _) (by omega) true (fun _ => rfl)
      simpa [sliced] using this
    · split at hx <;> (try (cases hx; done))
      rename_i hcond
      injection hx with hx; subst hx
      refine .pure h (by rw [run_sliceAt_slice w t _ _ _ _ hde, run_slice_l w t _ _ _ hde k1 l hcond.1 hcond.2, hsz]; rfl) ?_
      have := Rep.mslice (c := c) (ag := ag) (sz := i.size) (off := off) (len := len) (cap := cap) hj (l := l.toNat) (n := len) (m := cap) (by omega) (Nat.le_refl _) hle (Nat.le_refl _) ex he
      simpa [sliced] using this
    · split at hx <;> (try (cases hx; done))
      rename_i hcond
      injection hx with hx; subst hx
      refine .pure h (by rw [run_sliceAt_slice w t _ _ _ _ hde, run_slice_lh w t _ _ _ hde k1 k2 l n hcond.1 hcond.2.1 (by omega), hsz]; rfl) ?_
      have := Rep.mslice (c := c) (ag := ag) (sz := i.size) (off := off) (len := len) (cap := cap) hj (l := l.toNat) (n := n.toNat) (m := cap) (by omega) (by omega) (by omega) (Nat.le_refl _) false (fun e => by cases e)
      simpa [sliced] using this
    · split at hx <;> (try (cases hx; done))
      rename_i hcond
      obtain ⟨c0, c1, c2, rfl⟩ := hcond
      injection hx with hx; subst hx
      refine .pure h (by rw [run_sliceAt_slice w t _ _ _ _ hde, run_slice_lhm w t _ _ _ hde k1 k2 k3 l m m c0 c1 (Int.le_refl _) (by omega), hsz]; rfl) ?_
      have := Rep.mslice (c := c) (ag := ag) (sz := i.size) (off := off) (len := len) (cap := cap) hj (l := l.toNat) (n := m.toNat) (m := m.toNat) (by omega) (by omega) (Nat.le_refl _) (by omega) true (fun _ => rfl)
      simpa [sliced] using this
  case sl b o cap sz xs cp vs hl hz hc hr lf hcap =>
    have hle := hcap.le
    split at hx <;> (try (cases hx; done))
    rename_i hszz
    subst hszz
    rcases aidx_inv hlo e1 with ⟨rfl, rfl⟩ | ⟨k1, l, rfl, rfl⟩ <;> rcases aidx_inv hhi e2 with ⟨rfl, rfl⟩ | ⟨k2, n, rfl, rfl⟩ <;> rcases aidx_inv hmx e3 with ⟨rfl, rfl⟩ | ⟨k3, m, rfl, rfl⟩ <;> simp only [asliceL] at hx <;> (try (cases hx; done))
    · injection hx with hx; subst hx
      refine .pure h (by rw [run_sliceAt_slice w t _ _ _ _ hde, run_slice_all w t _ _ _ hde, hsz]; rfl) ?_
      have := Rep.slice (l := 0) (n := xs.length) (m := cap) hl hz hc hr lf hcap (Nat.zero_le _) (Nat.le_refl _) hle (Nat.le_refl _) cp (.inr (.inr ⟨rfl, rfl, rfl⟩))
      simpa [sliced] using this
    · split at hx <;> (try (cases hx; done))
      rename_i hcond
      injection hx with hx; subst hx
      refine .pure h (by rw [run_sliceAt_slice w t _ _ _ _ hde, run_slice_h w t _ _ _ hde k2 n hcond.1 (by omega), hsz]; rfl) ?_
      have := Rep.slice (l := 0) (n := n.toNat) (m := cap) hl hz hc hr lf hcap (Nat.zero_le _) (by omega) (by omega) (Nat.le_refl _) .shared (.inl rfl)
      simpa [sliced] using this
    · split at hx <;> (try (cases hx; done))
      rename_i hcond
      obtain ⟨c1, c3, rfl⟩ := hcond
      injection hx with hx; subst hx
      refine .pure h (by rw [run_sliceAt_slice w t _ _ _ _ hde, run_slice_hm w t _ _ _ hde k2 k3 m m c1 (Int.le_refl _) (by omega), hsz]; rfl) ?_
      have := Rep.slice (l := 0) (n := m.toNat) (m := m.toNat) hl hz hc hr lf hcap (Nat.zero_le _) (by omega) (by omega) (by omega) .exact (.inr (.inl ⟨rfl, rfl⟩))
      simpa [sliced] using this
    · split at hx <;> (try (cases hx; done))
      rename_i hcond
      injection hx with hx; subst hx
      refine .pure h (by rw [run_sliceAt_slice w t _ _ _ _ hde, run_slice_l w t _ _ _ hde k1 l hcond.1 hcond.2, hsz]; rfl) ?_
      have := Rep.slice (l := l.toNat) (n := xs.length) (m := cap) hl hz hc hr lf hcap (by omega) (Nat.le_refl _) hle (Nat.le_refl _) cp (.inr (.inr ⟨rfl, rfl, rfl⟩))
      simpa [sliced] using this
    · split at hx <;> (try (cases hx; done))
      rename_i hcond
      injection hx with hx; subst hx
      refine .pure h (by rw [run_sliceAt_slice w t _ _ _ _ hde, run_slice_lh w t _ _ _ hde k1 k2 l n hcond.1 hcond.2.1 (by omega), hsz]; rfl) ?_
      have := Rep.slice (l := l.toNat) (n := n.toNat) (m := cap) hl hz hc hr lf hcap (by omega) (by omega) (by omega) (Nat.le_refl _) .shared (.inl rfl)
      simpa [sliced] using this
    · split at hx <;> (try (cases hx; done))
      rename_i hcond
      obtain ⟨c0, c1, c2, rfl⟩ := hcond
      injection hx with hx; subst hx
      refine .pure h (by rw [run_sliceAt_slice w t _ _ _ _ hde, run_slice_lhm w t _ _ _ hde k1 k2 k3 l m m c0 c1 (Int.le_refl _) (by omega), hsz]; rfl) ?_
      have := Rep.slice (l := l.toNat) (n := m.toNat) (m := m.toNat) hl hz hc hr lf hcap (by omega) (by omega) (by omega) (by omega) .exact (.inr (.inl ⟨rfl, rfl⟩))
      simpa [sliced] using this

/-! append -/
def aelems : AV → Option (List AV)
  | .nilsl => some []
  | .sl _ xs _ => some xs
  | _ => none
/-- what a slice of mutable cells holds -/
def mcont (ag : Bool) (sz off len : Nat) (ys : List AV) : Option (List AV) :=
  if off + len * sz ≤ ys.length ∧ (ag = true ∨ sz = 1) then some ((List.range len).map fun k => if ag = true then .agg ((ys.drop (off + k * sz)).take sz) else ys.getD (off + k) .undef) else none
def aelemsH (hp : Nat → Option (List AV)) (x : AV) : Option (List AV) :=
  match x with
  | .msl ag sz i off len _ => (hp i).bind (mcont ag sz off len)
  | .osl ag sz i len _ => (hp i).bind (mcont ag sz 0 len)
  | x => aelems x
def aszOk (sz : Nat) : AV → Bool
  | .sl sz' _ _ => sz' = sz
  | .msl _ sz' _ _ _ _ => sz' = sz
  | .osl _ sz' _ _ _ => sz' = sz
  | _ => true

/-- what append gives: the slice, and the memory's bookkeeping -/
def aappend (sz : Nat) (s : HS) (p q : AV) : Option (AV × HS) :=
  match aelemsH s.heap p, aelemsH s.heap q with
  | some xs, some ys =>
    if aszOk sz p = true ∧ aszOk sz q = true ∧ xs.length + ys.length ≤ 1073741824 then
      if ys = [] then some (p, s)
      else match p with
        | .nilsl => some (.sl sz ys (.own s.nt), { s with nt := s.nt + 1, tok := fun t => if t = s.nt then true else s.tok t })
        | .sl _ _ .exact => some (.sl sz (xs ++ ys) (.own s.nt), { s with nt := s.nt + 1, tok := fun t => if t = s.nt then true else s.tok t })
        | .msl _ _ _ _ _ true => some (.sl sz (xs ++ ys) (.own s.nt), { s with nt := s.nt + 1, tok := fun t => if t = s.nt then true else s.tok t })
        | .sl _ _ (.own k) => if s.tok k = true then some (.sl sz (xs ++ ys) (.own s.nt), { s with nt := s.nt + 1, tok := fun t => if t = s.nt then true else if t = k then false else s.tok t }) else none
        | _ => none
    else none
  | _, _ => none
/-- that nothing lies beyond the slice's end -/
def exactA : AV → Bool
  | .nilsl => true
  | .sl _ _ .exact => true
  | .msl _ _ _ _ _ true => true
  | _ => false
def agOf : List AV → Bool
  | .agg _ :: _ => true
  | _ => false
def appmOk (s : HS) : AV → Bool
  | .osl _ _ _ _ k => s.tok k
  | p => exactA p
/-- the block of an owned slice that is appended to is gone, and its token -/
def kilH (h : Nat → Option (List AV)) : AV → Nat → Option (List AV)
  | .osl _ _ i _ _ => fun j => if j = i then none else h j
  | _ => h
def kilT (tok : Nat → Bool) : AV → Nat → Bool
  | .osl _ _ _ _ k => fun t => if t = k then false else tok t
  | _ => tok
/-- an append whose result lies in memory that may be stored into, and may be appended to so again -/
def aappm (sz : Nat) (s : HS) (p q : AV) : Option (AV × HS) :=
  match aelemsH s.heap p, aelemsH s.heap q with
  | some xs, some ys =>
    if appmOk s p = true ∧ aszOk sz p = true ∧ aszOk sz q = true ∧ xs.length + ys.length ≤ 1073741824 then
      if ys = [] then some (p, s)
      else some (.osl (agOf ys) sz s.nh (xs.length + ys.length) s.nt, { s with heap := fun i => if i = s.nh then some (flat (xs ++ ys)) else kilH s.heap p i, nh := s.nh + 1, nt := s.nt + 1, tok := fun t => if t = s.nt then true else kilT s.tok p t })
    else none
  | _, _ => none
end Fw
set_option linter.unusedVariables false
set_option linter.unusedSimpArgs false
namespace Fw
open Go

/-- a new row: a slice's cells, and spare cells that a new token owns -/
theorem Inv.newTok {c : CM} {s : HS} {w : World} (h : Inv c s w) (e : TypeId) {vs : List Value} {xs : List AV} {sz cap : Nat} (rest : Array Value)
    (hr : RepL c vs (flat xs)) (hz : ∀ x ∈ xs, x.cells.length = sz) (lf : ∀ (j : Nat) (y : AV), (flat xs)[j]? = some y → y.leaf = true)
    (hcap : xs.length ≤ cap) (hrest : rest.size = (cap - xs.length) * sz) (tk : Nat → Bool) (htk : ∀ t, tk t = true → t = s.nt ∨ s.tok t = true) :
    ∃ c', Inv c' { s with nt := s.nt + 1, tok := fun t => if t = s.nt then true else tk t } (w.alloc (.cells (vs.toArray ++ rest) e)) ∧ Fr c w c' (w.alloc (.cells (vs.toArray ++ rest) e)) ∧
      Rep c' (.slice (some ⟨w.heap.size, 0, none⟩) xs.length cap) (.sl sz xs (.own s.nt)) := by
  let g : Nat → Cl := fun o => match vs[o]? with | some v => .imm v | none => if o < vs.length + rest.size then .tok s.nt else .no
  let c' : CM := { c with cl := c.at w.heap.size g, nt := c.nt + 1, val := fun t => if t = s.nt then true else tk t }
  have hle : c.le c' := CM.le_at h c' g rfl (Nat.le_refl _) (fun _ _ => rfl) (by simp [c']) (fun k hk hv => by
    simp only [c'] at hv
    split at hv
    · rename_i e'; rw [h.nt] at e'; omega
    · rcases htk k hv with e' | e'
      · rename_i hne; exact absurd e' hne
      · rw [h.tokv] at e'; exact e')
  obtain ⟨h1, h2⟩ := h.newBlock (vs.toArray ++ rest) e c' { s with nt := s.nt + 1, tok := fun t => if t = s.nt then true else tk t } g rfl hle h.nh (by simp [c', h.nt]) (fun _ => rfl) (by
      intro t ht
      simp only [c'] at ht ⊢
      split at ht
      · rename_i e'; rw [e', h.nt]; omega
      · rcases htk t ht with e' | e'
        · rename_i hne; exact absurd e' hne
        · rw [h.tokv] at e'; have := h.vlt t e'; omega) (by
      intro o v hg
      simp only [g] at hg
      split at hg
      · rename_i u hu
        injection hg with hg; subst hg
        have ho : o < vs.length := by
          rcases Nat.lt_or_ge o vs.length with h' | h'
          · exact h'
          · simp [List.getElem?_eq_none h'] at hu
        rw [Array.getElem?_append_left (by simpa using ho)]
        simpa using hu
      · split at hg <;> cases hg) (by
      intro o k hg
      simp only [g] at hg
      split at hg
      · cases hg
      · split at hg
        · rename_i hlt; simpa using hlt
        · cases hg) (fun i ys hi => .inl hi) (fun _ _ h => h)
  refine ⟨c', h1, h2, ?_⟩
  refine Rep.sl w.heap.size 0 cap sz xs (.own s.nt) vs hr.1 hz (fun j v hj => ?_) (fun j v y a b => (hr.2 j v y a b).mono hle) lf ⟨hcap, by simp [c', h.nt], fun _ j hj hj' => ?_⟩
  · simp only [c', CM.at_eq, g, Nat.zero_add, hj]
  · have hfl := flat_length hz
    have hvl := hr.1
    have : vs[j]? = none := List.getElem?_eq_none (by omega)
    have h3 : cap * sz = (cap - xs.length) * sz + xs.length * sz := by rw [← Nat.add_mul, Nat.sub_add_cancel hcap]
    simp only [c', CM.at_eq, g, Nat.zero_add, this]
    rw [if_pos (by omega)]

/-- a new block in front of spare cells that a new token owns -/
theorem Inv.newBlkT {c : CM} {s : HS} {w : World} (h : Inv c s w) (vs : List Value) (ys : List AV) (rest : Array Value) (e : TypeId) (hr : RepL c vs ys) (hlf : ∀ (j : Nat) (y : AV), ys[j]? = some y → y.leaf = true)
    (hp : Nat → Option (List AV)) (hhp : ∀ i ys, hp i = some ys → s.heap i = some ys) (tk : Nat → Bool) (htk : ∀ t, tk t = true → s.tok t = true) {len cap sz : Nat} (hl : vs.length = len * sz) (hcap : len ≤ cap) (hrest : rest.size = (cap - len) * sz) :
    ∃ c', Inv c' { s with heap := fun i => if i = s.nh then some ys else hp i, nh := s.nh + 1, nt := s.nt + 1, tok := fun t => if t = s.nt then true else tk t } (w.alloc (.cells (vs.toArray ++ rest) e)) ∧ Fr c w c' (w.alloc (.cells (vs.toArray ++ rest) e)) ∧
      s.nh < c'.nh ∧ c'.loc s.nh = (w.heap.size, 0) ∧ CapOk c' w.heap.size 0 len sz cap (.own s.nt) := by
  let g : Nat → Cl := fun o => if o < vs.length then .blk c.nh o else if o < vs.length + rest.size then .tok s.nt else .no
  let c' : CM := { c with cl := c.at w.heap.size g, nh := c.nh + 1, loc := fun i => if i = c.nh then (w.heap.size, 0) else c.loc i, nt := c.nt + 1, val := fun t => if t = s.nt then true else tk t }
  have hle : c.le c' := CM.le_at h c' g rfl (by simp [c']) (fun i hi => by simp [c', Nat.ne_of_lt hi]) (by simp [c']) (fun k hk hv => by
    simp only [c'] at hv
    split at hv
    · rename_i e'; rw [h.nt] at e'; omega
    · have := htk k hv
      rw [h.tokv] at this; exact this)
  obtain ⟨h1, h2⟩ := h.newBlock (vs.toArray ++ rest) e c' { s with heap := fun i => if i = s.nh then some ys else hp i, nh := s.nh + 1, nt := s.nt + 1, tok := fun t => if t = s.nt then true else tk t } g rfl hle (by simp [c', h.nh]) (by simp [c', h.nt]) (fun _ => rfl) (by
      intro t ht
      simp only [c'] at ht ⊢
      split at ht
      · rename_i e'; rw [e', h.nt]; omega
      · have := htk t ht
        rw [h.tokv] at this
        have := h.vlt t this; omega) (by
      intro o v hg
      simp only [g] at hg
      split at hg
      · cases hg
      · split at hg <;> cases hg) (by
      intro o k hg
      simp only [g] at hg
      split at hg
      · cases hg
      · split at hg
        · rename_i hlt; simpa using hlt
        · cases hg) (by
      intro i ys' hi
      simp only at hi
      split at hi
      · rename_i hin
        injection hi with hi; subst hi
        right
        rw [h.nh] at hin
        subst hin
        refine ⟨by simp [c'], by simp [c'], fun j y hy => ?_⟩
        obtain ⟨v, hv, hrv⟩ := hr.get hy
        have hj : j < vs.length := by
          rcases Nat.lt_or_ge j vs.length with h' | h'
          · exact h'
          · simp [List.getElem?_eq_none h'] at hv
        refine ⟨hlf j y hy, by simp [g, hj], v, ?_, hrv.mono hle⟩
        rw [Array.getElem?_append_left (by simpa using hj)]
        simpa using hv
      · exact .inl (hhp _ _ hi)) (fun _ _ h => h)
  refine ⟨c', h1, h2, by rw [h.nh]; simp [c'], by rw [h.nh]; simp [c'], hcap, by simp [c', h.nt], fun _ j hj hj' => ?_⟩
  have h3 : cap * sz = (cap - len) * sz + len * sz := by rw [← Nat.add_mul, Nat.sub_add_cancel hcap]
  simp only [c', CM.at_eq, g, Nat.zero_add]
  rw [if_neg (by omega), if_pos (by omega)]

/-- an append into spare cells, behind a mutable block: a new block takes its place -/
theorem Inv.appendBlk {c : CM} {s : HS} {w : World} (h : Inv c s w) {i len sz cap k : Nat} {ys : List AV} (hi : s.heap i = some ys) (hcap : CapOk c (c.loc i).1 (c.loc i).2 len sz cap (.own k)) (hv : s.tok k = true)
    (hly : len * sz ≤ ys.length) {n : Nat} (vs : List Value) (zs : List AV) (hr : RepL c vs zs) (hlf : ∀ (j : Nat) (y : AV), zs[j]? = some y → y.leaf = true) (hn : vs.length = n * sz) (hfit : len + n ≤ cap) :
    ∃ c', Inv c' { s with heap := fun j => if j = s.nh then some (ys.take (len * sz) ++ zs) else if j = i then none else s.heap j, nh := s.nh + 1, nt := s.nt + 1, tok := fun t => if t = s.nt then true else if t = k then false else s.tok t } (wset w (c.loc i).1 ((c.loc i).2 + len * sz) vs) ∧
      Fr c w c' (wset w (c.loc i).1 ((c.loc i).2 + len * sz) vs) ∧ s.nh < c'.nh ∧ c'.loc s.nh = c.loc i ∧ CapOk c' (c.loc i).1 (c.loc i).2 (len + n) sz cap (.own s.nt) := by
  obtain ⟨hc0, hc1, hc2⟩ := hcap
  have hval : c.val k = true := by rw [← h.tokv]; exact hv
  obtain ⟨hilt, hcells⟩ := h.heap i ys hi
  obtain ⟨b, o, hbo⟩ : ∃ b o, c.loc i = (b, o) := ⟨_, _, rfl⟩
  simp only [hbo] at hc2 hcells ⊢
  have hm0 : (len + n) * sz = len * sz + n * sz := Nat.add_mul _ _ _
  have hm1 : (len + n) * sz ≤ cap * sz := Nat.mul_le_mul_right _ hfit
  have htok : ∀ j, len * sz ≤ j → j < cap * sz → c.cl b (o + j) = .tok k := hc2 hval
  have hblk : ∀ j, j < len * sz → c.cl b (o + j) = .blk i j ∧ w.frozen? ⟨b, o + j, none⟩ = false ∧ ∃ v, w.cell? ⟨b, o + j, none⟩ = some v ∧ ∃ y, ys[j]? = some y ∧ y.leaf = true ∧ Rep c v y := fun j hj => by
    obtain ⟨h0, h1, h2, v, h3, h4⟩ := hcells j (ys[j]'(by omega)) (List.getElem?_eq_getElem _)
    exact ⟨h1, h2, v, h3, _, List.getElem?_eq_getElem (by omega), h0, h4⟩
  let c' : CM := { c with cl := fun b' x => if b' = b ∧ o ≤ x ∧ x < o + cap * sz then (if x < o + (len + n) * sz then .blk c.nh (x - o) else .tok s.nt) else c.cl b' x, nh := c.nh + 1, loc := fun j => if j = c.nh then (b, o) else c.loc j, nt := c.nt + 1, val := fun t => if t = s.nt then true else if t = k then false else c.val t }
  have hout : ∀ b' x, ¬ (b' = b ∧ o ≤ x ∧ x < o + cap * sz) → c'.cl b' x = c.cl b' x := fun b' x hn => by simp only [c', hn, if_false]
  have hinB : ∀ j, j < (len + n) * sz → c'.cl b (o + j) = .blk c.nh j := fun j hj => by
    have : b = b ∧ o ≤ o + j ∧ o + j < o + cap * sz := ⟨rfl, by omega, by omega⟩
    show (if b = b ∧ o ≤ o + j ∧ o + j < o + cap * sz then (if o + j < o + (len + n) * sz then Cl.blk c.nh (o + j - o) else .tok s.nt) else c.cl b (o + j)) = _
    rw [if_pos this, if_pos (by omega), Nat.add_sub_cancel_left]
  have hinT : ∀ j, (len + n) * sz ≤ j → j < cap * sz → c'.cl b (o + j) = .tok s.nt := fun j hj hj' => by
    have : b = b ∧ o ≤ o + j ∧ o + j < o + cap * sz := ⟨rfl, by omega, by omega⟩
    show (if b = b ∧ o ≤ o + j ∧ o + j < o + cap * sz then (if o + j < o + (len + n) * sz then Cl.blk c.nh (o + j - o) else .tok s.nt) else c.cl b (o + j)) = _
    rw [if_pos this, if_neg (by omega)]
  have hold : ∀ b' x, b' = b ∧ o ≤ x ∧ x < o + cap * sz → (∃ j, j < len * sz ∧ x = o + j ∧ c.cl b' x = .blk i j) ∨ c.cl b' x = .tok k := by
    rintro b' x ⟨rfl, h1, h2⟩
    rcases Nat.lt_or_ge (x - o) (len * sz) with h3 | h3
    · left
      have := (hblk (x - o) h3).1
      rw [show o + (x - o) = x by omega] at this
      exact ⟨x - o, h3, by omega, this⟩
    · right
      have := htok (x - o) h3 (by omega)
      rw [show o + (x - o) = x by omega] at this
      exact this
  have hknt : k < c.nt := hc1
  have hle : c.le c' := by
    refine ⟨?_, by simp [c'], fun j hj => by simp [c', Nat.ne_of_lt hj], by simp [c'], ?_, ?_⟩
    · intro b' x v he
      rw [hout]
      · exact he
      · intro hx
        rcases hold b' x hx with ⟨j, _, _, e⟩ | e <;> (rw [e] at he; cases he)
    · intro t ht he
      simp only [c'] at he
      split at he
      · rename_i e; rw [h.nt] at e; omega
      · split at he
        · cases he
        · exact he
    · intro b' x t ht he hv'
      have htk : t ≠ k := by
        rintro rfl
        simp only [c'] at hv'
        split at hv'
        · rename_i e; rw [h.nt] at e; omega
        · simp at hv'
      rw [hout]
      · exact he
      · intro hx
        rcases hold b' x hx with ⟨j, _, _, e⟩ | e
        · rw [e] at he; cases he
        · rw [e] at he; injection he with he; exact htk he.symm
  have hin : ∀ j, j < vs.length → (∃ u, w.cell? ⟨b, o + len * sz + j, none⟩ = some u) ∧ w.frozen? ⟨b, o + len * sz + j, none⟩ = false := fun j hj => by
    have := h.toks b (o + (len * sz + j)) k (htok _ (by omega) (by omega))
    rw [← Nat.add_assoc] at this
    exact this
  have wmap : ∀ (vs : List Value) (o : Nat) (w : World) (b' : Nat) es ck, w.heap[b']? = some (.map es ck) → (wset w b o vs).heap[b']? = some (.map es ck) := by
    intro vs
    induction vs with
    | nil => intro o w b' es ck h; exact h
    | cons v vs ih => intro o w b' es ck h; exact ih _ _ _ _ _ (map_setCell h)
  have hzl := hr.1
  refine ⟨c', ⟨by simp [c', h.nh], by simp [c', h.nt], ?_, ?_, ?_, ?_, ?_, ?_, ?_, h.glob.mono hle⟩, ⟨hle, (wset_os b vs _ w).1, (wset_os b vs _ w).2, by rw [wset_size]; exact Nat.le_refl _, ?_, ?_, fun a _ => wset_frozen b vs _ w a⟩, by simp [c', h.nh], by simp [c', h.nh], hfit, by simp [c', h.nt], fun _ j hj hj' => hinT j hj hj'⟩
  · intro t
    simp only [c', h.tokv]
  · intro t ht
    simp only [c'] at ht ⊢
    split at ht
    · rename_i e; rw [e, h.nt]; omega
    · split at ht
      · cases ht
      · have := h.vlt t ht; omega
  · intro b' x v he
    by_cases hx : b' = b ∧ o ≤ x ∧ x < o + cap * sz
    · exfalso
      obtain ⟨rfl, h1, h2⟩ := hx
      rcases Nat.lt_or_ge (x - o) ((len + n) * sz) with h3 | h3
      · have := hinB (x - o) h3
        rw [show o + (x - o) = x by omega] at this
        rw [this] at he; cases he
      · have := hinT (x - o) h3 (by omega)
        rw [show o + (x - o) = x by omega] at this
        rw [this] at he; cases he
    · rw [hout b' x hx] at he
      rw [wset_out b vs _ w b' x (by
        by_cases hb : b' = b
        · right
          rcases Nat.lt_or_ge x o with h1 | h1
          · exact .inl (by omega)
          · right
            have : ¬ x < o + cap * sz := fun h2 => hx ⟨hb, h1, h2⟩
            omega
        · exact .inl hb)]
      exact h.imm b' x v he
  · intro b' x t he
    rw [wset_frozen]
    by_cases hx : b' = b ∧ o ≤ x ∧ x < o + cap * sz
    · obtain ⟨rfl, h1, h2⟩ := hx
      rcases Nat.lt_or_ge (x - o) ((len + n) * sz) with h3 | h3
      · have := hinB (x - o) h3
        rw [show o + (x - o) = x by omega] at this
        rw [this] at he; cases he
      · have := htok (x - o) (by omega) (by omega)
        rw [show o + (x - o) = x by omega] at this
        rw [wset_out b' vs _ w b' x (.inr (.inr (by omega)))]
        exact h.toks b' x k this
    · rw [hout b' x hx] at he
      rw [wset_out b vs _ w b' x (by
        by_cases hb : b' = b
        · right
          rcases Nat.lt_or_ge x o with h1 | h1
          · exact .inl (by omega)
          · right
            have : ¬ x < o + cap * sz := fun h2 => hx ⟨hb, h1, h2⟩
            omega
        · exact .inl hb)]
      exact h.toks b' x t he
  · intro i' zs' hi'
    simp only at hi'
    split at hi'
    · rename_i he
      injection hi' with hi'; subst hi'
      rw [h.nh] at he
      subst he
      refine ⟨by simp [c'], fun j y hy => ?_⟩
      have hlc : c'.loc c.nh = (b, o) := by simp [c']
      rw [hlc]
      show y.leaf = true ∧ c'.cl b (o + j) = .blk c.nh j ∧ _
      rw [List.getElem?_append] at hy
      split at hy
      · rename_i hj
        rw [List.length_take] at hj
        rw [List.getElem?_take, if_pos (by omega)] at hy
        obtain ⟨g1, g2, v, g3, y', g4, g5, g6⟩ := hblk j (by omega)
        rw [g4] at hy; injection hy with hy; subst hy
        refine ⟨g5, hinB j (by omega), by rw [wset_frozen]; exact g2, v, ?_, g6.mono hle⟩
        rw [wset_out b vs _ w b _ (.inr (.inl (by omega)))]; exact g3
      · rename_i hj
        rw [List.length_take, Nat.min_eq_left hly] at hj hy
        obtain ⟨v, hv1, hv2⟩ := hr.get hy
        have hjl : j - len * sz < vs.length := by
          rcases Nat.lt_or_ge (j - len * sz) vs.length with h' | h'
          · exact h'
          · rw [List.getElem?_eq_none h'] at hv1; cases hv1
        have g := hin (j - len * sz) hjl
        rw [show o + len * sz + (j - len * sz) = o + j by omega] at g
        refine ⟨hlf _ y hy, hinB j (by omega), by rw [wset_frozen]; exact g.2, v, ?_, hv2.mono hle⟩
        have := wset_in b vs (o + len * sz) w (fun j hj => (hin j hj).1) _ _ hv1
        rw [show o + len * sz + (j - len * sz) = o + j by omega] at this
        exact this
    · split at hi'
      · cases hi'
      · rename_i hne1 hne2
        obtain ⟨hlt, hall⟩ := h.heap i' zs' hi'
        refine ⟨by simp [c']; omega, fun j y hy => ?_⟩
        obtain ⟨h0, h1, h2, v, h3, h4⟩ := hall j y hy
        rw [show c'.loc i' = c.loc i' by simp [c', Nat.ne_of_lt hlt]]
        have hx : ¬ ((c.loc i').1 = b ∧ o ≤ (c.loc i').2 + j ∧ (c.loc i').2 + j < o + cap * sz) := by
          intro hx
          rcases hold _ _ hx with ⟨j', _, _, e⟩ | e
          · rw [e] at h1; injection h1 with h1 _; exact hne2 h1.symm
          · rw [e] at h1; cases h1
        refine ⟨h0, by rw [hout _ _ hx]; exact h1, by rw [wset_frozen]; exact h2, v, ?_, h4.mono hle⟩
        rw [wset_out b vs _ w _ _ (by
          by_cases hb : (c.loc i').1 = b
          · right
            rcases Nat.lt_or_ge ((c.loc i').2 + j) o with h1 | h1
            · exact .inl (by omega)
            · right
              have : ¬ (c.loc i').2 + j < o + cap * sz := fun h2 => hx ⟨hb, h1, h2⟩
              omega
          · exact .inl hb)]
        exact h3
  · intro b' x hb
    rw [wset_size] at hb
    have hno := h.dom b' x hb
    rw [hout]
    · exact hno
    · intro hx
      rcases hold _ _ hx with ⟨j', _, _, e⟩ | e <;> (rw [e] at hno; cases hno)
  · refine h.mapsTo hle (fun _ _ h => h) (fun b' i' hb hm => ?_) (fun b' es ck h => wmap vs _ w b' es ck h)
    obtain ⟨es, ck, hm⟩ := hm
    rw [hout]
    · exact hb
    · intro hx
      rcases hold _ _ hx with ⟨j', hj', hx', e⟩ | e
      · obtain ⟨_, _, v, hc, _⟩ := hblk j' hj'
        obtain ⟨rfl, _, _⟩ := hx
        unfold World.cell? at hc
        rw [hm] at hc
        cases hc
      · rw [e] at hb; cases hb
  · intro b' hb'
    have key : ∀ (vs : List Value) (x : Nat) (w : World), o + len * sz ≤ x → x + vs.length ≤ o + cap * sz → FrB c b' w.heap[b']? (wset w b x vs).heap[b']? := by
      intro vs
      induction vs with
      | nil => intro x w _ _; exact .refl _ _ _
      | cons v vs ih =>
        intro x w ho1 ho2
        simp only [List.length_cons] at ho2
        have h2 := ih (x + 1) (w.setCell ⟨b, x, none⟩ v) (by omega) (by omega)
        have h1 : FrB c b' w.heap[b']? (w.setCell ⟨b, x, none⟩ v).heap[b']? := by
          have hblk : (w.setCell ⟨b, x, none⟩ v).heap[b']? = if b = b' then (w.heap[b']?).map (fun
            | .cells cc elem frozen => .cells (cc.setIfInBounds x v) elem frozen
            | o => o) else w.heap[b']? := by
            simp only [World.setCell, Array.getElem?_modify]
            rfl
          rw [hblk]
          split
          · rename_i e
            subst e
            cases hh : w.heap[b]? with
            | none => simp [FrB]
            | some x' =>
              cases x' with
              | cells cs e fr =>
                refine ⟨_, rfl, by simp, fun y hy => ?_⟩
                rw [Array.getElem?_setIfInBounds]
                split
                · rename_i he
                  subst he
                  have := htok (x - o) (by omega) (by omega)
                  rw [show o + (x - o) = x by omega] at this
                  rw [this] at hy
                  simp [Cl.writable] at hy
                · rfl
              | map es k => exact ⟨es, k, rfl, fun _ => ⟨rfl, rfl⟩⟩
              | _ => simp [FrB]
          · exact .refl _ _ _
        simp only [wset]
        generalize w.heap[b']? = x1 at h1 ⊢
        generalize (w.setCell ⟨b, x, none⟩ v).heap[b']? = y1 at h1 h2
        cases x1 with
        | none => simp only [FrB] at h1 ⊢; rw [h1] at h2; simpa only [FrB] using h2
        | some x1 =>
          cases x1 with
          | cells cs e fr =>
            simp only [FrB] at h1 ⊢
            obtain ⟨cs1, e1, e2, e3⟩ := h1
            rw [e1] at h2
            simp only [FrB] at h2
            obtain ⟨cs2, f1, f2, f3⟩ := h2
            exact ⟨cs2, f1, f2.trans e2, fun o ho => (f3 o ho).trans (e3 o ho)⟩
          | map es k =>
            simp only [FrB] at h1 ⊢
            obtain ⟨es1, k1, e1, e2⟩ := h1
            rw [e1] at h2
            simp only [FrB] at h2
            obtain ⟨es2, k2, f1, f2⟩ := h2
            exact ⟨es2, k2, f1, fun ho => ⟨(f2 ho).1.trans (e2 ho).1, (f2 ho).2.trans (e2 ho).2⟩⟩
          | _ => simp only [FrB] at h1 ⊢; rw [h1] at h2; simpa only [FrB] using h2
    exact key vs _ w (Nat.le_refl _) (by omega)
  · intro b' x hb' hno
    rw [hout]
    · exact hno
    · intro hx
      rcases hold _ _ hx with ⟨j', _, _, e⟩ | e <;> (rw [e] at hno; cases hno)

theorem mcont_inv {ag : Bool} {sz off len : Nat} {ys xs : List AV} (h : mcont ag sz off len ys = some xs) (lf : ∀ (j : Nat) (y : AV), ys[j]? = some y → y.leaf = true) :
    xs.length = len ∧ (∀ x ∈ xs, x.cells.length = sz) ∧ flat xs = (ys.drop off).take (len * sz) ∧ off + len * sz ≤ ys.length := by
  unfold mcont at h
  split at h <;> (try (cases h; done))
  rename_i hc
  obtain ⟨hle, hag⟩ := hc
  injection h with h; subst h
  have hcell : ∀ k, k < len → ((if ag = true then AV.agg ((ys.drop (off + k * sz)).take sz) else ys.getD (off + k) .undef)).cells = (ys.drop (off + k * sz)).take sz := fun k hk => by
    have hk2 : k * sz + sz ≤ len * sz := by
      have := Nat.mul_le_mul_right sz (show k + 1 ≤ len by omega)
      rw [Nat.add_mul, Nat.one_mul] at this; exact this
    cases ag with
    | true => rfl
    | false =>
      have hsz : sz = 1 := by simpa using hag
      subst hsz
      simp only [Nat.mul_one] at hk2 hle ⊢
      have hlt : off + k < ys.length := by omega
      have hl := lf (off + k) ys[off + k] (by simp [hlt])
      have hc : (ys[off + k]).cells = [ys[off + k]] := by cases hy : ys[off + k] <;> first | rfl | (rw [hy] at hl; simp [AV.leaf] at hl)
      simp only [Bool.false_eq_true, if_false]
      rw [List.getD_eq_getElem?_getD, List.getElem?_eq_getElem hlt, Option.getD_some, hc, List.drop_eq_getElem_cons hlt]
      rfl
  refine ⟨by simp, fun x hx => ?_, ?_, hle⟩
  · simp only [List.mem_map, List.mem_range] at hx
    obtain ⟨k, hk, rfl⟩ := hx
    rw [hcell k hk, List.length_take, List.length_drop]
    have := Nat.mul_le_mul_right sz (show k + 1 ≤ len by omega)
    rw [Nat.add_mul, Nat.one_mul] at this
    omega
  · have key : ∀ m, m ≤ len → flat ((List.range m).map fun k => if ag = true then AV.agg ((ys.drop (off + k * sz)).take sz) else ys.getD (off + k) .undef) = (ys.drop off).take (m * sz) := by
      intro m
      induction m with
      | zero => intro _; simp [flat]
      | succ m ih =>
        intro hm
        rw [List.range_succ, List.map_append, flat_append, ih (by omega)]
        simp only [List.map_cons, List.map_nil, flat, List.append_nil]
        rw [hcell m (by omega), Nat.add_mul, Nat.one_mul, List.take_add, List.drop_drop]
    exact key len (Nat.le_refl _)
theorem aelemsH_inv {c : CM} {s : HS} {w : World} (hi : Inv c s w) {v : Value} {p : AV} (hp : Rep c v p) {xs : List AV} (hx : aelemsH s.heap p = some xs) {sz : Nat} (hsz : aszOk sz p = true) :
    (v = .slice none 0 0 ∧ p = .nilsl ∧ xs = []) ∨ ∃ b o cap vs, v = .slice (some ⟨b, o, none⟩) xs.length cap ∧ vs.length = (flat xs).length ∧
      (∀ x ∈ xs, x.cells.length = sz) ∧ (∀ (j : Nat) (v : Value), vs[j]? = some v → w.cell? ⟨b, o + j, none⟩ = some v) ∧ RepL c vs (flat xs) ∧
      (∀ (j : Nat) (y : AV), (flat xs)[j]? = some y → y.leaf = true) ∧ xs.length ≤ cap ∧
      ((∃ cp, p = .sl sz xs cp ∧ (∀ (j : Nat) (v : Value), vs[j]? = some v → c.cl b (o + j) = .imm v) ∧ CapOk c b o xs.length sz cap cp) ∨ (∃ ag i off ex, p = .msl ag sz i off xs.length ex ∧ (ex = true → cap = xs.length)) ∨ ∃ ag i k ys, p = .osl ag sz i xs.length k ∧ b = (c.loc i).1 ∧ o = (c.loc i).2 ∧ s.heap i = some ys ∧ flat xs = ys.take (xs.length * sz) ∧ xs.length * sz ≤ ys.length ∧ CapOk c b o xs.length sz cap (.own k)) := by
  cases hp <;> simp only [aelemsH, aelems] at hx <;> (try (cases hx; done))
  case nilsl => injection hx with hx; exact .inl ⟨rfl, rfl, hx.symm⟩
  case msl ag sz' j off len cap ex hj hle he =>
    have hs' : sz' = sz := by simpa [aszOk] using hsz
    subst hs'
    cases hh : s.heap j with
    | none => rw [hh] at hx; cases hx
    | some ys =>
      rw [hh] at hx
      have hx : mcont ag sz' off len ys = some xs := hx
      obtain ⟨hlt, lf, vs, hr, hc⟩ := hi.readBlk hh
      obtain ⟨h1, h2, h3, h4⟩ := mcont_inv hx lf
      subst h1
      have hrr := (hr.drop off).take (xs.length * sz')
      rw [← h3] at hrr
      refine .inr ⟨_, _, cap, (vs.drop off).take (xs.length * sz'), rfl, hrr.1, h2, fun j' v hj' => ?_, hrr, fun j' y hy => ?_, hle, .inr (.inl ⟨ag, j, off, ex, rfl, he⟩)⟩
      · rw [List.getElem?_take] at hj'
        split at hj'
        · rw [List.getElem?_drop] at hj'
          rw [Nat.add_assoc]; exact hc _ _ hj'
        · cases hj'
      · rw [h3, List.getElem?_take] at hy
        split at hy
        · rw [List.getElem?_drop] at hy; exact lf _ _ hy
        · cases hy
  case osl ag sz' j len cap k hj hcap =>
    have hs' : sz' = sz := by simpa [aszOk] using hsz
    subst hs'
    cases hh : s.heap j with
    | none => rw [hh] at hx; cases hx
    | some ys =>
      rw [hh] at hx
      have hx : mcont ag sz' 0 len ys = some xs := hx
      obtain ⟨hlt, lf, vs, hr, hc⟩ := hi.readBlk hh
      obtain ⟨h1, h2, h3, h4⟩ := mcont_inv hx lf
      subst h1
      rw [List.drop_zero] at h3
      rw [Nat.zero_add] at h4
      have hrr := hr.take (xs.length * sz')
      rw [← h3] at hrr
      refine .inr ⟨_, _, cap, vs.take (xs.length * sz'), rfl, hrr.1, h2, fun j' v hj' => ?_, hrr, fun j' y hy => ?_, hcap.le, .inr (.inr ⟨ag, j, k, ys, rfl, rfl, rfl, hh, h3, h4, hcap⟩)⟩
      · rw [List.getElem?_take] at hj'
        split at hj'
        · exact hc _ _ hj'
        · cases hj'
      · rw [h3, List.getElem?_take] at hy
        split at hy
        · exact lf _ _ hy
        · cases hy
  case sl b o cap sz' xs' cp vs hl hz hc hr lf hcap =>
    have hs' : sz' = sz := by simpa [aszOk] using hsz
    subst hs'
    injection hx with hx; subst hx
    exact .inr ⟨b, o, cap, vs, rfl, hl, hz, fun j v hj => hi.imm _ _ _ (hc j v hj), ⟨hl, hr⟩, lf, hcap.le, .inl ⟨cp, rfl, hc, hcap⟩⟩

theorem run_append_none {P : Program} {t ty e : TypeId} {i : TypeInfo} (ht : P.underlying t = some (.slice e)) (hi : P.info? e = some i) (w : World) (b : Option Addr) (n cap : Nat) (hn : n ≤ cap) (b' : Option Addr) (cap' : Nat) :
    (Builtin.append_ #[t, t] ty #[.slice b n cap, .slice b' 0 cap']).run P w = .ok (.slice b n cap) w := by
  cases b <;> cases b' <;> simp [Builtin.append_, run_underlying ht, Go.sizeOf, typeInfo, hi, Builtin.lenOf, hn, Builtin.firstCells, loadCells, loadCellsFrom, storeCells]

theorem sound_append {P : Program} {t ty e : TypeId} {i : TypeInfo} {z : Value} (ht : P.underlying t = some (.slice e)) (hi : P.info? e = some i) (hz0 : i.zero = some z) (hzs : z.cells.size = i.size) (hby : i.bytes ≤ 65536) (hbz : i.bytes ≠ 0)
    {c : CM} {s : HS} {w : World} (h : Inv c s w) {v u : Value} {p q x : AV} (hp : Rep c v p) (hq : Rep c u q) {s' : HS} (hx : aappend i.size s p q = some (x, s')) :
    DoneS P c w (Builtin.append_ #[t, t] ty #[v, u]) x s' := by
  unfold aappend at hx
  cases ep : aelemsH s.heap p with
  | none => simp [ep] at hx
  | some xs =>
  cases eq : aelemsH s.heap q with
  | none => simp [ep, eq] at hx
  | some ys =>
  simp only [ep, eq] at hx
  split at hx <;> (try (cases hx; done))
  rename_i hcond
  obtain ⟨hs1, hs2, hlen⟩ := hcond
  split at hx
  · rename_i hys
    subst hys
    injection hx with hx
    injection hx with hx1 hx2; subst hx1; subst hx2
    refine .pure h ?_ hp
    rcases aelemsH_inv h hq eq hs2 with ⟨rfl, rfl, _⟩ | ⟨b', o', cap', vs', rfl, _⟩ <;>
    rcases aelemsH_inv h hp ep hs1 with ⟨rfl, rfl, _⟩ | ⟨b, o, cap, vs, rfl, _, _, _, _, _, hcap, _⟩
    · exact run_append_none ht hi w _ _ _ (Nat.le_refl _) _ _
    · exact run_append_none ht hi w _ _ _ hcap _ _
    · exact run_append_none ht hi w _ _ _ (Nat.le_refl _) _ _
    · exact run_append_none ht hi w _ _ _ hcap _ _
  · rename_i hys
    rcases aelemsH_inv h hq eq hs2 with ⟨rfl, rfl, rfl⟩ | ⟨b', o', cap', vs', rfl, hl', hz', hc', hr', lf', hcap', _⟩
    · exact absurd rfl hys
    have hy0 : 0 < ys.length := List.length_pos_iff.2 hys
    have hnews : ∀ (j : Nat) (u : Value), vs'[j]? = some u → w.cell? ((⟨b', o', none⟩ : Addr).add j) = some u := fun j u hj => by
      rw [Addr.add_lit]
      exact hc' j u hj
    have hvl' : vs'.length = ys.length * i.size := by rw [hl', flat_length hz']
    have hfits : ∀ need old, old < need → need ≤ 1073741824 → Builtin.nextslicecap need old * i.bytes ≤ 281474976710656 := by
      intro need old h1 h2
      refine growslice_fits h1 ?_
      have : need * i.bytes ≤ 1073741824 * 65536 := Nat.mul_le_mul h2 hby
      omega
    rcases aelemsH_inv h hp ep hs1 with ⟨rfl, rfl, rfl⟩ | ⟨b, o, cap, vs, rfl, hl, hz, hcw, hr, lf, hcapl, hform⟩
    · simp only at hx
      injection hx with hx
      injection hx with hx1 hx2; subst hx1; subst hx2
      simp only [List.length_nil, Nat.zero_add] at hlen
      have hge := grownCap_ge w ys.length 0 e
      have hrun := run_append_nil (P := P) w t ty e i z ht hi hz0 ⟨b', o', none⟩ ys.length cap' vs' hvl' hnews hy0 (by omega) (by
        have := hfits ys.length 0 hy0 hlen
        rw [nextslicecap_zero hy0] at this; exact this)
      obtain ⟨c', h1, h2, h3⟩ := (h.drew).newTok e (cap := grownCap w ys.length 0 e) (Builtin.zeroCells z.cells (grownCap w ys.length 0 e - ys.length)) hr' hz' lf' hge (by rw [size_zeroCells, hzs]) s.tok (fun t ht => .inr ht)
      refine ⟨_, _, c', hrun, h3, h1, ((Fr.refl c w).drew).trans h2⟩
    · have hvl : vs.length = xs.length * i.size := by rw [hl, flat_length hz]
      have holds : ∀ (j : Nat) (u : Value), vs[j]? = some u → w.cell? ((⟨b, o, none⟩ : Addr).add j) = some u := fun j u hj => by
        rw [Addr.add_lit]; exact hcw j u hj
      have hrr : RepL c (vs ++ vs') (flat (xs ++ ys)) := by rw [flat_append]; exact hr.append hr'
      have hzz : ∀ x ∈ xs ++ ys, x.cells.length = i.size := by
        intro x hx
        rcases List.mem_append.1 hx with hx | hx
        · exact hz x hx
        · exact hz' x hx
      have hlf : ∀ (j : Nat) (y : AV), (flat (xs ++ ys))[j]? = some y → y.leaf = true := by
        intro j y hy
        rw [flat_append, List.getElem?_append] at hy
        split at hy
        · exact lf _ _ hy
        · exact lf' _ _ hy
      have grow : cap < xs.length + ys.length → ∀ tk : Nat → Bool, (∀ t, tk t = true → t = s.nt ∨ s.tok t = true) →
          DoneS P c w (Builtin.append_ #[t, t] ty #[.slice (some ⟨b, o, none⟩) xs.length cap, .slice (some ⟨b', o', none⟩) ys.length cap']) (.sl i.size (xs ++ ys) (.own s.nt)) { s with nt := s.nt + 1, tok := fun t => if t = s.nt then true else tk t } := by
        intro hgrow tk htk
        have hge := grownCap_ge w (xs.length + ys.length) cap e
        have hrun := run_append_grow (P := P) w t ty e i z ht hi hz0 ⟨b, o, none⟩ xs.length cap vs hvl holds ⟨b', o', none⟩ ys.length cap' vs' hvl' hnews hgrow (by omega) (hfits _ _ hgrow hlen)
        obtain ⟨c', h1, h2, h3⟩ := (h.drew).newTok e (cap := grownCap w (xs.length + ys.length) cap e) (Builtin.zeroCells z.cells (grownCap w (xs.length + ys.length) cap e - (xs.length + ys.length))) hrr hzz hlf (by simpa using hge) (by rw [size_zeroCells, hzs]; simp) tk htk
        refine ⟨_, _, c', hrun, ?_, ?_, ?_⟩
        · simpa using h3
        · simpa using h1
        · simpa using ((Fr.refl c w).drew).trans h2
      rcases hform with ⟨cp, rfl, hc, hcap⟩ | ⟨mag, mi, moff, mex, rfl, hmex⟩ | ⟨mag, mi, mk, mys, rfl, _⟩
      rotate_left
      · cases mex with
        | false => simp only at hx; cases hx
        | true =>
          simp only at hx
          injection hx with hx
          injection hx with hx1 hx2; subst hx1; subst hx2
          have hce : cap = xs.length := hmex rfl
          exact grow (by omega) s.tok (fun t ht => .inr ht)
      · simp only at hx; cases hx
      cases cp with
      | shared => simp only at hx; cases hx
      | exact =>
        simp only at hx
        injection hx with hx
        injection hx with hx1 hx2; subst hx1; subst hx2
        have hce : cap = xs.length := hcap
        exact grow (by omega) s.tok (fun t ht => .inr ht)
      | own k =>
        simp only at hx
        split at hx <;> (try (cases hx; done))
        rename_i hk
        injection hx with hx
        injection hx with hx1 hx2; subst hx1; subst hx2
        obtain ⟨hc0, hc1, hc2⟩ := hcap
        by_cases hgrow : cap < xs.length + ys.length
        · exact grow hgrow (fun t => if t = k then false else s.tok t) (fun t ht => by
            have ht' : (if t = k then false else s.tok t) = true := ht
            split at ht'
            · cases ht'
            · exact .inr ht')
        · have hval : c.val k = true := by rw [← h.tokv]; exact hk
          have hm1 : cap * i.size = (cap - xs.length) * i.size + xs.length * i.size := by rw [← Nat.add_mul, Nat.sub_add_cancel hc0]
          have hm2 : (xs.length + ys.length) * i.size ≤ cap * i.size := Nat.mul_le_mul_right _ (by omega)
          rw [Nat.add_mul] at hm2
          have hreg : ∀ x, o + xs.length * i.size ≤ x → x < o + cap * i.size → c.cl b x = .tok k := by
            intro x h1 h2
            have := hc2 hval (x - o) (by omega) (by omega)
            rw [show o + (x - o) = x by omega] at this; exact this
          obtain ⟨c', h1, h2, h3, h4, h5, h6⟩ := h.appendIn b (o + xs.length * i.size) (o + cap * i.size) k hval hreg vs' (by omega)
          have hf := run_firstCells_some (P := P) w i.size ys.length ⟨b', o', none⟩ ys.length cap' vs' hvl' hnews
          have hst := run_storeCells (P := P) b vs' (o + xs.length * i.size) 0 w (fun j hj => by
            have := h.toks b (o + xs.length * i.size + j) k (hreg _ (by omega) (by omega))
            simpa using this) (hr'.oneCell lf')
          refine ⟨.slice (some ⟨b, o, none⟩) (xs.length + ys.length) cap, _, c', ?_, ?_, h1, h2⟩
          · simp [Builtin.append_, run_underlying ht, Go.sizeOf, typeInfo, hi, Builtin.lenOf, Nat.not_lt.1 hgrow, hf, Addr.add_lit, hst]
          · have := Rep.sl (c := c') b o cap i.size (xs ++ ys) (.own s.nt) (vs ++ vs') (hrr.1) hzz (fun j v hj => by
                rw [List.getElem?_append] at hj
                split at hj
                · exact h2.le.imm _ _ _ (hc j v hj)
                · have := h3 _ _ hj
                  rw [← hvl, show o + vs.length + (j - vs.length) = o + j by omega] at this
                  exact this) (hrr.mono h2.le).2 hlf ⟨by simp; omega, by rw [h5]; omega, fun _ j hj hj' => by
                refine h4 (o + j) ?_ (by omega)
                simp only [List.length_append, Nat.add_mul] at hj
                omega⟩
            rw [List.length_append] at this
            exact this
theorem sound_appm {P : Program} {t ty e : TypeId} {i : TypeInfo} {z : Value} (ht : P.underlying t = some (.slice e)) (hi : P.info? e = some i) (hz0 : i.zero = some z) (hzs : z.cells.size = i.size) (hby : i.bytes ≤ 65536) (hbz : i.bytes ≠ 0)
    {c : CM} {s : HS} {w : World} (h : Inv c s w) {v u : Value} {p q x : AV} (hp : Rep c v p) (hq : Rep c u q) {s' : HS} (hx : aappm i.size s p q = some (x, s')) :
    DoneS P c w (Builtin.append_ #[t, t] ty #[v, u]) x s' := by
  unfold aappm at hx
  cases ep : aelemsH s.heap p with
  | none => simp [ep] at hx
  | some xs =>
  cases eq : aelemsH s.heap q with
  | none => simp [ep, eq] at hx
  | some ys =>
  simp only [ep, eq] at hx
  split at hx <;> (try (cases hx; done))
  rename_i hcond
  obtain ⟨hex, hs1, hs2, hlen⟩ := hcond
  split at hx
  · rename_i hys
    subst hys
    injection hx with hx
    injection hx with hx1 hx2; subst hx1; subst hx2
    refine .pure h ?_ hp
    rcases aelemsH_inv h hq eq hs2 with ⟨rfl, rfl, _⟩ | ⟨b', o', cap', vs', rfl, _⟩ <;>
    rcases aelemsH_inv h hp ep hs1 with ⟨rfl, rfl, _⟩ | ⟨b, o, cap, vs, rfl, _, _, _, _, _, hcap, _⟩
    · exact run_append_none ht hi w _ _ _ (Nat.le_refl _) _ _
    · exact run_append_none ht hi w _ _ _ hcap _ _
    · exact run_append_none ht hi w _ _ _ (Nat.le_refl _) _ _
    · exact run_append_none ht hi w _ _ _ hcap _ _
  · rename_i hys
    injection hx with hx
    injection hx with hx1 hx2; subst hx1; subst hx2
    rcases aelemsH_inv h hq eq hs2 with ⟨rfl, rfl, rfl⟩ | ⟨b', o', cap', vs', rfl, hl', hz', hc', hr', lf', hcap', _⟩
    · exact absurd rfl hys
    have hy0 : 0 < ys.length := List.length_pos_iff.2 hys
    have hnews : ∀ (j : Nat) (u : Value), vs'[j]? = some u → w.cell? ((⟨b', o', none⟩ : Addr).add j) = some u := fun j u hj => by
      rw [Addr.add_lit]
      exact hc' j u hj
    have hvl' : vs'.length = ys.length * i.size := by rw [hl', flat_length hz']
    have hfits : ∀ need old, old < need → need ≤ 1073741824 → Builtin.nextslicecap need old * i.bytes ≤ 281474976710656 := by
      intro need old h1 h2
      refine growslice_fits h1 ?_
      have : need * i.bytes ≤ 1073741824 * 65536 := Nat.mul_le_mul h2 hby
      omega
    have hkH : ∀ j zs, kilH s.heap p j = some zs → s.heap j = some zs := by
      intro j zs hj
      cases p <;> first | exact hj | (simp only [kilH] at hj; split at hj <;> first | cases hj | exact hj)
    have hkT : ∀ t, kilT s.tok p t = true → s.tok t = true := by
      intro t ht
      cases p <;> first | exact ht | (simp only [kilT] at ht; split at ht <;> first | cases ht | exact ht)
    rcases aelemsH_inv h hp ep hs1 with ⟨rfl, rfl, rfl⟩ | ⟨b, o, cap, vs, rfl, hl, hz, hcw, hr, lf, hcapl, hform⟩
    · simp only [List.length_nil, Nat.zero_add] at hlen
      have hge := grownCap_ge w ys.length 0 e
      have hrun := run_append_nil (P := P) w t ty e i z ht hi hz0 ⟨b', o', none⟩ ys.length cap' vs' hvl' hnews hy0 (by omega) (by
        have := hfits ys.length 0 hy0 hlen
        rw [nextslicecap_zero hy0] at this; exact this)
      obtain ⟨c', h1, h2, h3, h4, h5⟩ := (h.drew).newBlkT vs' (flat ys) (Builtin.zeroCells z.cells (grownCap w ys.length 0 e - ys.length)) e hr' lf' (kilH s.heap .nilsl) hkH (kilT s.tok .nilsl) hkT hvl' hge (by rw [size_zeroCells, hzs])
      have hrep := Rep.osl (c := c') (agOf ys) i.size s.nh ys.length (grownCap w ys.length 0 e) s.nt h3 (by rw [h4]; exact h5)
      rw [h4] at hrep
      refine ⟨_, _, c', hrun, ?_, ?_, ?_⟩
      · simpa using hrep
      · simpa using h1
      · simpa using ((Fr.refl c w).drew).trans h2
    · have hvl : vs.length = xs.length * i.size := by rw [hl, flat_length hz]
      have holds : ∀ (j : Nat) (u : Value), vs[j]? = some u → w.cell? ((⟨b, o, none⟩ : Addr).add j) = some u := fun j u hj => by
        rw [Addr.add_lit]; exact hcw j u hj
      have hrr : RepL c (vs ++ vs') (flat (xs ++ ys)) := by rw [flat_append]; exact hr.append hr'
      have hlf : ∀ (j : Nat) (y : AV), (flat (xs ++ ys))[j]? = some y → y.leaf = true := by
        intro j y hy
        rw [flat_append, List.getElem?_append] at hy
        split at hy
        · exact lf _ _ hy
        · exact lf' _ _ hy
      have grow : cap < xs.length + ys.length → DoneS P c w (Builtin.append_ #[t, t] ty #[.slice (some ⟨b, o, none⟩) xs.length cap, .slice (some ⟨b', o', none⟩) ys.length cap'])
          (.osl (agOf ys) i.size s.nh (xs.length + ys.length) s.nt) { s with heap := fun i => if i = s.nh then some (flat (xs ++ ys)) else kilH s.heap p i, nh := s.nh + 1, nt := s.nt + 1, tok := fun t => if t = s.nt then true else kilT s.tok p t } := by
        intro hgrow
        have hge := grownCap_ge w (xs.length + ys.length) cap e
        have hrun := run_append_grow (P := P) w t ty e i z ht hi hz0 ⟨b, o, none⟩ xs.length cap vs hvl holds ⟨b', o', none⟩ ys.length cap' vs' hvl' hnews hgrow (by omega) (hfits _ _ hgrow hlen)
        obtain ⟨c', h1, h2, h3, h4, h5⟩ := (h.drew).newBlkT (vs ++ vs') (flat (xs ++ ys)) (Builtin.zeroCells z.cells (grownCap w (xs.length + ys.length) cap e - (xs.length + ys.length))) e hrr hlf (kilH s.heap p) hkH (kilT s.tok p) hkT (len := xs.length + ys.length) (by rw [List.length_append, hvl, hvl', Nat.add_mul]) hge (by rw [size_zeroCells, hzs])
        have hrep := Rep.osl (c := c') (agOf ys) i.size s.nh (xs.length + ys.length) (grownCap w (xs.length + ys.length) cap e) s.nt h3 (by rw [h4]; exact h5)
        rw [h4] at hrep
        refine ⟨_, _, c', hrun, ?_, ?_, ?_⟩
        · simpa using hrep
        · simpa using h1
        · simpa using ((Fr.refl c w).drew).trans h2
      rcases hform with ⟨cp, rfl, hc, hcap⟩ | ⟨mag, mi, moff, mex, rfl, hmex⟩ | ⟨mag, mi, mk, mys, rfl, rfl, rfl, hmi, hmf, hml, hmc⟩
      · have hce : cap = xs.length := by
          cases cp with
          | exact => exact hcap
          | shared => cases hex
          | own k => cases hex
        exact grow (by omega)
      · have hce : cap = xs.length := by
          cases mex with
          | true => exact hmex rfl
          | false => cases hex
        exact grow (by omega)
      · by_cases hgrow : cap < xs.length + ys.length
        · exact grow hgrow
        · have hmt : s.tok mk = true := hex
          have hval : c.val mk = true := by rw [← h.tokv]; exact hmt
          obtain ⟨c', h1, h2, h3, h4, h5⟩ := h.appendBlk hmi hmc hmt hml vs' (flat ys) hr' lf' hvl' (Nat.not_lt.1 hgrow)
          have hf := run_firstCells_some (P := P) w i.size ys.length ⟨b', o', none⟩ ys.length cap' vs' hvl' hnews
          have hm2 : (xs.length + ys.length) * i.size ≤ cap * i.size := Nat.mul_le_mul_right _ (by omega)
          rw [Nat.add_mul] at hm2
          have hst := run_storeCells (P := P) (c.loc mi).1 vs' ((c.loc mi).2 + xs.length * i.size) 0 w (fun j hj => by
            have := h.toks (c.loc mi).1 ((c.loc mi).2 + (xs.length * i.size + j)) mk (hmc.2.2 hval _ (by omega) (by omega))
            rw [Nat.add_zero, Nat.add_assoc]; exact this) (hr'.oneCell lf')
          refine ⟨.slice (some ⟨(c.loc mi).1, (c.loc mi).2, none⟩) (xs.length + ys.length) cap, _, c', ?_, ?_, ?_, h2⟩
          · simp [Builtin.append_, run_underlying ht, Go.sizeOf, typeInfo, hi, Builtin.lenOf, Nat.not_lt.1 hgrow, hf, Addr.add_lit, hst]
          · have hrep := Rep.osl (c := c') (agOf ys) i.size s.nh (xs.length + ys.length) cap s.nt h3 (by rw [h4]; exact h5)
            rw [h4] at hrep
            exact hrep
          · rw [← hmf, ← flat_append] at h1
            exact h1
end Fw
set_option linter.unusedVariables false
set_option linter.unusedSimpArgs false
namespace Fw
open Go

def aint (op : BinOp) (k : IntKind) (a : Int) (k' : IntKind) (b : Int) : Option AV :=
  match op with
  | .shl => if 0 ≤ b then some (.int k (k.wrap (a * 2 ^ (min b.toNat k.bits)))) else none
  | .shr => if 0 ≤ b then some (.int k (a.fdiv (2 ^ (min b.toNat k.bits)))) else none
  | .add => if k = k' then some (.int k (k.wrap (a + b))) else none
  | .sub => if k = k' then some (.int k (k.wrap (a - b))) else none
  | .mul => if k = k' then some (.int k (k.wrap (a * b))) else none
  | .quo => if k = k' ∧ b ≠ 0 then some (.int k (k.wrap (a.tdiv b))) else none
  | .rem => if k = k' ∧ b ≠ 0 then some (.int k (a.tmod b)) else none
  | .and => if k = k' then some (.int k (k.wrap (BitVec.ofInt k.bits a &&& BitVec.ofInt k.bits b).toNat)) else none
  | .or => if k = k' then some (.int k (k.wrap (BitVec.ofInt k.bits a ||| BitVec.ofInt k.bits b).toNat)) else none
  | .xor => if k = k' then some (.int k (k.wrap (BitVec.ofInt k.bits a ^^^ BitVec.ofInt k.bits b).toNat)) else none
  | .andNot => if k = k' then some (.int k (k.wrap (BitVec.ofInt k.bits a &&& ~~~(BitVec.ofInt k.bits b)).toNat)) else none
  | .eql => if k = k' then some (.bool (decide (a = b))) else none
  | .neq => if k = k' then some (.bool (decide (a ≠ b))) else none
  | .lss => if k = k' then some (.bool (decide (a < b))) else none
  | .leq => if k = k' then some (.bool (decide (a ≤ b))) else none
  | .gtr => if k = k' then some (.bool (decide (b < a))) else none
  | .geq => if k = k' then some (.bool (decide (b ≤ a))) else none

/-- is the value the nil of its kind? (kd: 2 slices, 3 pointers, 4 functions, 5 interfaces) -/
def anil (kd : Nat) : AV → Option Bool
  | .nilsl => if kd = 2 then some true else none
  | .sl _ _ _ => if kd = 2 then some false else none
  | .nilptr => if kd = 3 then some true else none
  | .ptr _ => if kd = 3 then some false else none
  | .ref _ _ => if kd = 3 then some false else none
  | .msl _ _ _ _ _ _ => if kd = 2 then some false else none
  | .osl _ _ _ _ _ => if kd = 2 then some false else none
  | .esl => if kd = 2 then some false else none
  | .nilfn => if kd = 4 then some true else none
  | .fn _ _ _ => if kd = 4 then some false else none
  | .nilif => if kd = 5 then some true else none
  | .iface _ _ => if kd = 5 then some false else none
  | _ => none
/-- equality of lists of integers -/
def aeqInts : List AV → List AV → Option Bool
  | [], [] => some true
  | .int k a :: xs, .int k' b :: ys => if k = k' then (aeqInts xs ys).map (decide (a = b) && ·) else none
  | _, _ => none
def aeq (kd : Nat) (x y : AV) : Option Bool :=
  match kd with
  | 1 => match x, y with | .bool a, .bool b => some (decide (a = b)) | _, _ => none
  | n + 10 => match x, y with | .agg xs, .agg ys => if xs.length = n then aeqInts xs ys else none | _, _ => none
  | kd => match anil kd x, anil kd y with | some a, some true => some a | some true, some false => some false | _, _ => none
def astr (op : BinOp) (a b : ByteArray) : Option AV :=
  match op with
  | .add => if a.size + b.size ≤ 1000000 then some (.str (a ++ b)) else none
  | .eql => some (.bool (decide (a = b)))
  | .neq => some (.bool (!decide (a = b)))
  | .lss => some (.bool (Op.bytesLess a.toList b.toList))
  | .leq => some (.bool (Op.bytesLess a.toList b.toList || decide (a = b)))
  | .gtr => some (.bool (!(Op.bytesLess a.toList b.toList || decide (a = b))))
  | .geq => some (.bool (!Op.bytesLess a.toList b.toList))
  | _ => none
def abin (kd : Nat) (op : BinOp) (x y : AV) : Option AV :=
  match x, y with
  | .int k a, .int k' b => aint op k a k' b
  | .str a, .str b => astr op a b
  | x, y => match op with
    | .eql => (aeq kd x y).map .bool
    | .neq => (aeq kd x y).map fun b => .bool (!b)
    | _ => none

theorem sound_aint {P : Program} {t : TypeId} {op : BinOp} {k k' : IntKind} {a b : Int} {x : AV} (hx : aint op k a k' b = some x) (w : World) (c : CM) :
    ∃ v, (binOp op t (.int k a) (.int k' b)).run P w = .ok v w ∧ Rep c v x := by
  cases op <;> simp only [aint] at hx <;> split at hx <;> (try (cases hx; done)) <;> rename_i hc <;> (injection hx with hx; subst hx)
  case quo => obtain ⟨rfl, hb⟩ := hc; exact ⟨_, by simp [binOp, Op.intDiv, hb], .int _ _⟩
  case rem => obtain ⟨rfl, hb⟩ := hc; exact ⟨_, by simp [binOp, Op.intDiv, hb], .int _ _⟩
  case shl => exact ⟨_, by simp [binOp, Op.shift, Int.not_lt.2 hc], .int _ _⟩
  case shr => exact ⟨_, by simp [binOp, Op.shift, Int.not_lt.2 hc], .int _ _⟩
  case eql => subst hc; exact ⟨.bool (a == b), by simp [binOp, Op.intCmp], .bool _⟩
  case neq => subst hc; exact ⟨.bool (a != b), by simp [binOp, Op.intCmp], by rw [show (a != b) = decide (a ≠ b) from by by_cases h : a = b <;> simp [h]]; exact .bool _⟩
  case add => subst hc; exact ⟨_, by simp [binOp, Op.intArith], .int _ _⟩
  case sub => subst hc; exact ⟨_, by simp [binOp, Op.intArith], .int _ _⟩
  case mul => subst hc; exact ⟨_, by simp [binOp, Op.intArith], .int _ _⟩
  case and => subst hc; exact ⟨_, by simp [binOp, Op.intBits], .int _ _⟩
  case or => subst hc; exact ⟨_, by simp [binOp, Op.intBits], .int _ _⟩
  case xor => subst hc; exact ⟨_, by simp [binOp, Op.intBits], .int _ _⟩
  case andNot => subst hc; exact ⟨_, by simp [binOp, Op.intBits], .int _ _⟩
  case lss => subst hc; exact ⟨_, by simp [binOp, Op.intCmp], .bool _⟩
  case leq => subst hc; exact ⟨_, by simp [binOp, Op.intCmp], .bool _⟩
  case gtr => subst hc; exact ⟨_, by simp [binOp, Op.intCmp], .bool _⟩
  case geq => subst hc; exact ⟨_, by simp [binOp, Op.intCmp], .bool _⟩

/-- a row of integers, one cell each, with names -/
def intRow (P : Program) : Nat → List Field → Bool
  | _, [] => true
  | i, f :: fs => f.offset == i && f.name != "_" && (match P.underlying f.type with | some (.int _) => true | _ => false) && intRow P (i + 1) fs
/-- what 'kd' says of a type -/
def kdOk (P : Program) (t : TypeId) (kd : Nat) : Bool :=
  match P.underlying t with
  | some .bool => kd == 1
  | some (.slice _) => kd == 2
  | some (.pointer _) => kd == 3
  | some (.func _ _ _) => kd == 4
  | some (.interface _) => kd == 5
  | some (.array n e) => kd == n + 10 && (match P.underlying e with | some (.int _) => (P.info? e).map (·.size) == some 1 | _ => false)
  | some (.struct fs) => kd == fs.size + 10 && !P.stoodInHeld t && intRow P 0 fs.toList
  | _ => false
theorem kdOk_inv {P : Program} {t : TypeId} {kd : Nat} (h : kdOk P t kd = true) :
    (kd = 1 ∧ P.underlying t = some .bool) ∨ (kd = 2 ∧ ∃ e, P.underlying t = some (.slice e)) ∨ (kd = 3 ∧ ∃ e, P.underlying t = some (.pointer e)) ∨
    (kd = 4 ∧ ∃ a b c, P.underlying t = some (.func a b c)) ∨ (kd = 5 ∧ ∃ a, P.underlying t = some (.interface a)) ∨
    (∃ n e k, kd = n + 10 ∧ P.underlying t = some (.array n e) ∧ P.underlying e = some (.int k) ∧ ∃ i, P.info? e = some i ∧ i.size = 1) ∨
    (∃ fs, kd = fs.size + 10 ∧ P.underlying t = some (.struct fs) ∧ P.stoodInHeld t = false ∧ intRow P 0 fs.toList = true) := by
  unfold kdOk at h
  split at h <;> (try (cases h; done))
  · rename_i hu; exact .inl ⟨by simpa using h, hu⟩
  · rename_i e hu; exact .inr (.inl ⟨by simpa using h, e, hu⟩)
  · rename_i e hu; exact .inr (.inr (.inl ⟨by simpa using h, e, hu⟩))
  · rename_i a b c hu; exact .inr (.inr (.inr (.inl ⟨by simpa using h, a, b, c, hu⟩)))
  · rename_i a hu; exact .inr (.inr (.inr (.inr (.inl ⟨by simpa using h, a, hu⟩))))
  · rename_i n e hu
    rw [Bool.and_eq_true] at h
    obtain ⟨h1, h2⟩ := h
    split at h2 <;> (try (cases h2; done))
    rename_i k hk
    cases hi : P.info? e with
    | none => simp [hi] at h2
    | some i =>
      simp [hi] at h2
      exact .inr (.inr (.inr (.inr (.inr (.inl ⟨n, e, k, by simpa using h1, hu, hk, i, hi, h2⟩)))))
  · rename_i fs hu
    rw [Bool.and_eq_true, Bool.and_eq_true] at h
    obtain ⟨⟨h1, h2⟩, h3⟩ := h
    exact .inr (.inr (.inr (.inr (.inr (.inr ⟨fs, by simpa using h1, hu, by simpa using h2, h3⟩)))))

theorem anil_inv {c : CM} {v : Value} {x : AV} (h : Rep c v x) {kd : Nat} {b : Bool} (hb : anil kd x = some b) :
    (kd = 2 ∧ ∃ a n m, v = .slice a n m ∧ a.isNone = b) ∨ (kd = 3 ∧ ∃ a, v = .pointer a ∧ a.isNone = b) ∨
    (kd = 4 ∧ ((v = .nilFunc ∧ b = true) ∨ (∃ f x y, v = .func f x y) ∧ b = false)) ∨ (kd = 5 ∧ ((v = .nilIface ∧ b = true) ∨ (∃ t u, v = .iface t u) ∧ b = false)) := by
  cases h <;> simp only [anil] at hb <;> (try (cases hb; done)) <;> split at hb <;> (try (cases hb; done)) <;> rename_i hk <;> subst hk <;> (injection hb with hb; subst hb)
  · exact .inr (.inl ⟨rfl, _, rfl, rfl⟩)
  · exact .inl ⟨rfl, _, _, _, rfl, rfl⟩
  · exact .inr (.inr (.inr ⟨rfl, .inl ⟨rfl, rfl⟩⟩))
  · exact .inr (.inr (.inl ⟨rfl, .inl ⟨rfl, rfl⟩⟩))
  · exact .inr (.inl ⟨rfl, _, rfl, rfl⟩)
  · exact .inr (.inl ⟨rfl, _, rfl, rfl⟩)
  · exact .inl ⟨rfl, _, _, _, rfl, rfl⟩
  · exact .inl ⟨rfl, _, _, _, rfl, rfl⟩
  · exact .inl ⟨rfl, _, _, _, rfl, rfl⟩
  · exact .inl ⟨rfl, _, _, _, rfl, rfl⟩
  · exact .inr (.inr (.inl ⟨rfl, .inr ⟨⟨_, _, _, rfl⟩, rfl⟩⟩))
  · exact .inr (.inr (.inr ⟨rfl, .inr ⟨⟨_, _, rfl⟩, rfl⟩⟩))

theorem aeqInts_cons {x : AV} {xs ys : List AV} {b : Bool} (h : aeqInts (x :: xs) ys = some b) :
    ∃ k a b' ys' r, x = .int k a ∧ ys = .int k b' :: ys' ∧ aeqInts xs ys' = some r ∧ b = (decide (a = b') && r) := by
  cases ys with
  | nil => cases x <;> simp [aeqInts] at h
  | cons y ys =>
    cases x <;> cases y <;> simp only [aeqInts] at h <;> (try (cases h; done))
    case int.int k a k' b' =>
      split at h <;> (try (cases h; done))
      rename_i hk
      subst hk
      cases hr : aeqInts xs ys with
      | none => simp [hr] at h
      | some r =>
        simp [hr] at h
        exact ⟨k, a, b', ys, r, rfl, rfl, hr, h.symm⟩
theorem aeqInts_nil {ys : List AV} {b : Bool} (h : aeqInts [] ys = some b) : ys = [] ∧ b = true := by
  cases ys with
  | nil => simp only [aeqInts] at h; injection h with h; exact ⟨rfl, h.symm⟩
  | cons y ys => simp [aeqInts] at h

theorem aeqInts_get : ∀ {xs ys : List AV} {b : Bool}, aeqInts xs ys = some b → ys.length = xs.length ∧ (∀ i, i < xs.length → ∃ k a b', xs[i]? = some (.int k a) ∧ ys[i]? = some (.int k b')) ∧
    (b = true ↔ ∀ (i : Nat) (k : IntKind) (a : Int) (k' : IntKind) (b' : Int), xs[i]? = some (AV.int k a) → ys[i]? = some (AV.int k' b') → a = b')
  | [], ys, b, h => by
    obtain ⟨rfl, rfl⟩ := aeqInts_nil h
    exact ⟨rfl, fun i hi => by simp at hi, by simp⟩
  | x :: xs, ys, b, h => by
    obtain ⟨k, a, b', ys', r, rfl, rfl, hr, rfl⟩ := aeqInts_cons h
    obtain ⟨h1, h2, h3⟩ := aeqInts_get hr
    refine ⟨by simp [h1], fun i hi => ?_, ?_⟩
    · cases i with
      | zero => exact ⟨k, a, b', rfl, rfl⟩
      | succ i => exact h2 i (by simpa using hi)
    · simp only [Bool.and_eq_true, decide_eq_true_eq, h3]
      constructor
      · rintro ⟨hab, hh⟩ i k1 a1 k2 b1 e1 e2
        subst hab
        cases i with
        | zero => simp at e1 e2; rw [← e1.2, ← e2.2]
        | succ i => exact hh i k1 a1 k2 b1 (by simpa using e1) (by simpa using e2)
      · intro h
        exact ⟨h 0 k a k b' rfl rfl, fun i k1 a1 k2 b1 e1 e2 => h (i + 1) k1 a1 k2 b1 (by simpa using e1) (by simpa using e2)⟩
theorem run_forIn_early {P : Program} {α : Type} (f : α → (Option Bool × Unit) → Sem (ForInStep ((Option Bool × Unit)))) (g : α → Bool) : ∀ (l : List α) (w : World),
    (∀ i ∈ l, ∀ w, (f i (none, ())).run P w = .ok (if g i = true then .yield (none, ()) else .done (some false, ())) w) →
    (forIn l ((none, ()) : Option Bool × Unit) f).run P w = .ok (if l.all g = true then (none, ()) else (some false, ())) w
  | [], w, _ => by simp
  | a :: l, w, hf => by
    simp only [List.forIn_cons, Sem.run_bind, hf a (by simp) w, Result.andThen_ok]
    by_cases h : g a = true
    · simp only [h, if_true, List.all_cons, Bool.true_and]
      exact run_forIn_early f g l w fun i hi => hf i (by simp [hi])
    · simp [h]
theorem run_equal_array {P : Program} {t e : TypeId} {n : Nat} {k0 : IntKind} {i : TypeInfo} (ht : P.underlying t = some (.array n e)) (he : P.underlying e = some (.int k0)) (hi : P.info? e = some i) (h1 : i.size = 1)
    {c : CM} {vs us : List Value} {xs ys : List AV} (hv : RepL c vs xs) (hu : RepL c us ys) {b : Bool} (hb : aeqInts xs ys = some b) (hn : xs.length = n) (w : World) :
    (Op.equal t (.agg vs.toArray) (.agg us.toArray)).run P w = .ok b w := by
  have hagg : ∀ w, (isAgg e).run P w = .ok false w := fun w => by simp [isAgg, run_underlying he]
  obtain ⟨hl, hg, hbb⟩ := aeqInts_get hb
  unfold Op.equal Op.maxDepth
  rw [show (10000 : Nat) = 9999 + 1 from rfl, Op.equalIn]
  simp only [Sem.run_bind, run_underlying ht, Result.andThen_ok, Go.sizeOf, typeInfo, run_program, hi, Sem.run_pure, h1]
  rw [Std.Legacy.Range.forIn_eq_forIn_range']
  let g : Nat → Bool := fun i => match xs[i]?, ys[i]? with | some (.int _ a), some (.int _ b') => a == b' | _, _ => false
  have hrun := fun f => run_forIn_early (P := P) f g (List.range' 0 n) w
  have hsz : (Std.Legacy.Range.size { start := 0, stop := n, step := 1, step_pos := Nat.one_pos }) = n := by simp [Std.Legacy.Range.size]
  rw [hsz]
  simp only
  rw [hrun]
  · have hall : (List.range' 0 n).all g = b := by
      rw [Bool.eq_iff_iff, List.all_eq_true, hbb]
      constructor
      · intro h j k a k' b' e1 e2
        have hj : j < n := by
          rcases Nat.lt_or_ge j n with h' | h'
          · exact h'
          · rw [List.getElem?_eq_none (by omega)] at e1; cases e1
        have := h j (by simpa [List.mem_range'_1] using hj)
        simp only [g, e1, e2] at this
        simpa using this
      · intro h j hj
        have hj : j < n := by simpa [List.mem_range'_1] using hj
        obtain ⟨k, a, b', e1, e2⟩ := hg j (by omega)
        simp only [g, e1, e2]
        simpa using h j k a k b' e1 e2
    rw [hall]
    cases b <;> simp
  · intro j hj w
    have hj : j < n := by simpa [List.mem_range'_1] using hj
    obtain ⟨k, a, b', e1, e2⟩ := hg j (by omega)
    obtain ⟨v, hv1, hv2⟩ := hv.get e1
    obtain ⟨u, hu1, hu2⟩ := hu.get e2
    cases hv2; cases hu2
    have p1 : (part e vs.toArray (j * 1)).run P w = .ok (.int k a) w := by simp [part, hagg, hv1]
    have p2 : (part e us.toArray (j * 1)).run P w = .ok (.int k b') w := by simp [part, hagg, hu1]
    have p3 : (Op.equalIn 9999 e (.int k a) (.int k b')).run P w = .ok (a == b') w := run_equalIn_int w 9998 e k k0 a b' he
    simp only [Sem.run_bind, p1, p2, p3, Result.andThen_ok, g, e1, e2]
    cases hab : a == b' <;> simp
theorem run_equal_struct {P : Program} {t : TypeId} {fs : Array Field} (ht : P.underlying t = some (.struct fs)) (hp : P.stoodInHeld t = false) (hr : intRow P 0 fs.toList = true)
    {c : CM} {vs us : List Value} {xs ys : List AV} (hv : RepL c vs xs) (hu : RepL c us ys) {b : Bool} (hb : aeqInts xs ys = some b) (hn : xs.length = fs.size) (w : World) :
    (Op.equal t (.agg vs.toArray) (.agg us.toArray)).run P w = .ok b w := by
  have hf : P.fieldsOf t = fs := by simp [Program.fieldsOf, ht]
  have key : ∀ (fl : List Field) (xs' ys' : List AV) (b : Bool) (i : Nat), intRow P i fl = true → xs'.length = fl.length → aeqInts xs' ys' = some b → (∀ j, xs[i + j]? = xs'[j]?) → (∀ j, ys[i + j]? = ys'[j]?) → (Op.eqFields 9999 vs.toArray us.toArray fl).run P w = .ok b w := by
    intro fl
    induction fl with
    | nil =>
      intro xs' ys' b i _ h2 h3 _ _
      have : xs' = [] := List.length_eq_zero_iff.1 h2
      subst this
      obtain ⟨_, rfl⟩ := aeqInts_nil h3
      simp [Op.eqFields]
    | cons f fl ih =>
      intro xs' ys' b i h1 h2 h3 h4 h5
      simp only [intRow, Bool.and_eq_true, beq_iff_eq, bne_iff_ne, ne_eq] at h1
      obtain ⟨⟨⟨g1, g2⟩, g3⟩, g4⟩ := h1
      split at g3 <;> (try (cases g3; done))
      rename_i k0 hk0
      have hagg : ∀ w, (isAgg f.type).run P w = .ok false w := fun w => by simp [isAgg, run_underlying hk0]
      cases xs' with
      | nil => simp at h2
      | cons x xs' =>
      obtain ⟨k, a, b', ys'', r, rfl, rfl, hr, rfl⟩ := aeqInts_cons h3
      have e1 := h4 0
      have e2 := h5 0
      simp at e1 e2
      obtain ⟨v, hv1, hv2⟩ := hv.get e1
      obtain ⟨u, hu1, hu2⟩ := hu.get e2
      cases hv2; cases hu2
      have p1 : (part f.type vs.toArray f.offset).run P w = .ok (.int k a) w := by simp [part, hagg, hv1, g1]
      have p2 : (part f.type us.toArray f.offset).run P w = .ok (.int k b') w := by simp [part, hagg, hu1, g1]
      have p3 : (Op.equalIn 9999 f.type (.int k a) (.int k b')).run P w = .ok (a == b') w := run_equalIn_int w 9998 f.type k k0 a b' hk0
      have := ih xs' ys'' r (i + 1) g4 (by simpa using h2) hr (fun j => by have := h4 (j + 1); rw [show i + (j + 1) = i + 1 + j by omega] at this; simpa using this) (fun j => by have := h5 (j + 1); rw [show i + (j + 1) = i + 1 + j by omega] at this; simpa using this)
      simp only [Op.eqFields, g2, not_false_eq_true, ne_eq, if_true, Sem.run_bind, p1, p2, p3, Result.andThen_ok]
      by_cases hab : a = b'
      · subst hab
        simp [this]
      · have : (a == b') = false := by simpa using hab
        simp [this, hab]
  unfold Op.equal Op.maxDepth
  rw [show (10000 : Nat) = 9999 + 1 from rfl, run_equalIn_struct w 9999 t _ _ (by rw [hf]; exact ht) hp, hf]
  exact key fs.toList xs ys b 0 hr (by simpa using hn) hb (fun j => by rw [Nat.zero_add]) (fun j => by rw [Nat.zero_add])
end Fw
set_option linter.unusedVariables false
set_option linter.unusedSimpArgs false
namespace Fw
open Go

theorem toList_inj {a b : ByteArray} (h : a.toList = b.toList) : a = b := by
  rw [ByteArray.toList_eq, ByteArray.toList_eq] at h
  obtain ⟨⟨x⟩⟩ := a
  obtain ⟨⟨y⟩⟩ := b
  simp only at h
  rw [h]
theorem Rep.int_inv {c : CM} {v : Value} {k : IntKind} {n : Int} (h : Rep c v (.int k n)) : v = .int k n := by cases h; rfl
theorem Rep.bool_inv {c : CM} {v : Value} {b : Bool} (h : Rep c v (.bool b)) : v = .bool b := by cases h; rfl

theorem abin_cases {kd : Nat} {op : BinOp} {x y r : AV} (h : abin kd op x y = some r) :
    (∃ k a k' b, x = .int k a ∧ y = .int k' b ∧ aint op k a k' b = some r) ∨ (∃ a b, x = .str a ∧ y = .str b ∧ astr op a b = some r) ∨
    (∃ b, aeq kd x y = some b ∧ ((op = .eql ∧ r = .bool b) ∨ (op = .neq ∧ r = .bool (!b)))) := by
  unfold abin at h
  split at h
  · exact .inl ⟨_, _, _, _, rfl, rfl, h⟩
  · exact .inr (.inl ⟨_, _, rfl, rfl, h⟩)
  · right
    right
    split at h
    · cases hb : aeq kd x y with
      | none => simp [hb] at h
      | some b => simp [hb] at h; exact ⟨b, rfl, .inl ⟨rfl, h.symm⟩⟩
    · cases hb : aeq kd x y with
      | none => simp [hb] at h
      | some b => simp [hb] at h; exact ⟨b, rfl, .inr ⟨rfl, h.symm⟩⟩
    · cases h

theorem run_eq_of {P : Program} {op : BinOp} {t : TypeId} {v u : Value} {b : Bool} {r : AV} (w : World) (c : CM)
    (he : (Op.equal t v u).run P w = .ok b w) (hop : (op = .eql ∧ r = .bool b) ∨ (op = .neq ∧ r = .bool (!b)))
    (hb1 : binOp .eql t v u = (do Pure.pure (.bool (← Op.equal t v u)))) (hb2 : binOp .neq t v u = (do Pure.pure (.bool (!(← Op.equal t v u))))) :
    ∃ z, (binOp op t v u).run P w = .ok z w ∧ Rep c z r := by
  rcases hop with ⟨rfl, rfl⟩ | ⟨rfl, rfl⟩
  · exact ⟨_, by rw [hb1]; simp [he], .bool _⟩
  · exact ⟨_, by rw [hb2]; simp [he], .bool _⟩

theorem kdOk_1 {P : Program} {t : TypeId} (h : kdOk P t 1 = true) : P.underlying t = some .bool := by
  rcases kdOk_inv h with ⟨_, h⟩ | ⟨h, _⟩ | ⟨h, _⟩ | ⟨h, _⟩ | ⟨h, _⟩ | ⟨n, e, k, h, _⟩ | ⟨fs, h, _⟩
  · exact h
  · omega
  · omega
  · omega
  · omega
  · omega
  · omega
theorem kdOk_2 {P : Program} {t : TypeId} (h : kdOk P t 2 = true) : ∃ e, P.underlying t = some (.slice e) := by
  rcases kdOk_inv h with ⟨h, _⟩ | ⟨_, h⟩ | ⟨h, _⟩ | ⟨h, _⟩ | ⟨h, _⟩ | ⟨n, e, k, h, _⟩ | ⟨fs, h, _⟩
  · omega
  · exact h
  · omega
  · omega
  · omega
  · omega
  · omega
theorem kdOk_3 {P : Program} {t : TypeId} (h : kdOk P t 3 = true) : ∃ e, P.underlying t = some (.pointer e) := by
  rcases kdOk_inv h with ⟨h, _⟩ | ⟨h, _⟩ | ⟨_, h⟩ | ⟨h, _⟩ | ⟨h, _⟩ | ⟨n, e, k, h, _⟩ | ⟨fs, h, _⟩
  · omega
  · omega
  · exact h
  · omega
  · omega
  · omega
  · omega
theorem kdOk_4 {P : Program} {t : TypeId} (h : kdOk P t 4 = true) : ∃ a b c, P.underlying t = some (.func a b c) := by
  rcases kdOk_inv h with ⟨h, _⟩ | ⟨h, _⟩ | ⟨h, _⟩ | ⟨_, h⟩ | ⟨h, _⟩ | ⟨n, e, k, h, _⟩ | ⟨fs, h, _⟩
  · omega
  · omega
  · omega
  · exact h
  · omega
  · omega
  · omega
theorem kdOk_5 {P : Program} {t : TypeId} (h : kdOk P t 5 = true) : ∃ a, P.underlying t = some (.interface a) := by
  rcases kdOk_inv h with ⟨h, _⟩ | ⟨h, _⟩ | ⟨h, _⟩ | ⟨h, _⟩ | ⟨_, h⟩ | ⟨n, e, k, h, _⟩ | ⟨fs, h, _⟩
  · omega
  · omega
  · omega
  · omega
  · exact h
  · omega
  · omega
theorem equal_nil {P : Program} {t : TypeId} {kd : Nat} (hk : kdOk P t kd = true) (hkd : 2 ≤ kd ∧ kd ≤ 5) {c : CM} {v u : Value} {p q : AV} (hp : Rep c v p) (hq : Rep c u q) {A B : Bool} (h1 : anil kd p = some A) (h2 : anil kd q = some B)
    (hAB : A = true ∨ B = true) (w : World) : (Op.equal t v u).run P w = .ok (A && B) w := by
  unfold Op.equal Op.maxDepth
  rw [show (10000 : Nat) = 9999 + 1 from rfl, Op.equalIn]
  have key : ∀ d, P.underlying t = some d → (underlying t).run P w = .ok d w := fun d hd => run_underlying hd w
  rcases anil_inv hp h1 with ⟨rfl, a1, n1, m1, rfl, ha⟩ | ⟨rfl, a1, rfl, ha⟩ | ⟨rfl, hv⟩ | ⟨rfl, hv⟩
  · rcases anil_inv hq h2 with ⟨_, a2, n2, m2, rfl, hb⟩ | ⟨hkk, _⟩ | ⟨hkk, _⟩ | ⟨hkk, _⟩ <;> (try (exact absurd hkk (by decide)))
    obtain ⟨_, hue⟩ := kdOk_2 hk
    simp only [Sem.run_bind, key _ hue, Result.andThen_ok]
    cases a1 <;> cases a2 <;> simp_all
    all_goals (subst ha; subst hb; rfl)
  · rcases anil_inv hq h2 with ⟨hkk, _⟩ | ⟨_, a2, rfl, hb⟩ | ⟨hkk, _⟩ | ⟨hkk, _⟩ <;> (try (exact absurd hkk (by decide)))
    obtain ⟨_, hue⟩ := kdOk_3 hk
    simp only [Sem.run_bind, key _ hue, Result.andThen_ok]
    cases a1 <;> cases a2 <;> simp_all
    all_goals (subst ha; subst hb; rfl)
  · rcases anil_inv hq h2 with ⟨hkk, _⟩ | ⟨hkk, _⟩ | ⟨_, hu⟩ | ⟨hkk, _⟩ <;> (try (exact absurd hkk (by decide)))
    obtain ⟨_, _, _, hue⟩ := kdOk_4 hk
    simp only [Sem.run_bind, key _ hue, Result.andThen_ok]
    rcases hv with ⟨rfl, rfl⟩ | ⟨⟨f1, g1, i1, rfl⟩, rfl⟩ <;> rcases hu with ⟨rfl, rfl⟩ | ⟨⟨f2, g2, i2, rfl⟩, rfl⟩ <;> simp_all
  · rcases anil_inv hq h2 with ⟨hkk, _⟩ | ⟨hkk, _⟩ | ⟨hkk, _⟩ | ⟨_, hu⟩ <;> (try (exact absurd hkk (by decide)))
    obtain ⟨_, hue⟩ := kdOk_5 hk
    simp only [Sem.run_bind, key _ hue, Result.andThen_ok]
    rcases hv with ⟨rfl, rfl⟩ | ⟨⟨f1, g1, rfl⟩, rfl⟩ <;> rcases hu with ⟨rfl, rfl⟩ | ⟨⟨f2, g2, rfl⟩, rfl⟩ <;> simp_all

theorem anil_kd {kd : Nat} {x : AV} {b : Bool} (h : anil kd x = some b) : 2 ≤ kd ∧ kd ≤ 5 := by
  cases x <;> simp only [anil] at h <;> (try (cases h; done)) <;> split at h <;> (try (cases h; done)) <;> omega

theorem sound_bin {P : Program} {t : TypeId} {kd : Nat} {op : BinOp} {xo yo : Operand} (hk : kd ≠ 0 → kdOk P t kd = true) (hg : 10 ≤ kd → P.eqGuardType P.depth t = false)
    (h5 : kd = 5 → (∃ v, xo = .const v) ∨ (∃ v, yo = .const v))
    {c : CM} {s : HS} {w : World} (h : Inv c s w) {v u : Value} {p q x : AV} (hp : Rep c v p) (hq : Rep c u q) (hx : abin kd op p q = some x) :
    DoneS P c w (do eqGuard op t xo yo v u; binOp op t v u) x s := by
  rcases abin_cases hx with ⟨k, a, k', b, rfl, rfl, hi⟩ | ⟨a, b, rfl, rfl, hi⟩ | ⟨b, hb, hop⟩
  · rw [hp.int_inv, hq.int_inv]
    obtain ⟨z, h1, h2⟩ := sound_aint (P := P) (t := t) hi w c
    exact .pure h (by rw [eqGuard_at_int]; simpa using h1) h2
  · have e1 : v = .string a := by cases hp; rfl
    have e2 : u = .string b := by cases hq; rfl
    subst e1; subst e2
    have hgd : eqGuard op t xo yo (.string a) (.string b) = Pure.pure () := by cases op <;> rfl
    have hbe : (a.toList == b.toList) = decide (a = b) := by
      by_cases h : a = b
      · subst h
        rw [decide_eq_true rfl, beq_iff_eq]
      · rw [decide_eq_false h]
        exact beq_eq_false_iff_ne.2 fun e => h (toList_inj e)
    have hb : binOp op t (.string a) (.string b) = Op.stringOp op a b := by cases op <;> rfl
    rw [hgd, hb]
    cases op <;> simp only [astr] at hi <;> (try (cases hi; done))
    case add =>
      split at hi <;> (try (cases hi; done))
      rename_i hsz
      injection hi with hi; subst hi
      exact .pure h (by simpa using run_string_add_sum (P := P) w a b (by omega)) (.str _)
    all_goals
      injection hi with hi; subst hi
      exact .pure h (by simp [Op.stringOp, hbe]) (.bool _)
  · unfold aeq at hb
    split at hb
    · -- bools
      cases hp <;> cases hq <;> simp only at hb <;> (try (cases hb; done))
      rename_i a1 a2
      injection hb with hb; subst hb
      have hu : P.underlying t = some .bool := by
        exact kdOk_1 (hk (by decide))
      have he := run_equal_bool (P := P) w t a1 a2 hu
      obtain ⟨z, h1, h2⟩ := run_eq_of (P := P) (op := op) (t := t) (v := .bool a1) (u := .bool a2) (b := (a1 == a2)) (r := x) w c he (by rw [show (a1 == a2) = decide (a1 = a2) from by cases a1 <;> cases a2 <;> rfl]; exact hop) rfl rfl
      exact .pure h (by rw [eqGuard_at_bool]; simpa using h1) h2
    · -- integers, side by side
      rename_i n
      cases hp <;> cases hq <;> simp only at hb <;> (try (cases hb; done))
      rename_i vs xs hl hr lf us ys hl' hr' lf'
      split at hb <;> (try (cases hb; done))
      rename_i hn
      have hu := hk (by omega)
      have fin : (Op.equal t (.agg vs.toArray) (.agg us.toArray)).run P w = .ok b w → DoneS P c w (do eqGuard op t xo yo (.agg vs.toArray) (.agg us.toArray); binOp op t (.agg vs.toArray) (.agg us.toArray)) x s := by
        intro he
        obtain ⟨z, h1, h2⟩ := run_eq_of (P := P) (op := op) (t := t) (r := x) w c he hop rfl rfl
        refine .pure h ?_ h2
        have : (eqGuard op t xo yo (.agg vs.toArray) (.agg us.toArray)).run P w = .ok () w := by
          rcases hop with ⟨rfl, _⟩ | ⟨rfl, _⟩ <;> simp [eqGuard, hg (by omega)]
        simp only [Sem.run_bind, this, Result.andThen_ok]
        exact h1
      rcases kdOk_inv hu with ⟨h, _⟩ | ⟨h, _⟩ | ⟨h, _⟩ | ⟨h, _⟩ | ⟨h, _⟩ | ⟨m, e, k0, h, hue, hk0, i, hinfo, h1⟩ | ⟨fs, h, hue, hst, hrow⟩ <;> (try (exfalso; omega))
      · have : m = n := by omega
        subst this
        exact fin (run_equal_array (c := c) hue hk0 hinfo h1 ⟨hl, hr⟩ ⟨hl', hr'⟩ hb hn w)
      · exact fin (run_equal_struct (c := c) hue hst hrow ⟨hl, hr⟩ ⟨hl', hr'⟩ hb (by omega) w)
    · -- nils
      rename_i kd' hne1 hne10
      cases e1 : anil kd p with
      | none => simp [e1] at hb
      | some A =>
      cases e2 : anil kd q with
      | none => simp [e1, e2] at hb
      | some B =>
      have hkd := anil_kd e1
      have hAB : (A = true ∨ B = true) ∧ b = (A && B) := by
        simp only [e1, e2] at hb
        cases A <;> cases B <;> simp_all
      have he := equal_nil (P := P) (hk (by omega)) hkd hp hq e1 e2 hAB.1 w
      rw [← hAB.2] at he
      have hbo : binOp .eql t v u = (do Pure.pure (.bool (← Op.equal t v u))) ∧ binOp .neq t v u = (do Pure.pure (.bool (!(← Op.equal t v u)))) := by
        rcases anil_inv hp e1 with ⟨_, a1, n1, m1, rfl, ha⟩ | ⟨_, a1, rfl, ha⟩ | ⟨_, ⟨rfl, ha⟩ | ⟨⟨f1, g1, i1, rfl⟩, ha⟩⟩ | ⟨_, ⟨rfl, ha⟩ | ⟨⟨f1, g1, rfl⟩, ha⟩⟩ <;> exact ⟨by cases u <;> rfl, by cases u <;> rfl⟩
      obtain ⟨z, h1, h2⟩ := run_eq_of (P := P) (op := op) (t := t) (v := v) (u := u) (b := b) (r := x) w c he hop hbo.1 hbo.2
      have hgd : eqGuard op t xo yo v u = Pure.pure () := by
        rcases anil_inv hp e1 with ⟨_, a1, n1, m1, rfl, ha⟩ | ⟨_, a1, rfl, ha⟩ | ⟨_, ⟨rfl, ha⟩ | ⟨⟨f1, g1, i1, rfl⟩, ha⟩⟩ | ⟨h55, ⟨rfl, ha⟩ | ⟨⟨f1, g1, rfl⟩, ha⟩⟩
        · exact eqGuard_at_slice ..
        · exact eqGuard_at_pointer ..
        · exact eqGuard_at_nilFunc ..
        · exact eqGuard_at_func ..
        · rcases anil_inv hq e2 with ⟨hkk, _⟩ | ⟨hkk, _⟩ | ⟨hkk, _⟩ | ⟨_, ⟨rfl, _⟩ | ⟨⟨f2, g2, rfl⟩, _⟩⟩ <;> (try (exact absurd (h55.symm.trans hkk) (by decide)))
          · rcases h5 h55 with ⟨cv, rfl⟩ | ⟨cv, rfl⟩
            · exact eqGuard_nil_constL ..
            · exact eqGuard_nil_constR ..
          · exact eqGuard_nil_iface ..
        · exact eqGuard_at_iface ..
      exact .pure h (by rw [hgd]; simpa using h1) h2
end Fw
set_option linter.unusedVariables false
set_option linter.unusedSimpArgs false
namespace Fw
open Go

def aun : UnOp → AV → Option AV
  | .not, .bool b => some (.bool (!b))
  | .neg, .int k n => some (.int k (k.wrap (0 - n)))
  | _, _ => none
theorem sound_un {P : Program} {op : UnOp} {c : CM} {s : HS} {w : World} (h : Inv c s w) {v : Value} {p x : AV} (hp : Rep c v p) (hx : aun op p = some x) : DoneS P c w (Op.unary op v) x s := by
  cases op <;> cases hp <;> simp only [aun] at hx <;> (try (cases hx; done)) <;> (injection hx with hx; subst hx)
  · exact .pure h rfl (.int _ _)
  · exact .pure h rfl (.bool _)

def aconv (k : IntKind) : AV → Option AV
  | .int _ n => some (.int k (k.wrap n))
  | _ => none
theorem sound_conv {P : Program} {src dst : TypeId} {k : IntKind} {d : TypeDesc} (hs : P.underlying src = some d) (hd : P.underlying dst = some (.int k)) {c : CM} {s : HS} {w : World} (h : Inv c s w) {v : Value} {p x : AV} (hp : Rep c v p) (hx : aconv k p = some x) : DoneS P c w (convert src dst v) x s := by
  cases hp <;> simp only [aconv] at hx <;> (try (cases hx; done)) <;> (injection hx with hx; subst hx)
  rename_i k' n
  refine .pure h (v := .int k (k.wrap n)) ?_ (.int _ _)
  simp [convert, run_underlying hs, run_underlying hd, Conv.intToInt]

def amin : AV → AV → Option AV
  | .int k x, .int k' y => if k = k' then some (.int k (min x y)) else none
  | _, _ => none
def amax : AV → AV → Option AV
  | .int k x, .int k' y => if k = k' then some (.int k (max x y)) else none
  | _, _ => none
theorem sound_min {P : Program} {ts : Array TypeId} {ty : TypeId} {c : CM} {s : HS} {w : World} (h : Inv c s w) {v u : Value} {p q x : AV} (hp : Rep c v p) (hq : Rep c u q) (hx : amin p q = some x) : DoneS P c w (Builtin.min_ ts ty #[v, u]) x s := by
  cases hp <;> cases hq <;> simp only [amin] at hx <;> (try (cases hx; done))
  rename_i k a k' b
  split at hx <;> (try (cases hx; done))
  injection hx with hx; subst hx
  refine .pure h (v := .int k (min a b)) ?_ (.int _ _)
  simp only [Builtin.min_, List.foldlM, Builtin.min2]
  by_cases hb : b < a
  · simp [hb, Int.min_eq_right (Int.le_of_lt hb)]
  · simp [hb, Int.min_eq_left (Int.not_lt.1 hb)]
theorem ite_min (a b : Int) : (if b < a then b else a) = min a b := by split <;> omega
theorem ite_max (a b : Int) : (if a < b then b else a) = max a b := by split <;> omega
theorem ite_max' (a b : Int) : (if b > a then b else a) = max a b := by split <;> omega
def amin3 : AV → AV → AV → Option AV
  | .int k x, .int k' y, .int k'' z => if k = k' ∧ k = k'' then some (.int k (min (min x y) z)) else none
  | _, _, _ => none
def amax3 : AV → AV → AV → Option AV
  | .int k x, .int k' y, .int k'' z => if k = k' ∧ k = k'' then some (.int k (max (max x y) z)) else none
  | _, _, _ => none
theorem sound_min3 {P : Program} {ts : Array TypeId} {ty : TypeId} {c : CM} {s : HS} {w : World} (h : Inv c s w) {v u t : Value} {p q r x : AV} (hp : Rep c v p) (hq : Rep c u q) (hr : Rep c t r) (hx : amin3 p q r = some x) : DoneS P c w (Builtin.min_ ts ty #[v, u, t]) x s := by
  unfold amin3 at hx
  split at hx <;> (try (cases hx; done))
  rename_i k a k' b k'' d
  split at hx <;> (try (cases hx; done))
  injection hx with hx; subst hx
  cases hp; cases hq; cases hr
  refine .pure h (v := .int k (min (min a b) d)) ?_ (.int _ _)
  simp only [Builtin.min_, List.foldlM, Builtin.min2, pure_bind, Sem.run_bind, Sem.run_pure, Result.andThen_ok]
  congr 2
  rw [ite_min a b, ite_min _ d]
theorem sound_max3 {P : Program} {ts : Array TypeId} {ty : TypeId} {c : CM} {s : HS} {w : World} (h : Inv c s w) {v u t : Value} {p q r x : AV} (hp : Rep c v p) (hq : Rep c u q) (hr : Rep c t r) (hx : amax3 p q r = some x) : DoneS P c w (Builtin.max_ ts ty #[v, u, t]) x s := by
  unfold amax3 at hx
  split at hx <;> (try (cases hx; done))
  rename_i k a k' b k'' d
  split at hx <;> (try (cases hx; done))
  injection hx with hx; subst hx
  cases hp; cases hq; cases hr
  refine .pure h (v := .int k (max (max a b) d)) ?_ (.int _ _)
  simp only [Builtin.max_, List.foldlM, Builtin.max2, pure_bind, Sem.run_bind, Sem.run_pure, Result.andThen_ok]
  congr 2
  first
  | (rw [ite_max a b, ite_max _ d])
  | (rw [ite_max' a b, ite_max' _ d])
theorem sound_max {P : Program} {ts : Array TypeId} {ty : TypeId} {c : CM} {s : HS} {w : World} (h : Inv c s w) {v u : Value} {p q x : AV} (hp : Rep c v p) (hq : Rep c u q) (hx : amax p q = some x) : DoneS P c w (Builtin.max_ ts ty #[v, u]) x s := by
  cases hp <;> cases hq <;> simp only [amax] at hx <;> (try (cases hx; done))
  rename_i k a k' b
  split at hx <;> (try (cases hx; done))
  injection hx with hx; subst hx
  refine .pure h (v := .int k (max a b)) ?_ (.int _ _)
  simp only [Builtin.max_, List.foldlM, Builtin.max2]
  by_cases hb : a < b
  · simp [hb, Int.max_eq_right (Int.le_of_lt hb)]
  · simp [hb, Int.max_eq_left (Int.not_lt.1 hb)]

theorem sound_mkif {P : Program} {t : TypeId} {d : TypeDesc} (hd : P.underlying t = some d) (hn : (match d with | .interface _ => true | _ => false) = false) {c : CM} {s : HS} {w : World} (h : Inv c s w) {v : Value} {p : AV} (hp : Rep c v p) : DoneS P c w (Instr.makeInterface t v) (.iface t p) s := by
  refine .pure h (v := .iface t v) ?_ (.iface t v p hp)
  simp only [Instr.makeInterface, Sem.run_bind, run_underlying hd, Result.andThen_ok]
  cases d <;> first | rfl | (simp at hn)

/-! literals: parts laid over zeros -/
def setV : List Value → Nat → List Value → List Value
  | ys, _, [] => ys
  | ys, o, x :: xs => setV (ys.set o x) (o + 1) xs
theorem RepL.set {c : CM} {vs : List Value} {xs : List AV} (h : RepL c vs xs) (o : Nat) {v : Value} {x : AV} (hv : Rep c v x) : RepL c (vs.set o v) (xs.set o x) := by
  refine ⟨by simp [h.1], fun j a y h1 h2 => ?_⟩
  rw [List.getElem?_set] at h1 h2
  by_cases ho : o = j
  · subst ho
    simp only [if_true] at h1 h2
    split at h1 <;> (try (cases h1; done))
    split at h2 <;> (try (cases h2; done))
    injection h1 with h1; injection h2 with h2
    subst h1; subst h2; exact hv
  · simp only [ho, if_false] at h1 h2
    exact h.2 j a y h1 h2
theorem RepL.setL {c : CM} : ∀ (xs : List AV) (vs : List Value) (ys : List AV) (us : List Value) (o : Nat), RepL c us ys → RepL c vs xs → RepL c (setV us o vs) (setL ys o xs)
  | [], vs, ys, us, o, h, hr => by rw [hr.nil_inv]; exact h
  | x :: xs, vs, ys, us, o, h, hr => by
    obtain ⟨v, vs', rfl, hv, hvs⟩ := hr.cons_inv
    exact RepL.setL xs vs' _ _ _ (h.set o hv) hvs
theorem setL_leaf : ∀ (xs ys : List AV) (o : Nat), (∀ (j : Nat) (y : AV), xs[j]? = some y → y.leaf = true) → (∀ (j : Nat) (y : AV), ys[j]? = some y → y.leaf = true) → ∀ (j : Nat) (y : AV), (setL ys o xs)[j]? = some y → y.leaf = true
  | [], _, _, _, h => h
  | x :: xs, ys, o, h1, h2 => setL_leaf xs _ _ (fun j y hy => h1 (j + 1) y (by simpa using hy)) (fun j y hy => by
      rw [List.getElem?_set] at hy
      by_cases ho : o = j
      · simp only [ho, if_true] at hy
        split at hy <;> (try (cases hy; done))
        injection hy with hy; subst hy
        exact h1 0 _ rfl
      · simp only [ho, if_false] at hy
        exact h2 j y hy)

theorem foldl_set (vs : List Value) : ∀ (o k : Nat) (cs : Array Value), ((vs.zipIdx k).foldl (fun (cs : Array Value) (p : Value × Nat) => cs.setIfInBounds (o + p.2) p.1) cs).toList = setV cs.toList (o + k) vs := by
  induction vs with
  | nil => intro o k cs; rfl
  | cons v vs ih =>
    intro o k cs
    simp only [List.zipIdx_cons, List.foldl_cons, setV]
    rw [ih]
    simp [Nat.add_assoc]

/-- parts (place, size, value) laid over cells -/
def afill : List AV → List (Nat × Nat × AV) → Option (List AV)
  | zs, [] => some zs
  | zs, (off, sz, x) :: ps => if x.sto = true ∧ x.cells.length = sz ∧ off + sz ≤ zs.length then afill (setL zs off x.cells) ps else none

theorem sound_fill {c : CM} (place : Nat → Option (Nat × Nat)) : ∀ (ps : List (Nat × Nat × AV)) (qs : List (Nat × Value)) (zs r : List AV) (cs : Array Value), RepL c cs.toList zs → (∀ (j : Nat) (y : AV), zs[j]? = some y → y.leaf = true) →
    qs.length = ps.length → (∀ (j i : Nat) (v : Value) (off sz : Nat) (x : AV), qs[j]? = some (i, v) → ps[j]? = some (off, sz, x) → place i = some (off, sz) ∧ Rep c v x) →
    afill zs ps = some r → ∃ cs', Instr.fill place cs qs = some cs' ∧ RepL c cs'.toList r ∧ (∀ (j : Nat) (y : AV), r[j]? = some y → y.leaf = true)
  | [], qs, zs, r, cs, h, lf, hl, hp, hx => by
    simp only [afill] at hx
    injection hx with hx; subst hx
    have : qs = [] := List.length_eq_zero_iff.1 hl
    subst this
    exact ⟨cs, rfl, h, lf⟩
  | (off, sz, x) :: ps, qs, zs, r, cs, h, lf, hl, hp, hx => by
    cases qs with
    | nil => simp at hl
    | cons q qs =>
      obtain ⟨i, v⟩ := q
      obtain ⟨h1, h2⟩ := hp 0 i v off sz x rfl rfl
      simp only [afill] at hx
      split at hx <;> (try (cases hx; done))
      rename_i hc
      obtain ⟨c1, c2, c3⟩ := hc
      have hcl := h2.cells
      have hsz : v.cells.size = sz := by rw [← c2]; simpa using hcl.1
      have hcs : cs.size = zs.length := by simpa using h.1
      have hnot : ¬ (v.cells.size ≠ sz || off + v.cells.size > cs.size) = true := by simp [hsz, hcs]; omega
      simp only [Instr.fill, h1]
      rw [if_neg hnot]
      refine sound_fill place ps qs (setL zs off x.cells) r _ ?_ (setL_leaf _ _ _ (h2.cells_leaf c1) lf) (by simpa using hl) (fun j i' v' o' s' x' a b => hp (j + 1) i' v' o' s' x' (by simpa using a) (by simpa using b)) hx
      have e := foldl_set v.cells.toList off 0 cs
      rw [Nat.add_zero] at e
      have e2 : (v.cells.zipIdx.foldl (fun cs (x : Value × Nat) => cs.setIfInBounds (off + x.2) x.1) cs) = (v.cells.toList.zipIdx 0).foldl (fun (cs : Array Value) (p : Value × Nat) => cs.setIfInBounds (off + p.2) p.1) cs := by
        rw [← Array.foldl_toList]; simp
      rw [e2, e]
      exact RepL.setL _ _ _ _ _ h hcl

/-- zero cells, read -/
def zcells (z : Value) : Option (List AV) :=
  z.cells.toList.mapM fun
    | .int k n => some (AV.int k n)
    | .bool b => some (.bool b)
    | .string s => some (.str s)
    | .slice none 0 0 => some .nilsl
    | .map none => some .nilmp
    | .pointer none => some .nilptr
    | .nilFunc => some .nilfn
    | .nilIface => some .nilif
    | _ => none

theorem mapM_RepL {c : CM} {f : Value → Option AV} (hf : ∀ v x, f v = some x → Rep c v x ∧ x.leaf = true) : ∀ (vs : List Value) (xs : List AV), vs.mapM f = some xs → RepL c vs xs ∧ ∀ (j : Nat) (y : AV), xs[j]? = some y → y.leaf = true
  | [], xs, h => by
    simp at h; subst h; exact ⟨.nil, fun j y hy => by simp at hy⟩
  | v :: vs, xs, h => by
    rw [List.mapM_cons] at h
    cases h1 : f v with
    | none => simp [h1] at h
    | some x =>
      cases h2 : vs.mapM f with
      | none => simp [h1, h2] at h
      | some xs' =>
        simp [h1, h2] at h
        subst h
        obtain ⟨a, b⟩ := mapM_RepL hf vs xs' h2
        obtain ⟨p, q⟩ := hf v x h1
        refine ⟨.cons p a, fun j y hy => ?_⟩
        cases j with
        | zero => simp at hy; subst hy; exact q
        | succ j => exact b j y (by simpa using hy)

theorem zcells_rep {c : CM} {z : Value} {zs : List AV} (h : zcells z = some zs) : RepL c z.cells.toList zs ∧ ∀ (j : Nat) (y : AV), zs[j]? = some y → y.leaf = true := by
  refine mapM_RepL (fun v x hx => ?_) _ _ h
  split at hx <;> (try (cases hx; done)) <;> (injection hx with hx; subst hx)
  · exact ⟨.int _ _, rfl⟩
  · exact ⟨.bool _, rfl⟩
  · exact ⟨.str _, rfl⟩
  · exact ⟨.nilsl, rfl⟩
  · exact ⟨.nilmp, rfl⟩
  · exact ⟨.nilptr, rfl⟩
  · exact ⟨.nilfn, rfl⟩
  · exact ⟨.nilif, rfl⟩
end Fw
set_option linter.unusedVariables false
set_option linter.unusedSimpArgs false
namespace Fw
open Go

inductive AEnd where
  | ret (x : AV)
  | panic (x : AV)

def callOk (P : Program) (f : FuncId) : Bool :=
  match P.funcs[f]? with
  | some fn => fn.name != "runtime.NumGoroutine" && fn.body.isSome
  | none => false
theorem run_callFunc {P : Program} {f : FuncId} (h : callOk P f = true) (args : Array Value) (w : World) : (callFunc f args).run P w = .ok (.enter f args) w := by
  unfold callOk at h
  split at h
  · rename_i fn hf
    simp only [Bool.and_eq_true, bne_iff_ne, ne_eq] at h
    obtain ⟨h1, h2⟩ := h
    have h2' : fn.body ≠ none := by intro e; rw [e] at h2; cases h2
    simp [callFunc, hf, h1, h2']
  · cases h

def EndRep (c : CM) : Ending → AEnd → Prop
  | .returned v, .ret x => Rep c v x
  | .panicked chain, .panic x => ∃ v, chain = [{ v := v, recovered := false }] ∧ Rep c v x
  | _, _ => False

structure FCall (P : Program) (f : FuncId) (args : List AV) (hs : HS) (R : AEnd → HS → Prop) : Prop where
  ok : callOk P f = true
  run : ∀ (c : CM) (w : World) (vs : List Value), Inv c hs w → RepL c vs args →
    Calls P f vs.toArray w fun e w' => ∃ ae hs' c', R ae hs' ∧ EndRep c' e ae ∧ Inv c' hs' w' ∧ Fr c w c' w'
theorem FCall.mono {P : Program} {f : FuncId} {args : List AV} {hs : HS} {R R' : AEnd → HS → Prop} (h : FCall P f args hs R) (hr : ∀ e s, R e s → R' e s) : FCall P f args hs R' :=
  ⟨h.ok, fun c w vs hi hv => (h.run c w vs hi hv).mono fun e w' ⟨ae, hs', c', r, rest⟩ => ⟨ae, hs', c', hr _ _ r, rest⟩⟩

mutual
def AV.plain : AV → Bool
  | .ref _ _ => false
  | .msl _ _ _ _ _ _ => false
  | .gsl _ _ _ => false
  | .osl _ _ _ _ _ => false
  | .mp _ => false
  | .ptr x => x.plain
  | .sl _ xs (.own _) => false
  | .sl _ xs _ => plainL xs
  | .agg xs => plainL xs
  | .tup xs => plainL xs
  | .fn _ xs ys => plainL xs && plainL ys
  | .iface _ x => x.plain
  | _ => true
def plainL : List AV → Bool
  | [] => true
  | x :: xs => x.plain && plainL xs
end
theorem plainL_get {xs : List AV} (h : plainL xs = true) {j : Nat} {y : AV} (hy : xs[j]? = some y) : y.plain = true := by
  induction xs generalizing j with
  | nil => simp at hy
  | cons x xs ih =>
    simp only [plainL, Bool.and_eq_true] at h
    cases j with
    | zero => simp at hy; subst hy; exact h.1
    | succ j => exact ih h.2 (by simpa using hy)
theorem plain_cells {x : AV} (h : x.plain = true) : plainL x.cells = true := by
  cases x with
  | agg xs => simp only [AV.plain] at h; exact h
  | _ => simp only [AV.cells, plainL, h, Bool.and_self]
theorem plain_flat {xs : List AV} (h : plainL xs = true) : plainL (flat xs) = true := by
  have app : ∀ a b : List AV, plainL a = true → plainL b = true → plainL (a ++ b) = true := by
    intro a b ha hb
    induction a with
    | nil => exact hb
    | cons x a ih => simp only [plainL, Bool.and_eq_true, List.cons_append] at ha ⊢; exact ⟨ha.1, ih ha.2⟩
  induction xs with
  | nil => rfl
  | cons x xs ih =>
    simp only [plainL, Bool.and_eq_true] at h
    exact app _ _ (plain_cells h.1) (ih h.2)

/-- a plain value reads wherever its lasting cells are known -/
theorem Rep.plain_mono {c c' : CM} (hi : ∀ b o v, c.cl b o = .imm v → c'.cl b o = .imm v) {v : Value} {x : AV} (h : Rep c v x) (hp : x.plain = true) : Rep c' v x := by
  induction h with
  | int k n => exact .int k n
  | bool b => exact .bool b
  | str s => exact .str s
  | nilptr => exact .nilptr
  | nilsl => exact .nilsl
  | nilif => exact .nilif
  | nilfn => exact .nilfn
  | ptr b o vs x hl hc h lf ih =>
    have hp' : plainL x.cells = true := plain_cells (by simpa [AV.plain] using hp)
    exact .ptr b o vs x hl (fun j v e => hi _ _ _ (hc j v e)) (fun j v y a b => ih j v y a b (plainL_get hp' b)) lf
  | ref i off hi' => simp [AV.plain] at hp
  | msl ag sz i off len cap ex hi' hl' he' => simp [AV.plain] at hp
  | gsl b o cap sz n k hn hcap => simp [AV.plain] at hp
  | esl a => exact .esl a
  | osl ag sz i len cap k hi' hcap => simp [AV.plain] at hp
  | nilmp => exact .nilmp
  | mp i hi' => simp [AV.plain] at hp
  | sl b o cap sz xs cp vs hl hz hc h lf hcap ih =>
    have hpx : plainL xs = true := by cases cp <;> simp_all [AV.plain]
    refine .sl b o cap sz xs cp vs hl hz (fun j v e => hi _ _ _ (hc j v e)) (fun j v y a b => ih j v y a b (plainL_get (plain_flat hpx) b)) lf ?_
    cases cp with
    | exact => exact hcap
    | shared => exact hcap
    | own k => simp [AV.plain] at hp
  | agg vs xs hl h lf ih =>
    have hp' : plainL xs = true := by simpa [AV.plain] using hp
    exact .agg vs xs hl (fun j v y a b => ih j v y a b (plainL_get hp' b)) lf
  | tup vs xs hl h ih =>
    have hp' : plainL xs = true := by simpa [AV.plain] using hp
    exact .tup vs xs hl (fun j v y a b => ih j v y a b (plainL_get hp' b))
  | fn f v1 v2 x1 x2 hl1 hl2 h1 h2 ih1 ih2 =>
    simp only [AV.plain, Bool.and_eq_true] at hp
    exact .fn f v1 v2 x1 x2 hl1 hl2 (fun j v y a b => ih1 j v y a b (plainL_get hp.1 b)) (fun j v y a b => ih2 j v y a b (plainL_get hp.2 b))
  | iface t v x h ih => exact .iface t v x (ih (by simpa [AV.plain] using hp))

/-- mutable slices read by their content -/
def frzC (g : AV → AV) : AV → AV
  | .agg xs => .agg (xs.map g)
  | x => g x
def frzL (h : Nat → Option (List AV)) : Nat → AV → AV
  | 0, x => x
  | n + 1, .msl ag sz i off len ex =>
    match h i with
    | some ys => match mcont ag sz off len ys with
      | some xs => .sl sz (xs.map (frzC (frzL h n))) (if ex = true then .exact else .shared)
      | none => .msl ag sz i off len ex
    | none => .msl ag sz i off len ex
  | n + 1, .osl ag sz i len k =>
    match h i with
    | some ys => match mcont ag sz 0 len ys with
      | some xs => .sl sz (xs.map (frzC (frzL h n))) .shared
      | none => .osl ag sz i len k
    | none => .osl ag sz i len k
  | n + 1, .sl sz xs c => .sl sz (xs.map (frzC (frzL h n))) c
  | _ + 1, x => x
def frz (h : Nat → Option (List AV)) (n : Nat) : AV → AV
  | .tup xs => .tup (xs.map (frzC (frzL h n)))
  | x => frzC (frzL h n) x
theorem frzL_leaf (h : Nat → Option (List AV)) (n : Nat) (x : AV) : (frzL h n x).leaf = x.leaf := by
  cases n with
  | zero => rfl
  | succ n => cases x <;> first | rfl | (simp only [frzL]; split <;> (try split) <;> rfl)
theorem frzL_one (h : Nat → Option (List AV)) (n : Nat) {x : AV} (hx : ∀ xs, x ≠ .agg xs) : (frzL h n x).cells = [frzL h n x] := by
  cases n with
  | zero => cases x <;> first | rfl | exact absurd rfl (hx _)
  | succ n =>
    cases x <;> first | rfl | exact absurd rfl (hx _) | (simp only [frzL]; split <;> (try split) <;> rfl)
theorem frzC_cells (h : Nat → Option (List AV)) (n : Nat) (x : AV) : (frzC (frzL h n) x).cells = x.cells.map (frzL h n) := by
  cases x with
  | agg xs => rfl
  | _ => exact frzL_one h n (fun xs e => by cases e)
theorem frzC_flat (h : Nat → Option (List AV)) (n : Nat) (xs : List AV) : flat (xs.map (frzC (frzL h n))) = (flat xs).map (frzL h n) := by
  induction xs with
  | nil => rfl
  | cons x xs ih => simp only [List.map_cons, flat, List.map_append, ih, frzC_cells]

/-- c' knows what c knows, and may know more cells as lasting -/
structure Knows (c c' : CM) : Prop where
  imm : ∀ b o v, c.cl b o = .imm v → c'.cl b o = .imm v
  nh : c'.nh = c.nh
  loc : ∀ i, c'.loc i = c.loc i
  nt : c'.nt = c.nt
  val : ∀ k, c'.val k = true → c.val k = true ∧ ∀ b o, c.cl b o = .tok k → c'.cl b o = .tok k
theorem CapOk.knows {c c' : CM} (hk : Knows c c') {b o len sz cap : Nat} {cp : Cap} (h : CapOk c b o len sz cap cp) : CapOk c' b o len sz cap cp := by
  cases cp with
  | exact => exact h
  | shared => exact h
  | own k =>
    obtain ⟨h1, h2, h3⟩ := h
    exact ⟨h1, by rw [hk.nt]; exact h2, fun hv j hj hj' => (hk.val k hv).2 _ _ (h3 (hk.val k hv).1 j hj hj')⟩
theorem Rep.knows {c c' : CM} (hk : Knows c c') {v : Value} {x : AV} (h : Rep c v x) : Rep c' v x := by
  induction h with
  | int k n => exact .int k n
  | bool b => exact .bool b
  | str s => exact .str s
  | nilptr => exact .nilptr
  | nilsl => exact .nilsl
  | nilif => exact .nilif
  | nilfn => exact .nilfn
  | ptr b o vs x hl hc h lf ih => exact .ptr b o vs x hl (fun j v e => hk.imm _ _ _ (hc j v e)) ih lf
  | ref i off hi' => rw [← hk.loc]; exact .ref i off (by rw [hk.nh]; exact hi')
  | msl ag sz i off len cap ex hi' hl' he' => rw [← hk.loc]; exact .msl ag sz i off len cap ex (by rw [hk.nh]; exact hi') hl' he'
  | gsl b o cap sz n k hn hcap => exact .gsl b o cap sz n k hn (hcap.knows hk)
  | esl a => exact .esl a
  | osl ag sz i len cap k hi' hcap =>
    have h2 := hcap.knows hk
    rw [← hk.loc] at h2 ⊢
    exact .osl ag sz i len cap k (by rw [hk.nh]; exact hi') h2
  | nilmp => exact .nilmp
  | mp i hi' => rw [← hk.loc]; exact .mp i (by rw [hk.nh]; exact hi')
  | sl b o cap sz xs cpp vs hl hz hc h lf hcap ih => exact .sl b o cap sz xs cpp vs hl hz (fun j v e => hk.imm _ _ _ (hc j v e)) ih lf (hcap.knows hk)
  | agg vs xs hl h lf ih => exact .agg vs xs hl ih lf
  | tup vs xs hl h ih => exact .tup vs xs hl ih
  | fn f v1 v2 x1 x2 hl1 hl2 h1 h2 ih1 ih2 => exact .fn f v1 v2 x1 x2 hl1 hl2 ih1 ih2
  | iface t v x h ih => exact .iface t v x ih

theorem RepL.frz_flat {c c' : CM} {n : Nat} {h : Nat → Option (List AV)} (ih : ∀ {v : Value} {x : AV}, Rep c v x → Rep c' v (frzL h n x)) {vs : List Value} {xs : List AV} (hr : RepL c vs xs) : RepL c' vs (xs.map (frzL h n)) := by
  refine ⟨by rw [List.length_map]; exact hr.1, fun j v y hv hy => ?_⟩
  rw [List.getElem?_map] at hy
  cases hx : xs[j]? with
  | none => rw [hx] at hy; cases hy
  | some y0 => rw [hx] at hy; injection hy with hy; subst hy; exact ih (hr.2 j v y0 hv hx)
theorem frz_leaves {h : Nat → Option (List AV)} {n : Nat} {xs : List AV} (lf : ∀ (j : Nat) (y : AV), xs[j]? = some y → y.leaf = true) : ∀ (j : Nat) (y : AV), (xs.map (frzL h n))[j]? = some y → y.leaf = true := by
  intro j y hy
  rw [List.getElem?_map] at hy
  cases hx : xs[j]? with
  | none => rw [hx] at hy; cases hy
  | some y0 => rw [hx] at hy; injection hy with hy; subst hy; rw [frzL_leaf]; exact lf j y0 hx
theorem Rep.frzL {c c' : CM} {s : HS} {w : World} (hk : Knows c c') (hi : Inv c s w)
    (hb : ∀ b o i j v, c.cl b o = .blk i j → w.cell? ⟨b, o, none⟩ = some v → c'.cl b o = .imm v) (n : Nat) :
    ∀ {v : Value} {x : AV}, Rep c v x → Rep c' v (frzL s.heap n x) := by
  induction n with
  | zero => intro v x h; exact h.knows hk
  | succ n ih =>
    intro v x h
    cases h with
    | int k n => exact .int k n
    | bool b => exact .bool b
    | str s => exact .str s
    | nilptr => exact .nilptr
    | nilsl => exact .nilsl
    | nilif => exact .nilif
    | nilfn => exact .nilfn
    | ptr b o vs x hl hc h lf => exact Rep.knows hk (.ptr b o vs x hl hc h lf)
    | ref i off hi' => exact Rep.knows hk (.ref i off hi')
    | agg vs xs hl h lf => exact Rep.knows hk (.agg vs xs hl h lf)
    | tup vs xs hl h => exact Rep.knows hk (.tup vs xs hl h)
    | fn f v1 v2 x1 x2 hl1 hl2 h1 h2 => exact Rep.knows hk (.fn f v1 v2 x1 x2 hl1 hl2 h1 h2)
    | iface t v x h => exact Rep.knows hk (.iface t v x h)
    | gsl b o cap sz n k hn hcap => exact Rep.knows hk (.gsl b o cap sz n k hn hcap)
    | esl a => exact .esl a
    | nilmp => exact .nilmp
    | mp i hi' => exact Rep.knows hk (.mp i hi')
    | osl ag sz i len cap k hi' hcap =>
      have hm := Rep.osl (c := c) ag sz i len cap k hi' hcap
      simp only [Fw.frzL]
      split <;> (try exact hm.knows hk)
      rename_i ys hys
      split <;> (try exact hm.knows hk)
      rename_i xs hxs
      obtain ⟨hlt, lf, vs, hr, hc⟩ := hi.readBlk hys
      obtain ⟨h1, h2, h3, h4⟩ := mcont_inv hxs lf
      subst h1
      have hrr := (hr.drop 0).take (xs.length * sz)
      rw [← h3] at hrr
      have hlf : ∀ (j : Nat) (y : AV), (flat xs)[j]? = some y → y.leaf = true := by
        intro j' y hy
        rw [h3, List.getElem?_take] at hy
        split at hy
        · rw [List.getElem?_drop] at hy; exact lf _ _ hy
        · cases hy
      have hr' := RepL.frz_flat (c' := c') (h := s.heap) (n := n) ih hrr
      rw [← frzC_flat] at hr'
      have := Rep.sl (c := c') (c.loc i).1 (c.loc i).2 cap sz (xs.map (frzC (Fw.frzL s.heap n))) .shared ((vs.drop 0).take (xs.length * sz)) hr'.1 ?_ ?_ hr'.2 ?_ ?_
      · rw [List.length_map] at this; exact this
      · intro x hx
        obtain ⟨x0, hx0, rfl⟩ := List.mem_map.1 hx
        rw [frzC_cells, List.length_map]; exact h2 x0 hx0
      · intro j v hv
        rw [List.getElem?_take] at hv
        split at hv <;> (try (cases hv; done))
        rw [List.drop_zero] at hv
        have hlt2 : j < ys.length := by
          have : j < vs.length := by
            rcases Nat.lt_or_ge j vs.length with h' | h'
            · exact h'
            · simp [List.getElem?_eq_none h'] at hv
          have := hr.1; omega
        have hcl := ((hi.heap i ys hys).2 j ys[j] (by simp [hlt2])).2.1
        exact hb _ _ _ _ _ hcl (hc _ _ hv)
      · rw [frzC_flat]; exact frz_leaves hlf
      · rw [List.length_map]
        exact hcap.le
    | sl b o cap sz xs cpp vs hl hz hc h lf hcap =>
      have hr' := RepL.frz_flat (c' := c') (h := s.heap) (n := n) ih ⟨hl, h⟩
      rw [← frzC_flat] at hr'
      have := Rep.sl (c := c') b o cap sz (xs.map (frzC (Fw.frzL s.heap n))) cpp vs hr'.1 ?_ (fun j v e => hk.imm _ _ _ (hc j v e)) hr'.2 ?_ (by rw [List.length_map]; exact hcap.knows hk)
      · rw [List.length_map] at this; exact this
      · intro x hx
        obtain ⟨x0, hx0, rfl⟩ := List.mem_map.1 hx
        rw [frzC_cells, List.length_map]; exact hz x0 hx0
      · rw [frzC_flat]; exact frz_leaves lf
    | msl ag sz i off len cap ex hi' hl' he' =>
      have hm := Rep.msl (c := c) ag sz i off len cap ex hi' hl' he'
      simp only [Fw.frzL]
      split <;> (try exact hm.knows hk)
      rename_i ys hys
      split <;> (try exact hm.knows hk)
      rename_i xs hxs
      have hx : aelemsH s.heap (.msl ag sz i off len ex) = some xs := by simp only [aelemsH, hys]; exact hxs
      obtain ⟨hlt, lf, vs, hr, hc⟩ := hi.readBlk hys
      obtain ⟨h1, h2, h3, h4⟩ := mcont_inv hxs lf
      subst h1
      have hrr := (hr.drop off).take (xs.length * sz)
      rw [← h3] at hrr
      have hlf : ∀ (j : Nat) (y : AV), (flat xs)[j]? = some y → y.leaf = true := by
        intro j' y hy
        rw [h3, List.getElem?_take] at hy
        split at hy
        · rw [List.getElem?_drop] at hy; exact lf _ _ hy
        · cases hy
      have hr' := RepL.frz_flat (c' := c') (h := s.heap) (n := n) ih hrr
      rw [← frzC_flat] at hr'
      have := Rep.sl (c := c') (c.loc i).1 ((c.loc i).2 + off) cap sz (xs.map (frzC (Fw.frzL s.heap n))) (if ex = true then .exact else .shared) ((vs.drop off).take (xs.length * sz)) hr'.1 ?_ ?_ hr'.2 ?_ ?_
      · rw [List.length_map] at this; exact this
      · intro x hx
        obtain ⟨x0, hx0, rfl⟩ := List.mem_map.1 hx
        rw [frzC_cells, List.length_map]; exact h2 x0 hx0
      · intro j v hv
        rw [List.getElem?_take] at hv
        split at hv <;> (try (cases hv; done))
        rw [List.getElem?_drop] at hv
        have hlt2 : off + j < ys.length := by
          have : off + j < vs.length := by
            rcases Nat.lt_or_ge (off + j) vs.length with h' | h'
            · exact h'
            · simp [List.getElem?_eq_none h'] at hv
          have := hr.1; omega
        have hcl := ((hi.heap i ys hys).2 (off + j) ys[off + j] (by simp [hlt2])).2.1
        rw [Nat.add_assoc]
        exact hb _ _ _ _ _ hcl (hc _ _ hv)
      · rw [frzC_flat]; exact frz_leaves hlf
      · rw [List.length_map]
        cases ex with
        | true => exact he' rfl
        | false => exact hl'
theorem Rep.frz {c c' : CM} {s : HS} {w : World} (hk : Knows c c') (hi : Inv c s w)
    (hb : ∀ b o i j v, c.cl b o = .blk i j → w.cell? ⟨b, o, none⟩ = some v → c'.cl b o = .imm v) (n : Nat) {v : Value} {x : AV} (h : Rep c v x) : Rep c' v (Fw.frz s.heap n x) := by
  have hC : ∀ {v : Value} {x : AV}, Rep c v x → Rep c' v (frzC (Fw.frzL s.heap n) x) := by
    intro v x h
    have hL := Rep.frzL hk hi hb n h
    cases h with
    | agg vs xs hl h lf =>
      have hr := RepL.frz_flat (c' := c') (h := s.heap) (n := n) (Rep.frzL hk hi hb n) (xs := xs) ⟨hl, h⟩
      exact .agg vs _ hr.1 hr.2 (frz_leaves lf)
    | _ => exact hL
  have hL := hC h
  cases h with
  | tup vs xs hl h =>
    refine .tup vs _ (by rw [List.length_map]; exact hl) (fun j v y hv hy => ?_)
    rw [List.getElem?_map] at hy
    cases hx : xs[j]? with
    | none => rw [hx] at hy; cases hy
    | some y0 => rw [hx] at hy; injection hy with hy; subst hy; exact hC (h j v y0 hv hx)
  | _ => exact hL

/-! values that hold no address -/
mutual
def AV.scal : AV → Bool
  | .int _ _ => true
  | .bool _ => true
  | .str _ => true
  | .nilptr => true
  | .nilsl => true
  | .nilif => true
  | .nilfn => true
  | .tup xs => scalL xs
  | .agg xs => scalL xs
  | _ => false
def scalL : List AV → Bool
  | [] => true
  | x :: xs => x.scal && scalL xs
end
theorem scalL_get {xs : List AV} (h : scalL xs = true) {j : Nat} {y : AV} (hy : xs[j]? = some y) : y.scal = true := by
  induction xs generalizing j with
  | nil => simp at hy
  | cons x xs ih =>
    simp only [scalL, Bool.and_eq_true] at h
    cases j with
    | zero => simp at hy; subst hy; exact h.1
    | succ j => exact ih h.2 (by simpa using hy)
theorem Rep.scal {c c' : CM} {v : Value} {x : AV} (h : Rep c v x) (hs : x.scal = true) : Rep c' v x := by
  induction h with
  | int k n => exact .int k n
  | bool b => exact .bool b
  | str s => exact .str s
  | nilptr => exact .nilptr
  | nilsl => exact .nilsl
  | nilif => exact .nilif
  | nilfn => exact .nilfn
  | agg vs xs hl h lf ih => exact .agg vs xs hl (fun j v y a b => ih j v y a b (scalL_get (by simpa [AV.scal] using hs) b)) lf
  | tup vs xs hl h ih => exact .tup vs xs hl (fun j v y a b => ih j v y a b (scalL_get (by simpa [AV.scal] using hs) b))
  | _ => simp [AV.scal] at hs

/-- memory in which nothing may be written -/
def HS.bare (hs : HS) : Prop := (∀ i, hs.heap i = none) ∧ ∀ k, hs.tok k = false

structure PCall (P : Program) (f : FuncId) (args : List AV) (r : AV) : Prop where
  plain : r.plain = true
  run : ∀ hs : HS, hs.bare → FCall P f args hs fun e _ => e = .ret r

/-- from outside: a call that stands alone leaves all memory as it was -/
theorem PCall.sound {P : Program} {f : FuncId} {args : List AV} {r : AV} (h : PCall P f args r) {c : CM} {hs : HS} {w : World} {vs : List Value} (hi : Inv c hs w) (hv : RepL c vs args) :
    Calls P f vs.toArray w fun e w' => ∃ v c', e = .returned v ∧ Rep c' v r ∧ Inv c' hs w' ∧ Fr c w c' w' := by
  let cp : CM := { c with cl := fun b o => match c.cl b o with | .imm v => .imm v | _ => .no, val := fun _ => false }
  let hp : HS := { hs with heap := fun _ => none, tok := fun _ => false, mp := fun _ => none }
  have hcl : ∀ b o v, cp.cl b o = .imm v ↔ c.cl b o = .imm v := by
    intro b o v
    simp only [cp]
    split <;> simp_all
  have hnw : ∀ b o, (cp.cl b o).writable = false := by
    intro b o
    simp only [cp]
    split <;> rfl
  have hip : Inv cp hp w := by
    refine ⟨hi.nh, hi.nt, fun _ => rfl, fun k hk => by simp [cp] at hk, fun b o v e => hi.imm b o v ((hcl b o v).1 e), fun b o k e => ?_, fun i ys e => by simp [hp] at e, fun b o hb => ?_, fun i ps e => by simp [hp] at e, hi.glob.to fun b o v e => (hcl b o v).2 e⟩
    · simp only [cp] at e
      split at e <;> cases e
    · simp only [cp, hi.dom b o hb]
  have hrep : ∀ v x, Rep c v x → Rep cp v x := by
    intro v x hr
    induction hr with
    | int k n => exact .int k n
    | bool b => exact .bool b
    | str s => exact .str s
    | nilptr => exact .nilptr
    | nilsl => exact .nilsl
    | nilif => exact .nilif
    | nilfn => exact .nilfn
    | ptr b o vs x hl hc h lf ih => exact .ptr b o vs x hl (fun j v e => (hcl _ _ _).2 (hc j v e)) ih lf
    | ref i off hi' => exact .ref (c := cp) i off hi'
    | msl ag sz i off len cap ex hi' hl' he' => exact .msl (c := cp) ag sz i off len cap ex hi' hl' he'
    | gsl b o cap sz n k hn hcap => exact .gsl b o cap sz n k hn ⟨hcap.1, hcap.2.1, fun e => by simp [cp] at e⟩
    | esl a => exact .esl a
    | osl ag sz i len cap k hi' hcap => exact .osl (c := cp) ag sz i len cap k hi' ⟨hcap.1, hcap.2.1, fun e => by simp [cp] at e⟩
    | nilmp => exact .nilmp
    | mp i hi' => exact .mp (c := cp) i hi'
    | sl b o cap sz xs cpp vs hl hz hc h lf hcap ih =>
      refine .sl b o cap sz xs cpp vs hl hz (fun j v e => (hcl _ _ _).2 (hc j v e)) ih lf ?_
      cases cpp with
      | exact => exact hcap
      | shared => exact hcap
      | own k => exact ⟨hcap.1, hcap.2.1, fun e => by simp [cp] at e⟩
    | agg vs xs hl h lf ih => exact .agg vs xs hl ih lf
    | tup vs xs hl h ih => exact .tup vs xs hl ih
    | fn f v1 v2 x1 x2 hl1 hl2 h1 h2 ih1 ih2 => exact .fn f v1 v2 x1 x2 hl1 hl2 ih1 ih2
    | iface t v x h ih => exact .iface t v x ih
  have hvp : RepL cp vs args := ⟨hv.1, fun j v y a b => hrep v y (hv.2 j v y a b)⟩
  refine ((h.run hp ⟨fun _ => rfl, fun _ => rfl⟩).run cp w vs hip hvp).mono ?_
  rintro e w' ⟨ae, hs', c', rfl, he, hi', hf⟩
  cases e with
  | returned v =>
    have he : Rep c' v r := he
    let c'' : CM := { c with cl := fun b o => if b < w.heap.size then c.cl b o else match c'.cl b o with | .imm v => .imm v | _ => .no }
    have himm : ∀ b o v, c'.cl b o = .imm v → c''.cl b o = .imm v := by
      intro b o v e
      simp only [c'']
      split
      · rename_i hb
        cases hc : cp.cl b o with
        | no => rw [hf.no b o hb hc] at e; cases e
        | imm u =>
          have := hf.le.imm b o u hc
          rw [this] at e
          injection e with e
          subst e
          exact (hcl b o u).1 hc
        | blk i j => have := hnw b o; rw [hc] at this; cases this
        | tok k => have := hnw b o; rw [hc] at this; cases this
      · rw [e]
    have hlt : ∀ b o, c.cl b o ≠ .no → b < w.heap.size := fun b o hn => hi.lt hn
    have hcold : ∀ b o, b < w.heap.size → c''.cl b o = c.cl b o := fun b o hb => by simp only [c'', hb, if_true]
    have hle : c.le c'' := by
      refine ⟨fun b o v e => ?_, Nat.le_refl _, fun _ _ => rfl, Nat.le_refl _, fun _ _ e => e, fun b o k _ e _ => ?_⟩
      · rw [hcold b o (hlt b o (by rw [e]; simp))]; exact e
      · rw [hcold b o (hlt b o (by rw [e]; simp))]; exact e
    have hcell : ∀ b o v, w.cell? ⟨b, o, none⟩ = some v → w'.cell? ⟨b, o, none⟩ = some v := fun b o v e => hf.cell (hnw b o) e
    have hmap : ∀ (b : Nat) es k, w.heap[b]? = some (.map es k) → w'.heap[b]? = some (.map es k) := fun b es k e => by
      have hb : b < w.heap.size := by
        rcases Nat.lt_or_ge b w.heap.size with h' | h'
        · exact h'
        · rw [Array.getElem?_eq_none h'] at e; cases e
      have := hf.blk b hb
      rw [e] at this
      simp only [FrB] at this
      obtain ⟨es', k', e1, e2⟩ := this
      obtain ⟨rfl, rfl⟩ := e2 (hnw b 0)
      exact e1
    refine ⟨v, c'', rfl, Rep.plain_mono himm he h.plain, ⟨hi.nh, hi.nt, hi.tokv, hi.vlt, ?_, ?_, ?_, ?_, hi.mapsTo hle (fun _ _ h => h) (fun b i e _ => by rw [hcold b 0 (hlt b 0 (by rw [e]; simp))]; exact e) hmap, hi.glob.mono hle⟩, ⟨hle, hf.os, hf.out, hf.size, ?_, fun b o hb e => by rw [hcold b o hb]; exact e, hf.frz⟩⟩
    · intro b o u e
      by_cases hb : b < w.heap.size
      · rw [hcold b o hb] at e
        exact hcell _ _ _ (hi.imm b o u e)
      · simp only [c'', hb, if_false] at e
        split at e
        · rename_i u' hu
          injection e with e; subst e
          exact hi'.imm b o u' hu
        · cases e
    · intro b o k e
      have hb : b < w.heap.size := by
        rcases Nat.lt_or_ge b w.heap.size with hb | hb
        · exact hb
        · simp only [c'', Nat.not_lt.2 hb, if_false] at e
          split at e <;> cases e
      rw [hcold b o hb] at e
      obtain ⟨⟨u, hu⟩, hz⟩ := hi.toks b o k e
      exact ⟨⟨u, hcell _ _ _ hu⟩, by rw [hf.frz _ (World.block_lt_of_cell? w _ hu)]; exact hz⟩
    · intro i ys e
      obtain ⟨h1, h2⟩ := hi.heap i ys e
      refine ⟨h1, fun j y hy => ?_⟩
      obtain ⟨a1, a2, a3, u, a4, a5⟩ := h2 j y hy
      refine ⟨a1, ?_, by rw [hf.frz _ (World.block_lt_of_cell? w _ a4)]; exact a3, u, hcell _ _ _ a4, a5.mono hle⟩
      rw [hcold _ _ (hlt _ ((c.loc i).2 + j) (by rw [a2]; simp))]; exact a2
    · intro b o hb
      simp only [c'', Nat.not_lt.2 (Nat.le_trans hf.size hb), if_false]
      rw [hi'.dom b o hb]
    · intro b hb
      have := hf.blk b hb
      generalize w.heap[b]? = x at this ⊢
      cases x with
      | none => exact this
      | some x =>
        cases x with
        | cells cs e fr =>
          simp only [FrB] at this ⊢
          obtain ⟨cs', h1, h2, h3⟩ := this
          exact ⟨cs', h1, h2, fun o _ => h3 o (hnw b o)⟩
        | map es k =>
          simp only [FrB] at this ⊢
          obtain ⟨es', k', h1, h2⟩ := this
          exact ⟨es', k', h1, fun _ => h2 (hnw b 0)⟩
        | _ => exact this
  | panicked chain => exact he.elim
  | outgrown => exact he.elim

/-- the same, where the call reads mutable slices, and its result holds no address -/
theorem PCall.loan {P : Program} {f : FuncId} {args : List AV} {r : AV} {n : Nat} {c : CM} {hs : HS} {w : World} {vs : List Value} (h : PCall P f (args.map (frz hs.heap n)) r) (hsc : r.scal = true) (hi : Inv c hs w) (hv : RepL c vs args) :
    Calls P f vs.toArray w fun e w' => ∃ v c', e = .returned v ∧ Rep c' v r ∧ Inv c' hs w' ∧ Fr c w c' w' := by
  let cp : CM := { c with cl := fun b o => match c.cl b o with | .imm v => .imm v | .blk _ _ => (match w.cell? ⟨b, o, none⟩ with | some v => .imm v | none => .no) | _ => .no, val := fun _ => false }
  let hp : HS := { hs with heap := fun _ => none, tok := fun _ => false, mp := fun _ => none }
  have hnw : ∀ b o, (cp.cl b o).writable = false := by
    intro b o
    simp only [cp]
    split <;> (try split) <;> rfl
  have himm : ∀ b o v, cp.cl b o = .imm v → w.cell? ⟨b, o, none⟩ = some v := by
    intro b o v e
    simp only [cp] at e
    split at e
    · rename_i u hu
      injection e with e; subst e
      exact hi.imm b o u hu
    · split at e
      · rename_i u hu
        injection e with e; subst e; exact hu
      · cases e
    · cases e
  have hip : Inv cp hp w := by
    refine ⟨hi.nh, hi.nt, fun _ => rfl, fun k hk => by simp [cp] at hk, himm, fun b o k e => ?_, fun i ys e => by simp [hp] at e, fun b o hb => ?_, fun i ps e => by simp [hp] at e, hi.glob.to fun b o v e => by simp only [cp, e]⟩
    · have := hnw b o; rw [e] at this; cases this
    · simp only [cp, hi.dom b o hb]
  have hk : Knows c cp := ⟨fun b o v e => by simp only [cp, e], rfl, fun _ => rfl, rfl, fun k e => by simp [cp] at e⟩
  have hb : ∀ b o i j v, c.cl b o = .blk i j → w.cell? ⟨b, o, none⟩ = some v → cp.cl b o = .imm v := fun b o i j v e e' => by simp only [cp, e, e']
  have hvp : RepL cp vs (args.map (frz hs.heap n)) := by
    refine ⟨by rw [List.length_map]; exact hv.1, fun j v y hv' hy => ?_⟩
    rw [List.getElem?_map] at hy
    cases hx : args[j]? with
    | none => rw [hx] at hy; cases hy
    | some y0 => rw [hx] at hy; injection hy with hy; subst hy; exact Rep.frz hk hi hb n (hv.2 j v y0 hv' hx)
  refine ((h.run hp ⟨fun _ => rfl, fun _ => rfl⟩).run cp w vs hip hvp).mono ?_
  rintro e w' ⟨ae, hs', c', rfl, he, hi', hf⟩
  cases e with
  | returned v =>
    have he : Rep c' v r := he
    have hcell : ∀ b o v, w.cell? ⟨b, o, none⟩ = some v → w'.cell? ⟨b, o, none⟩ = some v := fun b o v e => hf.cell (hnw b o) e
    have hmap : ∀ (b : Nat) es k, w.heap[b]? = some (.map es k) → w'.heap[b]? = some (.map es k) := fun b es k e => by
      have hb : b < w.heap.size := by
        rcases Nat.lt_or_ge b w.heap.size with h' | h'
        · exact h'
        · rw [Array.getElem?_eq_none h'] at e; cases e
      have := hf.blk b hb
      rw [e] at this
      simp only [FrB] at this
      obtain ⟨es', k', e1, e2⟩ := this
      obtain ⟨rfl, rfl⟩ := e2 (hnw b 0)
      exact e1
    refine ⟨v, c, rfl, he.scal hsc, ⟨hi.nh, hi.nt, hi.tokv, hi.vlt, fun b o v e => hcell _ _ _ (hi.imm b o v e), ?_, ?_, fun b o hb => hi.dom b o (Nat.le_trans hf.size hb), hi.mapsTo (.refl c) (fun _ _ h => h) (fun _ _ e _ => e) hmap, hi.glob⟩, ⟨.refl c, hf.os, hf.out, hf.size, ?_, fun b o hb e => e, hf.frz⟩⟩
    · intro b o k e
      obtain ⟨⟨u, hu⟩, hz⟩ := hi.toks b o k e
      exact ⟨⟨u, hcell _ _ _ hu⟩, by rw [hf.frz _ (World.block_lt_of_cell? w _ hu)]; exact hz⟩
    · intro i ys e
      obtain ⟨h1, h2⟩ := hi.heap i ys e
      refine ⟨h1, fun j y hy => ?_⟩
      obtain ⟨a1, a2, a3, u, a4, a5⟩ := h2 j y hy
      exact ⟨a1, a2, by rw [hf.frz _ (World.block_lt_of_cell? w _ a4)]; exact a3, u, hcell _ _ _ a4, a5⟩
    · intro b hb
      have := hf.blk b hb
      generalize w.heap[b]? = x at this ⊢
      cases x with
      | none => exact this
      | some x =>
        cases x with
        | cells cs e fr =>
          simp only [FrB] at this ⊢
          obtain ⟨cs', h1, h2, h3⟩ := this
          exact ⟨cs', h1, h2, fun o _ => h3 o (hnw b o)⟩
        | map es k =>
          simp only [FrB] at this ⊢
          obtain ⟨es', k', h1, h2⟩ := this
          exact ⟨es', k', h1, fun _ => h2 (hnw b 0)⟩
        | _ => exact this
  | panicked chain => exact he.elim
  | outgrown => exact he.elim

/-- a call's mutable memory, once it has returned, lasts: its slices read by their content -/
theorem FCall.freeze {P : Program} {f : FuncId} {args : List AV} {hs : HS} {r : AV} {n : Nat} (h : FCall P f args hs fun e hs' => ∃ x, e = .ret x ∧ frz hs'.heap n x = r) : FCall P f args hs fun e _ => e = .ret r := by
  refine ⟨h.ok, fun c w vs hi hv => (h.run c w vs hi hv).mono ?_⟩
  rintro e w' ⟨ae, hs', c', ⟨x, rfl, rfl⟩, he, h2, h3⟩
  cases e with
  | returned v =>
    have he : Rep c' v x := he
    let c'' : CM := { c' with cl := fun b o => match c'.cl b o with | .blk _ _ => (match w'.cell? ⟨b, o, none⟩ with | some v => .imm v | none => .no) | x => x }
    have himm : ∀ b o v, c'.cl b o = .imm v → c''.cl b o = .imm v := fun b o v e => by simp only [c'', e]
    have htok : ∀ b o k, c'.cl b o = .tok k → c''.cl b o = .tok k := fun b o v e => by simp only [c'', e]
    have hk : Knows c' c'' := ⟨himm, rfl, fun _ => rfl, rfl, fun k e => ⟨e, fun b o e' => htok b o k e'⟩⟩
    have hb : ∀ b o i j v, c'.cl b o = .blk i j → w'.cell? ⟨b, o, none⟩ = some v → c''.cl b o = .imm v := fun b o i j v e e' => by simp only [c'', e, e']
    refine ⟨.ret _, { hs' with heap := fun _ => none, mp := fun _ => none }, c'', rfl, Rep.frz hk h2 hb n he, ⟨h2.nh, h2.nt, h2.tokv, h2.vlt, ?_, ?_, fun i ys e => by simp at e, ?_, fun i ps e => by simp at e, h2.glob.to himm⟩,
      ⟨⟨fun b o v e => himm _ _ _ (h3.le.imm b o v e), h3.le.nh, h3.le.loc, h3.le.nt, h3.le.val, fun b o k hk e e' => htok _ _ _ (h3.le.tok b o k hk e e')⟩, h3.os, h3.out, h3.size, h3.blk, ?_, h3.frz⟩⟩
    · intro b o u e
      simp only [c''] at e
      split at e
      · split at e
        · rename_i u' hu
          injection e with e; subst e; exact hu
        · cases e
      · exact h2.imm b o u e
    · intro b o k e
      simp only [c''] at e
      split at e
      · split at e <;> cases e
      · exact h2.toks b o k e
    · intro b o hb'
      simp only [c'', h2.dom b o hb']
    · intro b o hb' e
      simp only [c'', h3.no b o hb' e]
  | panicked ch => exact he.elim
  | outgrown => exact he.elim
end Fw
set_option linter.unusedVariables false
set_option linter.unusedSimpArgs false
namespace Fw
open Go

/-- the kind of keys: 0 integers, 1 strings, n + 10 rows of n integers, 2 all else -/
def keyKd (P : Program) (k : TypeId) : Nat :=
  match P.underlying k with
  | some (.int _) => 0
  | some .string => 1
  | some (.array n e) => match P.underlying e, P.info? e with
    | some (.int _), some i => if i.size = 1 then n + 10 else 2
    | _, _ => 2
  | _ => 2
theorem keyKd_inv {P : Program} {k : TypeId} : (keyKd P k = 0 ∧ ∃ q, P.underlying k = some (.int q)) ∨ (keyKd P k = 1 ∧ P.underlying k = some .string) ∨
    (∃ n e q i, keyKd P k = n + 10 ∧ P.underlying k = some (.array n e) ∧ P.underlying e = some (.int q) ∧ P.info? e = some i ∧ i.size = 1) ∨ keyKd P k = 2 := by
  unfold keyKd
  split
  · rename_i q h; exact .inl ⟨rfl, q, h⟩
  · rename_i h; exact .inr (.inl ⟨rfl, h⟩)
  · rename_i n e h
    split
    · rename_i q i h1 h2
      split
      · rename_i h3; exact .inr (.inr (.inl ⟨n, e, q, i, rfl, h, h1, h2, h3⟩))
      · exact .inr (.inr (.inr rfl))
    · exact .inr (.inr (.inr rfl))
  · exact .inr (.inr (.inr rfl))
def akeq (kd : Nat) : AV → AV → Option Bool
  | .int k a, .int k' b => if kd = 0 ∧ k = k' then some (decide (a = b)) else none
  | .str a, .str b => if kd = 1 then some (decide (a = b)) else none
  | .agg xs, .agg ys => if kd = xs.length + 10 then aeqInts xs ys else none
  | _, _ => none
theorem beq_bytes (a b : ByteArray) : (a == b) = decide (a = b) := by
  rw [beq_toListBytes]
  by_cases h : a = b
  · subst h
    rw [decide_eq_true rfl, beq_iff_eq]
  · rw [decide_eq_false h]
    exact beq_eq_false_iff_ne.2 fun e => h (toList_inj e)
theorem akeq_inv {P : Program} {k : TypeId} {c : CM} {u v : Value} {x y : AV} {b : Bool} (hu : Rep c u x) (hv : Rep c v y) (h : akeq (keyKd P k) x y = some b) :
    (∃ q k0 a a', P.underlying k = some (.int q) ∧ u = .int k0 a ∧ v = .int k0 a' ∧ b = decide (a = a')) ∨
    (∃ a a', P.underlying k = some .string ∧ u = .string a ∧ v = .string a' ∧ b = decide (a = a')) ∨
    (∃ n e q i vs us xs ys, P.underlying k = some (.array n e) ∧ P.underlying e = some (.int q) ∧ P.info? e = some i ∧ i.size = 1 ∧ xs.length = n ∧ u = .agg vs.toArray ∧ v = .agg us.toArray ∧ RepL c vs xs ∧ RepL c us ys ∧ aeqInts xs ys = some b) := by
  cases hu <;> cases hv <;> simp only [akeq] at h <;> (try (cases h; done))
  case int.int k0 a k1 a' =>
    split at h <;> (try (cases h; done))
    rename_i hk
    obtain ⟨hk, rfl⟩ := hk
    injection h with h; subst h
    rcases keyKd_inv (P := P) (k := k) with ⟨_, q, hq⟩ | ⟨h1, _⟩ | ⟨n, e, q, i, h1, _⟩ | h1 <;> (try omega)
    exact .inl ⟨q, k0, a, a', hq, rfl, rfl, rfl⟩
  case str.str a a' =>
    split at h <;> (try (cases h; done))
    rename_i hk
    injection h with h; subst h
    rcases keyKd_inv (P := P) (k := k) with ⟨h1, _⟩ | ⟨_, hq⟩ | ⟨n, e, q, i, h1, _⟩ | h1 <;> (try omega)
    exact .inr (.inl ⟨a, a', hq, rfl, rfl, rfl⟩)
  case agg.agg vs xs hl hr lf us ys hl' hr' lf' =>
    split at h <;> (try (cases h; done))
    rename_i hk
    rcases keyKd_inv (P := P) (k := k) with ⟨h1, _⟩ | ⟨h1, _⟩ | ⟨n, e, q, i, h1, h2, h3, h4, h5⟩ | h1 <;> (try omega)
    exact .inr (.inr ⟨n, e, q, i, vs, us, xs, ys, h2, h3, h4, h5, by omega, rfl, rfl, ⟨hl, hr⟩, ⟨hl', hr'⟩, h⟩)
theorem akeq_run {P : Program} {k : TypeId} {c : CM} {u v : Value} {x y : AV} {b : Bool} (hu : Rep c u x) (hv : Rep c v y) (h : akeq (keyKd P k) x y = some b) (w : World) : (Op.equal k u v).run P w = .ok b w := by
  rcases akeq_inv hu hv h with ⟨q, k0, a, a', h1, rfl, rfl, rfl⟩ | ⟨a, a', h1, rfl, rfl, rfl⟩ | ⟨n, e, q, i, vs, us, xs, ys, h2, h3, h4, h5, h6, rfl, rfl, r1, r2, h7⟩
  · unfold Op.equal Op.maxDepth
    rw [show (10000 : Nat) = 9999 + 1 from rfl, run_equalIn_int w 9999 k k0 q a a' h1]
    congr 1
  · unfold Op.equal Op.maxDepth
    rw [show (10000 : Nat) = 9999 + 1 from rfl, Op.equalIn]
    simp only [Sem.run_bind, run_underlying h1, Result.andThen_ok, Sem.run_pure, beq_bytes]
  · exact run_equal_array h2 h3 h4 h5 r1 r2 h7 h6 w
theorem aeqInts_vals {c : CM} : ∀ {vs us : List Value} {xs ys : List AV}, RepL c vs xs → RepL c us ys → aeqInts xs ys = some true → vs = us ∧ ∀ v ∈ vs, ∃ k a, v = .int k a
  | vs, us, [], ys, h1, h2, h => by
    obtain ⟨rfl, _⟩ := aeqInts_nil h
    rw [h1.nil_inv, h2.nil_inv]
    exact ⟨rfl, fun v hv => by simp at hv⟩
  | vs, us, x :: xs, ys, h1, h2, h => by
    obtain ⟨k, a, b', ys', r, rfl, rfl, hr, hb⟩ := aeqInts_cons h
    obtain ⟨v, vs', rfl, hv, hvs⟩ := h1.cons_inv
    obtain ⟨u, us', rfl, hu, hus⟩ := h2.cons_inv
    cases hv; cases hu
    have hb := hb.symm
    rw [Bool.and_eq_true, decide_eq_true_eq] at hb
    obtain ⟨rfl, rfl⟩ := hb
    obtain ⟨rfl, h4⟩ := aeqInts_vals hvs hus hr
    exact ⟨rfl, fun v hv => by
      rcases List.mem_cons.1 hv with rfl | hv
      · exact ⟨k, a, rfl⟩
      · exact h4 v hv⟩
theorem akeq_stays {P : Program} {k : TypeId} {c : CM} {u v : Value} {x y : AV} (hu : Rep c u x) (hv : Rep c v y) (h : akeq (keyKd P k) x y = some true) (w : World) : (Instr.keyThatStays v u).run P w = .ok u w := by
  have hs : Instr.sameBits 10000 v u = true := by
    rcases akeq_inv hu hv h with ⟨q, k0, a, a', h1, rfl, rfl, hb⟩ | ⟨a, a', h1, rfl, rfl, hb⟩ | ⟨n, e, q, i, vs, us, xs, ys, h2, h3, h4, h5, h6, rfl, rfl, r1, r2, h7⟩
    · have : a = a' := by simpa using hb
      subst this
      simp [Instr.sameBits]
    · have : a = a' := by simpa using hb
      subst this
      simp [Instr.sameBits, beq_bytes]
    · obtain ⟨rfl, hi⟩ := aeqInts_vals r1 r2 h7
      rw [show (10000 : Nat) = 9999 + 1 from rfl]
      simp only [Instr.sameBits, beq_self_eq_true, Bool.true_and, List.all_eq_true]
      rintro ⟨p, q⟩ hpq
      have : p = q ∧ p ∈ vs := by
        have : ∀ l : List Value, (p, q) ∈ l.zip l → p = q ∧ p ∈ l := by
          intro l
          induction l with
          | nil => simp
          | cons a l ih =>
            intro h
            simp only [List.zip_cons_cons, List.mem_cons, Prod.mk.injEq] at h
            rcases h with ⟨rfl, rfl⟩ | h
            · simp
            · obtain ⟨g1, g2⟩ := ih h
              exact ⟨g1, by simp [g2]⟩
        exact this vs (by simpa using hpq)
      obtain ⟨rfl, hp⟩ := this
      obtain ⟨k1, a1, rfl⟩ := hi _ hp
      simp [Instr.sameBits]
  simp [Instr.keyThatStays, hs]
/-- that a value is a key of its type -/
def akey (kd : Nat) : AV → Bool
  | .int _ _ => kd == 0
  | .str _ => kd == 1
  | .agg xs => kd == xs.length + 10 && (aeqInts xs xs).isSome
  | _ => false
theorem aeqInts_self : ∀ {xs : List AV} {b : Bool}, aeqInts xs xs = some b → ∀ j, j < xs.length → ∃ k a, xs[j]? = some (.int k a)
  | xs, b, h, j, hj => by
    obtain ⟨_, h2, _⟩ := aeqInts_get h
    obtain ⟨k, a, b', h1, _⟩ := h2 j hj
    exact ⟨k, a, h1⟩
theorem run_forIn_unit {P : Program} {α : Type} (f : α → Unit → Sem (ForInStep Unit)) : ∀ (l : List α) (w : World),
    (∀ i ∈ l, ∀ w, (f i ()).run P w = .ok (.yield ()) w) → (forIn l () f).run P w = .ok () w
  | [], w, _ => by simp
  | a :: l, w, hf => by
    simp only [List.forIn_cons, Sem.run_bind, hf a (by simp) w, Result.andThen_ok]
    exact run_forIn_unit f l w fun i hi => hf i (by simp [hi])
theorem akey_check {P : Program} {k : TypeId} {c : CM} {u : Value} {x : AV} (hu : Rep c u x) (h : akey (keyKd P k) x = true) (em : Bool) (w : World) : (Instr.checkKey em 10000 k u).run P w = .ok () w := by
  rw [show (10000 : Nat) = 9998 + 1 + 1 from rfl, Instr.checkKey]
  cases hu <;> simp only [akey] at h <;> (try (cases h; done))
  case int k0 a =>
    rcases keyKd_inv (P := P) (k := k) with ⟨h1, q, hq⟩ | ⟨h1, _⟩ | ⟨n, e, q, i, h1, _⟩ | h1 <;> (try (simp [h1] at h; done))
    simp [run_underlying hq]
  case str a =>
    rcases keyKd_inv (P := P) (k := k) with ⟨h1, _⟩ | ⟨h1, hq⟩ | ⟨n, e, q, i, h1, _⟩ | h1 <;> (try (simp [h1] at h; done))
    simp [run_underlying hq]
  case agg vs xs hl hr lf =>
    rw [Bool.and_eq_true, beq_iff_eq] at h
    obtain ⟨hk, hs⟩ := h
    rcases keyKd_inv (P := P) (k := k) with ⟨h1, _⟩ | ⟨h1, _⟩ | ⟨n, e, q, i, h1, h2, h3, h4, h5⟩ | h1 <;> (try omega)
    have hn : xs.length = n := by omega
    obtain ⟨b, hb⟩ := Option.isSome_iff_exists.1 hs
    have hagg : ∀ w, (isAgg e).run P w = .ok false w := fun w => by simp [isAgg, run_underlying h3]
    have hso : ∀ w, (Go.sizeOf e).run P w = .ok 1 w := fun w => by simp [Go.sizeOf, typeInfo, h4, h5]
    simp only [Sem.run_bind, run_underlying h2, Result.andThen_ok]
    rw [Std.Legacy.Range.forIn_eq_forIn_range']
    have hsz : (Std.Legacy.Range.size { start := 0, stop := n, step := 1, step_pos := Nat.one_pos }) = n := by simp [Std.Legacy.Range.size]
    rw [hsz]
    simp only
    rw [run_forIn_unit]
    · simp
    intro j hj w
    have hj : j < n := by simpa [List.mem_range'_1] using hj
    obtain ⟨k1, a1, e1⟩ := aeqInts_self hb j (by omega)
    obtain ⟨v, hv1, hv2⟩ := RepL.get ⟨hl, hr⟩ e1
    cases hv2
    have p1 : (part e vs.toArray (j * 1)).run P w = .ok (.int k1 a1) w := by simp [part, hagg, hv1]
    simp only [Sem.run_bind, hso, Result.andThen_ok, p1]
    rw [Instr.checkKey]
    simp [run_underlying h3]

/-- the entry with a key: its place and value; none: that the keys cannot be compared -/
def alook (kd : Nat) (k : AV) : List (AV × AV) → Nat → Option (Option (Nat × AV))
  | [], _ => some none
  | p :: ps, i => match akeq kd k p.1 with
    | some true => some (some (i, p.2))
    | some false => alook kd k ps (i + 1)
    | none => none
/-- what a search for a key finds, in the model -/
def Found (c : CM) (kd : Nat) (ka : AV) (es : List MapEntry) (ps : List (AV × AV)) (i : Nat) : Option (Nat × AV) → Option (Nat × Value) → Prop
  | none, r => r = none
  | some (j, y), r => ∃ e p, i ≤ j ∧ es[j - i]? = some e ∧ ps[j - i]? = some p ∧ y = p.2 ∧ r = some (j, e.val) ∧ akeq kd ka p.1 = some true
theorem Found.step {c : CM} {kd : Nat} {ka : AV} {e : MapEntry} {es : List MapEntry} {p : AV × AV} {ps : List (AV × AV)} {i : Nat} {r : Option (Nat × AV)} {r' : Option (Nat × Value)} (h : Found c kd ka es ps (i + 1) r r') : Found c kd ka (e :: es) (p :: ps) i r r' := by
  cases r with
  | none => exact h
  | some jy =>
    obtain ⟨e', p', h1, h2, h3, h4⟩ := h
    refine ⟨e', p', by omega, ?_, ?_, h4⟩
    · rw [show jy.1 - i = (jy.1 - (i + 1)) + 1 by omega]; simpa using h2
    · rw [show jy.1 - i = (jy.1 - (i + 1)) + 1 by omega]; simpa using h3
theorem RepM.cons_inv {c : CM} {es : List MapEntry} {p : AV × AV} {ps : List (AV × AV)} (h : RepM c es (p :: ps)) : ∃ e es', es = e :: es' ∧ Rep c e.key p.1 ∧ Rep c e.val p.2 ∧ RepM c es' ps := by
  obtain ⟨hl, h⟩ := h
  cases es with
  | nil => simp at hl
  | cons e es => exact ⟨e, es, rfl, (h 0 e p rfl rfl).1, (h 0 e p rfl rfl).2, by simpa using hl, fun j e p h1 h2 => h (j + 1) e p (by simpa using h1) (by simpa using h2)⟩
theorem find_run {P : Program} {k : TypeId} {c : CM} {u : Value} {ka : AV} (hu : Rep c u ka) (hka : akey (keyKd P k) ka = true) {es : List MapEntry} {ps : List (AV × AV)} (hr : RepM c es ps) {r : Option (Nat × AV)} (h : alook (keyKd P k) ka ps 0 = some r) (w : World) :
    ∃ r', (Instr.findKey k u es).run P w = .ok r' w ∧ Found c (keyKd P k) ka es ps 0 r r' := by
  have asking : ∀ (ps : List (AV × AV)) (es : List MapEntry) (i : Nat), RepM c es ps → alook (keyKd P k) ka ps i = some r → ∃ r', (Instr.findAsking k u es i).run P w = .ok r' w ∧ Found c (keyKd P k) ka es ps i r r' := by
    intro ps
    induction ps with
    | nil =>
      intro es i hr h
      have : es = [] := List.length_eq_zero_iff.1 hr.1
      subst this
      simp only [alook, Option.some.injEq] at h
      subst h
      exact ⟨none, by simp [Instr.findAsking], rfl⟩
    | cons p ps ih =>
      intro es i hr h
      obtain ⟨e, es', rfl, r1, r2, hr'⟩ := hr.cons_inv
      simp only [alook] at h
      cases hq : akeq (keyKd P k) ka p.1 with
      | none => rw [hq] at h; cases h
      | some b =>
        have hrun := akeq_run hu r1 hq w
        rw [hq] at h
        cases b with
        | true =>
          injection h with h; subst h
          exact ⟨some (i, e.val), by simp [Instr.findAsking, hrun], e, p, Nat.le_refl _, by simp, by simp, rfl, rfl, hq⟩
        | false =>
          obtain ⟨r', h1, h2⟩ := ih es' (i + 1) hr' h
          exact ⟨r', by simp [Instr.findAsking, hrun, h1], h2.step⟩
  have nowf : ∀ d, P.underlying k = some d → (∀ v y b, Rep c v y → akeq (keyKd P k) ka y = some b → Instr.sameNow d u v = some b) → ∃ r', (Instr.findKey k u es).run P w = .ok r' w ∧ Found c (keyKd P k) ka es ps 0 r r' := by
    intro d hd hsame
    have now : ∀ (ps : List (AV × AV)) (es : List MapEntry) (i : Nat), RepM c es ps → alook (keyKd P k) ka ps i = some r → ∃ r', Instr.findNow d u es i = some r' ∧ Found c (keyKd P k) ka es ps i r r' := by
      intro ps
      induction ps with
      | nil =>
        intro es i hr h
        have : es = [] := List.length_eq_zero_iff.1 hr.1
        subst this
        simp only [alook, Option.some.injEq] at h
        subst h
        exact ⟨none, rfl, rfl⟩
      | cons p ps ih =>
        intro es i hr h
        obtain ⟨e, es', rfl, r1, r2, hr'⟩ := hr.cons_inv
        simp only [alook] at h
        cases hq : akeq (keyKd P k) ka p.1 with
        | none => rw [hq] at h; cases h
        | some b =>
          have hs := hsame _ _ _ r1 hq
          rw [hq] at h
          cases b with
          | true =>
            injection h with h; subst h
            exact ⟨some (i, e.val), by simp [Instr.findNow, hs], e, p, Nat.le_refl _, by simp, by simp, rfl, rfl, hq⟩
          | false =>
            obtain ⟨r', h1, h2⟩ := ih es' (i + 1) hr' h
            exact ⟨r', by simp [Instr.findNow, hs, h1], h2.step⟩
    obtain ⟨r', h1, h2⟩ := now ps es 0 hr h
    exact ⟨r', MapKept.run_findKey hd h1, h2⟩
  cases hu <;> simp only [akey] at hka <;> (try (cases hka; done))
  case int k0 a =>
    rcases keyKd_inv (P := P) (k := k) with ⟨h1, q, hq⟩ | ⟨h1, _⟩ | ⟨n, e, q, i, h1, _⟩ | h1 <;> (try (simp [h1] at hka; done))
    refine nowf _ hq fun v y b hv hb => ?_
    cases hv <;> simp only [akeq] at hb <;> (try (cases hb; done))
    split at hb <;> (try (cases hb; done))
    rename_i hk
    obtain ⟨_, rfl⟩ := hk
    injection hb with hb; subst hb
    simp only [Instr.sameNow, if_true]
    congr 1
  case str a =>
    rcases keyKd_inv (P := P) (k := k) with ⟨h1, _⟩ | ⟨h1, hq⟩ | ⟨n, e, q, i, h1, _⟩ | h1 <;> (try (simp [h1] at hka; done))
    refine nowf _ hq fun v y b hv hb => ?_
    cases hv <;> simp only [akeq] at hb <;> (try (cases hb; done))
    rw [if_pos h1] at hb
    injection hb with hb; subst hb
    simp only [Instr.sameNow, beq_bytes]
  case agg vs xs hl hr' lf =>
    rw [Bool.and_eq_true, beq_iff_eq] at hka
    obtain ⟨hk, hs⟩ := hka
    rcases keyKd_inv (P := P) (k := k) with ⟨h1, _⟩ | ⟨h1, _⟩ | ⟨n, e, q, i, h1, h2, h3, h4, h5⟩ | h1 <;> (try omega)
    obtain ⟨r', g1, g2⟩ := asking ps es 0 hr h
    refine ⟨r', ?_, g2⟩
    rw [run_findKey_eq w (by rw [h2])]
    exact g1

/-! operations on maps -/
def aments (mp : Nat → Option (List (AV × AV))) : AV → Option (List (AV × AV))
  | .nilmp => some []
  | .mp i => mp i
  | _ => none
def amlook (kd : Nat) (ck : Bool) (z : AV) (mp : Nat → Option (List (AV × AV))) (m k : AV) : Option AV :=
  match aments mp m, akey kd k with
  | some ps, true => match alook kd k ps 0 with
    | some (some (_, v)) => some (if ck = true then .tup [v, .bool true] else v)
    | some none => some (if ck = true then .tup [z, .bool false] else z)
    | none => none
  | _, _ => none
def amput (kd : Nat) (k v : AV) (ps : List (AV × AV)) : Option (List (AV × AV)) :=
  match alook kd k ps 0 with
  | some (some (i, _)) => some (ps.set i (k, v))
  | some none => some (ps ++ [(k, v)])
  | none => none
def amupd (kd : Nat) (s : HS) : AV → AV → AV → Option HS
  | .mp i, k, v => match s.mp i, akey kd k && v.sto with
    | some ps, true => (amput kd k v ps).map fun ps' => { s with mp := fun j => if j = i then some ps' else s.mp j }
    | _, _ => none
  | _, _, _ => none
def amlen (mp : Nat → Option (List (AV × AV))) (m : AV) : Option AV := (aments mp m).map fun ps => .int .i64 ps.length

theorem sound_mlook {P : Program} {t k e : TypeId} {i : TypeInfo} {zv : Value} {z : AV} {ck : Bool} (ht : P.underlying t = some (.map k e)) (hi : P.info? e = some i) (hz : i.zero = some zv) {c : CM} (hzr : Rep c zv z) {s : HS} {w : World} (h : Inv c s w)
    {mv kv : Value} {m ka x : AV} (hm : Rep c mv m) (hk : Rep c kv ka) (hx : amlook (keyKd P k) ck z s.mp m ka = some x) : DoneS P c w (Instr.lookup t mv kv ck) x s := by
  unfold amlook at hx
  split at hx <;> (try (cases hx; done))
  rename_i ps hps hka
  have hzero : ∀ w : World, (zeroValue e).run P w = .ok zv w := fun w => by simp [zeroValue, typeInfo, hi, hz]
  obtain ⟨es, hes, hrep⟩ : ∃ es : Array MapEntry, ((∃ r ck, mv = .map (some r) ∧ w.heap[r]? = some (.map es ck)) ∨ mv = .map none ∧ es = #[]) ∧ RepM c es.toList ps := by
    cases hm <;> simp only [aments] at hps <;> (try (cases hps; done))
    case nilmp =>
      injection hps with hps; subst hps
      exact ⟨#[], .inr ⟨rfl, rfl⟩, rfl, fun j e p h => by simp at h⟩
    case mp j hj =>
      obtain ⟨_, _, es, ck, g1, g2⟩ := h.maps j ps hps
      exact ⟨es, .inl ⟨_, ck, rfl, g1⟩, g2.rm⟩
  cases hl : alook (keyKd P k) ka ps 0 with
  | none => rw [hl] at hx; cases hx
  | some r =>
    obtain ⟨r', hf, hF⟩ := find_run hk hka hrep hl w
    have hck := akey_check hk hka es.isEmpty w
    rw [hl] at hx
    cases r with
    | none =>
      have : r' = none := hF
      subst this
      injection hx with hx; subst hx
      refine .pure h (v := if ck = true then .tuple #[zv, .bool false] else zv) ?_ ?_
      · rcases hes with ⟨r, ck, rfl, hb⟩ | ⟨rfl, rfl⟩
        · simp [Instr.lookup, run_underlying ht, MapKept.run_getObj_map hb, hck, hf, hzero]
        · simp [Instr.lookup, run_underlying ht, hck, hf, hzero]
          simp at hck hf
          simp [hck, hf, hzero]
      · cases ck
        · exact hzr
        · exact Rep.tup [zv, .bool false] [z, .bool false] rfl (fun j v y h1 h2 => by
            match j with
            | 0 => simp at h1 h2; subst h1; subst h2; exact hzr
            | 1 => simp at h1 h2; subst h1; subst h2; exact .bool _
            | j + 2 => simp at h1)
    | some jy =>
      obtain ⟨j, y⟩ := jy
      obtain ⟨e0, p0, g0, g1, g2, rfl, rfl, g5⟩ := hF
      injection hx with hx; subst hx
      have hrv := (hrep.2 _ _ _ g1 g2).2
      refine .pure h (v := if ck = true then .tuple #[e0.val, .bool true] else e0.val) ?_ ?_
      · rcases hes with ⟨r, ck, rfl, hb⟩ | ⟨rfl, rfl⟩
        · simp [Instr.lookup, run_underlying ht, MapKept.run_getObj_map hb, hck, hf]
        · simp at g1
      · cases ck
        · exact hrv
        · exact Rep.tup [e0.val, .bool true] [p0.2, .bool true] rfl (fun j v y h1 h2 => by
            match j with
            | 0 => simp at h1 h2; subst h1; subst h2; exact hrv
            | 1 => simp at h1 h2; subst h1; subst h2; exact .bool _
            | j + 2 => simp at h1)
theorem sound_mkmap {P : Program} {t : TypeId} {c : CM} {s : HS} {w : World} (h : Inv c s w) : DoneS P c w (Instr.makeMap t none) (.mp s.nh) { s with mp := fun j => if j = s.nh then some [] else s.mp j, nh := s.nh + 1 } := by
  let g : Nat → Cl := fun o => if o = 0 then .blk c.nh 0 else .no
  let c' : CM := { c with cl := c.at w.heap.size g, nh := c.nh + 1, loc := fun i => if i = c.nh then (w.heap.size, 0) else c.loc i }
  have hle : c.le c' := CM.le_at h c' g rfl (by simp [c']) (fun i hi => by simp [c', Nat.ne_of_lt hi]) (Nat.le_refl _) (fun _ _ e => e)
  have hcell : ∀ b o, (w.alloc (.map #[] 0)).cell? ⟨b, o, none⟩ = w.cell? ⟨b, o, none⟩ := fun b o => by
    by_cases hb : b = w.heap.size
    · subst hb
      rw [wcell_none (Nat.le_refl _)]
      unfold World.cell?
      rw [alloc_heap]; simp
    · exact World.cell?_alloc_old w _ _ (by simpa using hb)
  have hfz : ∀ a, (w.alloc (.map #[] 0)).frozen? a = w.frozen? a := fun a => by
    by_cases hb : a.block = w.heap.size
    · unfold World.frozen?; rw [alloc_heap, hb]; simp
    · exact World.frozen?_alloc_old w _ _ hb
  refine ⟨.map (some w.heap.size), w.alloc (.map #[] 0), c', by simp [Instr.makeMap], ?_, ⟨by simp [c', h.nh], h.nt, h.tokv, h.vlt, ?_, ?_, ?_, ?_, ?_, h.glob.mono hle⟩, ⟨hle, rfl, rfl, by simp, ?_, ?_, fun a _ => hfz a⟩⟩
  · have := Rep.mp (c := c') c.nh (by simp [c'])
    simp only [c', if_true] at this
    rw [h.nh]; exact this
  · intro b o v e
    rw [hcell]
    by_cases hb : b = w.heap.size
    · subst hb
      simp only [c', CM.at_eq, g] at e
      split at e <;> cases e
    · simp only [c', CM.at_ne _ _ _ hb] at e
      exact h.imm b o v e
  · intro b o k e
    rw [hcell, hfz]
    by_cases hb : b = w.heap.size
    · subst hb
      simp only [c', CM.at_eq, g] at e
      split at e <;> cases e
    · simp only [c', CM.at_ne _ _ _ hb] at e
      exact h.toks b o k e
  · intro i ys hi
    obtain ⟨h1, h2⟩ := h.heap i ys hi
    refine ⟨by simp [c']; omega, fun j y hy => ?_⟩
    obtain ⟨a1, a2, a3, v, a4, a5⟩ := h2 j y hy
    rw [hle.loc i h1]
    refine ⟨a1, ?_, by rw [hfz]; exact a3, v, by rw [hcell]; exact a4, a5.mono hle⟩
    simp only [c', CM.at_ne _ _ _ (h.ne (o := (c.loc i).2 + j) (by rw [a2]; simp))]
    exact a2
  · intro b o hb
    simp at hb
    simp only [c', CM.at_ne _ _ _ (show b ≠ w.heap.size by omega)]
    exact h.dom b o (by omega)
  · intro i ps hi
    simp only at hi
    split at hi
    · rename_i he
      injection hi with hi; subst hi
      rw [h.nh] at he
      subst he
      refine ⟨by simp [c'], ?_, #[], 0, ?_, ⟨⟨rfl, fun j e p h => by simp at h⟩, by simp, by simp⟩⟩
      · simp [c', CM.at_eq, g]
      · simp [c', alloc_heap]
    · obtain ⟨h1, h2, es, ck, h3, h4⟩ := h.maps i ps hi
      rw [hle.loc i h1]
      refine ⟨by simp [c']; omega, ?_, es, ck, map_alloc h3, h4.mono hle⟩
      simp only [c', CM.at_ne _ _ _ (h.ne (o := 0) (by rw [h2]; simp))]
      exact h2
  · intro b hb
    have : (w.alloc (.map #[] 0)).heap[b]? = w.heap[b]? := by
      rw [alloc_heap]; simp [Array.getElem?_push, Nat.ne_of_lt hb]
    rw [this]; exact .refl _ _ _
  · intro b o hb hno
    simp only [c', CM.at_ne _ _ _ (Nat.ne_of_lt hb)]; exact hno
/-- a map in place of a map -/
theorem Inv.setMap {c : CM} {s : HS} {w : World} (h : Inv c s w) {i : Nat} {ps ps' : List (AV × AV)} (hi : s.mp i = some ps) (es' : Array MapEntry) (ck' : Nat) (hr : RepE c es' ck' ps') :
    Inv c { s with mp := fun j => if j = i then some ps' else s.mp j } { w with heap := w.heap.setIfInBounds (c.loc i).1 (.map es' ck') } ∧ Fr c w c { w with heap := w.heap.setIfInBounds (c.loc i).1 (.map es' ck') } := by
  obtain ⟨h1, h2, es, ck, h3, h4⟩ := h.maps i ps hi
  generalize hb : (c.loc i).1 = b at *
  obtain ⟨hs1, hs2⟩ := MapKept.heap_set (o' := .map es' ck') h3
  have hcell : ∀ a : Addr, ({ w with heap := w.heap.setIfInBounds b (.map es' ck') } : World).cell? a = w.cell? a := fun a => by
    unfold World.cell?
    simp only
    by_cases hab : a.block = b
    · rw [hab, hs1, h3]
    · rw [hs2 _ hab]
  have hfz : ∀ a : Addr, ({ w with heap := w.heap.setIfInBounds b (.map es' ck') } : World).frozen? a = w.frozen? a := fun a => by
    unfold World.frozen?
    simp only
    by_cases hab : a.block = b
    · rw [hab, hs1, h3]
    · rw [hs2 _ hab]
  refine ⟨⟨h.nh, h.nt, h.tokv, h.vlt, fun b' o v e => by rw [hcell]; exact h.imm b' o v e, fun b' o k e => by rw [hcell, hfz]; exact h.toks b' o k e, fun j ys hj => ?_, fun b' o hb' => h.dom b' o (by simpa using hb'), ?_, h.glob⟩, ⟨.refl c, rfl, rfl, by simp, ?_, fun _ _ _ h => h, fun a _ => hfz a⟩⟩
  · obtain ⟨g1, g2⟩ := h.heap j ys hj
    refine ⟨g1, fun j' y hy => ?_⟩
    obtain ⟨a1, a2, a3, v, a4, a5⟩ := g2 j' y hy
    exact ⟨a1, a2, by rw [hfz]; exact a3, v, by rw [hcell]; exact a4, a5⟩
  · intro j qs hj
    simp only at hj
    split at hj
    · rename_i he
      subst he
      injection hj with hj; subst hj
      rw [hb]
      exact ⟨h1, h2, es', ck', hs1, hr⟩
    · rename_i he
      obtain ⟨g1, g2, es2, ck2, g3, g4⟩ := h.maps j qs hj
      refine ⟨g1, g2, es2, ck2, ?_, g4⟩
      rw [hs2]
      · exact g3
      · intro e
        rw [e, h2] at g2
        injection g2 with g2 _
        exact he g2.symm
  · intro b' hb'
    by_cases hbb : b' = b
    · subst hbb
      show FrB c b' w.heap[b']? (w.heap.setIfInBounds b' (.map es' ck'))[b']?
      rw [hs1, h3]
      exact ⟨es', ck', rfl, fun e => by rw [h2] at e; cases e⟩
    · show FrB c b' w.heap[b']? (w.heap.setIfInBounds b (.map es' ck'))[b']?
      rw [hs2 _ hbb]
      exact .refl _ _ _
theorem sound_mupd {P : Program} {t k e : TypeId} (ht : P.underlying t = some (.map k e)) {c : CM} {s : HS} {w : World} (h : Inv c s w)
    {mv kv vv : Value} {m ka va : AV} (hm : Rep c mv m) (hk : Rep c kv ka) (hv : Rep c vv va) {s' : HS} (hx : amupd (keyKd P k) s m ka va = some s') :
    ∃ w', (Instr.mapUpdate t mv kv vv).run P w = .ok () w' ∧ Inv c s' w' ∧ Fr c w c w' := by
  cases hm <;> simp only [amupd] at hx <;> (try (cases hx; done))
  case mp i hlt =>
    split at hx <;> (try (cases hx; done))
    rename_i ps hps hc
    rw [Bool.and_eq_true] at hc
    obtain ⟨hka, hsto⟩ := hc
    obtain ⟨ps', hput, rfl⟩ := Option.map_eq_some_iff.1 hx
    obtain ⟨h1, h2, es, ck, h3, h4⟩ := h.maps i ps hps
    unfold amput at hput
    cases hl : alook (keyKd P k) ka ps 0 with
    | none => rw [hl] at hput; cases hput
    | some r =>
      obtain ⟨r', hf, hF⟩ := find_run hk hka h4.rm hl w
      have hck := akey_check hk hka false w
      rw [hl] at hput
      cases r with
      | none =>
        have : r' = none := hF
        subst this
        injection hput with hput; subst hput
        obtain ⟨g1, g2⟩ := h.setMap hps (es.push { key := kv, val := vv, born := ck }) (ck + 1) (ps' := ps ++ [(ka, va)]) (by
          refine ⟨⟨by simp [h4.rm.1], fun j e0 p0 e1 e2 => ?_⟩, fun e0 he0 => by
            simp only [Array.toList_push, List.mem_append, List.mem_singleton] at he0
            rcases he0 with he0 | rfl
            · have := h4.born e0 he0; omega
            · exact Nat.lt_succ_self _, by
            simp only [Array.toList_push, List.map_append, List.map_cons, List.map_nil]
            refine List.nodup_append.2 ⟨h4.nd, by simp, fun a ha b hb => ?_⟩
            obtain ⟨e0, he0, rfl⟩ := List.mem_map.1 ha
            have := h4.born e0 he0
            simp at hb
            omega⟩
          simp only [Array.toList_push] at e1
          rw [List.getElem?_append] at e1 e2
          rw [← h4.rm.1] at e2
          split at e1
          · rename_i hlt'
            rw [if_pos hlt'] at e2
            exact h4.rm.2 j e0 p0 e1 e2
          · rename_i hlt'
            rw [if_neg hlt'] at e2
            have : j - es.toList.length = 0 := by
              rcases Nat.eq_zero_or_pos (j - es.toList.length) with h' | h'
              · exact h'
              · rw [List.getElem?_eq_none (by simp only [List.length_cons, List.length_nil]; omega)] at e1; cases e1
            rw [this] at e1 e2
            simp at e1 e2
            subst e1; subst e2
            exact ⟨hk, hv⟩)
        exact ⟨_, by simp [Instr.mapUpdate, run_underlying ht, MapKept.run_getObj_map h3, hck, hf, MapKept.run_setObj_map _ h3], g1, g2⟩
      | some jy =>
        obtain ⟨j, y⟩ := jy
        obtain ⟨e0, p0, g0, g1, g2, rfl, rfl, g5⟩ := hF
        simp only [Nat.sub_zero] at g1 g2
        injection hput with hput; subst hput
        have hst := akeq_stays hk (h4.rm.2 _ _ _ g1 g2).1 g5 w
        have hget : es[j]? = some e0 := by simpa using g1
        obtain ⟨q1, q2⟩ := h.setMap hps (es.modify j fun e => { e with key := kv, val := vv }) ck (ps' := ps.set j (ka, va)) (by
          have hbm : (es.modify j fun e => { e with key := kv, val := vv }).toList.map (·.born) = es.toList.map (·.born) := by
            apply List.ext_getElem?
            intro i
            simp only [List.getElem?_map, Array.getElem?_toList, Array.getElem?_modify]
            split
            · cases es[i]? <;> rfl
            · rfl
          refine ⟨⟨by simp [h4.rm.1], fun j' e1 p1 u1 u2 => ?_⟩, fun e1 he1 => by
            have : e1.born ∈ es.toList.map (·.born) := by rw [← hbm]; exact List.mem_map.2 ⟨e1, he1, rfl⟩
            obtain ⟨e2, he2, e⟩ := List.mem_map.1 this
            rw [← e]; exact h4.born e2 he2, by rw [hbm]; exact h4.nd⟩
          have u1' : (es.modify j fun e => { e with key := kv, val := vv })[j']? = some e1 := by rw [← Array.getElem?_toList]; exact u1
          rw [Array.getElem?_modify] at u1'
          rw [List.getElem?_set] at u2
          split at u1'
          · rename_i hjj
            subst hjj
            rw [hget] at u1'
            simp at u1'
            subst u1'
            rw [if_pos rfl] at u2
            split at u2 <;> (try (cases u2; done))
            injection u2 with u2; subst u2
            exact ⟨hk, hv⟩
          · rename_i hjj
            rw [if_neg hjj] at u2
            exact h4.rm.2 j' e1 p1 (by simpa using u1') u2)
        exact ⟨_, by simp [Instr.mapUpdate, run_underlying ht, MapKept.run_getObj_map h3, hck, hf, hget, hst, MapKept.run_setObj_map _ h3], q1, q2⟩
theorem sound_mlen {P : Program} {t ty k e : TypeId} (ht : P.underlying t = some (.map k e)) {c : CM} {s : HS} {w : World} (h : Inv c s w) {mv : Value} {m x : AV} (hm : Rep c mv m) (hx : amlen s.mp m = some x) :
    DoneS P c w (Builtin.len_ #[t] ty #[mv]) x s := by
  unfold amlen at hx
  obtain ⟨ps, hps, rfl⟩ := Option.map_eq_some_iff.1 hx
  cases hm <;> simp only [aments] at hps <;> (try (cases hps; done))
  case nilmp =>
    injection hps with hps; subst hps
    exact .pure h (by simp [Builtin.len_, run_underlying ht]; rfl) (.int _ _)
  case mp j hj =>
    obtain ⟨_, _, es, ck, g1, g2⟩ := h.maps j ps hps
    have hl : es.size = ps.length := by have := g2.rm.1; simpa using this
    exact .pure h (by simp [Builtin.len_, run_underlying ht, MapKept.run_getObj_map g1, hl]; rfl) (.int _ _)

/-! copy -/
def acopy (sz : Nat) (s : HS) (p q : AV) : Option (AV × HS) :=
  match aelemsH s.heap q, p with
  | some ys, .nilsl => if aszOk sz q = true then some (.int .i64 0, s) else none
  | some ys, .msl _ sz' i off len _ => match s.heap i with
    | some zs => if sz' = sz ∧ aszOk sz q = true ∧ off + min ys.length len * sz ≤ zs.length then
        some (.int .i64 (min ys.length len : Nat), { s with heap := fun k => if k = i then some (setL zs off (flat (ys.take (min ys.length len)))) else s.heap k })
      else none
    | none => none
  | _, _ => none
theorem sound_copy {P : Program} {dT sT ty e : TypeId} {i : TypeInfo} (hd : P.underlying dT = some (.slice e)) (hi : P.info? e = some i) {c : CM} {s : HS} {w : World} (h : Inv c s w)
    {u v : Value} {p q x : AV} (hp : Rep c u p) (hq : Rep c v q) {s' : HS} (hx : acopy i.size s p q = some (x, s')) : DoneS P c w (Builtin.copy_ #[dT, sT] ty #[u, v]) x s' := by
  unfold acopy at hx
  cases eq : aelemsH s.heap q with
  | none => rw [eq] at hx; cases hx
  | some ys =>
    rw [eq] at hx
    have lenv : aszOk i.size q = true → ∃ a cap, v = .slice a ys.length cap ∧ (a = none → ys = []) := fun hz => by
      rcases aelemsH_inv h hq eq hz with ⟨rfl, _, rfl⟩ | ⟨b, o, cap, vs, rfl, _⟩
      · exact ⟨none, 0, rfl, fun _ => rfl⟩
      · exact ⟨_, cap, rfl, fun h => by cases h⟩
    cases hp <;> simp only at hx <;> (try (cases hx; done))
    case nilsl =>
      split at hx <;> (try (cases hx; done))
      rename_i hz
      injection hx with hx; injection hx with hx1 hx2; subst hx1; subst hx2
      rcases aelemsH_inv h hq eq hz with ⟨rfl, _, rfl⟩ | ⟨b, o, cap, vs, rfl, _⟩
      · exact .pure h (by simp [Builtin.copy_, run_underlying hd, Builtin.lenOf, Builtin.firstCells, Go.sizeOf, typeInfo, hi]; rfl) (.int _ _)
      · exact .pure h (by simp [Builtin.copy_, run_underlying hd, Builtin.lenOf, Builtin.firstCells, Go.sizeOf, typeInfo, hi, loadCells, loadCellsFrom]; rfl) (.int _ _)
    case msl ag sz' j off len cap ex hj hle he =>
      split at hx <;> (try (cases hx; done))
      rename_i zs hzs
      split at hx <;> (try (cases hx; done))
      rename_i hc
      obtain ⟨rfl, hz, hfit⟩ := hc
      injection hx with hx; injection hx with hx1 hx2; subst hx1; subst hx2
      generalize hn : min ys.length len = n at *
      have hnm : Nat.min ys.length len = n := hn
      rcases aelemsH_inv h hq eq hz with ⟨rfl, _, rfl⟩ | ⟨b, o, cap', vs, rfl, hl, hzz, hcw, hr, lf, hcap, _⟩
      · have : n = 0 := by simp at hn; omega
        subst this
        have hs : (fun k => if k = j then some (setL zs off (flat (([] : List AV).take 0))) else s.heap k) = s.heap := by
          funext k; simp only [List.take_zero, flat, setL]; split
          · rename_i hk; rw [hk, hzs]
          · rfl
        rw [hs]
        exact .pure h (by simp [Builtin.copy_, run_underlying hd, Builtin.lenOf, Builtin.firstCells, Go.sizeOf, typeInfo, hi, storeCells]; rfl) (.int _ _)
      · have hny : n ≤ ys.length := by omega
        have hvl : vs.length = ys.length * i.size := by rw [hl, flat_length hzz]
        have hmul : n * i.size ≤ ys.length * i.size := Nat.mul_le_mul_right _ hny
        have hft := flat_take hzz n
        have hrt := hr.take (n * i.size)
        rw [← hft] at hrt
        have hlt : (vs.take (n * i.size)).length = n * i.size := by rw [List.length_take]; omega
        have hflat : (flat (ys.take n)).length = n * i.size := by rw [← hrt.1, hlt]
        have hlf : ∀ (j : Nat) (y : AV), (flat (ys.take n))[j]? = some y → y.leaf = true := by
          intro j' y hy
          rw [hft, List.getElem?_take] at hy
          split at hy
          · exact lf _ _ hy
          · cases hy
        have hload := run_loadCells_list (P := P) w ⟨b, o, none⟩ (vs.take (n * i.size)) (fun j' v hj' => by
          rw [List.getElem?_take] at hj'
          split at hj'
          · rw [Addr.add_lit]; exact hcw _ _ hj'
          · cases hj')
        rw [hlt] at hload
        obtain ⟨s2, rfl, g1, g2⟩ := Inv.setBlkL j (flat (ys.take n)) (vs.take (n * i.size)) s w zs off h hzs hrt hlf (by omega)
        obtain ⟨_, hall⟩ := h.heap j zs hzs
        have hst := run_storeCells (P := P) (c.loc j).1 (vs.take (n * i.size)) ((c.loc j).2 + off) 0 w (fun j' hj' => by
          obtain ⟨_, _, h3, u', h4, _⟩ := hall (off + j') (zs[off + j']'(by omega)) (List.getElem?_eq_getElem _)
          rw [show (c.loc j).2 + off + 0 + j' = (c.loc j).2 + (off + j') by omega]
          exact ⟨⟨u', h4⟩, h3⟩) (hrt.oneCell hlf)
        rw [Nat.add_zero] at hst
        refine ⟨.int .i64 n, _, c, ?_, .int _ _, g1, g2⟩
        simp [Builtin.copy_, run_underlying hd, Builtin.lenOf, Builtin.firstCells, Go.sizeOf, typeInfo, hi, hnm, hload, hst]
        rfl
end Fw
set_option linter.unusedVariables false
set_option linter.unusedSimpArgs false
namespace Fw
open Go

/-- a string, by its bytes -/
def bs (l : List UInt8) : ByteArray := ⟨l.toArray⟩
theorem bs_of (s : ByteArray) : bs s.data.toList = s := by simp [bs]
theorem bs_size (l : List UInt8) : (bs l).size = l.length := by simp [bs, ByteArray.size]
theorem bsz (a : ByteArray) : a.data.toList.length = a.size := Array.length_toList
theorem bs_inj {a b : List UInt8} : bs a = bs b ↔ a = b := ⟨fun h => by have := congrArg (fun s => s.data.toList) h; simpa [bs] using this, fun h => by rw [h]⟩
theorem bs_add (a b : List UInt8) : bs a ++ bs b = bs (a ++ b) := by
  apply ByteArray.ext
  simp [bs, ByteArray.data_append]
theorem bs_extract (l : List UInt8) (a b : Nat) : (bs l).extract a b = bs ((l.drop a).take (b - a)) := ByteArray.extract_mk l a b

def asidx : AV → AV → Option AV
  | .str s, .int _ n => if 0 ≤ n then (s.data.toList[n.toNat]?).map fun b => .int .u8 b.toNat else none
  | _, _ => none
theorem sound_sidx {P : Program} {t : TypeId} (hd : P.underlying t = some .string) {c : CM} {s : HS} {w : World} (h : Inv c s w) {v u : Value} {p q x : AV} (hp : Rep c v p) (hq : Rep c u q) (hx : asidx p q = some x) : DoneS P c w (Instr.index t v u) x s := by
  cases hp <;> cases hq <;> simp only [asidx] at hx <;> (try (cases hx; done))
  rename_i a k n
  split at hx <;> (try (cases hx; done))
  rename_i h0
  cases hb : a.data.toList[n.toNat]? with
  | none => simp [hb] at hx
  | some b =>
    simp [hb] at hx; subst hx
    have hlt : n.toNat < a.size := by
      have := (List.getElem?_eq_some_iff.1 hb).1
      rw [bsz] at this; exact this
    refine .pure h (v := .int .u8 b.toNat) ?_ (.int _ _)
    rw [run_index_string w t a k n hd, dif_pos ⟨h0, by omega⟩]
    have hb' := (List.getElem?_eq_some_iff.1 hb).2
    have : a[n.toNat]'hlt = b := by
      rw [← hb']
      simp [ByteArray.getElem_eq_getElem_data]
    rw [this]

def asslice : AV → Option (Option Int) → Option (Option Int) → Option AV
  | .str s, some none, some none => some (.str s)
  | .str s, some (some l), some none => if 0 ≤ l ∧ l ≤ s.size then some (.str (bs (s.data.toList.drop l.toNat))) else none
  | .str s, some none, some (some n) => if 0 ≤ n ∧ n ≤ s.size then some (.str (bs (s.data.toList.take n.toNat))) else none
  | .str s, some (some l), some (some n) => if 0 ≤ l ∧ l ≤ n ∧ n ≤ s.size then some (.str (bs ((s.data.toList.take n.toNat).drop l.toNat))) else none
  | _, _, _ => none
theorem ext_all (a : ByteArray) : a.extract 0 a.size = a := by
  have := bs_extract a.data.toList 0 a.size
  rw [bs_of] at this
  rw [this, List.drop_zero, List.take_of_length_le (by rw [bsz]; exact Nat.le_refl _), bs_of]
theorem ext_of (a : ByteArray) (l n : Nat) : a.extract l n = bs ((a.data.toList.take n).drop l) := by
  have := bs_extract a.data.toList l n
  rw [bs_of] at this
  rw [this, List.drop_take]
theorem sound_ssl {P : Program} {t : TypeId} (hd : P.underlying t = some .string) {c : CM} {s : HS} {w : World} (h : Inv c s w) {v : Value} {p x : AV} (hp : Rep c v p) {lo hi' : Option Value} {alo ahi : Option AV} (hlo : optRep c lo alo) (hhi : optRep c hi' ahi)
    (hx : asslice p (aidx alo) (aidx ahi) = some x) : DoneS P c w (Instr.sliceAt t v lo hi' none) x s := by
  cases e1 : aidx alo with
  | none => rw [e1] at hx; cases p <;> simp [asslice] at hx
  | some l =>
  cases e2 : aidx ahi with
  | none => rw [e1, e2] at hx; cases p <;> cases l <;> simp [asslice] at hx
  | some n =>
  rw [e1, e2] at hx
  cases hp <;> (try (cases l <;> cases n <;> simp [asslice] at hx; done))
  rename_i a
  rcases aidx_inv hlo e1 with ⟨rfl, rfl⟩ | ⟨k1, l, rfl, rfl⟩ <;> rcases aidx_inv hhi e2 with ⟨rfl, rfl⟩ | ⟨k2, n, rfl, rfl⟩ <;> simp only [asslice] at hx
  · injection hx with hx; subst hx
    refine .pure h (v := .string a) ?_ (.str _)
    rw [run_sliceAt_string w t _ _ _ _ hd, run_slice_string_all w t a hd, ext_all]
  · split at hx <;> (try (cases hx; done))
    rename_i hc
    injection hx with hx; subst hx
    refine .pure h (v := .string (bs (a.data.toList.take n.toNat))) ?_ (.str _)
    rw [run_sliceAt_string w t _ _ _ _ hd, run_slice_string_h w t a hd k2 n hc.1 hc.2, ext_of, List.drop_zero]
  · split at hx <;> (try (cases hx; done))
    rename_i hc
    injection hx with hx; subst hx
    refine .pure h (v := .string (bs (a.data.toList.drop l.toNat))) ?_ (.str _)
    rw [run_sliceAt_string w t _ _ _ _ hd, run_slice_string_l w t a hd k1 l hc.1 hc.2, ext_of, List.take_of_length_le (by rw [bsz]; exact Nat.le_refl _)]
  · split at hx <;> (try (cases hx; done))
    rename_i hc
    injection hx with hx; subst hx
    refine .pure h (v := .string (bs ((a.data.toList.take n.toNat).drop l.toNat))) ?_ (.str _)
    rw [run_sliceAt_string w t _ _ _ _ hd, run_slice_string w t a k1 k2 l n hd hc.1 hc.2.1 hc.2.2, ext_of]

/-- part of an array that lies in a mutable block -/
def aaslice (ag : Bool) (sz len : Nat) : AV → Option (Option Int) → Option (Option Int) → Option AV
  | .ref i off, some none, some none => some (amsub ag sz i off 0 len true)
  | .ref i off, some (some l), some none => if 0 ≤ l ∧ l ≤ len then some (amsub ag sz i off l.toNat len true) else none
  | .ref i off, some none, some (some n) => if 0 ≤ n ∧ n ≤ len then some (amsub ag sz i off 0 n.toNat false) else none
  | .ref i off, some (some l), some (some n) => if 0 ≤ l ∧ l ≤ n ∧ n ≤ len then some (amsub ag sz i off l.toNat n.toNat false) else none
  | _, _, _ => none
theorem sound_asl {P : Program} {t e : TypeId} {len : Nat} {i : TypeInfo} (hd : P.underlying t = some (.array len e)) (hi : P.info? e = some i) {ag : Bool} {c : CM} {s : HS} {w : World} (h : Inv c s w) {v : Value} {p x : AV} (hp : Rep c v p) {lo hi' : Option Value} {alo ahi : Option AV} (hlo : optRep c lo alo) (hhi : optRep c hi' ahi)
    (hx : aaslice ag i.size len p (aidx alo) (aidx ahi) = some x) : DoneS P c w (Instr.sliceAt t v lo hi' none) x s := by
  have hlen : P.arrayLen t = len := by simp [Program.arrayLen, hd]
  have hel : P.elem t = e := by simp [Program.elem, hd]
  have hde : P.underlying t = some (.array (P.arrayLen t) (P.elem t)) := by rw [hlen, hel]; exact hd
  have hsz : ∀ w, (Go.sizeOf (P.elem t)).run P w = .ok i.size w := fun w => by rw [hel]; simp [Go.sizeOf, typeInfo, hi]
  cases e1 : aidx alo with
  | none => rw [e1] at hx; cases p <;> simp [aaslice] at hx
  | some l =>
  cases e2 : aidx ahi with
  | none => rw [e1, e2] at hx; cases p <;> cases l <;> simp [aaslice] at hx
  | some n =>
  rw [e1, e2] at hx
  cases hp <;> (try (cases l <;> cases n <;> simp [aaslice] at hx; done))
  rename_i j off hj
  rcases aidx_inv hlo e1 with ⟨rfl, rfl⟩ | ⟨k1, l, rfl, rfl⟩ <;> rcases aidx_inv hhi e2 with ⟨rfl, rfl⟩ | ⟨k2, n, rfl, rfl⟩ <;> simp only [aaslice] at hx
  · injection hx with hx; subst hx
    refine .pure h (by rw [run_sliceAt_array_all w t _ hde, hsz]; rfl) ?_
    have := Rep.mslice (c := c) (ag := ag) (sz := i.size) (off := off) (len := len) (cap := len) hj (l := 0) (n := len) (m := len) (Nat.zero_le _) (Nat.le_refl _) (Nat.le_refl _) (Nat.le_refl _) true (fun _ => rfl)
    rw [hlen]
    simp only [slicedAt]
    split <;> rename_i hm
    · rw [if_pos hm] at this; exact this
    · rw [if_neg hm] at this; exact this
  · split at hx <;> (try (cases hx; done))
    rename_i hc
    injection hx with hx; subst hx
    refine .pure h (by rw [run_sliceAt_array_h w t _ hde k2 n hc.1 (by rw [hlen]; exact hc.2), hsz]; rfl) ?_
    have := Rep.mslice (c := c) (ag := ag) (sz := i.size) (off := off) (len := len) (cap := len) hj (l := 0) (n := n.toNat) (m := len) (Nat.zero_le _) (by omega) (by omega) (Nat.le_refl _) false (fun e => by cases e)
    rw [hlen]
    simp only [slicedAt]
    split <;> rename_i hm
    · rw [if_pos hm] at this; exact this
    · rw [if_neg hm] at this; exact this
  · split at hx <;> (try (cases hx; done))
    rename_i hc
    injection hx with hx; subst hx
    refine .pure h (by rw [run_sliceAt_array_l w t _ hde k1 l hc.1 (by rw [hlen]; exact hc.2), hsz]; rfl) ?_
    have := Rep.mslice (c := c) (ag := ag) (sz := i.size) (off := off) (len := len) (cap := len) hj (l := l.toNat) (n := len) (m := len) (by omega) (Nat.le_refl _) (Nat.le_refl _) (Nat.le_refl _) true (fun _ => rfl)
    rw [hlen]
    simp only [slicedAt]
    split <;> rename_i hm
    · rw [if_pos hm] at this; exact this
    · rw [if_neg hm] at this; exact this
  · split at hx <;> (try (cases hx; done))
    rename_i hc
    injection hx with hx; subst hx
    refine .pure h (by rw [run_sliceAt_array_lh w t _ hde k1 k2 l n hc.1 hc.2.1 (by rw [hlen]; exact hc.2.2), hsz]; rfl) ?_
    have := Rep.mslice (c := c) (ag := ag) (sz := i.size) (off := off) (len := len) (cap := len) hj (l := l.toNat) (n := n.toNat) (m := len) (by omega) (by omega) (by omega) (Nat.le_refl _) false (fun e => by cases e)
    rw [hlen]
    simp only [slicedAt]
    split <;> rename_i hm
    · rw [if_pos hm] at this; exact this
    · rw [if_neg hm] at this; exact this
end Fw
set_option linter.unusedVariables false
set_option linter.unusedSimpArgs false
namespace Fw
open Go

def apop (sz : Nat) (s : HS) : AV → AV → Option (AV × HS)
  | .osl ag sz' i len k, .int _ n =>
    match s.heap i with
    | some ys => if sz' = sz ∧ 0 ≤ n ∧ n ≤ len ∧ s.tok k = true ∧ ys.length = len * sz then
        some (.osl ag sz i n.toNat k, { s with heap := fun j => if j = i then some (ys.take (n.toNat * sz)) else s.heap j }) else none
    | none => none
  | _, _ => none

def alit (sz : Nat) (s : HS) (xs : List AV) : Option (AV × HS) :=
  if (xs.all fun x => x.sto && x.cells.length == sz) = true ∧ xs ≠ [] then
    some (.osl (agOf xs) sz s.nh xs.length s.nt, { s with heap := fun i => if i = s.nh then some (flat xs) else s.heap i, nh := s.nh + 1, nt := s.nt + 1, tok := fun t => if t = s.nt then true else s.tok t })
  else none
theorem Inv.popBlk {c : CM} {s : HS} {w : World} (h : Inv c s w) {i len sz cap k : Nat} {ys : List AV} (hi : s.heap i = some ys) (hcap : CapOk c (c.loc i).1 (c.loc i).2 len sz cap (.own k)) (hv : s.tok k = true)
    (hly : ys.length = len * sz) {n : Nat} (hn : n ≤ len) :
    ∃ c', Inv c' { s with heap := fun j => if j = i then some (ys.take (n * sz)) else s.heap j } w ∧ Fr c w c' w ∧ i < c'.nh ∧ c'.loc i = c.loc i ∧ CapOk c' (c.loc i).1 (c.loc i).2 n sz cap (.own k) := by
  obtain ⟨hc0, hc1, hc2⟩ := hcap
  have hval : c.val k = true := by rw [← h.tokv]; exact hv
  obtain ⟨hilt, hcells⟩ := h.heap i ys hi
  obtain ⟨b, o, hbo⟩ : ∃ b o, c.loc i = (b, o) := ⟨_, _, rfl⟩
  simp only [hbo] at hc2 hcells ⊢
  have hm1 : n * sz ≤ len * sz := Nat.mul_le_mul_right _ hn
  have hblk : ∀ j, j < len * sz → c.cl b (o + j) = .blk i j ∧ w.frozen? ⟨b, o + j, none⟩ = false ∧ ∃ v, w.cell? ⟨b, o + j, none⟩ = some v := fun j hj => by
    obtain ⟨h0, h1, h2, v, h3, h4⟩ := hcells j (ys[j]'(by omega)) (List.getElem?_eq_getElem _)
    exact ⟨h1, h2, v, h3⟩
  let c' : CM := { c with cl := fun b' x => if b' = b ∧ o + n * sz ≤ x ∧ x < o + len * sz then .tok k else c.cl b' x }
  have hout : ∀ b' x, ¬ (b' = b ∧ o + n * sz ≤ x ∧ x < o + len * sz) → c'.cl b' x = c.cl b' x := fun b' x hn => by simp only [c', hn, if_false]
  have hin : ∀ b' x, b' = b ∧ o + n * sz ≤ x ∧ x < o + len * sz → c'.cl b' x = .tok k := fun b' x hn => if_pos hn
  have hold : ∀ b' x, b' = b ∧ o + n * sz ≤ x ∧ x < o + len * sz → ∃ j, j < len * sz ∧ x = o + j ∧ c.cl b' x = .blk i j := by
    rintro b' x ⟨rfl, h1, h2⟩
    have := (hblk (x - o) (by omega)).1
    rw [show o + (x - o) = x by omega] at this
    exact ⟨x - o, by omega, by omega, this⟩
  have hle : c.le c' := by
    refine ⟨?_, Nat.le_refl _, fun j hj => rfl, Nat.le_refl _, fun _ _ e => e, ?_⟩
    · intro b' x v he
      rw [hout]
      · exact he
      · intro hx
        obtain ⟨j, _, _, e⟩ := hold b' x hx
        rw [e] at he; cases he
    · intro b' x t ht he hv'
      rw [hout]
      · exact he
      · intro hx
        obtain ⟨j, _, _, e⟩ := hold b' x hx
        rw [e] at he; cases he
  refine ⟨c', ⟨h.nh, h.nt, h.tokv, h.vlt, ?_, ?_, ?_, ?_, ?_, h.glob.mono hle⟩, ⟨hle, rfl, rfl, Nat.le_refl _, fun _ _ => .refl _ _ _, ?_, fun _ _ => rfl⟩, hilt, hbo, Nat.le_trans hn hc0, hc1, ?_⟩
  · intro b' x v he
    by_cases hx : b' = b ∧ o + n * sz ≤ x ∧ x < o + len * sz
    · rw [hin _ _ hx] at he; cases he
    · rw [hout _ _ hx] at he; exact h.imm b' x v he
  · intro b' x t he
    by_cases hx : b' = b ∧ o + n * sz ≤ x ∧ x < o + len * sz
    · obtain ⟨rfl, h1, h2⟩ := hx
      have := (hblk (x - o) (by omega)).2
      rw [show o + (x - o) = x by omega] at this
      exact ⟨this.2, this.1⟩
    · rw [hout _ _ hx] at he; exact h.toks b' x t he
  · intro i' zs hi'
    simp only at hi'
    split at hi'
    · rename_i hii
      subst hii
      injection hi' with hi'; subst hi'
      refine ⟨hilt, fun j y hy => ?_⟩
      rw [List.getElem?_take] at hy
      split at hy
      · rename_i hj
        obtain ⟨h0, h1, h2, v, h3, h4⟩ := hcells j y hy
        show y.leaf = true ∧ c'.cl (c.loc i').1 ((c.loc i').2 + j) = .blk i' j ∧ w.frozen? ⟨(c.loc i').1, (c.loc i').2 + j, none⟩ = false ∧ ∃ v, w.cell? ⟨(c.loc i').1, (c.loc i').2 + j, none⟩ = some v ∧ Rep c' v y
        rw [hbo]
        refine ⟨h0, ?_, h2, v, h3, h4.mono hle⟩
        rw [hout _ _ (by simp only; omega)]; exact h1
      · cases hy
    · rename_i hne
      obtain ⟨hlt, hall⟩ := h.heap i' zs hi'
      refine ⟨hlt, fun j y hy => ?_⟩
      obtain ⟨h0, h1, h2, v, h3, h4⟩ := hall j y hy
      refine ⟨h0, ?_, h2, v, h3, h4.mono hle⟩
      show c'.cl (c.loc i').1 ((c.loc i').2 + j) = .blk i' j
      rw [hout]
      · exact h1
      · intro hx
        obtain ⟨j', _, _, e⟩ := hold _ _ hx
        rw [e] at h1; injection h1 with h1 _; exact hne h1.symm
  · intro b' x hb'
    rw [hout]
    · exact h.dom b' x hb'
    · intro hx
      obtain ⟨j', _, _, e⟩ := hold _ _ hx
      rw [h.dom b' x hb'] at e; cases e
  · intro i' ps hi'
    obtain ⟨h1, h2, es, ck, h3, h4⟩ := h.maps i' ps hi'
    refine ⟨h1, ?_, es, ck, h3, h4.mono hle⟩
    show c'.cl (c.loc i').1 0 = .blk i' 0
    rw [hout]
    · exact h2
    · rintro ⟨e1, e2, e3⟩
      obtain ⟨v, hv⟩ := (hblk (0 - o) (by omega)).2.2
      rw [e1] at h3
      simp only [World.cell?, h3] at hv
      cases hv
  · intro b' x hb' he
    rw [hout]
    · exact he
    · intro hx
      obtain ⟨j', _, _, e⟩ := hold _ _ hx
      rw [he] at e; cases e
  · intro _ j hj hj'
    by_cases hjl : j < len * sz
    · exact hin _ _ ⟨rfl, by omega, by omega⟩
    · rw [hout _ _ (by omega)]; exact hc2 hval j (by omega) hj'
theorem sound_pop {P : Program} {t e : TypeId} {i : TypeInfo} (hd : P.underlying t = some (.slice e)) (hi : P.info? e = some i)
    {c : CM} {s : HS} {w : World} (h : Inv c s w) {v u : Value} {p q x : AV} (hp : Rep c v p) (hq : Rep c u q) {s' : HS} (hx : apop i.size s p q = some (x, s')) : DoneS P c w (Instr.sliceAt t v none (some u) none) x s' := by
  have hde : P.underlying t = some (.slice (P.elem t)) := by simp [Program.elem, hd]
  have hel : P.elem t = e := by simp [Program.elem, hd]
  have hsz : ∀ w, (Go.sizeOf (P.elem t)).run P w = .ok i.size w := fun w => by rw [hel]; simp [Go.sizeOf, typeInfo, hi]
  cases hp <;> cases hq <;> simp only [apop] at hx <;> (try (cases hx; done))
  case osl.int ag sz j len cap k hj hcap kk n =>
    split at hx <;> (try (cases hx; done))
    rename_i ys hys
    split at hx <;> (try (cases hx; done))
    rename_i hcond
    obtain ⟨rfl, h0, h1, h2, h3⟩ := hcond
    injection hx with hx
    injection hx with e1 e2; subst e1; subst e2
    have hle : len ≤ cap := hcap.1
    obtain ⟨c', i1, i2, i3, i4, i5⟩ := h.popBlk hys hcap h2 h3 (n := n.toNat) (by omega)
    refine ⟨_, w, c', by rw [run_sliceAt_slice w t _ _ _ _ hde, run_slice_h w t _ _ _ hde kk n h0 (by omega), hsz]; rfl, ?_, i1, i2⟩
    have := Rep.osl (c := c') ag i.size j n.toNat cap k i3 (by rw [i4]; exact i5)
    rw [i4] at this
    have hz : ∀ a : Addr, (if cap = 0 then some a else some (a.add 0)) = some a := by intro a; simp [Addr.add]
    simpa [sliced, hz] using this
end Fw
set_option linter.unusedVariables false
set_option linter.unusedSimpArgs false
namespace Fw
open Go

/-- 'v, is := x.(T)' -/
def atass (t : TypeId) (z : AV) : AV → Option AV
  | .iface u v => some (if u = t then .tup [v, .bool true] else .tup [z, .bool false])
  | .nilif => some (.tup [z, .bool false])
  | _ => none
theorem rep_pair {c : CM} {u v : Value} {x y : AV} (h1 : Rep c u x) (h2 : Rep c v y) : Rep c (.tuple #[u, v]) (.tup [x, y]) := by
  have h := RepL.cons h1 (RepL.cons h2 RepL.nil)
  exact Rep.tup [u, v] [x, y] h.1 h.2
theorem sound_tass {P : Program} {t xt : TypeId} {d : TypeDesc} {i : TypeInfo} {zv : Value} {z : AV} (hd : P.underlying t = some d) (hni : (match d with | .interface _ => true | _ => false) = false) (hi : P.info? t = some i) (hz : i.zero = some zv)
    {c : CM} (hzr : Rep c zv z) {s : HS} {w : World} (h : Inv c s w) {v : Value} {p x : AV} (hp : Rep c v p) (hx : atass t z p = some x) : DoneS P c w (Instr.typeAssert v xt t true) x s := by
  have hzero : (zeroValue t).run P w = .ok zv w := by simp only [zeroValue, typeInfo, Sem.run_bind, run_program, Result.andThen_ok, hi, Sem.run_pure, hz]
  cases hp <;> simp only [atass] at hx <;> (try (cases hx; done))
  · injection hx with hx; subst hx
    refine .pure h (v := .tuple #[zv, .bool false]) ?_ (rep_pair hzr (.bool _))
    simp only [Instr.typeAssert, Sem.run_bind, run_underlying hd, Result.andThen_ok]
    cases d <;> first | (simp at hni; done) | (simp only [Sem.run_bind, if_true, hzero, Result.andThen_ok, Sem.run_pure])
  · rename_i u v1 x1 hr
    injection hx with hx; subst hx
    by_cases e : u = t
    · subst e
      rw [if_pos rfl]
      refine .pure h (v := .tuple #[v1, .bool true]) ?_ (rep_pair hr (.bool _))
      simp only [Instr.typeAssert, Sem.run_bind, run_underlying hd, Result.andThen_ok]
      cases d <;> first | (simp at hni; done) | (simp only [if_true, Sem.run_pure])
    · rw [if_neg e]
      refine .pure h (v := .tuple #[zv, .bool false]) ?_ (rep_pair hzr (.bool _))
      simp only [Instr.typeAssert, Sem.run_bind, run_underlying hd, Result.andThen_ok]
      cases d <;> first | (simp at hni; done) | (simp only [e, if_false, Sem.run_bind, if_true, hzero, Result.andThen_ok, Sem.run_pure])

/-- the numbers of cells that hold bytes -/
def nums8 : List AV → Option (List Int)
  | [] => some []
  | .int .u8 n :: xs => (nums8 xs).map (n :: ·)
  | _ => none
theorem nums8_get : ∀ {xs : List AV} {ns : List Int}, nums8 xs = some ns → ns.length = xs.length ∧ ∀ i, i < ns.length → xs[i]? = some (.int .u8 (ns.getD i 0))
  | [], ns, h => by simp only [nums8, Option.some.injEq] at h; subst h; exact ⟨rfl, fun i hi => by simp at hi⟩
  | x :: xs, ns, h => by
    unfold nums8 at h
    split at h <;> (try (cases h; done))
    · rename_i e; cases e
    rename_i n xs' e
    injection e with e1 e2; subst e1; subst e2
    obtain ⟨ns', h1, rfl⟩ := Option.map_eq_some_iff.1 h
    obtain ⟨g1, g2⟩ := nums8_get h1
    refine ⟨by simp [g1], fun i hi => ?_⟩
    cases i with
    | zero => rfl
    | succ i => simpa using g2 i (by simpa using hi)
def b8 (ns : List Int) : List UInt8 := ns.map fun n => UInt8.ofNat n.toNat
/-- the string of bytes in memory -/
def ab2s (hp : Nat → Option (List AV)) : AV → Option AV
  | .nilsl => some (.str (bs []))
  | .msl _ 1 i off len _ => (hp i).bind fun ys => if off + len ≤ ys.length then (nums8 ((ys.drop off).take len)).map fun ns => .str (bs (b8 ns)) else none
  | _ => none
theorem sound_b2s {P : Program} {sr ds e : TypeId} (hs : P.underlying sr = some (.slice e)) (he : P.underlying e = some (.int .u8)) (hd : P.underlying ds = some .string) {c : CM} {s : HS} {w : World} (h : Inv c s w) {v : Value} {p x : AV} (hp : Rep c v p) (hx : ab2s s.heap p = some x) : DoneS P c w (convert sr ds v) x s := by
  cases hp with
  | nilsl =>
    injection hx with hx; subst hx
    exact .pure h (run_convert_bytes_nil w sr e hs he 0 0 ds hd) (.str _)
  | msl ag sz i off len cap ex hi hl hex =>
    by_cases hsz : sz = 1
    rotate_left
    · unfold ab2s at hx
      split at hx
      · rename_i e1; cases e1
      · rename_i e1; injection e1 with _ e2; exact absurd e2 hsz
      · cases hx
    subst hsz
    simp only [ab2s] at hx
    cases hh : s.heap i with
    | none => rw [hh] at hx; cases hx
    | some ys =>
      rw [hh, Option.bind_some] at hx
      obtain ⟨hle, hx⟩ := Option.ite_none_right_eq_some.1 hx
      obtain ⟨ns, h1, rfl⟩ := Option.map_eq_some_iff.1 hx
      obtain ⟨g1, g2⟩ := nums8_get h1
      rw [List.length_take, List.length_drop] at g1
      have hln : ns.length = len := by omega
      obtain ⟨_, hc⟩ := h.heap i ys hh
      refine .pure h (run_convert_bytes_arg w sr e hs he _ _ len cap ns hln (fun j hj => ?_) ds hd) (.str _)
      have hg := g2 j (by omega)
      rw [List.getElem?_take, if_pos hj, List.getElem?_drop] at hg
      obtain ⟨_, _, _, u, hu, hr⟩ := hc (off + j) _ hg
      cases hr
      rw [Nat.add_assoc]
      exact hu
  | _ => exact absurd hx (by simp [ab2s])

/-- the function behind a method of a type, where it takes the value itself -/
def mth (P : Program) (t : TypeId) (name : String) : Option FuncId :=
  match P.info? t, P.underlying t with
  | some i, some d => match i.methods.find? (·.name == name) with
    | some m => match m.func with
      | some (f, false) => if m.path.isEmpty && !(match d with | .pointer _ => true | _ => false) && callOk P f then some f else none
      | _ => none
    | none => none
  | _, _ => none
def mths (P : Program) (name : String) : List AV := (List.range P.types.size).filterMap fun t => (mth P t name).map fun (f : Nat) => AV.agg [.int .i64 (Int.ofNat t), .int .i64 (Int.ofNat f)]
def lookM (t : TypeId) : List AV → Option FuncId
  | [] => none
  | .agg [.int .i64 a, .int .i64 b] :: xs => if a = Int.ofNat t then some b.toNat else lookM t xs
  | _ :: xs => lookM t xs
/-- which function a method of a value behind an interface leads to -/
def ivF (ms : List AV) (x : AV) (args : List AV) : Option (FuncId × List AV) :=
  match x with
  | .iface t v => (lookM t ms).map fun f => (f, v :: args)
  | _ => none
theorem lookM_mths {P : Program} {name : String} {t : TypeId} : ∀ (l : List Nat) {f : FuncId}, lookM t (l.filterMap fun t => (mth P t name).map fun (f : Nat) => AV.agg [.int .i64 (Int.ofNat t), .int .i64 (Int.ofNat f)]) = some f → mth P t name = some f
  | [], f, h => by simp [lookM] at h
  | a :: l, f, h => by
    cases hm : mth P a name with
    | none =>
      simp only [List.filterMap_cons, hm, Option.map_none] at h
      exact lookM_mths l h
    | some g =>
      simp only [List.filterMap_cons, hm, Option.map_some, lookM] at h
      split at h
      · rename_i e
        have : a = t := Int.ofNat.inj e
        subst this
        rw [hm]
        simpa using h
      · exact lookM_mths l h
theorem mth_run {P : Program} {t : TypeId} {name : String} {f : FuncId} (h : mth P t name = some f) (v : Value) (args : Array Value) (w : World) : callOk P f = true ∧ (callMethod (.iface t v) name args).run P w = .ok (.enter f (#[v] ++ args)) w := by
  unfold mth at h
  split at h <;> (try (cases h; done))
  rename_i i d h1 h2
  split at h <;> (try (cases h; done))
  rename_i m h3
  split at h <;> (try (cases h; done))
  rename_i g h4
  obtain ⟨h5, h⟩ := Option.ite_none_right_eq_some.1 h
  injection h with h; subst h
  simp only [Bool.and_eq_true, Bool.not_eq_true'] at h5
  obtain ⟨⟨h5, h6⟩, h7⟩ := h5
  have hp : m.path.toList = [] := by simpa using h5
  refine ⟨h7, ?_⟩
  have hr : (receiverAt t (.val v) false (some ((name.splitOn ".").getLastD name))).run P w = .ok v w := by
    simp only [receiverAt, Sem.run_bind, run_underlying h2, Result.andThen_ok]
    cases d <;> first | (simp at h6; done) | (simp only [Place.get, Sem.run_pure])
  have hm : (method (P.types.size + Made.depth) t v name).run P w = .ok (g, v) w := by
    have hpos : 0 < Made.depth := by decide
    rw [show P.types.size + Made.depth = (P.types.size + Made.depth - 1) + 1 by omega]
    simp only [method, Sem.run_bind, typeInfo, run_program, Result.andThen_ok, h1, Sem.run_pure, h3, hp, follow, h4, h5, if_true, hr]
  simp only [callMethod, Sem.run_bind, run_program, Result.andThen_ok, hm]
  exact run_callFunc h7 _ _
theorem invoke_meth {P : Program} {o : Oper} {a : Act} {w : World} {next : Act → World → Prop} {Q : Exit → Act → World → Prop} {cl : Call} (ho : o.op = .call cl) {g : Operand} {name : String} (hg : cl.callee = .invoke g name)
    {t : TypeId} {v : Value} (hv : a.eval g = .iface t v) {f : FuncId} (hm : mth P t name = some f)
    (h : Calls P f (#[v] ++ cl.args.map a.eval) w fun
      | .returned v, w'' => next (a.put o.dst v) w''
      | .panicked chain, w'' => Q (.panic chain) a w''
      | .outgrown, _ => LetsOut Q) : o.wp P a w next Q := by
  unfold Oper.wp
  have : (execOp a.eval o).run P w = .ok (.enter f (#[v] ++ cl.args.map a.eval)) w := by
    unfold execOp
    rw [ho]
    simp only [resolve, hg, hv, Sem.run_bind, Sem.run_pure, Result.andThen_ok, invoke]
    have e : (#[Value.iface t v] ++ cl.args.map a.eval)[0]? = some (.iface t v) := by rw [Array.getElem?_append_left (by simp)]; rfl
    have e2 : (#[Value.iface t v] ++ cl.args.map a.eval).extract 1 (#[Value.iface t v] ++ cl.args.map a.eval).size = cl.args.map a.eval := by
      apply Array.ext'
      simp
      rw [List.take_of_length_le (by simp)]
    simp only [e, e2]
    exact (mth_run hm v _ w).2
  rw [this, Oper.upon_enter]
  exact h
end Fw
set_option linter.unusedVariables false
set_option linter.unusedSimpArgs false
namespace Fw
open Go

inductive AOpd where
  | t (n : Nat)
  | c (x : AV)

structure AS where
  env : Nat → AV
  hs : HS
def AS.ev (s : AS) : AOpd → AV
  | .t n => s.env n
  | .c x => x
def AS.put (s : AS) (d : Option Nat) (x : AV) : AS :=
  match d with
  | none => s
  | some d => { s with env := fun i => if i = d then x else s.env i }

def absV (v : Value) : Option AV :=
  match v with
  | .agg cs => (zcells (.agg cs)).map .agg
  | v => match zcells v with
    | some [x] => some x
    | _ => none

theorem absV_rep {v : Value} {x : AV} (h : absV v = some x) (c : CM) : Rep c v x := by
  unfold absV at h
  split at h
  · rename_i cs
    cases hz : zcells (.agg cs) with
    | none => simp [hz] at h
    | some zs =>
      simp [hz] at h; subst h
      obtain ⟨h1, h2⟩ := zcells_rep (c := c) hz
      have := Rep.agg (c := c) cs.toList zs (by simpa [Value.cells] using h1.1) (by simpa [Value.cells] using h1.2) h2
      simpa using this
  · rename_i hna
    split at h <;> (try (cases h; done))
    rename_i y hz
    injection h with h; subst h
    obtain ⟨h1, _⟩ := zcells_rep (c := c) hz
    have hv : v.cells = #[v] := by cases v <;> first | rfl | exact absurd rfl (hna _)
    rw [hv] at h1
    exact h1.2 0 v y rfl rfl

def cvO (n : Nat) : Operand → Option AOpd
  | .tmp t => if t < n then some (.t t) else none
  | .const v => (absV v).map .c
  | .func f => some (.c (.fn (.func f) [] []))
  | .global _ => none
def cvOs (n : Nat) : List Operand → Option (List AOpd)
  | [] => some []
  | o :: os => match cvO n o, cvOs n os with
    | some x, some xs => some (x :: xs)
    | _, _ => none
def cvOpt (n : Nat) : Option Operand → Option (Option AOpd)
  | none => some none
  | some o => (cvO n o).map some

structure EnvRep (n : Nat) (c : CM) (a : Act) (s : AS) : Prop where
  size : a.tmps.size = n
  rep : ∀ (t : Nat) (v : Value), a.tmps[t]? = some v → Rep c v (s.env t)

theorem cvO_sound {n : Nat} {o : Operand} {od : AOpd} (h : cvO n o = some od) {c : CM} {a : Act} {s : AS} (he : EnvRep n c a s) : Rep c (a.eval o) (s.ev od) := by
  cases o with
  | tmp t =>
    simp only [cvO] at h
    split at h <;> (try (cases h; done))
    rename_i ht
    injection h with h; subst h
    have ht' : t < a.tmps.size := by rw [he.size]; exact ht
    have := he.rep t a.tmps[t] (by simp [ht'])
    simpa [Act.eval, AS.ev, ht'] using this
  | const v =>
    simp only [cvO] at h
    cases hv : absV v with
    | none => simp [hv] at h
    | some x => simp [hv] at h; subst h; exact absV_rep hv c
  | func f =>
    simp only [cvO] at h
    injection h with h; subst h
    exact Rep.fn (.func f) [] [] [] [] rfl rfl (fun j v y h => by simp at h) (fun j v y h => by simp at h)
  | global g => simp [cvO] at h

theorem cvOs_sound {n : Nat} {c : CM} {a : Act} {s : AS} (he : EnvRep n c a s) : ∀ {os : List Operand} {ods : List AOpd}, cvOs n os = some ods → RepL c (os.map a.eval) (ods.map s.ev)
  | [], ods, h => by simp only [cvOs] at h; injection h with h; subst h; exact .nil
  | o :: os, ods, h => by
    simp only [cvOs] at h
    split at h <;> (try (cases h; done))
    rename_i x xs h1 h2
    injection h with h; subst h
    exact .cons (cvO_sound h1 he) (cvOs_sound he h2)
theorem cvOpt_sound {n : Nat} {c : CM} {a : Act} {s : AS} (he : EnvRep n c a s) {o : Option Operand} {od : Option AOpd} (h : cvOpt n o = some od) : optRep c (o.map a.eval) (od.map s.ev) := by
  cases o with
  | none => simp only [cvOpt] at h; injection h with h; subst h; trivial
  | some o =>
    simp only [cvOpt] at h
    cases hx : cvO n o with
    | none => simp [hx] at h
    | some x => simp [hx] at h; subst h; exact cvO_sound hx he

/-- operations on maps, and copy -/
inductive MOp where
  | copy (sz : Nat)
  | mkmap
  | look (kd : Nat) (ck : Bool) (z : AV)
  | mupd (kd : Nat)
  | mlen
  | min3
  | max3
  | sidx
  | ssl (lo hi : Bool)
  | asl (ag : Bool) (sz len : Nat) (lo hi : Bool)
  | popm (sz : Nat)
  | litm (sz : Nat)
  | tass (t : TypeId) (z : AV)
  | b2s
  | glob
  | appx (sz : Nat)
/-- an owned slice, its spare cells given up -/
def loseT : AV → AV
  | .osl ag sz i len _ => .msl ag sz i 0 len false
  | x => x
/-- the laid variable's content -/
def cntA : AV := .sl 1 (cntN.map (AV.int .i64)) .shared
/-- the bounds of a part, out of the operands behind the first -/
def mlo (lo : Bool) (xs : List AV) : Option AV := if lo = true then xs[0]? else none
def mhi (lo hi : Bool) (xs : List AV) : Option AV := if hi = true then (if lo = true then xs[1]? else xs[0]?) else none
def amem : MOp → HS → List AV → Option (AV × HS)
  | .copy sz, hs, [p, q] => acopy sz hs p q
  | .mkmap, hs, [] => some (.mp hs.nh, { hs with mp := fun j => if j = hs.nh then some [] else hs.mp j, nh := hs.nh + 1 })
  | .look kd ck z, hs, [m, k] => (amlook kd ck z hs.mp m k).map (·, hs)
  | .mupd kd, hs, [m, k, v] => (amupd kd hs m k v).map (.undef, ·)
  | .mlen, hs, [m] => (amlen hs.mp m).map (·, hs)
  | .min3, hs, [x, y, z] => (amin3 x y z).map (·, hs)
  | .max3, hs, [x, y, z] => (amax3 x y z).map (·, hs)
  | .sidx, hs, [x, y] => (asidx x y).map (·, hs)
  | .ssl lo hi, hs, x :: xs => (asslice x (aidx (mlo lo xs)) (aidx (mhi lo hi xs))).map (·, hs)
  | .asl ag sz len lo hi, hs, x :: xs => (aaslice ag sz len x (aidx (mlo lo xs)) (aidx (mhi lo hi xs))).map (·, hs)
  | .popm sz, hs, [p, q] => apop sz hs p q
  | .litm sz, hs, xs => alit sz hs xs
  | .tass t z, hs, [x] => (atass t z x).map (·, hs)
  | .b2s, hs, [x] => (ab2s hs.heap x).map (·, hs)
  | .glob, hs, [] => some (cntA, hs)
  | .appx sz, hs, [p, q] => (aappm sz hs p q).map fun r => (loseT r.1, r.2)
  | _, _, _ => none
inductive AOp where
  | mem (m : MOp) (xs : List AOpd)
  | mv (x : AOpd)
  | pick (c a b : AOpd)
  | bin (kd : Nat) (op : BinOp) (x y : AOpd)
  | un (op : UnOp) (x : AOpd)
  | conv (k : IntKind) (x : AOpd)
  | alloc (zs : List AV)
  | make (ag : Bool) (sz : Nat) (zs : List AV) (x y : AOpd)
  | cap (x : AOpd)
  | appz (sz : Nat) (x y : AOpd)
  | boxi (x : AOpd)
  | boxm (x : AOpd)
  | build (zs : List AV) (parts : List (Nat × Nat × AOpd))
  | buildSl (sz : Nat) (xs : List AOpd)
  | load (ag : Bool) (sz : Nat) (x : AOpd)
  | store (sz : Nat) (x y : AOpd)
  | faddr (ag : Bool) (sz off : Nat) (x : AOpd)
  | field (ag : Bool) (sz off : Nat) (x : AOpd)
  | iaddrS (sz : Nat) (x i : AOpd)
  | iaddrA (len : Nat) (ag : Bool) (sz : Nat) (x i : AOpd)
  | index (len : Nat) (ag : Bool) (sz : Nat) (x i : AOpd)
  | slice (sz : Nat) (x : AOpd) (lo hi mx : Option AOpd)
  | extract (x : AOpd) (n : Nat)
  | mkfn (f : Fn) (xs ys : List AOpd)
  | len (st : Bool) (x : AOpd)
  | append (sz : Nat) (x y : AOpd)
  | appm (sz : Nat) (x y : AOpd)
  | min (x y : AOpd)
  | max (x y : AOpd)
  | mkif (t : TypeId) (x : AOpd)
  | nilchk (x : AOpd)
  | pcall (f : FuncId) (args : List AOpd)
  | lcall (f : FuncId) (args : List AOpd)
  | hcall (f : FuncId) (args : List AOpd)
  | callv (x : AOpd) (args : List AOpd)
  | invk (ms : List AV) (x : AOpd) (args : List AOpd)
  | panic (x : AOpd)

abbrev PCtx := FuncId → List AV → Option AV
def CtxOk (P : Program) (C : PCtx) : Prop := ∀ f args r, C f args = some r → PCall P f args r

def apick : AV → AV → AV → Option AV
  | .bool b, x, y => some (bif b then x else y)
  | _, _, _ => none
def astoAll (sz : Nat) : List AV → Bool
  | [] => true
  | x :: xs => x.sto && x.cells.length == sz && astoAll sz xs
def alenK (st : Bool) : AV → Option AV
  | .sl _ xs _ => if st then none else some (.int .i64 xs.length)
  | .nilsl => if st then none else some (.int .i64 0)
  | .msl _ _ _ _ len _ => if st then none else some (.int .i64 len)
  | .osl _ _ _ len _ => if st then none else some (.int .i64 len)
  | .esl => if st then none else some (.int .i64 0)
  | .str s => if st then some (.int .i64 s.size) else none
  | _ => none
/-- the zero cells of a row -/
def mzs (zs : List AV) (n : Nat) : List AV := (List.range n).map fun j => zs.getD (j % zs.length) .undef
def amake (ag : Bool) (sz : Nat) (zs : List AV) (hs : HS) : AV → AV → Option (AV × HS)
  | .int _ l, .int _ n =>
    if 0 ≤ l ∧ l ≤ n ∧ n ≤ 1000000 then
      if l = n then some (.msl ag sz hs.nh 0 l.toNat true, { hs with heap := fun i => if i = hs.nh then some (mzs zs (l.toNat * sz)) else hs.heap i, nh := hs.nh + 1 })
      else if l = 0 then some (.sl sz [] (.own hs.nt), { hs with nt := hs.nt + 1, tok := fun t => if t = hs.nt then true else hs.tok t })
      else none
    else none
  | _, _ => none
def acap : AV → Option AV
  | .nilsl => some (.int .i64 0)
  | .sl _ xs .exact => some (.int .i64 xs.length)
  | .msl _ _ _ _ len true => some (.int .i64 len)
  | _ => none
/-- a nil slice, and so many zero elements behind it -/
def aappz (sz : Nat) (hs : HS) : AV → AV → Option (AV × HS)
  | .nilsl, .int _ n => if 0 < n ∧ n ≤ 1000000 then some (.gsl sz n.toNat hs.nt, { hs with nt := hs.nt + 1, tok := fun t => if t = hs.nt then true else hs.tok t }) else none
  | _, _ => none
def alcall (C : PCtx) (f : FuncId) (hs : HS) (args : List AV) : Option AV :=
  match C f (args.map (frz hs.heap 2)) with
  | some r => if r.scal = true then some r else none
  | none => none
def anilchk : AV → Option AV
  | .ptr x => some (.ptr x)
  | .ref i o => some (.ref i o)
  | .fn (.func f) xs ys => some (.fn (.func f) xs ys)
  | _ => none

/-- the value of an operation, and memory behind it; calls that use the caller's memory, and panics, apart -/
def evalOp (C : PCtx) (s : AS) : AOp → Option (AV × HS)
  | .mv x => some (s.ev x, s.hs)
  | .mem m xs => amem m s.hs (xs.map s.ev)
  | .pick c a b => (apick (s.ev c) (s.ev a) (s.ev b)).map (·, s.hs)
  | .bin kd op x y => (abin kd op (s.ev x) (s.ev y)).map (·, s.hs)
  | .un op x => (aun op (s.ev x)).map (·, s.hs)
  | .conv k x => (aconv k (s.ev x)).map (·, s.hs)
  | .alloc zs => some (.ref s.hs.nh 0, { s.hs with heap := fun i => if i = s.hs.nh then some zs else s.hs.heap i, nh := s.hs.nh + 1 })
  | .cap x => (acap (s.ev x)).map (·, s.hs)
  | .appz sz x y => aappz sz s.hs (s.ev x) (s.ev y)
  | .make ag sz zs x y => amake ag sz zs s.hs (s.ev x) (s.ev y)
  | .boxi x => if (s.ev x).sto = true then some (.ptr (s.ev x), s.hs) else none
  | .boxm x => if (s.ev x).sto = true then some (.ref s.hs.nh 0, { s.hs with heap := fun i => if i = s.hs.nh then some (s.ev x).cells else s.hs.heap i, nh := s.hs.nh + 1 }) else none
  | .build zs parts => (afill zs (parts.map fun p => (p.1, p.2.1, s.ev p.2.2))).map fun r => (.agg r, s.hs)
  | .buildSl sz xs => if astoAll sz (xs.map s.ev) = true then some (.sl sz (xs.map s.ev) .exact, s.hs) else none
  | .load ag sz x => (aload s.hs.heap ag sz (s.ev x)).map (·, s.hs)
  | .store sz x y => (astore s.hs.heap sz (s.ev x) (s.ev y)).map fun h => (.undef, { s.hs with heap := h })
  | .faddr ag sz off x => (afaddr ag sz off (s.ev x)).map (·, s.hs)
  | .field ag sz off x => (afield ag sz off (s.ev x)).map (·, s.hs)
  | .iaddrS sz x i => (aidxS sz (s.ev x) (s.ev i)).map (·, s.hs)
  | .iaddrA len ag sz x i => (aidxA len ag sz (s.ev x) (s.ev i)).map (·, s.hs)
  | .index len ag sz x i => (aindex len ag sz (s.ev x) (s.ev i)).map (·, s.hs)
  | .slice sz x lo hi mx => (aslice sz (s.ev x) (lo.map s.ev) (hi.map s.ev) (mx.map s.ev)).map (·, s.hs)
  | .extract x n => (aextract (s.ev x) n).map (·, s.hs)
  | .mkfn f xs ys => some (.fn f (xs.map s.ev) (ys.map s.ev), s.hs)
  | .len st x => (alenK st (s.ev x)).map (·, s.hs)
  | .append sz x y => aappend sz s.hs (s.ev x) (s.ev y)
  | .appm sz x y => aappm sz s.hs (s.ev x) (s.ev y)
  | .min x y => (amin (s.ev x) (s.ev y)).map (·, s.hs)
  | .max x y => (amax (s.ev x) (s.ev y)).map (·, s.hs)
  | .mkif t x => some (.iface t (s.ev x), s.hs)
  | .nilchk x => (anilchk (s.ev x)).map (·, s.hs)
  | .pcall f args => (C f (args.map s.ev)).map (·, s.hs)
  | .lcall f args => (alcall C f s.hs (args.map s.ev)).map (·, s.hs)
  | .hcall _ _ => none
  | .callv _ _ => none
  | .invk _ _ _ => none
  | .panic _ => none

/-! the compacting -/
def kdBase (P : Program) (t : TypeId) : Nat :=
  match P.underlying t with
  | some .bool => 1
  | some (.slice _) => 2
  | some (.pointer _) => 3
  | some (.func _ _ _) => 4
  | some (.interface _) => 5
  | some (.array n _) => n + 10
  | some (.struct fs) => fs.size + 10
  | _ => 0
def isCst : Operand → Bool
  | .const _ => true
  | _ => false
def kindOf (P : Program) (op : BinOp) (t : TypeId) (x y : Operand) : Nat :=
  if kdBase P t = 0 ∨ (kdOk P t (kdBase P t) = true ∧ (10 ≤ kdBase P t → P.eqGuardType P.depth t = false) ∧ (kdBase P t = 5 → isCst x = true ∨ isCst y = true)) then kdBase P t else 0

def isG0 : Operand → Bool
  | .global 0 => true
  | _ => false
def cvLoad (P : Program) (n : Nat) (t : TypeId) (a : Operand) : Option AOp :=
  match P.underlying t, P.info? t, cvO n a with
  | some d, some i, some x => some (.load (descAgg d) i.size x)
  | some d, some i, none => if isG0 a = true ∧ descAgg d = false ∧ i.size = 1 then some (.mem .glob []) else none
  | _, _, _ => none
def cvStore (P : Program) (n : Nat) (t : TypeId) (a v : Operand) : Option AOp :=
  match P.info? t, cvO n a, cvO n v with
  | some i, some x, some y => some (.store i.size x y)
  | _, _, _ => none
def cvFaddr (P : Program) (n : Nat) (t : TypeId) (a : Operand) (f : Nat) : Option AOp :=
  match P.underlying t, cvO n a with
  | some (.struct fs), some x => match fs[f]? with
    | some fl => match P.underlying fl.type, P.info? fl.type with
      | some d, some i => if i.size = 0 then none else some (.faddr (descAgg d) i.size fl.offset x)
      | _, _ => none
    | none => none
  | _, _ => none
def cvField (P : Program) (n : Nat) (t : TypeId) (a : Operand) (f : Nat) : Option AOp :=
  match P.underlying t, cvO n a with
  | some (.struct fs), some x => match fs[f]? with
    | some fl => match P.underlying fl.type, P.info? fl.type with
      | some d, some i => some (.field (descAgg d) i.size fl.offset x)
      | _, _ => none
    | none => none
  | _, _ => none
def cvIaddr (P : Program) (n : Nat) (t : TypeId) (a k : Operand) : Option AOp :=
  match P.underlying t, cvO n a, cvO n k with
  | some (.slice e), some x, some y => match P.info? e with
    | some i => some (.iaddrS i.size x y)
    | none => none
  | some (.array len e), some x, some y => match P.underlying e, P.info? e with
    | some d, some i => some (.iaddrA len (descAgg d) i.size x y)
    | _, _ => none
  | _, _, _ => none
def cvIndex (P : Program) (n : Nat) (t : TypeId) (a k : Operand) : Option AOp :=
  match P.underlying t, cvO n a, cvO n k with
  | some (.array len e), some x, some y => match P.underlying e, P.info? e with
    | some d, some i => some (.index len (descAgg d) i.size x y)
    | _, _ => none
  | some .string, some x, some y => some (.mem .sidx [x, y])
  | _, _, _ => none
def cvSlice (P : Program) (n : Nat) (t : TypeId) (a : Operand) (lo hi mx : Option Operand) : Option AOp :=
  match P.underlying t, cvO n a, cvOpt n lo, cvOpt n hi, cvOpt n mx with
  | some (.slice e), some x, some l, some h, some m => match P.info? e with
    | some i => some (.slice i.size x l h m)
    | none => none
  | some .string, some x, some l, some h, some none => some (.mem (.ssl l.isSome h.isSome) (x :: (l.toList ++ h.toList)))
  | some (.array len e), some x, some l, some h, some none => match P.underlying e, P.info? e with
    | some d, some i => some (.mem (.asl (descAgg d) i.size len l.isSome h.isSome) (x :: (l.toList ++ h.toList)))
    | _, _ => none
  | _, _, _, _, _ => none
def cvZero (P : Program) (t : TypeId) : Option (List AV) :=
  match P.info? t with
  | some i => match i.zero with
    | some z => zcells z
    | none => none
  | none => none
def cvPlaces (P : Program) : List Field → Option (List (Nat × Nat))
  | [] => some []
  | f :: fs => match P.info? f.type, cvPlaces P fs with
    | some i, some r => some ((f.offset, i.size) :: r)
    | _, _ => none
def cvParts (n : Nat) (place : Nat → Option (Nat × Nat)) : List (Nat × Operand) → Option (List (Nat × Nat × AOpd))
  | [] => some []
  | (i, o) :: ps => match place i, cvO n o, cvParts n place ps with
    | some (off, sz), some x, some r => some ((off, sz, x) :: r)
    | _, _, _ => none
def cvBuild (P : Program) (n : Nat) (t : TypeId) (parts : List (Nat × Operand)) : Option AOp :=
  match cvZero P t, P.underlying t with
  | some zs, some (.struct fs) => match cvPlaces P fs.toList with
    | some pl => (cvParts n (pl[·]?) parts).map (.build zs)
    | none => none
  | some zs, some (.array _ e) => match P.info? e with
    | some i => (cvParts n (fun k => some (k * i.size, i.size)) parts).map (.build zs)
    | none => none
  | _, _ => none
/-- parts numbered from k on -/
def inRow : Nat → List (Nat × Operand) → Bool
  | _, [] => true
  | k, (i, _) :: ps => i == k && inRow (k + 1) ps
def cvBuildSl (P : Program) (n : Nat) (t : TypeId) (len : Nat) (parts : List (Nat × Operand)) : Option AOp :=
  match P.underlying t, cvOs n (parts.map (·.2)) with
  | some (.slice e), some xs => match P.info? e with
    | some i => match i.zero with
      | some z => if inRow 0 parts && parts.length == len && len * i.size ≤ 16777216 && (zcells z).isSome && z.cells.size == i.size then some (.buildSl i.size xs) else none
      | none => none
    | none => none
  | _, _ => none
def cvAppend (P : Program) (n : Nat) (ts : List TypeId) (args : List Operand) : Option AOp :=
  match ts, args with
  | [t, u], [a, b] => if t = u then
      match P.underlying t, cvO n a, cvO n b with
      | some (.slice e), some x, some y => match P.info? e with
        | some i => match i.zero with
          | some z => if z.cells.size == i.size && i.bytes ≤ 65536 && i.bytes != 0 then some (.append i.size x y) else none
          | none => none
        | none => none
      | _, _, _ => none
    else none
  | _, _ => none
def cvMake (P : Program) (n : Nat) (t : TypeId) (l c : Operand) : Option AOp :=
  match P.underlying t, cvO n l, cvO n c with
  | some (.slice e), some x, some y => match P.underlying e, P.info? e with
    | some d, some i => match i.zero with
      | some z => match zcells z with
        | some zs => if z.cells.size == i.size && i.bytes ≤ 65536 then some (.make (descAgg d) i.size zs x y) else none
        | none => none
      | none => none
    | _, _ => none
  | _, _, _ => none
def cvCap (P : Program) (n : Nat) (ts : List TypeId) (args : List Operand) : Option AOp :=
  match ts, args with
  | [t], [a] => match P.underlying t, cvO n a with
    | some (.slice _), some x => some (.cap x)
    | _, _ => none
  | _, _ => none
def cvAppz (P : Program) (n : Nat) (ts : List TypeId) (args : List Operand) : Option AOp :=
  match ts, args with
  | [t, u], [a, b] => match P.underlying t, P.underlying u, cvO n a, cvO n b with
    | some (.slice e), some (.int _), some x, some y => match P.info? e with
      | some i => match i.zero with
        | some z => if z.cells.size == i.size && i.bytes ≤ 65536 && i.bytes != 0 then some (.appz i.size x y) else none
        | none => none
      | none => none
    | _, _, _, _ => none
  | _, _ => none
def cvLen (P : Program) (n : Nat) (ts : List TypeId) (args : List Operand) : Option AOp :=
  match ts, args with
  | [t], [a] => match P.underlying t, cvO n a with
    | some (.slice _), some x => some (.len false x)
    | some .string, some x => some (.len true x)
    | some (.map _ _), some x => some (.mem .mlen [x])
    | _, _ => none
  | _, _ => none
def cvCopy (P : Program) (n : Nat) (ts : List TypeId) (args : List Operand) : Option AOp :=
  match ts, args with
  | [t, _], [a, b] => match P.underlying t, cvO n a, cvO n b with
    | some (.slice e), some x, some y => match P.info? e with
      | some i => some (.mem (.copy i.size) [x, y])
      | none => none
    | _, _, _ => none
  | _, _ => none
def cvLook (P : Program) (n : Nat) (t : TypeId) (x k : Operand) (ck : Bool) : Option AOp :=
  match P.underlying t, cvO n x, cvO n k with
  | some (.map kt e), some x, some k => match P.info? e with
    | some i => match i.zero with
      | some z => match absV z with
        | some za => some (.mem (.look (keyKd P kt) ck za) [x, k])
        | none => none
      | none => none
    | none => none
  | _, _, _ => none
def cvMupd (P : Program) (n : Nat) (t : TypeId) (x k v : Operand) : Option AOp :=
  match P.underlying t, cvO n x, cvO n k, cvO n v with
  | some (.map kt _), some x, some k, some v => some (.mem (.mupd (keyKd P kt)) [x, k, v])
  | _, _, _, _ => none
def cvTass (P : Program) (n : Nat) (t : TypeId) (x : Operand) : Option AOp :=
  match P.underlying t, P.info? t, cvO n x with
  | some (.interface _), _, _ => none
  | some _, some i, some x => match i.zero with
    | some z => match absV z with
      | some za => some (.mem (.tass t za) [x])
      | none => none
    | none => none
  | _, _, _ => none
def cvB2s (P : Program) (n : Nat) (s d : TypeId) (x : Operand) : Option AOp :=
  match P.underlying s, P.underlying d, cvO n x with
  | some (.slice e), some .string, some x => match P.underlying e with
    | some (.int .u8) => some (.mem .b2s [x])
    | _ => none
  | _, _, _ => none
def cvCall (P : Program) (n : Nat) (pure : List FuncId) (c : Call) : Option AOp :=
  match c.callee with
  | .builtin .len => cvLen P n c.argTypes.toList c.args.toList
  | .builtin .copy => cvCopy P n c.argTypes.toList c.args.toList
  | .builtin .append => match cvAppend P n c.argTypes.toList c.args.toList with
    | some x => some x
    | none => cvAppz P n c.argTypes.toList c.args.toList
  | .builtin .cap => cvCap P n c.argTypes.toList c.args.toList
  | .builtin .min => match cvOs n c.args.toList with
    | some [x, y] => some (.min x y)
    | some [x, y, z] => some (.mem .min3 [x, y, z])
    | _ => none
  | .builtin .max => match cvOs n c.args.toList with
    | some [x, y] => some (.max x y)
    | some [x, y, z] => some (.mem .max3 [x, y, z])
    | _ => none
  | .value (.func f) => match cvOs n c.args.toList with
    | some xs => if pure.contains f then some (.pcall f xs) else if pure.contains (f + 100000) then some (.lcall f xs) else some (.hcall f xs)
    | none => none
  | .value v => match cvO n v, cvOs n c.args.toList with
    | some x, some xs => some (.callv x xs)
    | _, _ => none
  | .invoke r name => match cvO n r, cvOs n c.args.toList with
    | some x, some xs => some (.invk (mths P name) x xs)
    | _, _ => none
  | _ => none
def isMut (muts : List Nat) : Option Nat → Bool
  | some d => muts.contains d
  | none => false
/-- an append whose result may be stored into -/
def toM : AOp → AOp
  | .append sz x y => .mem (.appx sz) [x, y]
  | o => o
/-- a slice that is built where it may be stored into and appended to -/
def toL : AOp → AOp
  | .buildSl sz xs => .mem (.litm sz) xs
  | o => o
/-- a stack that shrinks -/
def toP : AOp → AOp
  | .slice sz x none (some hi) none => .mem (.popm sz) [x, hi]
  | o => o
def cvtOp (P : Program) (n : Nat) (muts : List Nat) (pure : List FuncId) (dst : Option Nat) : Op → Option AOp
  | .move x => (cvO n x).map .mv
  | .assign x => (cvO n x).map .mv
  | .pick c a b => match cvO n c, cvO n a, cvO n b with
    | some c, some a, some b => some (.pick c a b)
    | _, _, _ => none
  | .binOp op t x y _ => match cvO n x, cvO n y with
    | some x', some y' => some (.bin (kindOf P op t x y) op x' y')
    | _, _ => none
  | .unOp op _ x => (cvO n x).map (.un op)
  | .convert s d x => match P.underlying s, P.underlying d, cvO n x with
    | some _, some (.int k), some x => some (.conv k x)
    | _, _, _ => cvB2s P n s d x
  | .alloc t => (cvZero P t).map .alloc
  | .makeMap _ none => some (.mem .mkmap [])
  | .lookup t x k ck => cvLook P n t x k ck
  | .mapUpdate t m k v => cvMupd P n t m k v
  | .insert t m k v => cvMupd P n t m k v
  | .typeAssert x _ t true => cvTass P n t x
  | .makeSlice t l c => cvMake P n t l c
  | .box t x => (cvO n x).map fun x => bif isMut muts dst then .boxm x else .boxi x
  | .build t ps => cvBuild P n t ps.toList
  | .buildSlice t l ps => (cvBuildSl P n t l ps.toList).map fun o => bif isMut muts dst then toL o else o
  | .load t a => cvLoad P n t a
  | .store t a v => cvStore P n t a v
  | .fieldAddr t x f => cvFaddr P n t x f
  | .field t x f => cvField P n t x f
  | .indexAddr t x i => cvIaddr P n t x i
  | .index t x i => cvIndex P n t x i
  | .slice t x lo hi mx => (cvSlice P n t x lo hi mx).map fun o => bif isMut muts dst then toP o else o
  | .extract x k => (cvO n x).map (.extract · k)
  | .makeFunc f xs ys => match cvOs n xs.toList, cvOs n ys.toList with
    | some a, some b => some (.mkfn f a b)
    | _, _ => none
  | .makeInterface t x => match P.underlying t, cvO n x with
    | some (.interface _), _ => none
    | some _, some x => some (.mkif t x)
    | _, _ => none
  | .nilCheck x => (cvO n x).map .nilchk
  | .call c => (cvCall P n pure c).map fun o => bif isMut muts dst then toM o else o
  | .panic x => (cvO n x).map .panic
  | _ => none
end Fw
