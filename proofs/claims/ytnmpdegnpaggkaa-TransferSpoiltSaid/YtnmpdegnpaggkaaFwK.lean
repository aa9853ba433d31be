/-
  The model's operations, compacted, and that each one's run reads as its abstract result. Own work; over any program.
-/
import Derived.Test.YtnmpdegnpaggkaaFwJ
set_option linter.unusedVariables false
set_option linter.unusedSimpArgs false
namespace Fw
open Go

inductive AOpd where
  | t (n : Nat)
  | c (x : AV)

structure AS where
  env : Nat → AV
  hs : HS
def AS.ev (s : AS) : AOpd → AV
  | .t n => s.env n
  | .c x => x
def AS.put (s : AS) (d : Option Nat) (x : AV) : AS :=
  match d with
  | none => s
  | some d => { s with env := fun i => if i = d then x else s.env i }

def absV (v : Value) : Option AV :=
  match v with
  | .agg cs => (zcells (.agg cs)).map .agg
  | v => match zcells v with
    | some [x] => some x
    | _ => none

theorem absV_rep {v : Value} {x : AV} (h : absV v = some x) (c : CM) : Rep c v x := by
  unfold absV at h
  split at h
  · rename_i cs
    cases hz : zcells (.agg cs) with
    | none => simp [hz] at h
    | some zs =>
      simp [hz] at h; subst h
      obtain ⟨h1, h2⟩ := zcells_rep (c := c) hz
      have := Rep.agg (c := c) cs.toList zs (by simpa [Value.cells] using h1.1) (by simpa [Value.cells] using h1.2) h2
      simpa using this
  · rename_i hna
    split at h <;> (try (cases h; done))
    rename_i y hz
    injection h with h; subst h
    obtain ⟨h1, _⟩ := zcells_rep (c := c) hz
    have hv : v.cells = #[v] := by cases v <;> first | rfl | exact absurd rfl (hna _)
    rw [hv] at h1
    exact h1.2 0 v y rfl rfl

def cvO (n : Nat) : Operand → Option AOpd
  | .tmp t => if t < n then some (.t t) else none
  | .const v => (absV v).map .c
  | .func f => some (.c (.fn (.func f) [] []))
  | .global _ => none
def cvOs (n : Nat) : List Operand → Option (List AOpd)
  | [] => some []
  | o :: os => match cvO n o, cvOs n os with
    | some x, some xs => some (x :: xs)
    | _, _ => none
def cvOpt (n : Nat) : Option Operand → Option (Option AOpd)
  | none => some none
  | some o => (cvO n o).map some

structure EnvRep (n : Nat) (c : CM) (a : Act) (s : AS) : Prop where
  size : a.tmps.size = n
  rep : ∀ (t : Nat) (v : Value), a.tmps[t]? = some v → Rep c v (s.env t)

theorem cvO_sound {n : Nat} {o : Operand} {od : AOpd} (h : cvO n o = some od) {c : CM} {a : Act} {s : AS} (he : EnvRep n c a s) : Rep c (a.eval o) (s.ev od) := by
  cases o with
  | tmp t =>
    simp only [cvO] at h
    split at h <;> (try (cases h; done))
    rename_i ht
    injection h with h; subst h
    have ht' : t < a.tmps.size := by rw [he.size]; exact ht
    have := he.rep t a.tmps[t] (by simp [ht'])
    simpa [Act.eval, AS.ev, ht'] using this
  | const v =>
    simp only [cvO] at h
    cases hv : absV v with
    | none => simp [hv] at h
    | some x => simp [hv] at h; subst h; exact absV_rep hv c
  | func f =>
    simp only [cvO] at h
    injection h with h; subst h
    exact Rep.fn (.func f) [] [] [] [] rfl rfl (fun j v y h => by simp at h) (fun j v y h => by simp at h)
  | global g => simp [cvO] at h

theorem cvOs_sound {n : Nat} {c : CM} {a : Act} {s : AS} (he : EnvRep n c a s) : ∀ {os : List Operand} {ods : List AOpd}, cvOs n os = some ods → RepL c (os.map a.eval) (ods.map s.ev)
  | [], ods, h => by simp only [cvOs] at h; injection h with h; subst h; exact .nil
  | o :: os, ods, h => by
    simp only [cvOs] at h
    split at h <;> (try (cases h; done))
    rename_i x xs h1 h2
    injection h with h; subst h
    exact .cons (cvO_sound h1 he) (cvOs_sound he h2)
theorem cvOpt_sound {n : Nat} {c : CM} {a : Act} {s : AS} (he : EnvRep n c a s) {o : Option Operand} {od : Option AOpd} (h : cvOpt n o = some od) : optRep c (o.map a.eval) (od.map s.ev) := by
  cases o with
  | none => simp only [cvOpt] at h; injection h with h; subst h; trivial
  | some o =>
    simp only [cvOpt] at h
    cases hx : cvO n o with
    | none => simp [hx] at h
    | some x => simp [hx] at h; subst h; exact cvO_sound hx he

inductive AOp where
  | mv (x : AOpd)
  | pick (c a b : AOpd)
  | bin (kd : Nat) (op : BinOp) (x y : AOpd)
  | un (op : UnOp) (x : AOpd)
  | conv (k : IntKind) (x : AOpd)
  | alloc (zs : List AV)
  | boxi (x : AOpd)
  | boxm (x : AOpd)
  | build (zs : List AV) (parts : List (Nat × Nat × AOpd))
  | buildSl (sz : Nat) (xs : List AOpd)
  | load (ag : Bool) (sz : Nat) (x : AOpd)
  | store (sz : Nat) (x y : AOpd)
  | faddr (ag : Bool) (sz off : Nat) (x : AOpd)
  | field (ag : Bool) (sz off : Nat) (x : AOpd)
  | iaddrS (sz : Nat) (x i : AOpd)
  | iaddrA (len : Nat) (ag : Bool) (sz : Nat) (x i : AOpd)
  | index (len : Nat) (ag : Bool) (sz : Nat) (x i : AOpd)
  | slice (sz : Nat) (x : AOpd) (lo hi mx : Option AOpd)
  | extract (x : AOpd) (n : Nat)
  | mkfn (f : Fn) (xs ys : List AOpd)
  | len (st : Bool) (x : AOpd)
  | append (sz : Nat) (x y : AOpd)
  | min (x y : AOpd)
  | max (x y : AOpd)
  | mkif (t : TypeId) (x : AOpd)
  | nilchk (x : AOpd)
  | pcall (f : FuncId) (args : List AOpd)
  | hcall (f : FuncId) (args : List AOpd)
  | callv (x : AOpd) (args : List AOpd)
  | panic (x : AOpd)

abbrev PCtx := FuncId → List AV → Option AV
def CtxOk (P : Program) (C : PCtx) : Prop := ∀ f args r, C f args = some r → PCall P f args r

def apick : AV → AV → AV → Option AV
  | .bool b, x, y => some (bif b then x else y)
  | _, _, _ => none
def astoAll (sz : Nat) : List AV → Bool
  | [] => true
  | x :: xs => x.sto && x.cells.length == sz && astoAll sz xs
def alenK (st : Bool) : AV → Option AV
  | .sl _ xs _ => if st then none else some (.int .i64 xs.length)
  | .nilsl => if st then none else some (.int .i64 0)
  | .str s => if st then some (.int .i64 s.size) else none
  | _ => none
def anilchk : AV → Option AV
  | .ptr x => some (.ptr x)
  | .ref i o => some (.ref i o)
  | .fn (.func f) xs ys => some (.fn (.func f) xs ys)
  | _ => none

/-- the value of an operation, and memory behind it; calls that use the caller's memory, and panics, apart -/
def evalOp (C : PCtx) (s : AS) : AOp → Option (AV × HS)
  | .mv x => some (s.ev x, s.hs)
  | .pick c a b => (apick (s.ev c) (s.ev a) (s.ev b)).map (·, s.hs)
  | .bin kd op x y => (abin kd op (s.ev x) (s.ev y)).map (·, s.hs)
  | .un op x => (aun op (s.ev x)).map (·, s.hs)
  | .conv k x => (aconv k (s.ev x)).map (·, s.hs)
  | .alloc zs => some (.ref s.hs.nh 0, { s.hs with heap := fun i => if i = s.hs.nh then some zs else s.hs.heap i, nh := s.hs.nh + 1 })
  | .boxi x => if (s.ev x).sto = true then some (.ptr (s.ev x), s.hs) else none
  | .boxm x => if (s.ev x).sto = true then some (.ref s.hs.nh 0, { s.hs with heap := fun i => if i = s.hs.nh then some (s.ev x).cells else s.hs.heap i, nh := s.hs.nh + 1 }) else none
  | .build zs parts => (afill zs (parts.map fun p => (p.1, p.2.1, s.ev p.2.2))).map fun r => (.agg r, s.hs)
  | .buildSl sz xs => if astoAll sz (xs.map s.ev) = true then some (.sl sz (xs.map s.ev) .exact, s.hs) else none
  | .load ag sz x => (aload s.hs.heap ag sz (s.ev x)).map (·, s.hs)
  | .store sz x y => (astore s.hs.heap sz (s.ev x) (s.ev y)).map fun h => (.undef, { s.hs with heap := h })
  | .faddr ag sz off x => (afaddr ag sz off (s.ev x)).map (·, s.hs)
  | .field ag sz off x => (afield ag sz off (s.ev x)).map (·, s.hs)
  | .iaddrS sz x i => (aidxS sz (s.ev x) (s.ev i)).map (·, s.hs)
  | .iaddrA len ag sz x i => (aidxA len ag sz (s.ev x) (s.ev i)).map (·, s.hs)
  | .index len ag sz x i => (aindex len ag sz (s.ev x) (s.ev i)).map (·, s.hs)
  | .slice sz x lo hi mx => (aslice sz (s.ev x) (lo.map s.ev) (hi.map s.ev) (mx.map s.ev)).map (·, s.hs)
  | .extract x n => (aextract (s.ev x) n).map (·, s.hs)
  | .mkfn f xs ys => some (.fn f (xs.map s.ev) (ys.map s.ev), s.hs)
  | .len st x => (alenK st (s.ev x)).map (·, s.hs)
  | .append sz x y => aappend sz s.hs (s.ev x) (s.ev y)
  | .min x y => (amin (s.ev x) (s.ev y)).map (·, s.hs)
  | .max x y => (amax (s.ev x) (s.ev y)).map (·, s.hs)
  | .mkif t x => some (.iface t (s.ev x), s.hs)
  | .nilchk x => (anilchk (s.ev x)).map (·, s.hs)
  | .pcall f args => (C f (args.map s.ev)).map (·, s.hs)
  | .hcall _ _ => none
  | .callv _ _ => none
  | .panic _ => none

/-! the compacting -/
def kdBase (P : Program) (t : TypeId) : Nat :=
  match P.underlying t with
  | some .bool => 1
  | some (.slice _) => 2
  | some (.pointer _) => 3
  | some (.func _ _ _) => 4
  | some (.interface _) => 5
  | some (.array _ _) => 6
  | _ => 0
def isCst : Operand → Bool
  | .const _ => true
  | _ => false
def kindOf (P : Program) (op : BinOp) (t : TypeId) (x y : Operand) : Nat :=
  if kdBase P t = 0 ∨ (kdOk P t (kdBase P t) = true ∧ (kdBase P t = 6 → P.eqGuardType P.depth t = false) ∧ (kdBase P t = 5 → isCst x = true ∨ isCst y = true)) then kdBase P t else 0

def cvLoad (P : Program) (n : Nat) (t : TypeId) (a : Operand) : Option AOp :=
  match P.underlying t, P.info? t, cvO n a with
  | some d, some i, some x => some (.load (descAgg d) i.size x)
  | _, _, _ => none
def cvStore (P : Program) (n : Nat) (t : TypeId) (a v : Operand) : Option AOp :=
  match P.info? t, cvO n a, cvO n v with
  | some i, some x, some y => some (.store i.size x y)
  | _, _, _ => none
def cvFaddr (P : Program) (n : Nat) (t : TypeId) (a : Operand) (f : Nat) : Option AOp :=
  match P.underlying t, cvO n a with
  | some (.struct fs), some x => match fs[f]? with
    | some fl => match P.underlying fl.type, P.info? fl.type with
      | some d, some i => if i.size = 0 then none else some (.faddr (descAgg d) i.size fl.offset x)
      | _, _ => none
    | none => none
  | _, _ => none
def cvField (P : Program) (n : Nat) (t : TypeId) (a : Operand) (f : Nat) : Option AOp :=
  match P.underlying t, cvO n a with
  | some (.struct fs), some x => match fs[f]? with
    | some fl => match P.underlying fl.type, P.info? fl.type with
      | some d, some i => some (.field (descAgg d) i.size fl.offset x)
      | _, _ => none
    | none => none
  | _, _ => none
def cvIaddr (P : Program) (n : Nat) (t : TypeId) (a k : Operand) : Option AOp :=
  match P.underlying t, cvO n a, cvO n k with
  | some (.slice e), some x, some y => match P.info? e with
    | some i => some (.iaddrS i.size x y)
    | none => none
  | some (.array len e), some x, some y => match P.underlying e, P.info? e with
    | some d, some i => some (.iaddrA len (descAgg d) i.size x y)
    | _, _ => none
  | _, _, _ => none
def cvIndex (P : Program) (n : Nat) (t : TypeId) (a k : Operand) : Option AOp :=
  match P.underlying t, cvO n a, cvO n k with
  | some (.array len e), some x, some y => match P.underlying e, P.info? e with
    | some d, some i => some (.index len (descAgg d) i.size x y)
    | _, _ => none
  | _, _, _ => none
def cvSlice (P : Program) (n : Nat) (t : TypeId) (a : Operand) (lo hi mx : Option Operand) : Option AOp :=
  match P.underlying t, cvO n a, cvOpt n lo, cvOpt n hi, cvOpt n mx with
  | some (.slice e), some x, some l, some h, some m => match P.info? e with
    | some i => some (.slice i.size x l h m)
    | none => none
  | _, _, _, _, _ => none
def cvZero (P : Program) (t : TypeId) : Option (List AV) :=
  match P.info? t with
  | some i => match i.zero with
    | some z => zcells z
    | none => none
  | none => none
def cvPlaces (P : Program) : List Field → Option (List (Nat × Nat))
  | [] => some []
  | f :: fs => match P.info? f.type, cvPlaces P fs with
    | some i, some r => some ((f.offset, i.size) :: r)
    | _, _ => none
def cvParts (n : Nat) (place : Nat → Option (Nat × Nat)) : List (Nat × Operand) → Option (List (Nat × Nat × AOpd))
  | [] => some []
  | (i, o) :: ps => match place i, cvO n o, cvParts n place ps with
    | some (off, sz), some x, some r => some ((off, sz, x) :: r)
    | _, _, _ => none
def cvBuild (P : Program) (n : Nat) (t : TypeId) (parts : List (Nat × Operand)) : Option AOp :=
  match cvZero P t, P.underlying t with
  | some zs, some (.struct fs) => match cvPlaces P fs.toList with
    | some pl => (cvParts n (pl[·]?) parts).map (.build zs)
    | none => none
  | some zs, some (.array _ e) => match P.info? e with
    | some i => (cvParts n (fun k => some (k * i.size, i.size)) parts).map (.build zs)
    | none => none
  | _, _ => none
/-- parts numbered from k on -/
def inRow : Nat → List (Nat × Operand) → Bool
  | _, [] => true
  | k, (i, _) :: ps => i == k && inRow (k + 1) ps
def cvBuildSl (P : Program) (n : Nat) (t : TypeId) (len : Nat) (parts : List (Nat × Operand)) : Option AOp :=
  match P.underlying t, cvOs n (parts.map (·.2)) with
  | some (.slice e), some xs => match P.info? e with
    | some i => match i.zero with
      | some z => if inRow 0 parts && parts.length == len && len * i.size ≤ 16777216 && (zcells z).isSome && z.cells.size == i.size then some (.buildSl i.size xs) else none
      | none => none
    | none => none
  | _, _ => none
def cvAppend (P : Program) (n : Nat) (ts : List TypeId) (args : List Operand) : Option AOp :=
  match ts, args with
  | [t, u], [a, b] => if t = u then
      match P.underlying t, cvO n a, cvO n b with
      | some (.slice e), some x, some y => match P.info? e with
        | some i => match i.zero with
          | some z => if z.cells.size == i.size && i.bytes ≤ 65536 && i.bytes != 0 then some (.append i.size x y) else none
          | none => none
        | none => none
      | _, _, _ => none
    else none
  | _, _ => none
def cvLen (P : Program) (n : Nat) (ts : List TypeId) (args : List Operand) : Option AOp :=
  match ts, args with
  | [t], [a] => match P.underlying t, cvO n a with
    | some (.slice _), some x => some (.len false x)
    | some .string, some x => some (.len true x)
    | _, _ => none
  | _, _ => none
def cvCall (P : Program) (n : Nat) (pure : List FuncId) (c : Call) : Option AOp :=
  match c.callee with
  | .builtin .len => cvLen P n c.argTypes.toList c.args.toList
  | .builtin .append => cvAppend P n c.argTypes.toList c.args.toList
  | .builtin .min => match cvOs n c.args.toList with
    | some [x, y] => some (.min x y)
    | _ => none
  | .builtin .max => match cvOs n c.args.toList with
    | some [x, y] => some (.max x y)
    | _ => none
  | .value (.func f) => match cvOs n c.args.toList with
    | some xs => if pure.contains f then some (.pcall f xs) else some (.hcall f xs)
    | none => none
  | .value v => match cvO n v, cvOs n c.args.toList with
    | some x, some xs => some (.callv x xs)
    | _, _ => none
  | _ => none
def isMut (muts : List Nat) : Option Nat → Bool
  | some d => muts.contains d
  | none => false
def cvtOp (P : Program) (n : Nat) (muts : List Nat) (pure : List FuncId) (dst : Option Nat) : Op → Option AOp
  | .move x => (cvO n x).map .mv
  | .assign x => (cvO n x).map .mv
  | .pick c a b => match cvO n c, cvO n a, cvO n b with
    | some c, some a, some b => some (.pick c a b)
    | _, _, _ => none
  | .binOp op t x y _ => match cvO n x, cvO n y with
    | some x', some y' => some (.bin (kindOf P op t x y) op x' y')
    | _, _ => none
  | .unOp op _ x => (cvO n x).map (.un op)
  | .convert s d x => match P.underlying s, P.underlying d, cvO n x with
    | some _, some (.int k), some x => some (.conv k x)
    | _, _, _ => none
  | .alloc t => (cvZero P t).map .alloc
  | .box t x => (cvO n x).map fun x => bif isMut muts dst then .boxm x else .boxi x
  | .build t ps => cvBuild P n t ps.toList
  | .buildSlice t l ps => cvBuildSl P n t l ps.toList
  | .load t a => cvLoad P n t a
  | .store t a v => cvStore P n t a v
  | .fieldAddr t x f => cvFaddr P n t x f
  | .field t x f => cvField P n t x f
  | .indexAddr t x i => cvIaddr P n t x i
  | .index t x i => cvIndex P n t x i
  | .slice t x lo hi mx => cvSlice P n t x lo hi mx
  | .extract x k => (cvO n x).map (.extract · k)
  | .makeFunc f xs ys => match cvOs n xs.toList, cvOs n ys.toList with
    | some a, some b => some (.mkfn f a b)
    | _, _ => none
  | .makeInterface t x => match P.underlying t, cvO n x with
    | some (.interface _), _ => none
    | some _, some x => some (.mkif t x)
    | _, _ => none
  | .nilCheck x => (cvO n x).map .nilchk
  | .call c => cvCall P n pure c
  | .panic x => (cvO n x).map .panic
  | _ => none
end Fw
