/-
  Arithmetic, comparisons, literals on abstract values. Own work; over any program.
-/
import Derived.Test.YtnmpdegnpaggkaaFwF
set_option linter.unusedVariables false
set_option linter.unusedSimpArgs false
namespace Fw
open Go

def aint (op : BinOp) (k : IntKind) (a : Int) (k' : IntKind) (b : Int) : Option AV :=
  match op with
  | .shl => if 0 ≤ b then some (.int k (k.wrap (a * 2 ^ (min b.toNat k.bits)))) else none
  | .shr => if 0 ≤ b then some (.int k (a.fdiv (2 ^ (min b.toNat k.bits)))) else none
  | .add => if k = k' then some (.int k (k.wrap (a + b))) else none
  | .sub => if k = k' then some (.int k (k.wrap (a - b))) else none
  | .mul => if k = k' then some (.int k (k.wrap (a * b))) else none
  | .quo => if k = k' ∧ b ≠ 0 then some (.int k (k.wrap (a.tdiv b))) else none
  | .rem => if k = k' ∧ b ≠ 0 then some (.int k (a.tmod b)) else none
  | .and => if k = k' then some (.int k (k.wrap (BitVec.ofInt k.bits a &&& BitVec.ofInt k.bits b).toNat)) else none
  | .or => if k = k' then some (.int k (k.wrap (BitVec.ofInt k.bits a ||| BitVec.ofInt k.bits b).toNat)) else none
  | .xor => if k = k' then some (.int k (k.wrap (BitVec.ofInt k.bits a ^^^ BitVec.ofInt k.bits b).toNat)) else none
  | .andNot => if k = k' then some (.int k (k.wrap (BitVec.ofInt k.bits a &&& ~~~(BitVec.ofInt k.bits b)).toNat)) else none
  | .eql => if k = k' then some (.bool (decide (a = b))) else none
  | .neq => if k = k' then some (.bool (decide (a ≠ b))) else none
  | .lss => if k = k' then some (.bool (decide (a < b))) else none
  | .leq => if k = k' then some (.bool (decide (a ≤ b))) else none
  | .gtr => if k = k' then some (.bool (decide (b < a))) else none
  | .geq => if k = k' then some (.bool (decide (b ≤ a))) else none

/-- is the value the nil of its kind? (kd: 2 slices, 3 pointers, 4 functions, 5 interfaces) -/
def anil (kd : Nat) : AV → Option Bool
  | .nilsl => if kd = 2 then some true else none
  | .sl _ _ _ => if kd = 2 then some false else none
  | .nilptr => if kd = 3 then some true else none
  | .ptr _ => if kd = 3 then some false else none
  | .ref _ _ => if kd = 3 then some false else none
  | .nilfn => if kd = 4 then some true else none
  | .fn _ _ _ => if kd = 4 then some false else none
  | .nilif => if kd = 5 then some true else none
  | .iface _ _ => if kd = 5 then some false else none
  | _ => none
/-- equality of lists of integers -/
def aeqInts : List AV → List AV → Option Bool
  | [], [] => some true
  | .int k a :: xs, .int k' b :: ys => if k = k' then (aeqInts xs ys).map (decide (a = b) && ·) else none
  | _, _ => none
def aeq (kd : Nat) (x y : AV) : Option Bool :=
  match kd with
  | 1 => match x, y with | .bool a, .bool b => some (decide (a = b)) | _, _ => none
  | 6 => match x, y with | .agg xs, .agg ys => if xs.length = 2 then aeqInts xs ys else none | _, _ => none
  | kd => match anil kd x, anil kd y with | some a, some true => some a | some true, some false => some false | _, _ => none
def abin (kd : Nat) (op : BinOp) (x y : AV) : Option AV :=
  match x, y with
  | .int k a, .int k' b => aint op k a k' b
  | x, y => match op with
    | .eql => (aeq kd x y).map .bool
    | .neq => (aeq kd x y).map fun b => .bool (!b)
    | _ => none

theorem sound_aint {P : Program} {t : TypeId} {op : BinOp} {k k' : IntKind} {a b : Int} {x : AV} (hx : aint op k a k' b = some x) (w : World) (c : CM) :
    ∃ v, (binOp op t (.int k a) (.int k' b)).run P w = .ok v w ∧ Rep c v x := by
  cases op <;> simp only [aint] at hx <;> split at hx <;> (try (cases hx; done)) <;> rename_i hc <;> (injection hx with hx; subst hx)
  case quo => obtain ⟨rfl, hb⟩ := hc; exact ⟨_, by simp [binOp, Op.intDiv, hb], .int _ _⟩
  case rem => obtain ⟨rfl, hb⟩ := hc; exact ⟨_, by simp [binOp, Op.intDiv, hb], .int _ _⟩
  case shl => exact ⟨_, by simp [binOp, Op.shift, Int.not_lt.2 hc], .int _ _⟩
  case shr => exact ⟨_, by simp [binOp, Op.shift, Int.not_lt.2 hc], .int _ _⟩
  case eql => subst hc; exact ⟨.bool (a == b), by simp [binOp, Op.intCmp], .bool _⟩
  case neq => subst hc; exact ⟨.bool (a != b), by simp [binOp, Op.intCmp], by rw [show (a != b) = decide (a ≠ b) from by by_cases h : a = b <;> simp [h]]; exact .bool _⟩
  case add => subst hc; exact ⟨_, by simp [binOp, Op.intArith], .int _ _⟩
  case sub => subst hc; exact ⟨_, by simp [binOp, Op.intArith], .int _ _⟩
  case mul => subst hc; exact ⟨_, by simp [binOp, Op.intArith], .int _ _⟩
  case and => subst hc; exact ⟨_, by simp [binOp, Op.intBits], .int _ _⟩
  case or => subst hc; exact ⟨_, by simp [binOp, Op.intBits], .int _ _⟩
  case xor => subst hc; exact ⟨_, by simp [binOp, Op.intBits], .int _ _⟩
  case andNot => subst hc; exact ⟨_, by simp [binOp, Op.intBits], .int _ _⟩
  case lss => subst hc; exact ⟨_, by simp [binOp, Op.intCmp], .bool _⟩
  case leq => subst hc; exact ⟨_, by simp [binOp, Op.intCmp], .bool _⟩
  case gtr => subst hc; exact ⟨_, by simp [binOp, Op.intCmp], .bool _⟩
  case geq => subst hc; exact ⟨_, by simp [binOp, Op.intCmp], .bool _⟩

/-- what 'kd' says of a type -/
def kdOk (P : Program) (t : TypeId) (kd : Nat) : Bool :=
  match kd, P.underlying t with
  | 1, some .bool => true
  | 2, some (.slice _) => true
  | 3, some (.pointer _) => true
  | 4, some (.func _ _ _) => true
  | 5, some (.interface _) => true
  | 6, some (.array n e) => n == 2 && (match P.underlying e with | some (.int _) => (P.info? e).map (·.size) == some 1 | _ => false)
  | _, _ => false

theorem anil_inv {c : CM} {v : Value} {x : AV} (h : Rep c v x) {kd : Nat} {b : Bool} (hb : anil kd x = some b) :
    (kd = 2 ∧ ∃ a n m, v = .slice a n m ∧ a.isNone = b) ∨ (kd = 3 ∧ ∃ a, v = .pointer a ∧ a.isNone = b) ∨
    (kd = 4 ∧ ((v = .nilFunc ∧ b = true) ∨ (∃ f x y, v = .func f x y) ∧ b = false)) ∨ (kd = 5 ∧ ((v = .nilIface ∧ b = true) ∨ (∃ t u, v = .iface t u) ∧ b = false)) := by
  cases h <;> simp only [anil] at hb <;> (try (cases hb; done)) <;> split at hb <;> (try (cases hb; done)) <;> rename_i hk <;> subst hk <;> (injection hb with hb; subst hb)
  · exact .inr (.inl ⟨rfl, _, rfl, rfl⟩)
  · exact .inl ⟨rfl, _, _, _, rfl, rfl⟩
  · exact .inr (.inr (.inr ⟨rfl, .inl ⟨rfl, rfl⟩⟩))
  · exact .inr (.inr (.inl ⟨rfl, .inl ⟨rfl, rfl⟩⟩))
  · exact .inr (.inl ⟨rfl, _, rfl, rfl⟩)
  · exact .inr (.inl ⟨rfl, _, rfl, rfl⟩)
  · exact .inl ⟨rfl, _, _, _, rfl, rfl⟩
  · exact .inr (.inr (.inl ⟨rfl, .inr ⟨⟨_, _, _, rfl⟩, rfl⟩⟩))
  · exact .inr (.inr (.inr ⟨rfl, .inr ⟨⟨_, _, rfl⟩, rfl⟩⟩))

theorem aeqInts_cons {x : AV} {xs ys : List AV} {b : Bool} (h : aeqInts (x :: xs) ys = some b) :
    ∃ k a b' ys' r, x = .int k a ∧ ys = .int k b' :: ys' ∧ aeqInts xs ys' = some r ∧ b = (decide (a = b') && r) := by
  cases ys with
  | nil => cases x <;> simp [aeqInts] at h
  | cons y ys =>
    cases x <;> cases y <;> simp only [aeqInts] at h <;> (try (cases h; done))
    case int.int k a k' b' =>
      split at h <;> (try (cases h; done))
      rename_i hk
      subst hk
      cases hr : aeqInts xs ys with
      | none => simp [hr] at h
      | some r =>
        simp [hr] at h
        exact ⟨k, a, b', ys, r, rfl, rfl, hr, h.symm⟩
theorem aeqInts_nil {ys : List AV} {b : Bool} (h : aeqInts [] ys = some b) : ys = [] ∧ b = true := by
  cases ys with
  | nil => simp only [aeqInts] at h; injection h with h; exact ⟨rfl, h.symm⟩
  | cons y ys => simp [aeqInts] at h

theorem run_equal_array2 {P : Program} {t e : TypeId} {k0 : IntKind} {i : TypeInfo} (ht : P.underlying t = some (.array 2 e)) (he : P.underlying e = some (.int k0)) (hi : P.info? e = some i) (h1 : i.size = 1)
    {c : CM} {vs us : List Value} {xs ys : List AV} (hv : RepL c vs xs) (hu : RepL c us ys) {b : Bool} (hb : aeqInts xs ys = some b) (hn : xs.length = 2) (w : World) :
    (Op.equal t (.agg vs.toArray) (.agg us.toArray)).run P w = .ok b w := by
  have hagg : ∀ w, (isAgg e).run P w = .ok false w := fun w => by simp [isAgg, run_underlying he]
  match xs, hn with
  | [x1, x2], _ =>
    obtain ⟨k1, a1, b1, ys1, r1, rfl, rfl, hb1, rfl⟩ := aeqInts_cons hb
    obtain ⟨k2, a2, b2, ys2, r2, rfl, rfl, hb2, rfl⟩ := aeqInts_cons hb1
    obtain ⟨rfl, rfl⟩ := aeqInts_nil hb2
    obtain ⟨v1, vs1, rfl, hv1, hv'⟩ := hv.cons_inv
    obtain ⟨v2, vs2, rfl, hv2, hv''⟩ := hv'.cons_inv
    rw [hv''.nil_inv]
    obtain ⟨u1, us1, rfl, hu1, hu'⟩ := hu.cons_inv
    obtain ⟨u2, us2, rfl, hu2, hu''⟩ := hu'.cons_inv
    rw [hu''.nil_inv]
    cases hv1; cases hv2; cases hu1; cases hu2
    unfold Op.equal Op.maxDepth
    rw [show (10000 : Nat) = 9999 + 1 from rfl, Op.equalIn]
    simp only [Sem.run_bind, run_underlying ht, Result.andThen_ok, Go.sizeOf, typeInfo, run_program, hi, Sem.run_pure, h1]
    rw [Std.Legacy.Range.forIn_eq_forIn_range']
    have e1 : ∀ w : World, (Op.equalIn 9999 e (.int k1 a1) (.int k1 b1)).run P w = .ok (a1 == b1) w := fun w => run_equalIn_int w 9998 e k1 k0 a1 b1 he
    have e2 : ∀ w : World, (Op.equalIn 9999 e (.int k2 a2) (.int k2 b2)).run P w = .ok (a2 == b2) w := fun w => run_equalIn_int w 9998 e k2 k0 a2 b2 he
    by_cases h1 : a1 = b1
    · by_cases h2 : a2 = b2
      · subst h1; subst h2
        simp [Std.Legacy.Range.size, List.range'_succ, part, hagg, e1, e2]
      · have h2' : (a2 == b2) = false := by simpa using h2
        subst h1
        simp [Std.Legacy.Range.size, List.range'_succ, part, hagg, e1, e2, h2, h2']
    · have h1' : (a1 == b1) = false := by simpa using h1
      simp [Std.Legacy.Range.size, List.range'_succ, part, hagg, e1, e2, h1, h1']
end Fw
