/-
  strings.Trim at the cutset "mv". Own work.
  The small functions. Own work.
  Checks of strips. Own work.
  What can be folded in. Own work.
  The segments that can be folded in. Own work.
  slices.Grow and slices.Concat of lists of numbers. Own work.
-/
import Derived.Test.YtdcpkgedaflnmaaDoorC1
import Derived.Test.YtdcpkgedaflnmaaDoorFx4
import Derived.Test.YtdcpkgedaflnmaaDoorFx3
set_option linter.unusedVariables false
set_option linter.unusedSimpArgs false
namespace Go.Proofs.YtdcpkgedaflnmaaDoor.Fo
open Go Fw

/-- a set of bytes as a table -/
def asc (m : List UInt8) : List AV := (List.range 256).map fun j => .bool (decide (∃ c ∈ m, c.toNat = j))
/-- what is left behind the first bytes of the set -/
def tl (m : List UInt8) (l : List UInt8) : List UInt8 := l.dropWhile (· ∈ m)
/-- what is left ahead of the last bytes of the set -/
def tr (m : List UInt8) (l : List UInt8) : List UInt8 := (l.reverse.dropWhile (· ∈ m)).reverse
def D77 : PCtx := PCtx.nil.add 103 fun a => match a with | [.str s] => if s = bs [109, 118] then some (.tup [.agg (asc [109, 118]), .bool true]) else none | _ => none
@[simp] theorem D77_77 : D77 103 [.str (bs [109, 118])] = some (.tup [.agg (asc [109, 118]), .bool true]) := by simp [D77, PCtx.add]
end Go.Proofs.YtdcpkgedaflnmaaDoor.Fo
set_option linter.unusedVariables false
set_option linter.unusedSimpArgs false
namespace Go.Proofs.YtdcpkgedaflnmaaDoor.Fo
open Go Fw

def btw (lo n hi : Int) : Bool := decide (lo ≤ n) && decide (n ≤ hi)
/-- specs by numbers, and by one list -/
def S3 (f : Int → Int → Int → Bool) : List AV → Option AV
  | [.int .i64 a, .int .i64 b, .int .i64 c] => some (.bool (f a b c))
  | _ => none
@[simp] theorem S3_i {f : Int → Int → Int → Bool} {a b c : Int} : S3 f [.int .i64 a, .int .i64 b, .int .i64 c] = some (.bool (f a b c)) := id rfl
def SI (f : List Int → Int) : List AV → Option AV
  | [x] => (asI x).map fun l => .int .i64 (f l)
  | _ => none
def C0 : PCtx := PCtx.nil.add 83 (S3 btw)
@[simp] theorem C0_51 : C0 83 = S3 btw := id rfl
/-- lengths -/
def meas (l : List Int) : Int := if l.length = 0 then 1 else if 7 < l.length then 2 else if l.all (fun n => btw 1 n 350) = true then (if 350 < l.sum then 16 else 0) else 3
end Go.Proofs.YtdcpkgedaflnmaaDoor.Fo
set_option linter.unusedVariables false
set_option linter.unusedSimpArgs false
namespace Go.Proofs.YtdcpkgedaflnmaaDoor.Fo
open Go Fw

@[simp] theorem faddr_0 {x y : AV} : afaddr false 1 0 (.ptr (.agg [x, y])) = some (.ptr x) := id rfl
@[simp] theorem faddr_1 {x y : AV} : afaddr false 1 1 (.ptr (.agg [x, y])) = some (.ptr y) := id rfl
@[simp] theorem sto_agg {xs : List AV} : (AV.agg xs).sto = true := id rfl
@[simp] theorem load_agg {hp : Nat → Option (List AV)} {x y : AV} : aload hp true 2 (.ptr (.agg [x, y])) = some (.agg [x, y]) := id rfl
@[simp] theorem load_ref2 {hp : Nat → Option (List AV)} {i : Nat} {x y : AV} (h : hp i = some [x, y]) : aload hp true 2 (.ref i 0) = some (.agg [x, y]) := by simp [aload, h, apart]
@[simp] theorem faddr_r {i o : Nat} {ag : Bool} {sz k : Nat} : afaddr ag sz k (.ref i o) = some (.ref i (o + k)) := id rfl
def fmv (f : List UInt8) : Bool := f.all fun c => c == 109 || c == 118
def chk (l : List Int) (f : List UInt8) : Int := if meas l ≠ 0 then meas l else if f.length = l.length - 1 ∧ fmv f = true then 0 else 9
/-- specs by a strip -/
def SS (f : AV → List Int → List UInt8 → Option AV) : List AV → Option AV
  | [.agg [x, .str s]] => match asI x with
    | some l => f x l s.data.toList
    | none => none
  | _ => none
def S49 : List AV → Option AV
  | [.str s, .str t] => if s.size < 1000000 ∧ t = bs [109, 118] then some (.str (bs (tl [109, 118] (tr [109, 118] s.data.toList)))) else none
  | _ => none
def C1 : PCtx := (C0.add 76 (SI meas)).add 77 S49
@[simp] theorem C1_48 : C1 76 = SI meas := id rfl
@[simp] theorem C1_49 : C1 77 = S49 := id rfl
end Go.Proofs.YtdcpkgedaflnmaaDoor.Fo
set_option linter.unusedVariables false
set_option linter.unusedSimpArgs false
namespace Go.Proofs.YtdcpkgedaflnmaaDoor.Fo
open Go Fw

def gI (l : List Int) (i : Nat) : Int := l.getD i 0
def gF (f : List UInt8) (i : Nat) : UInt8 := f.getD i 0
def canB (l : List Int) (f : List UInt8) (i : Nat) : Bool :=
  !decide (l.length = 1) && !(decide (0 < i) && decide (gI l (i - 1) < gI l i)) && !(decide (i + 1 < l.length) && decide (gI l (i + 1) < gI l i)) && (decide (i = 0) || decide (i + 1 = l.length) || !decide (gF f (i - 1) = gF f i))
end Go.Proofs.YtdcpkgedaflnmaaDoor.Fo
set_option linter.unusedVariables false
set_option linter.unusedSimpArgs false
namespace Go.Proofs.YtdcpkgedaflnmaaDoor.Fo
open Go Fw

def SChk : AV → List Int → List UInt8 → Option AV := fun _ l f => some (.int .i64 (chk l f))
def SCan : List AV → Option AV
  | [.agg [x, .str s], .int .i64 i] => match asI x with
    | some l => if s.data.toList.length = l.length - 1 ∧ 0 ≤ i ∧ i < l.length then some (.bool (canB l s.data.toList i.toNat)) else none
    | none => none
  | _ => none
def C2 : PCtx := (C1.add 42 (SS SChk)).add 47 SCan
@[simp] theorem C2_19 : C2 42 = SS SChk := id rfl
@[simp] theorem C2_66 : C2 47 = SCan := id rfl
@[simp] theorem C2_51 : C2 83 = S3 btw := id rfl
end Go.Proofs.YtdcpkgedaflnmaaDoor.Fo
set_option linter.unusedVariables false
set_option linter.unusedSimpArgs false
namespace Go.Proofs.YtdcpkgedaflnmaaDoor.Fo
open Go Fw

/-- a list of numbers under way that has room of its own -/
def Own1 (hs : HS) (x : AV) (l : List Int) : Prop := (x = .nilsl ∧ l = []) ∨ ∃ k, x = .sl 1 (ints l) (.own k) ∧ hs.tok k = true ∧ k < hs.nt
theorem Own1.asI {hs : HS} {x : AV} {l : List Int} (h : Own1 hs x l) (hl : l.length < 4294967296) : Fw.asI x = some l := by
  rcases h with ⟨rfl, rfl⟩ | ⟨k, rfl, _, _⟩
  · rfl
  · exact asI_sl hl
/-! the error of a work -/
end Go.Proofs.YtdcpkgedaflnmaaDoor.Fo
