/-
  The fewest stones of the example: evaluated. Own work.
-/
import Derived.Test.YtdcpkgedaflnmaaGreatDoorC5
import Derived.Test.YtdcpkgedaflnmaaGreatDoorFx3
set_option linter.unusedVariables false
namespace Go.Proofs.YtdcpkgedaflnmaaGreatDoor.Ik
open Go Fw

def T0 : FuncId → Option Entry
  | 45 => some (.code A45 R45 20)
  | 46 => some (.code A46 R46 38)
  | 47 => some (.code A47 R47 35)
  | 48 => some (.code A48 R48 22)
  | 82 => some (.code A82 R82 9)
  | 84 => some (.code A84 R84 9)
  | 89 => some (.code A89 R89 34)
  | 98 => some (.code A98 R98 15)
  | 99 => some (.code A99 R99 10)
  | 100 => some (.code A100 R100 10)
  | 101 => some (.code A101 R101 6)
  | 102 => some (.code A102 R102 25)
  | 103 => some (.code A103 R103 25)
  | 125 => some (.code A125 R125 19)
  | 130 => some (.code A130 R130 34)
  | 131 => some (.code A131 R131 66)
  | 199 => some (.code A199 R199 9)
  | _ => none
theorem t0 : TOk Tryz.prog T0 := by
  intro f x h
  unfold T0 at h
  split at h <;> (try (cases h; done)) <;> (injection h with h; subst h) <;> first
    | exact ⟨_, _, ok45⟩ | exact ⟨_, _, ok46⟩ | exact ⟨_, _, ok47⟩ | exact ⟨_, _, ok48⟩ | exact ⟨_, _, ok82⟩ | exact ⟨_, _, ok84⟩ | exact ⟨_, _, ok89⟩ | exact ⟨_, _, ok98⟩ | exact ⟨_, _, ok99⟩ | exact ⟨_, _, ok100⟩
    | exact ⟨_, _, ok101⟩ | exact ⟨_, _, ok102⟩ | exact ⟨_, _, ok103⟩ | exact ⟨_, _, ok125⟩ | exact ⟨_, _, ok130⟩ | exact ⟨_, _, ok131⟩ | exact ⟨_, _, ok199⟩
def inkA : List AV := [.sl 1 (ints [1, 1, 3, 3, 4]) .exact, .sl 1 (ints [2, 3, 2, 3, 4]) .exact, .sl 1 (ints [4, 4, 4, 4, 4]) .exact]
def three : AV → Bool
  | .tup [.sl _ xs _, .int .i64 e] => xs.length == 3 && e == 0
  | _ => false
theorem few : ∃ sz xs c, xs.length = 3 ∧ PCall Tryz.prog 89 [.agg [.int .i64 5, .sl 1 inkA .exact], .sl 1 (ints [3, 4]) .exact] (.tup [.sl sz xs c, .int .i64 0]) := by
  obtain ⟨r, h1, h2⟩ := evIs_sound t0 (L := 40) (n := 12) (f := 89) (args := [.agg [.int .i64 5, .sl 1 inkA .exact], .sl 1 (ints [3, 4]) .exact]) (ok := three) (by decide +kernel)
  unfold three at h1
  split at h1
  · rename_i sz xs c e
    simp only [Bool.and_eq_true, beq_iff_eq] at h1
    obtain ⟨h1, rfl⟩ := h1
    exact ⟨sz, xs, c, h1, h2⟩
  · cases h1
end Go.Proofs.YtdcpkgedaflnmaaGreatDoor.Ik
