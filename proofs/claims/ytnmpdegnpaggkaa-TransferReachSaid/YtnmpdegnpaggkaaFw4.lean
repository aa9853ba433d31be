/-
  Lists of numbers that are built by appending. Own work; over any program.
-/
import Derived.Test.YtnmpdegnpaggkaaFw3
set_option linter.unusedVariables false
set_option linter.unusedSimpArgs false
namespace Fw
open Go

theorem share_int_inv {x : AV} {k : IntKind} {n : Int} (h : x.share = .int k n) : x = .int k n := by
  cases x <;> simp_all [AV.share]
theorem share_ints_inv : ∀ {xs : List AV} {l : List Int}, xs.map AV.share = ints l → xs = ints l
  | [], [], h => rfl
  | [], a :: l, h => by simp [ints] at h
  | x :: xs, [], h => by simp [ints] at h
  | x :: xs, a :: l, h => by
    simp only [ints, List.map_cons, List.cons.injEq] at h
    rw [share_int_inv h.1, share_ints_inv (l := l) h.2]
    rfl
theorem Outs.asI {hs : HS} {x : AV} {l : List Int} (h : Outs 1 hs x (ints l)) (hl : l.length < 4294967296) : Fw.asI x = some l := by
  rcases h.inv with ⟨rfl, h2⟩ | ⟨xs, k, rfl, h1, h2, h3⟩
  · cases l with
    | nil => rfl
    | cons a l => simp [ints] at h2
  · rw [share_ints_inv h2]
    exact asI_sl hl
theorem Outs.add1 {hs : HS} {x : AV} {l : List Int} (h : Outs 1 hs x (ints l)) (hl : l.length ≤ 1000000) (n : Int) :
    ∃ y hs', aappend 1 hs x (.sl 1 [.int .i64 n] .exact) = some (y, hs') ∧ Outs 1 hs' y (ints (l ++ [n])) ∧ SameMem hs hs' := by
  obtain ⟨y, hs', h1, h2, h3⟩ := append_outs h (q := .sl 1 [.int .i64 n] .exact) (ys := [.int .i64 n]) (asV_sl (by simp)) (by simp [ints]; omega)
  refine ⟨y, hs', h1, ?_, h3⟩
  simpa [ints] using h2
theorem copy_outs {hs : HS} {x : AV} {l : List Int} (hx : Fw.asI x = some l) (hne : l ≠ []) (hl : l.length ≤ 1000000) :
    ∃ y hs', aappend 1 hs (.sl 1 [] .exact) x = some (y, hs') ∧ Outs 1 hs' y (ints l) ∧ SameMem hs hs' ∧ KeepT hs hs' := by
  obtain ⟨hs', a1, a2, a3, a4, a5⟩ := append_exact (sz := 1) (hs := hs) (xs := []) (q := x) (ys := ints l) (asI_asV hx) (by simp [ints]; omega) (by simpa [ints] using hne)
  refine ⟨_, hs', a1, ⟨?_, ?_⟩, a3, a4⟩
  · exact ⟨a2, by rw [a5]; omega⟩
  · rw [outV_ne (by simpa [ints] using hne)]
    simp
theorem asI_outV {l : List Int} (h : l.length < 4294967296) : Fw.asI (outV 1 (ints l)) = some l := by
  cases l with
  | nil => rfl
  | cons a r => exact asI_sl h
end Fw
