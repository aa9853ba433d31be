/-
  Lists of numbers that are built by appending. Own work; over any program.
-/
import Derived.Test.YtnmpdegnpaggkaaFw3
set_option linter.unusedVariables false
set_option linter.unusedSimpArgs false
namespace Fw
open Go

theorem share_int_inv {x : AV} {k : IntKind} {n : Int} (h : x.share = .int k n) : x = .int k n := by
  cases x <;> simp_all [AV.share]
theorem share_ints_inv : ∀ {xs : List AV} {l : List Int}, xs.map AV.share = ints l → xs = ints l
  | [], [], h => rfl
  | [], a :: l, h => by simp [ints] at h
  | x :: xs, [], h => by simp [ints] at h
  | x :: xs, a :: l, h => by
    simp only [ints, List.map_cons, List.cons.injEq] at h
    rw [share_int_inv h.1, share_ints_inv (l := l) h.2]
    rfl
theorem Outs.asI {hs : HS} {x : AV} {l : List Int} (h : Outs 1 hs x (ints l)) (hl : l.length < 4294967296) : Fw.asI x = some l := by
  rcases h.inv with ⟨rfl, h2⟩ | ⟨xs, k, rfl, h1, h2, h3⟩
  · cases l with
    | nil => rfl
    | cons a l => simp [ints] at h2
  · rw [share_ints_inv h2]
    exact asI_sl hl
theorem Outs.add1 {hs : HS} {x : AV} {l : List Int} (h : Outs 1 hs x (ints l)) (hl : l.length ≤ 1000000) (n : Int) :
    ∃ y hs', aappend 1 hs x (.sl 1 [.int .i64 n] .exact) = some (y, hs') ∧ Outs 1 hs' y (ints (l ++ [n])) ∧ SameMem hs hs' := by
  obtain ⟨y, hs', h1, h2, h3⟩ := append_outs h (q := .sl 1 [.int .i64 n] .exact) (ys := [.int .i64 n]) (asV_sl (by simp)) (by simp [ints]; omega)
  refine ⟨y, hs', h1, ?_, h3⟩
  simpa [ints] using h2
theorem copy_outs {hs : HS} {x : AV} {l : List Int} (hx : Fw.asI x = some l) (hne : l ≠ []) (hl : l.length ≤ 1000000) :
    ∃ y hs', aappend 1 hs (.sl 1 [] .exact) x = some (y, hs') ∧ Outs 1 hs' y (ints l) ∧ SameMem hs hs' ∧ KeepT hs hs' := by
  obtain ⟨hs', a1, a2, a3, a4, a5⟩ := append_exact (sz := 1) (hs := hs) (xs := []) (q := x) (ys := ints l) (asI_asV hx) (by simp [ints]; omega) (by simpa [ints] using hne)
  refine ⟨_, hs', a1, ⟨?_, ?_⟩, a3, a4⟩
  · exact ⟨a2, by rw [a5]; omega⟩
  · rw [outV_ne (by simpa [ints] using hne)]
    simp
theorem asI_outV {l : List Int} (h : l.length < 4294967296) : Fw.asI (outV 1 (ints l)) = some l := by
  cases l with
  | nil => rfl
  | cons a r => exact asI_sl h
/-- a copy of a list, and one more element: as a list under way -/
theorem copy_add {hs : HS} {x : AV} {c : List Int} (hx : Fw.asI x = some c) (hne : c ≠ []) (hl : c.length ≤ 1000000) (n : Int) :
    ∃ y1 hs1 y hs2, aappend 1 hs (.sl 1 [] .exact) x = some (y1, hs1) ∧ aappend 1 hs1 y1 (.sl 1 [.int .i64 n] .exact) = some (y, hs2) ∧ Outs 1 hs2 y (ints (c ++ [n])) ∧ SameMem hs hs2 ∧ KeepT hs hs2 := by
  obtain ⟨hs1, a1, a2, a3, a4, a5⟩ := append_exact (sz := 1) (hs := hs) (xs := []) (q := x) (ys := ints c) (asI_asV hx) (by simp [ints]; omega) (by simpa [ints] using hne)
  obtain ⟨e1, e2⟩ := elems_of (sz := 1) (q := .sl 1 [.int .i64 n] .exact) (ys := [.int .i64 n]) (asV_sl (by simp))
  refine ⟨_, hs1, .sl 1 (ints c ++ [.int .i64 n]) (.own hs1.nt), { hs1 with nt := hs1.nt + 1, tok := fun t => if t = hs1.nt then true else if t = hs.nt then false else hs1.tok t }, a1, ?_, ⟨?_, ?_⟩, ⟨?_, ?_⟩, ⟨?_, ?_⟩⟩
  · rw [append_eq (xs := ints c) (by rfl) e1 (by simp [aszOk]) e2 (by simp [ints]; omega), if_neg (by simp)]
    simp only [appP, List.nil_append]
    rw [if_pos a2]
  · simp [Fresh]
  · rw [outV_ne (by simp [ints])]
    simp [ints]
  · exact a3.heap
  · exact a3.nh
  · show hs.nt ≤ hs1.nt + 1
    omega
  · intro k hk h
    have := a4.tok k hk h
    show (if k = hs1.nt then true else if k = hs.nt then false else hs1.tok k) = true
    rw [if_neg (by omega), if_neg (by omega)]
    exact this
/-- a list of numbers that may be appended to -/
structure Grow (hs : HS) (x : AV) (l : List Int) : Prop where
  fresh : Fresh hs x
  as : Fw.asI x = some l
theorem Grow.keep {hs hs' : HS} {x : AV} {l : List Int} (h : Grow hs x l) (k : KeepT hs hs') : Grow hs' x l := by
  refine ⟨?_, h.as⟩
  have := h.fresh
  revert this
  unfold Fresh
  split <;> intro h
  · trivial
  · trivial
  · exact ⟨k.tok _ h.2 h.1, Nat.lt_of_lt_of_le h.2 k.nt⟩
  · exact h
theorem Grow.add {hs : HS} {x : AV} {l : List Int} (h : Grow hs x l) (hl : l.length ≤ 1000000) (n : Int) :
    ∃ y hs', aappend 1 hs x (.sl 1 [.int .i64 n] .exact) = some (y, hs') ∧ Grow hs' y (l ++ [n]) ∧ SameMem hs hs' := by
  have e1 : aelems (.sl 1 [.int .i64 n] .exact) = some [.int .i64 n] := rfl
  have e2 : aszOk 1 (.sl 1 [.int .i64 n] .exact) = true := rfl
  have hi : ints l ++ [.int .i64 n] = ints (l ++ [n]) := by simp [ints]
  rcases asI_inv h.as with ⟨rfl, rfl⟩ | ⟨c, rfl⟩
  · rw [append_eq (xs := []) rfl e1 rfl e2 (by simp), if_neg (by simp)]
    exact ⟨_, _, rfl, ⟨by simp [Fresh], rfl⟩, rfl, rfl⟩
  · rw [append_eq (xs := ints l) rfl e1 rfl e2 (by simp [ints]; omega), if_neg (by simp)]
    have hf := h.fresh
    cases c with
    | exact =>
      refine ⟨_, _, rfl, ⟨by simp [Fresh], ?_⟩, rfl, rfl⟩
      rw [hi]; exact asI_sl (by simp; omega)
    | shared => simp [Fresh] at hf
    | own k =>
      simp [Fresh] at hf
      simp only [appP, hf.1, if_true]
      refine ⟨_, _, rfl, ⟨by simp [Fresh], ?_⟩, rfl, rfl⟩
      rw [hi]; exact asI_sl (by simp; omega)
end Fw
