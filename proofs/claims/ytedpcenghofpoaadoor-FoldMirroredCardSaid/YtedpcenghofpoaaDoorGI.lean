/-
  Mirrored strips: the law's contract. Own work.
-/
import Derived.Test.YtedpcenghofpoaaDoorGH
import Derived.Test.YtedpcenghofpoaaDoorFx4
set_option linter.unusedVariables false
set_option linter.unusedSimpArgs false
namespace Go.Proofs.YtedpcenghofpoaaDoor
open Go Fw

/-- what stays through the law -/
structure DM (b5 a b c : Nat) (s : AS) (v : AV) (f : List UInt8) (t n : Nat) (za zc : AV) (sa sb : List UInt8) : Prop where
  e1 : s.env 1 = .int .u8 (t : Int)
  e5 : s.env 5 = .ref b5 0
  e6 : s.env 6 = .int .i64 (n : Int)
  e7 : s.env 7 = .ref a 0
  e8 : s.env 8 = .ref b 0
  e9 : s.env 9 = .ref c 0
  h5 : s.hs.heap b5 = some [v, .str (bs f)]
  ha : s.hs.heap a = some [za, .str (bs sa)]
  hb : s.hs.heap b = some [v, .str (bs sb)]
  hc : s.hs.heap c = some [zc, .str (bs f)]
  n1 : b5 ≠ a
  n2 : b5 ≠ b
  n3 : b5 ≠ c
  n4 : a ≠ b
  n5 : a ≠ c
  n6 : b ≠ c
/-- what holds within the region that lays three strips -/
structure J10 (b5 : Nat) (v : AV) (f : List UInt8) (t n : Nat) (a b c : Nat) (done : List Nat) (s : AS) : Prop where
  e1 : s.env 1 = .int .u8 (t : Int)
  e5 : s.env 5 = .ref b5 0
  e6 : s.env 6 = .int .i64 (n : Int)
  r29 : s.env 29 = .agg [.nilsl, .str (bs [])]
  r30 : s.env 30 = .ref b5 0
  r33 : s.env 33 = .ref b5 1
  h5 : s.hs.heap b5 = some [v, .str (bs f)]
  nh : b5 < s.hs.nh
  x2 : 2 ∈ done → s.env 31 = v
  x3 : 3 ∈ done → s.env 32 = .agg [v, .str (bs [])]
  x5 : 5 ∈ done → s.env 34 = .str (bs f)
  x6 : 6 ∈ done → s.env 35 = .agg [.nilsl, .str (bs f)]
  x7 : 7 ∈ done → s.env 7 = .ref a 0 ∧ b5 < a ∧ a < s.hs.nh ∧ ∃ u w, s.hs.heap a = some [u, w]
  x8 : 8 ∈ done → s.env 8 = .ref b 0 ∧ b5 < b ∧ b < s.hs.nh ∧ ∃ u w, s.hs.heap b = some [u, w]
  x9 : 9 ∈ done → s.env 9 = .ref c 0 ∧ b5 < c ∧ c < s.hs.nh ∧ ∃ u w, s.hs.heap c = some [u, w]
  d78 : 7 ∈ done → 8 ∈ done → a ≠ b
  d79 : 7 ∈ done → 9 ∈ done → a ≠ c
  d89 : 8 ∈ done → 9 ∈ done → b ≠ c
  o10 : 10 ∈ done → 7 ∈ done ∧ 8 ∈ done ∧ 9 ∈ done
  o11 : 11 ∈ done → 10 ∈ done
  o12 : 12 ∈ done → 11 ∈ done
  x10 : 10 ∈ done → s.hs.heap a = some [.nilsl, .str (bs [])]
  x11 : 11 ∈ done → s.hs.heap b = some [v, .str (bs [])]
  x12 : 12 ∈ done → s.hs.heap c = some [.nilsl, .str (bs f)]
theorem reg10 {C : PCtx} {b5 : Nat} {v : AV} {l : List Int} (hv : asI v = some l) {f : List UInt8} {t n : Nat} {s : AS} {Q : AEx → AS → Prop} (h0 : ∃ a b c, J10 b5 v f t n a b c [4, 1, 0] s)
    (hQ : ∀ s', (∃ a b c, DM b5 a b c s' v f t n .nilsl .nilsl [] []) → Q .normal s') :
    At (anyW Tryd.prog C [[], [], [1], [2], [], [4], [5], [], [], [], [7, 0, 0, 7, 8, 9], [8, 3, 10, 0, 1, 2, 3, 7, 8, 9, 10], [9, 6, 11, 0, 1, 2, 3, 4, 5, 6, 7, 8, 9, 10, 11]]
      [⟨some 29, none, .build [.nilsl, .str (bs [])] []⟩, ⟨some 30, none, .faddr false 1 0 (.t 5)⟩, ⟨some 31, none, .load false 1 (.t 30)⟩, ⟨some 32, none, .build [.nilsl, .str (bs [])] [(0, 1, (.t 31))]⟩, ⟨some 33, none, .faddr false 1 1 (.t 5)⟩, ⟨some 34, none, .load false 1 (.t 33)⟩, ⟨some 35, none, .build [.nilsl, .str (bs [])] [(1, 1, (.t 34))]⟩, ⟨some 7, none, .alloc [.nilsl, .str (bs [])]⟩, ⟨some 8, none, .alloc [.nilsl, .str (bs [])]⟩, ⟨some 9, none, .alloc [.nilsl, .str (bs [])]⟩, ⟨none, none, .store 2 (.t 7) (.t 29)⟩, ⟨none, none, .store 2 (.t 8) (.t 32)⟩, ⟨none, none, .store 2 (.t 9) (.t 35)⟩] 10 [4, 1, 0] Q s) := by
  have bl1 : afill [.nilsl, .str (bs [])] [(0, 1, v)] = some [v, .str (bs [])] := by simp [afill, setL, asI_cells hv, asI_sto hv]
  have bl2 : afill [.nilsl, .str (bs [])] [(1, 1, .str (bs f))] = some [.nilsl, .str (bs f)] := rfl
  refine anyW_inv (fun done s => (0 ∈ done ∧ 1 ∈ done ∧ 4 ∈ done) ∧ ∃ a b c, J10 b5 v f t n a b c done s) rfl ?_ ?_ 10 [4, 1, 0] s (by decide) (by decide) rfl ⟨by decide, h0⟩
  · rintro done i s hi hnd hdep ⟨⟨k0, k1, k4⟩, a, b, c, ⟨e1, e5, e6, r29, r30, r33, h5, nh, x2, x3, x5, x6, x7, x8, x9, d78, d79, d89, o10, o11, o12, x10, x11, x12⟩⟩
    match i, hi with
    | 0, _ => exact absurd k0 hnd
    | 1, _ => exact absurd k1 hnd
    | 4, _ => exact absurd k4 hnd
    | 2, _ =>
      show At _
      have l2 : aload s.hs.heap false 1 (.ref b5 0) = some v := ldc h5 rfl
      simp [r30, l2]
      exact At.of ⟨⟨by simp [k0], by simp [k1], by simp [k4]⟩, a, b, c, e1, e5, e6, r29, r30, r33, h5, nh, fun _ => rfl, fun h => x3 (by simpa using h), fun h => x5 (by simpa using h), fun h => x6 (by simpa using h), fun h => x7 (by simpa using h), fun h => x8 (by simpa using h), fun h => x9 (by simpa using h), fun h h2 => d78 (by simpa using h) (by simpa using h2), fun h h2 => d79 (by simpa using h) (by simpa using h2), fun h h2 => d89 (by simpa using h) (by simpa using h2), fun h => by have := o10 (by simpa using h); simp [this], fun h => by have := o11 (by simpa using h); simp [this], fun h => by have := o12 (by simpa using h); simp [this], fun h => x10 (by simpa using h), fun h => x11 (by simpa using h), fun h => x12 (by simpa using h)⟩
    | 3, _ =>
      show At _
      have y := x2 (hdep 2 (by simp))
      simp [y, bl1]
      exact At.of ⟨⟨by simp [k0], by simp [k1], by simp [k4]⟩, a, b, c, e1, e5, e6, r29, r30, r33, h5, nh, fun h => x2 (by simpa using h), fun _ => rfl, fun h => x5 (by simpa using h), fun h => x6 (by simpa using h), fun h => x7 (by simpa using h), fun h => x8 (by simpa using h), fun h => x9 (by simpa using h), fun h h2 => d78 (by simpa using h) (by simpa using h2), fun h h2 => d79 (by simpa using h) (by simpa using h2), fun h h2 => d89 (by simpa using h) (by simpa using h2), fun h => by have := o10 (by simpa using h); simp [this], fun h => by have := o11 (by simpa using h); simp [this], fun h => by have := o12 (by simpa using h); simp [this], fun h => x10 (by simpa using h), fun h => x11 (by simpa using h), fun h => x12 (by simpa using h)⟩
    | 5, _ =>
      show At _
      have l5 : aload s.hs.heap false 1 (.ref b5 1) = some (.str (bs f)) := ldc h5 rfl
      simp [r33, l5]
      exact At.of ⟨⟨by simp [k0], by simp [k1], by simp [k4]⟩, a, b, c, e1, e5, e6, r29, r30, r33, h5, nh, fun h => x2 (by simpa using h), fun h => x3 (by simpa using h), fun _ => rfl, fun h => x6 (by simpa using h), fun h => x7 (by simpa using h), fun h => x8 (by simpa using h), fun h => x9 (by simpa using h), fun h h2 => d78 (by simpa using h) (by simpa using h2), fun h h2 => d79 (by simpa using h) (by simpa using h2), fun h h2 => d89 (by simpa using h) (by simpa using h2), fun h => by have := o10 (by simpa using h); simp [this], fun h => by have := o11 (by simpa using h); simp [this], fun h => by have := o12 (by simpa using h); simp [this], fun h => x10 (by simpa using h), fun h => x11 (by simpa using h), fun h => x12 (by simpa using h)⟩
    | 6, _ =>
      show At _
      have y := x5 (hdep 5 (by simp))
      simp [y, bl2]
      exact At.of ⟨⟨by simp [k0], by simp [k1], by simp [k4]⟩, a, b, c, e1, e5, e6, r29, r30, r33, h5, nh, fun h => x2 (by simpa using h), fun h => x3 (by simpa using h), fun h => x5 (by simpa using h), fun _ => rfl, fun h => x7 (by simpa using h), fun h => x8 (by simpa using h), fun h => x9 (by simpa using h), fun h h2 => d78 (by simpa using h) (by simpa using h2), fun h h2 => d79 (by simpa using h) (by simpa using h2), fun h h2 => d89 (by simpa using h) (by simpa using h2), fun h => by have := o10 (by simpa using h); simp [this], fun h => by have := o11 (by simpa using h); simp [this], fun h => by have := o12 (by simpa using h); simp [this], fun h => x10 (by simpa using h), fun h => x11 (by simpa using h), fun h => x12 (by simpa using h)⟩
    | 7, _ =>
      show At _
      simp
      exact At.of ⟨⟨by simp [k0], by simp [k1], by simp [k4]⟩, s.hs.nh, b, c, e1, e5, e6, r29, r30, r33, by show (if b5 = s.hs.nh then _ else s.hs.heap b5) = _; rw [if_neg (by omega)]; exact h5, by show b5 < s.hs.nh + 1; omega, fun h => x2 (by simpa using h), fun h => x3 (by simpa using h), fun h => x5 (by simpa using h), fun h => x6 (by simpa using h), fun _ => ⟨rfl, nh, by show s.hs.nh < s.hs.nh + 1; omega, _, _, by show (if s.hs.nh = s.hs.nh then _ else _) = _; rw [if_pos rfl]⟩, fun h => by obtain ⟨p1, p2, p3, u, w, p4⟩ := x8 (by simpa using h); exact ⟨p1, p2, by show b < s.hs.nh + 1; omega, u, w, by show (if b = s.hs.nh then _ else s.hs.heap b) = _; rw [if_neg (by omega)]; exact p4⟩, fun h => by obtain ⟨p1, p2, p3, u, w, p4⟩ := x9 (by simpa using h); exact ⟨p1, p2, by show c < s.hs.nh + 1; omega, u, w, by show (if c = s.hs.nh then _ else s.hs.heap c) = _; rw [if_neg (by omega)]; exact p4⟩, fun _ h => by have := (x8 (by simpa using h)).2.2.1; omega, fun _ h => by have := (x9 (by simpa using h)).2.2.1; omega, fun h h2 => d89 (by simpa using h) (by simpa using h2), fun h => by have := o10 (by simpa using h); simp [this], fun h => by have := o11 (by simpa using h); simp [this], fun h => by have := o12 (by simpa using h); simp [this], fun h => absurd (o10 (by simpa using h)).1 hnd, fun h => absurd (o10 (o11 (by simpa using h))).1 hnd, fun h => absurd (o10 (o11 (o12 (by simpa using h)))).1 hnd⟩
    | 8, _ =>
      show At _
      simp
      exact At.of ⟨⟨by simp [k0], by simp [k1], by simp [k4]⟩, a, s.hs.nh, c, e1, e5, e6, r29, r30, r33, by show (if b5 = s.hs.nh then _ else s.hs.heap b5) = _; rw [if_neg (by omega)]; exact h5, by show b5 < s.hs.nh + 1; omega, fun h => x2 (by simpa using h), fun h => x3 (by simpa using h), fun h => x5 (by simpa using h), fun h => x6 (by simpa using h), fun h => by obtain ⟨p1, p2, p3, u, w, p4⟩ := x7 (by simpa using h); exact ⟨p1, p2, by show a < s.hs.nh + 1; omega, u, w, by show (if a = s.hs.nh then _ else s.hs.heap a) = _; rw [if_neg (by omega)]; exact p4⟩, fun _ => ⟨rfl, nh, by show s.hs.nh < s.hs.nh + 1; omega, _, _, by show (if s.hs.nh = s.hs.nh then _ else _) = _; rw [if_pos rfl]⟩, fun h => by obtain ⟨p1, p2, p3, u, w, p4⟩ := x9 (by simpa using h); exact ⟨p1, p2, by show c < s.hs.nh + 1; omega, u, w, by show (if c = s.hs.nh then _ else s.hs.heap c) = _; rw [if_neg (by omega)]; exact p4⟩, fun h _ => by have := (x7 (by simpa using h)).2.2.1; omega, fun h h2 => d79 (by simpa using h) (by simpa using h2), fun _ h => by have := (x9 (by simpa using h)).2.2.1; omega, fun h => by have := o10 (by simpa using h); simp [this], fun h => by have := o11 (by simpa using h); simp [this], fun h => by have := o12 (by simpa using h); simp [this], fun h => absurd (o10 (by simpa using h)).2.1 hnd, fun h => absurd (o10 (o11 (by simpa using h))).2.1 hnd, fun h => absurd (o10 (o11 (o12 (by simpa using h)))).2.1 hnd⟩
    | 9, _ =>
      show At _
      simp
      exact At.of ⟨⟨by simp [k0], by simp [k1], by simp [k4]⟩, a, b, s.hs.nh, e1, e5, e6, r29, r30, r33, by show (if b5 = s.hs.nh then _ else s.hs.heap b5) = _; rw [if_neg (by omega)]; exact h5, by show b5 < s.hs.nh + 1; omega, fun h => x2 (by simpa using h), fun h => x3 (by simpa using h), fun h => x5 (by simpa using h), fun h => x6 (by simpa using h), fun h => by obtain ⟨p1, p2, p3, u, w, p4⟩ := x7 (by simpa using h); exact ⟨p1, p2, by show a < s.hs.nh + 1; omega, u, w, by show (if a = s.hs.nh then _ else s.hs.heap a) = _; rw [if_neg (by omega)]; exact p4⟩, fun h => by obtain ⟨p1, p2, p3, u, w, p4⟩ := x8 (by simpa using h); exact ⟨p1, p2, by show b < s.hs.nh + 1; omega, u, w, by show (if b = s.hs.nh then _ else s.hs.heap b) = _; rw [if_neg (by omega)]; exact p4⟩, fun _ => ⟨rfl, nh, by show s.hs.nh < s.hs.nh + 1; omega, _, _, by show (if s.hs.nh = s.hs.nh then _ else _) = _; rw [if_pos rfl]⟩, fun h h2 => d78 (by simpa using h) (by simpa using h2), fun h _ => by have := (x7 (by simpa using h)).2.2.1; omega, fun h _ => by have := (x8 (by simpa using h)).2.2.1; omega, fun h => by have := o10 (by simpa using h); simp [this], fun h => by have := o11 (by simpa using h); simp [this], fun h => by have := o12 (by simpa using h); simp [this], fun h => absurd (o10 (by simpa using h)).2.2 hnd, fun h => absurd (o10 (o11 (by simpa using h))).2.2 hnd, fun h => absurd (o10 (o11 (o12 (by simpa using h)))).2.2 hnd⟩
    | 10, _ =>
      show At _
      have hd7 := hdep 7 (by simp)
      have hd8 := hdep 8 (by simp)
      have hd9 := hdep 9 (by simp)
      have ya := x7 hd7
      have yb := x8 hd8
      have yc := x9 hd9
      have q1 := d78 hd7 hd8
      have q2 := d79 hd7 hd9
      have q3 := d89 hd8 hd9
      obtain ⟨u, w, hu⟩ := ya.2.2.2
      have y1 := ya.1
      simp [y1, r29, st2_of hu]
      exact At.of ⟨⟨by simp [k0], by simp [k1], by simp [k4]⟩, a, b, c, e1, e5, e6, r29, r30, r33, by show (if b5 = a then _ else s.hs.heap b5) = _; rw [if_neg (by omega)]; exact h5, nh, fun h => x2 (by simpa using h), fun h => x3 (by simpa using h), fun h => x5 (by simpa using h), fun h => x6 (by simpa using h), fun h => ⟨ya.1, ya.2.1, ya.2.2.1, _, _, by show (if a = a then _ else _) = _; rw [if_pos rfl]⟩, fun h => ⟨yb.1, yb.2.1, yb.2.2.1, by obtain ⟨u, w, p⟩ := yb.2.2.2; exact ⟨u, w, by show (if b = a then _ else s.hs.heap b) = _; rw [if_neg (by omega)]; exact p⟩⟩, fun h => ⟨yc.1, yc.2.1, yc.2.2.1, by obtain ⟨u, w, p⟩ := yc.2.2.2; exact ⟨u, w, by show (if c = a then _ else s.hs.heap c) = _; rw [if_neg (by omega)]; exact p⟩⟩, fun h h2 => d78 (by simpa using h) (by simpa using h2), fun h h2 => d79 (by simpa using h) (by simpa using h2), fun h h2 => d89 (by simpa using h) (by simpa using h2), fun _ => by simp [hd7, hd8, hd9], fun h => by have := o11 (by simpa using h); simp [this], fun h => by have := o12 (by simpa using h); simp [this], fun _ => by show (if a = a then _ else _) = _; rw [if_pos rfl], fun h => by show (if b = a then _ else s.hs.heap b) = _; rw [if_neg (by omega)]; exact x11 (by simpa using h), fun h => by show (if c = a then _ else s.hs.heap c) = _; rw [if_neg (by omega)]; exact x12 (by simpa using h)⟩
    | 11, _ =>
      show At _
      have hd10 := hdep 10 (by simp)
      have hd3 := hdep 3 (by simp)
      obtain ⟨hd7, hd8, hd9⟩ := o10 hd10
      have y3 := x3 hd3
      have ya := x7 hd7
      have yb := x8 hd8
      have yc := x9 hd9
      have q1 := d78 hd7 hd8
      have q2 := d79 hd7 hd9
      have q3 := d89 hd8 hd9
      obtain ⟨u, w, hu⟩ := yb.2.2.2
      have y1 := yb.1
      simp [y1, y3, st2_of hu]
      exact At.of ⟨⟨by simp [k0], by simp [k1], by simp [k4]⟩, a, b, c, e1, e5, e6, r29, r30, r33, by show (if b5 = b then _ else s.hs.heap b5) = _; rw [if_neg (by omega)]; exact h5, nh, fun h => x2 (by simpa using h), fun h => x3 (by simpa using h), fun h => x5 (by simpa using h), fun h => x6 (by simpa using h), fun h => ⟨ya.1, ya.2.1, ya.2.2.1, by obtain ⟨u, w, p⟩ := ya.2.2.2; exact ⟨u, w, by show (if a = b then _ else s.hs.heap a) = _; rw [if_neg (by omega)]; exact p⟩⟩, fun h => ⟨yb.1, yb.2.1, yb.2.2.1, _, _, by show (if b = b then _ else _) = _; rw [if_pos rfl]⟩, fun h => ⟨yc.1, yc.2.1, yc.2.2.1, by obtain ⟨u, w, p⟩ := yc.2.2.2; exact ⟨u, w, by show (if c = b then _ else s.hs.heap c) = _; rw [if_neg (by omega)]; exact p⟩⟩, fun h h2 => d78 (by simpa using h) (by simpa using h2), fun h h2 => d79 (by simpa using h) (by simpa using h2), fun h h2 => d89 (by simpa using h) (by simpa using h2), fun h => by have := o10 (by simpa using h); simp [this], fun _ => by simp [hd10], fun h => by have := o12 (by simpa using h); simp [this], fun h => by show (if a = b then _ else s.hs.heap a) = _; rw [if_neg (by omega)]; exact x10 (by simpa using h), fun _ => by show (if b = b then _ else _) = _; rw [if_pos rfl], fun h => by show (if c = b then _ else s.hs.heap c) = _; rw [if_neg (by omega)]; exact x12 (by simpa using h)⟩
    | 12, _ =>
      show At _
      have hd11 := hdep 11 (by simp)
      have hd6 := hdep 6 (by simp)
      obtain ⟨hd7, hd8, hd9⟩ := o10 (o11 hd11)
      have y6 := x6 hd6
      have ya := x7 hd7
      have yb := x8 hd8
      have yc := x9 hd9
      have q1 := d78 hd7 hd8
      have q2 := d79 hd7 hd9
      have q3 := d89 hd8 hd9
      obtain ⟨u, w, hu⟩ := yc.2.2.2
      have y1 := yc.1
      simp [y1, y6, st2_of hu]
      exact At.of ⟨⟨by simp [k0], by simp [k1], by simp [k4]⟩, a, b, c, e1, e5, e6, r29, r30, r33, by show (if b5 = c then _ else s.hs.heap b5) = _; rw [if_neg (by omega)]; exact h5, nh, fun h => x2 (by simpa using h), fun h => x3 (by simpa using h), fun h => x5 (by simpa using h), fun h => x6 (by simpa using h), fun h => ⟨ya.1, ya.2.1, ya.2.2.1, by obtain ⟨u, w, p⟩ := ya.2.2.2; exact ⟨u, w, by show (if a = c then _ else s.hs.heap a) = _; rw [if_neg (by omega)]; exact p⟩⟩, fun h => ⟨yb.1, yb.2.1, yb.2.2.1, by obtain ⟨u, w, p⟩ := yb.2.2.2; exact ⟨u, w, by show (if b = c then _ else s.hs.heap b) = _; rw [if_neg (by omega)]; exact p⟩⟩, fun h => ⟨yc.1, yc.2.1, yc.2.2.1, _, _, by show (if c = c then _ else _) = _; rw [if_pos rfl]⟩, fun h h2 => d78 (by simpa using h) (by simpa using h2), fun h h2 => d79 (by simpa using h) (by simpa using h2), fun h h2 => d89 (by simpa using h) (by simpa using h2), fun h => by have := o10 (by simpa using h); simp [this], fun h => by have := o11 (by simpa using h); simp [this], fun _ => by simp [hd11], fun h => by show (if a = c then _ else s.hs.heap a) = _; rw [if_neg (by omega)]; exact x10 (by simpa using h), fun h => by show (if b = c then _ else s.hs.heap b) = _; rw [if_neg (by omega)]; exact x11 (by simpa using h), fun _ => by show (if c = c then _ else _) = _; rw [if_pos rfl]⟩
  · rintro done s hall ⟨_, a, b, c, ⟨e1, e5, e6, r29, r30, r33, h5, nh, x2, x3, x5, x6, x7, x8, x9, d78, d79, d89, o10, o11, o12, x10, x11, x12⟩⟩
    have m7 := hall 7 (by decide)
    have m8 := hall 8 (by decide)
    have m9 := hall 9 (by decide)
    obtain ⟨y7, z7, _⟩ := x7 m7
    obtain ⟨y8, z8, _⟩ := x8 m8
    obtain ⟨y9, z9, _⟩ := x9 m9
    exact hQ s ⟨a, b, c, e1, e5, e6, y7, y8, y9, h5, x10 (hall 10 (by decide)), x11 (hall 11 (by decide)), x12 (hall 12 (by decide)), by omega, by omega, by omega, d78 m7 m8, d79 m7 m9, d89 m8 m9⟩
set_option maxHeartbeats 2000000 in
theorem p10 {x : AV} {es : List Int} (hx : IsU8 x es) {g t : Nat} (hg : g < 256) (ht : t < 256) : PCall Tryd.prog 10 [.agg [x, .int .u8 (g : Int)], .int .u8 (t : Int)] (.bool true) := by
  have hck := chk_made es g hx.2
  have hli := lenV_i es
  obtain ⟨C, hC, h15, h43, h42, h44, h39, up⟩ := ctxL
  obtain ⟨hms, hfl, hfv⟩ := chk_0 hck
  obtain ⟨m1, m2, m3, m4⟩ := meas_0 hms
  have h5 : ∀ a ∈ mkL es, 1 ≤ a ∧ a ≤ 5 := by
    intro a ha
    unfold mkL at ha
    split at ha
    · simp at ha; omega
    · obtain ⟨b, hb, rfl⟩ := List.mem_map.1 ha
      exact len1_bd (hx.2 b (List.mem_of_mem_take hb)).1
  have hm1 := h39 hx hg
  unfold madeV at hm1
  have hal := alen_of hli
  have hst := asI_sto hli
  have hcl := asI_cells hli
  have hxs : x.sto = true := by rcases hx.1 with ⟨rfl, _⟩ | rfl <;> rfl
  have hxc : x.cells = [x] := by rcases hx.1 with ⟨rfl, _⟩ | rfl <;> rfl
  have h25 : ∀ {z : AV} {o : List Int} {f : List UInt8}, asI z = some o → C 25 [.agg [z, .str (bs f)]] = some (cntV o f) := fun {z o f} hz => by
    rw [up 25 (by decide) (by decide) (by decide) (by decide) (by decide)]; exact CA_25 hz
  have h27 : ∀ {z : AV} {o : List Int}, asI z = some o → C 27 [z] = some (allV o) := fun {z o} hz => by
    rw [up 27 (by decide) (by decide) (by decide) (by decide) (by decide)]; exact CA_27 hz
  generalize mkF g ((mkL es).length - 1) = f at *
  generalize lenV es = v at *
  generalize mkL es = l at *
  refine PCall.of hC ok10 (by simp) rfl fun hs hb => ?_
  simp only [A10, R10]
  have ld0 : aload (fun i => if i = hs.nh then some [v, .str (bs f)] else if i = hs.nh then some [.nilsl, .str (bs [])] else hs.heap i) false 1 (.ref hs.nh 0) = some v := ldc (ys := [v, .str (bs f)]) (by simp) rfl
  rw [At.awp_seq]
  simp [hxs, -At.awp_seq]
  rw [At.awp_seq]
  simp [hm1, -At.awp_seq]
  rw [At.awp_seq]
  simp [fa, ld0, hal, -At.awp_seq]
  obtain ⟨hs0, hhs0⟩ : ∃ hs0 : HS, hs0 = ⟨fun k => if k = hs.nh then some [v, AV.str (bs f)] else if k = hs.nh then some [AV.nilsl, AV.str (bs [])] else hs.heap k, hs.nh + 1, hs.nt, hs.tok, hs.mp⟩ := ⟨_, rfl⟩
  have h3 : hs0.heap hs.nh = some [v, .str (bs f)] := by rw [hhs0]; simp
  have hnh : hs.nh < hs0.nh := by rw [hhs0]; exact Nat.lt_succ_self _
  rw [← hhs0]
  rw [At.awp_seq, At.awp_rega]
  refine At.any_to (fun s => ∃ a b c, DM hs.nh a b c s v f t l.length .nilsl .nilsl [] []) ?_ ?_
  · refine At.any_q 0 endN_p rfl rfl rfl ?_
    simp
    refine At.any_q 1 endN_p rfl rfl rfl ?_
    simp [fa]
    refine At.any_q 4 endN_p rfl rfl rfl ?_
    simp [fa]
    refine reg10 hli ⟨0, 0, 0, rfl, rfl, rfl, rfl, rfl, rfl, h3, hnh, fun h => absurd h (by decide), fun h => absurd h (by decide), fun h => absurd h (by decide), fun h => absurd h (by decide), fun h => absurd h (by decide), fun h => absurd h (by decide), fun h => absurd h (by decide), fun h => absurd h (by decide), fun h => absurd h (by decide), fun h => absurd h (by decide), fun h => absurd h (by decide), fun h => absurd h (by decide), fun h => absurd h (by decide), fun h => absurd h (by decide), fun h => absurd h (by decide), fun h => absurd h (by decide)⟩ fun s' h => h
  clear hhs0 h3 hnh ld0
  rintro s ⟨a, b, c, D⟩
  simp only [At.thenQ_n]
  have n1 := D.n1
  have n2 := D.n2
  have n3 := D.n3
  have n4 := D.n4
  have n5 := D.n5
  have n6 := D.n6
  obtain ⟨cc, hcc⟩ : ∃ cc : Nat, cc = 1 + t % 9 := ⟨_, rfl⟩
  have hc9 : 1 ≤ cc ∧ cc ≤ 9 := by omega
  have r9 : abin 0 .rem (.int .i64 (t : Int)) (.int .i64 9) = some (.int .i64 ((t % 9 : Nat) : Int)) := rem64 (b := 9) (by omega)
  have wt : IntKind.i64.wrap (t : Int) = (t : Int) := wrap64 (by omega) (by omega)
  have w9 : IntKind.i64.wrap (1 + ((t % 9 : Nat) : Int)) = (cc : Int) := by rw [wrap64 (by omega) (by omega)]; omega
  generalize ((t % 9 : Nat) : Int) = t9 at r9 w9
  rw [At.awp_seq]
  refine At.cut (fun s => ∃ za zc, DM hs.nh a b c s v f t l.length za zc [] [] ∧ asI za = some l.reverse ∧ asI zc = some (mulL cc l)) ?_ ?_
  · obtain ⟨e1, e5, e6, e7, e8, e9, g5, ga, gb, gc, _, _, _, _, _, _⟩ := D
    simp [e6]
    refine At.loop (fun (i : Nat) s => i ≤ l.length ∧ s.env 36 = .int .i64 (l.length : Int) ∧ s.env 37 = .int .i64 (i : Int) ∧ ∃ za zc, DM hs.nh a b c s v f t l.length za zc [] [] ∧ Outs 1 s.hs za (ints (l.reverse.take i)) ∧ Outs 1 s.hs zc (ints ((mulL cc l).take i)) ∧ Apart za zc) (fun i => l.length - i) 0 ?_ ?_
    · simp
      exact ⟨_, _, ⟨e1, e5, e6, e7, e8, e9, g5, ga, gb, gc, n1, n2, n3, n4, n5, n6⟩, .nil, .nil, Apart.nil⟩
    clear e1 e5 e6 e7 e8 e9 g5 ga gb gc s
    rintro N i s hN ⟨hi, e36, e37, za, zc, ⟨e1, e5, e6, e7, e8, e9, g5, ga, gb, gc, _, _, _, _, _, _⟩, oa, oc, hap⟩
    simp [e36, e37]
    refine At.dec (fun hlt => ?_) (fun hlt => ?_)
    · have hp := h5 (gI l i) (by rw [gI_of hlt]; exact List.getElem_mem _)
      have hi1 := idx_g hli (i := l.length - 1 - i) (by omega) (k := .i64)
      have hi2 := idx_g hli hlt (k := .i64)
      have wn : IntKind.i64.wrap ((l.length : Int) - 1) = ((l.length - 1 : Nat) : Int) := by rw [wrap64 (by omega) (by omega)]; omega
      have wm : IntKind.i64.wrap (((l.length - 1 : Nat) : Int) - (i : Int)) = ((l.length - 1 - i : Nat) : Int) := by rw [wrap64 (by omega) (by omega)]; omega
      have q1 : (cc : Int) * gI l i ≤ 9 * 5 := Int.mul_le_mul (by omega) hp.2 (by omega) (by omega)
      have q0 : 1 * 1 ≤ (cc : Int) * gI l i := Int.mul_le_mul (by omega) hp.1 (by omega) (by omega)
      obtain ⟨x2, hx2⟩ : ∃ x2, (cc : Int) * gI l i = x2 := ⟨_, rfl⟩
      have wx : IntKind.i64.wrap ((cc : Int) * gI l i) = x2 := by rw [← hx2]; exact wrap64 (by omega) (by omega)
      have w1 := wrap_nat1 (show i < _ by omega)
      have tr : l.reverse.take (i + 1) = l.reverse.take i ++ [gI l (l.length - 1 - i)] := by
        rw [take_snoc (by rw [List.length_reverse]; exact hlt), List.getElem_reverse, gI_of (by omega)]
      have tm : (mulL cc l).take (i + 1) = (mulL cc l).take i ++ [(cc : Int) * gI l i] := by
        rw [take_snoc (by rw [mulL_len]; exact hlt), ← gI_of, mulL_get hlt]
      rw [hx2] at tm
      obtain ⟨ya, hs1, a1, a2, a3, a4⟩ := add_apart oa (by rw [List.length_take]; omega) (gI l (l.length - 1 - i))
      obtain ⟨oc1, hap1⟩ := a4 oc hap
      rw [← tr] at a2
      have la : aload s.hs.heap false 1 (.ref a 0) = some za := ldc ga rfl
      have l5 : aload s.hs.heap false 1 (.ref hs.nh 0) = some v := ldc g5 rfl
      have hya : ya.leaf = true := by obtain ⟨xs, e⟩ := aappend_own a1; rw [e]; rfl
      have sa := store_cell (v := ya) (o := 0) (show hs1.heap a = some [za, .str (bs [])] by rw [a3.heap]; exact ga) (by simp) hya
      simp only [List.set_cons_zero] at sa
      obtain ⟨hs2, hhs2⟩ : ∃ hs2 : HS, hs2 = ⟨fun k => if k = a then some [ya, .str (bs [])] else hs1.heap k, hs1.nh, hs1.nt, hs1.tok, hs1.mp⟩ := ⟨_, rfl⟩
      have oa2 : Outs 1 hs2 ya (ints (l.reverse.take (i + 1))) := by rw [hhs2]; exact a2.cong rfl rfl
      have oc2 : Outs 1 hs2 zc (ints ((mulL cc l).take i)) := by rw [hhs2]; exact oc1.cong rfl rfl
      have g5b : hs2.heap hs.nh = some [v, .str (bs f)] := by rw [hhs2]; simp only; rw [if_neg n1, a3.heap]; exact g5
      have gab : hs2.heap a = some [ya, .str (bs [])] := by rw [hhs2]; simp
      have gbb : hs2.heap b = some [v, .str (bs [])] := by rw [hhs2]; simp only; rw [if_neg (Ne.symm n4), a3.heap]; exact gb
      have gcb : hs2.heap c = some [zc, .str (bs f)] := by rw [hhs2]; simp only; rw [if_neg (Ne.symm n5), a3.heap]; exact gc
      obtain ⟨yc, hs3, b1, b2, b3, b4⟩ := add_apart oc2 (by rw [List.length_take]; omega) x2
      obtain ⟨oa3, hap3⟩ := b4 oa2 hap1.symm
      rw [← tm] at b2
      have lc : aload hs2.heap false 1 (.ref c 0) = some zc := ldc gcb rfl
      have l5b : aload hs2.heap false 1 (.ref hs.nh 0) = some v := ldc g5b rfl
      have hyc : yc.leaf = true := by obtain ⟨xs, e⟩ := aappend_own b1; rw [e]; rfl
      have sc := store_cell (v := yc) (o := 0) (show hs3.heap c = some [zc, .str (bs f)] by rw [b3.heap]; exact gcb) (by simp) hyc
      simp only [List.set_cons_zero] at sc
      generalize gI l (l.length - 1 - i) = x1 at *
      generalize ((l.length - 1 - i : Nat) : Int) = j1 at *
      generalize ((l.length - 1 : Nat) : Int) = j2 at *
      simp [-At.awp_seq]
      rw [At.awp_seq]
      simp [-At.awp_seq]
      rw [At.awp_seq]
      simp [e37, -At.awp_seq]
      rw [At.awp_seq]
      simp [e5, e6, e7, fa, la, l5, hi1, wn, wm, astoAll, sto_in, cel_in, a1, sa, -At.awp_seq]
      rw [← hhs2]
      simp [e1, e5, e9, e37, fa, lc, l5b, hi2, wt, r9, w9, wx, astoAll, sto_in, cel_in, b1, sc, w1, -abin_rem]
      refine hN (i + 1) _ (by omega) ?_
      refine ⟨by omega, e36, rfl, ya, yc, ⟨e1, e5, e6, e7, e8, e9, ?_, ?_, ?_, ?_, n1, n2, n3, n4, n5, n6⟩, oa3.cong rfl rfl, b2.cong rfl rfl, hap3.symm⟩
      · simp [n3, b3.heap, g5b]
      · simp [n5, b3.heap, gab]
      · simp [n6, b3.heap, gbb]
      · simp
    · have : i = l.length := by omega
      subst this
      simp
      rw [List.take_of_length_le (by rw [List.length_reverse]; omega)] at oa
      rw [List.take_of_length_le (by rw [mulL_len]; omega)] at oc
      exact At.of ⟨za, zc, ⟨e1, e5, e6, e7, e8, e9, g5, ga, gb, gc, n1, n2, n3, n4, n5, n6⟩, oa.asI (by rw [List.length_reverse]; omega), oc.asI (by rw [mulL_len]; omega)⟩
  clear D s
  rintro s ⟨za, zc, D, hza, hzc⟩
  rw [At.awp_seq]
  have hfm := fmv_or hfv
  refine At.cut (fun s => DM hs.nh a b c s v f t l.length za zc f.reverse (flp f)) ?_ ?_
  · obtain ⟨e1, e5, e6, e7, e8, e9, g5, ga, gb, gc, _, _, _, _, _, _⟩ := D
    have wn : IntKind.i64.wrap ((l.length : Int) - 1) = ((l.length - 1 : Nat) : Int) := by rw [wrap64 (by omega) (by omega)]; omega
    rw [← hfl] at wn
    simp [e6, wn]
    refine At.loop (fun (i : Nat) s => i ≤ f.length ∧ s.env 70 = .int .i64 (f.length : Int) ∧ s.env 71 = .int .i64 (i : Int) ∧ DM hs.nh a b c s v f t l.length za zc (f.reverse.take i) ((flp f).take i)) (fun i => f.length - i) 0 ?_ ?_
    · simp
      exact ⟨e1, e5, e6, e7, e8, e9, g5, ga, gb, gc, n1, n2, n3, n4, n5, n6⟩
    clear e1 e5 e6 e7 e8 e9 g5 ga gb gc s
    rintro N i s hN ⟨hi, e70, e71, ⟨e1, e5, e6, e7, e8, e9, g5, ga, gb, gc, _, _, _, _, _, _⟩⟩
    simp [e70, e71]
    refine At.dec (fun hlt => ?_) (fun hlt => ?_)
    · have hkl : f.length - 1 - i < f.length := by omega
      have wk : IntKind.i64.wrap ((l.length : Int) - 2) = ((f.length - 1 : Nat) : Int) := by rw [wrap64 (by omega) (by omega)]; omega
      have wm : IntKind.i64.wrap (((f.length - 1 : Nat) : Int) - (i : Int)) = ((f.length - 1 - i : Nat) : Int) := by rw [wrap64 (by omega) (by omega)]; omega
      have w1 := wrap_nat1 (show i < _ by omega)
      have z1 : ∀ hs, amem (.ssl true false) hs [.str (bs f), .int .i64 ((f.length - 1 - i : Nat) : Int)] = some (.str (bs (f.drop (f.length - 1 - i))), hs) := fun hs => ssl_l (by omega)
      have z2 : ∀ hs, amem (.ssl false true) hs [.str (bs (f.drop (f.length - 1 - i))), .int .i64 ((1 : Nat) : Int)] = some (.str (bs ((f.drop (f.length - 1 - i)).take 1)), hs) := fun hs => ssl_h (by rw [List.length_drop]; omega)
      have z3 : ∀ hs, amem .sidx hs [.str (bs f), .int .i64 (i : Int)] = some (.int .u8 f[i].toNat, hs) := fun hs => sidx_nat hlt
      have tr : f.reverse.take (i + 1) = f.reverse.take i ++ (f.drop (f.length - 1 - i)).take 1 := by
        rw [take_snoc (by rw [List.length_reverse]; exact hlt), List.getElem_reverse, List.drop_eq_getElem_cons hkl]; rfl
      have tf : (flp f).take (i + 1) = (flp f).take i ++ [if f[i] = 109 then 118 else 109] := by
        unfold flp
        rw [take_snoc (by rw [List.length_map]; exact hlt), List.getElem_map]
      have hl1 : (f.reverse.take i).length = i := by rw [List.length_take, List.length_reverse]; omega
      have hl2 : ((flp f).take i).length = i := by unfold flp; rw [List.length_take, List.length_map]; omega
      have ad1 : abin 0 .add (.str (bs (f.reverse.take i))) (.str (bs ((f.drop (f.length - 1 - i)).take 1))) = some (.str (bs (f.reverse.take (i + 1)))) := by rw [tr]; exact abin_sadd (by rw [hl1, List.length_take]; omega)
      have ad2 : ∀ ch : UInt8, abin 0 .add (.str (bs ((flp f).take i))) (.str (bs [ch])) = some (.str (bs ((flp f).take i ++ [ch]))) := fun ch => abin_sadd (by rw [hl2]; simp; omega)
      have la : aload s.hs.heap false 1 (.ref a 1) = some (.str (bs (f.reverse.take i))) := ldc ga rfl
      have l5 : aload s.hs.heap false 1 (.ref hs.nh 1) = some (.str (bs f)) := ldc g5 rfl
      have sa := store_cell (v := .str (bs (f.reverse.take (i + 1)))) (o := 1) ga (by simp) rfl
      simp only [List.set_cons_succ, List.set_cons_zero] at sa
      obtain ⟨H1, hH1⟩ : ∃ H1 : Nat → Option (List AV), H1 = fun k => if k = a then some [za, .str (bs (f.reverse.take (i + 1)))] else s.hs.heap k := ⟨_, rfl⟩
      have g51 : H1 hs.nh = some [v, .str (bs f)] := by rw [hH1]; simp only; rw [if_neg n1]; exact g5
      have ga1 : H1 a = some [za, .str (bs (f.reverse.take (i + 1)))] := by rw [hH1]; simp
      have gb1 : H1 b = some [v, .str (bs ((flp f).take i))] := by rw [hH1]; simp only; rw [if_neg (Ne.symm n4)]; exact gb
      have gc1 : H1 c = some [zc, .str (bs f)] := by rw [hH1]; simp only; rw [if_neg (Ne.symm n5)]; exact gc
      rw [← hH1] at sa
      clear hH1
      have l5b : aload H1 false 1 (.ref hs.nh 1) = some (.str (bs f)) := ldc g51 rfl
      have lb : aload H1 false 1 (.ref b 1) = some (.str (bs ((flp f).take i))) := ldc gb1 rfl
      have sb := fun ch : UInt8 => store_cell (hp := H1) (i := b) (v := .str (bs ((flp f).take i ++ [ch]))) (o := 1) gb1 (by simp) rfl
      simp only [List.set_cons_succ, List.set_cons_zero] at sb
      have h109 : ((f[i].toNat : Nat) : Int) = 109 ↔ f[i] = 109 := by
        constructor
        · intro e; exact UInt8.toNat_inj.1 (by show _ = 109; omega)
        · intro e; rw [e]; rfl
      generalize hfd : f.drop (f.length - 1 - i) = fd at *
      generalize hft : fd.take 1 = ft at *
      generalize hrt : f.reverse.take (i + 1) = rt at *
      generalize hft2 : f.reverse.take i = rt0 at *
      generalize hpt : (flp f).take i = pt0 at *
      generalize ((f.length - 1 - i : Nat) : Int) = j1 at *
      generalize ((f.length - 1 : Nat) : Int) = j2 at *
      have z2' : ∀ hs, amem (.ssl false true) hs [.str (bs fd), .int .i64 1] = some (.str (bs ft), hs) := z2
      have fin : ∀ (ch : UInt8), pt0 ++ [ch] = (flp f).take (i + 1) → ∀ s' : AS, s'.env 70 = .int .i64 (f.length : Int) → s'.env 71 = .int .i64 ((i + 1 : Nat) : Int) → s'.env 1 = .int .u8 (t : Int) → s'.env 5 = .ref hs.nh 0 → s'.env 6 = .int .i64 (l.length : Int) → s'.env 7 = .ref a 0 → s'.env 8 = .ref b 0 → s'.env 9 = .ref c 0 →
          s'.hs.heap = (fun k => if k = b then some [v, .str (bs (pt0 ++ [ch]))] else H1 k) → At (N s') := by
        intro ch hch s' w70 w71 v1 v5 v6 v7 v8 v9 hh
        refine hN (i + 1) s' (by omega) ⟨by omega, w70, w71, v1, v5, v6, v7, v8, v9, ?_, ?_, ?_, ?_, n1, n2, n3, n4, n5, n6⟩
        · rw [hh]; simp only; rw [if_neg n2]; exact g51
        · rw [hh, hrt]; simp only; rw [if_neg n4]; exact ga1
        · rw [hh, ← hch]; simp
        · rw [hh]; simp only; rw [if_neg (Ne.symm n6)]; exact gc1
      by_cases hch : f[i] = 109
      · rw [if_pos hch] at tf
        simp [e5, e6, e7, e8, e71, fa, la, l5, wk, wm, z1, z2', ad1, sa, l5b, z3, h109, hch, lb, ad2, sb]
        exact fin 118 tf.symm _ e70 (by simp [w1]) e1 e5 e6 e7 e8 e9 rfl
      · rw [if_neg hch] at tf
        simp [e5, e6, e7, e8, e71, fa, la, l5, wk, wm, z1, z2', ad1, sa, l5b, z3, h109, hch, lb, ad2, sb]
        exact fin 109 tf.symm _ e70 (by simp [w1]) e1 e5 e6 e7 e8 e9 rfl
    · have : i = f.length := by omega
      subst this
      simp
      rw [List.take_of_length_le (by rw [List.length_reverse]; omega)] at ga
      rw [List.take_of_length_le (by unfold flp; rw [List.length_map]; omega)] at gb
      exact At.of ⟨e1, e5, e6, e7, e8, e9, g5, ga, gb, gc, n1, n2, n3, n4, n5, n6⟩
  clear D s
  rintro s ⟨e1, e5, e6, e7, e8, e9, g5, ga, gb, gc, _, _, _, _, _, _⟩
  have hckr := rev_chk hck
  have hckf := flp_chk hck
  have hckm := mul_chk hck (c := (cc : Int)) (by omega) (by omega) h5
  have k1 := h25 (f := f) hli
  have k2 := h25 (f := f.reverse) hza
  have k3 := h25 (f := flp f) hli
  have k4 := h25 (f := f) hzc
  rw [cntV_0 hck] at k1
  rw [cntV_0 hckr, cnt_rev hck] at k2
  rw [cntV_0 hckf, cnt_flp hck] at k3
  rw [cntV_0 hckm, cnt_mul (by omega)] at k4
  have k5 := h27 hli
  have k6 := h27 hza
  have av : ∀ {l : List Int}, meas l = 0 → allV l = .tup [.int .i64 ((flatL l).length : Int), .int .i64 0] := fun h => by unfold allV; rw [if_neg (by simp [h])]
  rw [av hms] at k5
  rw [av (chk_0 hckr).1, flat_rev] at k6
  have l5w : aload s.hs.heap true 2 (.ref hs.nh 0) = some (.agg [v, .str (bs f)]) := load_ref2 g5
  have l5 : aload s.hs.heap false 1 (.ref hs.nh 0) = some v := ldc g5 rfl
  have la : aload s.hs.heap true 2 (.ref a 0) = some (.agg [za, .str (bs f.reverse)]) := load_ref2 ga
  have la0 : aload s.hs.heap false 1 (.ref a 0) = some za := ldc ga rfl
  have lb : aload s.hs.heap true 2 (.ref b 0) = some (.agg [v, .str (bs (flp f))]) := load_ref2 gb
  have lc : aload s.hs.heap true 2 (.ref c 0) = some (.agg [zc, .str (bs f)]) := load_ref2 gc
  generalize ((cnt l f : Nat) : Int) = n7 at *
  generalize (((flatL l).length : Nat) : Int) = n8 at *
  simp [e5, e7, e8, e9, fa, l5w, l5, la, la0, lb, lc, k1, k2, k3, k4, k5, k6, h15]
theorem mirrored_typed (xs : List AV) (h : Typed [TMap, .int .u8] xs) : PCall Tryd.prog 10 xs (.bool true) := by
  obtain ⟨x, a, rfl, hx, ha⟩ := h.two
  obtain ⟨y, es, g, rfl, h1, h2⟩ := map_typed hx
  obtain ⟨t, rfl, h3⟩ := arg_u8 ha
  exact p10 h1 h2 h3
end Go.Proofs.YtedpcenghofpoaaDoor
