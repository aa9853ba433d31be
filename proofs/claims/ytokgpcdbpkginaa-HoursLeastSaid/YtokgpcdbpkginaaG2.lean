/-
  Placing a row: the walk. Own work.
  Placing a row: the law. Own work.
  Repeat, at one number. Own work.
  A column for every row. Own work.
  Squares in memory: what stores, copies and appends do. Own work.
  Filling up to equal line sums: the law. Own work.
  The square: equal line sums, few cells. Own work.
  The square: rows, tables and cells in memory. Own work.
  The square: one artist's line. Own work.
  The square: the walk. Own work.
-/
import Derived.Test.YtokgpcdbpkginaaG1
set_option linter.unusedVariables false
set_option linter.unusedSimpArgs false
namespace Go.Proofs.Ytokgpcdbpkginaa
open Go Fw

def bools (T : List Bool) : List AV := T.map AV.bool
/-- the columns of a row, one by one -/
def scan (rec : Nat → List Bool → List Int → Bool × List Bool × List Int) (r : List Int) (i : Nat) : List Nat → List Bool → List Int → Bool × List Bool × List Int
  | [], T, W => (false, T, W)
  | k :: ks, T, W =>
    if r.getD k 0 = 0 ∨ T.getD k false = true then scan rec r i ks T W
    else if W.getD k 0 < 0 then (true, T.set k true, W.set k i)
    else if (rec (W.getD k 0).toNat (T.set k true) W).1 = true then (true, (rec (W.getD k 0).toNat (T.set k true) W).2.1, (rec (W.getD k 0).toNat (T.set k true) W).2.2.set k i)
    else scan rec r i ks (rec (W.getD k 0).toNat (T.set k true) W).2.1 (rec (W.getD k 0).toNat (T.set k true) W).2.2
def placeF (M : List (List Int)) : Nat → Nat → List Bool → List Int → Bool × List Bool × List Int
  | 0, _, T, W => (false, T, W)
  | f + 1, i, T, W => scan (placeF M f) (M.getD i []) i (List.range' 0 M.length) T W
/-- untried columns -/
def unt (T : List Bool) : Nat := T.count false
/-- what placing keeps -/
structure Keeps (n : Nat) (T : List Bool) (W : List Int) (x : Bool × List Bool × List Int) : Prop where
  tl : x.2.1.length = n
  wl : x.2.2.length = n
  un : unt x.2.1 ≤ unt T
  wv : ∀ v ∈ x.2.2, v < n
theorem unt_set {T : List Bool} {k : Nat} (hk : k < T.length) (h : T.getD k false = false) : unt (T.set k true) + 1 = unt T := by
  induction T generalizing k with
  | nil => simp at hk
  | cons a T ih =>
    cases k with
    | zero =>
      have : a = false := by simpa using h
      subst this
      simp [unt]
    | succ k =>
      have := ih (k := k) (by simpa using hk) (by simpa using h)
      simp only [unt, List.set_cons_succ, List.count_cons] at this ⊢
      omega
theorem mem_set {α : Type} {l : List α} {k : Nat} {v x : α} (h : x ∈ l.set k v) : x = v ∨ x ∈ l := by
  rcases List.mem_or_eq_of_mem_set h with h | h
  · exact .inr h
  · exact .inl h
theorem set_lt {W : List Int} {n i k : Nat} (h : ∀ v ∈ W, v < (n : Int)) (hi : i < n) : ∀ v ∈ W.set k (i : Int), v < (n : Int) := by
  intro v hv
  rcases mem_set hv with rfl | hv
  · omega
  · exact h v hv
theorem scan_keeps {rec : Nat → List Bool → List Int → Bool × List Bool × List Int} {n : Nat} (hrec : ∀ i T W, i < n → T.length = n → W.length = n → (∀ v ∈ W, v < (n : Int)) → Keeps n T W (rec i T W)) {r : List Int} {i : Nat} (hi : i < n) :
    ∀ (ks : List Nat), (∀ k ∈ ks, k < n) → ∀ T W, T.length = n → W.length = n → (∀ v ∈ W, v < (n : Int)) → Keeps n T W (scan rec r i ks T W)
  | [], _, T, W, h1, h2, h3 => ⟨h1, h2, Nat.le_refl _, h3⟩
  | k :: ks, hk, T, W, h1, h2, h3 => by
    have hkn := hk k (by simp)
    have hks : ∀ k ∈ ks, k < n := fun j hj => hk j (by simp [hj])
    rw [scan]
    split
    · exact scan_keeps hrec hi ks hks T W h1 h2 h3
    · rename_i h
      have hT : T.getD k false = false := by
        cases hb : T.getD k false with
        | false => rfl
        | true => exact absurd (.inr hb) h
      have hu := unt_set (T := T) (k := k) (by omega) hT
      split
      · exact ⟨by simp [h1], by simp [h2], by simp only; omega, set_lt h3 hi⟩
      · rename_i hw
        have hwk : W.getD k 0 < n := by
          have : k < W.length := by omega
          rw [getD_of this]; exact h3 _ (List.getElem_mem _)
        have hr := hrec (W.getD k 0).toNat (T.set k true) W (by omega) (by simp [h1]) h2 h3
        split
        · exact ⟨hr.tl, by simp only [List.length_set, hr.wl], by have := hr.un; simp only; omega, set_lt hr.wv hi⟩
        · have := scan_keeps hrec hi ks hks _ _ hr.tl hr.wl hr.wv (r := r)
          exact ⟨this.tl, this.wl, by have := this.un; have := hr.un; omega, this.wv⟩
theorem place_keeps (M : List (List Int)) : ∀ (f i : Nat) (T : List Bool) (W : List Int), i < M.length → T.length = M.length → W.length = M.length → (∀ v ∈ W, v < (M.length : Int)) → Keeps M.length T W (placeF M f i T W)
  | 0, i, T, W, _, h1, h2, h3 => ⟨h1, h2, Nat.le_refl _, h3⟩
  | f + 1, i, T, W, hi, h1, h2, h3 => scan_keeps (fun i T W => place_keeps M f i T W) hi _ (fun k hk => by simpa using hk) T W h1 h2 h3

/-! in memory -/
/-- a square of numbers: a block of rows, each a block -/
structure Mat (hp : Nat → Option (List AV)) (x : AV) (M : List (List Int)) (is : Nat) (b : Nat → Nat) : Prop where
  x : x = .msl false 1 is 0 M.length true
  rows : hp is = some ((List.range M.length).map fun r => .msl false 1 (b r) 0 M.length true)
  row : ∀ r, r < M.length → hp (b r) = some (ints (M.getD r []))
  len : ∀ r, r < M.length → (M.getD r []).length = M.length
  inj : ∀ r r', r < M.length → r' < M.length → b r = b r' → r = r'
  ne : ∀ r, r < M.length → b r ≠ is
  lt : M.length < 1000000
structure P73 (hs : HS) (M : List (List Int)) (S : AV) (is : Nat) (b : Nat → Nat) (q3 q4 it iw : Nat) (T : List Bool) (W : List Int) : Prop where
  mat : Mat hs.heap S M is b
  c3 : hs.heap q3 = some [.msl false 1 iw 0 M.length true]
  c4 : hs.heap q4 = some [.fn (.func 73) [] [.ptr S, .ref q3 0, .ref q4 0]]
  t : hs.heap it = some (bools T)
  w : hs.heap iw = some (ints W)
  tl : T.length = M.length
  wl : W.length = M.length
  wv : ∀ v ∈ W, v < (M.length : Int)
  n1 : it ≠ iw
  n2 : q3 ≠ it ∧ q3 ≠ iw ∧ q4 ≠ it ∧ q4 ≠ iw ∧ is ≠ it ∧ is ≠ iw
  n3 : ∀ r, r < M.length → b r ≠ it ∧ b r ≠ iw
/-- only the two blocks changed -/
structure Upd2 (hs : HS) (it iw : Nat) (T : List Bool) (W : List Int) (hs' : HS) : Prop where
  nh : hs'.nh = hs.nh
  nt : hs'.nt = hs.nt
  tok : hs'.tok = hs.tok
  t : hs'.heap it = some (bools T)
  w : hs'.heap iw = some (ints W)
  o : ∀ j, j ≠ it → j ≠ iw → hs'.heap j = hs.heap j
theorem Upd2.trans {a b c : HS} {it iw : Nat} {T T' : List Bool} {W W' : List Int} (h : Upd2 a it iw T W b) (h' : Upd2 b it iw T' W' c) : Upd2 a it iw T' W' c :=
  ⟨h'.nh.trans h.nh, h'.nt.trans h.nt, h'.tok.trans h.tok, h'.t, h'.w, fun j h1 h2 => (h'.o j h1 h2).trans (h.o j h1 h2)⟩
theorem P73.upd {hs hs' : HS} {M : List (List Int)} {S : AV} {is : Nat} {b : Nat → Nat} {q3 q4 it iw : Nat} {T T' : List Bool} {W W' : List Int} (h : P73 hs M S is b q3 q4 it iw T W) (h' : Upd2 hs it iw T' W' hs') (tl : T'.length = M.length) (wl : W'.length = M.length) (wv : ∀ v ∈ W', v < (M.length : Int)) : P73 hs' M S is b q3 q4 it iw T' W' := by
  obtain ⟨a1, a2, a3, a4, a5, a6⟩ := h.n2
  exact ⟨⟨h.mat.x, by rw [h'.o _ a5 a6]; exact h.mat.rows, fun r hr => by rw [h'.o _ (h.n3 r hr).1 (h.n3 r hr).2]; exact h.mat.row r hr, h.mat.len, h.mat.inj, h.mat.ne, h.mat.lt⟩,
    by rw [h'.o _ a1 a2]; exact h.c3, by rw [h'.o _ a3 a4]; exact h.c4, h'.t, h'.w, tl, wl, wv, h.n1, h.n2, h.n3⟩
theorem ld_bools {hp : Nat → Option (List AV)} {i o : Nat} {T : List Bool} (h : hp i = some (bools T)) (ho : o < T.length) : aload hp false 1 (.ref i o) = some (.bool T[o]) := by
  rw [load_cell h (by simpa [bools] using ho)]; simp [bools]
theorem st_bools {hp : Nat → Option (List AV)} {i o : Nat} {T : List Bool} {v : Bool} (h : hp i = some (bools T)) (ho : o < T.length) : astore hp 1 (.ref i o) (.bool v) = some (fun k => if k = i then some (bools (T.set o v)) else hp k) := by
  rw [store_cell h (by simpa [bools] using ho) rfl]; simp [bools, List.map_set]
theorem range'_s {k n : Nat} (h : k < n) : List.range' k (n - k) = k :: List.range' (k + 1) (n - (k + 1)) := by
  have : n - k = (n - (k + 1)) + 1 := by omega
  rw [this, List.range'_succ]
theorem scan_all {rec : Nat → List Bool → List Int → Bool × List Bool × List Int} {r : List Int} {i : Nat} {T : List Bool} {W : List Int} (h : unt T = 0) : ∀ ks : List Nat, (∀ k ∈ ks, k < T.length) → scan rec r i ks T W = (false, T, W)
  | [], _ => rfl
  | k :: ks, hk => by
    have hkn := hk k (by simp)
    have : T.getD k false = true := by
      cases hb : T.getD k false with
      | true => rfl
      | false => have := unt_set hkn hb; omega
    rw [scan, if_pos (.inr this)]
    exact scan_all h ks fun j hj => hk j (by simp [hj])
set_option maxHeartbeats 1000000 in
theorem p73w {M : List (List Int)} {S : AV} {is : Nat} {b : Nat → Nat} {q3 q4 it iw : Nat} {rec : Nat → List Bool → List Int → Bool × List Bool × List Int} {hs : HS} {T : List Bool} {W : List Int} {i : Nat} (h0 : P73 hs M S is b q3 q4 it iw T W) (hi : i < M.length)
    (hkeep : ∀ i T W, i < M.length → T.length = M.length → W.length = M.length → (∀ v ∈ W, v < (M.length : Int)) → Keeps M.length T W (rec i T W))
    (hrec : ∀ {hs' : HS} {T' : List Bool} {W' : List Int} {j : Nat}, P73 hs' M S is b q3 q4 it iw T' W' → j < M.length → unt T' < unt T →
      FCall Try.prog 73 [.int .i64 (j : Int), .msl false 1 it 0 M.length true, .ptr S, .ref q3 0, .ref q4 0] hs' fun e hs2 => e = .ret (.bool (rec j T' W').1) ∧ Upd2 hs' it iw (rec j T' W').2.1 (rec j T' W').2.2 hs2) :
    FCall Try.prog 73 [.int .i64 (i : Int), .msl false 1 it 0 M.length true, .ptr S, .ref q3 0, .ref q4 0] hs fun e hs' => e = .ret (.bool (scan rec (M.getD i []) i (List.range' 0 M.length) T W).1) ∧ Upd2 hs it iw (scan rec (M.getD i []) i (List.range' 0 M.length) T W).2.1 (scan rec (M.getD i []) i (List.range' 0 M.length) T W).2.2 hs' := by
  have hM := h0.mat
  have hlt := hM.lt
  have hrl := hM.len i hi
  generalize hr : M.getD i [] = r at hrl
  have hS : S = .msl false 1 is 0 M.length true := hM.x
  have hSl : ∀ hp, aload hp false 1 (.ptr S) = some S := fun hp => leaf_ld (by rw [hS]; rfl) hp
  refine FCall.ofAt D0ok ok73 (by simp) ?_
  have hrow0 : aload hs.heap false 1 (.ref is i) = some (.msl false 1 (b i) 0 M.length true) := by
    rw [load_cell hM.rows (by simpa using hi)]; simp
  have hS1 : aidxS 1 S (.int .i64 (i : Int)) = some (.ref is i) := by rw [hS]; exact aidx_msln hi
  simp [A73, R73, hSl, hS1, hrow0]
  refine At.loop (fun (x : Nat × List Bool × List Int) s => x.1 ≤ M.length ∧ s.env 0 = .int .i64 (i : Int) ∧ s.env 1 = .msl false 1 it 0 M.length true ∧ s.env 2 = .ptr S ∧ s.env 3 = .ref q3 0 ∧ s.env 4 = .ref q4 0 ∧ s.env 13 = .msl false 1 (b i) 0 M.length true ∧ s.env 14 = .int .i64 (M.length : Int) ∧ s.env 15 = .int .i64 (x.1 : Int) ∧
      Upd2 hs it iw x.2.1 x.2.2 s.hs ∧ unt x.2.1 ≤ unt T ∧ x.2.1.length = M.length ∧ x.2.2.length = M.length ∧ (∀ v ∈ x.2.2, v < (M.length : Int)) ∧ scan rec r i (List.range' 0 M.length) T W = scan rec r i (List.range' x.1 (M.length - x.1)) x.2.1 x.2.2) (fun x => M.length - x.1) (0, T, W) ?_ ?_
  · exact ⟨by omega, by simp, by simp, by simp, by simp, by simp, by simp, by simp, by simp, ⟨rfl, rfl, rfl, by simpa using h0.t, by simpa using h0.w, fun _ _ _ => rfl⟩, Nat.le_refl _, h0.tl, h0.wl, h0.wv, by simp⟩
  rintro N ⟨k, T1, W1⟩ s hN ⟨hk, e0, e1, e2, e3, e4, e13, e14, e15, hU, hun, htl, hwl, hwv, hsc⟩
  simp only at hk htl hwl hwv hsc hU hun e15
  have hP := h0.upd hU htl hwl hwv
  simp [e14, e15]
  refine At.dec (fun hlt2 => ?_) (fun hlt2 => ?_)
  · have hk' : k < M.length := by omega
    have hkT : k < T1.length := by omega
    have hkW : k < W1.length := by omega
    have hkr : k < r.length := by omega
    have hrow := hP.mat.row i hi
    rw [hr] at hrow
    rw [range'_s hk', scan] at hsc
    have wk : IntKind.i64.wrap ((k : Int) + 1) = (k : Int) + 1 := wrap64 (by omega) (by omega)
    have hq3 := load_one hP.c3
    have hq4 := load_one hP.c4
    obtain ⟨a1, a2, a3, a4, a5, a6⟩ := hP.n2
    have b1 : b i ≠ it := (hP.n3 i hi).1
    simp [e13, e15, hk', ld_ints hrow hkr]
    by_cases hz : r[k] = 0
    · have hg : r.getD k 0 = 0 := by rw [getD_of hkr]; exact hz
      rw [if_pos (.inl hg)] at hsc
      simp [hz, e15]
      exact hN (k + 1, T1, W1) _ (by simp only; omega) ⟨by simp only; omega, by simp [e0], by simp [e1], by simp [e2], by simp [e3], by simp [e4], by simp [e13], by simp [e14], by simp [wk], by simpa using hU, hun, htl, hwl, hwv, hsc⟩
    have hg : ¬ r.getD k 0 = 0 := by rw [getD_of hkr]; exact hz
    simp [hz, e1, hk', ld_bools hP.t hkT]
    by_cases ht : T1[k] = true
    · have hgt : T1.getD k false = true := by simp [List.getD, hkT, ht]
      rw [if_pos (.inr hgt)] at hsc
      simp [ht, e15]
      exact hN (k + 1, T1, W1) _ (by simp only; omega) ⟨by simp only; omega, by simp [e0], by simp [e1], by simp [e2], by simp [e3], by simp [e4], by simp [e13], by simp [e14], by simp [wk], by simpa using hU, hun, htl, hwl, hwv, hsc⟩
    have htf : T1[k] = false := by simpa using ht
    have hgt : T1.getD k false = false := by simp [List.getD, hkT, htf]
    rw [if_neg (by rw [hgt]; simp; simpa [List.getD, hkr] using hz)] at hsc
    have hu := unt_set hkT hgt
    have hU1 : Upd2 hs it iw (T1.set k true) W1 ⟨fun j => if j = it then some (bools (T1.set k true)) else s.hs.heap j, s.hs.nh, s.hs.nt, s.hs.tok, s.hs.mp⟩ := ⟨hU.nh, hU.nt, hU.tok, by simp, by simp [Ne.symm hP.n1]; exact hU.w, fun j h1 h2 => by simp [h1]; exact hU.o j h1 h2⟩
    have hP1 := h0.upd hU1 (by simp [htl]) hwl hwv
    have hq31 := load_one hP1.c3
    have hq41 := load_one hP1.c4
    have hldw := ld_ints hP1.w hkW
    simp only at hq31 hq41 hldw
    simp [htf, e1, hk', st_bools hP.t hkT, e3, hq31, hldw]
    have hgw : W1.getD k 0 = W1[k] := getD_of hkW
    rw [hgw] at hsc
    have hiw := Ne.symm hP.n1
    by_cases hneg : W1[k] < 0
    · rw [if_pos hneg] at hsc
      have hst := st_ints (v := (i : Int)) hP1.w hkW
      simp only at hst
      simp [hneg, e0, e3, hq31, hk', hst, hr, hsc]
      exact At.of ⟨hU.nh, hU.nt, hU.tok, by simp [hP.n1], by simp, fun j h1 h2 => by simp [h1, h2]; exact hU.o j h1 h2⟩
    · rw [if_neg hneg] at hsc
      have hvl : W1[k] < (M.length : Int) := hwv _ (List.getElem_mem _)
      obtain ⟨j, hj⟩ := Int.eq_ofNat_of_zero_le (show 0 ≤ W1[k] by omega)
      rw [hj] at hsc hvl
      have hj' : j < M.length := by omega
      have hc := hrec hP1 hj' (by omega)
      have hkp := hkeep j (T1.set k true) W1 hj' (by simp [htl]) hwl hwv
      rw [show ((j : Int)).toNat = j by omega] at hsc
      simp [show ¬ ((j : Int) < 0) by omega, e1, e3, e4, hq31, hq41, hk', hldw, hj]
      refine At.hc (by simpa using hc) ?_ (fun v hs' h => by cases h.1)
      rintro v hs2 ⟨hv, hU2⟩
      injection hv with hv; subst hv
      have hU3 := hU1.trans hU2
      have hP3 := h0.upd hU3 hkp.tl hkp.wl hkp.wv
      by_cases hb : (rec j (T1.set k true) W1).1 = true
      · rw [if_pos hb] at hsc
        have hst := st_ints (v := (i : Int)) (o := k) hP3.w (by rw [hkp.wl]; exact hk')
        have hq33 := load_one hP3.c3
        simp [hb, e0, e3, hq33, hk', hst, hr, hsc]
        exact At.of ⟨hU3.nh, hU3.nt, hU3.tok, by simp [hP.n1]; exact hU3.t, by simp, fun j h1 h2 => by simp [h2]; exact hU3.o j h1 h2⟩
      · rw [if_neg hb] at hsc
        have hbf : (rec j (T1.set k true) W1).1 = false := by simpa using hb
        simp [hbf, e15]
        exact hN (k + 1, (rec j (T1.set k true) W1).2.1, (rec j (T1.set k true) W1).2.2) _ (by simp only; omega) ⟨by simp only; omega, by simp [e0], by simp [e1], by simp [e2], by simp [e3], by simp [e4], by simp [e13], by simp [e14], by simp [wk], by simpa using hU3, by have := hkp.un; simp only; omega, hkp.tl, hkp.wl, hkp.wv, hsc⟩
  · have : k = M.length := by omega
    subst this
    rw [Nat.sub_self] at hsc
    simp [hr, hsc, scan]
    exact At.of hU
theorem p73 {M : List (List Int)} {S : AV} {is : Nat} {b : Nat → Nat} {q3 q4 it iw : Nat} : ∀ (f : Nat) {hs : HS} {T : List Bool} {W : List Int} {i : Nat}, P73 hs M S is b q3 q4 it iw T W → i < M.length → unt T ≤ f →
    FCall Try.prog 73 [.int .i64 (i : Int), .msl false 1 it 0 M.length true, .ptr S, .ref q3 0, .ref q4 0] hs fun e hs' => e = .ret (.bool (placeF M f i T W).1) ∧ Upd2 hs it iw (placeF M f i T W).2.1 (placeF M f i T W).2.2 hs'
  | 0, hs, T, W, i, h0, hi, hu => by
    have := p73w (rec := placeF M 0) h0 hi (fun i T W => place_keeps M 0 i T W) (fun _ _ h => by omega)
    rw [scan_all (by omega) _ (fun k hk => by rw [h0.tl]; simpa using hk)] at this
    exact this
  | f + 1, hs, T, W, i, h0, hi, hu => p73w (rec := placeF M f) h0 hi (fun i T W => place_keeps M f i T W) (fun h1 h2 h3 => p73 f h1 h2 (by omega))
end Go.Proofs.Ytokgpcdbpkginaa
set_option linter.unusedVariables false
set_option linter.unusedSimpArgs false
namespace Go.Proofs.Ytokgpcdbpkginaa
open Go Fw

def mm (M : List (List Int)) (r k : Nat) : Int := (M.getD r []).getD k 0
def isT (T : List Bool) (k : Nat) : Prop := T.getD k false = true
theorem isT_set {T : List Bool} {k j : Nat} (hk : k < T.length) : isT (T.set k true) j ↔ isT T j ∨ j = k := by
  unfold isT
  by_cases h : j = k
  · subst h; simp [List.getD, hk]
  · simp [List.getD, List.getElem?_set, Ne.symm h, h]
/-- every row that stands in a column has hours there -/
def edges (M : List (List Int)) (W : List Int) : Prop := ∀ k, k < W.length → 0 ≤ W.getD k 0 → mm M (W.getD k 0).toNat k ≠ 0
def i1 (p : Prop) [Decidable p] : Nat := if p then 1 else 0
theorem count_set {l : List Int} {k : Nat} (hk : k < l.length) (a v : Int) : (l.set k a).count v + i1 (l.getD k 0 = v) = l.count v + i1 (a = v) := by
  induction l generalizing k with
  | nil => simp at hk
  | cons b l ih =>
    cases k with
    | zero =>
      simp only [List.set_cons_zero, List.count_cons, List.getD_cons_zero, i1, beq_iff_eq]
      omega
    | succ k =>
      have := ih (k := k) (by simpa using hk)
      simp only [List.set_cons_succ, List.count_cons, List.getD_cons_succ]
      omega
structure PSpec (M : List (List Int)) (i : Nat) (ks : List Nat) (T : List Bool) (W : List Int) (x : Bool × List Bool × List Int) : Prop where
  mono : ∀ k, isT T k → isT x.2.1 k
  yes : x.1 = true → (∀ k, isT T k → x.2.2.getD k 0 = W.getD k 0) ∧ edges M x.2.2 ∧ (∀ v ∈ x.2.2, -1 ≤ v) ∧ ∀ v : Int, x.2.2.count v + i1 (v = -1) = W.count v + i1 (v = (i : Int))
  no : x.1 = false → x.2.2 = W ∧ (∀ k ∈ ks, mm M i k ≠ 0 → isT x.2.1 k) ∧ ∀ k, isT x.2.1 k → isT T k ∨ (0 ≤ W.getD k 0 ∧ ∀ k2, k2 < M.length → mm M (W.getD k 0).toNat k2 ≠ 0 → isT x.2.1 k2)
theorem getD_set {l : List Int} {k j : Nat} {a : Int} (hk : k < l.length) : (l.set k a).getD j 0 = if j = k then a else l.getD j 0 := by
  by_cases h : j = k
  · subst h; simp [List.getD, hk]
  · simp [List.getD, List.getElem?_set, Ne.symm h, h]
theorem edges_set {M : List (List Int)} {W : List Int} {k i : Nat} (h : edges M W) (hk : k < W.length) (hm : mm M i k ≠ 0) : edges M (W.set k (i : Int)) := by
  intro j hj h0
  rw [getD_set hk] at h0 ⊢
  split
  · rename_i e; subst e; simpa using hm
  · rename_i e
    rw [if_neg e] at h0
    exact h j (by simpa using hj) h0
theorem scan_spec {M : List (List Int)} {f : Nat} {rec : Nat → List Bool → List Int → Bool × List Bool × List Int}
    (hkeep : ∀ i T W, i < M.length → T.length = M.length → W.length = M.length → (∀ v ∈ W, v < (M.length : Int)) → Keeps M.length T W (rec i T W))
    (hrec : ∀ i T W, i < M.length → T.length = M.length → W.length = M.length → (∀ v ∈ W, v < (M.length : Int)) → (∀ v ∈ W, -1 ≤ v) → edges M W → unt T ≤ f → PSpec M i (List.range' 0 M.length) T W (rec i T W))
    {i : Nat} (hi : i < M.length) :
    ∀ (ks : List Nat), (∀ k ∈ ks, k < M.length) → ∀ T W, T.length = M.length → W.length = M.length → (∀ v ∈ W, v < (M.length : Int)) → (∀ v ∈ W, -1 ≤ v) → edges M W → unt T ≤ f + 1 → PSpec M i ks T W (scan rec (M.getD i []) i ks T W)
  | [], _, T, W, h1, h2, h3, h4, h5, h6 => ⟨fun k h => h, fun h => (by cases h), fun _ => ⟨rfl, fun k h => by simp at h, fun k h => .inl h⟩⟩
  | k :: ks, hk, T, W, h1, h2, h3, h4, h5, h6 => by
    have hkn := hk k (by simp)
    have hkT : k < T.length := by omega
    have hkW : k < W.length := by omega
    have hks : ∀ k ∈ ks, k < M.length := fun j hj => hk j (by simp [hj])
    rw [scan]
    split
    · rename_i h
      have ih := scan_spec hkeep hrec hi ks hks T W h1 h2 h3 h4 h5 h6
      refine ⟨ih.mono, ih.yes, fun hn => ?_⟩
      obtain ⟨a, b, c⟩ := ih.no hn
      refine ⟨a, fun j hj hm => ?_, c⟩
      rcases List.mem_cons.1 hj with rfl | hj
      · rcases h with h | h
        · exact absurd h hm
        · exact ih.mono _ h
      · exact b j hj hm
    · rename_i h
      have hT : T.getD k false = false := by
        cases hb : T.getD k false with
        | false => rfl
        | true => exact absurd (.inr hb) h
      have hmk : mm M i k ≠ 0 := fun e => h (.inl e)
      have hu := unt_set hkT hT
      have hnk : ¬ isT T k := fun e => by rw [isT, hT] at e; cases e
      split
      · rename_i hneg
        have hw1 : W.getD k 0 = -1 := by
          have := h4 (W.getD k 0) (by rw [getD_of hkW]; exact List.getElem_mem _)
          omega
        refine ⟨fun j hj => (isT_set hkT).2 (.inl hj), fun _ => ⟨fun j hj => ?_, edges_set h5 hkW hmk, ?_, fun v => ?_⟩, fun h => by cases h⟩
        · simp only
          rw [getD_set hkW, if_neg (by rintro rfl; exact hnk hj)]
        · intro v hv
          rcases mem_set hv with rfl | hv
          · omega
          · exact h4 v hv
        · have := count_set hkW (i : Int) v
          rw [hw1] at this
          have c1 : ((-1 : Int) = v) = (v = -1) := propext ⟨Eq.symm, Eq.symm⟩
          have c2 : ((i : Int) = v) = (v = (i : Int)) := propext ⟨Eq.symm, Eq.symm⟩
          simp only [i1, c1, c2] at this ⊢
          omega
      · rename_i hneg
        have hwk : W.getD k 0 < M.length := by rw [getD_of hkW]; exact h3 _ (List.getElem_mem _)
        obtain ⟨j, hj⟩ := Int.eq_ofNat_of_zero_le (show 0 ≤ W.getD k 0 by omega)
        have hj' : j < M.length := by omega
        rw [show (W.getD k 0).toNat = j by omega]
        have hr := hrec j (T.set k true) W hj' (by simp [h1]) h2 h3 h4 h5 (by omega)
        have hq := hkeep j (T.set k true) W hj' (by simp [h1]) h2 h3
        generalize rec j (T.set k true) W = x at hr hq
        obtain ⟨b, T2, W2⟩ := x
        have htk : isT (T.set k true) k := (isT_set hkT).2 (.inr rfl)
        have hkW2 : k < W2.length := by have := hq.wl; simp only at this; omega
        split
        · rename_i hb
          obtain ⟨y1, y2, y3, y4⟩ := hr.yes hb
          simp only at y1 y2 y3 y4
          refine ⟨fun j hj => hr.mono j ((isT_set hkT).2 (.inl hj)), fun _ => ⟨fun l hl => ?_, edges_set y2 hkW2 hmk, ?_, fun v => ?_⟩, fun h => by cases h⟩
          · simp only
            rw [getD_set hkW2, if_neg (by rintro rfl; exact hnk hl)]
            exact y1 l ((isT_set hkT).2 (.inl hl))
          · intro v hv
            rcases mem_set hv with rfl | hv
            · omega
            · exact y3 v hv
          · have e1 := count_set hkW2 (i : Int) v
            have e2 := y4 v
            rw [y1 k htk, hj] at e1
            simp only [i1] at e1 e2 ⊢
            have c1 : ((j : Int) = v) = (v = (j : Int)) := propext ⟨Eq.symm, Eq.symm⟩
            have c2 : ((i : Int) = v) = (v = (i : Int)) := propext ⟨Eq.symm, Eq.symm⟩
            simp only [c1, c2] at e1
            omega
        · rename_i hb
          have hb : b = false := by simpa using hb
          obtain ⟨n1, n2, n3⟩ := hr.no hb
          simp only at n1 n2 n3
          subst n1
          have hu2 := hq.un
          simp only at hu2
          have ih := scan_spec hkeep hrec hi ks hks T2 W2 hq.tl hq.wl hq.wv h4 h5 (by omega)
          refine ⟨fun j hj => ih.mono j (hr.mono j ((isT_set hkT).2 (.inl hj))), fun hy => ?_, fun hn => ?_⟩
          · obtain ⟨y1, y2, y3, y4⟩ := ih.yes hy
            exact ⟨fun l hl => y1 l (hr.mono l ((isT_set hkT).2 (.inl hl))), y2, y3, y4⟩
          · obtain ⟨m1, m2, m3⟩ := ih.no hn
            refine ⟨m1, fun l hl hm => ?_, fun l hl => ?_⟩
            · rcases List.mem_cons.1 hl with rfl | hl
              · exact ih.mono _ (hr.mono _ htk)
              · exact m2 l hl hm
            · rcases m3 l hl with h' | h'
              · rcases n3 l h' with h'' | ⟨h'', h3'⟩
                · rcases (isT_set hkT).1 h'' with h4' | rfl
                  · exact .inl h4'
                  · refine .inr ⟨by omega, fun k2 hk2 hm2 => ih.mono _ (n2 k2 (by simpa using hk2) ?_)⟩
                    rw [hj] at hm2
                    simpa using hm2
                · exact .inr ⟨h'', fun k2 hk2 hm2 => ih.mono _ (h3' k2 hk2 hm2)⟩
              · exact .inr h'
theorem unt_zero {T : List Bool} (h : unt T = 0) {k : Nat} (hk : k < T.length) : isT T k := by
  unfold isT
  cases hb : T.getD k false with
  | true => rfl
  | false => have := unt_set hk hb; omega
theorem place_spec (M : List (List Int)) : ∀ (f i : Nat) (T : List Bool) (W : List Int), i < M.length → T.length = M.length → W.length = M.length → (∀ v ∈ W, v < (M.length : Int)) → (∀ v ∈ W, -1 ≤ v) → edges M W → unt T ≤ f → PSpec M i (List.range' 0 M.length) T W (placeF M f i T W)
  | 0, i, T, W, hi, h1, h2, h3, h4, h5, h6 => ⟨fun k h => h, fun h => (by cases h), fun _ => ⟨rfl, fun k hk _ => unt_zero (T := T) (by omega) (by rw [h1]; simpa using hk), fun k h => .inl h⟩⟩
  | f + 1, i, T, W, hi, h1, h2, h3, h4, h5, h6 => scan_spec (f := f) (fun i T W => place_keeps M f i T W) (fun i T W => place_spec M f i T W) hi _ (fun k hk => by simpa using hk) T W h1 h2 h3 h4 h5 h6
/-! sums over lists of rows and columns -/
def sumF {α : Type} (l : List α) (f : α → Int) : Int := (l.map f).sum
theorem sumF_cons {α : Type} (a : α) (l : List α) (f : α → Int) : sumF (a :: l) f = f a + sumF l f := by simp [sumF]
theorem sumF_const {α : Type} (l : List α) (c : Int) : sumF l (fun _ => c) = l.length * c := by
  induction l with
  | nil => simp [sumF]
  | cons a l ih => rw [sumF_cons, ih, List.length_cons]; simp [Int.add_mul]; omega
theorem sumF_congr {α : Type} {l : List α} {f g : α → Int} (h : ∀ a ∈ l, f a = g a) : sumF l f = sumF l g := by
  unfold sumF; rw [List.map_congr_left h]
theorem sumF_add {α : Type} (l : List α) (f g : α → Int) : sumF l (fun a => f a + g a) = sumF l f + sumF l g := sum_map_add f g l
theorem sumF_swap {α β : Type} (l : List α) (m : List β) (f : α → β → Int) : sumF l (fun a => sumF m (f a)) = sumF m (fun b => sumF l (fun a => f a b)) := by
  induction l with
  | nil => simp only [sumF, List.map_nil, List.sum_nil]; exact (by have := sumF_const m 0; simp only [sumF] at this; omega)
  | cons a l ih =>
    rw [sumF_cons, ih, ← sumF_add]
    exact sumF_congr fun b _ => (sumF_cons a l fun a => f a b).symm
theorem sumF_filter {α : Type} {l : List α} {p : α → Bool} {f : α → Int} (h : ∀ a ∈ l, p a = false → f a = 0) : sumF (l.filter p) f = sumF l f := by
  induction l with
  | nil => rfl
  | cons a l ih =>
    have := ih (fun b hb => h b (by simp [hb]))
    by_cases hp : p a = true
    · rw [List.filter_cons_of_pos hp, sumF_cons, sumF_cons, this]
    · rw [List.filter_cons_of_neg hp, sumF_cons, this, h a (by simp) (by simpa using hp)]; omega
theorem sumF_nn {α : Type} {l : List α} {f : α → Int} (h : ∀ a ∈ l, 0 ≤ f a) : 0 ≤ sumF l f := by
  induction l with
  | nil => exact Int.le_refl _
  | cons a l ih => rw [sumF_cons]; have := h a (by simp); have := ih (fun b hb => h b (by simp [hb])); omega
theorem sumF_erase {l : List Nat} {a : Nat} {f : Nat → Int} (h : a ∈ l) : sumF l f = f a + sumF (l.erase a) f := by
  induction l with
  | nil => cases h
  | cons b l ih =>
    by_cases hb : b = a
    · subst hb; rw [List.erase_cons_head, sumF_cons]
    · have hm : a ∈ l := (List.mem_cons.1 h).resolve_left (Ne.symm hb)
      rw [List.erase_cons_tail (by simpa using hb), sumF_cons, sumF_cons, ih hm]; omega
theorem two_count : ∀ {l : List Int} {v : Int} {k j : Nat}, k < j → j < l.length → l.getD k 0 = v → l.getD j 0 = v → 2 ≤ l.count v
  | [], _, _, _, _, h, _, _ => by simp at h
  | a :: l, v, 0, j + 1, _, h, h1, h2 => by
    have hj : j < l.length := by simpa using h
    have h1 : a = v := by simpa using h1
    have h2 : l.getD j 0 = v := by simpa using h2
    have : v ∈ l := by rw [← h2, getD_of hj]; exact List.getElem_mem _
    have := List.count_pos_iff.2 this
    rw [List.count_cons, if_pos (by simpa using h1)]; omega
  | a :: l, v, k + 1, j + 1, hkj, h, h1, h2 => by
    have := two_count (l := l) (v := v) (k := k) (j := j) (by omega) (by simpa using h) (by simpa using h1) (by simpa using h2)
    rw [List.count_cons]; omega
theorem one_count {l : List Int} {v : Int} {k j : Nat} (h : l.count v ≤ 1) (hk : k < l.length) (hj : j < l.length) (h1 : l.getD k 0 = v) (h2 : l.getD j 0 = v) : k = j := by
  rcases Nat.lt_trichotomy k j with h' | h' | h'
  · have := two_count h' hj h1 h2; omega
  · exact h'
  · have := two_count h' hk h2 h1; omega
theorem sumF_sub : ∀ {R l : List Nat} {f : Nat → Int}, R.Nodup → (∀ r ∈ R, r ∈ l) → (∀ a ∈ l, 0 ≤ f a) → sumF R f ≤ sumF l f
  | [], l, f, _, _, h => sumF_nn h
  | r :: R, l, f, hn, hs, h => by
    obtain ⟨h1, h2⟩ := List.nodup_cons.1 hn
    have hr := hs r (by simp)
    rw [sumF_cons, sumF_erase hr]
    have := sumF_sub (R := R) (l := l.erase r) (f := f) h2 (fun a ha => (List.mem_erase_of_ne (by rintro rfl; exact h1 ha)).2 (hs a (by simp [ha]))) (fun a ha => h a (List.mem_of_mem_erase ha))
    omega
theorem sumF_le {α : Type} {l : List α} {f g : α → Int} (h : ∀ a ∈ l, f a ≤ g a) : sumF l f ≤ sumF l g := by
  induction l with
  | nil => exact Int.le_refl _
  | cons a l ih => rw [sumF_cons, sumF_cons]; have := h a (by simp); have := ih (fun b hb => h b (by simp [hb])); omega
/-- a square with equal line sums -/
structure Sqr (M : List (List Int)) (L : Int) : Prop where
  nn : ∀ r k, r < M.length → k < M.length → 0 ≤ mm M r k
  row : ∀ r, r < M.length → sumF (List.range M.length) (mm M r) = L
  col : ∀ k, k < M.length → sumF (List.range M.length) (fun r => mm M r k) = L
theorem nodup_of_count {l : List Int} (h : ∀ v, l.count v ≤ 1) : l.Nodup := List.nodup_iff_count.2 h
/-- the rows that stand, when i rows are placed -/
structure Pld (M : List (List Int)) (i : Nat) (W : List Int) : Prop where
  len : W.length = M.length
  lo : ∀ v ∈ W, -1 ≤ v
  hi : ∀ v ∈ W, v < (M.length : Int)
  ed : edges M W
  ct : ∀ r : Nat, W.count (r : Int) = i1 (r < i)
  neg : W.count (-1) = M.length - i
theorem place_yes {M : List (List Int)} {L : Int} (hS : Sqr M L) (hL : 0 < L) {i : Nat} (hi : i < M.length) {W : List Int} (hP : Pld M i W) {T : List Bool} (hT : T.length = M.length) (hTf : ∀ k, ¬ isT T k) {f : Nat} (hf : unt T ≤ f) : (placeF M f i T W).1 = true := by
  have hsp := place_spec M f i T W hi hT hP.len hP.hi hP.lo hP.ed hf
  cases hb : (placeF M f i T W).1 with
  | true => rfl
  | false =>
    exfalso
    obtain ⟨h1, h2, h3⟩ := hsp.no hb
    generalize (placeF M f i T W).2.1 = T' at h2 h3
    have hcl : ∀ k, isT T' k → 0 ≤ W.getD k 0 ∧ ∀ k2, k2 < M.length → mm M (W.getD k 0).toNat k2 ≠ 0 → isT T' k2 := fun k hk => by
      rcases h3 k hk with h | h
      · exact absurd h (hTf k)
      · exact h
    let p : Nat → Bool := fun k => T'.getD k false
    let N := (List.range M.length).filter p
    let R := i :: N.map fun k => (W.getD k 0).toNat
    have hN : ∀ k ∈ N, k < M.length ∧ isT T' k := fun k hk => by
      obtain ⟨a, b⟩ := List.mem_filter.1 hk
      exact ⟨by simpa using a, b⟩
    have hlt : ∀ k, k < M.length → isT T' k → (W.getD k 0).toNat < M.length := fun k hk ht => by
      have := hP.hi (W.getD k 0) (by rw [getD_of (by rw [hP.len]; exact hk)]; exact List.getElem_mem _)
      have := (hcl k ht).1
      omega
    -- rows: no two alike
    have hnd : R.Nodup := by
      refine List.nodup_cons.2 ⟨fun hm => ?_, ?_⟩
      · obtain ⟨k, hk, e⟩ := List.mem_map.1 hm
        obtain ⟨a, b⟩ := hN k hk
        have hkW : k < W.length := by rw [hP.len]; exact a
        have hc := hP.ct i
        have : (i : Int) ∈ W := by
          have h0 := (hcl k b).1
          have : W.getD k 0 = (i : Int) := by omega
          rw [← this, getD_of hkW]; exact List.getElem_mem _
        have := List.count_pos_iff.2 this
        simp [i1] at hc
        omega
      · refine List.pairwise_map.2 (List.Pairwise.imp_of_mem ?_ (List.Nodup.sublist List.filter_sublist List.nodup_range : N.Nodup))
        intro k j hk hj hkj e
        obtain ⟨a, b⟩ := hN k hk
        obtain ⟨c, d⟩ := hN j hj
        have h0 := (hcl k b).1
        have h0' := (hcl j d).1
        obtain ⟨v, hv⟩ := Int.eq_ofNat_of_zero_le h0
        have hc := hP.ct v
        have hc : W.count (v : Int) ≤ 1 := by rw [hc]; unfold i1; split <;> omega
        exact hkj (one_count hc (by rw [hP.len]; exact a) (by rw [hP.len]; exact c) hv (by omega))
    have hsub : ∀ r ∈ R, r ∈ List.range M.length := fun r hr => by
      rcases List.mem_cons.1 hr with rfl | hr
      · simpa using hi
      · obtain ⟨k, hk, rfl⟩ := List.mem_map.1 hr
        obtain ⟨a, b⟩ := hN k hk
        simpa using hlt k a b
    -- the hours of these rows lie in the tried columns
    have e1 : sumF R (fun r => sumF N (mm M r)) = sumF R fun _ => L := sumF_congr fun r hr => by
      have hr' : r < M.length := by simpa using hsub r hr
      rw [← hS.row r hr']
      refine sumF_filter fun k hk hp => ?_
      have hk' : k < M.length := by simpa using hk
      rcases Decidable.em (mm M r k = 0) with h | h
      · exact h
      · exfalso
        have : isT T' k := by
          rcases List.mem_cons.1 hr with rfl | hr
          · exact h2 k (by simpa using hk') h
          · obtain ⟨k0, hk0, rfl⟩ := List.mem_map.1 hr
            exact (hcl k0 (hN k0 hk0).2).2 k hk' h
        simp only [p] at hp
        rw [isT, hp] at this
        cases this
    rw [sumF_swap, sumF_const] at e1
    have e2 : sumF N (fun k => sumF R fun r => mm M r k) ≤ sumF N fun _ => L := sumF_le fun k hk => by
      obtain ⟨a, b⟩ := hN k hk
      rw [← hS.col k a]
      exact sumF_sub hnd hsub fun r hr => hS.nn r k (by simpa using hr) a
    rw [sumF_const, e1] at e2
    have : R.length = N.length + 1 := by simp [R]
    rw [this] at e2
    have : ((N.length + 1 : Nat) : Int) * L = N.length * L + L := by rw [Int.natCast_add, Int.add_mul]; simp
    omega
theorem Pld.zero (M : List (List Int)) : Pld M 0 (List.replicate M.length (-1)) := by
  refine ⟨by simp, fun v hv => ?_, fun v hv => ?_, fun k hk h => ?_, fun r => ?_, by simp⟩
  · have := List.eq_of_mem_replicate hv; omega
  · have := List.eq_of_mem_replicate hv; omega
  · rw [getD_of hk, List.getElem_replicate] at h; omega
  · rw [List.count_replicate, if_neg (by simp)]; simp [i1]
theorem Pld.next {M : List (List Int)} {L : Int} (hS : Sqr M L) (hL : 0 < L) {i : Nat} (hi : i < M.length) {W : List Int} (hP : Pld M i W) {T : List Bool} (hT : T.length = M.length) (hTf : ∀ k, ¬ isT T k) {f : Nat} (hf : unt T ≤ f) : Pld M (i + 1) (placeF M f i T W).2.2 := by
  have hy := place_yes hS hL hi hP hT hTf hf
  have hsp := place_spec M f i T W hi hT hP.len hP.hi hP.lo hP.ed hf
  have hk := place_keeps M f i T W hi hT hP.len hP.hi
  obtain ⟨h1, h2, h3, h4⟩ := hsp.yes hy
  refine ⟨hk.wl, h3, hk.wv, h2, fun r => ?_, ?_⟩
  · have e := h4 r
    rw [hP.ct r] at e
    have a1 : i1 ((r : Int) = -1) = 0 := by simp only [i1]; rw [if_neg (by omega)]
    have a2 : i1 ((r : Int) = (i : Int)) = i1 (r = i) := by simp only [i1, Int.natCast_inj]
    rw [a1, a2] at e
    simp only [i1] at e ⊢
    by_cases hr : r < i
    · rw [if_pos hr, if_neg (by omega)] at e; rw [if_pos (by omega)]; omega
    · by_cases hr2 : r = i
      · rw [if_neg hr, if_pos hr2] at e; rw [if_pos (by omega)]; omega
      · rw [if_neg hr, if_neg hr2] at e; rw [if_neg (by omega)]; omega
  · have e := h4 (-1)
    rw [hP.neg] at e
    have a1 : i1 ((-1 : Int) = -1) = 1 := rfl
    have a2 : i1 ((-1 : Int) = (i : Int)) = 0 := by simp only [i1]; rw [if_neg (by omega)]
    rw [a1, a2] at e
    omega
end Go.Proofs.Ytokgpcdbpkginaa
set_option linter.unusedVariables false
set_option linter.unusedSimpArgs false
namespace Go.Proofs.Ytokgpcdbpkginaa
open Go Fw

theorem small {n : Nat} (h : n < 18) : n = 0 ∨ n = 1 ∨ n = 2 ∨ n = 3 ∨ n = 4 ∨ n = 5 ∨ n = 6 ∨ n = 7 ∨ n = 8 ∨ n = 9 ∨ n = 10 ∨ n = 11 ∨ n = 12 ∨ n = 13 ∨ n = 14 ∨ n = 15 ∨ n = 16 ∨ n = 17 := by omega
theorem and_n {n : Nat} (h : n < 18) : abin 0 .and (.int .u64 (n : Int)) (.int .u64 4294967295) = some (.int .u64 (n : Int)) := by
  rcases small h with h | h | h | h | h | h | h | h | h | h | h | h | h | h | h | h | h | h <;> subst h <;> rfl
theorem shr_n {n : Nat} (h : n < 18) : abin 0 .shr (.int .u64 (n : Int)) (.int .u64 32) = some (.int .u64 0) := by
  rcases small h with h | h | h | h | h | h | h | h | h | h | h | h | h | h | h | h | h | h <;> subst h <;> rfl
theorem mul_n {n : Nat} (h : n < 18) : abin 0 .mul (.int .u64 1) (.int .u64 (n : Int)) = some (.int .u64 (n : Int)) := by
  rcases small h with h | h | h | h | h | h | h | h | h | h | h | h | h | h | h | h | h | h <;> subst h <;> rfl
theorem mul_0 {n : Nat} (h : n < 18) : abin 0 .mul (.int .u64 0) (.int .u64 (n : Int)) = some (.int .u64 0) := by
  rcases small h with h | h | h | h | h | h | h | h | h | h | h | h | h | h | h | h | h | h <;> subst h <;> rfl
theorem ksh : abin 0 .shr (.int .u64 1) (.int .u64 32) = some (.int .u64 0) := rfl
theorem kan : abin 0 .and (.int .u64 1) (.int .u64 4294967295) = some (.int .u64 1) := rfl
theorem kad : abin 0 .add (.int .u64 0) (.int .u64 0) = some (.int .u64 0) := rfl
theorem kan0 : abin 0 .and (.int .u64 0) (.int .u64 4294967295) = some (.int .u64 0) := rfl
theorem ksh0 : abin 0 .shr (.int .u64 0) (.int .u64 32) = some (.int .u64 0) := rfl
theorem kmu : abin 0 .mul (.int .u64 0) (.int .u64 0) = some (.int .u64 0) := rfl
theorem kmu1 : abin 0 .mul (.int .u64 1) (.int .u64 0) = some (.int .u64 0) := rfl
theorem p87 {n : Nat} (h : n < 18) : PCall Try.prog 87 [.int .u64 1, .int .u64 (n : Int)] (.tup [.int .u64 0, .int .u64 (n : Int)]) := by
  refine PCall.of CtxOk.nil ok87 (by simp) rfl fun hs hb => ?_
  have w0 : IntKind.u64.wrap 0 = 0 := by decide
  simp only [A87, R87]
  simp [w0, kan, ksh, and_n h, shr_n h, mul_n h, mul_0 h, kad, kan0, ksh0, kmu, kmu1]
theorem p85 {n : Nat} (h : n < 18) : PCall Try.prog 85 [.int .u64 1, .int .u64 (n : Int)] (.tup [.int .u64 0, .int .u64 (n : Int)]) := by
  refine PCall.of (CtxOk.nil.pt (p87 h)) ok85 (by simp) rfl fun hs hb => ?_
  simp [A85, R85]
/-- the first x are set -/
def repL (n x : Nat) : List Int := List.replicate x (-1) ++ List.replicate (n - x) 0
theorem repL_len {n x : Nat} (h : x ≤ n) : (repL n x).length = n := by simp [repL]; omega
theorem repL_n (n : Nat) : repL n n = List.replicate n (-1) := by simp [repL]
theorem repL_0 (n : Nat) : repL n 0 = List.replicate n 0 := by simp [repL]
theorem repL_s {n x : Nat} (h : x < n) : (repL n x).set x (-1) = repL n (x + 1) := by
  apply List.ext_getElem
  · rw [List.length_set, repL_len (by omega), repL_len (by omega)]
  · intro i h1 h2
    rw [List.getElem_set]
    simp only [repL, List.getElem_append, List.length_replicate, List.getElem_replicate]
    split
    · rw [dif_pos (by omega)]
    · split <;> split <;> first | rfl | omega
theorem setL_rep {n : Nat} : ∀ (m : Nat) {x : Nat}, x + m ≤ n → setL (ints (repL n x)) x (ints (List.replicate m (-1))) = ints (repL n (x + m))
  | 0, x, h => rfl
  | m + 1, x, h => by
    have e : ints (List.replicate (m + 1) (-1)) = .int .i64 (-1) :: ints (List.replicate m (-1)) := by simp [ints, List.replicate_succ]
    rw [e, setL, ints_set, repL_s (by omega), setL_rep m (by omega)]
    congr 2; omega
theorem cont_rep {n x : Nat} (h : x ≤ n) : mcont false 1 0 x (ints (repL n x)) = some (ints (List.replicate x (-1))) := by
  unfold mcont
  rw [if_pos ⟨by rw [ints_len, repL_len h]; omega, .inr rfl⟩]
  congr 1
  apply List.ext_getElem
  · simp [ints]
  · intro i h1 h2
    have : i < x := by simpa using h1
    have h3 : i < (ints (repL n x)).length := by rw [ints_len, repL_len h]; omega
    simp only [List.getElem_map, List.getElem_range, Bool.false_eq_true, if_false, Nat.zero_add]
    rw [List.getD_eq_getElem?_getD, List.getElem?_eq_getElem h3]
    simp [ints, repL, List.getElem_append, this]
theorem cp1 {hs : HS} {q n : Nat} (h : hs.heap q = some (ints (repL n 0))) (h1 : 1 ≤ n) : acopy 1 hs (.msl false 1 q 0 n true) (.sl 1 [.int .i64 (-1)] .exact) = some (.int .i64 1, hs.upd q (ints (repL n 1))) := by
  have e : aelemsH hs.heap (.sl 1 [.int .i64 (-1)] .exact) = some [.int .i64 (-1)] := rfl
  have hl : (ints (repL n 0)).length = n := by rw [ints_len, repL_len (by omega)]
  unfold acopy
  rw [e]
  simp only [h]
  rw [if_pos ⟨trivial, rfl, by rw [hl]; simp; omega⟩]
  have hm : min [AV.int .i64 (-1)].length n = 1 := by simp; omega
  rw [hm]
  have := setL_rep (n := n) 1 (x := 0) (by omega)
  simp only [List.take_succ_cons, List.take_zero, flat, ci, List.append_nil]
  have e2 : ints (List.replicate 1 (-1)) = [.int .i64 (-1)] := rfl
  rw [e2] at this
  rw [this]
  rfl
theorem cpk {hs : HS} {q n x : Nat} (h : hs.heap q = some (ints (repL n x))) (h1 : x < n) : acopy 1 hs (.msl false 1 q x (n - x) true) (.msl false 1 q 0 x false) = some (.int .i64 (min x (n - x) : Nat), hs.upd q (ints (repL n (x + min x (n - x))))) := by
  have e : aelemsH hs.heap (.msl false 1 q 0 x false) = some (ints (List.replicate x (-1))) := by
    simp only [aelemsH, h, Option.bind_some, cont_rep (show x ≤ n by omega)]
  have hl : (ints (repL n x)).length = n := by rw [ints_len, repL_len (by omega)]
  have hl2 : (ints (List.replicate x (-1))).length = x := by simp [ints]
  unfold acopy
  rw [e]
  simp only [h, hl2]
  rw [if_pos ⟨trivial, rfl, by rw [hl]; omega⟩]
  have hm : (ints (List.replicate x (-1))).take (min x (n - x)) = ints (List.replicate (min x (n - x)) (-1)) := by
    simp [ints, List.take_replicate]
  rw [hm, flat_ints, setL_rep _ (by omega)]
  rfl
theorem p72 {n : Nat} (h1 : 1 ≤ n) (h : n < 18) (hs : HS) : FCall Try.prog 72 [.sl 1 [.int .i64 (-1)] .exact, .int .i64 (n : Int)] hs fun e hs' => e = .ret (.msl false 1 hs.nh 0 n true) ∧ hs' = hs.blk (ints (List.replicate n (-1))) := by
  refine FCall.ofAt (CtxOk.nil.pt (p85 h)) ok72 (by simp) ?_
  have w1 : IntKind.u64.wrap 1 = 1 := by decide
  have w2 : IntKind.u64.wrap (n : Int) = n := by
    rcases small h with h | h | h | h | h | h | h | h | h | h | h | h | h | h | h | h | h | h <;> subst h <;> decide
  have w3 : IntKind.i64.wrap (n : Int) = n := wrap64 (by omega) (by omega)
  have hm : amake false 1 [.int .i64 0] hs (.int .i64 (n : Int)) (.int .i64 (n : Int)) = _ := amake_eq (k1 := .i64) (k2 := .i64) (z := .int .i64 0) (hs := hs) (n := n) (by omega)
  simp [A72, R72, aconv, w1, w2, w3, show ¬ (n : Int) < 0 by omega, hm]
  simp [show ¬ (9223372036854775807 : Int) < n by omega, aconv, w3, hm]
  have hz : (hs.blk (List.replicate n (AV.int .i64 0))).heap hs.nh = some (ints (repL n 0)) := by rw [HS.blk_new, ints_rep, repL_0]
  simp [amem, cp1 hz h1]
  refine At.loop (fun (x : Nat) s => 1 ≤ x ∧ x ≤ n ∧ s.env 7 = .msl false 1 hs.nh 0 n true ∧ s.env 8 = .int .i64 (x : Int) ∧ s.hs = hs.blk (ints (repL n x))) (fun x => n - x) 1 ?_ ?_
  · exact ⟨by omega, by omega, by simp, by simp, by simp⟩
  rintro N x s hN ⟨hx1, hxn, e7, e8, eh⟩
  simp [e7, e8]
  refine At.dec (fun hlt => ?_) (fun hlt => ?_)
  · have hx : x < n := by omega
    have s1 : aslice 1 (.msl false 1 hs.nh 0 n true) (some (.int .i64 (x : Int))) none none = some (.msl false 1 hs.nh x (n - x) true) := by
      simp [aslice, aidx, amslice, amsub, show x ≤ n by omega, show ¬ x = n by omega]
    have s2 : aslice 1 (.msl false 1 hs.nh 0 n true) none (some (.int .i64 (x : Int))) none = some (.msl false 1 hs.nh 0 x false) := by
      simp [aslice, aidx, amslice, amsub, show x ≤ n by omega, show ¬ 0 = x by omega]
    have hc := cpk (hs := s.hs) (q := hs.nh) (n := n) (x := x) (by rw [eh]; simp) hx
    have w4 : IntKind.i64.wrap ((x : Int) + (min x (n - x) : Nat)) = ((x + min x (n - x) : Nat) : Int) := by rw [wrap64 (by omega) (by omega)]; omega
    simp [e7, e8, s1, s2, amem, hc, -Int.natCast_add, w4]
    exact hN (x + min x (n - x)) _ (by omega) ⟨by omega, by omega, by simp [e7], by simp, by simp [eh]⟩
  · have : x = n := by omega
    subst this
    rw [repL_n] at eh
    simp [e7, eh]
end Go.Proofs.Ytokgpcdbpkginaa
set_option linter.unusedVariables false
set_option linter.unusedSimpArgs false
namespace Go.Proofs.Ytokgpcdbpkginaa
open Go Fw

/-- a column for every row, each once, with hours there -/
structure MOk (M : List (List Int)) (O : List Int) : Prop where
  len : O.length = M.length
  ex : ∀ i, i < M.length → ∃ k : Nat, k < M.length ∧ O.getD i 0 = k ∧ mm M i k ≠ 0
  inj : ∀ i j, i < M.length → j < M.length → O.getD i 0 = O.getD j 0 → i = j
  sur : ∀ k : Nat, k < M.length → ∃ i, i < M.length ∧ O.getD i 0 = k
theorem Pld.val {M : List (List Int)} {W : List Int} (h : Pld M M.length W) {k : Nat} (hk : k < M.length) : ∃ r : Nat, r < M.length ∧ W.getD k 0 = r := by
  have hkW : k < W.length := by rw [h.len]; exact hk
  have hm : W.getD k 0 ∈ W := by rw [getD_of hkW]; exact List.getElem_mem _
  have h1 := h.lo _ hm
  have h2 := h.hi _ hm
  have hn : W.getD k 0 ≠ -1 := fun e => by
    rw [e] at hm
    have := List.count_pos_iff.2 hm
    rw [h.neg, Nat.sub_self] at this
    omega
  exact ⟨(W.getD k 0).toNat, by omega, by omega⟩
theorem Pld.one {M : List (List Int)} {W : List Int} (h : Pld M M.length W) {k j : Nat} (hk : k < M.length) (hj : j < M.length) (e : W.getD k 0 = W.getD j 0) : k = j := by
  obtain ⟨r, hr, e1⟩ := h.val hk
  have hc := h.ct r
  have hc : W.count (r : Int) ≤ 1 := by rw [hc]; unfold i1; split <;> omega
  exact one_count hc (by rw [h.len]; exact hk) (by rw [h.len]; exact hj) e1 (by rw [← e]; exact e1)
theorem mOk_of {M : List (List Int)} {W O : List Int} (h : Pld M M.length W) (hl : O.length = M.length) (ho : ∀ k, k < M.length → O.getD (W.getD k 0).toNat 0 = (k : Int)) : MOk M O := by
  have hex : ∀ i, i < M.length → ∃ k : Nat, k < M.length ∧ O.getD i 0 = k ∧ W.getD k 0 = i := fun i hi => by
    have hc := h.ct i
    have hin : (i : Int) ∈ W := List.count_pos_iff.1 (by rw [hc, i1, if_pos hi]; omega)
    obtain ⟨k, hk, e⟩ := List.getElem_of_mem hin
    have hk' : k < M.length := by rw [← h.len]; exact hk
    have e' : W.getD k 0 = i := by rw [getD_of hk, e]
    have := ho k hk'
    rw [e'] at this
    exact ⟨k, hk', by simpa using this, e'⟩
  refine ⟨hl, fun i hi => ?_, fun i j hi hj e => ?_, fun k hk => ?_⟩
  · obtain ⟨k, hk, e1, e2⟩ := hex i hi
    have := h.ed k (by rw [h.len]; exact hk) (by rw [e2]; omega)
    rw [e2] at this
    exact ⟨k, hk, e1, by simpa using this⟩
  · obtain ⟨k, hk, e1, e2⟩ := hex i hi
    obtain ⟨k', hk', e1', e2'⟩ := hex j hj
    have : k = k' := by omega
    subst this
    omega
  · obtain ⟨r, hr, e⟩ := h.val hk
    have := ho k hk
    rw [e] at this
    exact ⟨r, hr, by simpa using this⟩
theorem Mat.cong {hp hp' : Nat → Option (List AV)} {x : AV} {M : List (List Int)} {is : Nat} {b : Nat → Nat} (h : Mat hp x M is b) (h1 : hp' is = hp is) (h2 : ∀ r, r < M.length → hp' (b r) = hp (b r)) : Mat hp' x M is b :=
  ⟨h.x, by rw [h1]; exact h.rows, fun r hr => by rw [h2 r hr]; exact h.row r hr, h.len, h.inj, h.ne, h.lt⟩
theorem isT_f {n k : Nat} : ¬ isT (List.replicate n false) k := by
  unfold isT
  rw [List.getD_eq_getElem?_getD, List.getElem?_replicate]
  split <;> simp
/-- the rows that stand, i rows placed -/
def WF (M : List (List Int)) : Nat → List Int
  | 0 => List.replicate M.length (-1)
  | i + 1 => (placeF M M.length i (List.replicate M.length false) (WF M i)).2.2
/-- the columns of the rows, k columns read -/
def OL (M : List (List Int)) : Nat → List Int
  | 0 => List.replicate M.length 0
  | k + 1 => (OL M k).set ((WF M M.length).getD k 0).toNat (k : Int)
def OF (M : List (List Int)) : List Int := OL M M.length
set_option maxHeartbeats 1000000 in
theorem p49 {M : List (List Int)} {S : AV} {is : Nat} {b : Nat → Nat} {L : Int} {hs : HS} (hM : Mat hs.heap S M is b) (hi0 : is < hs.nh) (hb0 : ∀ r, r < M.length → b r < hs.nh) (hS : Sqr M L) (hL : 0 < L) (h1 : 1 ≤ M.length) (h17 : M.length < 18) :
    FCall Try.prog 49 [S] hs fun e hs' => ∃ io O, e = .ret (.msl false 1 io 0 M.length true) ∧ hs.nh ≤ io ∧ io < hs'.nh ∧ hs'.heap io = some (ints O) ∧ MOk M O ∧ HsExt hs hs' ∧ hs'.nt = hs.nt ∧ hs'.tok = hs.tok ∧ O = OF M := by
  have hSx : S = .msl false 1 is 0 M.length true := hM.x
  have hSl : ∀ hp, aload hp false 1 (.ptr S) = some S := fun hp => leaf_ld (by rw [hSx]; rfl) hp
  have hSlen : alenK false S = some (.int .i64 M.length) := by rw [hSx]; rfl
  have hSsto : S.sto = true := by rw [hSx]; rfl
  refine FCall.ofAt D0ok ok49 (by simp) ?_
  simp [A49, R49, hSl, hSlen, hSsto, astoAll, si]
  have h72 := p72 h1 h17 hs
  generalize hZ : ints (List.replicate M.length (-1)) = Z at h72
  have mk : ∀ (z : AV) (hs : HS), amake false 1 [z] hs (.int .i64 (M.length : Int)) (.int .i64 (M.length : Int)) = _ := fun z hs => amake_eq (k1 := .i64) (k2 := .i64) (z := z) (hs := hs) (n := M.length) (by omega)
  refine At.hc h72 ?_ (fun v hs' h => by cases h.1)
  rintro v hs1 ⟨hv, rfl⟩
  injection hv with hv; subst hv
  simp [HS.blk, store_one (hp := fun j => if j = hs.nh + 1 then some [AV.nilsl] else if j = hs.nh then some Z else hs.heap j) (i := hs.nh + 1) (u := .nilsl) (v := .msl false 1 hs.nh 0 M.length true) (by simp) rfl rfl, sm, cm]
  simp [store_one (hp := fun j => if j = hs.nh + 1 + 1 then some [AV.nilfn] else if j = hs.nh + 1 then some [AV.msl false 1 hs.nh 0 M.length true] else if j = hs.nh + 1 then some [AV.nilsl] else if j = hs.nh then some Z else hs.heap j) (i := hs.nh + 1 + 1) (u := .nilfn) (v := .fn (.func 73) [] [.ptr S, .ref (hs.nh + 1) 0, .ref (hs.nh + 1 + 1) 0]) (by simp) rfl rfl, hSl, hSlen, mk]
  generalize hG : (fun j => if j = hs.nh + 1 + 1 then some [AV.fn (.func 73) [] [.ptr S, .ref (hs.nh + 1) 0, .ref (hs.nh + 1 + 1) 0]] else if j = hs.nh + 1 + 1 then some [AV.nilfn] else if j = hs.nh + 1 then some [AV.msl false 1 hs.nh 0 M.length true] else if j = hs.nh + 1 then some [AV.nilsl] else if j = hs.nh then some Z else hs.heap j) = G
  have G2 : G (hs.nh + 1 + 1) = some [AV.fn (.func 73) [] [.ptr S, .ref (hs.nh + 1) 0, .ref (hs.nh + 1 + 1) 0]] := by rw [← hG]; simp
  have G1 : G (hs.nh + 1) = some [AV.msl false 1 hs.nh 0 M.length true] := by rw [← hG]; simp
  have G0 : G hs.nh = some Z := by rw [← hG]; simp only; rw [if_neg (by omega), if_neg (by omega), if_neg (by omega), if_neg (by omega), if_pos trivial]
  have Go' : ∀ j, j < hs.nh → G j = hs.heap j := fun j hj => by rw [← hG]; simp only; rw [if_neg (by omega), if_neg (by omega), if_neg (by omega), if_neg (by omega), if_neg (by omega)]
  clear hG
  rw [← hZ] at G0
  simp only [HS.blk]
  refine At.loop (fun (x : Nat × List Int) s => x.1 ≤ M.length ∧ Pld M x.1 x.2 ∧ s.env 1 = .ptr S ∧ s.env 3 = .ref (hs.nh + 1) 0 ∧ s.env 4 = .ref (hs.nh + 1 + 1) 0 ∧ s.env 5 = .msl false 1 (hs.nh + 1 + 1 + 1) 0 M.length true ∧ s.env 18 = .int .i64 (M.length : Int) ∧ s.env 19 = .int .i64 (x.1 : Int) ∧
      hs.nh + 1 + 1 + 1 < s.hs.nh ∧ s.hs.heap hs.nh = some (ints x.2) ∧ s.hs.heap (hs.nh + 1) = G (hs.nh + 1) ∧ s.hs.heap (hs.nh + 1 + 1) = G (hs.nh + 1 + 1) ∧ s.hs.heap (hs.nh + 1 + 1 + 1) = some (ints (List.replicate M.length 0)) ∧ (∀ j, j < hs.nh → s.hs.heap j = hs.heap j) ∧ s.hs.nt = hs.nt ∧ s.hs.tok = hs.tok ∧ x.2 = WF M x.1) (fun x => M.length - x.1) (0, List.replicate M.length (-1)) ?_ ?_
  · refine ⟨by omega, Pld.zero M, by simp, by simp, by simp, by simp, by simp, by simp, by simp, ?_, by simp, by simp, ?_, fun j hj => ?_, by simp, by simp, rfl⟩
    · show (if hs.nh = hs.nh + 1 + 1 + 1 then _ else G hs.nh) = _
      rw [if_neg (by omega)]; exact G0
    · simp
    · simp; rw [if_neg (by omega)]; exact Go' j hj
  rintro N ⟨i, W⟩ s hN ⟨hi, hP, e1, e3, e4, e5, e18, e19, hn, hW, hc3, hc4, hO, hlow, hnt, htok, hWF⟩
  simp only at hi hP e19 hW hWF
  simp [e18, e19]
  refine At.dec (fun hlt => ?_) (fun hlt => ?_)
  · have hi' : i < M.length := by omega
    have wk : IntKind.i64.wrap ((i : Int) + 1) = (i : Int) + 1 := wrap64 (by omega) (by omega)
    have l4 : aload s.hs.heap false 1 (.ref (hs.nh + 1 + 1) 0) = some (.fn (.func 73) [] [.ptr S, .ref (hs.nh + 1) 0, .ref (hs.nh + 1 + 1) 0]) := load_one (by rw [hc4, G2])
    have hb4 : List.replicate M.length (AV.bool false) = bools (List.replicate M.length false) := by simp [bools]
    have hU : unt (List.replicate M.length false) ≤ M.length := by simp [unt]
    have hPP : P73 (s.hs.blk (bools (List.replicate M.length false))) M S is b (hs.nh + 1) (hs.nh + 1 + 1) s.hs.nh hs.nh (List.replicate M.length false) W := by
      refine ⟨hM.cong ?_ (fun r hr => ?_), ?_, ?_, by simp, ?_, by simp, hP.len, hP.hi, by omega, by omega, fun r hr => by have := hb0 r hr; omega⟩
      · rw [HS.blk_old (by omega), hlow _ hi0]
      · rw [HS.blk_old (by have := hb0 r hr; omega), hlow _ (hb0 r hr)]
      · rw [HS.blk_old (by omega), hc3, G1]
      · rw [HS.blk_old (by omega), hc4, G2]
      · rw [HS.blk_old (by omega), hW]
    have hcall := p73 M.length hPP hi' hU
    have hnext := hP.next hS hL hi' (T := List.replicate M.length false) (by simp) (fun k => isT_f) hU
    simp [e1, e4, l4, hSl, hSlen, mk]
    rw [hb4]
    refine At.hc (by simpa [e19] using hcall) ?_ (fun v hs' h => by cases h.1)
    rintro v hs2 ⟨hv, hU2⟩
    simp [e19]
    refine hN (i + 1, (placeF M M.length i (List.replicate M.length false) W).2.2) _ (by simp only; omega) ⟨by simp only; omega, hnext, by simp [e1], by simp [e3], by simp [e4], by simp [e5], by simp [e18], by simp [wk], by simp [hU2.nh]; omega, by simp [hU2.w], ?_, ?_, ?_, fun j hj => ?_, by simp [hU2.nt, HS.blk, hnt], by simp [hU2.tok, HS.blk, htok], by simp only [WF]; rw [hWF]⟩
    · simp only [put_hs]; rw [hU2.o _ (by omega) (by omega), HS.blk_old (by omega), hc3]
    · simp only [put_hs]; rw [hU2.o _ (by omega) (by omega), HS.blk_old (by omega), hc4]
    · simp only [put_hs]; rw [hU2.o _ (by omega) (by omega), HS.blk_old (by omega), hO]
    · simp only [put_hs]; rw [hU2.o _ (by omega) (by omega), HS.blk_old (by omega), hlow j hj]
  · have : i = M.length := by omega
    subst this
    have l3 : aload s.hs.heap false 1 (.ref (hs.nh + 1) 0) = some (.msl false 1 hs.nh 0 M.length true) := load_one (by rw [hc3, G1])
    have hfin : s.hs = s.hs := rfl
    simp [e3, l3]
    have hnh := hn
    generalize hH : s.hs = H at *
    refine At.loop (fun (x : Nat × List Int) s => x.1 ≤ M.length ∧ x.2.length = M.length ∧ (∀ k, k < x.1 → x.2.getD (W.getD k 0).toNat 0 = (k : Int)) ∧ s.env 5 = .msl false 1 (hs.nh + 1 + 1 + 1) 0 M.length true ∧ s.env 29 = .msl false 1 hs.nh 0 M.length true ∧ s.env 30 = .int .i64 (M.length : Int) ∧ s.env 31 = .int .i64 (x.1 : Int) ∧
        s.hs.nh = H.nh ∧ s.hs.heap hs.nh = some (ints W) ∧ s.hs.heap (hs.nh + 1 + 1 + 1) = some (ints x.2) ∧ (∀ j, j < hs.nh → s.hs.heap j = hs.heap j) ∧ s.hs.nt = hs.nt ∧ s.hs.tok = hs.tok ∧ x.2 = OL M x.1) (fun x => M.length - x.1) (0, List.replicate M.length 0) ?_ ?_
    · exact ⟨by omega, by simp, fun k hk => by simp only at hk; omega, by simp [e5], by simp, by simp, by simp, by simp [hH], by simpa [hH] using hW, by simpa [hH] using hO, by simpa [hH] using hlow, by simpa [hH] using hnt, by simpa [hH] using htok, rfl⟩
    rintro N2 ⟨k, O⟩ s2 hN2 ⟨hk, hOl, hOk, e5, e29, e30, e31, hn2, hW, hO, hlow, hnt, htok, hOL⟩
    simp only at hOL
    simp only at hk hOl hOk e31 hO
    simp [e30, e31]
    refine At.dec (fun hlt2 => ?_) (fun hlt2 => ?_)
    · have hk' : k < M.length := by omega
      have hkW : k < W.length := by rw [hP.len]; exact hk'
      obtain ⟨r, hr, er⟩ := hP.val hk'
      have er' : W[k] = (r : Int) := by rw [← getD_of hkW]; exact er
      have wk : IntKind.i64.wrap ((k : Int) + 1) = (k : Int) + 1 := wrap64 (by omega) (by omega)
      have hl := ld_ints hW hkW
      rw [er'] at hl
      have hst := st_ints (v := (k : Int)) hO (show r < O.length by rw [hOl]; exact hr)
      simp [e5, e29, e31, hk', hl, hr, hst]
      refine hN2 (k + 1, O.set r (k : Int)) _ (by simp only; omega) ⟨by simp only; omega, by simp [hOl], fun j hj => ?_, by simp [e5], by simp [e29], by simp [e30], by simp [wk], by simp [hn2], by show (if hs.nh = hs.nh + 1 + 1 + 1 then _ else s2.hs.heap hs.nh) = _; rw [if_neg (by omega)]; exact hW, by simp, fun j hj => by show (if j = hs.nh + 1 + 1 + 1 then _ else s2.hs.heap j) = _; rw [if_neg (by omega)]; exact hlow j hj, by simp [hnt], by simp [htok], by simp only [OL]; rw [← hWF, er, hOL]; rfl⟩
      have hj : j < k + 1 := hj
      show (O.set r (k : Int)).getD _ 0 = _
      rw [getD_set (by rw [hOl]; exact hr)]
      by_cases hjk : j = k
      · subst hjk; rw [er, if_pos (by omega)]
      · rw [if_neg (fun e => ?_)]
        · exact hOk j (by omega)
        · obtain ⟨r2, hr2, er2⟩ := hP.val (show j < M.length by omega)
          exact hjk (hP.one (by omega) hk' (by rw [er, er2]; rw [er2] at e; omega))
    · have : k = M.length := by omega
      subst this
      simp [e5]
      exact At.of ⟨by omega, by omega, O, hO, mOk_of hP hOl hOk, ⟨by omega, hlow⟩, hnt, htok, hOL⟩
end Go.Proofs.Ytokgpcdbpkginaa
set_option linter.unusedVariables false
set_option linter.unusedSimpArgs false
namespace Go.Proofs.Ytokgpcdbpkginaa
open Go Fw

theorem setL_app : ∀ (ys p q : List AV), ys.length ≤ q.length → setL (p ++ q) p.length ys = p ++ (ys ++ q.drop ys.length)
  | [], p, q, _ => by simp [setL]
  | y :: ys, p, [], h => by simp at h
  | y :: ys, p, a :: q, h => by
    have e : (p ++ a :: q).set p.length y = (p ++ [y]) ++ q := by
      rw [List.set_append_right _ _ (Nat.le_refl _)]; simp
    have := setL_app ys (p ++ [y]) q (by simpa using h)
    rw [setL, e]
    rw [List.length_append] at this
    have l1 : p.length + [y].length = p.length + 1 := rfl
    rw [l1] at this
    rw [this]; simp
theorem setL_0 {ys q : List AV} (h : ys.length ≤ q.length) : setL q 0 ys = ys ++ q.drop ys.length := by
  have := setL_app ys [] q h
  simpa using this
/-- copying a list over the beginning of a block -/
theorem copy_row {n0 : Nat} {hs : HS} {j n : Nat} {z l : List Int} {x : AV} {ex : Bool} (hz : hs.heap j = some (ints z)) (hzl : z.length = n) (hx : RdI n0 hs.heap x l) (hl : l.length ≤ n) :
    acopy 1 hs (.msl false 1 j 0 n ex) x = some (.int .i64 (l.length : Int), hs.upd j (ints (l ++ z.drop l.length))) := by
  obtain ⟨e1, e2⟩ := hx.elems
  have hm : min (ints l).length n = l.length := by rw [ints_len]; omega
  unfold acopy
  rw [e1]
  simp only [hz, hm]
  rw [if_pos ⟨trivial, e2, by rw [ints_len]; omega⟩]
  have ht : (ints l).take l.length = ints l := List.take_of_length_le (by rw [ints_len]; omega)
  rw [ht, flat_ints, setL_0 (by rw [ints_len, ints_len]; omega), ints_len]
  have : ints l ++ (ints z).drop l.length = ints (l ++ z.drop l.length) := by simp [ints, List.map_drop]
  rw [this]
  rfl
/-- a row of the wide square: a block that stays, or a list with room of its own -/
def Wr (hs : HS) (ws qa J : Nat) (w : AV) (l : List Int) : Prop :=
  l.length ≤ 1000 ∧ ((∃ j, w = .msl false 1 j 0 l.length true ∧ hs.heap j = some (ints l) ∧ j ≠ ws ∧ j ≠ qa ∧ j < J) ∨ ∃ k, w = .sl 1 (ints l) (.own k) ∧ hs.tok k = true ∧ k < hs.nt)
theorem Wr.tk {hs : HS} {ws qa J : Nat} {w : AV} {l : List Int} (h : Wr hs ws qa J w l) {k : Nat} (hk : Fw.tk w = some k) : k < hs.nt ∧ hs.tok k = true := by
  obtain ⟨_, ⟨j, rfl, _⟩ | ⟨k', rfl, h1, h2⟩⟩ := h
  · simp [Fw.tk] at hk
  · simp only [Fw.tk, Option.some.injEq] at hk; subst hk; exact ⟨h2, h1⟩
theorem Wr.leaf {hs : HS} {ws qa J : Nat} {w : AV} {l : List Int} (h : Wr hs ws qa J w l) : w.leaf = true := by
  obtain ⟨_, ⟨j, rfl, _⟩ | ⟨k', rfl, h1, h2⟩⟩ := h <;> rfl
/-- it reads as a list -/
theorem Wr.elems {hs : HS} {ws qa J : Nat} {w : AV} {l : List Int} (h : Wr hs ws qa J w l) : aelemsH hs.heap w = some (ints l) ∧ aszOk 1 w = true := by
  obtain ⟨_, ⟨j, rfl, h1, _⟩ | ⟨k', rfl, h1, h2⟩⟩ := h
  · exact ⟨by simp only [aelemsH, h1, Option.bind_some, ints_cont], rfl⟩
  · exact ⟨rfl, rfl⟩
theorem Wr.len {hs : HS} {ws qa J : Nat} {w : AV} {l : List Int} (h : Wr hs ws qa J w l) : alenK false w = some (.int .i64 l.length) := by
  obtain ⟨_, ⟨j, rfl, h1, _⟩ | ⟨k', rfl, h1, h2⟩⟩ := h
  · rfl
  · simp [alenK, ints]
theorem Wr.get {hs : HS} {ws qa J : Nat} {w : AV} {l : List Int} (h : Wr hs ws qa J w l) {i : Nat} (hi : i < l.length) {k : IntKind} : ∃ p, aidxS 1 w (.int k (i : Int)) = some p ∧ aload hs.heap false 1 p = some (.int .i64 l[i]) := by
  obtain ⟨_, ⟨j, rfl, h1, _⟩ | ⟨k', rfl, h1, h2⟩⟩ := h
  · exact ⟨.ref j i, aidx_msln hi, ld_ints h1 hi⟩
  · exact ⟨_, aidx_nat (asI_sl (by omega)) hi, rfl⟩
theorem Wr.rd {hs : HS} {ws qa J : Nat} {w : AV} {l : List Int} (h : Wr hs ws qa J w l) : ∃ n, RdI n hs.heap w l := by
  obtain ⟨h0, ⟨j, rfl, h1, _⟩ | ⟨k', rfl, h1, h2⟩⟩ := h
  · exact ⟨j + 1, by omega, .inr (.inr ⟨j, true, rfl, by omega, h1⟩)⟩
  · exact ⟨0, RdI.of (asI_sl (by omega))⟩
/-- append of one number to a row -/
theorem Wr.add {hs : HS} {ws qa J : Nat} {w : AV} {l : List Int} (h : Wr hs ws qa J w l) (hl : l.length + 1 ≤ 1000) (v : Int) :
    ∃ y hs', aappend 1 hs w (.sl 1 [.int .i64 v] .exact) = some (y, hs') ∧ Wr hs' ws qa J y (l ++ [v]) ∧ SameMem hs hs' ∧ hs.nt ≤ hs'.nt ∧ y.leaf = true ∧ (∀ k, k < hs.nt → hs.tok k = true → Fw.tk w ≠ some k → hs'.tok k = true) ∧ ∀ k, Fw.tk y = some k → hs.nt ≤ k := by
  obtain ⟨e1, e2⟩ := h.elems
  have hq : aelemsH hs.heap (.sl 1 [.int .i64 v] .exact) = some [.int .i64 v] := rfl
  have e3 : ints l ++ [.int .i64 v] = ints (l ++ [v]) := by simp [ints]
  have hlen : (ints l).length + [AV.int .i64 v].length ≤ 1073741824 := by rw [ints_len]; simp; omega
  obtain ⟨h0, ⟨j, rfl, h1, _⟩ | ⟨k', rfl, h1, h2⟩⟩ := h
  · refine ⟨.sl 1 (ints (l ++ [v])) (.own hs.nt), { hs with nt := hs.nt + 1, tok := fun t => if t = hs.nt then true else hs.tok t }, ?_, ⟨by simp; omega, .inr ⟨hs.nt, rfl, by simp, by simp⟩⟩, ⟨rfl, rfl⟩, by simp, rfl, fun k hk ht _ => by simp; exact .inr ht, fun k hk => ?_⟩
    · unfold aappend
      rw [e1, hq]
      simp only
      rw [if_pos ⟨rfl, rfl, hlen⟩, if_neg (by simp), e3]
    · simp only [Fw.tk, Option.some.injEq] at hk; omega
  · refine ⟨.sl 1 (ints (l ++ [v])) (.own hs.nt), { hs with nt := hs.nt + 1, tok := fun t => if t = hs.nt then true else if t = k' then false else hs.tok t }, ?_, ⟨by simp; omega, .inr ⟨hs.nt, rfl, by simp, by simp⟩⟩, ⟨rfl, rfl⟩, by simp, rfl, fun k hk ht hne => ?_, fun k hk => ?_⟩
    · unfold aappend
      rw [e1, hq]
      simp only
      rw [if_pos ⟨rfl, rfl, hlen⟩, if_neg (by simp), if_pos h1, e3]
    · simp only
      rw [if_neg (by omega), if_neg (fun e => hne (by rw [e]; rfl))]
      exact ht
    · simp only [Fw.tk, Option.some.injEq] at hk; omega
theorem Wr.keep {hs hs' : HS} {ws qa J : Nat} {w : AV} {l : List Int} (h : Wr hs ws qa J w l) (hn : hs.nt ≤ hs'.nt) (ht : ∀ k, Fw.tk w = some k → hs'.tok k = true) (hh : ∀ j, j ≠ ws → j ≠ qa → j < J → hs'.heap j = hs.heap j) : Wr hs' ws qa J w l := by
  obtain ⟨h0, ⟨j, rfl, h1, h2, h3, h4⟩ | ⟨k', rfl, h1, h2⟩⟩ := h
  · exact ⟨h0, .inl ⟨j, rfl, by rw [hh j h2 h3 h4]; exact h1, h2, h3, h4⟩⟩
  · exact ⟨h0, .inr ⟨k', rfl, ht k' rfl, by omega⟩⟩
/-- the wide square in memory -/
structure Wide (hs : HS) (ws qa J : Nat) (X : List (List Int)) (mc : AV) : Prop where
  ex : ∃ wl : List AV, hs.heap ws = some wl ∧ wl.length = X.length ∧ (∀ (r : Nat) (h : r < wl.length) (h' : r < X.length), Wr hs ws qa J wl[r] X[r]) ∧ (∀ (r r' : Nat) (h : r < wl.length) (h' : r' < wl.length), r ≠ r' → Apart wl[r] wl[r']) ∧ ∀ (r : Nat) (h : r < wl.length), Apart wl[r] mc
theorem Wide.up {hs hs' : HS} {ws qa J : Nat} {X : List (List Int)} {mc : AV} (h : Wide hs ws qa J X mc) (hn : hs'.nt = hs.nt) (ht : hs'.tok = hs.tok) (hw : hs'.heap ws = hs.heap ws) (hh : ∀ j, j ≠ ws → j ≠ qa → j < J → hs'.heap j = hs.heap j) : Wide hs' ws qa J X mc := by
  obtain ⟨wl, h1, h2, h3, h4, h5⟩ := h.ex
  exact ⟨wl, by rw [hw]; exact h1, h2, fun r a b => (h3 r a b).keep (by omega) (fun k hk => by rw [ht]; exact ((h3 r a b).tk hk).2) hh, h4, h5⟩
theorem Own1.tk {hs : HS} {x : AV} {l : List Int} (h : Own1 hs x l) {k : Nat} (hk : Fw.tk x = some k) : k < hs.nt ∧ hs.tok k = true := by
  rcases h with ⟨rfl, _⟩ | ⟨k', rfl, h1, h2⟩
  · simp [Fw.tk] at hk
  · simp only [Fw.tk, Option.some.injEq] at hk; subst hk; exact ⟨h2, h1⟩
theorem Own1.keep {hs hs' : HS} {x : AV} {l : List Int} (h : Own1 hs x l) (hn : hs.nt ≤ hs'.nt) (ht : ∀ k, Fw.tk x = some k → hs'.tok k = true) : Own1 hs' x l := by
  rcases h with h | ⟨k', rfl, h1, h2⟩
  · exact .inl h
  · exact .inr ⟨k', rfl, ht k' rfl, by omega⟩
theorem Own1.add {hs : HS} {x : AV} {l : List Int} (h : Own1 hs x l) (hl : l.length ≤ 1000) (v : Int) :
    ∃ y hs', aappend 1 hs x (.sl 1 [.int .i64 v] .exact) = some (y, hs') ∧ Own1 hs' y (l ++ [v]) ∧ SameMem hs hs' ∧ hs.nt ≤ hs'.nt ∧ (∀ k, k < hs.nt → hs.tok k = true → Fw.tk x ≠ some k → hs'.tok k = true) ∧ ∀ k, Fw.tk y = some k → hs.nt ≤ k := by
  have hq : aelemsH hs.heap (.sl 1 [.int .i64 v] .exact) = some [.int .i64 v] := rfl
  have e3 : ints l ++ [.int .i64 v] = ints (l ++ [v]) := by simp [ints]
  have hlen : (ints l).length + [AV.int .i64 v].length ≤ 1073741824 := by rw [ints_len]; simp; omega
  rcases h with ⟨rfl, rfl⟩ | ⟨k', rfl, h1, h2⟩
  · refine ⟨.sl 1 (ints [v]) (.own hs.nt), { hs with nt := hs.nt + 1, tok := fun t => if t = hs.nt then true else hs.tok t }, ?_, .inr ⟨hs.nt, rfl, by simp, by simp⟩, ⟨rfl, rfl⟩, by simp, fun k hk ht _ => by simp; exact .inr ht, fun k hk => ?_⟩
    · have hp : aelemsH hs.heap .nilsl = some [] := rfl
      unfold aappend
      rw [hp, hq]
      simp only
      rw [if_pos ⟨rfl, rfl, by simp⟩, if_neg (by simp)]; rfl
    · simp only [Fw.tk, Option.some.injEq] at hk; omega
  · refine ⟨.sl 1 (ints (l ++ [v])) (.own hs.nt), { hs with nt := hs.nt + 1, tok := fun t => if t = hs.nt then true else if t = k' then false else hs.tok t }, ?_, .inr ⟨hs.nt, rfl, by simp, by simp⟩, ⟨rfl, rfl⟩, by simp, fun k hk ht hne => ?_, fun k hk => ?_⟩
    · have hp : aelemsH hs.heap (.sl 1 (ints l) (.own k')) = some (ints l) := rfl
      unfold aappend
      rw [hp, hq]
      simp only
      rw [if_pos ⟨rfl, rfl, hlen⟩, if_neg (by simp), if_pos h1, e3]
    · simp only
      rw [if_neg (by omega), if_neg (fun e => hne (by rw [e]; rfl))]
      exact ht
    · simp only [Fw.tk, Option.some.injEq] at hk; omega
/-- the row i of the wide square grows -/
theorem Wide.add {hs : HS} {ws qa J : Nat} {X : List (List Int)} {mc : AV} {L : List Int} (h : Wide hs ws qa J X mc) (hm : Own1 hs mc L) {i : Nat} (hi : i < X.length) (hl : X[i].length + 1 ≤ 1000) (v : Int) :
    ∃ w y hs', aload hs.heap false 1 (.ref ws i) = some w ∧ aappend 1 hs w (.sl 1 [.int .i64 v] .exact) = some (y, hs') ∧ SameMem hs hs' ∧ y.leaf = true ∧ ∃ wl : List AV, hs'.heap ws = some wl ∧ i < wl.length ∧
      Wide ⟨fun j => if j = ws then some (wl.set i y) else hs'.heap j, hs'.nh, hs'.nt, hs'.tok, hs'.mp⟩ ws qa J (X.set i (X[i] ++ [v])) mc ∧ Own1 ⟨fun j => if j = ws then some (wl.set i y) else hs'.heap j, hs'.nh, hs'.nt, hs'.tok, hs'.mp⟩ mc L := by
  obtain ⟨wl, h1, h2, h3, h4, h5⟩ := h.ex
  have hiw : i < wl.length := by omega
  obtain ⟨y, hs', a1, a2, a3, a4, a5, a6, a7⟩ := (h3 i hiw hi).add hl v
  refine ⟨wl[i], y, hs', load_cell h1 hiw, a1, a3, a5, wl, by rw [a3.heap]; exact h1, hiw, ⟨wl.set i y, by simp, by simp [h2], fun r hr hr' => ?_, fun r r' hr hr' hne => ?_, fun r hr => ?_⟩, hm.keep a4 fun k hk => ?_⟩
  · have hr1 : r < wl.length := by simpa using hr
    have hr2 : r < X.length := by simpa using hr'
    by_cases e : r = i
    · subst e
      simp only [List.getElem_set_self]
      exact a2.keep (Nat.le_refl _) (fun k hk => (a2.tk hk).2) fun j j1 j2 _ => by simp [j1]
    · simp only [List.getElem_set_ne (Ne.symm e)]
      refine (h3 r hr1 hr2).keep a4 (fun k hk => ?_) fun j j1 j2 _ => by simp [j1, a3.heap]
      obtain ⟨b1, b2⟩ := (h3 r hr1 hr2).tk hk
      exact a6 k b1 b2 fun e2 => h4 i r hiw hr1 (Ne.symm e) k e2 hk
  · have hr1 : r < wl.length := by simpa using hr
    have hr2 : r' < wl.length := by simpa using hr'
    by_cases e : r = i
    · subst e
      simp only [List.getElem_set_self, List.getElem_set_ne hne]
      intro k hk hk'
      have := a7 k hk
      have := ((h3 r' hr2 (by omega)).tk hk').1
      omega
    · simp only [List.getElem_set_ne (Ne.symm e)]
      by_cases e' : r' = i
      · subst e'
        simp only [List.getElem_set_self]
        intro k hk hk'
        have := a7 k hk'
        have := ((h3 r hr1 (by omega)).tk hk).1
        omega
      · simp only [List.getElem_set_ne (Ne.symm e')]
        exact h4 r r' hr1 hr2 hne
  · have hr1 : r < wl.length := by simpa using hr
    by_cases e : r = i
    · subst e
      simp only [List.getElem_set_self]
      intro k hk hk'
      have := a7 k hk
      have := (hm.tk hk').1
      omega
    · simp only [List.getElem_set_ne (Ne.symm e)]
      exact h5 r hr1
  · obtain ⟨b1, b2⟩ := hm.tk hk
    exact a6 k b1 b2 fun e2 => h5 i hiw k e2 hk
/-- the machines' list grows -/
theorem Wide.addM {hs : HS} {ws qa J : Nat} {X : List (List Int)} {mc : AV} {L : List Int} (h : Wide hs ws qa J X mc) (hm : Own1 hs mc L) (hl : L.length ≤ 1000) (v : Int) :
    ∃ y hs', aappend 1 hs mc (.sl 1 [.int .i64 v] .exact) = some (y, hs') ∧ SameMem hs hs' ∧ Wide hs' ws qa J X y ∧ Own1 hs' y (L ++ [v]) := by
  obtain ⟨y, hs', a1, a2, a3, a4, a5, a6⟩ := hm.add hl v
  obtain ⟨wl, h1, h2, h3, h4, h5⟩ := h.ex
  refine ⟨y, hs', a1, a3, ⟨wl, by rw [a3.heap]; exact h1, h2, fun r hr hr' => ?_, h4, fun r hr => ?_⟩, a2⟩
  · refine (h3 r hr hr').keep a4 (fun k hk => ?_) fun j _ _ _ => by rw [a3.heap]
    obtain ⟨b1, b2⟩ := (h3 r hr hr').tk hk
    exact a5 k b1 b2 fun e => h5 r hr k hk e
  · intro k hk hk'
    have := a6 k hk'
    have := ((h3 r hr (by omega)).tk hk).1
    omega
end Go.Proofs.Ytokgpcdbpkginaa
set_option linter.unusedVariables false
set_option linter.unusedSimpArgs false
namespace Go.Proofs.Ytokgpcdbpkginaa
open Go Fw

def xg (X : List (List Int)) (i k : Nat) : Int := (X.getD i []).getD k 0
theorem sum_set {A : List Int} {i : Nat} (hi : i < A.length) (v : Int) : (A.set i v).sum = A.sum - A.getD i 0 + v := by
  induction A generalizing i with
  | nil => simp at hi
  | cons a A ih =>
    cases i with
    | zero => simp; omega
    | succ i =>
      have := ih (i := i) (by simpa using hi)
      simp only [List.set_cons_succ, List.sum_cons, List.getD_cons_succ, this]; omega
theorem getD_setX {X : List (List Int)} {i r : Nat} {y : List Int} (hi : i < X.length) : (X.set i y).getD r [] = if r = i then y else X.getD r [] := by
  by_cases h : r = i
  · subst h; simp [List.getD, hi]
  · simp [List.getD, List.getElem?_set, Ne.symm h, h]
theorem colN_set {X : List (List Int)} {i : Nat} {y : List Int} (hi : i < X.length) (k : Nat) : colN (X.set i y) k = colN X k - xg X i k + y.getD k 0 := by
  unfold colN xg
  rw [List.map_set, sum_set (by simpa using hi)]
  congr 2
  simp [List.getD, hi]
theorem getD_app {l : List Int} {v : Int} {k : Nat} : (l ++ [v]).getD k 0 = if k = l.length then v else l.getD k 0 := by
  rcases Nat.lt_trichotomy k l.length with h | h | h
  · rw [if_neg (by omega)]; simp [List.getD, List.getElem?_append, h]
  · subst h; simp [List.getD]
  · rw [if_neg (by omega)]; simp [List.getD, List.getElem?_append, show ¬ k < l.length by omega, show ¬ k - l.length = 0 by omega, List.getElem?_eq_none (show l.length ≤ k by omega)]
/-- while the column t is filled, up to row i -/
structure Fin1 (m : List (List Int)) (L : Int) (t i : Nat) (left : Int) (X : List (List Int)) (A Mc : List Int) : Prop where
  xl : X.length = m.length
  rl : ∀ r, r < m.length → (X.getD r []).length = cols m + t + if r < i then 1 else 0
  nn : ∀ r, r < m.length → ∀ k, 0 ≤ xg X r k
  pre : ∀ r, r < m.length → ∀ k, k < cols m → xg X r k = xg m r k
  al : A.length = m.length
  a : ∀ r, r < m.length → A.getD r 0 = (X.getD r []).sum
  ale : ∀ r, r < m.length → 0 ≤ A.getD r 0 ∧ A.getD r 0 ≤ L
  at_ : A.sum = tot m + t * L + (L - left)
  ml : Mc.length = cols m + t
  mc : ∀ k, k < cols m + t → Mc.getD k 0 = colN X k
  mle : ∀ k, k < cols m + t → 0 ≤ Mc.getD k 0 ∧ Mc.getD k 0 ≤ L
  full : ∀ k, cols m ≤ k → k < cols m + t → Mc.getD k 0 = L
  l0 : 0 ≤ left
  lc : left + colN X (cols m + t) = L
  sat : left = 0 ∨ ∀ r, r < i → A.getD r 0 = L
/-- with t columns filled -/
structure Fil (m : List (List Int)) (L : Int) (t : Nat) (X : List (List Int)) (A Mc : List Int) : Prop where
  xl : X.length = m.length
  rl : ∀ r, r < m.length → (X.getD r []).length = cols m + t
  nn : ∀ r, r < m.length → ∀ k, 0 ≤ xg X r k
  pre : ∀ r, r < m.length → ∀ k, k < cols m → xg X r k = xg m r k
  al : A.length = m.length
  a : ∀ r, r < m.length → A.getD r 0 = (X.getD r []).sum
  ale : ∀ r, r < m.length → 0 ≤ A.getD r 0 ∧ A.getD r 0 ≤ L
  at_ : A.sum = tot m + t * L
  ml : Mc.length = cols m + t
  mc : ∀ k, k < cols m + t → Mc.getD k 0 = colN X k
  mle : ∀ k, k < cols m + t → 0 ≤ Mc.getD k 0 ∧ Mc.getD k 0 ≤ L
  full : ∀ k, cols m ≤ k → k < cols m + t → Mc.getD k 0 = L
theorem colN_out {X : List (List Int)} {k : Nat} (h : ∀ r, r < X.length → (X.getD r []).length ≤ k) : colN X k = 0 := by
  unfold colN
  have : X.map (fun r => r.getD k 0) = X.map fun _ => (0 : Int) := List.map_congr_left fun r hr => by
    obtain ⟨i, hi, rfl⟩ := List.getElem_of_mem hr
    have := h i hi
    rw [getD_row hi] at this
    rw [List.getD_eq_getElem?_getD, List.getElem?_eq_none this]; rfl
  rw [this]
  have := sumF_const X 0
  simp only [sumF] at this; omega
theorem Fil.zero {m : List (List Int)} (hw : OkW m) {seats : Int} : Fil m (short m seats) 0 m (arts m) (machs m) := by
  have hal := arts_len m
  have hml := machs_len m
  refine ⟨rfl, fun r hr => ?_, fun r hr k => ?_, fun r hr k hk => rfl, hal, fun r hr => ?_, fun r hr => ?_, by simp [tot], by simpa using hml, fun k hk => ?_, fun k hk => ?_, fun k h1 h2 => by omega⟩
  · rw [getD_row hr]; exact hw.len hr
  · unfold xg; rw [getD_row hr]; exact (hw.el (List.getElem_mem _) k).1
  · rw [getD_row hr, getD_of (by omega)]; simp [arts]
  · have hr' : r < (arts m).length := by omega
    rw [getD_of hr']
    exact ⟨(hw.art _ (List.getElem_mem hr')).1, short_ge hw 0 _ (List.getElem_mem hr')⟩
  · have hk' : k < (machs m).length := by omega
    rw [getD_of hk']; simp [machs]
  · have hk' : k < (machs m).length := by omega
    rw [getD_of hk']
    exact ⟨(hw.mach _ (List.getElem_mem hk')).1, short_ge hw 1 _ (List.getElem_mem hk')⟩
theorem Fil.start {m : List (List Int)} {L : Int} {t : Nat} {X : List (List Int)} {A Mc : List Int} (h : Fil m L t X A Mc) (hL : 0 ≤ L) : Fin1 m L t 0 L X A Mc := by
  refine ⟨h.xl, fun r hr => by rw [h.rl r hr]; simp, h.nn, h.pre, h.al, h.a, h.ale, by rw [h.at_]; omega, h.ml, h.mc, h.mle, h.full, hL, ?_, .inr fun r hr => by omega⟩
  rw [colN_out fun r hr => by rw [h.rl r (by rw [← h.xl]; exact hr)]; exact Nat.le_refl _]; omega
def tke (L left : Int) (A : List Int) (i : Nat) : Int := min left (L - A.getD i 0)
theorem Fin1.step {m : List (List Int)} {L : Int} {t i : Nat} {left : Int} {X : List (List Int)} {A Mc : List Int} (h : Fin1 m L t i left X A Mc) (hi : i < m.length) :
    Fin1 m L t (i + 1) (left - tke L left A i) (X.set i (X.getD i [] ++ [tke L left A i])) (A.set i (A.getD i 0 + tke L left A i)) Mc ∧ 0 ≤ tke L left A i ∧ tke L left A i ≤ L := by
  have hiX : i < X.length := by rw [h.xl]; exact hi
  have hiA : i < A.length := by rw [h.al]; exact hi
  have ha := h.ale i hi
  have hl0 := h.l0
  have hrl := h.rl i hi
  rw [if_neg (Nat.lt_irrefl i), Nat.add_zero] at hrl
  have ht0 : 0 ≤ tke L left A i := by unfold tke; omega
  have ht1 : tke L left A i ≤ left := by unfold tke; omega
  have ht2 : tke L left A i ≤ L - A.getD i 0 := by unfold tke; omega
  have hsat : left - tke L left A i = 0 ∨ A.getD i 0 + tke L left A i = L := by unfold tke; omega
  generalize tke L left A i = tk at ht0 ht1 ht2 hsat
  have hx : ∀ r k, r < m.length → xg (X.set i (X.getD i [] ++ [tk])) r k = if r = i ∧ k = cols m + t then tk else xg X r k := by
    intro r k hr
    unfold xg
    rw [getD_setX hiX]
    by_cases e : r = i
    · subst e
      rw [if_pos rfl, getD_app, hrl]
      by_cases e2 : k = cols m + t
      · rw [if_pos e2, if_pos ⟨rfl, e2⟩]
      · rw [if_neg e2, if_neg (fun h => e2 h.2)]
    · rw [if_neg e, if_neg (fun h => e h.1)]
  have hcol : ∀ k, colN (X.set i (X.getD i [] ++ [tk])) k = if k = cols m + t then colN X k + tk else colN X k := by
    intro k
    rw [colN_set hiX, getD_app, hrl]
    unfold xg
    by_cases e : k = cols m + t
    · rw [if_pos e, if_pos e]
      have : (X.getD i []).getD k 0 = 0 := by rw [List.getD_eq_getElem?_getD, List.getElem?_eq_none (by omega)]; rfl
      rw [this]; omega
    · rw [if_neg e, if_neg e]; omega
  refine ⟨⟨by simp [h.xl], fun r hr => ?_, fun r hr k => ?_, fun r hr k hk => ?_, by simp [h.al], fun r hr => ?_, fun r hr => ?_, ?_, h.ml, fun k hk => ?_, h.mle, h.full, by omega, ?_, ?_⟩, ht0, by omega⟩
  · rw [getD_setX hiX]
    by_cases e : r = i
    · subst e
      rw [if_pos rfl, List.length_append, hrl, if_pos (by omega)]; rfl
    · rw [if_neg e, h.rl r hr]
      by_cases e2 : r < i
      · rw [if_pos e2, if_pos (by omega)]
      · rw [if_neg e2, if_neg (by omega)]
  · rw [hx r k hr]; split
    · exact ht0
    · exact h.nn r hr k
  · rw [hx r k hr, if_neg (by omega)]; exact h.pre r hr k hk
  · rw [getD_set hiA, getD_setX hiX]
    by_cases e : r = i
    · subst e; rw [if_pos rfl, if_pos rfl, List.sum_append, h.a r hr]; simp
    · rw [if_neg e, if_neg e]; exact h.a r hr
  · rw [getD_set hiA]
    split
    · omega
    · exact h.ale r hr
  · rw [sum_set hiA, h.at_]; omega
  · rw [hcol, if_neg (by omega)]; exact h.mc k hk
  · rw [hcol, if_pos rfl]; have := h.lc; omega
  · rcases hsat with e | e
    · exact .inl e
    · rcases h.sat with e2 | e2
      · exact .inl (by omega)
      · refine .inr fun r hr => ?_
        rw [getD_set hiA]
        split
        · exact e
        · exact e2 r (by omega)
/-- a column filled up to row i -/
def rowF (L : Int) (X0 : List (List Int)) (A0 : List Int) : Nat → Int × List (List Int) × List Int
  | 0 => (L, X0, A0)
  | i + 1 => ((rowF L X0 A0 i).1 - tke L (rowF L X0 A0 i).1 (rowF L X0 A0 i).2.2 i, (rowF L X0 A0 i).2.1.set i ((rowF L X0 A0 i).2.1.getD i [] ++ [tke L (rowF L X0 A0 i).1 (rowF L X0 A0 i).2.2 i]), (rowF L X0 A0 i).2.2.set i ((rowF L X0 A0 i).2.2.getD i 0 + tke L (rowF L X0 A0 i).1 (rowF L X0 A0 i).2.2 i))
/-- t columns filled -/
def colF (m : List (List Int)) (L : Int) : Nat → List (List Int) × List Int × List Int
  | 0 => (m, arts m, machs m)
  | t + 1 => ((rowF L (colF m L t).1 (colF m L t).2.1 m.length).2.1, (rowF L (colF m L t).1 (colF m L t).2.1 m.length).2.2, (colF m L t).2.2 ++ [L])
theorem sum_all {A : List Int} {L : Int} (h : ∀ r, r < A.length → A.getD r 0 = L) : A.sum = A.length * L := by
  have : A = List.replicate A.length L := by
    rw [List.eq_replicate_iff]
    refine ⟨rfl, fun b hb => ?_⟩
    obtain ⟨i, hi, rfl⟩ := List.getElem_of_mem hb
    rw [← h i hi, getD_of hi]
  have e := sumF_const A L
  have : sumF A (fun _ => L) = A.sum := by
    unfold sumF
    congr 1
    apply List.ext_getElem
    · simp
    · intro i h1 h2
      rw [List.getElem_map, ← getD_of h2, h i h2]
  omega
theorem Fin1.done {m : List (List Int)} {L : Int} {t : Nat} {left : Int} {X : List (List Int)} {A Mc : List Int} (h : Fin1 m L t m.length left X A Mc) {seats : Int} (hs : tot m ≤ seats * L) (ht : (t : Int) + 1 ≤ (m.length : Int) - seats) (hL : 0 ≤ L) : left = 0 ∧ Fil m L (t + 1) X A (Mc ++ [L - left]) := by
  have h0 : left = 0 := by
    rcases h.sat with e | e
    · exact e
    · have e1 := sum_all (A := A) (L := L) (fun r hr => e r (by rw [← h.al]; exact hr))
      have e2 := h.at_
      rw [e1, h.al] at e2
      have e3 : ((t : Int) + 1) * L ≤ ((m.length : Int) - seats) * L := Int.mul_le_mul_of_nonneg_right ht hL
      rw [Int.add_mul, Int.sub_mul] at e3
      have := h.l0
      omega
  subst h0
  refine ⟨rfl, h.xl, fun r hr => by rw [h.rl r hr, if_pos hr]; omega, h.nn, h.pre, h.al, h.a, h.ale, by rw [h.at_, Int.natCast_add, Int.add_mul]; simp; omega, by simp [h.ml]; omega, fun k hk => ?_, fun k hk => ?_, fun k h1 h2 => ?_⟩
  · rw [getD_app, h.ml]
    split
    · rename_i e; rw [e]; have := h.lc; omega
    · exact h.mc k (by omega)
  · rw [getD_app, h.ml]
    split
    · omega
    · exact h.mle k (by omega)
  · rw [getD_app, h.ml]
    split
    · omega
    · exact h.full k h1 (by omega)
end Go.Proofs.Ytokgpcdbpkginaa
set_option linter.unusedVariables false
set_option linter.unusedSimpArgs false
namespace Go.Proofs.Ytokgpcdbpkginaa
open Go Fw

def tgt (R C : Nat) (L : Int) (X : List (List Int)) (A Mc : List Int) (r k : Nat) : Int :=
  if r < R then (if k < C then xg X r k else if k = C + r then L - A.getD r 0 else 0)
  else (if k < C then (if r = R + k then L - Mc.getD k 0 else 0) else xg X (k - C) (r - R))
/-- the square of a work -/
def sqM (m : List (List Int)) (seats L : Int) : List (List Int) :=
  (List.range (m.length + (cols m + (m.length - seats.toNat)))).map fun r => (List.range (m.length + (cols m + (m.length - seats.toNat)))).map fun k => tgt m.length (cols m + (m.length - seats.toNat)) L (colF m L (m.length - seats.toNat)).1 (colF m L (m.length - seats.toNat)).2.1 (colF m L (m.length - seats.toNat)).2.2 r k
/-- two squares alike -/
theorem sq_ext {M M' : List (List Int)} {n : Nat} (h1 : M.length = n) (h2 : M'.length = n) (l1 : ∀ r, r < n → (M.getD r []).length = n) (l2 : ∀ r, r < n → (M'.getD r []).length = n) (h : ∀ r k, r < n → k < n → mm M r k = mm M' r k) : M = M' := by
  apply List.ext_getElem
  · omega
  · intro r a b
    have e1 : M.getD r [] = M[r] := getD_row a
    have e2 : M'.getD r [] = M'[r] := getD_row b
    rw [← e1, ← e2]
    apply List.ext_getElem
    · rw [l1 r (by omega), l2 r (by omega)]
    · intro k c d
      have := h r k (by omega) (by rw [l1 r (by omega)] at c; exact c)
      unfold mm at this
      rw [getD_of c, getD_of d] at this
      exact this
theorem tab_len {n : Nat} {f : Nat → Nat → Int} : ((List.range n).map fun r => (List.range n).map (f r)).length = n := by simp
theorem tab_row {n : Nat} {f : Nat → Nat → Int} {r : Nat} (h : r < n) : ((List.range n).map fun r => (List.range n).map (f r)).getD r [] = (List.range n).map (f r) := by
  simp [List.getD, h]
theorem tab_mm {n : Nat} {f : Nat → Nat → Int} {r k : Nat} (h : r < n) (hk : k < n) : mm ((List.range n).map fun r => (List.range n).map (f r)) r k = f r k := by
  unfold mm
  rw [tab_row h]
  simp [List.getD, hk]
theorem sumF_range_add (a b : Nat) (f : Nat → Int) : sumF (List.range (a + b)) f = sumF (List.range a) f + sumF (List.range b) fun j => f (a + j) := by
  unfold sumF
  rw [List.range_add, List.map_append, List.sum_append, List.map_map]; rfl
theorem sumF_delta {n r : Nat} (h : r < n) (v : Int) : sumF (List.range n) (fun j => if j = r then v else 0) = v := by
  have hm : r ∈ List.range n := by simpa using h
  rw [sumF_erase hm, if_pos rfl]
  have : sumF ((List.range n).erase r) (fun j => if j = r then v else 0) = sumF ((List.range n).erase r) fun _ => 0 := sumF_congr fun j hj => by
    rw [if_neg]
    rintro rfl
    exact (List.Nodup.mem_erase_iff List.nodup_range).1 hj |>.1 rfl
  rw [this, sumF_const]; omega
theorem sumF_xrow {X : List (List Int)} {r C : Nat} (h : (X.getD r []).length = C) : sumF (List.range C) (xg X r) = (X.getD r []).sum := sum_range_getD C (X.getD r []) h
theorem sumF_xcol {X : List (List Int)} {R : Nat} (h : X.length = R) (k : Nat) : sumF (List.range R) (fun i => xg X i k) = colN X k := by
  unfold sumF colN
  congr 1
  apply List.ext_getElem
  · simp [h]
  · intro i h1 h2
    have : i < X.length := by simpa using h2
    simp [xg, List.getD, this]
theorem tgt_sqr {m : List (List Int)} {L : Int} {e : Nat} {X : List (List Int)} {A Mc : List Int} (h : Fil m L e X A Mc) {M : List (List Int)} (hn : M.length = m.length + (cols m + e)) (hM : ∀ r k, r < M.length → k < M.length → mm M r k = tgt m.length (cols m + e) L X A Mc r k) : Sqr M L := by
  generalize hC : cols m + e = C at *
  have hrl : ∀ r, r < m.length → (X.getD r []).length = C := fun r hr => by rw [h.rl r hr, hC]
  refine ⟨fun r k hr hk => ?_, fun r hr => ?_, fun k hk => ?_⟩
  · rw [hM r k hr hk]
    unfold tgt
    split
    · rename_i h1
      split
      · exact h.nn r h1 k
      · split
        · have := h.ale r h1; omega
        · omega
    · split
      · rename_i h1
        split
        · have := h.mle k (by omega); omega
        · omega
      · exact h.nn _ (by omega) _
  · have e1 : sumF (List.range M.length) (mm M r) = sumF (List.range M.length) (tgt m.length C L X A Mc r) := sumF_congr fun k hk => hM r k hr (by simpa using hk)
    rw [e1, hn, Nat.add_comm, sumF_range_add]
    by_cases h1 : r < m.length
    · have a1 : sumF (List.range C) (tgt m.length C L X A Mc r) = sumF (List.range C) (xg X r) := sumF_congr fun k hk => by
        unfold tgt; rw [if_pos h1, if_pos (by simpa using hk)]
      have a2 : sumF (List.range m.length) (fun j => tgt m.length C L X A Mc r (C + j)) = sumF (List.range m.length) fun j => if j = r then L - A.getD r 0 else 0 := sumF_congr fun j hj => by
        unfold tgt; rw [if_pos h1, if_neg (by omega)]
        by_cases e : j = r
        · rw [if_pos e, if_pos (by omega)]
        · rw [if_neg e, if_neg (by omega)]
      rw [a1, a2, sumF_delta h1, sumF_xrow (hrl r h1), h.a r h1]; omega
    · obtain ⟨k0, rfl⟩ : ∃ k0, r = m.length + k0 := ⟨r - m.length, by omega⟩
      have hk0 : k0 < C := by omega
      have a1 : sumF (List.range C) (tgt m.length C L X A Mc (m.length + k0)) = sumF (List.range C) fun j => if j = k0 then L - Mc.getD k0 0 else 0 := sumF_congr fun k hk => by
        unfold tgt; rw [if_neg (by omega), if_pos (by simpa using hk)]
        by_cases e : k = k0
        · rw [if_pos e, if_pos (by omega), e]
        · rw [if_neg e, if_neg (by omega)]
      have a2 : sumF (List.range m.length) (fun j => tgt m.length C L X A Mc (m.length + k0) (C + j)) = sumF (List.range m.length) fun i => xg X i k0 := sumF_congr fun j hj => by
        unfold tgt; rw [if_neg (by omega), if_neg (by omega)]
        congr 1 <;> omega
      rw [a1, a2, sumF_delta hk0, sumF_xcol h.xl, h.mc k0 (by omega)]; omega
  · have e1 : sumF (List.range M.length) (fun r => mm M r k) = sumF (List.range M.length) fun r => tgt m.length C L X A Mc r k := sumF_congr fun r hr => hM r k (by simpa using hr) hk
    rw [e1, hn, sumF_range_add]
    by_cases h1 : k < C
    · have a1 : sumF (List.range m.length) (fun r => tgt m.length C L X A Mc r k) = sumF (List.range m.length) fun i => xg X i k := sumF_congr fun r hr => by
        unfold tgt; rw [if_pos (by simpa using hr), if_pos h1]
      have a2 : sumF (List.range C) (fun j => tgt m.length C L X A Mc (m.length + j) k) = sumF (List.range C) fun j => if j = k then L - Mc.getD k 0 else 0 := sumF_congr fun j hj => by
        unfold tgt; rw [if_neg (by omega), if_pos h1]
        by_cases e : j = k
        · rw [if_pos e, if_pos (by omega)]
        · rw [if_neg e, if_neg (by omega)]
      rw [a1, a2, sumF_delta h1, sumF_xcol h.xl, h.mc k (by omega)]; omega
    · obtain ⟨i, rfl⟩ : ∃ i, k = C + i := ⟨k - C, by omega⟩
      have hi : i < m.length := by omega
      have a1 : sumF (List.range m.length) (fun r => tgt m.length C L X A Mc r (C + i)) = sumF (List.range m.length) fun j => if j = i then L - A.getD i 0 else 0 := sumF_congr fun r hr => by
        unfold tgt; rw [if_pos (by simpa using hr), if_neg (by omega)]
        by_cases e : r = i
        · rw [if_pos e, if_pos (by omega), e]
        · rw [if_neg e, if_neg (by omega)]
      have a2 : sumF (List.range C) (fun j => tgt m.length C L X A Mc (m.length + j) (C + i)) = sumF (List.range C) (xg X i) := sumF_congr fun j hj => by
        unfold tgt; rw [if_neg (by omega), if_neg (by omega)]
        congr 1 <;> omega
      rw [a1, a2, sumF_delta hi, sumF_xrow (hrl i hi), h.a i hi]; omega
/-- how many cells have hours -/
def nzI (M : List (List Int)) (r k : Nat) : Int := if mm M r k = 0 then 0 else 1
def nz (M : List (List Int)) : Int := sumF (List.range M.length) fun r => sumF (List.range M.length) (nzI M r)
theorem nz_bd {R C : Nat} {L : Int} {X : List (List Int)} {A Mc : List Int} {M : List (List Int)} (hn : M.length = R + C) (hM : ∀ r k, r < M.length → k < M.length → mm M r k = tgt R C L X A Mc r k) : nz M ≤ R * (C + 1) + C * (R + 1) := by
  unfold nz
  have b : ∀ r k, nzI M r k ≤ 1 := fun r k => by unfold nzI; split <;> omega
  have z : ∀ r k, r < M.length → k < M.length → tgt R C L X A Mc r k = 0 → nzI M r k = 0 := fun r k hr hk e => by unfold nzI; rw [hM r k hr hk, e]; rfl
  rw [show List.range M.length = List.range (R + C) by rw [hn], sumF_range_add]
  have e1 : sumF (List.range R) (fun r => sumF (List.range (R + C)) (nzI M r)) ≤ sumF (List.range R) fun _ => (C : Int) + 1 := sumF_le fun r hr => by
    have hr' : r < R := by simpa using hr
    rw [Nat.add_comm, sumF_range_add]
    have a1 : sumF (List.range C) (nzI M r) ≤ sumF (List.range C) fun _ => 1 := sumF_le fun k _ => b r k
    have a2 : sumF (List.range R) (fun j => nzI M r (C + j)) ≤ sumF (List.range R) fun j => if j = r then 1 else 0 := sumF_le fun j hj => by
      have hj' : j < R := by simpa using hj
      split
      · exact b _ _
      · rename_i e
        rw [z r (C + j) (by omega) (by omega) (by unfold tgt; rw [if_pos hr', if_neg (by omega), if_neg (by omega)])]; omega
    rw [sumF_const, List.length_range] at a1
    rw [sumF_delta hr'] at a2
    omega
  have e2 : sumF (List.range C) (fun j => sumF (List.range (R + C)) (nzI M (R + j))) ≤ sumF (List.range C) fun _ => (R : Int) + 1 := sumF_le fun j hj => by
    have hj' : j < C := by simpa using hj
    rw [Nat.add_comm, sumF_range_add]
    have a1 : sumF (List.range R) (fun i => nzI M (R + j) (C + i)) ≤ sumF (List.range R) fun _ => 1 := sumF_le fun k _ => b _ _
    have a2 : sumF (List.range C) (nzI M (R + j)) ≤ sumF (List.range C) fun k => if k = j then 1 else 0 := sumF_le fun k hk => by
      have hk' : k < C := by simpa using hk
      split
      · exact b _ _
      · rename_i e
        rw [z (R + j) k (by omega) (by omega) (by unfold tgt; rw [if_neg (by omega), if_pos hk', if_neg (by omega)])]; omega
    rw [sumF_const, List.length_range] at a1
    rw [sumF_delta hj'] at a2
    omega
  rw [sumF_const, List.length_range] at e1 e2
  omega
end Go.Proofs.Ytokgpcdbpkginaa
set_option linter.unusedVariables false
set_option linter.unusedSimpArgs false
namespace Go.Proofs.Ytokgpcdbpkginaa
open Go Fw

/-- a table of rows under way -/
def ptab (b0 len n i : Nat) : List AV := (List.range n).map fun r => if r < i then .msl false 1 (b0 + r) 0 len true else .nilsl
theorem ptab_0 (b0 len n : Nat) : ptab b0 len n 0 = List.replicate n .nilsl := by
  rw [ptab, List.eq_replicate_iff]
  exact ⟨by simp, fun b hb => by simp at hb; exact hb.2.symm⟩
theorem ptab_len {b0 len n i : Nat} : (ptab b0 len n i).length = n := by simp [ptab]
theorem ptab_s {b0 len n i : Nat} (h : i < n) : (ptab b0 len n i).set i (.msl false 1 (b0 + i) 0 len true) = ptab b0 len n (i + 1) := by
  apply List.ext_getElem
  · simp [ptab]
  · intro r h1 h2
    rw [List.getElem_set]
    simp only [ptab, List.getElem_map, List.getElem_range]
    split
    · rename_i e; subst e; rw [if_pos (by omega)]
    · by_cases e2 : r < i
      · rw [if_pos e2, if_pos (by omega)]
      · rw [if_neg e2, if_neg (by omega)]
theorem ptab_get {b0 len n i r : Nat} (h : r < (ptab b0 len n i).length) (hr : r < i) : (ptab b0 len n i)[r] = .msl false 1 (b0 + r) 0 len true := by
  simp [ptab, hr]
theorem ld_ptab {hp : Nat → Option (List AV)} {q b0 len n i r : Nat} (h : hp q = some (ptab b0 len n i)) (hr : r < i) (hn : r < n) : aload hp false 1 (.ref q r) = some (.msl false 1 (b0 + r) 0 len true) := by
  rw [load_cell h (by rw [ptab_len]; exact hn), ptab_get _ hr]
theorem st_ptab {hp : Nat → Option (List AV)} {q b0 len n i : Nat} (h : hp q = some (ptab b0 len n i)) (hn : i < n) : astore hp 1 (.ref q i) (.msl false 1 (b0 + i) 0 len true) = some (fun k => if k = q then some (ptab b0 len n (i + 1)) else hp k) := by
  rw [store_cell h (by rw [ptab_len]; exact hn) rfl, ptab_s hn]
theorem Mat.setRow {hp : Nat → Option (List AV)} {x : AV} {M : List (List Int)} {is : Nat} {b : Nat → Nat} (h : Mat hp x M is b) {r : Nat} (hr : r < M.length) {l : List Int} (hl : l.length = M.length) : Mat (fun j => if j = b r then some (ints l) else hp j) x (M.set r l) is b := by
  refine ⟨by rw [List.length_set]; exact h.x, ?_, fun r' hr' => ?_, fun r' hr' => ?_, fun a c ha hc => h.inj a c (by simpa using ha) (by simpa using hc), fun a ha => h.ne a (by simpa using ha), by simpa using h.lt⟩
  · rw [if_neg (Ne.symm (h.ne r hr)), List.length_set]; exact h.rows
  · rw [List.length_set] at hr'
    rw [getD_setX hr]
    by_cases e : r' = r
    · subst e; simp
    · rw [if_neg e, if_neg (fun e2 => e (h.inj r' r hr' hr e2))]
      exact h.row r' hr'
  · rw [List.length_set] at hr' ⊢
    rw [getD_setX hr]
    split
    · exact hl
    · exact h.len r' hr'
theorem Mat.ld {hp : Nat → Option (List AV)} {x : AV} {M : List (List Int)} {is : Nat} {b : Nat → Nat} (h : Mat hp x M is b) {r : Nat} (hr : r < M.length) : aload hp false 1 (.ref is r) = some (.msl false 1 (b r) 0 M.length true) := by
  rw [load_cell h.rows (by simpa using hr)]; simp
/-- some cells are as they shall be, the others zero -/
def PW (n : Nat) (T : Nat → Nat → Int) (D : Nat → Nat → Prop) (M : List (List Int)) : Prop := ∀ r k, r < n → k < n → (D r k → mm M r k = T r k) ∧ (¬ D r k → mm M r k = 0)
theorem PW.cell {n : Nat} {T : Nat → Nat → Int} {D D' : Nat → Nat → Prop} {M : List (List Int)} (h : PW n T D M) {r0 k0 : Nat} (hr : r0 < M.length) (hk : k0 < (M.getD r0 []).length) {v : Int} (hv : v = T r0 k0) (hD : ∀ r k, D' r k ↔ D r k ∨ (r = r0 ∧ k = k0)) : PW n T D' (M.set r0 ((M.getD r0 []).set k0 v)) := by
  intro r k h1 h2
  obtain ⟨a, b⟩ := h r k h1 h2
  have e : mm (M.set r0 ((M.getD r0 []).set k0 v)) r k = if r = r0 ∧ k = k0 then v else mm M r k := by
    unfold mm
    rw [getD_setX hr]
    by_cases e : r = r0
    · subst e
      rw [if_pos rfl, getD_set hk]
      by_cases e2 : k = k0
      · rw [if_pos e2, if_pos ⟨rfl, e2⟩]
      · rw [if_neg e2, if_neg (fun h => e2 h.2)]
    · rw [if_neg e, if_neg (fun h => e h.1)]
  rw [e]
  constructor
  · intro hd
    split
    · rename_i e2; rw [hv, e2.1, e2.2]
    · rename_i e2; exact a (((hD r k).1 hd).resolve_right e2)
  · intro hd
    rw [if_neg (fun e2 => hd ((hD r k).2 (.inr e2)))]
    exact b (fun h => hd ((hD r k).2 (.inl h)))
theorem PW.rowC {n C : Nat} {T : Nat → Nat → Int} {D D' : Nat → Nat → Prop} {M : List (List Int)} (h : PW n T D M) {r0 : Nat} (hr : r0 < M.length) {l : List Int} (hl : l.length = C) (hv : ∀ k, k < C → l.getD k 0 = T r0 k) (hD : ∀ r k, D' r k ↔ D r k ∨ (r = r0 ∧ k < C)) : PW n T D' (M.set r0 (l ++ (M.getD r0 []).drop l.length)) := by
  intro r k h1 h2
  obtain ⟨a, b⟩ := h r k h1 h2
  have e : mm (M.set r0 (l ++ (M.getD r0 []).drop l.length)) r k = if r = r0 ∧ k < C then l.getD k 0 else mm M r k := by
    unfold mm
    rw [getD_setX hr]
    by_cases e : r = r0
    · subst e
      rw [if_pos rfl]
      by_cases e2 : k < C
      · rw [if_pos ⟨rfl, e2⟩]
        simp [List.getD, List.getElem?_append, hl, e2]
      · rw [if_neg (fun h => e2 h.2)]
        simp [List.getD, List.getElem?_append, hl, e2, show C + (k - C) = k by omega]
    · rw [if_neg e, if_neg (fun h => e h.1)]
  rw [e]
  constructor
  · intro hd
    split
    · rename_i e2; rw [e2.1]; exact hv k e2.2
    · rename_i e2; exact a (((hD r k).1 hd).resolve_right e2)
  · intro hd
    rw [if_neg (fun e2 => hd ((hD r k).2 (.inr e2)))]
    exact b (fun h => hd ((hD r k).2 (.inl h)))
theorem PW.weaken {n : Nat} {T : Nat → Nat → Int} {D D' : Nat → Nat → Prop} {M : List (List Int)} (h : PW n T D M) (h1 : ∀ r k, r < n → k < n → D' r k → D r k ∨ T r k = 0) (h2 : ∀ r k, D r k → D' r k) : PW n T D' M := by
  intro r k hr hk
  obtain ⟨a, b⟩ := h r k hr hk
  refine ⟨fun hd => ?_, fun hd => b fun h => hd (h2 r k h)⟩
  rcases Classical.em (D r k) with e | e
  · exact a e
  · rw [b e]; exact (((h1 r k hr hk hd).resolve_left e)).symm
/-- where the filling of the square stands -/
structure S8 (h0 : Nat → Option (List AV)) (n0 ws qa ka os R C n : Nat) (L : Int) (X : List (List Int)) (A Mc : List Int) (mc : AV) (D : Nat → Nat → Prop) (M : List (List Int)) (s : AS) : Prop where
  Ml : M.length = n
  pw : PW n (tgt R C L X A Mc) D M
  e2 : s.env 2 = .int .i64 L
  e7 : s.env 7 = .osl false 1 qa R ka
  e8 : s.env 8 = mc
  e15 : s.env 15 = .int .i64 (R : Int)
  e16 : s.env 16 = .int .i64 (C : Int)
  e17 : s.env 17 = .msl false 1 os 0 n true
  mat : Mat s.hs.heap (.msl false 1 os 0 n true) M os (fun r => os + 1 + r)
  wide : Wide s.hs ws qa (ws + 1 + R) X mc
  own : Own1 s.hs mc Mc
  a : s.hs.heap qa = some (ints A)
  nh : s.hs.nh = os + 1 + n
  low : ∀ j, j < n0 → s.hs.heap j = h0 j
end Go.Proofs.Ytokgpcdbpkginaa
set_option linter.unusedVariables false
set_option linter.unusedSimpArgs false
namespace Go.Proofs.Ytokgpcdbpkginaa
open Go Fw

def B9 : ACode := (.block 9 (.seq (.reg [⟨some 127, none, .mv (.t 125)⟩, ⟨some 128, none, .iaddrS 1 (.t 123) (.t 125)⟩, ⟨some 129, none, .load false 1 (.t 128)⟩, ⟨some 19, none, .mv (.t 127)⟩, ⟨some 20, none, .mv (.t 129)⟩])
  (.seq (.reg [⟨some 130, none, .mv (.t 17)⟩, ⟨some 131, none, .mv (.t 19)⟩, ⟨some 132, none, .iaddrS 1 (.t 130) (.t 131)⟩, ⟨some 133, none, .load false 1 (.t 132)⟩, ⟨some 134, none, .mv (.t 20)⟩, ⟨some 135, none, .mem (.copy 1) [.t 133, .t 134]⟩])
  (.seq (.regd [⟨some 136, none, .mv (.t 17)⟩, ⟨some 137, none, .mv (.t 19)⟩, ⟨some 138, none, .iaddrS 1 (.t 136) (.t 137)⟩, ⟨some 139, none, .load false 1 (.t 138)⟩, ⟨some 140, none, .mv (.t 16)⟩, ⟨some 141, none, .mv (.t 19)⟩, ⟨some 142, none, .bin 0 .add (.t 140) (.t 141)⟩, ⟨some 143, none, .mv (.t 2)⟩, ⟨some 144, none, .mv (.t 7)⟩, ⟨some 145, none, .mv (.t 19)⟩, ⟨some 146, none, .iaddrS 1 (.t 144) (.t 145)⟩, ⟨some 147, none, .load false 1 (.t 146)⟩, ⟨some 148, none, .bin 0 .sub (.t 143) (.t 147)⟩, ⟨some 149, none, .iaddrS 1 (.t 139) (.t 142)⟩, ⟨none, none, .store 1 (.t 149) (.t 148)⟩])
  (.seq (.reg [⟨some 150, none, .mv (.t 20)⟩, ⟨some 151, none, .len false (.t 150)⟩, ⟨some 152, none, .mv (.c (.int .i64 0))⟩])
  (.block 10 (.loop (.seq (.reg [⟨some 153, none, .bin 0 .lss (.t 152) (.t 151)⟩])
  (.seq (.cond (.t 153) (.skip) (.exit 10))
  (.seq (.block 11 (.seq (.reg [⟨some 154, none, .mv (.t 152)⟩, ⟨some 155, none, .iaddrS 1 (.t 150) (.t 152)⟩, ⟨some 156, none, .load false 1 (.t 155)⟩, ⟨some 21, none, .mv (.t 154)⟩, ⟨some 22, none, .mv (.t 156)⟩])
  (.reg [⟨some 157, none, .mv (.t 17)⟩, ⟨some 158, none, .mv (.t 15)⟩, ⟨some 159, none, .mv (.t 21)⟩, ⟨some 160, none, .bin 0 .add (.t 158) (.t 159)⟩, ⟨some 161, none, .iaddrS 1 (.t 157) (.t 160)⟩, ⟨some 162, none, .load false 1 (.t 161)⟩, ⟨some 163, none, .mv (.t 16)⟩, ⟨some 164, none, .mv (.t 19)⟩, ⟨some 165, none, .bin 0 .add (.t 163) (.t 164)⟩, ⟨some 166, none, .mv (.t 22)⟩, ⟨some 167, none, .iaddrS 1 (.t 162) (.t 165)⟩, ⟨none, none, .store 1 (.t 167) (.t 166)⟩])))
  (.reg [⟨some 168, none, .bin 0 .add (.t 152) (.c (.int .i64 1))⟩, ⟨some 152, none, .mv (.t 168)⟩])))))))))))
set_option maxHeartbeats 4000000 in
theorem body9 {h0 : Nat → Option (List AV)} {n0 ws qa ka os R C n : Nat} {L : Int} {X : List (List Int)} {A Mc : List Int} {mc : AV} {M : List (List Int)} {s : AS} {Q : AEx → AS → Prop} {i : Nat}
    (hS : S8 h0 n0 ws qa ka os R C n L X A Mc mc (fun r k => (r < R ∧ r < i) ∨ (R ≤ r ∧ C ≤ k ∧ k < C + i)) M s) (hi' : i < R) (f123 : s.env 123 = .msl false 1 ws 0 R true) (f124 : s.env 124 = .int .i64 (R : Int)) (f125 : s.env 125 = .int .i64 (i : Int))
    (hR : R ≤ 6) (hC : C ≤ 11) (hn : R + C = n) (hXl : ∀ r, r < R → (X.getD r []).length = C) (hxl : X.length = R) (hAl : A.length = R) (hA : ∀ r, r < R → 0 ≤ A.getD r 0 ∧ A.getD r 0 ≤ L) (hL : 0 ≤ L ∧ L ≤ 1085)
    (hwo : ws + 1 + R ≤ os) (hqo : qa < ws) (hn0 : n0 ≤ qa)
    (hnext : ∀ M' s', S8 h0 n0 ws qa ka os R C n L X A Mc mc (fun r k => (r < R ∧ r < i + 1) ∨ (R ≤ r ∧ C ≤ k ∧ k < C + (i + 1))) M' s' → s'.env 123 = .msl false 1 ws 0 R true → s'.env 124 = .int .i64 (R : Int) → s'.env 125 = .int .i64 (i : Int) → At (Q .normal s')) : At (awp Try.prog D0 B9 Q s) := by
  obtain ⟨hMl, hPW, f2, f7, f8, f15, f16, f17, hMat, hW, hO, hA0, hnh2, hlow⟩ := hS
  obtain ⟨wl, g1, g2, g3, g4, g5⟩ := hW.ex
  have hiw : i < wl.length := by omega
  have hiX : i < X.length := by omega
  have hiA : i < A.length := by omega
  have hiM : i < M.length := by omega
  have hWr := g3 i hiw hiX
  have hldw := load_cell g1 hiw
  have hXil : X[i].length = C := by
    have := hXl i hi'
    rwa [getD_row hiX] at this
  have hin : i < n := by omega
  obtain ⟨nn, hrd⟩ := hWr.rd
  have hrowM := hMat.row i hiM
  have hMil := hMat.len i hiM
  have hldM := hMat.ld hiM
  rw [hMl] at hMil hldM
  have hcp := copy_row (hs := s.hs) (j := os + 1 + i) (n := n) (z := M.getD i []) (x := wl[i]) (l := X[i]) (ex := true) hrowM hMil hrd (by omega)
  have hl1l : (X[i] ++ (M.getD i []).drop X[i].length).length = n := by rw [List.length_append, List.length_drop, hMil]; omega
  have hM1 := hMat.setRow hiM (l := X[i] ++ (M.getD i []).drop X[i].length) (by rw [hMl]; exact hl1l)
  have hP1 := hPW.rowC hiM hXil (D' := fun r k => ((r < R ∧ r < i) ∨ (R ≤ r ∧ C ≤ k ∧ k < C + i)) ∨ (r = i ∧ k < C)) (fun k hk => by unfold tgt; rw [if_pos hi', if_pos hk]; unfold xg; rw [getD_row hiX]) (fun r k => Iff.rfl)
  generalize hl1 : X[i] ++ (M.getD i []).drop X[i].length = l1 at hcp hM1 hP1 hl1l
  have hM1 : Mat (s.hs.upd (os + 1 + i) (ints l1)).heap (.msl false 1 os 0 n true) (M.set i l1) os (fun r => os + 1 + r) := hM1
  have hM1l : (M.set i l1).length = n := by simp [hMl]
  have hg1 : (M.set i l1).getD i [] = l1 := by rw [getD_setX hiM, if_pos rfl]
  have hld1 := hM1.ld (r := i) (by rw [hM1l]; exact hin)
  rw [hM1l] at hld1
  have hA1 : (s.hs.upd (os + 1 + i) (ints l1)).heap qa = some (ints A) := by rw [HS.upd_ne (by omega)]; exact hA0
  have hldA := ld_ints hA1 hiA
  have hgA : A.getD i 0 = A[i] := getD_of hiA
  have ha := hA i hi'
  rw [hgA] at ha
  have wa : IntKind.i64.wrap (L - A[i]) = L - A[i] := wrap64 (by omega) (by omega)
  have wci : IntKind.i64.wrap ((C : Int) + (i : Int)) = ((C + i : Nat) : Int) := by rw [wrap64 (by omega) (by omega)]; omega
  have hcn : C + i < n := by omega
  have hst := st_ints (v := L - A[i]) (o := C + i) (HS.upd_same (hs := s.hs) (i := os + 1 + i) (ys := ints l1)) (by omega)
  have hM2 := hM1.setRow (r := i) (by rw [hM1l]; exact hin) (l := l1.set (C + i) (L - A[i])) (by rw [hM1l, List.length_set]; exact hl1l)
  have hP2 := hP1.cell (r0 := i) (k0 := C + i) (v := L - A[i]) (D' := fun r k => (((r < R ∧ r < i) ∨ (R ≤ r ∧ C ≤ k ∧ k < C + i)) ∨ (r = i ∧ k < C)) ∨ (r = i ∧ k = C + i)) (by rw [hM1l]; exact hin) (by rw [hg1, hl1l]; exact hcn) (by unfold tgt; rw [if_pos hi', if_neg (by omega), if_pos rfl, hgA]) (fun r k => Iff.rfl)
  rw [hg1] at hP2
  have hP3 : PW n (tgt R C L X A Mc) (fun r k => (r < R ∧ r < i + 1) ∨ (R ≤ r ∧ C ≤ k ∧ k < C + i) ∨ (R ≤ r ∧ k = C + i ∧ r < R + 0)) _ := hP2.weaken (fun r k hr hk hd => by
    by_cases e : ((((r < R ∧ r < i) ∨ (R ≤ r ∧ C ≤ k ∧ k < C + i)) ∨ (r = i ∧ k < C)) ∨ (r = i ∧ k = C + i))
    · exact .inl e
    · have : r = i := by omega
      subst this
      exact .inr (by unfold tgt; rw [if_pos hi', if_neg (by omega), if_neg (by omega)])) (fun r k h => by omega)
  have hWl := hWr.len
  rw [hXil] at hWl
  have hidx : aidxS 1 (.osl false 1 qa R ka) (.int .i64 (i : Int)) = some (.ref qa i) := by simp [aidxS, hi']
  have hM2l : ((M.set i l1).set i (l1.set (C + i) (L - A[i]))).length = n := by simp [hMl]
  generalize hz1 : ints l1 = z1 at *
  generalize hz2 : ints (l1.set (C + i) (L - A[i])) = z2 at *
  have hu : (s.hs.upd (os + 1 + i) z1).nh = s.hs.nh := rfl
  have hut : (s.hs.upd (os + 1 + i) z1).nt = s.hs.nt := rfl
  have huk : (s.hs.upd (os + 1 + i) z1).tok = s.hs.tok := rfl
  have hH2 : ∀ j, j < os → (fun k => if k = os + 1 + i then some z2 else (s.hs.upd (os + 1 + i) z1).heap k) j = s.hs.heap j := fun j hj => by
    simp only
    rw [if_neg (by omega), HS.upd_ne (by omega)]
  generalize hH : (fun k => if k = os + 1 + i then some z2 else (s.hs.upd (os + 1 + i) z1).heap k) = H at hM2 hH2 hst
  simp [B9, f2, f7, f16, f17, f123, f125, hi', hin, hldw, hldM, amem, hcp, hld1, wci, hcn, hidx, hldA, wa, hst, hWl, -Int.natCast_add]
  clear hst hM1 hP1 hP2 hldA hA1 hld1 hcp hrowM hldM hz1 hz2 hl1 hMil hg1 hM1l
  refine At.loop (fun (y : Nat × List (List Int)) s4 => y.1 ≤ C ∧ y.2.length = n ∧ PW n (tgt R C L X A Mc) (fun r k => (r < R ∧ r < i + 1) ∨ (R ≤ r ∧ C ≤ k ∧ k < C + i) ∨ (R ≤ r ∧ k = C + i ∧ r < R + y.1)) y.2 ∧ s4.env 2 = .int .i64 L ∧ s4.env 7 = .osl false 1 qa R ka ∧ s4.env 8 = mc ∧ s4.env 15 = .int .i64 (R : Int) ∧ s4.env 16 = .int .i64 (C : Int) ∧ s4.env 17 = .msl false 1 os 0 n true ∧ s4.env 19 = .int .i64 (i : Int) ∧ s4.env 123 = .msl false 1 ws 0 R true ∧ s4.env 124 = .int .i64 (R : Int) ∧ s4.env 125 = .int .i64 (i : Int) ∧ s4.env 150 = wl[i] ∧ s4.env 151 = .int .i64 (C : Int) ∧ s4.env 152 = .int .i64 (y.1 : Int) ∧
    Mat s4.hs.heap (.msl false 1 os 0 n true) y.2 os (fun r => os + 1 + r) ∧ s4.hs.nt = s.hs.nt ∧ s4.hs.tok = s.hs.tok ∧ s4.hs.nh = os + 1 + n ∧ ∀ j, j < os → s4.hs.heap j = s.hs.heap j) (fun y => C - y.1) (0, (M.set i l1).set i (l1.set (C + i) (L - A[i]))) ?_ ?_
  · exact ⟨by omega, hM2l, hP3, by simp [f2], by simp [f7], by simp [f8], by simp [f15], by simp [f16], by simp [f17], by simp, by simp [f123], by simp [f124], by simp [f125], by simp, by simp, by simp, by simp only [put_hs]; exact hM2, by simp [hut], by simp [huk], by simp [hu, hnh2], by simp only [put_hs]; exact hH2⟩
  clear hM2 hP3 hM2l hH hH2
  rintro N6 ⟨k, M2⟩ s4 hN6 ⟨hk, hMl2, hPW2, q2, q7, q8, q15, q16, q17, q19, q123, q124, q125, q150, q151, q152, hMat2, qnt, qtok, qnh, qlow⟩
  simp only at hk hMl2 hPW2 q152 hMat2
  simp [q151, q152]
  refine At.dec (fun hlt2 => ?_) (fun hlt2 => ?_)
  · have hk' : k < C := by omega
    have wk : IntKind.i64.wrap ((k : Int) + 1) = (k : Int) + 1 := wrap64 (by omega) (by omega)
    have wr : IntKind.i64.wrap ((R : Int) + (k : Int)) = ((R + k : Nat) : Int) := by rw [wrap64 (by omega) (by omega)]; omega
    have hWr2 : Wr s4.hs ws qa (ws + 1 + R) wl[i] X[i] := hWr.keep (by omega) (fun k hk => by rw [qtok]; exact (hWr.tk hk).2) fun j _ _ hj => qlow j (by omega)
    have hkX : k < X[i].length := by omega
    obtain ⟨p, g7, g8⟩ := hWr2.get hkX (k := .i64)
    have hrk : R + k < n := by omega
    have hldR := hMat2.ld (r := R + k) (by omega)
    rw [hMl2] at hldR
    have hrowR := hMat2.row (R + k) (by omega)
    have hlenR := hMat2.len (R + k) (by omega)
    rw [hMl2] at hlenR
    have hstR := st_ints (v := X[i][k]) (o := C + i) hrowR (by omega)
    have hM3 := hMat2.setRow (r := R + k) (by omega) (l := (M2.getD (R + k) []).set (C + i) X[i][k]) (by rw [List.length_set, hlenR, hMl2])
    have hP3 := hPW2.cell (r0 := R + k) (k0 := C + i) (v := X[i][k]) (D' := fun r k' => (r < R ∧ r < i + 1) ∨ (R ≤ r ∧ C ≤ k' ∧ k' < C + i) ∨ (R ≤ r ∧ k' = C + i ∧ r < R + (k + 1))) (by omega) (by rw [hlenR]; exact hcn) (by
      unfold tgt
      rw [if_neg (by omega), if_neg (by omega)]
      unfold xg
      rw [show C + i - C = i by omega, show R + k - R = k by omega, getD_row hiX, getD_of hkX]) (fun r k' => by omega)
    generalize hrw : M2.getD (R + k) [] = rw0 at hstR hM3 hP3
    generalize hz3 : ints (rw0.set (C + i) X[i][k]) = z3 at *
    simp [q15, q16, q17, q19, q150, q152, g7, g8, wr, wci, hrk, hcn, hldR, hstR, -Int.natCast_add]
    refine hN6 (k + 1, M2.set (R + k) (rw0.set (C + i) X[i][k])) _ (by simp only; omega) ⟨by simp only; omega, by simp [hMl2], hP3, by simp [q2], by simp [q7], by simp [q8], by simp [q15], by simp [q16], by simp [q17], by simp [q19], by simp [q123], by simp [q124], by simp [q125], by simp [q150], by simp [q151], by simp [wk], by simp only [put_hs]; exact hM3, by simp [qnt], by simp [qtok], by simp [qnh], fun j hj => ?_⟩
    show (if j = os + 1 + (R + k) then _ else s4.hs.heap j) = _
    rw [if_neg (by omega)]; exact qlow j hj
  · have : k = C := by omega
    subst this
    simp
    refine hnext M2 _ ⟨hMl2, ?_, by simp [q2], by simp [q7], by simp [q8], by simp [q15], by simp [q16], by simp [q17], by simp only [put_hs]; exact hMat2, ?_, ?_, ?_, by simp [qnh], fun j hj => ?_⟩ (by simp [q123]) (by simp [q124]) (by simp [q125])
    · exact hPW2.weaken (fun r k' hr hk' hd => .inl (by omega)) (fun r k' h => by omega)
    · simp only [put_hs]; exact hW.up qnt qtok (qlow _ (by omega)) fun j _ _ hj => qlow j (by omega)
    · simp only [put_hs]; exact hO.keep (by omega) fun k hk => by rw [qtok]; exact (hO.tk hk).2
    · simp only [put_hs]; rw [qlow _ (by omega)]; exact hA0
    · simp only [put_hs]; rw [qlow _ (by omega)]; exact hlow j hj
end Go.Proofs.Ytokgpcdbpkginaa
set_option linter.unusedVariables false
set_option linter.unusedSimpArgs false
namespace Go.Proofs.Ytokgpcdbpkginaa
open Go Fw

theorem S8.cong {h0 : Nat → Option (List AV)} {n0 ws qa ka os R C n : Nat} {L : Int} {X : List (List Int)} {A Mc : List Int} {mc : AV} {D : Nat → Nat → Prop} {M : List (List Int)} {s s' : AS} (h : S8 h0 n0 ws qa ka os R C n L X A Mc mc D M s) (hh : s'.hs = s.hs) (he : s'.env 2 = s.env 2 ∧ s'.env 7 = s.env 7 ∧ s'.env 8 = s.env 8 ∧ s'.env 15 = s.env 15 ∧ s'.env 16 = s.env 16 ∧ s'.env 17 = s.env 17) : S8 h0 n0 ws qa ka os R C n L X A Mc mc D M s' := by
  obtain ⟨a, b, c, d, e, f⟩ := he
  exact ⟨h.Ml, h.pw, by rw [a]; exact h.e2, by rw [b]; exact h.e7, by rw [c]; exact h.e8, by rw [d]; exact h.e15, by rw [e]; exact h.e16, by rw [f]; exact h.e17, by rw [hh]; exact h.mat, by rw [hh]; exact h.wide, by rw [hh]; exact h.own, by rw [hh]; exact h.a, by rw [hh]; exact h.nh, by rw [hh]; exact h.low⟩
theorem S8.weaken {h0 : Nat → Option (List AV)} {n0 ws qa ka os R C n : Nat} {L : Int} {X : List (List Int)} {A Mc : List Int} {mc : AV} {D D' : Nat → Nat → Prop} {M : List (List Int)} {s : AS} (h : S8 h0 n0 ws qa ka os R C n L X A Mc mc D M s) (h1 : ∀ r k, r < n → k < n → D' r k → D r k ∨ tgt R C L X A Mc r k = 0) (h2 : ∀ r k, D r k → D' r k) : S8 h0 n0 ws qa ka os R C n L X A Mc mc D' M s :=
  ⟨h.Ml, h.pw.weaken h1 h2, h.e2, h.e7, h.e8, h.e15, h.e16, h.e17, h.mat, h.wide, h.own, h.a, h.nh, h.low⟩
set_option maxHeartbeats 4000000 in
theorem p48 {x : AV} {m : List (List Int)} {R : Nat → AV} (hx : IsM x m R) (hw : OkW m) {seats : Int} (hse : 1 ≤ seats ∧ seats ≤ 6) (hs : HS) :
    FCall Try.prog 48 [x, .int .i64 seats, .int .i64 (short m seats)] hs fun e hs' => ∃ S M is b X A Mc, e = .ret S ∧ M = sqM m seats (short m seats) ∧ Mat hs'.heap S M is b ∧ hs.nh ≤ is ∧ is < hs'.nh ∧ (∀ r, r < M.length → hs.nh ≤ b r ∧ b r < hs'.nh) ∧ HsExt hs hs' ∧
      Fil m (short m seats) (m.length - seats.toNat) X A Mc ∧ M.length = m.length + (cols m + (m.length - seats.toNat)) ∧ ∀ r k, r < M.length → k < M.length → mm M r k = tgt m.length (cols m + (m.length - seats.toNat)) (short m seats) X A Mc r k := by
  have h6 := hw.r6
  have h1 := hw.r1
  have hc6 : cols m ≤ 6 := hw.c6
  have hal := arts_len m
  have hL := short_bd hw hse
  have htL : tot m ≤ seats * short m seats := by
    have := short_ge hw 2 (seats := seats) (upN m seats) (by simp [bndL])
    have e : tot m ≤ seats * upN m seats := by
      unfold upN
      have := Int.lt_mul_ediv_self_add (x := tot m + seats - 1) (k := seats) (by omega)
      omega
    exact Int.le_trans e (Int.mul_le_mul_of_nonneg_left this (by omega))
  generalize hLL : short m seats = L at *
  refine FCall.ofAt D0ok ok48 (by simp) ?_
  simp [A48, R48]
  refine At.hc (p62 hx hw _) ?_ (fun v hs' h => by obtain ⟨A, M, h, _⟩ := h; cases h)
  rintro v hs1 ⟨A0, M0, hv, hr⟩
  injection hv with hv; subst hv
  have hE := hr.ext
  obtain ⟨qa, ka, rfl, hq1, hq2, hq3⟩ := hr.a
  have hM0 := hr.m
  rw [hal]
  have mk : ∀ (z : AV) (hs : HS) (n : Nat), n ≤ 1000 → amake false 1 [z] hs (.int .i64 (n : Int)) (.int .i64 (n : Int)) = some (.msl false 1 hs.nh 0 n true, hs.blk (List.replicate n z)) := fun z hs n hn => amake_eq (k1 := .i64) (k2 := .i64) (z := z) (hs := hs) (n := n) (by omega)
  simp [hx.len, mk _ _ m.length (by omega)]
  have hwsz : List.replicate m.length AV.nilsl = ptab (hs1.nh + 1) (cols m) m.length 0 := (ptab_0 _ _ _).symm
  rw [hwsz]
  refine At.loop (fun (i : Nat) s => i ≤ m.length ∧ s.env 0 = x ∧ s.env 1 = .int .i64 seats ∧ s.env 2 = .int .i64 L ∧ s.env 7 = .osl false 1 qa m.length ka ∧ s.env 8 = M0 ∧ s.env 9 = .msl false 1 hs1.nh 0 m.length true ∧ s.env 33 = x ∧ s.env 34 = .int .i64 (m.length : Int) ∧ s.env 35 = .int .i64 (i : Int) ∧
      s.hs.nh = hs1.nh + 1 + i ∧ s.hs.nt = hs1.nt ∧ s.hs.tok = hs1.tok ∧ s.hs.heap hs1.nh = some (ptab (hs1.nh + 1) (cols m) m.length i) ∧ (∀ r (h : r < m.length), r < i → s.hs.heap (hs1.nh + 1 + r) = some (ints m[r])) ∧ ∀ j, j < hs1.nh → s.hs.heap j = hs1.heap j) (fun i => m.length - i) 0 ?_ ?_
  · refine ⟨by omega, by simp, by simp, by simp, by simp, by simp, by simp, by simp, by simp, by simp, by simp, by simp [HS.blk], by simp [HS.blk], by simp, fun r h h' => by omega, fun j hj => ?_⟩
    simp; exact HS.blk_old hj
  rintro N i s hN ⟨hi, e0, e1, e2, e7, e8, e9, e33, e34, e35, hnh, hnt, htok, hws, hrows, hlow⟩
  simp [e34, e35]
  refine At.dec (fun hlt => ?_) (fun hlt => ?_)
  · have hi' : i < m.length := by omega
    have hrl := hx.rlen hi'
    rw [hw.len hi'] at hrl
    have hrow := hw.rows hx hi'
    have wk : IntKind.i64.wrap ((i : Int) + 1) = (i : Int) + 1 := wrap64 (by omega) (by omega)
    have hst := st_ptab (hp := (s.hs.blk (List.replicate (cols m) (.int .i64 0))).heap) (q := hs1.nh) (b0 := hs1.nh + 1) (len := cols m) (n := m.length) (i := i) (by rw [HS.blk_old (by omega), hws]) hi'
    rw [← hnh] at hst
    simp [e9, e33, e35, hi', hx.get hi', hx.ld hi', hrl, mk _ _ (cols m) (by omega), hst]
    have hld : aload (fun k => if k = hs1.nh then some (ptab (hs1.nh + 1) (cols m) m.length (i + 1)) else (s.hs.blk (List.replicate (cols m) (.int .i64 0))).heap k) false 1 (.ref hs1.nh i) = some (.msl false 1 s.hs.nh 0 (cols m) true) := by
      rw [ld_ptab (b0 := hs1.nh + 1) (len := cols m) (n := m.length) (i := i + 1) (by simp) (by omega) hi', hnh]
    have hcp := copy_row (n0 := 0) (hs := ⟨fun k => if k = hs1.nh then some (ptab (hs1.nh + 1) (cols m) m.length (i + 1)) else (s.hs.blk (List.replicate (cols m) (.int .i64 0))).heap k, s.hs.nh + 1, s.hs.nt, s.hs.tok, s.hs.mp⟩) (j := s.hs.nh) (n := cols m) (z := List.replicate (cols m) 0) (x := R i) (l := m[i]) (ex := true) (by simp only; rw [if_neg (by omega), HS.blk_new, ints_rep]) (by simp) (RdI.of hrow) (by rw [hw.len hi']; exact Nat.le_refl _)
    have hdr : m[i] ++ (List.replicate (cols m) (0 : Int)).drop (m[i]).length = m[i] := by rw [hw.len hi']; simp
    rw [hdr] at hcp
    have hbt : (s.hs.blk (List.replicate (cols m) (AV.int .i64 0))).nt = s.hs.nt := rfl
    have hbo : (s.hs.blk (List.replicate (cols m) (AV.int .i64 0))).tok = s.hs.tok := rfl
    have hbm : (s.hs.blk (List.replicate (cols m) (AV.int .i64 0))).mp = s.hs.mp := rfl
    simp [hld, amem, hbt, hbo, hbm, hcp, e35]
    refine hN (i + 1) _ (by omega) ⟨by omega, by simp [e0], by simp [e1], by simp [e2], by simp [e7], by simp [e8], by simp [e9], by simp [e33], by simp [e34], by simp [wk], by simp; omega, by simp [hnt], by simp [htok], ?_, fun r hr hri => ?_, fun j hj => ?_⟩
    · show (HS.upd _ s.hs.nh (ints m[i])).heap hs1.nh = _
      rw [HS.upd_ne (by omega)]; simp
    · show (HS.upd _ s.hs.nh (ints m[i])).heap (hs1.nh + 1 + r) = _
      by_cases e : r = i
      · subst e; rw [← hnh, HS.upd_same]
      · rw [HS.upd_ne (by omega)]
        simp only
        rw [if_neg (by omega), HS.blk_old (by omega)]
        exact hrows r hr (by omega)
    · show (HS.upd _ s.hs.nh (ints m[i])).heap j = _
      rw [HS.upd_ne (by omega)]
      simp only
      rw [if_neg (by omega), HS.blk_old (by omega)]
      exact hlow j hj
  · have : i = m.length := by omega
    subst this
    have hW0 : Wide s.hs hs1.nh qa (hs1.nh + 1 + m.length) m M0 := by
      refine ⟨ptab (hs1.nh + 1) (cols m) m.length m.length, hws, ptab_len, fun r hr hr' => ?_, fun r r' hr hr' _ => ?_, fun r hr => ?_⟩
      · rw [ptab_get hr hr']
        have hl := hw.len hr'
        exact ⟨by omega, .inl ⟨hs1.nh + 1 + r, by rw [hl], hrows r hr' hr', by omega, by omega, by omega⟩⟩
      · rw [ptab_get hr (by rw [ptab_len] at hr; exact hr)]
        intro k hk; simp [Fw.tk] at hk
      · rw [ptab_get hr (by rw [ptab_len] at hr; exact hr)]
        intro k hk; simp [Fw.tk] at hk
    have hO0 : Own1 s.hs M0 (machs m) := hM0.keep (by omega) fun k hk => by rw [htok]; exact (hM0.tk hk).2
    have hA0 : s.hs.heap qa = some (ints (arts m)) := by rw [hlow _ hq2]; exact hq3
    have hlow0 : ∀ j, j < hs.nh → s.hs.heap j = hs.heap j := fun j hj => by
      have := hE.heap j (by simpa using hj)
      have hh := hE.nh
      simp at this hh
      rw [hlow j (by omega)]; exact this
    have hnh0 : hs.nh ≤ hs1.nh := by simpa using hE.nh
    have hq10 : hs.nh ≤ qa := by simpa using hq1
    clear hM0 hr hE hq3 hrows hws hlow hwsz hnt htok
    have hsn : seats.toNat ≤ 6 := by omega
    have hmx : (max 0 ((m.length : Int) - seats)) = ((m.length - seats.toNat : Nat) : Int) := by omega
    have w1 : IntKind.i64.wrap ((m.length : Int) - seats) = (m.length : Int) - seats := wrap64 (by omega) (by omega)
    simp [e0, e1, hx.len, w1]
    generalize he : m.length - seats.toNat = e at *
    have hem : e ≤ 5 := by omega
    refine At.loop (fun (y : Nat × List (List Int) × List Int × List Int) s => y.1 ≤ e ∧ Fil m L y.1 y.2.1 y.2.2.1 y.2.2.2 ∧ s.env 2 = .int .i64 L ∧ s.env 7 = .osl false 1 qa m.length ka ∧ s.env 9 = .msl false 1 hs1.nh 0 m.length true ∧ s.env 57 = .int .i64 (e : Int) ∧ s.env 58 = .int .i64 (y.1 : Int) ∧
        Wide s.hs hs1.nh qa (hs1.nh + 1 + m.length) y.2.1 (s.env 8) ∧ Own1 s.hs (s.env 8) y.2.2.2 ∧ s.hs.heap qa = some (ints y.2.2.1) ∧ s.hs.nh = hs1.nh + 1 + m.length ∧ (∀ j, j < hs.nh → s.hs.heap j = hs.heap j) ∧ y.2 = colF m L y.1) (fun y => e - y.1) (0, m, arts m, machs m) ?_ ?_
    · exact ⟨by omega, by rw [← hLL]; exact Fil.zero hw, by simp [e2], by simp [e7], by simp [e9], by simp; omega, by simp, by simp [e8]; exact hW0, by simp [e8]; exact hO0, by simp [hA0], by simp [hnh], by simpa using hlow0, rfl⟩
    clear e0 e1 e2 e7 e8 e9 e33 e34 e35 hW0 hO0 hA0 hnh hlow0 hN
    rintro N2 ⟨t, X, A, Mc⟩ s hN2 ⟨hte, hF, e2, e7, e9, e57, e58, hW, hO, hA, hnh, hlow, hcF⟩
    simp only at hte hF e58 hW hO hA hcF
    have hwq : qa ≠ hs1.nh := by omega
    simp [e57, e58]
    refine At.dec (fun hlt => ?_) (fun hlt => ?_)
    · have hte' : t < e := by omega
      have wt : IntKind.i64.wrap ((t : Int) + 1) = (t : Int) + 1 := wrap64 (by omega) (by omega)
      simp [e2, e9]
      generalize hmc : s.env 8 = mc at hW hO
      refine At.loop (fun (y : Nat × Int × List (List Int) × List Int) s => y.1 ≤ m.length ∧ Fin1 m L t y.1 y.2.1 y.2.2.1 y.2.2.2 Mc ∧ s.env 2 = .int .i64 L ∧ s.env 7 = .osl false 1 qa m.length ka ∧ s.env 8 = mc ∧ s.env 9 = .msl false 1 hs1.nh 0 m.length true ∧ s.env 12 = .int .i64 y.2.1 ∧ s.env 57 = .int .i64 (e : Int) ∧ s.env 58 = .int .i64 (t : Int) ∧ s.env 62 = .int .i64 (m.length : Int) ∧ s.env 63 = .int .i64 (y.1 : Int) ∧
          Wide s.hs hs1.nh qa (hs1.nh + 1 + m.length) y.2.2.1 mc ∧ Own1 s.hs mc Mc ∧ s.hs.heap qa = some (ints y.2.2.2) ∧ s.hs.nh = hs1.nh + 1 + m.length ∧ (∀ j, j < hs.nh → s.hs.heap j = hs.heap j) ∧ y.2 = rowF L (colF m L t).1 (colF m L t).2.1 y.1) (fun y => m.length - y.1) (0, L, X, A) ?_ ?_
      · exact ⟨by omega, hF.start hL.1, by simp [e2], by simp [e7], by simp [hmc], by simp [e9], by simp, by simp [e57], by simp [e58], by simp, by simp, by simpa using hW, by simpa using hO, by simpa using hA, by simpa using hnh, by simpa using hlow, by rw [← hcF]; rfl⟩
      clear e2 e7 e9 e57 e58 hW hO hA hnh hlow hmc
      rintro N3 ⟨i, left, X, A⟩ s hN3 ⟨hi, hF, e2, e7, e8, e9, e12, e57, e58, e62, e63, hW, hO, hA, hnh, hlow, hrF⟩
      simp only at hi hF e12 e63 hW hA hrF
      simp [e62, e63]
      refine At.dec (fun hlt => ?_) (fun hlt => ?_)
      · have hi' : i < m.length := by omega
        have wi : IntKind.i64.wrap ((i : Int) + 1) = (i : Int) + 1 := wrap64 (by omega) (by omega)
        obtain ⟨hF2, ht0, ht1⟩ := hF.step hi'
        have hiA : i < A.length := by rw [hF.al]; exact hi'
        have hiX : i < X.length := by rw [hF.xl]; exact hi'
        have ha := hF.ale i hi'
        have hl0 := hF.l0
        have hlc : left ≤ L := by
          have := hF.lc
          have : 0 ≤ colN X (cols m + t) := by
            rw [← sumF_xcol (R := m.length) hF.xl]
            exact sumF_nn fun r hr => hF.nn r (by simpa using hr) _
          omega
        have hgA : A.getD i 0 = A[i] := getD_of hiA
        have hld := ld_ints hA hiA
        have wa : IntKind.i64.wrap (L - A[i]) = L - A[i] := wrap64 (by omega) (by omega)
        have hidx : aidxS 1 (.osl false 1 qa m.length ka) (.int .i64 (i : Int)) = some (.ref qa i) := by simp [aidxS, hi']
        have htk : tke L left A i = min left (L - A[i]) := by unfold tke; rw [hgA]
        have hXl : X[i].length + 1 ≤ 1000 := by
          have := hF.rl i hi'
          rw [getD_row hiX] at this
          split at this <;> omega
        obtain ⟨w, y, hs', b1, b2, b3, b4, wl, b5, b6, b7, b8⟩ := hW.add hO hiX hXl (tke L left A i)
        have hgX : X.getD i [] = X[i] := getD_row hiX
        rw [← hgX] at b7
        have hst := store_cell (v := y) b5 b6 b4
        have hA1 : (fun k => if k = hs1.nh then some (wl.set i y) else hs'.heap k) qa = some (ints A) := by simp [hwq, b3.heap, hA]
        have hld1 := ld_ints (hp := fun k => if k = hs1.nh then some (wl.set i y) else hs'.heap k) (i := qa) hA1 hiA
        have hst1 := st_ints (hp := fun k => if k = hs1.nh then some (wl.set i y) else hs'.heap k) (i := qa) (v := A[i] + tke L left A i) hA1 hiA
        have wb : IntKind.i64.wrap (A[i] + tke L left A i) = A[i] + tke L left A i := wrap64 (by omega) (by omega)
        have wc : IntKind.i64.wrap (left - tke L left A i) = left - tke L left A i := wrap64 (by omega) (by omega)
        have hnh' : hs'.nh = hs1.nh + 1 + m.length := by rw [b3.nh]; exact hnh
        rw [hgA] at hF2
        simp [e2, e7, e9, e12, hi', hidx, hld, wa, ← Int.min_def, ← htk, b1, astoAll, si, b2, hst, hld1, hst1, wb, wc, e63]
        refine hN3 (i + 1, left - tke L left A i, X.set i (X.getD i [] ++ [tke L left A i]), A.set i (A[i] + tke L left A i)) _ (by simp only; omega) ⟨by simp only; omega, hF2, by simp [e2], by simp [e7], by simp [e8], by simp [e9], by simp, by simp [e57], by simp [e58], by simp [e62], by simp [wi], ?_, ?_, by simp, by simp [hnh'], fun j hj => ?_, ?_⟩
        · exact b7.up rfl rfl (by simp [Ne.symm hwq]) fun j j1 j2 _ => by simp [j1, j2]
        · exact b8.keep (Nat.le_refl _) fun k hk => (b8.tk hk).2
        · show (if j = qa then _ else if j = hs1.nh then _ else hs'.heap j) = _
          rw [if_neg (by omega), if_neg (by omega), b3.heap]
          exact hlow j hj
        · simp only [rowF]
          rw [← hrF, hgA]
      · have : i = m.length := by omega
        subst this
        obtain ⟨rfl, hF2⟩ := hF.done (seats := seats) htL (by omega) hL.1
        obtain ⟨y, hs', b1, b3, b7, b8⟩ := hW.addM hO (by rw [hF.ml]; omega) (L - 0)
        have wl : IntKind.i64.wrap L = L := wrap64 (by omega) (by omega)
        rw [Int.sub_zero] at b1 b8
        simp [e2, e8, e12, wl, astoAll, si, b1, e58]
        refine hN2 (t + 1, X, A, Mc ++ [L]) _ (by simp only; omega) ⟨by simp only; omega, by simpa using hF2, by simp [e2], by simp [e7], by simp [e9], by simp [e57], by simp [wt], by simpa using b7, by simpa using b8, by simp [b3.heap, hA], by simp [b3.nh, hnh], fun j hj => by simp [b3.heap, hlow j hj], by simp only [colF]; rw [← hrF, ← hcF]⟩
    · have : t = e := by omega
      subst this
      rename_i t
      clear hN2 e57 e58 w1 hmx
      have hxl := hF.xl
      have hmlen := hF.ml
      generalize hC : cols m + t = C at *
      generalize hmc : s.env 8 = mc at hW hO
      have hMc : asI mc = some Mc := hO.asI (by omega)
      have hn17 : m.length + C < 18 := by omega
      have wn : IntKind.i64.wrap ((m.length : Int) + (C : Int)) = ((m.length + C : Nat) : Int) := by rw [wrap64 (by omega) (by omega)]; omega
      have hlC : alenK false mc = some (.int .i64 (C : Int)) := by rw [alen_of hMc, hmlen]
      simp [e9, hmc, hlC, wn, -Int.natCast_add, mk _ _ (m.length + C) (by omega)]
      rw [show List.replicate (m.length + C) AV.nilsl = ptab (s.hs.nh + 1) (m.length + C) (m.length + C) 0 from (ptab_0 _ _ _).symm]
      generalize hn : m.length + C = n at *
      generalize hos : s.hs.nh = os at *
      refine At.loop (fun (i : Nat) s2 => i ≤ n ∧ s2.env 2 = .int .i64 L ∧ s2.env 7 = .osl false 1 qa m.length ka ∧ s2.env 8 = mc ∧ s2.env 9 = .msl false 1 hs1.nh 0 m.length true ∧ s2.env 15 = .int .i64 (m.length : Int) ∧ s2.env 16 = .int .i64 (C : Int) ∧ s2.env 17 = .msl false 1 os 0 n true ∧ s2.env 111 = .int .i64 (n : Int) ∧ s2.env 112 = .int .i64 (i : Int) ∧
        s2.hs.nh = os + 1 + i ∧ s2.hs.nt = s.hs.nt ∧ s2.hs.tok = s.hs.tok ∧ s2.hs.heap os = some (ptab (os + 1) n n i) ∧ (∀ r, r < i → s2.hs.heap (os + 1 + r) = some (ints (List.replicate n 0))) ∧ ∀ j, j < os → s2.hs.heap j = s.hs.heap j) (fun i => n - i) 0 ?_ ?_
      · refine ⟨by omega, by simp [e2], by simp [e7], by simp [hmc], by simp [e9], by simp, by simp, by simp, by simp, by simp, by simp [hos], by simp [HS.blk], by simp [HS.blk], by simp [HS.blk, hos], fun r h => by omega, fun j hj => ?_⟩
        simp; exact HS.blk_old (by omega)
      rintro N4 i s2 hN4 ⟨hi, f2, f7, f8, f9, f15, f16, f17, f111, f112, hnh2, hnt2, htok2, htab, hrows, hlow2⟩
      simp [f111, f112]
      refine At.dec (fun hlt => ?_) (fun hlt => ?_)
      · have hi' : i < n := by omega
        have wi : IntKind.i64.wrap ((i : Int) + 1) = (i : Int) + 1 := wrap64 (by omega) (by omega)
        have hst := st_ptab (hp := (s2.hs.blk (List.replicate n (.int .i64 0))).heap) (q := os) (b0 := os + 1) (len := n) (n := n) (i := i) (by rw [HS.blk_old (by omega), htab]) hi'
        rw [← hnh2] at hst
        simp [f15, f16, f17, f112, wn, mk _ _ n (by omega), hi', hst]
        refine hN4 (i + 1) _ (by omega) ⟨by omega, by simp [f2], by simp [f7], by simp [f8], by simp [f9], by simp [f15], by simp [f16], by simp [f17], by simp [f111], by simp [wi], by simp; omega, by simp [hnt2, HS.blk], by simp [htok2, HS.blk], by simp, fun r hr => ?_, fun j hj => ?_⟩
        · show (if os + 1 + r = os then _ else (HS.blk s2.hs _).heap (os + 1 + r)) = _
          rw [if_neg (by omega)]
          by_cases e : r = i
          · subst e; rw [← hnh2, HS.blk_new, ints_rep]
          · rw [HS.blk_old (by omega)]; exact hrows r (by omega)
        · show (if j = os then _ else (HS.blk s2.hs _).heap j) = _
          rw [if_neg (by omega), HS.blk_old (by omega)]; exact hlow2 j hj
      · have : n = i := by omega
        subst this
        have hMat0 : Mat s2.hs.heap (.msl false 1 os 0 n true) (List.replicate n (List.replicate n 0)) os (fun r => os + 1 + r) := by
          refine ⟨by simp, ?_, fun r hr => ?_, fun r hr => ?_, fun a b _ _ h => by omega, fun r _ => by omega, by simp; omega⟩
          · rw [htab]
            simp only [List.length_replicate, ptab]
            congr 1
            exact List.map_congr_left fun r hr => by rw [if_pos (by simpa using hr)]
          · have hr' : r < n := by simpa using hr
            rw [hrows r hr']
            simp [List.getD, hr']
          · have hr' : r < n := by simpa using hr
            simp [List.getD, hr']
        have hPW0 : PW n (tgt m.length C L X A Mc) (fun _ _ => False) (List.replicate n (List.replicate n 0)) := by
          intro r k hr hk
          refine ⟨fun h => h.elim, fun _ => ?_⟩
          simp [mm, List.getD, hr, hk]
        have hW2 : Wide s2.hs hs1.nh qa (hs1.nh + 1 + m.length) X mc := hW.up hnt2 htok2 (hlow2 _ (by omega)) fun j _ _ hj => hlow2 j (by omega)
        have hO2 : Own1 s2.hs mc Mc := hO.keep (by omega) fun k hk => by rw [htok2]; exact (hO.tk hk).2
        have hA2 : s2.hs.heap qa = some (ints A) := by rw [hlow2 _ (by omega)]; exact hA
        have hlow3 : ∀ j, j < hs.nh → s2.hs.heap j = hs.heap j := fun j hj => by rw [hlow2 j (by omega)]; exact hlow j hj
        clear hN4 hrows htab hW hO hA hlow hlow2 hnt2 htok2 f111 f112
        simp [f9]
        refine At.loop (fun (i : Nat) s3 => i ≤ m.length ∧ s3.env 123 = .msl false 1 hs1.nh 0 m.length true ∧ s3.env 124 = .int .i64 (m.length : Int) ∧ s3.env 125 = .int .i64 (i : Int) ∧ ∃ M, S8 hs.heap hs.nh hs1.nh qa ka os m.length C n L X A Mc mc (fun r k => (r < m.length ∧ r < i) ∨ (m.length ≤ r ∧ C ≤ k ∧ k < C + i)) M s3) (fun i => m.length - i) 0 ?_ ?_
        · refine ⟨by omega, by simp, by simp, by simp, List.replicate n (List.replicate n 0), by simp, ?_, by simp [f2], by simp [f7], by simp [f8], by simp [f15], by simp [f16], by simp [f17], by simpa using hMat0, by simpa using hW2, by simpa using hO2, by simpa using hA2, by simpa using hnh2, by simpa using hlow3⟩
          intro r k hr hk
          exact ⟨fun h => by omega, fun _ => (hPW0 r k hr hk).2 (fun h => h)⟩
        clear hMat0 hPW0 hW2 hO2 hA2 hlow3 hnh2 f2 f7 f8 f9 f15 f16 f17
        rintro N5 i s3 hN5 ⟨hi, f123, f124, f125, M, hS⟩
        simp [f124, f125]
        refine At.dec (fun hlt => ?_) (fun hlt => ?_)
        · have hi' : i < m.length := by omega
          have wi : IntKind.i64.wrap ((i : Int) + 1) = (i : Int) + 1 := wrap64 (by omega) (by omega)
          simp only [At.awp_skip, At.thenQ_n, At.awp_seq]
          refine body9 (hS.cong (by simp) (by simp)) hi' (by simp [f123]) (by simp [f124]) (by simp [f125]) h6 (by omega) hn (fun r hr => by rw [hF.rl r hr, hC]) hxl hF.al hF.ale hL (by omega) hq2 hq10 (fun M' s' hS' g123 g124 g125 => ?_)
          simp [g125]
          exact hN5 (i + 1) _ (by omega) ⟨by omega, by simp [g123], by simp [g124], by simp [wi], M', hS'.cong (by simp) (by simp)⟩
        · have : i = m.length := by omega
          subst this
          have hS5 : S8 hs.heap hs.nh hs1.nh qa ka os m.length C n L X A Mc mc (fun r k => r < m.length ∨ (m.length ≤ r ∧ C ≤ k) ∨ (m.length ≤ r ∧ r = m.length + k ∧ k < 0)) M s3 := hS.weaken (fun r k hr hk hd => .inl (by omega)) (fun r k h => by omega)
          simp [hS.e8, hlC]
          refine At.loop (fun (k : Nat) s4 => k ≤ C ∧ s4.env 170 = mc ∧ s4.env 171 = .int .i64 (C : Int) ∧ s4.env 172 = .int .i64 (k : Int) ∧ ∃ M, S8 hs.heap hs.nh hs1.nh qa ka os m.length C n L X A Mc mc (fun r k' => r < m.length ∨ (m.length ≤ r ∧ C ≤ k') ∨ (m.length ≤ r ∧ r = m.length + k' ∧ k' < k)) M s4) (fun k => C - k) 0 ?_ ?_
          · exact ⟨by omega, by simp, by simp, by simp, M, hS5.cong (by simp) (by simp [hS.e8])⟩
          clear hS hS5 hN5 f123 f124 f125
          rintro N6 k s4 hN6 ⟨hk, q170, q171, q172, M, hS⟩
          simp [q171, q172]
          refine At.dec (fun hlt => ?_) (fun hlt => ?_)
          · have hk' : k < C := by omega
            obtain ⟨hMl, hPW, f2, f7, f8, f15, f16, f17, hMat, hW, hO, hA, hnh2, hlow⟩ := hS
            have wk : IntKind.i64.wrap ((k : Int) + 1) = (k : Int) + 1 := wrap64 (by omega) (by omega)
            have wr : IntKind.i64.wrap ((m.length : Int) + (k : Int)) = ((m.length + k : Nat) : Int) := by rw [wrap64 (by omega) (by omega)]; omega
            have hkM : k < Mc.length := by omega
            have hgM : Mc.getD k 0 = Mc[k] := getD_of hkM
            have hb := hF.mle k (by omega)
            rw [hgM] at hb
            have wl : IntKind.i64.wrap (L - Mc[k]) = L - Mc[k] := wrap64 (by omega) (by omega)
            have hrk : m.length + k < n := by omega
            have hkn : k < n := by omega
            have hldR := hMat.ld (r := m.length + k) (by omega)
            rw [hMl] at hldR
            have hrowR := hMat.row (m.length + k) (by omega)
            have hlenR := hMat.len (m.length + k) (by omega)
            rw [hMl] at hlenR
            have hstR := st_ints (v := L - Mc[k]) (o := k) hrowR (by omega)
            have hM3 := hMat.setRow (r := m.length + k) (by omega) (l := (M.getD (m.length + k) []).set k (L - Mc[k])) (by rw [List.length_set, hlenR, hMl])
            have hP3 := hPW.cell (r0 := m.length + k) (k0 := k) (v := L - Mc[k]) (D' := fun r k' => r < m.length ∨ (m.length ≤ r ∧ C ≤ k') ∨ (m.length ≤ r ∧ r = m.length + k' ∧ k' < k + 1)) (by omega) (by rw [hlenR]; exact hkn) (by
              unfold tgt
              rw [if_neg (by omega), if_pos hk', if_pos rfl, hgM]) (fun r k' => by omega)
            generalize hrw : M.getD (m.length + k) [] = rw0 at hstR hM3 hP3
            generalize hz3 : ints (rw0.set k (L - Mc[k])) = z3 at *
            simp [f2, f15, f17, q170, q172, aidx_nat hMc hkM, wr, hrk, hkn, hldR, wl, hstR, -Int.natCast_add]
            refine hN6 (k + 1) _ (by omega) ⟨by omega, by simp [q170], by simp [q171], by simp [wk], M.set (m.length + k) (rw0.set k (L - Mc[k])), by simp [hMl], hP3, by simp [f2], by simp [f7], by simp [f8], by simp [f15], by simp [f16], by simp [f17], by simp only [put_hs]; exact hM3, ?_, ?_, ?_, by simp [hnh2], fun j hj => ?_⟩
            · simp only [put_hs]
              exact hW.up rfl rfl (by simp only; rw [if_neg (by omega)]) fun j _ _ hj => by simp only; rw [if_neg (by omega)]
            · simp only [put_hs]; exact hO.keep (Nat.le_refl _) fun k hk => (hO.tk hk).2
            · simp only [put_hs]; rw [if_neg (by omega)]; exact hA
            · simp only [put_hs]; rw [if_neg (by omega)]; exact hlow j hj
          · have : C = k := by omega
            subst this
            obtain ⟨hMl, hPW, f2, f7, f8, f15, f16, f17, hMat, hW, hO, hA, hnh2, hlow⟩ := hS
            have hPt : ∀ r k, r < n → k < n → mm M r k = tgt m.length C L X A Mc r k := fun r k hr hk => by
              obtain ⟨a, b⟩ := hPW r k hr hk
              rcases Classical.em (r < m.length ∨ (m.length ≤ r ∧ C ≤ k) ∨ (m.length ≤ r ∧ r = m.length + k ∧ k < C)) with e | e
              · exact a e
              · rw [b e]
                unfold tgt
                rw [if_neg (by omega), if_pos (by omega), if_neg (by omega)]
            have hMe : M = sqM m seats L := by
              unfold sqM
              rw [he, ← hcF, hC, hn]
              exact sq_ext hMl tab_len (fun r hr => by rw [hMat.len r (by omega)]; exact hMl) (fun r hr => by rw [tab_row hr]; simp) (fun r k hr hk => by rw [tab_mm hr hk]; exact hPt r k hr hk)
            have fin : ∃ S M is b X A Mc, AEnd.ret (AV.msl false 1 os 0 n true) = .ret S ∧ M = sqM m seats L ∧ Mat s4.hs.heap S M is b ∧ hs.nh ≤ is ∧ is < s4.hs.nh ∧ (∀ r, r < M.length → hs.nh ≤ b r ∧ b r < s4.hs.nh) ∧ HsExt hs s4.hs ∧
                Fil m L t X A Mc ∧ M.length = m.length + C ∧ ∀ r k, r < M.length → k < M.length → mm M r k = tgt m.length C L X A Mc r k := by
              exact ⟨_, M, os, fun r => os + 1 + r, X, A, Mc, rfl, hMe, hMat, by omega, by omega, fun r hr => ⟨by show hs.nh ≤ os + 1 + r; omega, by show os + 1 + r < s4.hs.nh; omega⟩, ⟨by omega, hlow⟩, hF, by omega, fun r k hr hk => hPt r k (by omega) (by omega)⟩
            simp [f17]
            rw [hn] at fin
            exact At.of (by simpa using fin)
end Go.Proofs.Ytokgpcdbpkginaa
