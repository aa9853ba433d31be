/-
  Digits of numbers; codes: plain. Own work.
  Numbers with a check digit: the walks. Own work.
  The code of a number: the walk. Own work.
  Shares that are cut apart and numbered: the law's contract. Own work.
  Shares that are cut apart and numbered: whatever the arguments. Own work.
-/
import Derived.Test.YtdcpkgedaflnmaaGreatDoorG5
import Derived.Test.YtdcpkgedaflnmaaGreatDoorFx3
import Derived.Test.YtdcpkgedaflnmaaGreatDoorC3
import Derived.Test.YtdcpkgedaflnmaaGreatDoorFx5
import Derived.Test.YtdcpkgedaflnmaaGreatDoorH3
import Derived.Test.YtdcpkgedaflnmaaGreatDoorH2
set_option linter.unusedVariables false
set_option linter.unusedSimpArgs false
namespace Go.Proofs.YtdcpkgedaflnmaaGreatDoor.Sn
open Go Fw Se

/-- so many low digits of a number, the greatest place first -/
def dgs (n : Nat) : Nat → Nat → List Int
  | 0, _ => []
  | L + 1, m => dgs n L (m / n) ++ [((m % n : Nat) : Int)]
theorem dgs_len (n : Nat) : ∀ L m, (dgs n L m).length = L
  | 0, _ => rfl
  | L + 1, m => by rw [dgs, List.length_append, dgs_len n L]; rfl
theorem dgs_cons (n : Nat) : ∀ L m, dgs n (L + 1) m = ((m / n ^ L % n : Nat) : Int) :: dgs n L m
  | 0, m => by simp [dgs]
  | L + 1, m => by
    rw [dgs, dgs_cons n L (m / n), List.cons_append]
    congr 1
    rw [Nat.div_div_eq_div_mul, Nat.pow_succ, Nat.mul_comm n]
theorem dgs_bd {n : Nat} (hn : 0 < n) : ∀ L m, ∀ a ∈ dgs n L m, 0 ≤ a ∧ a < n
  | 0, m, a, h => by cases h
  | L + 1, m, a, h => by
    rw [dgs] at h
    rcases List.mem_append.1 h with h | h
    · exact dgs_bd hn L (m / n) a h
    · rw [List.mem_singleton.1 h]
      have := Nat.mod_lt m hn
      omega
def valL (n : Nat) (l : List Int) : Int := l.foldl (fun a d => a * n + d) 0
theorem dgs_val {n : Nat} (hn : 0 < n) : ∀ L m, m < n ^ L → valL n (dgs n L m) = (m : Int)
  | 0, m, h => by
    have : m = 0 := by simpa using h
    subst this; rfl
  | L + 1, m, h => by
    have h1 : m / n < n ^ L := Nat.div_lt_of_lt_mul (by rw [Nat.pow_succ, Nat.mul_comm] at h; exact h)
    have ih := dgs_val hn L (m / n) h1
    unfold valL at ih ⊢
    rw [dgs, List.foldl_append, ih]
    simp only [List.foldl_cons, List.foldl_nil]
    have := Nat.div_add_mod m n
    rw [Nat.mul_comm] at this
    exact_mod_cast this
theorem fst_ex {f : Nat → Bool} : ∀ (n i : Nat), (∃ j, i ≤ j ∧ j < i + n ∧ f j = true) → ∃ d, i ≤ d ∧ d < i + n ∧ f d = true ∧ fstF f n i = (d : Int)
  | 0, i, ⟨j, h1, h2, _⟩ => by omega
  | n + 1, i, ⟨j, h1, h2, h3⟩ => by
    rw [fstF]
    by_cases h : f i = true
    · rw [if_pos h]; exact ⟨i, Nat.le_refl _, by omega, h, rfl⟩
    · rw [if_neg h]
      have hij : i ≠ j := fun e => h (by rw [e]; exact h3)
      obtain ⟨d, g1, g2, g3, g4⟩ := fst_ex n (i + 1) ⟨j, by omega, by omega, h3⟩
      exact ⟨d, by omega, by omega, g3, g4⟩
/-- each state has a digit that leads to 0 -/
theorem zero_ex {m : List (List Int)} (g : GoodT m) {s : Nat} (hs : s < m.length) : ∃ d, d < m.length ∧ mI m s d = 0 := by
  by_cases h : ∃ d, d < m.length ∧ mI m s d = 0
  · exact h
  · exfalso
    have hn := g.n2
    have hpos : ∀ d, d < m.length → 1 ≤ mI m s d := fun d hd => by
      have h1 := g.ent s d hs hd
      have : mI m s d ≠ 0 := fun e => h ⟨d, hd, e⟩
      omega
    have hnd : ((List.range m.length).map fun d => (mI m s d).toNat - 1).Nodup := by
      refine List.pairwise_map.2 ?_
      refine List.Pairwise.imp_of_mem ?_ List.nodup_range
      intro a b ha hb hab e
      have ha := List.mem_range.1 ha
      have hb := List.mem_range.1 hb
      have h1 := hpos a ha
      have h2 := hpos b hb
      exact hab (g.rin s a b hs ha hb (by omega))
    have := nodup_le (n := m.length - 1) hnd (fun i hi => by
      obtain ⟨d, hd, rfl⟩ := List.mem_map.1 hi
      have hd := List.mem_range.1 hd
      have h1 := hpos d hd
      have h2 := g.ent s d hs hd
      omega)
    simp at this
    omega
/-- the digit that leads to 0 -/
def zD (m : List (List Int)) (s : Nat) : Int := fstF (fun j => decide (mI m s j = 0)) m.length 0
theorem zD_spec {m : List (List Int)} (g : GoodT m) {s : Nat} (hs : s < m.length) : 0 ≤ zD m s ∧ zD m s < m.length ∧ mI m s (zD m s).toNat = 0 := by
  obtain ⟨d, h1, h2⟩ := zero_ex g hs
  obtain ⟨e, _, e2, e3, e4⟩ := fst_ex (f := fun j => decide (mI m s j = 0)) m.length 0 ⟨d, by omega, by omega, by simpa using h2⟩
  unfold zD
  rw [e4]
  refine ⟨by omega, by omega, ?_⟩
  simpa using e3
/-- the code of a number, of nine figures -/
def codeL (m : List (List Int)) (i : Nat) : List Int := dgs m.length 8 i ++ [zD m (aft m (dgs m.length 8 i) 0).toNat]
theorem codeL_len (m : List (List Int)) (i : Nat) : (codeL m i).length = 9 := by simp [codeL, dgs_len]
theorem codeL_bd {m : List (List Int)} (g : GoodT m) (i : Nat) : ∀ a ∈ codeL m i, 0 ≤ a ∧ a < m.length := by
  intro a ha
  have hn := g.n2
  rcases List.mem_append.1 ha with h | h
  · exact dgs_bd (by omega) 8 i a h
  · rw [List.mem_singleton.1 h]
    have hb := aft_bd g (l := dgs m.length 8 i) (s := 0) (dgs_bd (by omega) 8 i) ⟨by omega, by omega⟩
    have := zD_spec g (s := (aft m (dgs m.length 8 i) 0).toNat) (by omega)
    exact ⟨this.1, this.2.1⟩
theorem codeL_right {m : List (List Int)} (g : GoodT m) (i : Nat) : aft m (codeL m i) 0 = 0 := by
  have hn := g.n2
  have hb := aft_bd g (l := dgs m.length 8 i) (s := 0) (dgs_bd (by omega) 8 i) ⟨by omega, by omega⟩
  have := zD_spec g (s := (aft m (dgs m.length 8 i) 0).toNat) (by omega)
  unfold codeL
  rw [aft_app]
  exact this.2.2
theorem pow8 {n i : Nat} (hn : 2 ≤ n) (hi : i < 256) : i < n ^ 8 := Nat.lt_of_lt_of_le hi (Nat.pow_le_pow_left hn 8)
theorem codeL_val {m : List (List Int)} (g : GoodT m) {i : Nat} (hi : i < 256) : valL m.length ((codeL m i).take 8) = (i : Int) := by
  have hn := g.n2
  unfold codeL
  rw [List.take_append_of_le_length (by rw [dgs_len]; exact Nat.le_refl _), List.take_of_length_le (by rw [dgs_len]; exact Nat.le_refl _)]
  exact dgs_val (by omega) 8 i (pow8 hn hi)
theorem codeL_inj {m : List (List Int)} (g : GoodT m) {i j : Nat} (hi : i < 256) (hj : j < 256) (h : codeL m i = codeL m j) : i = j := by
  have h1 := codeL_val g hi
  have h2 := codeL_val g hj
  rw [h] at h1
  rw [h1] at h2
  omega
end Go.Proofs.YtdcpkgedaflnmaaGreatDoor.Sn
set_option linter.unusedVariables false
set_option linter.unusedSimpArgs false
namespace Go.Proofs.YtdcpkgedaflnmaaGreatDoor.Sn
open Go Fw Se

theorem p115 {x : AV} {l : List Int} (hx : asI x = some l) (v : Int) : PCall Tryz.prog 115 [x, .int .i64 v] (.int .i64 (fstF (fun j => decide (gI l j = v)) l.length 0)) := by
  have hl := asI_len hx
  refine PCall.of CtxOk.nil ok115 (by simp) rfl fun hs hb => ?_
  simp [A115, R115, alen_of hx]
  refine At.loop (fun (i : Nat) s => i ≤ l.length ∧ fstF (fun j => decide (gI l j = v)) l.length 0 = fstF (fun j => decide (gI l j = v)) (l.length - i) i ∧ s.env 0 = x ∧ s.env 1 = .int .i64 v ∧ s.env 7 = .int .i64 (l.length : Int) ∧ s.env 8 = .int .i64 (i : Int)) (fun i => l.length - i) 0 ?_ ?_
  · simp
  rintro N i s hN ⟨hi, hf, e0, e1, e7, e8⟩
  simp [e7, e8]
  refine At.dec (fun hlt => ?_) (fun hlt => ?_)
  rotate_left
  · have : i = l.length := by omega
    subst this
    simp [hf, fstF]
  have hi' : i < l.length := by omega
  have ix := idx_g hx (k := .i64) hi'
  rw [show l.length - i = (l.length - (i + 1)) + 1 by omega, fstF] at hf
  by_cases h : gI l i = v
  · rw [if_pos (by simpa using h)] at hf
    simp [e0, e1, e8, ix, h, hf]
  · rw [if_neg (by simpa using h)] at hf
    have h' : ¬ v = gI l i := fun e => h e.symm
    simp [e0, e1, e8, ix, h, h']
    exact hN (i + 1) _ (by omega) ⟨by omega, hf, by simp [e0], by simp [e1], by simp [e7], by simp [wrap_nat1 (show i < _ by omega)]⟩
theorem p59 {x : AV} {m : List (List Int)} (hx : asM x = some m) (g : GoodT m) {z : AV} {l : List Int} (hz : asI z = some l) (hl : ∀ a ∈ l, 0 ≤ a ∧ a < m.length) (h12 : l.length ≤ 12) : PCall Tryz.prog 59 [x, z] (.tup [.int .i64 (zD m (aft m l 0).toNat), .int .i64 0]) := by
  have hn := g.n2
  obtain ⟨R, hM⟩ := asM.isM hx
  have hb := aft_bd g (l := l) (s := 0) hl ⟨by omega, by omega⟩
  obtain ⟨a, ha⟩ : ∃ a : Nat, aft m l 0 = (a : Int) := ⟨(aft m l 0).toNat, by omega⟩
  have ham : a < m.length := by omega
  have h15 := p15 hx g hz hl h12
  rw [ha] at h15
  have hrow := rowI_ne (hM.row a ham) (by have := g.row a ham; omega)
  obtain ⟨C1, hC1, k17, _⟩ := ctx_pt CtxOk.nil 17 _ _ h15
  obtain ⟨C, hC, k115, n⟩ := ctx_pt hC1 115 _ _ (p115 hrow 0)
  have k17' : C 17 [x, z] = some (.tup [.int .i64 (a : Int), .int .i64 0]) := by rw [n 17 (by decide)]; exact k17
  have hzd : fstF (fun j => decide (gI m[a] j = 0)) m[a].length 0 = zD m a := by
    unfold zD
    rw [g.row a ham]
    congr 1
    funext j
    simp [mI, gI, ham]
  rw [hzd] at k115
  rw [ha]
  have g1 := hM.get (k := .i64) ham
  have l1 := hM.ld ham
  refine PCall.of hC ok59 (by simp) rfl fun hs hb => ?_
  simp [A59, R59, k17', g1, l1, k115]
theorem p62 {x : AV} {m : List (List Int)} (hx : asM x = some m) (g : GoodT m) {z : AV} {l : List Int} (hz : asI z = some l) (hl : ∀ a ∈ l, 0 ≤ a ∧ a < m.length) (h2 : 2 ≤ l.length) (h12 : l.length ≤ 12) : PCall Tryz.prog 62 [x, z] (.int .i64 0) := by
  obtain ⟨C1, hC1, k57, _⟩ := ctx_pt CtxOk.nil 57 _ _ (p69 hx g)
  obtain ⟨C, hC, k50, n⟩ := ctx_pt hC1 50 _ _ (p38 hx g hz hl h12)
  have k57' : C 57 [x] = some (.int .i64 0) := by rw [n 57 (by decide)]; exact k57
  have hl2 : ¬ l.length < 2 := by omega
  have hl2' : ¬ (l.length : Int) < 2 := by omega
  refine PCall.of hC ok62 (by simp) rfl fun hs hb => ?_
  simp [A62, R62, k57', k50, alen_of hz, hl2, hl2']
theorem p24 {x : AV} {m : List (List Int)} (hx : asM x = some m) (g : GoodT m) {z : AV} {l : List Int} (hz : asI z = some l) (hl : ∀ a ∈ l, 0 ≤ a ∧ a < m.length) (h2 : 2 ≤ l.length) (h12 : l.length ≤ 12) (h0 : aft m l 0 = 0) : PCall Tryz.prog 24 [x, z] (.int .i64 0) := by
  have hn := g.n2
  have h39 := p39 hx g hz hl (s := 0) ⟨by omega, by omega⟩
  rw [h0] at h39
  obtain ⟨C1, hC1, k62, _⟩ := ctx_pt CtxOk.nil 62 _ _ (p62 hx g hz hl h2 h12)
  obtain ⟨C, hC, k51, n⟩ := ctx_pt hC1 51 _ _ h39
  have k62' : C 62 [x, z] = some (.int .i64 0) := by rw [n 62 (by decide)]; exact k62
  refine PCall.of hC ok24 (by simp) rfl fun hs hb => ?_
  simp [A24, R24, k62', k51]
theorem p61 {x : AV} {m : List (List Int)} (hx : asM x = some m) (g : GoodT m) {a d : Int} (ha : 0 ≤ a ∧ a < 10000000000) (hd : 0 ≤ d ∧ d < 100) : PCall Tryz.prog 61 [.int .i64 a, .int .i64 d, .ptr x] (.int .i64 (a * m.length + d)) := by
  obtain ⟨R, hM⟩ := asM.isM hx
  have hn := g.n10
  have l0 := leaf_ld hM.leaf
  have hlen := hM.len
  have hp : a * (m.length : Int) ≤ 10000000000 * 10 := Int.mul_le_mul (by omega) (by omega) (by omega) (by omega)
  have hp0 : 0 ≤ a * (m.length : Int) := Int.mul_nonneg (by omega) (by omega)
  have w1 : IntKind.i64.wrap (a * (m.length : Int)) = a * (m.length : Int) := wrap64 (by omega) (by omega)
  have w2 : IntKind.i64.wrap (a * (m.length : Int) + d) = a * (m.length : Int) + d := wrap64 (by omega) (by omega)
  refine PCall.of CtxOk.nil ok61 (by simp) rfl fun hs hb => ?_
  simp [A61, R61, l0, hlen, w1, w2]
theorem step_bd {a d P n : Int} (h1 : 0 ≤ a) (h2 : a < P) (h3 : 0 ≤ d) (h4 : d < n) (h5 : n ≤ 10) : 0 ≤ a * n + d ∧ a * n + d < P * 10 := by
  have e1 : 0 ≤ a * n := Int.mul_nonneg h1 (by omega)
  have e2 : a * n ≤ (P - 1) * n := Int.mul_le_mul_of_nonneg_right (by omega) (by omega)
  have e3 : (P - 1) * n ≤ (P - 1) * 10 := Int.mul_le_mul_of_nonneg_left h5 (by omega)
  omega
theorem valL_bd {n : Nat} (hn : n ≤ 10) : ∀ (l : List Int), (∀ a ∈ l, 0 ≤ a ∧ a < n) → 0 ≤ valL n l ∧ valL n l < 10 ^ l.length := by
  intro l
  have key : ∀ (l : List Int) (k : Nat) (a : Int), (∀ a ∈ l, 0 ≤ a ∧ a < n) → 0 ≤ a ∧ a < 10 ^ k → 0 ≤ l.foldl (fun (a d : Int) => a * (n : Int) + d) a ∧ l.foldl (fun (a d : Int) => a * (n : Int) + d) a < 10 ^ (k + l.length) := by
    intro l
    induction l with
    | nil => intro k a _ h; exact h
    | cons d l ih =>
      intro k a hl h
      have hd := hl d (by simp)
      have hsb := step_bd (P := 10 ^ k) h.1 h.2 hd.1 hd.2 (by omega)
      rw [← Int.pow_succ] at hsb
      have := ih (k + 1) (a * n + d) (fun b hb => hl b (by simp [hb])) hsb
      simp only [List.foldl_cons, List.length_cons]
      rw [show k + (l.length + 1) = k + 1 + l.length by omega]
      exact this
  intro hl
  have := key l 0 0 hl ⟨by omega, by decide⟩
  simpa [valL] using this
theorem p60 {x : AV} {m : List (List Int)} (hx : asM x = some m) (g : GoodT m) {z : AV} {l : List Int} (hz : asI z = some l) (hl : ∀ a ∈ l, 0 ≤ a ∧ a < m.length) (h8 : l.length ≤ 8) : PCall Tryz.prog 60 [.int .i64 0, z, .fn (.func 61) [] [.ptr x]] (.int .i64 (valL m.length l)) := by
  have hll := asI_len hz
  have hn := g.n10
  refine PCall.of CtxOk.nil ok60 (by simp) rfl fun hs0 hb => ?_
  simp [A60, R60, alen_of hz]
  refine At.loop (fun (i : Nat) t => i ≤ l.length ∧ t.env 0 = .int .i64 (valL m.length (l.take i)) ∧ t.env 2 = .fn (.func 61) [] [.ptr x] ∧ t.env 9 = z ∧ t.env 10 = .int .i64 (l.length : Int) ∧ t.env 11 = .int .i64 (i : Int)) (fun i => l.length - i) 0 ?_ ?_
  · simp [valL]
  rintro N i t hN ⟨hi, e0, e2, e9, e10, e11⟩
  simp [e10, e11]
  refine At.dec (fun hlt => ?_) (fun hlt => ?_)
  rotate_left
  · have : i = l.length := by omega
    subst this
    simp [e0]
  have hi' : i < l.length := by omega
  have hb1 := valL_bd hn (l.take i) (fun a ha => hl a (List.mem_of_mem_take ha))
  have hpow : (10 : Int) ^ (l.take i).length ≤ 10 ^ 8 := by
    have : (10 : Nat) ^ (l.take i).length ≤ 10 ^ 8 := Nat.pow_le_pow_right (by decide) (by rw [List.length_take]; omega)
    exact_mod_cast this
  have hd := hl l[i] (List.getElem_mem hi')
  have hc := p61 hx g (a := valL m.length (l.take i)) (d := l[i]) ⟨hb1.1, by omega⟩ ⟨hd.1, by omega⟩
  have hs2 : valL m.length (l.take (i + 1)) = valL m.length (l.take i) * m.length + l[i] := by
    rw [take_snoc hi']
    unfold valL
    rw [List.foldl_append]; rfl
  rw [← hs2] at hc
  simp [e0, e2, e9, e11, aidx_nat hz hi']
  refine At.hp hc ?_
  simp [e11]
  exact hN (i + 1) _ (by omega) ⟨by omega, by simp, by simp [e2], by simp [e9], by simp [e10], by simp [wrap_nat1 (show i < _ by omega)]⟩
theorem p23 {x : AV} {m : List (List Int)} (hx : asM x = some m) (g : GoodT m) {z : AV} {i : Nat} (hz : asI z = some (codeL m i)) (hi : i < 256) : PCall Tryz.prog 23 [x, z] (.tup [.int .i64 (i : Int), .int .i64 0]) := by
  obtain ⟨R, hM⟩ := asM.isM hx
  have hlen := codeL_len m i
  have l0 := leaf_ld hM.leaf
  have h24 := p24 hx g hz (codeL_bd g i) (by omega) (by omega) (codeL_right g i)
  have h60 := p60 hx g (asI_take hz 8) (fun a ha => codeL_bd g i a (List.mem_of_mem_take ha)) (by rw [List.length_take]; omega)
  rw [codeL_val g hi] at h60
  obtain ⟨C1, hC1, k24, _⟩ := ctx_pt CtxOk.nil 24 _ _ h24
  obtain ⟨C, hC, k60, n⟩ := ctx_pt hC1 60 _ _ h60
  have k24' : C 24 [x, z] = some (.int .i64 0) := by rw [n 24 (by decide)]; exact k24
  have st : aslice 1 z none (some (.int .i64 8)) none = some (takeV 8 z) := slice_take (n := 8) (asI_asV hz) (by rw [ints_len, hlen]; decide)
  have al := alen_of hz
  rw [hlen] at al
  have hst : x.sto = true := by rcases hM.form with ⟨rfl, _⟩ | ⟨c, rfl⟩ <;> rfl
  refine PCall.of hC ok23 (by simp) rfl fun hs hb => ?_
  have w8 : IntKind.i64.wrap 8 = 8 := by decide
  simp [A23, R23, hst, l0, k24', al, w8, st, k60]
end Go.Proofs.YtdcpkgedaflnmaaGreatDoor.Sn
set_option linter.unusedVariables false
set_option linter.unusedSimpArgs false
namespace Go.Proofs.YtdcpkgedaflnmaaGreatDoor.Sn
open Go Fw Se

/-- the figures while k of them are written -/
def outD (n i k : Nat) : List Int := List.replicate (8 - k) 0 ++ dgs n k i
theorem outD_len {n i k : Nat} (hk : k ≤ 8) : (outD n i k).length = 8 := by simp [outD, dgs_len]; omega
theorem outD_set {n i k : Nat} (hk : k < 8) : (outD n i k).set (7 - k) ((i / n ^ k % n : Nat) : Int) = outD n i (k + 1) := by
  unfold outD
  have e : List.replicate (8 - k) (0 : Int) = List.replicate (7 - k) 0 ++ [0] := by
    rw [show 8 - k = (7 - k) + 1 by omega, List.replicate_succ']
  rw [e, List.append_assoc, List.set_append_right _ _ (by simp), dgs_cons]
  simp only [List.length_replicate, Nat.sub_self, List.singleton_append, List.set_cons_zero]
  rw [show 8 - (k + 1) = 7 - k by omega]
set_option maxHeartbeats 1000000 in
theorem p22 {x : AV} {m : List (List Int)} (hx : asM x = some m) (g : GoodT m) {i : Nat} (hi : i < 256) : PCall Tryz.prog 22 [x, .int .i64 9, .int .i64 (i : Int)] (.tup [shR (codeL m i), .int .i64 0]) := by
  obtain ⟨R, hM⟩ := asM.isM hx
  have hn2 := g.n2
  have hn10 := g.n10
  have hlen := hM.len
  obtain ⟨C, hC, k57, n⟩ := ctx_pt E1ok 57 _ _ (p69 hx g)
  have k58 : C 58 = SB := by rw [n 58 (by decide)]; rfl
  have b1 : btw 2 9 12 = true := by decide
  have w9 : IntKind.i64.wrap 8 = 8 := by decide
  have hpl : (AV.tup [shR (codeL m i), .int .i64 0]).plain = true := by
    have := plain_ints (codeL m i)
    simp [shR, AV.plain, plainL] at this ⊢
    exact this
  refine PCall.of hC ok22 (by simp) hpl fun hs hb => ?_
  have hmk : amake false 1 [.int .i64 0] hs (.int .i64 8) (.int .i64 8) = some (.msl false 1 hs.nh 0 8 true, hs.blk (List.replicate 8 (.int .i64 0))) := amake_eq (n := 8) (by omega)
  have hneg : ¬ (i : Int) < 0 := by omega
  generalize hq0 : hs.nh = q at hmk
  simp [A22, R22, k57, k58, b1, w9, hneg, hmk]
  have w7 : IntKind.i64.wrap 7 = 7 := by decide
  refine At.loop (fun (k : Nat) s => k ≤ 8 ∧ s.env 0 = x ∧ s.env 2 = .int .i64 ((i / m.length ^ k : Nat) : Int) ∧ s.env 9 = .msl false 1 q 0 8 true ∧ s.env 29 = .int .i64 8 ∧ s.env 30 = .int .i64 (k : Int) ∧ s.hs.heap q = some (ints (outD m.length i k))) (fun k => 8 - k) 0 ?_ ?_
  · refine ⟨by omega, by simp, by simp, by simp, by simp, by simp, ?_⟩
    simp [← hq0, outD, dgs, ints]
  rintro N k s hN ⟨hk, e0, e2, e9, e29, e30, hq⟩
  simp [e29, e30]
  refine At.dec (fun hlt => ?_) (fun hlt => ?_)
  · have hk' : k < 8 := by omega
    have h1 : i / m.length ^ k < 4611686018427387904 := Nat.lt_of_le_of_lt (Nat.div_le_self _ _) (by omega)
    have r1 : abin 0 .rem (.int .i64 ((i / m.length ^ k : Nat) : Int)) (.int .i64 (m.length : Int)) = some (.int .i64 ((i / m.length ^ k % m.length : Nat) : Int)) := rem64 (by omega)
    have r2 : abin 0 .quo (.int .i64 ((i / m.length ^ k : Nat) : Int)) (.int .i64 (m.length : Int)) = some (.int .i64 ((i / m.length ^ k / m.length : Nat) : Int)) := quo64 (by omega) h1
    rw [Nat.div_div_eq_div_mul, ← Nat.pow_succ] at r2
    have wk : IntKind.i64.wrap (7 - (k : Int)) = ((7 - k : Nat) : Int) := by rw [wrap64 (by omega) (by omega)]; omega
    have ix : aidxS 1 (.msl false 1 q 0 8 true) (.int .i64 ((7 - k : Nat) : Int)) = some (.ref q (7 - k)) := aidx_msln (by omega)
    have st := store_cell (v := .int .i64 ((i / m.length ^ k % m.length : Nat) : Int)) (o := 7 - k) hq (by rw [ints_len, outD_len hk]; omega) rfl
    have hset : (ints (outD m.length i k)).set (7 - k) (.int .i64 ((i / m.length ^ k % m.length : Nat) : Int)) = ints (outD m.length i (k + 1)) := by
      rw [← outD_set hk']
      simp [ints, List.map_set]
    rw [hset] at st
    generalize hcc : ints (outD m.length i (k + 1)) = cells at *
    obtain ⟨z1, hz1⟩ : ∃ z1 : Int, z1 = ((7 - k : Nat) : Int) := ⟨_, rfl⟩
    rw [← hz1] at wk ix
    obtain ⟨z2, hz2⟩ : ∃ z2 : Int, z2 = ((i / m.length ^ k % m.length : Nat) : Int) := ⟨_, rfl⟩
    rw [← hz2] at r1 st
    obtain ⟨z3, hz3⟩ : ∃ z3 : Int, z3 = ((i / m.length ^ (k + 1) : Nat) : Int) := ⟨_, rfl⟩
    rw [← hz3] at r2
    obtain ⟨z4, hz4⟩ : ∃ z4 : Int, z4 = ((i / m.length ^ k : Nat) : Int) := ⟨_, rfl⟩
    rw [← hz4] at r1 r2 e2
    simp [e0, e2, e9, e30, hlen, w7, wk, ix, r1, r2, st, -abin_rem, -abin_quo]
    exact hN (k + 1) _ (by omega) ⟨by omega, by simp [e0], by rw [← hz3]; simp, by simp [e9], by simp [e29], by simp [wrap_nat1 (show k < _ by omega)], by simp [hcc]⟩
  · have : k = 8 := by omega
    subst this
    have hz : i / m.length ^ 8 = 0 := Nat.div_eq_of_lt (pow8 hn2 hi)
    rw [hz] at e2
    have ho : outD m.length i 8 = dgs m.length 8 i := by simp [outD]
    rw [ho] at hq
    have h59 := p59 hx g (z := .sl 1 (ints (dgs m.length 8 i)) .exact) (l := dgs m.length 8 i) (asI_sl (by rw [dgs_len]; decide)) (dgs_bd (by omega) 8 i) (by rw [dgs_len]; decide)
    have hfz : [x, AV.msl false 1 q 0 8 true].map (frz s.hs.heap 2) = [x, .sl 1 (ints (dgs m.length 8 i)) .exact] := by
      have e1 := hM.frz s.hs.heap 2
      have e2 : frz s.hs.heap 2 (.msl false 1 q 0 8 true) = .sl 1 (ints (dgs m.length 8 i)) .exact := by
        show frzL s.hs.heap 2 (.msl false 1 q 0 8 true) = _
        rw [frzL_msl hq (mcont_full (by rw [ints_len, dgs_len])), if_pos rfl, map_frz_ints]
      simp only [List.map_cons, List.map_nil, e1, e2]
    rw [← hfz] at h59
    have hc := FCall.lent2 (hs := s.hs) h59
    simp [e0, e2, e9]
    refine At.hc hc ?_ ?_
    rotate_left
    · rintro r hs' ⟨hr, _⟩; cases hr
    rintro r hs' ⟨hr, rfl⟩
    injection hr with hr; subst hr
    have hcode : ints (codeL m i) = ints (dgs m.length 8 i) ++ [.int .i64 (zD m (aft m (dgs m.length 8 i) 0).toNat)] := by simp [codeL, ints]
    generalize zD m (aft m (dgs m.length 8 i) 0).toNat = d at *
    have hil : (ints (dgs m.length 8 i)).length = 8 := by rw [ints_len, dgs_len]
    have hsc : (ints (codeL m i)).map AV.share = ints (codeL m i) := share_ints _
    have ap : aappend 1 s.hs (.msl false 1 q 0 8 true) (.sl 1 [.int .i64 d] .exact) = some (.sl 1 (ints (codeL m i)) (.own s.hs.nt), { s.hs with nt := s.hs.nt + 1, tok := fun t => if t = s.hs.nt then true else s.hs.tok t }) := by
      rw [hcode]
      unfold aappend
      have e1 : aelemsH s.hs.heap (.msl false 1 q 0 8 true) = some (ints (dgs m.length 8 i)) := by
        show (s.hs.heap q).bind (mcont false 1 0 8) = _
        rw [hq, Option.bind_some, mcont_full hil]
      have e2 : aelemsH s.hs.heap (.sl 1 [.int .i64 d] .exact) = some [.int .i64 d] := rfl
      rw [e1, e2]
      simp only
      rw [if_pos ⟨rfl, rfl, by rw [hil]; simp⟩, if_neg (by simp)]
    generalize hcc : ints (codeL m i) = cells at *
    simp [e9, astoAll, ap, shR]
    rw [hsc, hcc]
end Go.Proofs.YtdcpkgedaflnmaaGreatDoor.Sn
set_option linter.unusedVariables false
set_option linter.unusedSimpArgs false
namespace Go.Proofs.YtdcpkgedaflnmaaGreatDoor.Sn
open Go Fw Se Cq Ct

theorem aeq_ints : ∀ (a b : List Int), a.length = b.length → aeqInts (ints a) (ints b) = some (decide (a = b))
  | [], [], _ => rfl
  | [], _ :: _, h => by simp at h
  | _ :: _, [], h => by simp at h
  | x :: a, y :: b, h => by
    have ih := aeq_ints a b (by simpa using h)
    simp only [ints, List.map_cons, aeqInts, if_true] at ih ⊢
    rw [ih, Option.map_some]
    congr 1
    rw [Bool.eq_iff_iff]
    simp
/-- the codes that were met -/
def metE (T : List (List Int)) (i : Nat) : List (AV × AV) := (List.range i).map fun j => (.agg (ints (codeL T j)), .bool true)
theorem akey_c (T : List (List Int)) (i : Nat) : akey 19 (.agg (ints (codeL T i))) = true := by
  have h := aeq_ints (codeL T i) (codeL T i) rfl
  have hl : (ints (codeL T i)).length = 9 := by rw [ints_len, codeL_len]
  simp [akey, h, hl]
theorem alook_met {T : List (List Int)} (g : GoodT T) {i : Nat} (hi : i < 256) : ∀ (js : List Nat) (k : Nat), (∀ j ∈ js, j < i) → alook 19 (.agg (ints (codeL T i))) (js.map fun j => (.agg (ints (codeL T j)), .bool true)) k = some none
  | [], k, _ => rfl
  | j :: js, k, h => by
    have hj := h j (by simp)
    have hl : (ints (codeL T i)).length = 9 := by rw [ints_len, codeL_len]
    have he : akeq 19 (.agg (ints (codeL T i))) (.agg (ints (codeL T j))) = some false := by
      simp only [akeq, hl]
      rw [if_pos trivial, aeq_ints _ _ (by rw [codeL_len, codeL_len])]
      congr 1
      rw [decide_eq_false_iff_not]
      intro e
      have := codeL_inj g hi (by omega) e
      omega
    simp only [List.map_cons, alook, he]
    exact alook_met g hi js (k + 1) fun j hj => h j (by simp [hj])
theorem look_met {T : List (List Int)} (g : GoodT T) {i p : Nat} (hi : i < 256) {mp : Nat → Option (List (AV × AV))} (h : mp p = some (metE T i)) : amlook 19 false (.bool false) mp (.mp p) (.agg (ints (codeL T i))) = some (.bool false) := by
  unfold amlook
  simp only [aments, h, akey_c]
  unfold metE
  rw [alook_met g hi _ 0 fun j hj => List.mem_range.1 hj]
  rfl
theorem upd_met {T : List (List Int)} (g : GoodT T) {i p : Nat} (hi : i < 256) {hs : HS} (h : hs.mp p = some (metE T i)) : amupd 19 hs (.mp p) (.agg (ints (codeL T i))) (.bool true) = some { hs with mp := fun j => if j = p then some (metE T (i + 1)) else hs.mp j } := by
  unfold amupd
  simp only [h, akey_c]
  have : amput 19 (.agg (ints (codeL T i))) (.bool true) (metE T i) = some (metE T (i + 1)) := by
    unfold amput metE
    rw [alook_met g hi _ 0 fun j hj => List.mem_range.1 hj]
    simp [List.range_succ]
  rw [show (true && (AV.bool true).sto) = true from rfl]
  simp only [this, Option.map_some]
/-- all figures copied at once -/
theorem copy9 {hs : HS} {q : Nat} {zs : List AV} (h : hs.heap q = some zs) (hz : zs.length = 9) {l : List Int} (hl : l.length = 9) : acopy 1 hs (.msl false 1 q 0 9 true) (shR l) = some (.int .i64 9, { hs with heap := fun k => if k = q then some (ints l) else hs.heap k }) := by
  have e1 : aelemsH hs.heap (shR l) = some (ints l) := rfl
  have hil : (ints l).length = 9 := by rw [ints_len, hl]
  have e2 : setL zs 0 (flat ((ints l).take (min (ints l).length 9))) = ints l := by
    rw [List.take_of_length_le (by omega), flat_ints]
    simpa using setL_midB (ints l) zs [] [] (by omega)
  unfold acopy
  rw [e1]
  simp only [h]
  rw [if_pos ⟨trivial, by simp [aszOk, shR], by omega⟩, e2]
  simp [hil]
theorem layout_ok {a b w h : Nat} (h1 : 1 ≤ w) (h2 : w ≤ 12) (h3 : 1 ≤ h) (h4 : h ≤ 12) {ks : List Kd} (hn : (gT ks w h).la ≤ 10) : LGp w h (layF ks (w + h) ⟨0, 0, w, h⟩) ∧ (layF ks (w + h) ⟨0, 0, w, h⟩).length = (gT ks w h).la := by
  have lg := lay_good ks (w + h) ⟨0, 0, w, h⟩ (Nat.le_refl _) h1 h3
  refine ⟨⟨⟨h1, h2, h3, h4, by rw [lg.len]; exact hn, lg.inn, fun i j hi hj => ?_⟩, ⟨lg.pw.imp (fun h => h.2.2), lg.sp, lg.inn, by simpa using h2, by simpa using h4⟩⟩, lg.len⟩
  have := List.pairwise_iff_getElem.1 lg.pw j i (by omega) hi hj
  exact this.2.1
theorem ctxN {T : List (List Int)} (g : GoodT T) {x : AV} (hx : asM x = some T) {C0 : PCtx} (hC0 : CtxOk Tryz.prog C0) : ∃ C, CtxOk Tryz.prog C ∧ (∀ i : Nat, i < 256 → C 22 [x, .int .i64 9, .int .i64 (i : Int)] = some (.tup [shR (codeL T i), .int .i64 0]) ∧ C 23 [x, shR (codeL T i)] = some (.tup [.int .i64 (i : Int), .int .i64 0]) ∧ C 24 [x, shR (codeL T i)] = some (.int .i64 0)) ∧ ∀ k, ¬ k = 22 → ¬ k = 23 → ¬ k = 24 → C k = C0 k := by
  have hsI : ∀ i, asI (shR (codeL T i)) = some (codeL T i) := fun i => asI_sl (by rw [codeL_len]; decide)
  have hinj : ∀ i j : Nat, i < 256 → j < 256 → shR (codeL T i) = shR (codeL T j) → i = j := fun i j hi hj h => by
    have h1 := hsI i
    rw [h, hsI j] at h1
    injection h1 with h1
    exact (codeL_inj g hj hi h1).symm
  obtain ⟨C1, hC1, k22, n1⟩ := ctx_fam hC0 22 (fun i : {i : Nat // i < 256} => [x, .int .i64 9, .int .i64 (i.1 : Int)]) (fun i => .tup [shR (codeL T i.1), .int .i64 0]) (fun i => p22 hx g i.2) (by
    rintro ⟨i, hi⟩ ⟨j, hj⟩ h
    simp only [List.cons.injEq, AV.int.injEq, and_true, true_and] at h
    simp only
    rw [show i = j by omega])
  obtain ⟨C2, hC2, k23, n2⟩ := ctx_fam hC1 23 (fun i : {i : Nat // i < 256} => [x, shR (codeL T i.1)]) (fun i => .tup [.int .i64 (i.1 : Int), .int .i64 0]) (fun i => p23 hx g (hsI i.1) i.2) (by
    rintro ⟨i, hi⟩ ⟨j, hj⟩ h
    simp only [List.cons.injEq, and_true, true_and] at h
    simp only
    rw [hinj i j hi hj h])
  obtain ⟨C3, hC3, k24, n3⟩ := ctx_fam hC2 24 (fun i : {i : Nat // i < 256} => [x, shR (codeL T i.1)]) (fun i => .int .i64 0) (fun i => p24 hx g (hsI i.1) (codeL_bd g i.1) (by rw [codeL_len]; decide) (by rw [codeL_len]; decide) (codeL_right g i.1)) (fun _ _ _ => rfl)
  refine ⟨C3, hC3, fun i hi => ⟨?_, ?_, k24 ⟨i, hi⟩⟩, fun k a b c => by rw [n3 k c, n2 k b, n1 k a]⟩
  · rw [n3 22 (by decide), n2 22 (by decide)]; exact k22 ⟨i, hi⟩
  · rw [n3 23 (by decide)]; exact k23 ⟨i, hi⟩
set_option maxHeartbeats 2000000 in
theorem p6 {x y : AV} {es ms : List Int} (hx : IsU8 x es) (hy : IsU8 y ms) {s0 s1 h0 h1 bs : Nat} (b1 : s0 < 256) (b2 : s1 < 256) (b3 : h0 < 256) (b4 : h1 < 256) (b5 : bs < 256) :
    PCall Tryz.prog 6 [.agg [.int .u8 (s0 : Int), .int .u8 (s1 : Int)], .agg [.int .u8 (h0 : Int), .int .u8 (h1 : Int)], .int .u8 (bs : Int), x, y] (.bool true) := by
  obtain ⟨w, hw⟩ : ∃ w, w = 1 + s0 % 12 := ⟨_, rfl⟩
  obtain ⟨h, hh⟩ : ∃ h, h = 1 + s1 % 12 := ⟨_, rfl⟩
  obtain ⟨a, ha⟩ : ∃ a, a = 1 + h0 % 12 := ⟨_, rfl⟩
  obtain ⟨b, hb⟩ : ∃ b, b = 1 + h1 % 12 := ⟨_, rfl⟩
  have hw1 : 1 ≤ w := by omega
  have hw2 : w ≤ 12 := by omega
  have hh1 : 1 ≤ h := by omega
  have hh2 : h ≤ 12 := by omega
  have ha1 : 1 ≤ a := by omega
  have ha2 : a ≤ 12 := by omega
  have hb1 : 1 ≤ b := by omega
  have hb2 : b ≤ 12 := by omega
  have hK : IsK (.sl 3 [kA ⟨a, b, 1⟩] .exact) [⟨a, b, 1⟩] := isK_sl (ks := [⟨a, b, 1⟩]) (by simp) (by simp) (by simp [Kd.ok]; omega)
  obtain ⟨hone, hla⟩ := one_eq ha1 hb1 (w + h) w h (Nat.le_refl _) hw1 hh1
  obtain ⟨nn, hnn⟩ : ∃ nn, nn = w / a * (h / b) := ⟨_, rfl⟩
  rw [← hnn] at hone hla
  have hnle : nn ≤ 144 := by rw [hnn]; exact Nat.mul_le_mul (Nat.le_trans (Nat.div_le_self _ _) hw2) (Nat.le_trans (Nat.div_le_self _ _) hh2)
  have h12 := Ct.p12 hK hw1 hw2 hh1 hh2
  rw [hone] at h12
  have h19 := p19 hK hw1 hw2 hh1 hh2
  obtain ⟨n, hn⟩ : ∃ n, n = 2 + bs % 5 := ⟨_, rfl⟩
  have hn2 : 2 ≤ n := by omega
  have hn6 : n ≤ 6 := by omega
  have h16 := Se.p12 hx hy (n := n) (by omega) (by omega)
  have hT := tab_good hn2 (by omega) es ms
  have hTi := tab_as (n := n) (by omega) es ms
  obtain ⟨C1, hC1, k12, _⟩ := ctx_pt CtxOk.nil 12 _ _ h12
  obtain ⟨C2, hC2, k19, n2⟩ := ctx_pt hC1 19 _ _ h19
  obtain ⟨C3, hC3, k16, n3⟩ := ctx_pt hC2 16 _ _ h16
  obtain ⟨C4, hC4, k25, n4⟩ := ctx_pt hC3 25 _ _ Ct.p25
  obtain ⟨C5, hC5, kN5, n5⟩ := ctxN hT hTi hC4
  have k12' : C5 12 [.int .i64 (w : Int), .int .i64 (h : Int), .sl 3 [kA ⟨a, b, 1⟩] .exact] = some (.tup [.int .i64 (nn : Int), .int .i64 0]) := by
    rw [n5 12 (by decide) (by decide) (by decide), n4 12 (by decide), n3 12 (by decide), n2 12 (by decide)]; exact k12
  have k19' : C5 19 [.int .i64 (w : Int), .int .i64 (h : Int), .sl 3 [kA ⟨a, b, 1⟩] .exact] = some (layR [⟨a, b, 1⟩] w h) := by
    rw [n5 19 (by decide) (by decide) (by decide), n4 19 (by decide), n3 19 (by decide)]; exact k19
  have k16' : C5 16 [.int .i64 (n : Int), x, y] = some (madV (tabT n es ms)) := by
    rw [n5 16 (by decide) (by decide) (by decide), n4 16 (by decide)]; exact k16
  have k25' : C5 25 [] = some (.bool true) := by rw [n5 25 (by decide) (by decide) (by decide)]; exact k25
  generalize tabT n es ms = T at *
  obtain ⟨C, hC, k12, k19, k16, k25, kN, br⟩ : ∃ C, CtxOk Tryz.prog C ∧ C 12 [.int .i64 (w : Int), .int .i64 (h : Int), .sl 3 [kA ⟨a, b, 1⟩] .exact] = some (.tup [.int .i64 (nn : Int), .int .i64 0]) ∧ C 19 [.int .i64 (w : Int), .int .i64 (h : Int), .sl 3 [kA ⟨a, b, 1⟩] .exact] = some (layR [⟨a, b, 1⟩] w h) ∧ C 16 [.int .i64 (n : Int), x, y] = some (madV T) ∧ C 25 [] = some (.bool true) ∧
      (∀ i : Nat, i < 256 → C 22 [madV T, .int .i64 9, .int .i64 (i : Int)] = some (.tup [shR (codeL T i), .int .i64 0]) ∧ C 23 [madV T, shR (codeL T i)] = some (.tup [.int .i64 (i : Int), .int .i64 0]) ∧ C 24 [madV T, shR (codeL T i)] = some (.int .i64 0)) ∧
      (nn ≤ 10 → ∃ V P, V.leaf = true ∧ layR [⟨a, b, 1⟩] w h = .tup [.agg [.int .i64 (w : Int), .int .i64 (h : Int), V], .int .i64 0] ∧ alenK false V = some (.int .i64 (nn : Int)) ∧ C 20 [.agg [.int .i64 (w : Int), .int .i64 (h : Int), V]] = some (.tup [P, .int .i64 0]) ∧ alenK false P = some (.int .i64 ((nn - 1 : Nat) : Int)) ∧ C 21 [.agg [.int .i64 (w : Int), .int .i64 (h : Int), V], P] = some (.int .i64 0)) := by
    by_cases hc : nn ≤ 10
    · obtain ⟨lok, llen⟩ := layout_ok (a := a) (b := b) hw1 hw2 hh1 hh2 (ks := [⟨a, b, 1⟩]) (by rw [hla]; exact hc)
      rw [hla] at llen
      have hR : layR [⟨a, b, 1⟩] w h = .tup [layV w h (outV 4 ((layF [⟨a, b, 1⟩] (w + h) ⟨0, 0, w, h⟩).map lA)), .int .i64 0] := if_pos (by rw [hla]; exact hc)
      generalize layF [⟨a, b, 1⟩] (w + h) ⟨0, 0, w, h⟩ = ls at *
      have hV : asV 4 (outV 4 (ls.map lA)) = some (ls.map lA) := asV_outV (by simp; omega)
      have hVl := lenV hV
      rw [List.length_map, llen] at hVl
      have hVf : (outV 4 (ls.map lA)).leaf = true := by
        rcases (asV_inv hV).1 with ⟨e, _⟩ | ⟨c, e⟩ <;> rw [e] <;> rfl
      generalize outV 4 (ls.map lA) = V at *
      obtain ⟨plan, q1, q2, q3⟩ := plan_ex lok
      have hPl : plan.length ≤ 1000 := by omega
      have h20 := p20 ⟨hV⟩ lok q1 hPl
      have hP : asV 2 (outV 2 (plan.map cA)) = some (plan.map cA) := asV_outV (by simp; omega)
      have hPn := lenV hP
      rw [List.length_map, q2, llen] at hPn
      generalize outV 2 (plan.map cA) = P at *
      have h21 := p21 ⟨hV⟩ lok hP hPl q3
      obtain ⟨C6, hC6, k20, n6⟩ := ctx_pt hC5 20 _ _ h20
      obtain ⟨C7, hC7, k21, n7⟩ := ctx_pt hC6 21 _ _ h21
      refine ⟨C7, hC7, ?_, ?_, ?_, ?_, fun i hi => ?_, fun _ => ⟨V, P, hVf, hR, hVl, ?_, hPn, k21⟩⟩
      · rw [n7 12 (by decide), n6 12 (by decide)]; exact k12'
      · rw [n7 19 (by decide), n6 19 (by decide)]; exact k19'
      · rw [n7 16 (by decide), n6 16 (by decide)]; exact k16'
      · rw [n7 25 (by decide), n6 25 (by decide)]; exact k25'
      · rw [n7 22 (by decide), n6 22 (by decide), n7 23 (by decide), n6 23 (by decide), n7 24 (by decide), n6 24 (by decide)]; exact kN5 i hi
      · rw [n7 20 (by decide)]; exact k20
    · exact ⟨C5, hC5, k12', k19', k16', k25', kN5, fun h => absurd h hc⟩
  have hRo : ¬ nn ≤ 10 → layR [⟨a, b, 1⟩] w h = .tup [.agg [.int .i64 0, .int .i64 0, .nilsl], .int .i64 16] := fun hc => if_neg (by rw [hla]; exact hc)
  clear kN5 k12' k19' k16' k25' hone hla h12 h19
  generalize layR [⟨a, b, 1⟩] w h = LR at *
  have cv : ∀ z : Nat, z < 256 → IntKind.i64.wrap (z : Int) = (z : Int) := fun z hz => wrap_nat (by omega)
  have r12 : ∀ z : Nat, abin 0 .rem (.int .i64 (z : Int)) (.int .i64 12) = some (.int .i64 ((z % 12 : Nat) : Int)) := fun z => rem64 (b := 12) (by decide)
  have wadd : ∀ z w : Nat, w = 1 + z % 12 → IntKind.i64.wrap (1 + ((z % 12 : Nat) : Int)) = (w : Int) := fun z w e => by rw [wrap64 (by omega) (by omega)]; omega
  have w1 := wadd s0 w hw
  have w2 := wadd s1 h hh
  have w3 := wadd h0 a ha
  have w4 := wadd h1 b hb
  have r1 := r12 s0
  have r2 := r12 s1
  have r3 := r12 h0
  have r4 := r12 h1
  have r5 : abin 0 .rem (.int .i64 (bs : Int)) (.int .i64 5) = some (.int .i64 ((bs % 5 : Nat) : Int)) := rem64 (b := 5) (by decide)
  have w5 : IntKind.i64.wrap (2 + ((bs % 5 : Nat) : Int)) = (n : Int) := by rw [wrap64 (by omega) (by omega)]; omega
  clear wadd r12
  generalize ((s0 % 12 : Nat) : Int) = z0 at *
  generalize ((s1 % 12 : Nat) : Int) = z1 at *
  generalize ((h0 % 12 : Nat) : Int) = z2 at *
  generalize ((h1 % 12 : Nat) : Int) = z3 at *
  generalize ((bs % 5 : Nat) : Int) = z4 at *
  have ixA : ∀ u v : AV, aidxA 2 false 1 (.ptr (.agg [u, v])) (.int .i64 0) = afaddr false 1 0 (.ptr (.agg [u, v])) := fun u v => rfl
  have i00 : ∀ u v : Nat, aidxA 2 false 1 (.ptr (.agg [.int .u8 (u : Int), .int .u8 (v : Int)])) (.int .i64 0) = some (.ptr (.int .u8 (u : Int))) := fun u v => rfl
  have i01 : ∀ u v : Nat, aidxA 2 false 1 (.ptr (.agg [.int .u8 (u : Int), .int .u8 (v : Int)])) (.int .i64 1) = some (.ptr (.int .u8 (v : Int))) := fun u v => rfl
  have sto2 : ∀ u v : Nat, (AV.agg [.int .u8 (u : Int), .int .u8 (v : Int)]).sto = true := fun u v => rfl
  refine PCall.of hC ok6 (by simp) rfl fun hs hb0 => ?_
  simp only [A6, R6]
  rw [At.awp_seq]
  simp [sto2, -At.awp_seq]
  rw [At.awp_seq]
  simp [i00, i01, cv _ b1, cv _ b2, r1, r2, w1, w2, -abin_rem, -At.awp_seq]
  rw [At.awp_seq]
  simp [i00, i01, cv _ b3, cv _ b4, r3, r4, w3, w4, -abin_rem, -At.awp_seq]
  have fK : afill [.int .i64 0, .int .i64 0, .int .i64 0] [(0, 1, .int .i64 (a : Int)), (1, 1, .int .i64 (b : Int)), (2, 1, .int .i64 1)] = some [.int .i64 (a : Int), .int .i64 (b : Int), .int .i64 1] := rfl
  have sK : astoAll 3 [.agg [.int .i64 (a : Int), .int .i64 (b : Int), .int .i64 1]] = true := rfl
  have eK : kA ⟨a, b, 1⟩ = .agg [.int .i64 (a : Int), .int .i64 (b : Int), .int .i64 1] := rfl
  rw [eK] at k12 k19
  rw [At.awp_seq]
  simp [fK, sK, -At.awp_seq]
  generalize AV.sl 3 [.agg [.int .i64 (a : Int), .int .i64 (b : Int), .int .i64 1]] .exact = K at *
  have q1 : abin 0 .quo (.int .i64 (w : Int)) (.int .i64 (a : Int)) = some (.int .i64 ((w / a : Nat) : Int)) := quo64 (by omega) (by omega)
  have q2 : abin 0 .quo (.int .i64 (h : Int)) (.int .i64 (b : Int)) = some (.int .i64 ((h / b : Nat) : Int)) := quo64 (by omega) (by omega)
  have wm : IntKind.i64.wrap (((w / a : Nat) : Int) * ((h / b : Nat) : Int)) = (nn : Int) := by rw [← Int.natCast_mul, hnn]; exact wrap_nat (by omega)
  generalize ((w / a : Nat) : Int) = y1 at *
  generalize ((h / b : Nat) : Int) = y2 at *
  rw [At.awp_seq]
  simp [k12, -At.awp_seq]
  rw [At.awp_seq, At.awp_seq]
  simp [q1, q2, wm, -abin_quo, -At.awp_seq]
  rw [At.awp_seq]
  obtain ⟨c3, e, hLR, hl3, hs3, hc3, hce⟩ : ∃ c3 e, LR = .tup [.agg c3, .int .i64 e] ∧ c3.length = 3 ∧ (AV.agg c3).sto = true ∧ (AV.agg c3).cells = c3 ∧ ((¬ nn ≤ 10 ∧ e = 16) ∨ (nn ≤ 10 ∧ e = 0 ∧ ∃ V P, V.leaf = true ∧ c3 = [.int .i64 (w : Int), .int .i64 (h : Int), V] ∧ alenK false V = some (.int .i64 (nn : Int)) ∧ C 20 [.agg c3] = some (.tup [P, .int .i64 0]) ∧ alenK false P = some (.int .i64 ((nn - 1 : Nat) : Int)) ∧ C 21 [.agg c3, P] = some (.int .i64 0))) := by
    by_cases hc : nn ≤ 10
    · obtain ⟨V, P, hVf, e1, e2, e3, e4, e5⟩ := br hc
      exact ⟨_, _, e1, rfl, by cases V <;> first | rfl | (simp [AV.leaf] at hVf), by cases V <;> first | rfl | (simp [AV.leaf] at hVf), .inr ⟨hc, rfl, V, P, hVf, rfl, e2, e3, e4, e5⟩⟩
    · exact ⟨_, _, hRo hc, rfl, rfl, rfl, .inl ⟨hc, rfl⟩⟩
  have st : astore (fun i => if i = hs.nh then some [.int .i64 0, .int .i64 0, .nilsl] else hs.heap i) 3 (.ref hs.nh 0) (.agg c3) = some _ := sto_agg (ys := [.int .i64 0, .int .i64 0, .nilsl]) (by simp) hs3 hc3 hl3 rfl
  rw [hLR] at k19
  simp [k19, st, -At.awp_seq]
  rw [At.awp_seq]
  refine At.cut (fun s => s.env 2 = .int .u8 (bs : Int) ∧ s.env 3 = x ∧ s.env 4 = y ∧ s.env 16 = .int .i64 (nn : Int)) ?_ ?_
  · generalize hh3 : (fun k => if k = hs.nh then some c3 else if k = hs.nh then some [.int .i64 0, .int .i64 0, .nilsl] else hs.heap k) = g3
    have w9 : g3 hs.nh = some c3 := by rw [← hh3]; simp
    rw [At.awp_seq]
    rcases hce with ⟨hc, rfl⟩ | ⟨hc, rfl, V, P, hVf, hc3e, vl, k20, pl, k21⟩
    · have hc1 : 10 < nn := by omega
      have hc1' : (10 : Int) < (nn : Int) := by omega
      simp [hc1, hc1']
    · have hc1 : ¬ 10 < nn := by omega
      have hc1' : ¬ (10 : Int) < (nn : Int) := by omega
      have l3 : aload g3 true 3 (.ref hs.nh 0) = some (.agg c3) := ld_agg w9 hl3
      have l4 : aload g3 false 1 (.ref hs.nh 2) = some V := ldc w9 (by rw [hc3e]; rfl)
      have wn1 : IntKind.i64.wrap ((nn : Int) - 1) = (nn : Int) - 1 := wrap64 (by omega) (by omega)
      have mx : amax (.int .i64 0) (.int .i64 ((nn : Int) - 1)) = some (.int .i64 ((nn - 1 : Nat) : Int)) := by
        rw [amax_int]; congr 2; omega
      obtain ⟨y3, hy3⟩ : ∃ y3 : Int, y3 = (nn : Int) - 1 := ⟨_, rfl⟩
      rw [← hy3] at mx
      have wn2 : IntKind.i64.wrap ((nn : Int) - 1) = y3 := by rw [hy3]; exact wn1
      clear wn1
      obtain ⟨y4, hy4⟩ : ∃ y4 : Int, y4 = ((nn - 1 : Nat) : Int) := ⟨_, rfl⟩
      rw [← hy4] at mx pl
      simp [hc1, hc1', l3, k20, frr, l4, vl, pl, wn2, mx, k21, -amax_int]
  rintro s ⟨e2, e3, e4, e16⟩
  rw [At.awp_seq]
  simp [e2, e3, e4, cv _ b5, r5, w5, k16, -abin_rem, -At.awp_seq]
  rw [At.awp_seq]
  simp [amem, -At.awp_seq]
  rw [At.awp_seq]
  refine At.cut (fun _ => True) ?_ ?_
  rotate_left
  · rintro s _
    simp [k25]
  rw [At.awp_seq]
  simp [-At.awp_seq]
  refine At.loop (fun (i : Nat) s' => i ≤ nn ∧ s'.env 16 = .int .i64 (nn : Int) ∧ s'.env 22 = madV T ∧ s'.env 23 = .mp s.hs.nh ∧ s'.env 24 = .int .i64 (i : Int) ∧ s'.hs.mp s.hs.nh = some (metE T i)) (fun i => nn - i) 0 ?_ ?_
  · exact ⟨by omega, by simp [e16], by simp, by simp, by simp, by simp [metE]⟩
  generalize s.hs.nh = p
  clear e2 e3 e4 e16 st s
  rintro N i s hN ⟨hi, e16, e22, e23, e24, hmp⟩
  rw [At.awp_seq, At.awp_seq]
  simp [e16, e24, -At.awp_seq]
  refine At.dec (fun hlt => ?_) (fun hlt => ?_)
  rotate_left
  · simp
    try exact At.of trivial
  have hi' : i < nn := by omega
  have hi2 : i < 256 := by omega
  obtain ⟨c22, c23, c24⟩ := kN i hi2
  have hlook := look_met (p := p) hT hi2 (mp := s.hs.mp) hmp
  have hcl : alenK false (shR (codeL T i)) = some (.int .i64 9) := by simp [shR, alenK, ints, codeL_len]
  have hcp : ∀ hs : HS, ∀ q, hs.heap q = some (List.replicate 9 (.int .i64 0)) → acopy 1 hs (.msl false 1 q 0 9 true) (shR (codeL T i)) = some (.int .i64 9, { hs with heap := fun k => if k = q then some (ints (codeL T i)) else hs.heap k }) := fun hs q h => copy9 h (by simp) (codeL_len T i)
  have hil : (ints (codeL T i)).length = 9 := by rw [ints_len, codeL_len]
  have hupd : ∀ hs : HS, hs.mp p = some (metE T i) → amupd 19 hs (.mp p) (.agg (ints (codeL T i))) (.bool true) = some { hs with mp := fun j => if j = p then some (metE T (i + 1)) else hs.mp j } := fun hs h => upd_met hT hi2 h
  generalize shR (codeL T i) = SC at *
  generalize ints (codeL T i) = ci at *
  simp [-At.awp_seq]
  rw [At.awp_seq]
  simp only [At.awp_block]
  rw [At.awp_seq]
  simp [e22, e24, c22, -At.awp_seq]
  rw [At.awp_seq]
  simp [e22, c23, -At.awp_seq]
  rw [At.awp_seq, At.awp_seq]
  simp [hcl, e22, e24, c24, -At.awp_seq]
  rw [At.awp_seq]
  simp [-At.awp_seq]
  have hasl : ∀ (hs : HS) (q : Nat), amem (.asl false 1 9 false false) hs [.ref q 0] = some (.msl false 1 q 0 9 true, hs) := fun _ _ => rfl
  have hcopy : amem (.copy 1) ⟨fun i => if i = s.hs.nh then some [.int .i64 0, .int .i64 0, .int .i64 0, .int .i64 0, .int .i64 0, .int .i64 0, .int .i64 0, .int .i64 0, .int .i64 0] else s.hs.heap i, s.hs.nh + 1, s.hs.nt, s.hs.tok, s.hs.mp⟩ [.msl false 1 s.hs.nh 0 9 true, SC] = some (.int .i64 9, ⟨fun k => if k = s.hs.nh then some ci else if k = s.hs.nh then some [.int .i64 0, .int .i64 0, .int .i64 0, .int .i64 0, .int .i64 0, .int .i64 0, .int .i64 0, .int .i64 0, .int .i64 0] else s.hs.heap k, s.hs.nh + 1, s.hs.nt, s.hs.tok, s.hs.mp⟩) := hcp _ _ (by simp)
  have ld9 : aload (fun k => if k = s.hs.nh then some ci else if k = s.hs.nh then some [.int .i64 0, .int .i64 0, .int .i64 0, .int .i64 0, .int .i64 0, .int .i64 0, .int .i64 0, .int .i64 0, .int .i64 0] else s.hs.heap k) true 9 (.ref s.hs.nh 0) = some (.agg ci) := ld_agg (by simp) hil
  have hlk : ∀ hp nh nt tok, amem (.look 19 false (.bool false)) ⟨hp, nh, nt, tok, s.hs.mp⟩ [.mp p, .agg ci] = some (.bool false, ⟨hp, nh, nt, tok, s.hs.mp⟩) := fun hp nh nt tok => by
    show (amlook 19 false (.bool false) s.hs.mp (.mp p) (.agg ci)).map _ = _
    rw [hlook]; rfl
  have hup : ∀ hp nh nt tok, amem (.mupd 19) ⟨hp, nh, nt, tok, s.hs.mp⟩ [.mp p, .agg ci, .bool true] = some (.undef, ⟨hp, nh, nt, tok, fun j => if j = p then some (metE T (i + 1)) else s.hs.mp j⟩) := fun hp nh nt tok => by
    show (amupd 19 ⟨hp, nh, nt, tok, s.hs.mp⟩ (.mp p) (.agg ci) (.bool true)).map _ = _
    rw [hupd ⟨hp, nh, nt, tok, s.hs.mp⟩ hmp]; rfl
  rw [At.awp_seq]
  simp [hasl, hcopy, -At.awp_seq]
  rw [At.awp_seq, At.awp_seq]
  simp [e23, ld9, hlk, -At.awp_seq]
  simp [e23, ld9, hup, e24]
  exact hN (i + 1) _ (by omega) ⟨by omega, by simp [e16], by simp [e22], by simp [e23], by simp [wrap_nat1 (show i < _ by omega)], by simp⟩
end Go.Proofs.YtdcpkgedaflnmaaGreatDoor.Sn
set_option linter.unusedVariables false
set_option linter.unusedSimpArgs false
namespace Go.Proofs.YtdcpkgedaflnmaaGreatDoor
open Go Fw

theorem u8n {n : Int} (h : (Lit.int .u8 n).wf = true) : ∃ k : Nat, k < 256 ∧ n = (k : Int) := by
  have := u8_bd h
  exact ⟨n.toNat, by omega, by omega⟩
theorem ar2 {x : AV} (h : ShV (.ar 2 (.int .u8)) x) : ∃ a b : Nat, a < 256 ∧ b < 256 ∧ x = .agg [.int .u8 (a : Int), .int .u8 (b : Int)] := by
  obtain ⟨cs, rfl, hs⟩ := shv_agg (T := .ar 2 (.int .u8)) rfl h
  obtain ⟨ls, h1, h2, h3⟩ : ∃ ls : List (List AV), cs = ls.flatten ∧ ls.length = 2 ∧ ∀ l ∈ ls, Sh (.int .u8) l := hs
  match ls, h2 with
  | [p, q], _ =>
    obtain ⟨a, rfl, ha⟩ := sh_int (h3 p (by simp))
    obtain ⟨b, rfl, hb⟩ := sh_int (h3 q (by simp))
    obtain ⟨m, h5, rfl⟩ := u8n ha
    obtain ⟨n, h6, rfl⟩ := u8n hb
    exact ⟨m, n, h5, h6, by rw [h1]; rfl⟩
theorem numbered_typed (xs : List AV) (h : Typed [.ar 2 (.int .u8), .ar 2 (.int .u8), .int .u8, .sl (.int .u8), .sl (.int .u8)] xs) : PCall Tryz.prog 6 xs (.bool true) := by
  obtain ⟨a, b, c, d, e, rfl, ha, hb, hc, hd, he⟩ := h.five
  obtain ⟨s0, s1, h1, h2, rfl⟩ := ar2 ha
  obtain ⟨t0, t1, h3, h4, rfl⟩ := ar2 hb
  obtain ⟨m, hm, rfl⟩ := Se.u8_nat hc
  obtain ⟨es, hes⟩ := Se.IsU8.of hd
  obtain ⟨ms, hms⟩ := Se.IsU8.of he
  exact Sn.p6 hes hms h1 h2 h3 h4 hm
end Go.Proofs.YtdcpkgedaflnmaaGreatDoor
