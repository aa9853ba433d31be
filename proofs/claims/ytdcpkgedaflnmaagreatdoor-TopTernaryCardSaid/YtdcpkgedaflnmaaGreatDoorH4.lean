/-
  Digits of numbers; codes: plain. Own work.
  Numbers with a check digit: the walks. Own work.
-/
import Derived.Test.YtdcpkgedaflnmaaGreatDoorG5
import Derived.Test.YtdcpkgedaflnmaaGreatDoorFx3
import Derived.Test.YtdcpkgedaflnmaaGreatDoorC3
import Derived.Test.YtdcpkgedaflnmaaGreatDoorFx5
set_option linter.unusedVariables false
set_option linter.unusedSimpArgs false
namespace Go.Proofs.YtdcpkgedaflnmaaGreatDoor.Sn
open Go Fw Se

/-- so many low digits of a number, the greatest place first -/
def dgs (n : Nat) : Nat → Nat → List Int
  | 0, _ => []
  | L + 1, m => dgs n L (m / n) ++ [((m % n : Nat) : Int)]
theorem dgs_len (n : Nat) : ∀ L m, (dgs n L m).length = L
  | 0, _ => rfl
  | L + 1, m => by rw [dgs, List.length_append, dgs_len n L]; rfl
theorem dgs_cons (n : Nat) : ∀ L m, dgs n (L + 1) m = ((m / n ^ L % n : Nat) : Int) :: dgs n L m
  | 0, m => by simp [dgs]
  | L + 1, m => by
    rw [dgs, dgs_cons n L (m / n), List.cons_append]
    congr 1
    rw [Nat.div_div_eq_div_mul, Nat.pow_succ, Nat.mul_comm n]
theorem dgs_bd {n : Nat} (hn : 0 < n) : ∀ L m, ∀ a ∈ dgs n L m, 0 ≤ a ∧ a < n
  | 0, m, a, h => by cases h
  | L + 1, m, a, h => by
    rw [dgs] at h
    rcases List.mem_append.1 h with h | h
    · exact dgs_bd hn L (m / n) a h
    · rw [List.mem_singleton.1 h]
      have := Nat.mod_lt m hn
      omega
def valL (n : Nat) (l : List Int) : Int := l.foldl (fun a d => a * n + d) 0
theorem dgs_val {n : Nat} (hn : 0 < n) : ∀ L m, m < n ^ L → valL n (dgs n L m) = (m : Int)
  | 0, m, h => by
    have : m = 0 := by simpa using h
    subst this; rfl
  | L + 1, m, h => by
    have h1 : m / n < n ^ L := Nat.div_lt_of_lt_mul (by rw [Nat.pow_succ, Nat.mul_comm] at h; exact h)
    have ih := dgs_val hn L (m / n) h1
    unfold valL at ih ⊢
    rw [dgs, List.foldl_append, ih]
    simp only [List.foldl_cons, List.foldl_nil]
    have := Nat.div_add_mod m n
    rw [Nat.mul_comm] at this
    exact_mod_cast this
theorem fst_ex {f : Nat → Bool} : ∀ (n i : Nat), (∃ j, i ≤ j ∧ j < i + n ∧ f j = true) → ∃ d, i ≤ d ∧ d < i + n ∧ f d = true ∧ fstF f n i = (d : Int)
  | 0, i, ⟨j, h1, h2, _⟩ => by omega
  | n + 1, i, ⟨j, h1, h2, h3⟩ => by
    rw [fstF]
    by_cases h : f i = true
    · rw [if_pos h]; exact ⟨i, Nat.le_refl _, by omega, h, rfl⟩
    · rw [if_neg h]
      have hij : i ≠ j := fun e => h (by rw [e]; exact h3)
      obtain ⟨d, g1, g2, g3, g4⟩ := fst_ex n (i + 1) ⟨j, by omega, by omega, h3⟩
      exact ⟨d, by omega, by omega, g3, g4⟩
/-- each state has a digit that leads to 0 -/
theorem zero_ex {m : List (List Int)} (g : GoodT m) {s : Nat} (hs : s < m.length) : ∃ d, d < m.length ∧ mI m s d = 0 := by
  by_cases h : ∃ d, d < m.length ∧ mI m s d = 0
  · exact h
  · exfalso
    have hn := g.n2
    have hpos : ∀ d, d < m.length → 1 ≤ mI m s d := fun d hd => by
      have h1 := g.ent s d hs hd
      have : mI m s d ≠ 0 := fun e => h ⟨d, hd, e⟩
      omega
    have hnd : ((List.range m.length).map fun d => (mI m s d).toNat - 1).Nodup := by
      refine List.pairwise_map.2 ?_
      refine List.Pairwise.imp_of_mem ?_ List.nodup_range
      intro a b ha hb hab e
      have ha := List.mem_range.1 ha
      have hb := List.mem_range.1 hb
      have h1 := hpos a ha
      have h2 := hpos b hb
      exact hab (g.rin s a b hs ha hb (by omega))
    have := nodup_le (n := m.length - 1) hnd (fun i hi => by
      obtain ⟨d, hd, rfl⟩ := List.mem_map.1 hi
      have hd := List.mem_range.1 hd
      have h1 := hpos d hd
      have h2 := g.ent s d hs hd
      omega)
    simp at this
    omega
/-- the digit that leads to 0 -/
def zD (m : List (List Int)) (s : Nat) : Int := fstF (fun j => decide (mI m s j = 0)) m.length 0
theorem zD_spec {m : List (List Int)} (g : GoodT m) {s : Nat} (hs : s < m.length) : 0 ≤ zD m s ∧ zD m s < m.length ∧ mI m s (zD m s).toNat = 0 := by
  obtain ⟨d, h1, h2⟩ := zero_ex g hs
  obtain ⟨e, _, e2, e3, e4⟩ := fst_ex (f := fun j => decide (mI m s j = 0)) m.length 0 ⟨d, by omega, by omega, by simpa using h2⟩
  unfold zD
  rw [e4]
  refine ⟨by omega, by omega, ?_⟩
  simpa using e3
end Go.Proofs.YtdcpkgedaflnmaaGreatDoor.Sn
set_option linter.unusedVariables false
set_option linter.unusedSimpArgs false
namespace Go.Proofs.YtdcpkgedaflnmaaGreatDoor.Sn
open Go Fw Se

theorem p115 {x : AV} {l : List Int} (hx : asI x = some l) (v : Int) : PCall Tryz.prog 115 [x, .int .i64 v] (.int .i64 (fstF (fun j => decide (gI l j = v)) l.length 0)) := by
  have hl := asI_len hx
  refine PCall.of CtxOk.nil ok115 (by simp) rfl fun hs hb => ?_
  simp [A115, R115, alen_of hx]
  refine At.loop (fun (i : Nat) s => i ≤ l.length ∧ fstF (fun j => decide (gI l j = v)) l.length 0 = fstF (fun j => decide (gI l j = v)) (l.length - i) i ∧ s.env 0 = x ∧ s.env 1 = .int .i64 v ∧ s.env 7 = .int .i64 (l.length : Int) ∧ s.env 8 = .int .i64 (i : Int)) (fun i => l.length - i) 0 ?_ ?_
  · simp
  rintro N i s hN ⟨hi, hf, e0, e1, e7, e8⟩
  simp [e7, e8]
  refine At.dec (fun hlt => ?_) (fun hlt => ?_)
  rotate_left
  · have : i = l.length := by omega
    subst this
    simp [hf, fstF]
  have hi' : i < l.length := by omega
  have ix := idx_g hx (k := .i64) hi'
  rw [show l.length - i = (l.length - (i + 1)) + 1 by omega, fstF] at hf
  by_cases h : gI l i = v
  · rw [if_pos (by simpa using h)] at hf
    simp [e0, e1, e8, ix, h, hf]
  · rw [if_neg (by simpa using h)] at hf
    have h' : ¬ v = gI l i := fun e => h e.symm
    simp [e0, e1, e8, ix, h, h']
    exact hN (i + 1) _ (by omega) ⟨by omega, hf, by simp [e0], by simp [e1], by simp [e7], by simp [wrap_nat1 (show i < _ by omega)]⟩
theorem p59 {x : AV} {m : List (List Int)} (hx : asM x = some m) (g : GoodT m) {z : AV} {l : List Int} (hz : asI z = some l) (hl : ∀ a ∈ l, 0 ≤ a ∧ a < m.length) (h12 : l.length ≤ 12) : PCall Tryz.prog 59 [x, z] (.tup [.int .i64 (zD m (aft m l 0).toNat), .int .i64 0]) := by
  have hn := g.n2
  obtain ⟨R, hM⟩ := asM.isM hx
  have hb := aft_bd g (l := l) (s := 0) hl ⟨by omega, by omega⟩
  obtain ⟨a, ha⟩ : ∃ a : Nat, aft m l 0 = (a : Int) := ⟨(aft m l 0).toNat, by omega⟩
  have ham : a < m.length := by omega
  have h15 := p15 hx g hz hl h12
  rw [ha] at h15
  have hrow := rowI_ne (hM.row a ham) (by have := g.row a ham; omega)
  obtain ⟨C1, hC1, k17, _⟩ := ctx_pt CtxOk.nil 17 _ _ h15
  obtain ⟨C, hC, k115, n⟩ := ctx_pt hC1 115 _ _ (p115 hrow 0)
  have k17' : C 17 [x, z] = some (.tup [.int .i64 (a : Int), .int .i64 0]) := by rw [n 17 (by decide)]; exact k17
  have hzd : fstF (fun j => decide (gI m[a] j = 0)) m[a].length 0 = zD m a := by
    unfold zD
    rw [g.row a ham]
    congr 1
    funext j
    simp [mI, gI, ham]
  rw [hzd] at k115
  rw [ha]
  have g1 := hM.get (k := .i64) ham
  have l1 := hM.ld ham
  refine PCall.of hC ok59 (by simp) rfl fun hs hb => ?_
  simp [A59, R59, k17', g1, l1, k115]
theorem p62 {x : AV} {m : List (List Int)} (hx : asM x = some m) (g : GoodT m) {z : AV} {l : List Int} (hz : asI z = some l) (hl : ∀ a ∈ l, 0 ≤ a ∧ a < m.length) (h2 : 2 ≤ l.length) (h12 : l.length ≤ 12) : PCall Tryz.prog 62 [x, z] (.int .i64 0) := by
  obtain ⟨C1, hC1, k57, _⟩ := ctx_pt CtxOk.nil 57 _ _ (p69 hx g)
  obtain ⟨C, hC, k50, n⟩ := ctx_pt hC1 50 _ _ (p38 hx g hz hl h12)
  have k57' : C 57 [x] = some (.int .i64 0) := by rw [n 57 (by decide)]; exact k57
  have hl2 : ¬ l.length < 2 := by omega
  have hl2' : ¬ (l.length : Int) < 2 := by omega
  refine PCall.of hC ok62 (by simp) rfl fun hs hb => ?_
  simp [A62, R62, k57', k50, alen_of hz, hl2, hl2']
theorem p24 {x : AV} {m : List (List Int)} (hx : asM x = some m) (g : GoodT m) {z : AV} {l : List Int} (hz : asI z = some l) (hl : ∀ a ∈ l, 0 ≤ a ∧ a < m.length) (h2 : 2 ≤ l.length) (h12 : l.length ≤ 12) (h0 : aft m l 0 = 0) : PCall Tryz.prog 24 [x, z] (.int .i64 0) := by
  have hn := g.n2
  have h39 := p39 hx g hz hl (s := 0) ⟨by omega, by omega⟩
  rw [h0] at h39
  obtain ⟨C1, hC1, k62, _⟩ := ctx_pt CtxOk.nil 62 _ _ (p62 hx g hz hl h2 h12)
  obtain ⟨C, hC, k51, n⟩ := ctx_pt hC1 51 _ _ h39
  have k62' : C 62 [x, z] = some (.int .i64 0) := by rw [n 62 (by decide)]; exact k62
  refine PCall.of hC ok24 (by simp) rfl fun hs hb => ?_
  simp [A24, R24, k62', k51]
theorem p61 {x : AV} {m : List (List Int)} (hx : asM x = some m) (g : GoodT m) {a d : Int} (ha : 0 ≤ a ∧ a < 10000000000) (hd : 0 ≤ d ∧ d < 100) : PCall Tryz.prog 61 [.int .i64 a, .int .i64 d, .ptr x] (.int .i64 (a * m.length + d)) := by
  obtain ⟨R, hM⟩ := asM.isM hx
  have hn := g.n10
  have l0 := leaf_ld hM.leaf
  have hlen := hM.len
  have hp : a * (m.length : Int) ≤ 10000000000 * 10 := Int.mul_le_mul (by omega) (by omega) (by omega) (by omega)
  have hp0 : 0 ≤ a * (m.length : Int) := Int.mul_nonneg (by omega) (by omega)
  have w1 : IntKind.i64.wrap (a * (m.length : Int)) = a * (m.length : Int) := wrap64 (by omega) (by omega)
  have w2 : IntKind.i64.wrap (a * (m.length : Int) + d) = a * (m.length : Int) + d := wrap64 (by omega) (by omega)
  refine PCall.of CtxOk.nil ok61 (by simp) rfl fun hs hb => ?_
  simp [A61, R61, l0, hlen, w1, w2]
theorem step_bd {a d P n : Int} (h1 : 0 ≤ a) (h2 : a < P) (h3 : 0 ≤ d) (h4 : d < n) (h5 : n ≤ 10) : 0 ≤ a * n + d ∧ a * n + d < P * 10 := by
  have e1 : 0 ≤ a * n := Int.mul_nonneg h1 (by omega)
  have e2 : a * n ≤ (P - 1) * n := Int.mul_le_mul_of_nonneg_right (by omega) (by omega)
  have e3 : (P - 1) * n ≤ (P - 1) * 10 := Int.mul_le_mul_of_nonneg_left h5 (by omega)
  omega
theorem valL_bd {n : Nat} (hn : n ≤ 10) : ∀ (l : List Int), (∀ a ∈ l, 0 ≤ a ∧ a < n) → 0 ≤ valL n l ∧ valL n l < 10 ^ l.length := by
  intro l
  have key : ∀ (l : List Int) (k : Nat) (a : Int), (∀ a ∈ l, 0 ≤ a ∧ a < n) → 0 ≤ a ∧ a < 10 ^ k → 0 ≤ l.foldl (fun (a d : Int) => a * (n : Int) + d) a ∧ l.foldl (fun (a d : Int) => a * (n : Int) + d) a < 10 ^ (k + l.length) := by
    intro l
    induction l with
    | nil => intro k a _ h; exact h
    | cons d l ih =>
      intro k a hl h
      have hd := hl d (by simp)
      have hsb := step_bd (P := 10 ^ k) h.1 h.2 hd.1 hd.2 (by omega)
      rw [← Int.pow_succ] at hsb
      have := ih (k + 1) (a * n + d) (fun b hb => hl b (by simp [hb])) hsb
      simp only [List.foldl_cons, List.length_cons]
      rw [show k + (l.length + 1) = k + 1 + l.length by omega]
      exact this
  intro hl
  have := key l 0 0 hl ⟨by omega, by decide⟩
  simpa [valL] using this
theorem p60 {x : AV} {m : List (List Int)} (hx : asM x = some m) (g : GoodT m) {z : AV} {l : List Int} (hz : asI z = some l) (hl : ∀ a ∈ l, 0 ≤ a ∧ a < m.length) (h8 : l.length ≤ 8) : PCall Tryz.prog 60 [.int .i64 0, z, .fn (.func 61) [] [.ptr x]] (.int .i64 (valL m.length l)) := by
  have hll := asI_len hz
  have hn := g.n10
  refine PCall.of CtxOk.nil ok60 (by simp) rfl fun hs0 hb => ?_
  simp [A60, R60, alen_of hz]
  refine At.loop (fun (i : Nat) t => i ≤ l.length ∧ t.env 0 = .int .i64 (valL m.length (l.take i)) ∧ t.env 2 = .fn (.func 61) [] [.ptr x] ∧ t.env 9 = z ∧ t.env 10 = .int .i64 (l.length : Int) ∧ t.env 11 = .int .i64 (i : Int)) (fun i => l.length - i) 0 ?_ ?_
  · simp [valL]
  rintro N i t hN ⟨hi, e0, e2, e9, e10, e11⟩
  simp [e10, e11]
  refine At.dec (fun hlt => ?_) (fun hlt => ?_)
  rotate_left
  · have : i = l.length := by omega
    subst this
    simp [e0]
  have hi' : i < l.length := by omega
  have hb1 := valL_bd hn (l.take i) (fun a ha => hl a (List.mem_of_mem_take ha))
  have hpow : (10 : Int) ^ (l.take i).length ≤ 10 ^ 8 := by
    have : (10 : Nat) ^ (l.take i).length ≤ 10 ^ 8 := Nat.pow_le_pow_right (by decide) (by rw [List.length_take]; omega)
    exact_mod_cast this
  have hd := hl l[i] (List.getElem_mem hi')
  have hc := p61 hx g (a := valL m.length (l.take i)) (d := l[i]) ⟨hb1.1, by omega⟩ ⟨hd.1, by omega⟩
  have hs2 : valL m.length (l.take (i + 1)) = valL m.length (l.take i) * m.length + l[i] := by
    rw [take_snoc hi']
    unfold valL
    rw [List.foldl_append]; rfl
  rw [← hs2] at hc
  simp [e0, e2, e9, e11, aidx_nat hz hi']
  refine At.hp hc ?_
  simp [e11]
  exact hN (i + 1) _ (by omega) ⟨by omega, by simp, by simp [e2], by simp [e9], by simp [e10], by simp [wrap_nat1 (show i < _ by omega)]⟩
end Go.Proofs.YtdcpkgedaflnmaaGreatDoor.Sn
