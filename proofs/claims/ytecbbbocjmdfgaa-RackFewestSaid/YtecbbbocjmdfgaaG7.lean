/-
  What no motion parts; Verify by numbers. Own work.
  The law of motions that are kept. Own work.
-/
import Derived.Test.YtecbbbocjmdfgaaG6
set_option linter.unusedVariables false
set_option linter.unusedSimpArgs false
namespace Go.Proofs.Ytecbbbocjmdfgaa
open Go Fw

/-- two places differ in a list -/
def pdB (n : Nat) (L : List Nat) (a b : Nat) : Bool := decide (a < n) && (decide (b < n) && decide (L.getD a 0 ≠ L.getD b 0))
def prK (R : Rk) (k a b : Nat) : Bool := (List.range k).any fun j => kpB R (nts (dg 2 (nR R) j)) (-1) && pdB (nR R) (dg 2 (nR R) j) a b
theorem prK_succ {R : Rk} {k a b : Nat} : prK R (k + 1) a b = (prK R k a b || (kpB R (nts (dg 2 (nR R) k)) (-1) && pdB (nR R) (dg 2 (nR R) k) a b)) := by
  unfold prK
  rw [List.range_succ, List.any_append]; simp only [List.any_cons, List.any_nil, Bool.or_false]
theorem nts_get {L : List Nat} {x : Nat} : (nts L).getD x 0 = (L.getD x 0 : Int) := by
  rw [List.getD_eq_getElem?_getD, List.getD_eq_getElem?_getD, nts, List.getElem?_map]
  cases L[x]? <;> rfl
theorem kp_ind {R : Rk} (hok : OkR R) (w : Int) (x : Nat) : kpB R (nts (indL (Ew R w) x (nR R))) w = true := by
  rw [kp_up hok]
  intro a b e
  obtain ⟨ha, hb⟩ := Ew_lt hok e
  rw [indL_get ha, indL_get hb]
  by_cases h1 : Rt (Ew R w) x a
  · rw [if_pos h1, if_pos (h1.tail e)]; omega
  · rw [if_neg h1]; split <;> omega
theorem pr_law {R : Rk} (hok : OkR R) {a b : Nat} (ha : a < nR R) (hb : b < nR R) : prK R (2 ^ nR R) a b = !bothM (rcR R) a b := by
  have hE : ∀ x y, Rt (Ew R (-1)) x y ↔ Rt (Ed R) x y := fun x y => rt_congr fun x y => arrow_all.symm
  have hbo := both_iff hok ha hb
  have main : prK R (2 ^ nR R) a b = true ↔ ¬ Both R a b := by
    unfold prK
    rw [List.any_eq_true]
    constructor
    · rintro ⟨j, hj, h⟩ ⟨h1, h2⟩
      simp only [pdB, Bool.and_eq_true, decide_eq_true_eq] at h
      obtain ⟨hk, _, _, hne⟩ := h
      rw [kp_up hok] at hk
      have g1 := up_rt (g := fun x => (nts (dg 2 (nR R) j)).getD x 0) hk ((hE a b).2 h1)
      have g2 := up_rt (g := fun x => (nts (dg 2 (nR R) j)).getD x 0) hk ((hE b a).2 h2)
      simp only [nts_get] at g1 g2
      omega
    · intro h
      have hd : ∀ x d, d ∈ indL (Ew R (-1)) x (nR R) → d < 2 := by
        intro x d hd
        simp only [indL, List.mem_map] at hd
        obtain ⟨i, _, rfl⟩ := hd
        split <;> omega
      have key : ∀ x y, x < nR R → y < nR R → ¬ Rt (Ed R) x y → ∃ j, j < 2 ^ nR R ∧ kpB R (nts (dg 2 (nR R) j)) (-1) = true ∧ (dg 2 (nR R) j).getD x 0 = 1 ∧ (dg 2 (nR R) j).getD y 0 = 0 := by
        intro x y hx hy hno
        obtain ⟨j, hj, hdj⟩ := dg_all (base := 2) (by decide) (n := nR R) (indL (Ew R (-1)) x (nR R)) (by simp [indL]) (hd x)
        refine ⟨j, hj, by rw [hdj]; exact kp_ind hok (-1) x, ?_, ?_⟩
        · have := indL_get (E := Ew R (-1)) (x := x) hx
          rw [if_pos (Rt.refl x), nts_get] at this
          rw [hdj]; omega
        · have := indL_get (E := Ew R (-1)) (x := x) hy
          rw [if_neg (fun k => hno ((hE x y).1 k)), nts_get] at this
          rw [hdj]; omega
      by_cases h1 : Rt (Ed R) a b
      · obtain ⟨j, hj, k1, k2, k3⟩ := key b a hb ha (fun k => h ⟨h1, k⟩)
        refine ⟨j, by simpa using hj, ?_⟩
        simp only [pdB, k1, k2, k3, Bool.true_and, Bool.and_eq_true, decide_eq_true_eq]
        exact ⟨ha, hb, by decide⟩
      · obtain ⟨j, hj, k1, k2, k3⟩ := key a b ha hb h1
        refine ⟨j, by simpa using hj, ?_⟩
        simp only [pdB, k1, k2, k3, Bool.true_and, Bool.and_eq_true, decide_eq_true_eq]
        exact ⟨ha, hb, by decide⟩
  rw [Bool.eq_iff_iff, main, ← hbo]
  cases bothM (rcR R) a b <;> simp
theorem vf_law {R : Rk} (hok : OkR R) (hchk : chkR R = 0) {l : List Int} (hl : l.length = nR R) (hin : l.all inT = true) :
    vfR R (l.take R.r.toNat) (l.drop R.r.toNat) = if allEq l = true then 20 else if kpB R l (-1) = true then 0 else 13 := by
  have hr1 := hok.r1
  have hc1 := hok.c1
  have hnn : nR R = R.r.toNat + R.c.toNat := rfl
  unfold vfR
  rw [if_pos hchk, if_pos ⟨by rw [List.length_take]; omega, by rw [List.length_drop]; omega⟩, List.take_append_drop, if_pos hin]
  by_cases ha : allEq l = true
  · rw [if_pos ha, if_pos ha]
  · rw [if_neg ha, if_neg ha]
    have hb : R.b.any (brk (l.take R.r.toNat) (l.drop R.r.toNat)) = !kpB R l (-1) := by
      have hbr : ∀ b ∈ R.b, brk (l.take R.r.toNat) (l.drop R.r.toNat) b = !okK b (l.getD b.1.toNat 0) (l.getD (R.r.toNat + b.2.1.toNat) 0) := by
        intro b hbm
        obtain ⟨k1, k2, k3, k4, k5, k6⟩ := hok.b b hbm
        have e1 : (l.take R.r.toNat).getD b.1.toNat 0 = l.getD b.1.toNat 0 := by
          rw [List.getD_eq_getElem?_getD, List.getD_eq_getElem?_getD, List.getElem?_take, if_pos (by omega)]
        have e2 : (l.drop R.r.toNat).getD b.2.1.toNat 0 = l.getD (R.r.toNat + b.2.1.toNat) 0 := by
          rw [List.getD_eq_getElem?_getD, List.getD_eq_getElem?_getD, List.getElem?_drop]
        unfold brk
        rw [e1, e2]
        have ho := okK_iff (b := b) (u := l.getD b.1.toNat 0) (w := l.getD (R.r.toNat + b.2.1.toNat) 0) k5 k6
        generalize l.getD b.1.toNat 0 = u at *
        generalize l.getD (R.r.toNat + b.2.1.toNat) 0 = w at *
        rw [Bool.eq_iff_iff, Bool.not_eq_true', ← Bool.not_eq_true, ho]
        simp only [Bool.or_eq_true, Bool.and_eq_true, decide_eq_true_eq]
        constructor
        · rintro (⟨h1, h2⟩ | ⟨h1, h2⟩) ⟨g1, g2⟩
          · have := g1 h1; omega
          · have := g2 h1; omega
        · intro h
          by_cases q1 : b.2.2 ≠ 2 ∧ w < u
          · exact .inl q1
          · by_cases q2 : b.2.2 ≠ 1 ∧ u < w
            · exact .inr q2
            · exact absurd ⟨fun g => by have : ¬ w < u := fun z => q1 ⟨g, z⟩; omega, fun g => by have : ¬ u < w := fun z => q2 ⟨g, z⟩; omega⟩ h
      rw [Bool.eq_iff_iff, List.any_eq_true, Bool.not_eq_true', ← Bool.not_eq_true, kp_iff]
      constructor
      · rintro ⟨b, hbm, h⟩ hall
        obtain ⟨i, hi, rfl⟩ := List.getElem_of_mem hbm
        rw [hbr _ hbm, hall i hi (by omega)] at h; cases h
      · intro h
        apply Classical.byContradiction
        intro hno
        apply h
        intro i hi _
        apply Classical.byContradiction
        intro hf
        refine hno ⟨R.b[i], List.getElem_mem hi, ?_⟩
        rw [hbr _ (List.getElem_mem hi)]
        rw [Bool.not_eq_true] at hf
        rw [hf]; rfl
    rw [hb]
    cases kpB R l (-1) <;> simp
/-! the walk of the lists -/
theorem lm39 {hs : HS} {q n : Nat} {L : List Nat} {x : AV} {R : Rk} (hx : asR x = some R) (hok : OkR R) (hh : hs.heap q = some (lsV L)) (hl : L.length = n) (hn : n = nR R) (but : Int) : alcall D27 39 hs [x, .msl false 1 q 0 n true, .int .i64 but] = some (.bool (kpB R (nts L) but)) := by
  have h6 := hok.r6
  have h7 := hok.c6
  have hnn : nR R = R.r.toNat + R.c.toNat := rfl
  unfold alcall
  simp only [List.map_cons, List.map_nil, frz_ls hh hl, frz_rk hx, frz_int, D27_39, SKp_i hx (asI_ls (L := L) (by omega)) hok (by simp; omega) but]
  rfl
def rl6 (P : Nat → Nat → Bool) : List AV := rowL 36 fun t => P (t / 6) (t % 6)
theorem rl6_set {P : Nat → Nat → Bool} {a b : Nat} (hb : b < 6) {v : Bool} : (rl6 P).set (a * 6 + b) (.bool v) = rl6 fun x y => if x = a ∧ y = b then v else P x y := by
  rw [rl6, rowL_set, rl6]
  congr 1
  funext t
  by_cases h : t = a * 6 + b
  · rw [if_pos h, if_pos ⟨by omega, by omega⟩]
  · rw [if_neg h, if_neg (fun g => h (by omega))]
theorem p42 {rq q g k n : Nat} {hs : HS} {R : Rk} {y0 : AV} (hy : asB y0 = some R.b) (hok : OkR R) (hn : n = nR R) (hn6 : n ≤ 6) (hr : hs.heap rq = some [.int .i64 R.r, .int .i64 R.c, y0]) (hh : hs.heap q = some (lsV (dg 2 n k))) (hg : hs.heap g = some (rl6 (prK R k))) (hne : g ≠ q) :
    FCall Try.prog 42 [.msl false 1 q 0 n true, .ref rq 0, .ref g 0] hs fun e hs' => e = .ret (.tup []) ∧ hs'.heap g = some (rl6 (prK R (k + 1))) ∧ (∀ i, i ≠ g → hs'.heap i = hs.heap i) ∧ hs'.nh = hs.nh := by
  have hsuc : rl6 (prK R (k + 1)) = rl6 fun x y => prK R k x y || (kpB R (nts (dg 2 n k)) (-1) && pdB n (dg 2 n k) x y) := by
    have : prK R (k + 1) = fun x y => prK R k x y || (kpB R (nts (dg 2 n k)) (-1) && pdB n (dg 2 n k) x y) := by
      funext x y; rw [prK_succ, hn]
    rw [this]
  have hLl : (dg 2 n k).length = n := dg_len
  generalize dg 2 n k = L at *
  refine FCall.of_body D27ok ok42 (by simp) (At.i ?_)
  have hx := asR_mk (r := R.r) (c := R.c) hy
  have l2 := lm39 (hs := hs) hx hok hh hLl hn (-1)
  cases hkp : kpB R (nts L) (-1) with
  | false =>
    rw [hkp] at l2 hsuc
    simp [A42, R42, la, hr, apart, l2]
    exact At.of (by rw [hg, hsuc]; simp)
  | true =>
    rw [hkp] at l2 hsuc
    simp [A42, R42, la, hr, apart, l2]
    have hd1 : ∀ a b (ha : a < n) (hb : b < n), pdB n L a b = decide (L[a] ≠ L[b]) := by
      intro a b ha hb
      rw [pdB, decide_eq_true ha, decide_eq_true hb, Bool.true_and, Bool.true_and]
      have e : ∀ x (h : x < L.length), L.getD x 0 = L[x] := fun x h => by rw [List.getD_eq_getElem?_getD, List.getElem?_eq_getElem h]; rfl
      rw [e a (by omega), e b (by omega)]
    have hd0 : ∀ a b, ¬ (a < n ∧ b < n) → pdB n L a b = false := by
      intro a b h
      cases hp : pdB n L a b with
      | false => rfl
      | true =>
        simp only [pdB, Bool.and_eq_true, decide_eq_true_eq] at hp
        exact absurd ⟨hp.1, hp.2.1⟩ h
    refine At.loop (fun (a : Nat) s => a ≤ n ∧ s.env 0 = .msl false 1 q 0 n true ∧ s.env 2 = .ref g 0 ∧ s.env 10 = .int .i64 (n : Int) ∧ s.env 11 = .int .i64 (a : Int) ∧ s.hs.heap g = some (rl6 fun x y => prK R k x y || (decide (x < a) && pdB n L x y)) ∧ (∀ i, i ≠ g → s.hs.heap i = hs.heap i) ∧ s.hs.nh = hs.nh) (fun a => n - a) 0 ?_ ?_
    · simp [hg]
    rintro N a s hN ⟨ha, e0, e2, e10, e11, hgg, hrest, hnh⟩
    simp [e10, e11]
    refine At.dec (fun hlt => ?_) (fun hlt => ?_)
    rotate_left
    · have han : a = n := by omega
      subst han
      refine At.of ⟨rfl, ?_, hrest, hnh⟩
      show s.hs.heap g = _
      rw [hgg, hsuc]
      congr 2
      funext x y
      by_cases hx : x < a
      · rw [decide_eq_true hx]
      · rw [hd0 x y (fun h => hx h.1)]; simp
    · have han : a < n := by omega
      simp [e0, e11]
      refine At.loop (fun (b : Nat) s => b ≤ n ∧ s.env 0 = .msl false 1 q 0 n true ∧ s.env 2 = .ref g 0 ∧ s.env 4 = .int .i64 (a : Int) ∧ s.env 10 = .int .i64 (n : Int) ∧ s.env 11 = .int .i64 (a : Int) ∧ s.env 15 = .int .i64 (n : Int) ∧ s.env 16 = .int .i64 (b : Int) ∧ s.hs.heap g = some (rl6 fun x y => prK R k x y || ((decide (x < a) || (decide (x = a) && decide (y < b))) && pdB n L x y)) ∧ (∀ i, i ≠ g → s.hs.heap i = hs.heap i) ∧ s.hs.nh = hs.nh) (fun b => n - b) 0 ?_ ?_
      · simp [e0, e2, e10, e11, hgg, hnh]
        exact hrest
      rintro N2 b s2 hN2 ⟨hb, f0, f2, f4, f10, f11, f15, f16, hgg2, hrest2, hnh2⟩
      simp [f15, f16]
      refine At.dec (fun hlt2 => ?_) (fun hlt2 => ?_)
      · have hbn : b < n := by omega
        have hh2 : s2.hs.heap q = some (lsV L) := by rw [hrest2 q (fun h => hne h.symm)]; exact hh
        have i1 := idxA_row (i := g) (k := .i64) (n := a) (by omega)
        have i2 := idxA_cell (i := g) (o := a * 6) (k := .i64) (n := b) (by omega)
        have ldc : aload s2.hs.heap false 1 (.ref g (a * 6 + b)) = some (.bool (prK R k a b)) := by
          have := load_row (n := 36) (o := a * 6 + b) hgg2 (by omega)
          rw [this, show (a * 6 + b) / 6 = a by omega, show (a * 6 + b) % 6 = b by omega]
          simp
        have la' := load_cell hh2 (o := a) (by rw [lsV_len, hLl]; exact han)
        rw [lsV_get (by omega)] at la'
        have lb' := load_cell hh2 (o := b) (by rw [lsV_len, hLl]; exact hbn)
        rw [lsV_get (by omega)] at lb'
        have st := fun v : Bool => store_cell (v := .bool v) hgg2 (o := a * 6 + b) (by simp [rl6]; omega) rfl
        simp only [rl6_set (show b < 6 by omega)] at st
        have hfin : ∀ v : Bool, v = (prK R k a b || pdB n L a b) → (rl6 fun x y => if x = a ∧ y = b then v else prK R k x y || ((decide (x < a) || (decide (x = a) && decide (y < b))) && pdB n L x y)) = rl6 fun x y => prK R k x y || ((decide (x < a) || (decide (x = a) && decide (y < b + 1))) && pdB n L x y) := by
          intro v hv
          congr 1
          funext x y
          by_cases h : x = a ∧ y = b
          · obtain ⟨rfl, rfl⟩ := h
            rw [if_pos ⟨rfl, rfl⟩, hv]; simp
          · rw [if_neg h]
            by_cases hxa : x = a
            · subst hxa
              have : decide (y < b + 1) = decide (y < b) := by
                have : ¬ y = b := fun e => h ⟨rfl, e⟩
                simp only [decide_eq_decide]; omega
              rw [this]
            · rw [decide_eq_false hxa]; simp
        rw [hd1 a b han hbn] at hfin
        have hneq : decide (L[a] ≠ L[b]) = !decide ((L[a] : Int) = (L[b] : Int)) := by
          by_cases h : L[a] = L[b] <;> simp [h]
          omega
        rw [hneq] at hfin
        generalize L[a] = u at *
        generalize L[b] = v at *
        cases hpk : prK R k a b with
        | true =>
          rw [hpk] at ldc hfin
          have st := st true
          rw [hfin true (by simp)] at st
          simp [f0, f2, f4, f16, i1, i2, ldc, st]
          refine hN2 (b + 1) _ (by omega) ⟨by omega, ?_⟩
          simp [f0, f2, f4, f10, f11, f15, hnh2, wrap_nat1 (show b < _ by omega)]
          exact fun i hi => by rw [if_neg hi]; exact hrest2 i hi
        | false =>
          rw [hpk] at ldc hfin
          have st := st (!decide ((u : Int) = (v : Int)))
          rw [hfin (!decide ((u : Int) = (v : Int))) (by simp)] at st
          simp [f0, f2, f4, f16, i1, i2, ldc, han, hbn, la', lb', st]
          refine hN2 (b + 1) _ (by omega) ⟨by omega, ?_⟩
          simp [f0, f2, f4, f10, f11, f15, hnh2, wrap_nat1 (show b < _ by omega)]
          exact fun i hi => by rw [if_neg hi]; exact hrest2 i hi
      · have hbn : b = n := by omega
        subst hbn
        simp [f11]
        refine hN (a + 1) _ (by omega) ⟨by omega, ?_⟩
        simp [f0, f2, f10, wrap_nat1 (show a < _ by omega), hnh2]
        refine ⟨?_, hrest2⟩
        rw [hgg2]
        congr 2
        funext x y
        by_cases hy : y < b
        · by_cases hxa : x < a
          · simp [hxa, show x < a + 1 by omega]
          · by_cases hxe : x = a
            · subst hxe; simp [hy]
            · simp [hxa, hxe, show ¬ x < a + 1 by omega]
        · rw [hd0 x y (fun h => hy h.2)]; simp
end Go.Proofs.Ytecbbbocjmdfgaa
set_option linter.unusedVariables false
set_option linter.unusedSimpArgs false
namespace Go.Proofs.Ytecbbbocjmdfgaa
open Go Fw

noncomputable def D29 : PCtx := (D27.add 19 SGpR).add 24 SNum
theorem D29ok : CtxOk Try.prog D29 := (D27ok.add c19).add c24
@[simp] theorem D29_37 : D29 37 = SMade := id rfl
@[simp] theorem D29_15 : D29 15 = SWk := id rfl
@[simp] theorem D29_40 : D29 40 = SVf := id rfl
@[simp] theorem D29_19 : D29 19 = SGpR := id rfl
@[simp] theorem D29_24 : D29 24 = SNum := id rfl
theorem D29_38 : D29 38 = SEq := id rfl
theorem D29_39 : D29 39 = SKp := id rfl
theorem le38 {hs : HS} {z : AV} {L : List Int} (hz : asI z = some L) : alcall D29 38 hs [z] = some (.bool (allEq L)) := by
  unfold alcall
  simp only [List.map_cons, List.map_nil, frz_i hz, D29_38, SEq, hz, Option.map_some]
  rfl
theorem le39 {hs : HS} {x z : AV} {R : Rk} {L : List Int} (hx : asR x = some R) (hok : OkR R) (hz : asI z = some L) (hl : L.length = nR R) (but : Int) : alcall D29 39 hs [x, z, .int .i64 but] = some (.bool (kpB R L but)) := by
  unfold alcall
  simp only [List.map_cons, List.map_nil, frz_i hz, frz_rk hx, frz_int, D29_39, SKp_i hx hz hok hl but]
  rfl
theorem i8_bd {n : Int} (h : (Lit.int .i8 n).wf = true) : -128 ≤ n ∧ n ≤ 127 := by
  simp [Lit.wf, IntKind.min, IntKind.max, IntKind.signed, IntKind.bits] at h
  omega
def byV (bs : List Int) : AV := .agg (bs.map (.int .i8))
theorem by_idx {bs : List Int} (h6 : bs.length = 6) {i : Nat} (hi : i < bs.length) : aidxA 6 false 1 (.ptr (byV bs)) (.int .i64 (i : Int)) = some (.ptr (.int .i8 bs[i])) := by
  match bs, h6, i, hi with
  | [a, b, c, d, e, f], _, 0, _ => rfl
  | [a, b, c, d, e, f], _, 1, _ => rfl
  | [a, b, c, d, e, f], _, 2, _ => rfl
  | [a, b, c, d, e, f], _, 3, _ => rfl
  | [a, b, c, d, e, f], _, 4, _ => rfl
  | [a, b, c, d, e, f], _, 5, _ => rfl
theorem by_sto {bs : List Int} (h6 : bs.length = 6) : (byV bs).sto = true := by
  match bs, h6 with
  | [a, b, c, d, e, f], _ => rfl
/-- turns by numbers -/
def tnL (bs : List Int) (k : Nat) : List Int := (bs.take k).map fun v => v.tmod 3
theorem tmod3 {v : Int} : -2 ≤ v.tmod 3 ∧ v.tmod 3 ≤ 2 := by
  cases v with
  | ofNat m => show -2 ≤ ((m % 3 : Nat) : Int) ∧ ((m % 3 : Nat) : Int) ≤ 2; omega
  | negSucc m => show -2 ≤ -(((m + 1) % 3 : Nat) : Int) ∧ -(((m + 1) % 3 : Nat) : Int) ≤ 2; omega
theorem tn_in {bs : List Int} {k : Nat} : (tnL bs k).all inT = true := by
  rw [List.all_eq_true]
  intro v hv
  obtain ⟨w, _, rfl⟩ := List.mem_map.1 hv
  have := tmod3 (v := w)
  unfold inT btw
  simp only [Bool.and_eq_true, decide_eq_true_eq]
  omega
theorem tn_succ {bs : List Int} {k : Nat} (h : k < bs.length) : tnL bs (k + 1) = tnL bs k ++ [(bs[k]).tmod 3] := by
  rw [tnL, take_snoc h, List.map_append]; rfl
theorem tn_len {bs : List Int} {k : Nat} (h : k ≤ bs.length) : (tnL bs k).length = k := by simp [tnL]; omega
theorem grpM_pre {M : Mx} {n r i : Nat} : ∀ {m : Nat}, i ≤ m → ∃ rest, (grpM M n r m).2 = (grpM M n r i).2 ++ rest
  | 0, h => ⟨[], by rw [show i = 0 by omega]; simp⟩
  | m + 1, h => by
    by_cases hm : i = m + 1
    · subst hm; exact ⟨[], by simp⟩
    · obtain ⟨rest, hr⟩ := grpM_pre (M := M) (n := n) (r := r) (i := i) (m := m) (by omega)
      simp only [grpM]
      split
      · exact ⟨rest, hr⟩
      · exact ⟨rest ++ [(rgR (bothM M m) m r (n - m), rgC (bothM M m) m r (n - m))], by simp [hr]⟩
theorem p6 {x : AV} {a b : Nat} {l : List Nt} (hx : IsSh x a b l) {bs : List Int} (h6 : bs.length = 6) (hbd : ∀ v ∈ bs, -128 ≤ v ∧ v ≤ 127) : PCall Try.prog 6 [x, byV bs] (.bool true) := by
  obtain ⟨R, hR⟩ : ∃ R, R = mkR a b l true := ⟨_, rfl⟩
  have hv : asR (mkV a b l true) = some R := by rw [hR]; exact asR_mkV a b l true
  have hok : OkR R := by rw [hR]; exact mkR_ok a b l true
  have hlen : R.b.length ≤ 9 := by rw [hR]; exact mkR_len a b l true
  have hrc3 : R.r ≤ 3 ∧ R.c ≤ 3 := by
    rw [hR]
    constructor
    · show ((1 + a % 3 : Nat) : Int) ≤ 3; omega
    · show ((1 + b % 3 : Nat) : Int) ≤ 3; omega
  have hchk : chkR R = 0 := chkR_zero.2 ⟨hok, by omega⟩
  have hS37 := SMade_i hx true
  obtain ⟨y0, hV, hy⟩ := asR_inv hv
  rw [hV] at hv hS37
  have hSG : SGpR [.agg [.int .i64 R.r, .int .i64 R.c, y0]] = some (.tup [outV 2 (grs (gmR R)), .int .i64 0]) := by
    simp only [SGpR, hv, Option.map_some]
    rw [gpV, if_pos hchk, gp_eq hok]
  have sx : x.sto = true := by obtain ⟨⟨z, rfl, hz⟩, _⟩ := hx; rfl
  have lx : ∀ h, aload h true 3 (.ptr x) = some x := by obtain ⟨⟨z, rfl, hz⟩, _⟩ := hx; exact fun _ => rfl
  have sby := by_sto h6
  have iby := fun (i : Nat) (hi : i < bs.length) => by_idx h6 hi
  generalize byV bs = by' at *
  obtain ⟨hyc, hys⟩ := asB_cells hy
  have hr1 := hok.r1
  have hc1 := hok.c1
  obtain ⟨n, hn⟩ : ∃ n : Nat, n = nR R := ⟨_, rfl⟩
  have hnn : nR R = R.r.toNat + R.c.toNat := rfl
  have hn6 : n ≤ 6 := by omega
  have hsum : IntKind.i64.wrap (R.r + R.c) = (n : Int) := by rw [wrap64 (by omega) (by omega)]; omega
  obtain ⟨r, hr⟩ : ∃ r : Nat, R.r = (r : Int) := ⟨R.r.toNat, by omega⟩
  have hrt : R.r.toNat = r := by omega
  refine PCall.of D29ok ok6 (by simp) rfl fun hs' hbb => ?_
  generalize hq : hs'.nh = q
  simp [A6, R6, sx, lx, sby, hS37, astoAll, afill, si, ci, sa, ca, setL, astore, env_none, hq, hyc, hys, la, lpa, fa, apart, hsum]
  refine At.loop (fun (k : Nat) s => k ≤ n ∧ s.env 3 = .ptr by' ∧ s.env 5 = .ref q 0 ∧ s.env 6 = .int .i64 (n : Int) ∧ s.env 8 = .int .i64 (k : Int) ∧ q < s.hs.nh ∧ s.hs.heap q = some [.int .i64 R.r, .int .i64 R.c, y0] ∧ Outs 1 s.hs (s.env 7) (ints (tnL bs k))) (fun k => n - k) 0 ?_ ?_
  · simp [tnL]
    exact .nil
  rintro N k s hN ⟨hk, e3, e5, e6, e8, hnh, hh, ho⟩
  simp [e6, e8]
  refine At.dec (fun hlt => ?_) (fun hlt => ?_)
  · have hk' : k < bs.length := by omega
    have ib := iby k hk'
    obtain ⟨b1, b2⟩ := hbd bs[k] (List.getElem_mem hk')
    have cv : IntKind.i64.wrap bs[k] = bs[k] := wrap64 (by omega) (by omega)
    have hsn := tn_succ hk'
    obtain ⟨y, hs2, c1, c2, c3⟩ := ho.add1 (by rw [tn_len (by omega)]; omega) ((bs[k]).tmod 3)
    rw [← hsn] at c2
    simp [e3, e6, e8, ib, cv, astoAll, si, ci, c1]
    refine hN (k + 1) _ (by omega) ⟨by omega, ?_⟩
    simp [e3, e5, e6, wrap_nat1 (show k < _ by omega), c3.heap, c3.nh, hnh, hh]
    exact c2.cong rfl rfl
  have hkn : k = n := by omega
  subst hkn
  have hyl : (tnL bs k).length = k := tn_len (by omega)
  have hyI := ho.asI (by omega)
  have hyin := tn_in (bs := bs) (k := k)
  have hVl := vf_law hok hchk (l := tnL bs k) (by omega) hyin
  rw [hrt] at hVl
  generalize tnL bs k = L at *
  have q38 := le38 (hs := s.hs) hyI
  have q39 := le39 (hs := s.hs) hv hok hyI (by omega) (-1)
  have hyV := asI_asV hyI
  have t1 := slice_take hyV (n := r) (k := .i64) (by rw [ints_len]; omega)
  have t2 := slice_drop hyV (n := r) (k := .i64) (by rw [ints_len]; omega)
  have hVf := SVf_i (m := .agg [takeV r (s.env 7), dropV r (s.env 7)]) hv (p := (L.take r, L.drop r)) (by simp [asMo, asI_take hyI, asI_drop hyI]) (by show (L.take r).length + (L.drop r).length ≤ 1000000; rw [List.length_take, List.length_drop]; omega)
  have hvf' : vfR R (L.take r, L.drop r).1 (L.take r, L.drop r).2 = vfR R (L.take r) (L.drop r) := rfl
  rw [hvf', hVl] at hVf
  obtain ⟨⟨z1, z3⟩, z2, z4⟩ : ((takeV r (s.env 7)).cells = [takeV r (s.env 7)] ∧ (takeV r (s.env 7)).sto = true) ∧ (dropV r (s.env 7)).cells = [dropV r (s.env 7)] ∧ (dropV r (s.env 7)).sto = true := by
    have : ∀ {z : AV} {l : List Int}, asI z = some l → z.cells = [z] ∧ z.sto = true := by
      intro z l hz
      rcases asI_inv hz with ⟨rfl, _⟩ | ⟨c, rfl⟩ <;> exact ⟨rfl, rfl⟩
    exact ⟨this (asI_take hyI r), this (asI_drop hyI r)⟩
  rw [← hr] at t1 t2
  generalize takeV r (s.env 7) = zt at *
  generalize dropV r (s.env 7) = zd at *
  generalize hg : s.hs.nh = g
  have hqg : ¬ q = g := by omega
  obtain ⟨m, hm⟩ : ∃ m, m = k := ⟨_, rfl⟩
  have hcall := p41 (n := k) (most := 1) (q := g + 1) (f := 42) (xs := []) (ys := [.ref q 0, .ref g 0]) (hs0 := ⟨fun k => if k = g then some (rl6 (prK R 0)) else s.hs.heap k, g + 1, s.hs.nt, s.hs.tok⟩) (by omega) (by decide)
    (fun k hs => hs.heap g = some (rl6 (prK R k)) ∧ hs.heap q = some [.int .i64 R.r, .int .i64 R.c, y0] ∧ g < hs.nh) rfl
    (fun k hs hs2 h1 h2 h3 => ⟨by rw [h2 g (by omega) h1.2.2]; exact h1.1, by rw [h2 q (by omega) (by omega)]; exact h1.2.1, by omega⟩) ⟨by simp, by simp [hqg, hh], by simp⟩
    (fun j hs hj h1 h2 h3 => (p42 hy hok hn hn6 h1.2.1 h2 h1.1 (by omega)).mono fun e hs2 ⟨a1, a2, a3, a4⟩ => ⟨a1, ⟨a2, by rw [a3 q hqg]; exact h1.2.1, by omega⟩, a3 _ (by omega), by omega⟩)
  have h36 : rl6 (prK R 0) = [.bool false, .bool false, .bool false, .bool false, .bool false, .bool false, .bool false, .bool false, .bool false, .bool false, .bool false, .bool false, .bool false, .bool false, .bool false, .bool false, .bool false, .bool false, .bool false, .bool false, .bool false, .bool false, .bool false, .bool false, .bool false, .bool false, .bool false, .bool false, .bool false, .bool false, .bool false, .bool false, .bool false, .bool false, .bool false, .bool false] := by
    have : prK R 0 = fun _ _ => false := by funext x y; rfl
    rw [this]; rfl
  rw [h36] at hcall
  have hgs : gmR R = (grpM (rcR R) k r k).2 := by
    rw [gmR, hrt]
    have : r + R.c.toNat = k := by omega
    rw [this]
  have hGI : asG (outV 2 (grs (gmR R))) = some (gmR R) := asG_out (gpR_ok hok) (by have := grpM_len (M := rcR R) (n := k) (r := r) k; rw [hgs]; omega)
  have hGlen : alenK false (outV 2 (grs (gmR R))) = some (.int .i64 ((gmR R).length : Int)) := by rw [alen_outV]; simp [grs]
  generalize outV 2 (grs (gmR R)) = G at *
  have hpr : ∀ a b, a < k → b < k → prK R (2 ^ k) a b = !bothM (rcR R) a b := by
    intro a b ha hb
    rw [hn] at ha hb ⊢
    exact pr_law hok ha hb
  generalize gmR R = gs at *
  generalize rcR R = M at *
  have hgl : gs.length ≤ k := by rw [hgs]; exact grpM_len k
  cases hae : allEq L with
  | true =>
    rw [hae] at q38
    rw [hae, if_pos rfl] at hVf
    simp [e5, e6, q38, la, lpa, fa, hh, apart, t1, t2, afill, si, ci, setL, z1, z2, z3, z4, hVf, hg]
    refine At.hc (R := fun e hs2 => e = .ret (.tup []) ∧ hs2.heap g = some (rl6 (prK R (2 ^ k))) ∧ hs2.heap q = some [.int .i64 R.r, .int .i64 R.c, y0] ∧ g + 1 ≤ hs2.nh) ?_ ?_ ?_
    · refine hcall.mono ?_
      rintro e hs2 ⟨a1, ⟨a2, a3, a4⟩, a5⟩
      exact ⟨a1, a2, a3, by simpa using a5⟩
    rotate_left
    · rintro v hs2 ⟨hv, _⟩; cases hv
    rintro v hs2 ⟨hv2, hgg, hhq, hnh2⟩
    injection hv2 with hv2; subst hv2
    have hmk := amake_eq (z := .bool false) (hs := hs2) (k1 := .i64) (k2 := .i64) (n := k) (by omega)
    generalize ht : hs2.nh = t at *
    have hqt : ¬ q = t := by omega
    have hgt : ¬ g = t := by omega
    simp [e5, e6, la, hhq, apart, hSG, hmk, ht]
    refine At.loop (fun (a : Nat) s => a ≤ k ∧ s.env 5 = .ref q 0 ∧ s.env 6 = .int .i64 (k : Int) ∧ s.env 10 = .ref g 0 ∧ s.env 11 = G ∧ s.env 13 = .msl false 1 t 0 k true ∧ s.env 14 = .int .i64 ((grpM M k r a).2.length : Nat) ∧ s.env 15 = .int .i64 (a : Int) ∧ s.hs.heap q = some [.int .i64 R.r, .int .i64 R.c, y0] ∧ s.hs.heap g = some (rl6 (prK R (2 ^ k))) ∧ s.hs.heap t = some (rowL k (grpM M k r a).1) ∧ t < s.hs.nh) (fun a => k - a) 0 ?_ ?_
    · have ho1 : hs2.blk (List.replicate k (.bool false)) = hs2.blk (List.replicate k (.bool false)) := rfl
      simp [e5, e6, grpM, ht]
      rw [HS.blk_old (by omega), HS.blk_old (by omega)]
      exact ⟨hhq, hgg, by rw [← ht]; simp [HS.blk, rowL_0]⟩
    rintro N2 a s2 hN2 ⟨ha, w5, w6, w10, w11, w13, w14, w15, wq, wg, wt, wnh⟩
    simp [w6, w15]
    refine At.dec (fun hlt2 => ?_) (fun hlt2 => ?_)
    rotate_left
    · have hak : a = k := by omega
      subst hak
      rw [← hgs] at w14
      simp [w11, w14, hGlen]
    have hak : a < k := by omega
    have ldT := load_row (o := a) wt hak
    cases hT : (grpM M k r a).1 a with
    | true =>
      rw [hT] at ldT
      have hnx : grpM M k r (a + 1) = grpM M k r a := by simp only [grpM]; rw [if_pos hT]
      simp [w13, w15, hak, ldT]
      refine hN2 (a + 1) _ (by omega) ⟨by omega, ?_⟩
      rw [hnx]
      simp [w5, w6, w10, w11, w13, w14, wq, wg, wt, wnh, wrap_nat1 (show a < _ by omega)]
    | false =>
      rw [hT] at ldT
      have hnx : grpM M k r (a + 1) = (rgT (bothM M a) a (grpM M k r a).1 (k - a), (grpM M k r a).2 ++ [(rgR (bothM M a) a r (k - a), rgC (bothM M a) a r (k - a))]) := by simp only [grpM]; rw [if_neg (by simp [hT])]
      obtain ⟨rest, hrest⟩ := grpM_pre (M := M) (n := k) (r := r) (i := a + 1) (m := k) (by omega)
      rw [← hgs, hnx] at hrest
      have hDl := grpM_len (M := M) (n := k) (r := r) a
      have hpra := fun b (hb : b < k) => hpr a b hak hb
      generalize hD : grpM M k r a = D at *
      generalize bothM M a = W at *
      simp [w13, w15, hak, ldT]
      refine At.loop (fun (b : Nat) s => a ≤ b ∧ b ≤ k ∧ s.env 5 = .ref q 0 ∧ s.env 6 = .int .i64 (k : Int) ∧ s.env 10 = .ref g 0 ∧ s.env 11 = G ∧ s.env 13 = .msl false 1 t 0 k true ∧ s.env 14 = .int .i64 (D.2.length : Nat) ∧ s.env 15 = .int .i64 (a : Int) ∧ s.env 18 = .int .i64 (b : Int) ∧ s.hs.heap q = some [.int .i64 R.r, .int .i64 R.c, y0] ∧ s.hs.heap g = some (rl6 (prK R (2 ^ k))) ∧ s.hs.heap t = some (rowL k (rgT W a D.1 (b - a))) ∧ t < s.hs.nh ∧ Outs 1 s.hs (s.env 16) (ints (rgR W a r (b - a))) ∧ Outs 1 s.hs (s.env 17) (ints (rgC W a r (b - a))) ∧ Apart (s.env 16) (s.env 17)) (fun b => k - b) a ?_ ?_
      · refine ⟨Nat.le_refl _, by omega, ?_⟩
        simp [w5, w6, w10, w11, w13, w14, w15, wq, wg, wt, wnh, rgT, rgR, rgC]
        exact .nil
      rintro N3 b s3 hN3 ⟨hab, hbk, x5, x6, x10, x11, x13, x14, x15, x18, xq, xg, xt, xnh, o16, o17, oap⟩
      simp [x6, x18]
      refine At.dec (fun hlt3 => ?_) (fun hlt3 => ?_)
      · have hbk' : b < k := by omega
        have i1 := idxA_row (i := g) (k := .i64) (n := a) (by omega)
        have i2 := idxA_cell (i := g) (o := a * 6) (k := .i64) (n := b) (by omega)
        have ldp : aload s3.hs.heap false 1 (.ref g (a * 6 + b)) = some (.bool (!W b)) := by
          have := load_row (n := 36) (o := a * 6 + b) xg (by omega)
          rw [this, show (a * 6 + b) / 6 = a by omega, show (a * 6 + b) % 6 = b by omega, hpra b hbk']
        have sR : rgR W a r (b + 1 - a) = if W b = true ∧ b < r then rgR W a r (b - a) ++ [(b : Int)] else rgR W a r (b - a) := by
          rw [show b + 1 - a = (b - a) + 1 by omega]; simp only [rgR]; rw [show a + (b - a) = b by omega]
        have sC : rgC W a r (b + 1 - a) = if W b = true ∧ ¬ b < r then rgC W a r (b - a) ++ [((b - r : Nat) : Int)] else rgC W a r (b - a) := by
          rw [show b + 1 - a = (b - a) + 1 by omega]; simp only [rgC]; rw [show a + (b - a) = b by omega]
        have sT : rgT W a D.1 (b + 1 - a) = if W b = true then (fun j => decide (j = b) || rgT W a D.1 (b - a) j) else rgT W a D.1 (b - a) := by
          rw [show b + 1 - a = (b - a) + 1 by omega]; simp only [rgT]; rw [show a + (b - a) = b by omega]
        have lR := rgR_len (W := W) (i := a) (r := r) (b - a)
        have lC := rgC_len (W := W) (i := a) (r := r) (b - a)
        cases hW : W b with
        | false =>
          rw [hW] at ldp
          rw [if_neg (by simp [hW])] at sR sC sT
          simp [x10, x15, x18, i1, i2, ldp]
          refine hN3 (b + 1) _ (by omega) ⟨by omega, by omega, ?_⟩
          rw [sR, sC, sT]
          simp [x5, x6, x10, x11, x13, x14, x15, xq, xg, xt, xnh, wrap_nat1 (show b < _ by omega)]
          exact ⟨o16.cong rfl rfl, o17.cong rfl rfl, oap⟩
        | true =>
          rw [hW] at ldp
          rw [if_pos hW] at sT
          have st := store_row (o := b) xt hbk'
          have hmk1 : mk1 (rgT W a D.1 (b - a)) b = rgT W a D.1 (b + 1 - a) := by
            rw [sT]; funext j; unfold mk1; by_cases h : j = b <;> simp [h]
          rw [hmk1] at st
          generalize hT2 : rgT W a D.1 (b + 1 - a) = T2 at *
          by_cases hbr : b < r
          · have hbI : (b : Int) < R.r := by omega
            rw [if_pos ⟨hW, hbr⟩] at sR
            rw [if_neg (fun h => h.2 hbr)] at sC
            obtain ⟨y, hs4, c1, c2, c3, c4⟩ := add_apart (hs := ⟨fun k' => if k' = t then some (rowL k T2) else s3.hs.heap k', s3.hs.nh, s3.hs.nt, s3.hs.tok⟩) (o16.cong rfl rfl) (by omega) (b : Int)
            obtain ⟨d1, d2⟩ := c4 (o17.cong rfl rfl) oap
            rw [← sR] at c2
            rw [← sC] at d1
            simp [x5, x10, x13, x15, x18, i1, i2, ldp, hbk', st, fa, la, lpa, xq, hqt, apart, hbI, astoAll, si, ci, c1]
            refine hN3 (b + 1) _ (by omega) ⟨by omega, by omega, ?_⟩
            simp [x5, x6, x10, x11, x13, x14, x15, x18, c3.heap, c3.nh, xq, xg, xnh, hqt, hgt, wrap_nat1 (show b < _ by omega), env_none]
            exact ⟨by rw [hT2], c2.cong rfl rfl, d1.cong rfl rfl, d2⟩
          · have hbI : ¬ (b : Int) < R.r := by omega
            have hw : IntKind.i64.wrap ((b : Int) - R.r) = ((b - r : Nat) : Int) := by rw [wrap64 (by omega) (by omega)]; omega
            rw [if_neg (fun h => hbr h.2)] at sR
            rw [if_pos ⟨hW, hbr⟩] at sC
            obtain ⟨y, hs4, c1, c2, c3, c4⟩ := add_apart (hs := ⟨fun k' => if k' = t then some (rowL k T2) else s3.hs.heap k', s3.hs.nh, s3.hs.nt, s3.hs.tok⟩) (o17.cong rfl rfl) (by omega) ((b - r : Nat) : Int)
            obtain ⟨d1, d2⟩ := c4 (o16.cong rfl rfl) oap.symm
            rw [← sC] at c2
            rw [← sR] at d1
            generalize b - r = br at *
            simp [x5, x10, x13, x15, x18, i1, i2, ldp, hbk', st, fa, la, lpa, xq, hqt, apart, hbI, hw, astoAll, si, ci, c1]
            refine hN3 (b + 1) _ (by omega) ⟨by omega, by omega, ?_⟩
            simp [x5, x6, x10, x11, x13, x14, x15, x18, c3.heap, c3.nh, xq, xg, xnh, hqt, hgt, wrap_nat1 (show b < _ by omega), env_none]
            exact ⟨by rw [hT2], d1.cong rfl rfl, c2.cong rfl rfl, d2.symm⟩
      · have hbk' : b = k := by omega
        subst hbk'
        have hK : D.2.length < gs.length := by rw [hrest]; simp
        have hgK : gs[D.2.length] = (rgR W a r (b - a), rgC W a r (b - a)) := by
          simp only [hrest]
          rw [List.getElem_append_left (by simp), List.getElem_append_right (Nat.le_refl _)]
          simp
        obtain ⟨ga, gb, g1, g2, g3⟩ := gidx hGI (k := .i64) hK
        rw [hgK] at g2 g3
        have lg : ∀ {z : AV} {l : List Int}, asI z = some l → ∀ h, aload h false 1 (.ptr z) = some z := by
          intro z l hz h
          rcases asI_inv hz with ⟨rfl, _⟩ | ⟨c, rfl⟩ <;> rfl
        have lga := lg g2
        have lgb := lg g3
        have gf0 : afaddr false 1 0 (.ptr (.agg [ga, gb])) = some (.ptr ga) := by
          rcases asI_inv g2 with ⟨rfl, _⟩ | ⟨c, rfl⟩ <;> rfl
        have gf1 : afaddr false 1 1 (.ptr (.agg [ga, gb])) = some (.ptr gb) := by
          rcases asI_inv g2 with ⟨rfl, _⟩ | ⟨c, rfl⟩ <;> rcases asI_inv g3 with ⟨rfl, _⟩ | ⟨c, rfl⟩ <;> rfl
        have lR := rgR_len (W := W) (i := a) (r := r) (b - a)
        have lC := rgC_len (W := W) (i := a) (r := r) (b - a)
        have n1 := SNum_i g2 (o16.asI (by omega))
        have n2 := SNum_i g3 (o17.asI (by omega))
        simp only [decide_true] at n1 n2
        have hK1 : ¬ ((gs.length : Int) ≤ (D.2.length : Int)) := by omega
        have hK2 : ¬ (gs.length ≤ D.2.length) := by omega
        simp [x11, x14, x15, hGlen, hK1, hK2, g1, gf0, gf1, lga, lgb, n1, n2, wrap_nat1 (show D.2.length < _ by omega)]
        refine hN2 (a + 1) _ (by omega) ⟨by omega, ?_⟩
        rw [hnx]
        simp [x5, x6, x10, x11, x13, xq, xg, xt, xnh, wrap_nat1 (show a < _ by omega)]
  | false =>
    rw [hae] at q38
    rw [hae, if_neg (by simp)] at hVf
    cases hkp : kpB R L (-1) with
    | true =>
      rw [hkp] at q39
      rw [hkp, if_pos rfl] at hVf
      simp [e5, e6, q38, q39, la, lpa, fa, hh, apart, t1, t2, afill, si, ci, setL, z1, z2, z3, z4, hVf, hg]
      refine At.hc (R := fun e hs2 => e = .ret (.tup []) ∧ hs2.heap g = some (rl6 (prK R (2 ^ k))) ∧ hs2.heap q = some [.int .i64 R.r, .int .i64 R.c, y0] ∧ g + 1 ≤ hs2.nh) ?_ ?_ ?_
      · refine hcall.mono ?_
        rintro e hs2 ⟨a1, ⟨a2, a3, a4⟩, a5⟩
        exact ⟨a1, a2, a3, by simpa using a5⟩
      rotate_left
      · rintro v hs2 ⟨hv, _⟩; cases hv
      rintro v hs2 ⟨hv2, hgg, hhq, hnh2⟩
      injection hv2 with hv2; subst hv2
      have hmk := amake_eq (z := .bool false) (hs := hs2) (k1 := .i64) (k2 := .i64) (n := k) (by omega)
      generalize ht : hs2.nh = t at *
      have hqt : ¬ q = t := by omega
      have hgt : ¬ g = t := by omega
      simp [e5, e6, la, hhq, apart, hSG, hmk, ht]
      refine At.loop (fun (a : Nat) s => a ≤ k ∧ s.env 5 = .ref q 0 ∧ s.env 6 = .int .i64 (k : Int) ∧ s.env 10 = .ref g 0 ∧ s.env 11 = G ∧ s.env 13 = .msl false 1 t 0 k true ∧ s.env 14 = .int .i64 ((grpM M k r a).2.length : Nat) ∧ s.env 15 = .int .i64 (a : Int) ∧ s.hs.heap q = some [.int .i64 R.r, .int .i64 R.c, y0] ∧ s.hs.heap g = some (rl6 (prK R (2 ^ k))) ∧ s.hs.heap t = some (rowL k (grpM M k r a).1) ∧ t < s.hs.nh) (fun a => k - a) 0 ?_ ?_
      · have ho1 : hs2.blk (List.replicate k (.bool false)) = hs2.blk (List.replicate k (.bool false)) := rfl
        simp [e5, e6, grpM, ht]
        rw [HS.blk_old (by omega), HS.blk_old (by omega)]
        exact ⟨hhq, hgg, by rw [← ht]; simp [HS.blk, rowL_0]⟩
      rintro N2 a s2 hN2 ⟨ha, w5, w6, w10, w11, w13, w14, w15, wq, wg, wt, wnh⟩
      simp [w6, w15]
      refine At.dec (fun hlt2 => ?_) (fun hlt2 => ?_)
      rotate_left
      · have hak : a = k := by omega
        subst hak
        rw [← hgs] at w14
        simp [w11, w14, hGlen]
      have hak : a < k := by omega
      have ldT := load_row (o := a) wt hak
      cases hT : (grpM M k r a).1 a with
      | true =>
        rw [hT] at ldT
        have hnx : grpM M k r (a + 1) = grpM M k r a := by simp only [grpM]; rw [if_pos hT]
        simp [w13, w15, hak, ldT]
        refine hN2 (a + 1) _ (by omega) ⟨by omega, ?_⟩
        rw [hnx]
        simp [w5, w6, w10, w11, w13, w14, wq, wg, wt, wnh, wrap_nat1 (show a < _ by omega)]
      | false =>
        rw [hT] at ldT
        have hnx : grpM M k r (a + 1) = (rgT (bothM M a) a (grpM M k r a).1 (k - a), (grpM M k r a).2 ++ [(rgR (bothM M a) a r (k - a), rgC (bothM M a) a r (k - a))]) := by simp only [grpM]; rw [if_neg (by simp [hT])]
        obtain ⟨rest, hrest⟩ := grpM_pre (M := M) (n := k) (r := r) (i := a + 1) (m := k) (by omega)
        rw [← hgs, hnx] at hrest
        have hDl := grpM_len (M := M) (n := k) (r := r) a
        have hpra := fun b (hb : b < k) => hpr a b hak hb
        generalize hD : grpM M k r a = D at *
        generalize bothM M a = W at *
        simp [w13, w15, hak, ldT]
        refine At.loop (fun (b : Nat) s => a ≤ b ∧ b ≤ k ∧ s.env 5 = .ref q 0 ∧ s.env 6 = .int .i64 (k : Int) ∧ s.env 10 = .ref g 0 ∧ s.env 11 = G ∧ s.env 13 = .msl false 1 t 0 k true ∧ s.env 14 = .int .i64 (D.2.length : Nat) ∧ s.env 15 = .int .i64 (a : Int) ∧ s.env 18 = .int .i64 (b : Int) ∧ s.hs.heap q = some [.int .i64 R.r, .int .i64 R.c, y0] ∧ s.hs.heap g = some (rl6 (prK R (2 ^ k))) ∧ s.hs.heap t = some (rowL k (rgT W a D.1 (b - a))) ∧ t < s.hs.nh ∧ Outs 1 s.hs (s.env 16) (ints (rgR W a r (b - a))) ∧ Outs 1 s.hs (s.env 17) (ints (rgC W a r (b - a))) ∧ Apart (s.env 16) (s.env 17)) (fun b => k - b) a ?_ ?_
        · refine ⟨Nat.le_refl _, by omega, ?_⟩
          simp [w5, w6, w10, w11, w13, w14, w15, wq, wg, wt, wnh, rgT, rgR, rgC]
          exact .nil
        rintro N3 b s3 hN3 ⟨hab, hbk, x5, x6, x10, x11, x13, x14, x15, x18, xq, xg, xt, xnh, o16, o17, oap⟩
        simp [x6, x18]
        refine At.dec (fun hlt3 => ?_) (fun hlt3 => ?_)
        · have hbk' : b < k := by omega
          have i1 := idxA_row (i := g) (k := .i64) (n := a) (by omega)
          have i2 := idxA_cell (i := g) (o := a * 6) (k := .i64) (n := b) (by omega)
          have ldp : aload s3.hs.heap false 1 (.ref g (a * 6 + b)) = some (.bool (!W b)) := by
            have := load_row (n := 36) (o := a * 6 + b) xg (by omega)
            rw [this, show (a * 6 + b) / 6 = a by omega, show (a * 6 + b) % 6 = b by omega, hpra b hbk']
          have sR : rgR W a r (b + 1 - a) = if W b = true ∧ b < r then rgR W a r (b - a) ++ [(b : Int)] else rgR W a r (b - a) := by
            rw [show b + 1 - a = (b - a) + 1 by omega]; simp only [rgR]; rw [show a + (b - a) = b by omega]
          have sC : rgC W a r (b + 1 - a) = if W b = true ∧ ¬ b < r then rgC W a r (b - a) ++ [((b - r : Nat) : Int)] else rgC W a r (b - a) := by
            rw [show b + 1 - a = (b - a) + 1 by omega]; simp only [rgC]; rw [show a + (b - a) = b by omega]
          have sT : rgT W a D.1 (b + 1 - a) = if W b = true then (fun j => decide (j = b) || rgT W a D.1 (b - a) j) else rgT W a D.1 (b - a) := by
            rw [show b + 1 - a = (b - a) + 1 by omega]; simp only [rgT]; rw [show a + (b - a) = b by omega]
          have lR := rgR_len (W := W) (i := a) (r := r) (b - a)
          have lC := rgC_len (W := W) (i := a) (r := r) (b - a)
          cases hW : W b with
          | false =>
            rw [hW] at ldp
            rw [if_neg (by simp [hW])] at sR sC sT
            simp [x10, x15, x18, i1, i2, ldp]
            refine hN3 (b + 1) _ (by omega) ⟨by omega, by omega, ?_⟩
            rw [sR, sC, sT]
            simp [x5, x6, x10, x11, x13, x14, x15, xq, xg, xt, xnh, wrap_nat1 (show b < _ by omega)]
            exact ⟨o16.cong rfl rfl, o17.cong rfl rfl, oap⟩
          | true =>
            rw [hW] at ldp
            rw [if_pos hW] at sT
            have st := store_row (o := b) xt hbk'
            have hmk1 : mk1 (rgT W a D.1 (b - a)) b = rgT W a D.1 (b + 1 - a) := by
              rw [sT]; funext j; unfold mk1; by_cases h : j = b <;> simp [h]
            rw [hmk1] at st
            generalize hT2 : rgT W a D.1 (b + 1 - a) = T2 at *
            by_cases hbr : b < r
            · have hbI : (b : Int) < R.r := by omega
              rw [if_pos ⟨hW, hbr⟩] at sR
              rw [if_neg (fun h => h.2 hbr)] at sC
              obtain ⟨y, hs4, c1, c2, c3, c4⟩ := add_apart (hs := ⟨fun k' => if k' = t then some (rowL k T2) else s3.hs.heap k', s3.hs.nh, s3.hs.nt, s3.hs.tok⟩) (o16.cong rfl rfl) (by omega) (b : Int)
              obtain ⟨d1, d2⟩ := c4 (o17.cong rfl rfl) oap
              rw [← sR] at c2
              rw [← sC] at d1
              simp [x5, x10, x13, x15, x18, i1, i2, ldp, hbk', st, fa, la, lpa, xq, hqt, apart, hbI, astoAll, si, ci, c1]
              refine hN3 (b + 1) _ (by omega) ⟨by omega, by omega, ?_⟩
              simp [x5, x6, x10, x11, x13, x14, x15, x18, c3.heap, c3.nh, xq, xg, xnh, hqt, hgt, wrap_nat1 (show b < _ by omega), env_none]
              exact ⟨by rw [hT2], c2.cong rfl rfl, d1.cong rfl rfl, d2⟩
            · have hbI : ¬ (b : Int) < R.r := by omega
              have hw : IntKind.i64.wrap ((b : Int) - R.r) = ((b - r : Nat) : Int) := by rw [wrap64 (by omega) (by omega)]; omega
              rw [if_neg (fun h => hbr h.2)] at sR
              rw [if_pos ⟨hW, hbr⟩] at sC
              obtain ⟨y, hs4, c1, c2, c3, c4⟩ := add_apart (hs := ⟨fun k' => if k' = t then some (rowL k T2) else s3.hs.heap k', s3.hs.nh, s3.hs.nt, s3.hs.tok⟩) (o17.cong rfl rfl) (by omega) ((b - r : Nat) : Int)
              obtain ⟨d1, d2⟩ := c4 (o16.cong rfl rfl) oap.symm
              rw [← sC] at c2
              rw [← sR] at d1
              generalize b - r = br at *
              simp [x5, x10, x13, x15, x18, i1, i2, ldp, hbk', st, fa, la, lpa, xq, hqt, apart, hbI, hw, astoAll, si, ci, c1]
              refine hN3 (b + 1) _ (by omega) ⟨by omega, by omega, ?_⟩
              simp [x5, x6, x10, x11, x13, x14, x15, x18, c3.heap, c3.nh, xq, xg, xnh, hqt, hgt, wrap_nat1 (show b < _ by omega), env_none]
              exact ⟨by rw [hT2], d1.cong rfl rfl, c2.cong rfl rfl, d2.symm⟩
        · have hbk' : b = k := by omega
          subst hbk'
          have hK : D.2.length < gs.length := by rw [hrest]; simp
          have hgK : gs[D.2.length] = (rgR W a r (b - a), rgC W a r (b - a)) := by
            simp only [hrest]
            rw [List.getElem_append_left (by simp), List.getElem_append_right (Nat.le_refl _)]
            simp
          obtain ⟨ga, gb, g1, g2, g3⟩ := gidx hGI (k := .i64) hK
          rw [hgK] at g2 g3
          have lg : ∀ {z : AV} {l : List Int}, asI z = some l → ∀ h, aload h false 1 (.ptr z) = some z := by
            intro z l hz h
            rcases asI_inv hz with ⟨rfl, _⟩ | ⟨c, rfl⟩ <;> rfl
          have lga := lg g2
          have lgb := lg g3
          have gf0 : afaddr false 1 0 (.ptr (.agg [ga, gb])) = some (.ptr ga) := by
            rcases asI_inv g2 with ⟨rfl, _⟩ | ⟨c, rfl⟩ <;> rfl
          have gf1 : afaddr false 1 1 (.ptr (.agg [ga, gb])) = some (.ptr gb) := by
            rcases asI_inv g2 with ⟨rfl, _⟩ | ⟨c, rfl⟩ <;> rcases asI_inv g3 with ⟨rfl, _⟩ | ⟨c, rfl⟩ <;> rfl
          have lR := rgR_len (W := W) (i := a) (r := r) (b - a)
          have lC := rgC_len (W := W) (i := a) (r := r) (b - a)
          have n1 := SNum_i g2 (o16.asI (by omega))
          have n2 := SNum_i g3 (o17.asI (by omega))
          simp only [decide_true] at n1 n2
          have hK1 : ¬ ((gs.length : Int) ≤ (D.2.length : Int)) := by omega
          have hK2 : ¬ (gs.length ≤ D.2.length) := by omega
          simp [x11, x14, x15, hGlen, hK1, hK2, g1, gf0, gf1, lga, lgb, n1, n2, wrap_nat1 (show D.2.length < _ by omega)]
          refine hN2 (a + 1) _ (by omega) ⟨by omega, ?_⟩
          rw [hnx]
          simp [x5, x6, x10, x11, x13, xq, xg, xt, xnh, wrap_nat1 (show a < _ by omega)]
    | false =>
      rw [hkp] at q39
      rw [hkp, if_neg (by simp)] at hVf
      simp [e5, e6, q38, q39, la, lpa, fa, hh, apart, t1, t2, afill, si, ci, setL, z1, z2, z3, z4, hVf, hg]
      refine At.hc (R := fun e hs2 => e = .ret (.tup []) ∧ hs2.heap g = some (rl6 (prK R (2 ^ k))) ∧ hs2.heap q = some [.int .i64 R.r, .int .i64 R.c, y0] ∧ g + 1 ≤ hs2.nh) ?_ ?_ ?_
      · refine hcall.mono ?_
        rintro e hs2 ⟨a1, ⟨a2, a3, a4⟩, a5⟩
        exact ⟨a1, a2, a3, by simpa using a5⟩
      rotate_left
      · rintro v hs2 ⟨hv, _⟩; cases hv
      rintro v hs2 ⟨hv2, hgg, hhq, hnh2⟩
      injection hv2 with hv2; subst hv2
      have hmk := amake_eq (z := .bool false) (hs := hs2) (k1 := .i64) (k2 := .i64) (n := k) (by omega)
      generalize ht : hs2.nh = t at *
      have hqt : ¬ q = t := by omega
      have hgt : ¬ g = t := by omega
      simp [e5, e6, la, hhq, apart, hSG, hmk, ht]
      refine At.loop (fun (a : Nat) s => a ≤ k ∧ s.env 5 = .ref q 0 ∧ s.env 6 = .int .i64 (k : Int) ∧ s.env 10 = .ref g 0 ∧ s.env 11 = G ∧ s.env 13 = .msl false 1 t 0 k true ∧ s.env 14 = .int .i64 ((grpM M k r a).2.length : Nat) ∧ s.env 15 = .int .i64 (a : Int) ∧ s.hs.heap q = some [.int .i64 R.r, .int .i64 R.c, y0] ∧ s.hs.heap g = some (rl6 (prK R (2 ^ k))) ∧ s.hs.heap t = some (rowL k (grpM M k r a).1) ∧ t < s.hs.nh) (fun a => k - a) 0 ?_ ?_
      · have ho1 : hs2.blk (List.replicate k (.bool false)) = hs2.blk (List.replicate k (.bool false)) := rfl
        simp [e5, e6, grpM, ht]
        rw [HS.blk_old (by omega), HS.blk_old (by omega)]
        exact ⟨hhq, hgg, by rw [← ht]; simp [HS.blk, rowL_0]⟩
      rintro N2 a s2 hN2 ⟨ha, w5, w6, w10, w11, w13, w14, w15, wq, wg, wt, wnh⟩
      simp [w6, w15]
      refine At.dec (fun hlt2 => ?_) (fun hlt2 => ?_)
      rotate_left
      · have hak : a = k := by omega
        subst hak
        rw [← hgs] at w14
        simp [w11, w14, hGlen]
      have hak : a < k := by omega
      have ldT := load_row (o := a) wt hak
      cases hT : (grpM M k r a).1 a with
      | true =>
        rw [hT] at ldT
        have hnx : grpM M k r (a + 1) = grpM M k r a := by simp only [grpM]; rw [if_pos hT]
        simp [w13, w15, hak, ldT]
        refine hN2 (a + 1) _ (by omega) ⟨by omega, ?_⟩
        rw [hnx]
        simp [w5, w6, w10, w11, w13, w14, wq, wg, wt, wnh, wrap_nat1 (show a < _ by omega)]
      | false =>
        rw [hT] at ldT
        have hnx : grpM M k r (a + 1) = (rgT (bothM M a) a (grpM M k r a).1 (k - a), (grpM M k r a).2 ++ [(rgR (bothM M a) a r (k - a), rgC (bothM M a) a r (k - a))]) := by simp only [grpM]; rw [if_neg (by simp [hT])]
        obtain ⟨rest, hrest⟩ := grpM_pre (M := M) (n := k) (r := r) (i := a + 1) (m := k) (by omega)
        rw [← hgs, hnx] at hrest
        have hDl := grpM_len (M := M) (n := k) (r := r) a
        have hpra := fun b (hb : b < k) => hpr a b hak hb
        generalize hD : grpM M k r a = D at *
        generalize bothM M a = W at *
        simp [w13, w15, hak, ldT]
        refine At.loop (fun (b : Nat) s => a ≤ b ∧ b ≤ k ∧ s.env 5 = .ref q 0 ∧ s.env 6 = .int .i64 (k : Int) ∧ s.env 10 = .ref g 0 ∧ s.env 11 = G ∧ s.env 13 = .msl false 1 t 0 k true ∧ s.env 14 = .int .i64 (D.2.length : Nat) ∧ s.env 15 = .int .i64 (a : Int) ∧ s.env 18 = .int .i64 (b : Int) ∧ s.hs.heap q = some [.int .i64 R.r, .int .i64 R.c, y0] ∧ s.hs.heap g = some (rl6 (prK R (2 ^ k))) ∧ s.hs.heap t = some (rowL k (rgT W a D.1 (b - a))) ∧ t < s.hs.nh ∧ Outs 1 s.hs (s.env 16) (ints (rgR W a r (b - a))) ∧ Outs 1 s.hs (s.env 17) (ints (rgC W a r (b - a))) ∧ Apart (s.env 16) (s.env 17)) (fun b => k - b) a ?_ ?_
        · refine ⟨Nat.le_refl _, by omega, ?_⟩
          simp [w5, w6, w10, w11, w13, w14, w15, wq, wg, wt, wnh, rgT, rgR, rgC]
          exact .nil
        rintro N3 b s3 hN3 ⟨hab, hbk, x5, x6, x10, x11, x13, x14, x15, x18, xq, xg, xt, xnh, o16, o17, oap⟩
        simp [x6, x18]
        refine At.dec (fun hlt3 => ?_) (fun hlt3 => ?_)
        · have hbk' : b < k := by omega
          have i1 := idxA_row (i := g) (k := .i64) (n := a) (by omega)
          have i2 := idxA_cell (i := g) (o := a * 6) (k := .i64) (n := b) (by omega)
          have ldp : aload s3.hs.heap false 1 (.ref g (a * 6 + b)) = some (.bool (!W b)) := by
            have := load_row (n := 36) (o := a * 6 + b) xg (by omega)
            rw [this, show (a * 6 + b) / 6 = a by omega, show (a * 6 + b) % 6 = b by omega, hpra b hbk']
          have sR : rgR W a r (b + 1 - a) = if W b = true ∧ b < r then rgR W a r (b - a) ++ [(b : Int)] else rgR W a r (b - a) := by
            rw [show b + 1 - a = (b - a) + 1 by omega]; simp only [rgR]; rw [show a + (b - a) = b by omega]
          have sC : rgC W a r (b + 1 - a) = if W b = true ∧ ¬ b < r then rgC W a r (b - a) ++ [((b - r : Nat) : Int)] else rgC W a r (b - a) := by
            rw [show b + 1 - a = (b - a) + 1 by omega]; simp only [rgC]; rw [show a + (b - a) = b by omega]
          have sT : rgT W a D.1 (b + 1 - a) = if W b = true then (fun j => decide (j = b) || rgT W a D.1 (b - a) j) else rgT W a D.1 (b - a) := by
            rw [show b + 1 - a = (b - a) + 1 by omega]; simp only [rgT]; rw [show a + (b - a) = b by omega]
          have lR := rgR_len (W := W) (i := a) (r := r) (b - a)
          have lC := rgC_len (W := W) (i := a) (r := r) (b - a)
          cases hW : W b with
          | false =>
            rw [hW] at ldp
            rw [if_neg (by simp [hW])] at sR sC sT
            simp [x10, x15, x18, i1, i2, ldp]
            refine hN3 (b + 1) _ (by omega) ⟨by omega, by omega, ?_⟩
            rw [sR, sC, sT]
            simp [x5, x6, x10, x11, x13, x14, x15, xq, xg, xt, xnh, wrap_nat1 (show b < _ by omega)]
            exact ⟨o16.cong rfl rfl, o17.cong rfl rfl, oap⟩
          | true =>
            rw [hW] at ldp
            rw [if_pos hW] at sT
            have st := store_row (o := b) xt hbk'
            have hmk1 : mk1 (rgT W a D.1 (b - a)) b = rgT W a D.1 (b + 1 - a) := by
              rw [sT]; funext j; unfold mk1; by_cases h : j = b <;> simp [h]
            rw [hmk1] at st
            generalize hT2 : rgT W a D.1 (b + 1 - a) = T2 at *
            by_cases hbr : b < r
            · have hbI : (b : Int) < R.r := by omega
              rw [if_pos ⟨hW, hbr⟩] at sR
              rw [if_neg (fun h => h.2 hbr)] at sC
              obtain ⟨y, hs4, c1, c2, c3, c4⟩ := add_apart (hs := ⟨fun k' => if k' = t then some (rowL k T2) else s3.hs.heap k', s3.hs.nh, s3.hs.nt, s3.hs.tok⟩) (o16.cong rfl rfl) (by omega) (b : Int)
              obtain ⟨d1, d2⟩ := c4 (o17.cong rfl rfl) oap
              rw [← sR] at c2
              rw [← sC] at d1
              simp [x5, x10, x13, x15, x18, i1, i2, ldp, hbk', st, fa, la, lpa, xq, hqt, apart, hbI, astoAll, si, ci, c1]
              refine hN3 (b + 1) _ (by omega) ⟨by omega, by omega, ?_⟩
              simp [x5, x6, x10, x11, x13, x14, x15, x18, c3.heap, c3.nh, xq, xg, xnh, hqt, hgt, wrap_nat1 (show b < _ by omega), env_none]
              exact ⟨by rw [hT2], c2.cong rfl rfl, d1.cong rfl rfl, d2⟩
            · have hbI : ¬ (b : Int) < R.r := by omega
              have hw : IntKind.i64.wrap ((b : Int) - R.r) = ((b - r : Nat) : Int) := by rw [wrap64 (by omega) (by omega)]; omega
              rw [if_neg (fun h => hbr h.2)] at sR
              rw [if_pos ⟨hW, hbr⟩] at sC
              obtain ⟨y, hs4, c1, c2, c3, c4⟩ := add_apart (hs := ⟨fun k' => if k' = t then some (rowL k T2) else s3.hs.heap k', s3.hs.nh, s3.hs.nt, s3.hs.tok⟩) (o17.cong rfl rfl) (by omega) ((b - r : Nat) : Int)
              obtain ⟨d1, d2⟩ := c4 (o16.cong rfl rfl) oap.symm
              rw [← sC] at c2
              rw [← sR] at d1
              generalize b - r = br at *
              simp [x5, x10, x13, x15, x18, i1, i2, ldp, hbk', st, fa, la, lpa, xq, hqt, apart, hbI, hw, astoAll, si, ci, c1]
              refine hN3 (b + 1) _ (by omega) ⟨by omega, by omega, ?_⟩
              simp [x5, x6, x10, x11, x13, x14, x15, x18, c3.heap, c3.nh, xq, xg, xnh, hqt, hgt, wrap_nat1 (show b < _ by omega), env_none]
              exact ⟨by rw [hT2], d1.cong rfl rfl, c2.cong rfl rfl, d2.symm⟩
        · have hbk' : b = k := by omega
          subst hbk'
          have hK : D.2.length < gs.length := by rw [hrest]; simp
          have hgK : gs[D.2.length] = (rgR W a r (b - a), rgC W a r (b - a)) := by
            simp only [hrest]
            rw [List.getElem_append_left (by simp), List.getElem_append_right (Nat.le_refl _)]
            simp
          obtain ⟨ga, gb, g1, g2, g3⟩ := gidx hGI (k := .i64) hK
          rw [hgK] at g2 g3
          have lg : ∀ {z : AV} {l : List Int}, asI z = some l → ∀ h, aload h false 1 (.ptr z) = some z := by
            intro z l hz h
            rcases asI_inv hz with ⟨rfl, _⟩ | ⟨c, rfl⟩ <;> rfl
          have lga := lg g2
          have lgb := lg g3
          have gf0 : afaddr false 1 0 (.ptr (.agg [ga, gb])) = some (.ptr ga) := by
            rcases asI_inv g2 with ⟨rfl, _⟩ | ⟨c, rfl⟩ <;> rfl
          have gf1 : afaddr false 1 1 (.ptr (.agg [ga, gb])) = some (.ptr gb) := by
            rcases asI_inv g2 with ⟨rfl, _⟩ | ⟨c, rfl⟩ <;> rcases asI_inv g3 with ⟨rfl, _⟩ | ⟨c, rfl⟩ <;> rfl
          have lR := rgR_len (W := W) (i := a) (r := r) (b - a)
          have lC := rgC_len (W := W) (i := a) (r := r) (b - a)
          have n1 := SNum_i g2 (o16.asI (by omega))
          have n2 := SNum_i g3 (o17.asI (by omega))
          simp only [decide_true] at n1 n2
          have hK1 : ¬ ((gs.length : Int) ≤ (D.2.length : Int)) := by omega
          have hK2 : ¬ (gs.length ≤ D.2.length) := by omega
          simp [x11, x14, x15, hGlen, hK1, hK2, g1, gf0, gf1, lga, lgb, n1, n2, wrap_nat1 (show D.2.length < _ by omega)]
          refine hN2 (a + 1) _ (by omega) ⟨by omega, ?_⟩
          rw [hnx]
          simp [x5, x6, x10, x11, x13, xq, xg, xt, xnh, wrap_nat1 (show a < _ by omega)]
def TBy : Ty := .ar 6 (.int .i8)
theorem by_typed {x : AV} (h : ShV TBy x) : ∃ bs, x = byV bs ∧ bs.length = 6 ∧ ∀ v ∈ bs, -128 ≤ v ∧ v ≤ 127 := by
  obtain ⟨cs, rfl, g⟩ := shv_agg rfl h
  obtain ⟨ls, rfl, g1, g2⟩ := g
  match ls, g1 with
  | [p0, p1, p2, p3, p4, p5], _ =>
    obtain ⟨u0, rfl, h0⟩ := sh_int (g2 p0 (by simp))
    obtain ⟨u1, rfl, h1⟩ := sh_int (g2 p1 (by simp))
    obtain ⟨u2, rfl, h2⟩ := sh_int (g2 p2 (by simp))
    obtain ⟨u3, rfl, h3⟩ := sh_int (g2 p3 (by simp))
    obtain ⟨u4, rfl, h4⟩ := sh_int (g2 p4 (by simp))
    obtain ⟨u5, rfl, h5⟩ := sh_int (g2 p5 (by simp))
    refine ⟨[u0, u1, u2, u3, u4, u5], rfl, rfl, ?_⟩
    intro v hv
    simp only [List.mem_cons, List.not_mem_nil, or_false] at hv
    rcases hv with rfl | rfl | rfl | rfl | rfl | rfl <;> (apply i8_bd; assumption)
theorem kept_typed (xs : List AV) (h : Typed [TSh, TBy] xs) : PCall Try.prog 6 xs (.bool true) := by
  obtain ⟨x, y, rfl, hx, hy⟩ := h.two
  obtain ⟨a, b, l, hs⟩ := shelf_typed hx
  obtain ⟨bs, rfl, h6, hb⟩ := by_typed hy
  exact p6 hs h6 hb
end Go.Proofs.Ytecbbbocjmdfgaa
