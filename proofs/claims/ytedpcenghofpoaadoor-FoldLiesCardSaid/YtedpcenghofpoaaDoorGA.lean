/-
  The law's own test whether layers go through each other: the walk. Own work.
  The law's own test whether layers go through each other, whole: the walk. Own work.
  The law's own test is the reference's. Own work.
  Lists that lie, against the law's own test: the law's contract. Own work.
-/
import Derived.Test.YtedpcenghofpoaaDoorG6
set_option linter.unusedVariables false
set_option linter.unusedSimpArgs false
namespace Go.Proofs.YtedpcenghofpoaaDoor
open Go Fw

/-- whether a segment is over the place between x and x + 1 -/
def cov (l : List Int) (k : Nat) (x : Int) : Bool := decide (min (pn l k) (pn l (k + 1)) ≤ x) && decide (x + 1 ≤ max (pn l k) (pn l (k + 1)))
def ins3 (h : Nat → Int) (k a b : Nat) : Bool := mid (h k) (h a) (h b)
/-- nothing wrong between the crease i and the segment k -/
def thK (l : List Int) (h : Nat → Int) (i k : Nat) : Bool := !(cov l k (pn l (i + 1) - 1) && cov l k (pn l (i + 1)) && ins3 h k i (i + 1)) &&
  !(decide (k + 1 < l.length) && !decide (k = i) && decide (pn l (k + 1) = pn l (i + 1)) && (cov l k (pn l (i + 1)) == cov l i (pn l (i + 1))) && (ins3 h k i (i + 1) != ins3 h (k + 1) i (i + 1)))
def thI (l : List Int) (f : List UInt8) (h : Nat → Int) (i : Nat) : Bool := decide (decide (crs h i = 118) = decide (gF f i = 118)) && (List.range l.length).all (thK l h i)
def thB (l : List Int) (f : List UInt8) (h : Nat → Int) : Bool := (List.range (l.length - 1)).all (thI l f h)
theorem p73 {l : List Int} (hm : meas l = 0) {hs : HS} {b : Nat} {v : AV} (hv : asI v = some (hL (l.length + 1) (pn l))) (hb : hs.heap b = some [v]) {k : Nat} (hk : k < l.length) {x : Int} (hx : -1000 ≤ x ∧ x ≤ 1000) :
    FCall Tryd.prog 73 [.int .i64 (k : Int), .int .i64 x, .ref b 0] hs fun e hs' => e = .ret (.bool (cov l k x)) ∧ hs' = hs := by
  refine FCall.ofAt CtxOk.nil ok73 (by simp) ?_
  obtain ⟨m1, m2, m3, m4⟩ := meas_0 hm
  have ld : aload hs.heap false 1 (.ref b 0) = some v := load_one hb
  have i1 := idx_g hv (i := k) (by rw [hL_len]; omega) (k := .i64)
  have i2 := idx_g hv (i := k + 1) (by rw [hL_len]; omega) (k := .i64)
  rw [gI_hL (by omega)] at i1 i2
  have w1 := wrap_nat1 (show k < _ by omega)
  have w2 : IntKind.i64.wrap (x + 1) = x + 1 := wrap64 (by omega) (by omega)
  have mn : amin (.int .i64 (pn l k)) (.int .i64 (pn l (k + 1))) = some (.int .i64 (min (pn l k) (pn l (k + 1)))) := rfl
  have mx : amax (.int .i64 (pn l k)) (.int .i64 (pn l (k + 1))) = some (.int .i64 (max (pn l k) (pn l (k + 1)))) := rfl
  unfold cov
  generalize min (pn l k) (pn l (k + 1)) = vmn at mn ⊢
  generalize max (pn l k) (pn l (k + 1)) = vmx at mx ⊢
  generalize ((k + 1 : Nat) : Int) = k1 at w1 i2
  simp only [A73, R73]
  by_cases c1 : vmn ≤ x
  · simp [ld, i1, i2, w1, w2, mn, mx, -amin_int, -amax_int, c1]
  · simp [ld, i1, i2, w1, w2, mn, mx, -amin_int, -amax_int, c1]
theorem p74 {y : AV} {n : Nat} {h : Nat → Int} (hy : asI y = some (hL n h)) {k a b : Nat} (hk : k < n) (ha : a < n) (hb : b < n) : PCall Tryd.prog 74 [.int .i64 (k : Int), .int .i64 (a : Int), .int .i64 (b : Int), .ptr y] (.bool (ins3 h k a b)) := by
  refine PCall.of CtxOk.nil ok74 (by simp) rfl fun hs hbr => ?_
  have i1 := idx_g hy (i := k) (by rw [hL_len]; omega) (k := .i64)
  have i2 := idx_g hy (i := a) (by rw [hL_len]; omega) (k := .i64)
  have i3 := idx_g hy (i := b) (by rw [hL_len]; omega) (k := .i64)
  rw [gI_hL (by omega)] at i1 i2 i3
  have mn : amin (.int .i64 (h a)) (.int .i64 (h b)) = some (.int .i64 (min (h a) (h b))) := rfl
  have mx : amax (.int .i64 (h a)) (.int .i64 (h b)) = some (.int .i64 (max (h a) (h b))) := rfl
  unfold ins3 mid
  generalize min (h a) (h b) = vmn at mn ⊢
  generalize max (h a) (h b) = vmx at mx ⊢
  simp only [A74, R74]
  by_cases c1 : vmn < h k
  · simp [asI_ld hy, i1, i2, i3, mn, mx, -amin_int, -amax_int, c1]
  · simp [asI_ld hy, i1, i2, i3, mn, mx, -amin_int, -amax_int, c1]
end Go.Proofs.YtedpcenghofpoaaDoor
set_option linter.unusedVariables false
set_option linter.unusedSimpArgs false
namespace Go.Proofs.YtedpcenghofpoaaDoor
open Go Fw

/-- where the parts of p41 lie -/
structure A41at (hs0 : HS) (s : AS) (l : List Int) (f : List UInt8) (x y : AV) (v : AV) (m : Nat) : Prop where
  h6 : s.hs.heap hs0.nh = some [v]
  e2 : s.env 2 = .ptr (.agg [x, .str (bs f)])
  e3 : s.env 3 = .ptr y
  e4 : s.env 4 = .bool false
  e5 : s.env 5 = .int .i64 (l.length : Int)
  e6 : s.env 6 = .ref hs0.nh 0
  g : Grow s.hs v (hL m (pn l))
/-- the state of the second loop -/
structure B41 (hs2 : HS) (b : Nat) (s : AS) (n : Nat) (f : List UInt8) (x y : AV) (i : Nat) : Prop where
  eh : s.hs = hs2
  e2 : s.env 2 = .ptr (.agg [x, .str (bs f)])
  e3 : s.env 3 = .ptr y
  e4 : s.env 4 = .bool false
  e5 : s.env 5 = .int .i64 (n : Int)
  e6 : s.env 6 = .ref b 0
  e9 : s.env 9 = .fn (.func 73) [] [.ref b 0]
  e10 : s.env 10 = .fn (.func 74) [] [.ptr y]
  e11 : s.env 11 = .int .i64 (i : Int)
theorem up_t {h : Nat → Int} {i : Nat} (hp : i % 2 = 0) : decide (h i < h (i + 1)) = decide (crs h i = 118) := by
  unfold crs; by_cases c : h i < h (i + 1) <;> simp [c, hp]
theorem up_f {h : Nat → Int} {i : Nat} (hp : i % 2 = 1) : (!decide (h i < h (i + 1))) = decide (crs h i = 118) := by
  unfold crs; by_cases c : h i < h (i + 1) <;> simp [c, hp]
theorem p41 {x y : AV} {l : List Int} {f : List UInt8} {h : Nat → Int} (hx : asI x = some l) (hm : meas l = 0) (hf : f.length = l.length - 1) (hy : asI y = some (hL l.length h)) : PCall Tryd.prog 41 [.agg [x, .str (bs f)], y] (.bool (!thB l f h)) := by
  refine PCall.of CtxOk.nil ok41 (by simp) rfl fun hs hb => ?_
  obtain ⟨m1, m2, m3, m4⟩ := meas_0 hm
  have hal := alen_of hx
  simp only [A41, R41]
  obtain ⟨h1, st1, h1b⟩ : ∃ h1, astore (fun i => if i = hs.nh then some [.nilsl] else hs.heap i) 1 (.ref hs.nh 0) (.sl 1 [.int .i64 0] .exact) = some h1 ∧ h1 hs.nh = some [.sl 1 [.int .i64 0] .exact] :=
    ⟨_, store_one (u := .nilsl) (by simp) (by simp) (by simp), by simp⟩
  simp [cel_in, cel_agg, asI_sto hy, asI_ld hx, hal, astoAll, sto_in, st1]
  refine At.loop (fun (i : Nat) s => i ≤ l.length ∧ s.env 20 = x ∧ s.env 21 = .int .i64 (l.length : Int) ∧ s.env 22 = .int .i64 (i : Int) ∧ ∃ v, A41at hs s l f x y v (i + 1)) (fun i => l.length - i) 0 ?_ ?_
  · simp
    exact ⟨_, ⟨h1b, rfl, rfl, rfl, rfl, rfl, ⟨by simp [Fresh], rfl⟩⟩⟩
  rintro N i s hN ⟨hi, e20, e21, e22, v, A⟩
  obtain ⟨g6, e2, e3, e4, e5, e6, g⟩ := A
  simp [e21, e22]
  refine At.dec (fun hlt => ?_) (fun hlt => ?_)
  · have hi' : i < l.length := by omega
    have b0 := pn_le hm (i := i) (by omega)
    have b1 := pn_le hm (i := i + 1) (by omega)
    have hg := m3 (gI l i) (by rw [gI_of hi']; exact List.getElem_mem _)
    have hix := idx_g hx hi' (k := .i64)
    have hix2 := idx_g g.as (i := i) (by rw [hL_len]; omega) (k := .i64)
    rw [gI_hL (by omega)] at hix2
    have hLs : hL (i + 1 + 1) (pn l) = hL (i + 1) (pn l) ++ [pn l (i + 1)] := by simp only [hL]; rw [List.range_succ, List.map_append]; rfl
    obtain ⟨v', hs', a1, a2, a3⟩ := g.add (by rw [hL_len]; omega) (pn l (i + 1))
    rw [← hLs] at a2
    have ld : aload s.hs.heap false 1 (.ref hs.nh 0) = some v := load_one g6
    obtain ⟨h2, st2, h2b⟩ : ∃ h2, astore hs'.heap 1 (.ref hs.nh 0) v' = some h2 ∧ h2 hs.nh = some [v'] :=
      ⟨_, store_one (u := v) (by rw [a3.heap]; exact g6) (asI_sto a2.as) (asI_cells a2.as), by simp⟩
    have par : (i % 2 = 0 ∧ IntKind.i64.wrap (pn l i + gI l i) = pn l (i + 1) ∧ (i : Int).tmod 2 = 0) ∨
        (i % 2 = 1 ∧ IntKind.i64.wrap (pn l i + -gI l i) = pn l (i + 1) ∧ (i : Int).tmod 2 = 1) := by
      rcases Nat.mod_two_eq_zero_or_one i with hp | hp
      · left
        refine ⟨hp, ?_, ?_⟩
        · rw [pn_s, if_pos hp]; exact wrap64 (by omega) (by omega)
        · show ((i % 2 : Nat) : Int) = 0
          rw [hp]; rfl
      · right
        refine ⟨hp, ?_, ?_⟩
        · rw [pn_s, if_neg (by omega)]; exact wrap64 (by omega) (by omega)
        · show ((i % 2 : Nat) : Int) = 1
          rw [hp]; rfl
    have wg : IntKind.i64.wrap (-gI l i) = -gI l i := wrap64 (by omega) (by omega)
    have ng : aun .neg (.int .i64 (gI l i)) = some (.int .i64 (-gI l i)) := by show some (AV.int .i64 (IntKind.i64.wrap (0 - gI l i))) = _; rw [Int.zero_sub, wg]
    have w1 := wrap_nat1 (show i < _ by omega)
    rcases par with ⟨hp, wa, tm⟩ | ⟨hp, wa, tm⟩
    · simp [e20, e21, e22, e6, ld, hix, hix2, wa, tm, astoAll, sto_in, cel_in, a1, st2]
      refine hN (i + 1) _ (by omega) ⟨by omega, ?_⟩
      simp [e20, e21, e22, w1]
      exact ⟨_, ⟨h2b, e2, e3, e4, e5, e6, a2.keep ⟨Nat.le_refl _, fun _ _ h => h⟩⟩⟩
    · simp [e20, e21, e22, e6, ld, hix, hix2, wa, ng, tm, astoAll, sto_in, cel_in, a1, st2]
      refine hN (i + 1) _ (by omega) ⟨by omega, ?_⟩
      simp [e20, e21, e22, w1]
      exact ⟨_, ⟨h2b, e2, e3, e4, e5, e6, a2.keep ⟨Nat.le_refl _, fun _ _ h => h⟩⟩⟩
  have : i = l.length := by omega
  subst this
  clear hN
  simp [e2, e3, e6]
  generalize hhs : s.hs = hs2 at g6 g
  have hg := g.as
  have hld6 : aload hs2.heap false 1 (.ref hs.nh 0) = some v := load_one g6
  refine At.loop (fun (i : Nat) s => i ≤ l.length - 1 ∧ (List.range i).all (thI l f h) = true ∧ B41 hs2 hs.nh s l.length f x y i) (fun i => l.length - i) 0 ?_ ?_
  · simp
    exact ⟨hhs, e2, e3, e4, e5, e6, rfl, rfl, rfl⟩
  clear e20 e21 e22 e2 e3 e4 e5 e6 hi hlt hhs s
  rintro N i s hN ⟨hi, hall, eh, e2, e3, e4, e5, e6, e9, e10, e11⟩
  have w1 := wrap_nat1 (show i < _ by omega)
  have hcmp : ((i + 1 : Nat) : Int) < (l.length : Int) ↔ i + 1 < l.length := by omega
  have ix0 := fun hh : i < l.length => idx_g hy (i := i) (by rw [hL_len]; omega) (k := .i64)
  have ix1 := fun hh : i + 1 < l.length => idx_g hy (i := i + 1) (by rw [hL_len]; omega) (k := .i64)
  have iv1 := fun hh : i + 1 < l.length => idx_g hg (i := i + 1) (by rw [hL_len]; omega) (k := .i64)
  generalize hi1 : ((i + 1 : Nat) : Int) = i1 at w1 hcmp ix1 iv1
  rw [At.awp_seq, At.awp_seq]
  simp [e5, e11, w1, hcmp, -At.awp_seq]
  refine At.dec (fun hlt => ?_) (fun hlt => ?_)
  · have ix0 := ix0 (by omega)
    have ix1 := ix1 hlt
    have iv1 := iv1 hlt
    rw [gI_hL (by omega)] at ix0 ix1 iv1
    simp [-At.awp_seq]
    rw [At.awp_seq]
    simp [-At.awp_seq]
    rw [At.awp_seq]
    simp [-At.awp_seq, e3, e11, w1, ix0, ix1, asI_ld hy]
    rw [At.awp_seq]
    refine At.cut (fun s => B41 hs2 hs.nh s l.length f x y i ∧ s.env 12 = .bool (decide (crs h i = 118))) ?_ ?_
    · rcases Nat.mod_two_eq_zero_or_one i with hp | hp
      · have tm : (i : Int).tmod 2 = 0 := by
          show ((i % 2 : Nat) : Int) = 0
          rw [hp]; rfl
        simp [e11, tm, ← up_t hp]
        exact ⟨eh, e2, e3, e4, e5, e6, e9, e10, e11⟩
      · have tm : (i : Int).tmod 2 = 1 := by
          show ((i % 2 : Nat) : Int) = 1
          rw [hp]; rfl
        simp [e11, tm, ← up_f hp]
        exact ⟨eh, e2, e3, e4, e5, e6, e9, e10, e11⟩
    clear eh e2 e3 e4 e5 e6 e9 e10 e11 s
    rintro s ⟨⟨eh, e2, e3, e4, e5, e6, e9, e10, e11⟩, e12⟩
    have sx : ∀ hs, amem .sidx hs [.str (bs f), .int .i64 (i : Int)] = some (.int .u8 ((gF f i).toNat : Int), hs) := fun hs => sidx_of (by omega) (by rw [gF_of (by omega)]; simp)
    have h118 : ((gF f i).toNat : Int) = 118 ↔ gF f i = 118 := by
      constructor
      · intro e; exact UInt8.toNat_inj.1 (by show _ = 118; omega)
      · intro e; rw [e]; rfl
    rw [At.awp_seq, At.awp_seq]
    refine At.cut (fun s => B41 hs2 hs.nh s l.length f x y i ∧ s.env 71 = .bool (!(decide (decide (crs h i = 118) = decide (gF f i = 118))))) ?_ ?_
    · by_cases cA : crs h i = 118 <;> by_cases cB : gF f i = 118 <;> simp only [cA, cB, decide_true, decide_false] at e12 ⊢ <;> simp [e2, e11, e12, fa, sx, h118, cB] <;> first | done | exact ⟨eh, e2, e3, e4, e5, e6, e9, e10, e11⟩
    clear eh e2 e3 e4 e5 e6 e9 e10 e11 e12 s
    rintro s ⟨⟨eh, e2, e3, e4, e5, e6, e9, e10, e11⟩, e71⟩
    cases cC : decide (decide (crs h i = 118) = decide (gF f i = 118)) with
    | false =>
      have hth : thB l f h = false := all_range_false (k := i) (by omega) (by unfold thI; rw [cC]; rfl)
      rw [cC] at e71
      simp [e71, hth]
    | true =>
      rw [cC] at e71
      simp [e71, -At.awp_seq]
      rw [At.awp_seq]
      simp [eh, e6, e11, hld6, w1, iv1, -At.awp_seq]
      rw [At.awp_seq]
      simp [-At.awp_seq]
      refine At.loop (fun (k : Nat) s => k ≤ l.length ∧ (List.range k).all (thK l h i) = true ∧ B41 hs2 hs.nh s l.length f x y i ∧ s.env 13 = .int .i64 (pn l (i + 1)) ∧ s.env 14 = .int .i64 (k : Int)) (fun k => l.length - k) 0 ?_ ?_
      · simp
        first | done | exact ⟨eh, e2, e3, e4, e5, e6, e9, e10, e11⟩
      clear eh e2 e3 e4 e5 e6 e9 e10 e11 e71 s
      rintro N2 k s hN2 ⟨hk, hall2, ⟨eh, e2, e3, e4, e5, e6, e9, e10, e11⟩, e13, e14⟩
      rw [At.awp_seq, At.awp_seq]
      simp [e5, e14, -At.awp_seq]
      refine At.dec (fun hlt2 => ?_) (fun hlt2 => ?_)
      · have q73 : ∀ (hs3 : HS), hs3 = hs2 → ∀ (j : Nat) (z : Int), j < l.length → -1000 ≤ z ∧ z ≤ 1000 → FCall Tryd.prog 73 [.int .i64 (j : Int), .int .i64 z, .ref hs.nh 0] hs3 fun e hs' => e = .ret (.bool (cov l j z)) ∧ hs' = hs2 := fun hs3 e j z hj hz => by
          subst e; exact p73 hm hg g6 hj hz
        have q74 : ∀ (hs3 : HS), hs3 = hs2 → ∀ (j : Nat), j < l.length → FCall Tryd.prog 74 [.int .i64 (j : Int), .int .i64 (i : Int), .int .i64 i1, .ptr y] hs3 fun e hs' => e = .ret (.bool (ins3 h j i (i + 1))) ∧ hs' = hs2 := fun hs3 e j hj => by
          subst e; rw [← hi1]; exact (p74 hy (a := i) hj (by omega) hlt).fcall _
        have bp := pn_le hm (i := i + 1) (by omega)
        have wm : IntKind.i64.wrap (pn l (i + 1) - 1) = pn l (i + 1) - 1 := wrap64 (by omega) (by omega)
        simp [-At.awp_seq]
        rw [At.awp_seq]
        simp [-At.awp_seq]
        rw [At.awp_seq, At.awp_seq]
        refine At.cut (fun s => B41 hs2 hs.nh s l.length f x y i ∧ s.env 13 = .int .i64 (pn l (i + 1)) ∧ s.env 14 = .int .i64 (k : Int) ∧ s.env 100 = .bool (cov l k (pn l (i + 1) - 1) && cov l k (pn l (i + 1)) && ins3 h k i (i + 1))) ?_ ?_
        · simp [e9, e13, e14, wm]
          refine At.hc (q73 _ eh k _ hlt2 (by omega)) ?_ ?_
          rotate_left
          · rintro v hs3 ⟨hv, _⟩; cases hv
          rintro v hs3 ⟨hv, rfl⟩
          injection hv with hv; subst hv
          cases c1 : cov l k (pn l (i + 1) - 1) with
          | false =>
            simp
            exact ⟨⟨rfl, e2, e3, e4, e5, e6, e9, e10, e11⟩, e13, e14⟩
          | true =>
            simp [e9, e13, e14]
            refine At.hc (q73 _ rfl k _ hlt2 (by omega)) ?_ ?_
            rotate_left
            · rintro v hs3 ⟨hv, _⟩; cases hv
            rintro v hs3 ⟨hv, rfl⟩
            injection hv with hv; subst hv
            cases c2 : cov l k (pn l (i + 1)) with
            | false =>
              simp
              exact ⟨⟨rfl, e2, e3, e4, e5, e6, e9, e10, e11⟩, e13, e14⟩
            | true =>
              simp [e10, e11, e14, w1]
              refine At.hc (q74 _ rfl k hlt2) ?_ ?_
              rotate_left
              · rintro v hs3 ⟨hv, _⟩; cases hv
              rintro v hs3 ⟨hv, rfl⟩
              injection hv with hv; subst hv
              simp
              exact ⟨⟨rfl, e2, e3, e4, e5, e6, e9, e10, e11⟩, e13, e14⟩
        clear eh e2 e3 e4 e5 e6 e9 e10 e11 e13 e14 s
        rintro s ⟨⟨eh, e2, e3, e4, e5, e6, e9, e10, e11⟩, e13, e14, e100⟩
        cases c1 : (cov l k (pn l (i + 1) - 1) && cov l k (pn l (i + 1)) && ins3 h k i (i + 1)) with
        | true =>
          have hthk : thK l h i k = false := by unfold thK; rw [c1]; rfl
          have hth : thB l f h = false := all_range_false (k := i) (by omega) (by unfold thI; rw [all_range_false hlt2 hthk, Bool.and_false])
          rw [c1] at e100
          simp [e100, hth]
        | false =>
          rw [c1] at e100
          simp [e100, -At.awp_seq]
          rw [At.awp_seq]
          refine At.cut (fun s => B41 hs2 hs.nh s l.length f x y i ∧ s.env 13 = .int .i64 (pn l (i + 1)) ∧ s.env 14 = .int .i64 (k : Int) ∧ s.env 145 = .bool (decide (k + 1 < l.length) && !decide (k = i) && decide (pn l (k + 1) = pn l (i + 1)) && (cov l k (pn l (i + 1)) == cov l i (pn l (i + 1))) && (ins3 h k i (i + 1) != ins3 h (k + 1) i (i + 1)))) ?_ ?_
          · have w2 := wrap_nat1 (show k < _ by omega)
            have hcmp2 : ((k + 1 : Nat) : Int) < (l.length : Int) ↔ k + 1 < l.length := by omega
            have hv2 := idx_g hg (i := k + 1) (by rw [hL_len]; omega) (k := .i64)
            rw [gI_hL (by omega)] at hv2
            have q74k := fun hs3 e hh => q74 hs3 e (k + 1) hh
            generalize hk1 : ((k + 1 : Nat) : Int) = k1 at w2 hcmp2 hv2 q74k
            by_cases d1 : k + 1 < l.length
            rotate_left
            · simp [e5, e13, e14, w2, hcmp2, d1]
              exact ⟨eh, e2, e3, e4, e5, e6, e9, e10, e11⟩
            by_cases d2 : k = i
            · have d2' : (k : Int) = (i : Int) := by omega
              subst d2
              simp [e5, e11, e13, e14, w1, hcmp, d1]
              exact ⟨eh, e2, e3, e4, e5, e6, e9, e10, e11⟩
            have d2' : ¬ (k : Int) = (i : Int) := by omega
            by_cases d3 : pn l (k + 1) = pn l (i + 1)
            rotate_left
            · simp [e5, e6, e11, e13, e14, w2, hcmp2, d1, d2, d2', eh, hld6, hv2, d3]
              exact ⟨eh, e2, e3, e4, e5, e6, e9, e10, e11⟩
            simp [e5, e6, e9, e11, e13, e14, w2, hcmp2, d1, d2, d2', eh, hld6, hv2, d3]
            refine At.hc (q73 _ eh k _ hlt2 (by omega)) ?_ ?_
            rotate_left
            · rintro v hs3 ⟨hv, _⟩; cases hv
            rintro v hs3 ⟨hv, rfl⟩
            injection hv with hv; subst hv
            simp [e9, e11, e13]
            refine At.hc (q73 _ rfl i _ (by omega) (by omega)) ?_ ?_
            rotate_left
            · rintro v hs3 ⟨hv, _⟩; cases hv
            rintro v hs3 ⟨hv, rfl⟩
            injection hv with hv; subst hv
            by_cases c3 : cov l k (pn l (i + 1)) = cov l i (pn l (i + 1))
            rotate_left
            · simp [c3, e13, e14]
              exact ⟨rfl, e2, e3, e4, e5, e6, e9, e10, e11⟩
            · simp [c3, e10, e11, e14, w1]
              refine At.hc (q74 _ rfl k hlt2) ?_ ?_
              rotate_left
              · rintro v hs3 ⟨hv, _⟩; cases hv
              rintro v hs3 ⟨hv, rfl⟩
              injection hv with hv; subst hv
              simp [e10, e11, e14, w1, w2]
              refine At.hc (q74k _ rfl d1) ?_ ?_
              rotate_left
              · rintro v hs3 ⟨hv, _⟩; cases hv
              rintro v hs3 ⟨hv, rfl⟩
              injection hv with hv; subst hv
              simp
              exact At.of ⟨⟨rfl, e2, e3, e4, e5, e6, e9, e10, e11⟩, e13, e14, by cases ins3 h k i (i + 1) <;> cases ins3 h (k + 1) i (i + 1) <;> rfl⟩
          clear eh e2 e3 e4 e5 e6 e9 e10 e11 e13 e14 e100 s
          rintro s ⟨⟨eh, e2, e3, e4, e5, e6, e9, e10, e11⟩, e13, e14, e145⟩
          cases c2 : (decide (k + 1 < l.length) && !decide (k = i) && decide (pn l (k + 1) = pn l (i + 1)) && (cov l k (pn l (i + 1)) == cov l i (pn l (i + 1))) && (ins3 h k i (i + 1) != ins3 h (k + 1) i (i + 1))) with
          | true =>
            have hthk : thK l h i k = false := by unfold thK; rw [c2, Bool.not_true, Bool.and_false]
            have hth : thB l f h = false := all_range_false (k := i) (by omega) (by unfold thI; rw [all_range_false hlt2 hthk, Bool.and_false])
            rw [c2] at e145
            simp [e145, hth]
          | false =>
            have hthk : thK l h i k = true := by unfold thK; rw [c1, c2]; rfl
            rw [c2] at e145
            have w2 := wrap_nat1 (show k < _ by omega)
            simp [e145, e14]
            refine hN2 (k + 1) _ (by omega) ⟨by omega, by rw [all_range_succ, hall2, hthk]; rfl, ?_⟩
            simp [e13, w2]
            exact ⟨eh, e2, e3, e4, e5, e6, e9, e10, e11⟩
      · have : k = l.length := by omega
        subst this
        have hthi : thI l f h i = true := by unfold thI; rw [cC, hall2]; rfl
        simp [e11]
        refine hN (i + 1) _ (by omega) ⟨by omega, by rw [all_range_succ, hall, hthi]; rfl, ?_⟩
        exact ⟨eh, e2, e3, e4, e5, e6, e9, e10, by simp [w1, hi1]⟩
  · have : i = l.length - 1 := by omega
    subst this
    have : thB l f h = true := hall
    simp [this]
end Go.Proofs.YtedpcenghofpoaaDoor
set_option linter.unusedVariables false
set_option linter.unusedSimpArgs false
namespace Go.Proofs.YtedpcenghofpoaaDoor
open Go Fw

theorem cov_mid (l : List Int) (k : Nat) (y : Int) : (cov l k (y - 1) && cov l k y) = mid y (pn l k) (pn l (k + 1)) := by
  unfold cov mid
  rw [Bool.eq_iff_iff]
  simp only [Bool.and_eq_true, decide_eq_true_eq]
  omega
theorem cov_end {l : List Int} {k : Nat} (h : 1 ≤ gI l k) {y : Int} (hy : pn l (k + 1) = y) : cov l k y = decide (k % 2 = 1) := by
  unfold cov
  have := pn_s l k
  rw [Bool.eq_iff_iff]
  simp only [Bool.and_eq_true, decide_eq_true_eq]
  split at this <;> omega
theorem thI_eq {l : List Int} (hm : meas l = 0) {f : List UInt8} (h : Nat → Int) {i : Nat} (hi : i < l.length - 1) : thI l f h i = (decide (decide (crs h i = 118) = decide (gF f i = 118)) && fitI l h i) := by
  obtain ⟨m1, m2, m3, m4⟩ := meas_0 hm
  have hg : ∀ k, k < l.length → 1 ≤ gI l k := fun k hk => by rw [gI_of hk]; exact (m3 _ (List.getElem_mem _)).1
  unfold thI fitI
  rw [parR_all]
  congr 1
  have hk : ∀ k, thK l h i k = (thrB l h i k && (!decide (k + 1 < l.length) || parR l h i k)) ∨ l.length ≤ k := by
    intro k
    by_cases hkl : l.length ≤ k
    · exact .inr hkl
    refine .inl ?_
    unfold thK thrB ins3
    rw [cov_mid]
    congr 1
    by_cases hk1 : k + 1 < l.length
    rotate_left
    · simp [hk1]
    by_cases hp : pn l (k + 1) = pn l (i + 1)
    rotate_left
    · unfold parR; simp [hp]
    have c1 := cov_end (hg k (by omega)) hp
    have c2 := cov_end (hg i (by omega)) (rfl : pn l (i + 1) = pn l (i + 1))
    rw [c1, c2]
    unfold parR ins
    have : (decide (k % 2 = 1) == decide (i % 2 = 1)) = decide (k % 2 = i % 2) := by
      rw [Bool.eq_iff_iff, beq_iff_eq, decide_eq_decide, decide_eq_true_eq]
      omega
    rw [this]
    simp only [hp, hk1, decide_true, Bool.true_and, Bool.and_true, Bool.not_true, Bool.false_or]
    cases decide (k = i) <;> cases decide (k % 2 = i % 2) <;> cases mid (h k) (h i) (h (i + 1)) <;> cases mid (h (k + 1)) (h i) (h (i + 1)) <;> rfl
  rw [Bool.eq_iff_iff, Bool.and_eq_true, List.all_eq_true, List.all_eq_true, List.all_eq_true]
  constructor
  · intro hh
    refine ⟨fun k hk' => ?_, fun k hk' => ?_⟩
    · have h1 := hh k hk'
      rcases hk k with e | e
      · rw [e, Bool.and_eq_true] at h1; exact h1.1
      · have := List.mem_range.1 hk'; omega
    · have hk2 := List.mem_range.1 hk'
      have h1 := hh k (List.mem_range.2 (by omega))
      rcases hk k with e | e
      · rw [e, Bool.and_eq_true] at h1
        simpa [show k + 1 < l.length by omega] using h1.2
      · omega
  · rintro ⟨h1, h2⟩ k hk'
    have hk2 := List.mem_range.1 hk'
    rcases hk k with e | e
    · rw [e, Bool.and_eq_true]
      refine ⟨h1 k hk', ?_⟩
      by_cases hk1 : k + 1 < l.length
      · rw [h2 k (List.mem_range.2 (by omega))]; simp
      · simp [hk1]
    · omega
theorem crs_or (h : Nat → Int) (i : Nat) : crs h i = 118 ∨ crs h i = 109 := by unfold crs; split <;> simp
theorem thB_eq {l : List Int} (hm : meas l = 0) {f : List UInt8} (hf : f.length = l.length - 1) (hv : ∀ c ∈ f, c = 118 ∨ c = 109) (h : Nat → Int) : thB l f h = (decide (crsL h (l.length - 1) = f) && fitB l h) := by
  have hc : crsL h (l.length - 1) = f ↔ ∀ i, i < l.length - 1 → (crs h i = 118 ↔ gF f i = 118) := by
    constructor
    · intro e i hi
      rw [← e]
      have : gF (crsL h (l.length - 1)) i = crs h i := by
        rw [gF_of (by simp [crsL]; omega)]; simp [crsL]
      rw [this]
    · intro e
      apply List.ext_getElem
      · simp [crsL]; omega
      · intro i h1 h2
        have := e i (by omega)
        rw [gF_of h2] at this
        have e2 : (crsL h (l.length - 1))[i] = crs h i := by simp [crsL]
        rw [e2]
        rcases crs_or h i with h3 | h3 <;> rcases hv f[i] (List.getElem_mem _) with h4 | h4
        · rw [h3, h4]
        · have := this.1 h3; rw [h4] at this; cases this
        · have := this.2 h4; rw [h3] at this; cases this
        · rw [h3, h4]
  unfold thB fitB
  rw [Bool.eq_iff_iff, Bool.and_eq_true, decide_eq_true_eq, List.all_eq_true, List.all_eq_true, hc]
  constructor
  · intro hh
    refine ⟨fun i hi => ?_, fun i hi => ?_⟩
    · have := hh i (List.mem_range.2 hi)
      rw [thI_eq hm h hi, Bool.and_eq_true, decide_eq_true_eq, decide_eq_decide] at this
      exact this.1
    · have := hh i hi
      rw [thI_eq hm h (List.mem_range.1 hi), Bool.and_eq_true] at this
      exact this.2
  · rintro ⟨h1, h2⟩ i hi
    rw [thI_eq hm h (List.mem_range.1 hi), Bool.and_eq_true, decide_eq_true_eq, decide_eq_decide]
    exact ⟨h1 i (List.mem_range.1 hi), h2 i hi⟩
/-- an order of n layers -/
def IsOrd (n : Nat) (o : List Int) : Prop := o.Perm (hL n fun k => (k : Int))
theorem IsOrd.len {n : Nat} {o : List Int} (h : IsOrd n o) : o.length = n := by rw [h.length_eq, hL_len]
theorem IsOrd.rng {n : Nat} {o : List Int} (h : IsOrd n o) : ∀ a ∈ o, 0 ≤ a ∧ a < n := by
  intro a ha
  have := h.mem_iff.1 ha
  simp only [hL, List.mem_map, List.mem_range] at this
  obtain ⟨k, hk, rfl⟩ := this
  omega
theorem IsOrd.nd {n : Nat} {o : List Int} (h : IsOrd n o) : o.Nodup := by
  refine h.nodup_iff.2 ?_
  unfold hL
  exact List.Pairwise.map _ (fun a b hab e => hab (by exact_mod_cast e)) List.nodup_range
theorem IsOrd.ok {n : Nat} {o : List Int} (h : IsOrd n o) : firstE (oE o) o.length = 0 := by
  refine firstE_zero fun k hk => ?_
  have hl := h.len
  have hr := h.rng o[k] (List.getElem_mem _)
  unfold oE
  rw [gI_of hk]
  rw [if_neg, if_neg]
  · intro hm
    obtain ⟨j, hj, e⟩ := List.mem_take_iff_getElem.1 hm
    have := (List.getElem_inj h.nd).1 e
    omega
  · simp [btw]; omega
theorem liesR_ord {l : List Int} {f : List UInt8} {o : List Int} (hc : chk l f = 0) (h : IsOrd l.length o) : liesR l f o = if crsL (hO o) (l.length - 1) = f ∧ fitB l (hO o) = true then 0 else 13 := by
  unfold liesR
  rw [if_neg (by simp [hc]), if_neg (by simp [h.len]), if_neg (by simp [h.ok]), h.len]
end Go.Proofs.YtedpcenghofpoaaDoor
set_option linter.unusedVariables false
set_option linter.unusedSimpArgs false
namespace Go.Proofs.YtedpcenghofpoaaDoor
open Go Fw

theorem cut_out {x : AV} {l : List Int} (hx : asI x = some l) {i : Nat} (hi : i < l.length) (hl : l.length ≤ 1000) (hs : HS) :
    ∃ y1 z1 hs1 y2 z hs2, aslice 1 x none (some (.int .i64 (i : Int))) none = some y1 ∧ aappend 1 hs (.sl 1 [] .exact) y1 = some (z1, hs1) ∧ aslice 1 x (some (.int .i64 ((i + 1 : Nat) : Int))) none none = some y2 ∧
      aappend 1 hs1 z1 y2 = some (z, hs2) ∧ asI z = some (l.take i ++ l.drop (i + 1)) ∧ SameMem hs hs2 ∧ KeepT hs hs2 := by
  obtain ⟨y1, a1, b1⟩ := sl_take hx (k := i) (by omega)
  obtain ⟨y2, a2, b2⟩ := sl_drop hx (k := i + 1) (by omega)
  have hlt : (l.take i).length = i := by rw [List.length_take]; omega
  have hld : (l.drop (i + 1)).length = l.length - (i + 1) := List.length_drop
  have k2 : ∀ hs : HS, KeepT hs hs := fun hs => ⟨Nat.le_refl _, fun _ _ h => h⟩
  by_cases h1 : l.take i = []
  · rw [h1] at b1
    have e1 : aappend 1 hs (.sl 1 [] .exact) y1 = some (.sl 1 [] .exact, hs) := by
      obtain ⟨p1, p2⟩ := elems_of (asI_asV b1)
      rw [append_eq (xs := []) rfl p1 (by simp [aszOk]) p2 (by simp [ints]), if_pos (by rfl)]
    by_cases h2 : l.drop (i + 1) = []
    · rw [h2] at b2
      have e2 : aappend 1 hs (.sl 1 [] .exact) y2 = some (.sl 1 [] .exact, hs) := by
        obtain ⟨p1, p2⟩ := elems_of (asI_asV b2)
        rw [append_eq (xs := []) rfl p1 (by simp [aszOk]) p2 (by simp [ints]), if_pos (by rfl)]
      exact ⟨y1, _, _, y2, _, _, a1, e1, a2, e2, by rw [h1, h2]; rfl, ⟨rfl, rfl⟩, k2 _⟩
    · obtain ⟨hs', p1, p2, p3, p4, p5⟩ := append_exact (sz := 1) (hs := hs) (xs := []) (q := y2) (ys := ints (l.drop (i + 1))) (asI_asV b2) (by simp [ints]; omega) (by simpa [ints] using h2)
      exact ⟨y1, _, _, y2, _, _, a1, e1, a2, p1, by rw [h1]; simp only [List.nil_append]; exact asI_sl (by omega), p3, p4⟩
  · obtain ⟨hs1, p1, p2, p3, p4, p5⟩ := append_exact (sz := 1) (hs := hs) (xs := []) (q := y1) (ys := ints (l.take i)) (asI_asV b1) (by simp [ints]; omega) (by simpa [ints] using h1)
    obtain ⟨q1, q2⟩ := elems_of (asI_asV b2)
    simp only [List.nil_append] at p1
    by_cases h2 : l.drop (i + 1) = []
    · refine ⟨y1, _, hs1, y2, .sl 1 (ints (l.take i)) (.own hs.nt), hs1, a1, p1, a2, ?_, ?_, p3, p4⟩
      · rw [append_eq (xs := ints (l.take i)) rfl q1 (by simp [aszOk]) q2 (by simp [ints]; omega), if_pos (by rw [h2]; rfl)]
      · rw [h2, List.append_nil]; exact asI_sl (by omega)
    · refine ⟨y1, _, _, y2, .sl 1 (ints (l.take i) ++ ints (l.drop (i + 1))) (.own hs1.nt), { hs1 with nt := hs1.nt + 1, tok := fun t => if t = hs1.nt then true else if t = hs.nt then false else hs1.tok t }, a1, p1, a2, ?_, ?_, ⟨p3.heap, p3.nh⟩, ⟨by show hs.nt ≤ hs1.nt + 1; omega, ?_⟩⟩
      · rw [append_eq (xs := ints (l.take i)) rfl q1 (by simp [aszOk]) q2 (by simp [ints]; omega), if_neg (by simpa [ints] using h2)]
        simp only [appP]
        rw [if_pos p2]
      · have : ints (l.take i) ++ ints (l.drop (i + 1)) = ints (l.take i ++ l.drop (i + 1)) := by simp [ints]
        rw [this]; exact asI_sl (by rw [List.length_append]; omega)
      · intro k hk h
        have := p4.tok k hk h
        show (if k = hs1.nt then true else if k = hs.nt then false else hs1.tok k) = true
        rw [if_neg (by omega), if_neg (by omega)]
        exact this
theorem frzL_asI {h : Nat → Option (List AV)} {n : Nat} {x : AV} {l : List Int} (hx : asI x = some l) : frzL h n x = x := by
  have := frz_asI (h := h) (n := n) hx
  rcases asI_inv hx with ⟨rfl, _⟩ | ⟨c, rfl⟩
  · simp
  · rwa [frz_sl] at this
theorem frzL_str {h : Nat → Option (List AV)} {n : Nat} {l : List UInt8} : frzL h n (.str (bs l)) = .str (bs l) := by cases n <;> rfl
theorem ord_step {n : Nat} {o r : List Int} (h : IsOrd n (o ++ r)) {i : Nat} (hi : i < r.length) : IsOrd n ((o ++ [gI r i]) ++ (r.take i ++ r.drop (i + 1))) := by
  refine List.Perm.trans ?_ h
  rw [List.append_assoc]
  refine List.Perm.append_left o ?_
  have : r = r.take i ++ (gI r i :: r.drop (i + 1)) := by rw [gI_of hi, ← List.drop_eq_getElem_cons hi, List.take_append_drop]
  conv => rhs; rw [this]
  exact (List.perm_middle (a := gI r i) (l₁ := r.take i) (l₂ := r.drop (i + 1))).symm
/-- the context of the law: a strip, and the law's own test -/
theorem ctxD {l : List Int} {f : List UInt8} {v : AV} (hv : asI v = some l) (hc : chk l f = 0) : ∃ C : PCtx, CtxOk Tryd.prog C ∧ C 15 [] = some (.bool true) ∧
    (∀ {x : AV} {es : List Int} {g : Nat}, IsU8 x es → g < 256 → C 39 [.agg [x, .int .u8 (g : Int)]] = some (madeV es g)) ∧
    (∀ {z : AV} {L : List Int}, asI z = some L → L.length = l.length → C 41 [.agg [v, .str (bs f)], z] = some (.bool (!thB l f (gI L)))) ∧
    ∀ g, ¬ g = 15 → ¬ g = 43 → ¬ g = 42 → ¬ g = 44 → ¬ g = 39 → ¬ g = 41 → C g = CA g := by
  obtain ⟨C1', hC1, h15, h43, h42, h44, h39, up⟩ := ctxL
  obtain ⟨hm, hfl, _⟩ := chk_0 hc
  obtain ⟨C, hC, h41, n1⟩ := ctx_fam hC1 41 (fun q : {q : AV × List Int // asI q.1 = some q.2 ∧ q.2.length = l.length} => [.agg [v, .str (bs f)], q.1.1]) (fun q => .bool (!thB l f (gI q.1.2))) (fun q => by
    refine p41 hv hm hfl (h := gI q.1.2) ?_
    rw [q.2.1]
    congr 1
    apply List.ext_getElem
    · rw [hL_len, q.2.2]
    · intro i h1 h2
      simp [hL, gI_of h1]) (by
    rintro ⟨⟨a, b⟩, h1, h2⟩ ⟨⟨c, d⟩, h3, h4⟩ e
    simp at e h1 h3
    subst e
    rw [h1] at h3
    injection h3 with h3
    subst h3; rfl)
  refine ⟨C, hC, ?_, ?_, fun {z L} h1 h2 => h41 ⟨(z, L), h1, h2⟩, fun g a b c d e f => by rw [n1 g f, up g a b c d e]⟩
  · rw [n1 15 (by decide)]; exact h15
  · intro x es g h1 h2; rw [n1 39 (by decide)]; exact h39 h1 h2
/-- what stays through the law -/
structure D8 (hs0 : HS) (s : AS) (x p v : AV) (f : List UInt8) (g g2 n : Nat) : Prop where
  e1 : s.env 1 = p
  e2 : s.env 2 = .int .u8 (g2 : Int)
  e3 : s.env 3 = .ptr (.agg [x, .int .u8 (g : Int)])
  e6 : s.env 6 = .bool false
  e7 : s.env 7 = .ref hs0.nh 0
  e8 : s.env 8 = .int .i64 (n : Int)
  h7 : s.hs.heap hs0.nh = some [v, .str (bs f)]
  nh : hs0.nh < s.hs.nh
theorem p8 {x p : AV} {es ps : List Int} (hx : IsU8 x es) {g g2 : Nat} (hg : g < 256) (hg2 : g2 < 256) (hp : IsU8 p ps) : PCall Tryd.prog 8 [.agg [x, .int .u8 (g : Int)], p, .int .u8 (g2 : Int)] (.bool true) := by
  have hck := chk_made es g hx.2
  have hck2 := chk_made es g2 hx.2
  have hli := lenV_i es
  obtain ⟨C, hC, h15, h39, h41, up⟩ := ctxD hli hck
  obtain ⟨hms, hfl, _⟩ := chk_0 hck
  obtain ⟨m1, m2, m3, m4⟩ := meas_0 hms
  have hm1 := h39 hx hg
  have hm2 := h39 hx hg2
  have h21 : ∀ {z : AV} {o : List Int} {f : List UInt8}, asI z = some o → C 21 [.agg [lenV es, .str (bs f)], z] = some (.int .i64 (liesR (mkL es) f o)) := fun {z o f} hz => by
    rw [up 21 (by decide) (by decide) (by decide) (by decide) (by decide) (by decide)]; exact CA_21 hli hz
  unfold madeV at hm1 hm2
  have hal := alen_of hli
  have hld := asI_ld hli
  have hst := asI_sto hli
  have hcl := asI_cells hli
  have hxld := leaf_ld hx.leaf
  have hxs : x.sto = true := by rcases hx.1 with ⟨rfl, _⟩ | rfl <;> rfl
  have hxc : x.cells = [x] := by rcases hx.1 with ⟨rfl, _⟩ | rfl <;> rfl
  generalize mkF g ((mkL es).length - 1) = f at *
  generalize mkF g2 ((mkL es).length - 1) = f2 at *
  generalize lenV es = v at *
  generalize mkL es = l at *
  refine PCall.of hC ok8 (by simp) rfl fun hs hb => ?_
  simp only [A8, R8]
  rw [At.awp_seq]
  simp [hxs, -At.awp_seq]
  rw [At.awp_seq]
  simp [hm1, -At.awp_seq]
  rw [At.awp_seq]
  have ld0 : aload (fun i => if i = hs.nh then some [v, .str (bs f)] else if i = hs.nh then some [.nilsl, .str (bs [])] else hs.heap i) false 1 (.ref hs.nh 0) = some v := ldc (ys := [v, .str (bs f)]) (by simp) rfl
  simp [fa, ld0, hal, -At.awp_seq]
  rw [At.awp_seq]
  simp [-At.awp_seq]
  rw [At.awp_seq]
  refine At.cut (fun s => D8 hs s x p v f g g2 l.length ∧ s.env 10 = .nilsl ∧ ∃ z, s.env 9 = z ∧ asI z = some (hL l.length fun k => (k : Int))) ?_ ?_
  · simp
    refine At.loop (fun (i : Nat) s => i ≤ l.length ∧ D8 hs s x p v f g g2 l.length ∧ s.env 10 = .nilsl ∧ s.env 24 = .int .i64 (l.length : Int) ∧ s.env 25 = .int .i64 (i : Int) ∧ Outs 1 s.hs (s.env 9) (ints (hL i fun k => (k : Int)))) (fun i => l.length - i) 0 ?_ ?_
    · simp
      exact ⟨⟨rfl, rfl, rfl, rfl, rfl, rfl, by simp, by simp⟩, .nil⟩
    rintro N i s hN ⟨hi, ⟨e1, e2, e3, e6, e7, e8, h7, hnh⟩, e10, e24, e25, ho⟩
    simp [e24, e25]
    refine At.dec (fun hlt => ?_) (fun hlt => ?_)
    · have w1 := wrap_nat1 (show i < _ by omega)
      obtain ⟨y, hs', a1, a2, a3⟩ := ho.add1 (by rw [hL_len]; omega) (i : Int)
      have hLs : hL (i + 1) (fun k => (k : Int)) = hL i (fun k => (k : Int)) ++ [(i : Int)] := by simp only [hL]; rw [List.range_succ, List.map_append]; rfl
      rw [← hLs] at a2
      simp [e25, astoAll, sto_in, cel_in, a1]
      refine hN (i + 1) _ (by omega) ⟨by omega, ⟨e1, e2, e3, e6, e7, e8, by rw [← h7]; exact congrFun a3.heap _, by show hs.nh < hs'.nh; rw [a3.nh]; exact hnh⟩, ?_⟩
      simp [e10, e24, w1]
      exact a2
    · have : i = l.length := by omega
      subst this
      simp
      exact At.of ⟨⟨e1, e2, e3, e6, e7, e8, h7, hnh⟩, e10, ho.asI (by rw [hL_len]; omega)⟩
  rintro s ⟨⟨e1, e2, e3, e6, e7, e8, h7, hnh⟩, e10, z, e9, hz⟩
  rw [At.awp_seq]
  refine At.cut (fun s => D8 hs s x p v f g g2 l.length ∧ ∃ o z, s.env 10 = z ∧ asI z = some o ∧ IsOrd l.length o) ?_ ?_
  · simp
    refine At.loop (fun (q : List Int × List Int) s => D8 hs s x p v f g g2 l.length ∧ s.env 12 = .int .i64 (q.1.length : Int) ∧ Outs 1 s.hs (s.env 10) (ints q.1) ∧ (∃ z, s.env 9 = z ∧ asI z = some q.2) ∧ IsOrd l.length (q.1 ++ q.2)) (fun q => q.2.length) ([], hL l.length fun k => (k : Int)) ?_ ?_
    · simp [e10]
      exact ⟨⟨e1, e2, e3, e6, e7, e8, h7, hnh⟩, .nil, by rw [e9]; exact hz, List.Perm.refl _⟩
    clear e1 e2 e3 e6 e7 e8 h7 hnh e10 e9 hz z s
    rintro N ⟨o, r⟩ s hN ⟨⟨e1, e2, e3, e6, e7, e8, h7, hnh⟩, e12, ho, ⟨z, e9, hz⟩, hor⟩
    simp only at e12 ho hz hor
    have hlen := hor.len
    rw [List.length_append] at hlen
    have halz := alen_of hz
    have hc0 : decide ((0 : Int) < (r.length : Int)) = decide (0 < r.length) := by rw [Bool.eq_iff_iff]; simp only [decide_eq_true_eq]; omega
    rw [At.awp_seq, At.awp_seq]
    simp [e9, halz, -At.awp_seq]
    by_cases hr : r = []
    · subst hr
      simp
      rw [List.append_nil] at hor
      exact At.of ⟨⟨e1, e2, e3, e6, e7, e8, h7, hnh⟩, o, ho.asI (by omega), hor⟩
    have hr0 : 0 < r.length := List.length_pos_iff.2 hr
    simp [hr0, -At.awp_seq]
    rw [At.awp_seq]
    simp [-At.awp_seq]
    rw [At.awp_seq]
    simp [-At.awp_seq]
    rw [At.awp_seq]
    refine At.cut (fun s => D8 hs s x p v f g g2 l.length ∧ s.env 12 = .int .i64 (o.length : Int) ∧ Outs 1 s.hs (s.env 10) (ints o) ∧ s.env 9 = z ∧ ∃ k : Nat, s.env 13 = .int .i64 (k : Int) ∧ k < r.length) ?_ ?_
    · have halp := hp.len
      have hcp : decide ((o.length : Int) < (ps.length : Int)) = decide (o.length < ps.length) := by rw [Bool.eq_iff_iff]; simp only [decide_eq_true_eq]; omega
      by_cases h1 : o.length < ps.length
      · have hix := hp.get h1
        have hbd := hp.2 (gI ps o.length) (by rw [gI_of h1]; exact List.getElem_mem _)
        have wc : IntKind.i64.wrap (gI ps o.length) = gI ps o.length := wrap64 (by omega) (by omega)
        simp [e1, e9, e12, halp, halz, h1, hix, wc, show ¬ (r.length : Int) = 0 by omega, hr]
        refine At.of ⟨⟨e1, e2, e3, e6, e7, e8, h7, hnh⟩, ho, ((gI ps o.length).tmod r.length).toNat, ?_, ?_⟩
        · congr 1
          exact (Int.toNat_of_nonneg (Int.tmod_nonneg _ hbd.1)).symm
        · have := Int.tmod_lt_of_pos (gI ps o.length) (show (0 : Int) < r.length by omega)
          have := Int.tmod_nonneg (r.length : Int) hbd.1
          omega
      · simp [e1, e9, e12, halp, halz, h1]
        exact At.of ⟨⟨e1, e2, e3, e6, e7, e8, h7, hnh⟩, ho, 0, rfl, hr0⟩
    clear e1 e2 e3 e6 e7 e8 h7 hnh e12 e9 ho s
    rintro s ⟨⟨e1, e2, e3, e6, e7, e8, h7, hnh⟩, e12, ho, e9, k, e13, hk⟩
    have hix := idx_g hz hk (k := .i64)
    obtain ⟨y, hs', a1, a2, a3⟩ := ho.add1 (by omega) (gI r k)
    obtain ⟨y1, z1, hs1, y2, z2, hs2, b1, b2, b3, b4, b5, b6, b7⟩ := cut_out hz hk (by omega) hs'
    have w1 := wrap_nat1 (show k < _ by omega)
    have w2 := wrap_nat1 (show o.length < _ by omega)
    generalize hk1 : ((k + 1 : Nat) : Int) = k1 at w1 b3
    simp [e9, e12, e13, hix, astoAll, sto_in, cel_in, a1, b1, b2, w1, b3, b4]
    refine hN (o ++ [gI r k], r.take k ++ r.drop (k + 1)) _ (by simp only [List.length_append, List.length_take, List.length_drop]; omega) ⟨⟨e1, e2, e3, e6, e7, e8, ?_, ?_⟩, ?_, ?_, ?_, ?_⟩
    · show hs2.heap hs.nh = _
      rw [b6.heap, a3.heap]; exact h7
    · show hs.nh < hs2.nh
      rw [b6.nh, a3.nh]; exact hnh
    · simp [w2]
    · exact a2.keep b7
    · exact ⟨z2, rfl, b5⟩
    · exact ord_step hor hk
  clear e1 e2 e3 e6 e7 e8 h7 hnh e10 e9 hz z s
  rintro s ⟨⟨e1, e2, e3, e6, e7, e8, h7, hnh⟩, o, zo, e10, hzo, hord⟩
  have hol := hord.len
  have halo := alen_of hzo
  have mk : amake false 1 [.int .i64 0] s.hs (.int .i64 (l.length : Int)) (.int .i64 (l.length : Int)) = some (.msl false 1 s.hs.nh 0 l.length true, s.hs.blk (List.replicate l.length (.int .i64 0))) := amake_eq (by omega)
  have hz : List.replicate l.length (.int .i64 0) = ints (hL l.length (hO (o.take 0))) := by
    apply List.ext_getElem?
    intro j
    simp only [ints, hL, List.getElem?_map, List.getElem?_range, List.take_zero]
    by_cases hj : j < l.length
    · simp [hj, hO]
    · simp [hj]
  rw [hz] at mk
  rw [At.awp_seq]
  simp [e8, mk, -At.awp_seq]
  rw [At.awp_seq]
  generalize hbs : s.hs = hs0 at *
  refine At.cut (fun s => s.env 2 = .int .u8 (g2 : Int) ∧ s.env 3 = .ptr (.agg [x, .int .u8 (g : Int)]) ∧ s.env 7 = .ref hs.nh 0 ∧ s.env 10 = zo ∧ s.env 14 = .msl false 1 hs0.nh 0 l.length true ∧ s.hs = hs0.blk (ints (hL l.length (hO o)))) ?_ ?_
  · simp [e10, halo]
    refine At.loop (fun (i : Nat) s => i ≤ l.length ∧ s.env 2 = .int .u8 (g2 : Int) ∧ s.env 3 = .ptr (.agg [x, .int .u8 (g : Int)]) ∧ s.env 7 = .ref hs.nh 0 ∧ s.env 10 = zo ∧ s.env 14 = .msl false 1 hs0.nh 0 l.length true ∧ s.env 69 = zo ∧ s.env 70 = .int .i64 (l.length : Int) ∧ s.env 71 = .int .i64 (i : Int) ∧ s.hs = hs0.blk (ints (hL l.length (hO (o.take i))))) (fun i => l.length - i) 0 ?_ ?_
    · simp [e2, e3, e7, e10, hol]
    clear e1 e2 e3 e6 e7 e8 h7 e10 hbs s
    rintro N i s hN ⟨hi, e2, e3, e7, e10, e14, e69, e70, e71, ehs⟩
    simp [e70, e71]
    refine At.dec (fun hlt => ?_) (fun hlt => ?_)
    · have hi' : i < o.length := by omega
      have hix := idx_g hzo hi' (k := .i64)
      obtain ⟨a, ha⟩ : ∃ a : Nat, gI o i = (a : Int) := ⟨(gI o i).toNat, by have := hord.rng (gI o i) (by rw [gI_of hi']; exact List.getElem_mem _); omega⟩
      have har := hord.rng (gI o i) (by rw [gI_of hi']; exact List.getElem_mem _)
      rw [ha] at hix har
      have hal2 : a < l.length := by omega
      have hnt : (a : Int) ∉ o.take i := by
        rw [← ha, gI_of hi']
        intro hm
        obtain ⟨j, hj, e⟩ := List.mem_take_iff_getElem.1 hm
        have := (List.getElem_inj hord.nd).1 e
        omega
      have ix : aidxS 1 (.msl false 1 hs0.nh 0 l.length true) (.int .i64 (a : Int)) = some (.ref hs0.nh a) := aidx_msln hal2
      have st : astore (hs0.blk (ints (hL l.length (hO (o.take i))))).heap 1 (.ref hs0.nh a) (.int .i64 (i : Int)) = some (fun k => if k = hs0.nh then some ((ints (hL l.length (hO (o.take i)))).set a (.int .i64 (i : Int))) else (hs0.blk (ints (hL l.length (hO (o.take i))))).heap k) := store_cell (by simp) (by rw [ints_len, hL_len]; exact hal2) rfl
      have hnew : hL l.length (hO (o.take (i + 1))) = hL l.length fun j => if j = a then (i : Int) else hO (o.take i) j := by
        refine hL_cong fun k _ => ?_
        rw [take_snoc hi', ← gI_of hi', ha, hO_snoc hnt]
        simp [Nat.min_eq_left (Nat.le_of_lt hi')]
      rw [hL_set hal2] at st
      rw [← hnew] at st
      have fin : ∀ st' : HS, st' = (hs0.blk (ints (hL l.length (hO (o.take i))))).upd hs0.nh (ints (hL l.length (hO (o.take (i + 1))))) → st' = hs0.blk (ints (hL l.length (hO (o.take (i + 1))))) := fun st' e => by rw [e, HS.upd_blk]
      generalize hy2 : ints (hL l.length (hO (o.take (i + 1)))) = y2 at st fin
      have w1 := wrap_nat1 (show i < _ by omega)
      generalize hb : hs0.blk (ints (hL l.length (hO (o.take i)))) = hb1 at *
      simp [ehs, e14, e69, e71, hix, ix, st]
      refine hN (i + 1) _ (by omega) ⟨by omega, ?_⟩
      rw [hy2]
      simp [e2, e3, e7, e10, e14, e69, e70, w1]
      exact fin _ rfl
    · have : i = o.length := by omega
      subst this
      rw [List.take_length] at ehs
      simp
      exact At.of ⟨e2, e3, e7, e10, e14, ehs⟩
  clear e1 e2 e3 e6 e7 e8 e10 hbs mk hz s
  rintro s ⟨e2, e3, e7, e10, e14, ehs⟩
  have hv1 : ∀ c ∈ f, c = 118 ∨ c = 109 := fun c hcm => by have := (fmv_iff f).1 (chk_0 hck).2.2 c hcm; simp at this; exact this.symm
  have hth : thB l f (gI (hL l.length (hO o))) = (decide (crsL (hO o) (l.length - 1) = f) && fitB l (hO o)) := by
    have e : ∀ k, k < l.length → gI (hL l.length (hO o)) k = hO o k := fun k hk => gI_hL hk
    rw [thB_eq hms hfl hv1, crsL_cong (n := l.length - 1) (fun k hk => e k (by omega)), fitB_cong e]
  have k41 := h41 (z := .sl 1 (ints (hL l.length (hO o))) .shared) (L := hL l.length (hO o)) (asI_sl (by rw [hL_len]; omega)) (hL_len _ _)
  obtain ⟨c, hfz⟩ := frz_heights (hp := (hs0.blk (ints (hL l.length (hO o)))).heap) (b := hs0.nh) (L := hL l.length (hO o)) (n := l.length) (by simp) (hL_len _ _)
  have k41 := h41 (z := .sl 1 (ints (hL l.length (hO o))) c) (L := hL l.length (hO o)) (asI_sl (by rw [hL_len]; omega)) (hL_len _ _)
  have a41 : alcall C 41 (hs0.blk (ints (hL l.length (hO o)))) [.agg [v, .str (bs f)], .msl false 1 hs0.nh 0 l.length true] = some (.bool !thB l f (gI (hL l.length (hO o)))) := by
    unfold alcall
    rw [show [AV.agg [v, .str (bs f)], AV.msl false 1 hs0.nh 0 l.length true].map (frz (hs0.blk (ints (hL l.length (hO o)))).heap 2) = [.agg [v, .str (bs f)], .sl 1 (ints (hL l.length (hO o))) c] by
      rw [List.map_cons, List.map_cons, hfz, frz_agg, List.map_cons, List.map_cons, frzL_asI hli, frzL_str]; rfl, k41]
    rfl
  have h7 : (hs0.blk (ints (hL l.length (hO o)))).heap hs.nh = some [v, .str (bs f)] := by rw [HS.blk_old (by omega)]; exact h7
  rw [← ehs] at a41 h7
  rw [hth] at a41
  have l7 : aload s.hs.heap true 2 (.ref hs.nh 0) = some (.agg [v, .str (bs f)]) := load_ref2 h7
  have q1 := h21 (f := f) hzo
  have q2 := h21 (f := f2) hzo
  rw [liesR_ord hck hord] at q1
  rw [liesR_ord hck2 hord] at q2
  have nhs : hs.nh < s.hs.nh := by rw [ehs]; show hs.nh < hs0.nh + 1; omega
  clear ehs hth k41
  generalize crsL (hO o) (l.length - 1) = cr at *
  generalize fitB l (hO o) = fb at *
  have ne1 : ¬ hs.nh = s.hs.nh := by omega
  have l18 : aload (fun k => if k = s.hs.nh then some [v, .str (bs f2)] else if k = s.hs.nh then some [.nilsl, .str (bs [])] else s.hs.heap k) false 1 (.ref s.hs.nh 1) = some (.str (bs f2)) := ldc (ys := [v, .str (bs f2)]) (by simp) rfl
  have l18w : aload (fun k => if k = s.hs.nh then some [v, .str (bs f2)] else if k = s.hs.nh then some [.nilsl, .str (bs [])] else s.hs.heap k) true 2 (.ref s.hs.nh 0) = some (.agg [v, .str (bs f2)]) := load_ref2 (by simp)
  have l7s : aload (fun k => if k = s.hs.nh then some [v, .str (bs f2)] else if k = s.hs.nh then some [.nilsl, .str (bs [])] else s.hs.heap k) false 1 (.ref hs.nh 1) = some (.str (bs f)) := ldc (ys := [v, .str (bs f)]) (by simp only [ne1, if_false]; exact h7) rfl
  have hfin : cr = f ∧ fb = true ∨ ((decide (cr = f) && fb) = false ∧ ¬ (cr = f ∧ fb = true)) := by
    by_cases h1 : cr = f <;> cases fb <;> simp [h1]
  rcases hfin with ⟨rfl, rfl⟩ | ⟨h1, h2⟩
  · by_cases h3 : f2 = cr
    · subst h3
      simp [e2, e3, e7, e10, e14, l7, q1, a41, fa, hxld, hxc, hxs, afill, setL, hm2, l18, l18w, l7s, q2, h15]
    · have h3' : ¬ cr = f2 := fun e => h3 e.symm
      rw [if_neg (fun h => h3' h.1)] at q2
      simp [e2, e3, e7, e10, e14, l7, q1, a41, fa, hxld, hxc, hxs, afill, setL, hm2, l18, l18w, l7s, q2, h15, h3]
  · rw [h1] at a41
    rw [if_neg h2] at q1
    by_cases h3 : f2 = f
    · subst h3
      simp [e2, e3, e7, e10, e14, l7, q1, a41, fa, hxld, hxc, hxs, afill, setL, hm2, l18, l18w, l7s, h15]
    · simp [h3, e2, e3, e7, e10, e14, l7, q1, a41, fa, hxld, hxc, hxs, afill, setL, hm2, l18, l18w, l7s, h15]
theorem lies_typed (xs : List AV) (h : Typed [TMap, .sl (.int .u8), .int .u8] xs) : PCall Tryd.prog 8 xs (.bool true) := by
  obtain ⟨x, p, c, rfl, hx, hp, hc⟩ := h.three
  obtain ⟨y, es, g, rfl, h1, h2⟩ := map_typed hx
  obtain ⟨ps, h3⟩ := IsU8.of hp
  obtain ⟨g2, rfl, h4⟩ := arg_u8 hc
  exact p8 h1 h2 h4 h3
end Go.Proofs.YtedpcenghofpoaaDoor
