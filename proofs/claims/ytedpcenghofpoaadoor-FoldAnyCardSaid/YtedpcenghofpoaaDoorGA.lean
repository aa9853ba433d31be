/-
  The law's own test whether layers go through each other: the walk. Own work.
  The law's own test whether layers go through each other, whole: the walk. Own work.
  The law's own test is the reference's. Own work.
-/
import Derived.Test.YtedpcenghofpoaaDoorG6
set_option linter.unusedVariables false
set_option linter.unusedSimpArgs false
namespace Go.Proofs.YtedpcenghofpoaaDoor
open Go Fw

/-- whether a segment is over the place between x and x + 1 -/
def cov (l : List Int) (k : Nat) (x : Int) : Bool := decide (min (pn l k) (pn l (k + 1)) ≤ x) && decide (x + 1 ≤ max (pn l k) (pn l (k + 1)))
def ins3 (h : Nat → Int) (k a b : Nat) : Bool := mid (h k) (h a) (h b)
/-- nothing wrong between the crease i and the segment k -/
def thK (l : List Int) (h : Nat → Int) (i k : Nat) : Bool := !(cov l k (pn l (i + 1) - 1) && cov l k (pn l (i + 1)) && ins3 h k i (i + 1)) &&
  !(decide (k + 1 < l.length) && !decide (k = i) && decide (pn l (k + 1) = pn l (i + 1)) && (cov l k (pn l (i + 1)) == cov l i (pn l (i + 1))) && (ins3 h k i (i + 1) != ins3 h (k + 1) i (i + 1)))
def thI (l : List Int) (f : List UInt8) (h : Nat → Int) (i : Nat) : Bool := decide (decide (crs h i = 118) = decide (gF f i = 118)) && (List.range l.length).all (thK l h i)
def thB (l : List Int) (f : List UInt8) (h : Nat → Int) : Bool := (List.range (l.length - 1)).all (thI l f h)
theorem p73 {l : List Int} (hm : meas l = 0) {hs : HS} {b : Nat} {v : AV} (hv : asI v = some (hL (l.length + 1) (pn l))) (hb : hs.heap b = some [v]) {k : Nat} (hk : k < l.length) {x : Int} (hx : -1000 ≤ x ∧ x ≤ 1000) :
    FCall Tryd.prog 73 [.int .i64 (k : Int), .int .i64 x, .ref b 0] hs fun e hs' => e = .ret (.bool (cov l k x)) ∧ hs' = hs := by
  refine FCall.ofAt CtxOk.nil ok73 (by simp) ?_
  obtain ⟨m1, m2, m3, m4⟩ := meas_0 hm
  have ld : aload hs.heap false 1 (.ref b 0) = some v := load_one hb
  have i1 := idx_g hv (i := k) (by rw [hL_len]; omega) (k := .i64)
  have i2 := idx_g hv (i := k + 1) (by rw [hL_len]; omega) (k := .i64)
  rw [gI_hL (by omega)] at i1 i2
  have w1 := wrap_nat1 (show k < _ by omega)
  have w2 : IntKind.i64.wrap (x + 1) = x + 1 := wrap64 (by omega) (by omega)
  have mn : amin (.int .i64 (pn l k)) (.int .i64 (pn l (k + 1))) = some (.int .i64 (min (pn l k) (pn l (k + 1)))) := rfl
  have mx : amax (.int .i64 (pn l k)) (.int .i64 (pn l (k + 1))) = some (.int .i64 (max (pn l k) (pn l (k + 1)))) := rfl
  unfold cov
  generalize min (pn l k) (pn l (k + 1)) = vmn at mn ⊢
  generalize max (pn l k) (pn l (k + 1)) = vmx at mx ⊢
  generalize ((k + 1 : Nat) : Int) = k1 at w1 i2
  simp only [A73, R73]
  by_cases c1 : vmn ≤ x
  · simp [ld, i1, i2, w1, w2, mn, mx, -amin_int, -amax_int, c1]
  · simp [ld, i1, i2, w1, w2, mn, mx, -amin_int, -amax_int, c1]
theorem p74 {y : AV} {n : Nat} {h : Nat → Int} (hy : asI y = some (hL n h)) {k a b : Nat} (hk : k < n) (ha : a < n) (hb : b < n) : PCall Tryd.prog 74 [.int .i64 (k : Int), .int .i64 (a : Int), .int .i64 (b : Int), .ptr y] (.bool (ins3 h k a b)) := by
  refine PCall.of CtxOk.nil ok74 (by simp) rfl fun hs hbr => ?_
  have i1 := idx_g hy (i := k) (by rw [hL_len]; omega) (k := .i64)
  have i2 := idx_g hy (i := a) (by rw [hL_len]; omega) (k := .i64)
  have i3 := idx_g hy (i := b) (by rw [hL_len]; omega) (k := .i64)
  rw [gI_hL (by omega)] at i1 i2 i3
  have mn : amin (.int .i64 (h a)) (.int .i64 (h b)) = some (.int .i64 (min (h a) (h b))) := rfl
  have mx : amax (.int .i64 (h a)) (.int .i64 (h b)) = some (.int .i64 (max (h a) (h b))) := rfl
  unfold ins3 mid
  generalize min (h a) (h b) = vmn at mn ⊢
  generalize max (h a) (h b) = vmx at mx ⊢
  simp only [A74, R74]
  by_cases c1 : vmn < h k
  · simp [asI_ld hy, i1, i2, i3, mn, mx, -amin_int, -amax_int, c1]
  · simp [asI_ld hy, i1, i2, i3, mn, mx, -amin_int, -amax_int, c1]
end Go.Proofs.YtedpcenghofpoaaDoor
set_option linter.unusedVariables false
set_option linter.unusedSimpArgs false
namespace Go.Proofs.YtedpcenghofpoaaDoor
open Go Fw

/-- where the parts of p41 lie -/
structure A41at (hs0 : HS) (s : AS) (l : List Int) (f : List UInt8) (x y : AV) (v : AV) (m : Nat) : Prop where
  h6 : s.hs.heap hs0.nh = some [v]
  e2 : s.env 2 = .ptr (.agg [x, .str (bs f)])
  e3 : s.env 3 = .ptr y
  e4 : s.env 4 = .bool false
  e5 : s.env 5 = .int .i64 (l.length : Int)
  e6 : s.env 6 = .ref hs0.nh 0
  g : Grow s.hs v (hL m (pn l))
/-- the state of the second loop -/
structure B41 (hs2 : HS) (b : Nat) (s : AS) (n : Nat) (f : List UInt8) (x y : AV) (i : Nat) : Prop where
  eh : s.hs = hs2
  e2 : s.env 2 = .ptr (.agg [x, .str (bs f)])
  e3 : s.env 3 = .ptr y
  e4 : s.env 4 = .bool false
  e5 : s.env 5 = .int .i64 (n : Int)
  e6 : s.env 6 = .ref b 0
  e9 : s.env 9 = .fn (.func 73) [] [.ref b 0]
  e10 : s.env 10 = .fn (.func 74) [] [.ptr y]
  e11 : s.env 11 = .int .i64 (i : Int)
theorem up_t {h : Nat → Int} {i : Nat} (hp : i % 2 = 0) : decide (h i < h (i + 1)) = decide (crs h i = 118) := by
  unfold crs; by_cases c : h i < h (i + 1) <;> simp [c, hp]
theorem up_f {h : Nat → Int} {i : Nat} (hp : i % 2 = 1) : (!decide (h i < h (i + 1))) = decide (crs h i = 118) := by
  unfold crs; by_cases c : h i < h (i + 1) <;> simp [c, hp]
theorem p41 {x y : AV} {l : List Int} {f : List UInt8} {h : Nat → Int} (hx : asI x = some l) (hm : meas l = 0) (hf : f.length = l.length - 1) (hy : asI y = some (hL l.length h)) : PCall Tryd.prog 41 [.agg [x, .str (bs f)], y] (.bool (!thB l f h)) := by
  refine PCall.of CtxOk.nil ok41 (by simp) rfl fun hs hb => ?_
  obtain ⟨m1, m2, m3, m4⟩ := meas_0 hm
  have hal := alen_of hx
  simp only [A41, R41]
  obtain ⟨h1, st1, h1b⟩ : ∃ h1, astore (fun i => if i = hs.nh then some [.nilsl] else hs.heap i) 1 (.ref hs.nh 0) (.sl 1 [.int .i64 0] .exact) = some h1 ∧ h1 hs.nh = some [.sl 1 [.int .i64 0] .exact] :=
    ⟨_, store_one (u := .nilsl) (by simp) (by simp) (by simp), by simp⟩
  simp [cel_in, cel_agg, asI_sto hy, asI_ld hx, hal, astoAll, sto_in, st1]
  refine At.loop (fun (i : Nat) s => i ≤ l.length ∧ s.env 20 = x ∧ s.env 21 = .int .i64 (l.length : Int) ∧ s.env 22 = .int .i64 (i : Int) ∧ ∃ v, A41at hs s l f x y v (i + 1)) (fun i => l.length - i) 0 ?_ ?_
  · simp
    exact ⟨_, ⟨h1b, rfl, rfl, rfl, rfl, rfl, ⟨by simp [Fresh], rfl⟩⟩⟩
  rintro N i s hN ⟨hi, e20, e21, e22, v, A⟩
  obtain ⟨g6, e2, e3, e4, e5, e6, g⟩ := A
  simp [e21, e22]
  refine At.dec (fun hlt => ?_) (fun hlt => ?_)
  · have hi' : i < l.length := by omega
    have b0 := pn_le hm (i := i) (by omega)
    have b1 := pn_le hm (i := i + 1) (by omega)
    have hg := m3 (gI l i) (by rw [gI_of hi']; exact List.getElem_mem _)
    have hix := idx_g hx hi' (k := .i64)
    have hix2 := idx_g g.as (i := i) (by rw [hL_len]; omega) (k := .i64)
    rw [gI_hL (by omega)] at hix2
    have hLs : hL (i + 1 + 1) (pn l) = hL (i + 1) (pn l) ++ [pn l (i + 1)] := by simp only [hL]; rw [List.range_succ, List.map_append]; rfl
    obtain ⟨v', hs', a1, a2, a3⟩ := g.add (by rw [hL_len]; omega) (pn l (i + 1))
    rw [← hLs] at a2
    have ld : aload s.hs.heap false 1 (.ref hs.nh 0) = some v := load_one g6
    obtain ⟨h2, st2, h2b⟩ : ∃ h2, astore hs'.heap 1 (.ref hs.nh 0) v' = some h2 ∧ h2 hs.nh = some [v'] :=
      ⟨_, store_one (u := v) (by rw [a3.heap]; exact g6) (asI_sto a2.as) (asI_cells a2.as), by simp⟩
    have par : (i % 2 = 0 ∧ IntKind.i64.wrap (pn l i + gI l i) = pn l (i + 1) ∧ (i : Int).tmod 2 = 0) ∨
        (i % 2 = 1 ∧ IntKind.i64.wrap (pn l i + -gI l i) = pn l (i + 1) ∧ (i : Int).tmod 2 = 1) := by
      rcases Nat.mod_two_eq_zero_or_one i with hp | hp
      · left
        refine ⟨hp, ?_, ?_⟩
        · rw [pn_s, if_pos hp]; exact wrap64 (by omega) (by omega)
        · show ((i % 2 : Nat) : Int) = 0
          rw [hp]; rfl
      · right
        refine ⟨hp, ?_, ?_⟩
        · rw [pn_s, if_neg (by omega)]; exact wrap64 (by omega) (by omega)
        · show ((i % 2 : Nat) : Int) = 1
          rw [hp]; rfl
    have wg : IntKind.i64.wrap (-gI l i) = -gI l i := wrap64 (by omega) (by omega)
    have ng : aun .neg (.int .i64 (gI l i)) = some (.int .i64 (-gI l i)) := by show some (AV.int .i64 (IntKind.i64.wrap (0 - gI l i))) = _; rw [Int.zero_sub, wg]
    have w1 := wrap_nat1 (show i < _ by omega)
    rcases par with ⟨hp, wa, tm⟩ | ⟨hp, wa, tm⟩
    · simp [e20, e21, e22, e6, ld, hix, hix2, wa, tm, astoAll, sto_in, cel_in, a1, st2]
      refine hN (i + 1) _ (by omega) ⟨by omega, ?_⟩
      simp [e20, e21, e22, w1]
      exact ⟨_, ⟨h2b, e2, e3, e4, e5, e6, a2.keep ⟨Nat.le_refl _, fun _ _ h => h⟩⟩⟩
    · simp [e20, e21, e22, e6, ld, hix, hix2, wa, ng, tm, astoAll, sto_in, cel_in, a1, st2]
      refine hN (i + 1) _ (by omega) ⟨by omega, ?_⟩
      simp [e20, e21, e22, w1]
      exact ⟨_, ⟨h2b, e2, e3, e4, e5, e6, a2.keep ⟨Nat.le_refl _, fun _ _ h => h⟩⟩⟩
  have : i = l.length := by omega
  subst this
  clear hN
  simp [e2, e3, e6]
  generalize hhs : s.hs = hs2 at g6 g
  have hg := g.as
  have hld6 : aload hs2.heap false 1 (.ref hs.nh 0) = some v := load_one g6
  refine At.loop (fun (i : Nat) s => i ≤ l.length - 1 ∧ (List.range i).all (thI l f h) = true ∧ B41 hs2 hs.nh s l.length f x y i) (fun i => l.length - i) 0 ?_ ?_
  · simp
    exact ⟨hhs, e2, e3, e4, e5, e6, rfl, rfl, rfl⟩
  clear e20 e21 e22 e2 e3 e4 e5 e6 hi hlt hhs s
  rintro N i s hN ⟨hi, hall, eh, e2, e3, e4, e5, e6, e9, e10, e11⟩
  have w1 := wrap_nat1 (show i < _ by omega)
  have hcmp : ((i + 1 : Nat) : Int) < (l.length : Int) ↔ i + 1 < l.length := by omega
  have ix0 := fun hh : i < l.length => idx_g hy (i := i) (by rw [hL_len]; omega) (k := .i64)
  have ix1 := fun hh : i + 1 < l.length => idx_g hy (i := i + 1) (by rw [hL_len]; omega) (k := .i64)
  have iv1 := fun hh : i + 1 < l.length => idx_g hg (i := i + 1) (by rw [hL_len]; omega) (k := .i64)
  generalize hi1 : ((i + 1 : Nat) : Int) = i1 at w1 hcmp ix1 iv1
  rw [At.awp_seq, At.awp_seq]
  simp [e5, e11, w1, hcmp, -At.awp_seq]
  refine At.dec (fun hlt => ?_) (fun hlt => ?_)
  · have ix0 := ix0 (by omega)
    have ix1 := ix1 hlt
    have iv1 := iv1 hlt
    rw [gI_hL (by omega)] at ix0 ix1 iv1
    simp [-At.awp_seq]
    rw [At.awp_seq]
    simp [-At.awp_seq]
    rw [At.awp_seq]
    simp [-At.awp_seq, e3, e11, w1, ix0, ix1, asI_ld hy]
    rw [At.awp_seq]
    refine At.cut (fun s => B41 hs2 hs.nh s l.length f x y i ∧ s.env 12 = .bool (decide (crs h i = 118))) ?_ ?_
    · rcases Nat.mod_two_eq_zero_or_one i with hp | hp
      · have tm : (i : Int).tmod 2 = 0 := by
          show ((i % 2 : Nat) : Int) = 0
          rw [hp]; rfl
        simp [e11, tm, ← up_t hp]
        exact ⟨eh, e2, e3, e4, e5, e6, e9, e10, e11⟩
      · have tm : (i : Int).tmod 2 = 1 := by
          show ((i % 2 : Nat) : Int) = 1
          rw [hp]; rfl
        simp [e11, tm, ← up_f hp]
        exact ⟨eh, e2, e3, e4, e5, e6, e9, e10, e11⟩
    clear eh e2 e3 e4 e5 e6 e9 e10 e11 s
    rintro s ⟨⟨eh, e2, e3, e4, e5, e6, e9, e10, e11⟩, e12⟩
    have sx : ∀ hs, amem .sidx hs [.str (bs f), .int .i64 (i : Int)] = some (.int .u8 ((gF f i).toNat : Int), hs) := fun hs => sidx_of (by omega) (by rw [gF_of (by omega)]; simp)
    have h118 : ((gF f i).toNat : Int) = 118 ↔ gF f i = 118 := by
      constructor
      · intro e; exact UInt8.toNat_inj.1 (by show _ = 118; omega)
      · intro e; rw [e]; rfl
    rw [At.awp_seq, At.awp_seq]
    refine At.cut (fun s => B41 hs2 hs.nh s l.length f x y i ∧ s.env 71 = .bool (!(decide (decide (crs h i = 118) = decide (gF f i = 118))))) ?_ ?_
    · by_cases cA : crs h i = 118 <;> by_cases cB : gF f i = 118 <;> simp only [cA, cB, decide_true, decide_false] at e12 ⊢ <;> simp [e2, e11, e12, fa, sx, h118, cB] <;> first | done | exact ⟨eh, e2, e3, e4, e5, e6, e9, e10, e11⟩
    clear eh e2 e3 e4 e5 e6 e9 e10 e11 e12 s
    rintro s ⟨⟨eh, e2, e3, e4, e5, e6, e9, e10, e11⟩, e71⟩
    cases cC : decide (decide (crs h i = 118) = decide (gF f i = 118)) with
    | false =>
      have hth : thB l f h = false := all_range_false (k := i) (by omega) (by unfold thI; rw [cC]; rfl)
      rw [cC] at e71
      simp [e71, hth]
    | true =>
      rw [cC] at e71
      simp [e71, -At.awp_seq]
      rw [At.awp_seq]
      simp [eh, e6, e11, hld6, w1, iv1, -At.awp_seq]
      rw [At.awp_seq]
      simp [-At.awp_seq]
      refine At.loop (fun (k : Nat) s => k ≤ l.length ∧ (List.range k).all (thK l h i) = true ∧ B41 hs2 hs.nh s l.length f x y i ∧ s.env 13 = .int .i64 (pn l (i + 1)) ∧ s.env 14 = .int .i64 (k : Int)) (fun k => l.length - k) 0 ?_ ?_
      · simp
        first | done | exact ⟨eh, e2, e3, e4, e5, e6, e9, e10, e11⟩
      clear eh e2 e3 e4 e5 e6 e9 e10 e11 e71 s
      rintro N2 k s hN2 ⟨hk, hall2, ⟨eh, e2, e3, e4, e5, e6, e9, e10, e11⟩, e13, e14⟩
      rw [At.awp_seq, At.awp_seq]
      simp [e5, e14, -At.awp_seq]
      refine At.dec (fun hlt2 => ?_) (fun hlt2 => ?_)
      · have q73 : ∀ (hs3 : HS), hs3 = hs2 → ∀ (j : Nat) (z : Int), j < l.length → -1000 ≤ z ∧ z ≤ 1000 → FCall Tryd.prog 73 [.int .i64 (j : Int), .int .i64 z, .ref hs.nh 0] hs3 fun e hs' => e = .ret (.bool (cov l j z)) ∧ hs' = hs2 := fun hs3 e j z hj hz => by
          subst e; exact p73 hm hg g6 hj hz
        have q74 : ∀ (hs3 : HS), hs3 = hs2 → ∀ (j : Nat), j < l.length → FCall Tryd.prog 74 [.int .i64 (j : Int), .int .i64 (i : Int), .int .i64 i1, .ptr y] hs3 fun e hs' => e = .ret (.bool (ins3 h j i (i + 1))) ∧ hs' = hs2 := fun hs3 e j hj => by
          subst e; rw [← hi1]; exact (p74 hy (a := i) hj (by omega) hlt).fcall _
        have bp := pn_le hm (i := i + 1) (by omega)
        have wm : IntKind.i64.wrap (pn l (i + 1) - 1) = pn l (i + 1) - 1 := wrap64 (by omega) (by omega)
        simp [-At.awp_seq]
        rw [At.awp_seq]
        simp [-At.awp_seq]
        rw [At.awp_seq, At.awp_seq]
        refine At.cut (fun s => B41 hs2 hs.nh s l.length f x y i ∧ s.env 13 = .int .i64 (pn l (i + 1)) ∧ s.env 14 = .int .i64 (k : Int) ∧ s.env 100 = .bool (cov l k (pn l (i + 1) - 1) && cov l k (pn l (i + 1)) && ins3 h k i (i + 1))) ?_ ?_
        · simp [e9, e13, e14, wm]
          refine At.hc (q73 _ eh k _ hlt2 (by omega)) ?_ ?_
          rotate_left
          · rintro v hs3 ⟨hv, _⟩; cases hv
          rintro v hs3 ⟨hv, rfl⟩
          injection hv with hv; subst hv
          cases c1 : cov l k (pn l (i + 1) - 1) with
          | false =>
            simp
            exact ⟨⟨rfl, e2, e3, e4, e5, e6, e9, e10, e11⟩, e13, e14⟩
          | true =>
            simp [e9, e13, e14]
            refine At.hc (q73 _ rfl k _ hlt2 (by omega)) ?_ ?_
            rotate_left
            · rintro v hs3 ⟨hv, _⟩; cases hv
            rintro v hs3 ⟨hv, rfl⟩
            injection hv with hv; subst hv
            cases c2 : cov l k (pn l (i + 1)) with
            | false =>
              simp
              exact ⟨⟨rfl, e2, e3, e4, e5, e6, e9, e10, e11⟩, e13, e14⟩
            | true =>
              simp [e10, e11, e14, w1]
              refine At.hc (q74 _ rfl k hlt2) ?_ ?_
              rotate_left
              · rintro v hs3 ⟨hv, _⟩; cases hv
              rintro v hs3 ⟨hv, rfl⟩
              injection hv with hv; subst hv
              simp
              exact ⟨⟨rfl, e2, e3, e4, e5, e6, e9, e10, e11⟩, e13, e14⟩
        clear eh e2 e3 e4 e5 e6 e9 e10 e11 e13 e14 s
        rintro s ⟨⟨eh, e2, e3, e4, e5, e6, e9, e10, e11⟩, e13, e14, e100⟩
        cases c1 : (cov l k (pn l (i + 1) - 1) && cov l k (pn l (i + 1)) && ins3 h k i (i + 1)) with
        | true =>
          have hthk : thK l h i k = false := by unfold thK; rw [c1]; rfl
          have hth : thB l f h = false := all_range_false (k := i) (by omega) (by unfold thI; rw [all_range_false hlt2 hthk, Bool.and_false])
          rw [c1] at e100
          simp [e100, hth]
        | false =>
          rw [c1] at e100
          simp [e100, -At.awp_seq]
          rw [At.awp_seq]
          refine At.cut (fun s => B41 hs2 hs.nh s l.length f x y i ∧ s.env 13 = .int .i64 (pn l (i + 1)) ∧ s.env 14 = .int .i64 (k : Int) ∧ s.env 145 = .bool (decide (k + 1 < l.length) && !decide (k = i) && decide (pn l (k + 1) = pn l (i + 1)) && (cov l k (pn l (i + 1)) == cov l i (pn l (i + 1))) && (ins3 h k i (i + 1) != ins3 h (k + 1) i (i + 1)))) ?_ ?_
          · have w2 := wrap_nat1 (show k < _ by omega)
            have hcmp2 : ((k + 1 : Nat) : Int) < (l.length : Int) ↔ k + 1 < l.length := by omega
            have hv2 := idx_g hg (i := k + 1) (by rw [hL_len]; omega) (k := .i64)
            rw [gI_hL (by omega)] at hv2
            have q74k := fun hs3 e hh => q74 hs3 e (k + 1) hh
            generalize hk1 : ((k + 1 : Nat) : Int) = k1 at w2 hcmp2 hv2 q74k
            by_cases d1 : k + 1 < l.length
            rotate_left
            · simp [e5, e13, e14, w2, hcmp2, d1]
              exact ⟨eh, e2, e3, e4, e5, e6, e9, e10, e11⟩
            by_cases d2 : k = i
            · have d2' : (k : Int) = (i : Int) := by omega
              subst d2
              simp [e5, e11, e13, e14, w1, hcmp, d1]
              exact ⟨eh, e2, e3, e4, e5, e6, e9, e10, e11⟩
            have d2' : ¬ (k : Int) = (i : Int) := by omega
            by_cases d3 : pn l (k + 1) = pn l (i + 1)
            rotate_left
            · simp [e5, e6, e11, e13, e14, w2, hcmp2, d1, d2, d2', eh, hld6, hv2, d3]
              exact ⟨eh, e2, e3, e4, e5, e6, e9, e10, e11⟩
            simp [e5, e6, e9, e11, e13, e14, w2, hcmp2, d1, d2, d2', eh, hld6, hv2, d3]
            refine At.hc (q73 _ eh k _ hlt2 (by omega)) ?_ ?_
            rotate_left
            · rintro v hs3 ⟨hv, _⟩; cases hv
            rintro v hs3 ⟨hv, rfl⟩
            injection hv with hv; subst hv
            simp [e9, e11, e13]
            refine At.hc (q73 _ rfl i _ (by omega) (by omega)) ?_ ?_
            rotate_left
            · rintro v hs3 ⟨hv, _⟩; cases hv
            rintro v hs3 ⟨hv, rfl⟩
            injection hv with hv; subst hv
            by_cases c3 : cov l k (pn l (i + 1)) = cov l i (pn l (i + 1))
            rotate_left
            · simp [c3, e13, e14]
              exact ⟨rfl, e2, e3, e4, e5, e6, e9, e10, e11⟩
            · simp [c3, e10, e11, e14, w1]
              refine At.hc (q74 _ rfl k hlt2) ?_ ?_
              rotate_left
              · rintro v hs3 ⟨hv, _⟩; cases hv
              rintro v hs3 ⟨hv, rfl⟩
              injection hv with hv; subst hv
              simp [e10, e11, e14, w1, w2]
              refine At.hc (q74k _ rfl d1) ?_ ?_
              rotate_left
              · rintro v hs3 ⟨hv, _⟩; cases hv
              rintro v hs3 ⟨hv, rfl⟩
              injection hv with hv; subst hv
              simp
              exact At.of ⟨⟨rfl, e2, e3, e4, e5, e6, e9, e10, e11⟩, e13, e14, by cases ins3 h k i (i + 1) <;> cases ins3 h (k + 1) i (i + 1) <;> rfl⟩
          clear eh e2 e3 e4 e5 e6 e9 e10 e11 e13 e14 e100 s
          rintro s ⟨⟨eh, e2, e3, e4, e5, e6, e9, e10, e11⟩, e13, e14, e145⟩
          cases c2 : (decide (k + 1 < l.length) && !decide (k = i) && decide (pn l (k + 1) = pn l (i + 1)) && (cov l k (pn l (i + 1)) == cov l i (pn l (i + 1))) && (ins3 h k i (i + 1) != ins3 h (k + 1) i (i + 1))) with
          | true =>
            have hthk : thK l h i k = false := by unfold thK; rw [c2, Bool.not_true, Bool.and_false]
            have hth : thB l f h = false := all_range_false (k := i) (by omega) (by unfold thI; rw [all_range_false hlt2 hthk, Bool.and_false])
            rw [c2] at e145
            simp [e145, hth]
          | false =>
            have hthk : thK l h i k = true := by unfold thK; rw [c1, c2]; rfl
            rw [c2] at e145
            have w2 := wrap_nat1 (show k < _ by omega)
            simp [e145, e14]
            refine hN2 (k + 1) _ (by omega) ⟨by omega, by rw [all_range_succ, hall2, hthk]; rfl, ?_⟩
            simp [e13, w2]
            exact ⟨eh, e2, e3, e4, e5, e6, e9, e10, e11⟩
      · have : k = l.length := by omega
        subst this
        have hthi : thI l f h i = true := by unfold thI; rw [cC, hall2]; rfl
        simp [e11]
        refine hN (i + 1) _ (by omega) ⟨by omega, by rw [all_range_succ, hall, hthi]; rfl, ?_⟩
        exact ⟨eh, e2, e3, e4, e5, e6, e9, e10, by simp [w1, hi1]⟩
  · have : i = l.length - 1 := by omega
    subst this
    have : thB l f h = true := hall
    simp [this]
end Go.Proofs.YtedpcenghofpoaaDoor
set_option linter.unusedVariables false
set_option linter.unusedSimpArgs false
namespace Go.Proofs.YtedpcenghofpoaaDoor
open Go Fw

theorem cov_mid (l : List Int) (k : Nat) (y : Int) : (cov l k (y - 1) && cov l k y) = mid y (pn l k) (pn l (k + 1)) := by
  unfold cov mid
  rw [Bool.eq_iff_iff]
  simp only [Bool.and_eq_true, decide_eq_true_eq]
  omega
theorem cov_end {l : List Int} {k : Nat} (h : 1 ≤ gI l k) {y : Int} (hy : pn l (k + 1) = y) : cov l k y = decide (k % 2 = 1) := by
  unfold cov
  have := pn_s l k
  rw [Bool.eq_iff_iff]
  simp only [Bool.and_eq_true, decide_eq_true_eq]
  split at this <;> omega
theorem thI_eq {l : List Int} (hm : meas l = 0) {f : List UInt8} (h : Nat → Int) {i : Nat} (hi : i < l.length - 1) : thI l f h i = (decide (decide (crs h i = 118) = decide (gF f i = 118)) && fitI l h i) := by
  obtain ⟨m1, m2, m3, m4⟩ := meas_0 hm
  have hg : ∀ k, k < l.length → 1 ≤ gI l k := fun k hk => by rw [gI_of hk]; exact (m3 _ (List.getElem_mem _)).1
  unfold thI fitI
  rw [parR_all]
  congr 1
  have hk : ∀ k, thK l h i k = (thrB l h i k && (!decide (k + 1 < l.length) || parR l h i k)) ∨ l.length ≤ k := by
    intro k
    by_cases hkl : l.length ≤ k
    · exact .inr hkl
    refine .inl ?_
    unfold thK thrB ins3
    rw [cov_mid]
    congr 1
    by_cases hk1 : k + 1 < l.length
    rotate_left
    · simp [hk1]
    by_cases hp : pn l (k + 1) = pn l (i + 1)
    rotate_left
    · unfold parR; simp [hp]
    have c1 := cov_end (hg k (by omega)) hp
    have c2 := cov_end (hg i (by omega)) (rfl : pn l (i + 1) = pn l (i + 1))
    rw [c1, c2]
    unfold parR ins
    have : (decide (k % 2 = 1) == decide (i % 2 = 1)) = decide (k % 2 = i % 2) := by
      rw [Bool.eq_iff_iff, beq_iff_eq, decide_eq_decide, decide_eq_true_eq]
      omega
    rw [this]
    simp only [hp, hk1, decide_true, Bool.true_and, Bool.and_true, Bool.not_true, Bool.false_or]
    cases decide (k = i) <;> cases decide (k % 2 = i % 2) <;> cases mid (h k) (h i) (h (i + 1)) <;> cases mid (h (k + 1)) (h i) (h (i + 1)) <;> rfl
  rw [Bool.eq_iff_iff, Bool.and_eq_true, List.all_eq_true, List.all_eq_true, List.all_eq_true]
  constructor
  · intro hh
    refine ⟨fun k hk' => ?_, fun k hk' => ?_⟩
    · have h1 := hh k hk'
      rcases hk k with e | e
      · rw [e, Bool.and_eq_true] at h1; exact h1.1
      · have := List.mem_range.1 hk'; omega
    · have hk2 := List.mem_range.1 hk'
      have h1 := hh k (List.mem_range.2 (by omega))
      rcases hk k with e | e
      · rw [e, Bool.and_eq_true] at h1
        simpa [show k + 1 < l.length by omega] using h1.2
      · omega
  · rintro ⟨h1, h2⟩ k hk'
    have hk2 := List.mem_range.1 hk'
    rcases hk k with e | e
    · rw [e, Bool.and_eq_true]
      refine ⟨h1 k hk', ?_⟩
      by_cases hk1 : k + 1 < l.length
      · rw [h2 k (List.mem_range.2 (by omega))]; simp
      · simp [hk1]
    · omega
theorem crs_or (h : Nat → Int) (i : Nat) : crs h i = 118 ∨ crs h i = 109 := by unfold crs; split <;> simp
theorem crsL_iff {n : Nat} {f : List UInt8} (hf : f.length = n) (hv : ∀ c ∈ f, c = 118 ∨ c = 109) (h : Nat → Int) : crsL h n = f ↔ ∀ i, i < n → (crs h i = 118 ↔ gF f i = 118) := by
  constructor
  · intro e i hi
    rw [← e]
    have : gF (crsL h n) i = crs h i := by
      rw [gF_of (by simp [crsL]; omega)]; simp [crsL]
    rw [this]
  · intro e
    apply List.ext_getElem
    · simp [crsL]; omega
    · intro i h1 h2
      have := e i (by omega)
      rw [gF_of h2] at this
      have e2 : (crsL h n)[i] = crs h i := by simp [crsL]
      rw [e2]
      rcases crs_or h i with h3 | h3 <;> rcases hv f[i] (List.getElem_mem _) with h4 | h4
      · rw [h3, h4]
      · have := this.1 h3; rw [h4] at this; cases this
      · have := this.2 h4; rw [h3] at this; cases this
      · rw [h3, h4]
theorem thB_eq {l : List Int} (hm : meas l = 0) {f : List UInt8} (hf : f.length = l.length - 1) (hv : ∀ c ∈ f, c = 118 ∨ c = 109) (h : Nat → Int) : thB l f h = (decide (crsL h (l.length - 1) = f) && fitB l h) := by
  have hc := crsL_iff hf hv h
  unfold thB fitB
  rw [Bool.eq_iff_iff, Bool.and_eq_true, decide_eq_true_eq, List.all_eq_true, List.all_eq_true, hc]
  constructor
  · intro hh
    refine ⟨fun i hi => ?_, fun i hi => ?_⟩
    · have := hh i (List.mem_range.2 hi)
      rw [thI_eq hm h hi, Bool.and_eq_true, decide_eq_true_eq, decide_eq_decide] at this
      exact this.1
    · have := hh i hi
      rw [thI_eq hm h (List.mem_range.1 hi), Bool.and_eq_true] at this
      exact this.2
  · rintro ⟨h1, h2⟩ i hi
    rw [thI_eq hm h (List.mem_range.1 hi), Bool.and_eq_true, decide_eq_true_eq, decide_eq_decide]
    exact ⟨h1 i (List.mem_range.1 hi), h2 i hi⟩
/-- an order of n layers -/
def IsOrd (n : Nat) (o : List Int) : Prop := o.Perm (hL n fun k => (k : Int))
theorem IsOrd.len {n : Nat} {o : List Int} (h : IsOrd n o) : o.length = n := by rw [h.length_eq, hL_len]
theorem IsOrd.rng {n : Nat} {o : List Int} (h : IsOrd n o) : ∀ a ∈ o, 0 ≤ a ∧ a < n := by
  intro a ha
  have := h.mem_iff.1 ha
  simp only [hL, List.mem_map, List.mem_range] at this
  obtain ⟨k, hk, rfl⟩ := this
  omega
theorem IsOrd.nd {n : Nat} {o : List Int} (h : IsOrd n o) : o.Nodup := by
  refine h.nodup_iff.2 ?_
  unfold hL
  exact List.Pairwise.map _ (fun a b hab e => hab (by exact_mod_cast e)) List.nodup_range
theorem IsOrd.ok {n : Nat} {o : List Int} (h : IsOrd n o) : firstE (oE o) o.length = 0 := by
  refine firstE_zero fun k hk => ?_
  have hl := h.len
  have hr := h.rng o[k] (List.getElem_mem _)
  unfold oE
  rw [gI_of hk]
  rw [if_neg, if_neg]
  · intro hm
    obtain ⟨j, hj, e⟩ := List.mem_take_iff_getElem.1 hm
    have := (List.getElem_inj h.nd).1 e
    omega
  · simp [btw]; omega
theorem liesR_ord {l : List Int} {f : List UInt8} {o : List Int} (hc : chk l f = 0) (h : IsOrd l.length o) : liesR l f o = if crsL (hO o) (l.length - 1) = f ∧ fitB l (hO o) = true then 0 else 13 := by
  unfold liesR
  rw [if_neg (by simp [hc]), if_neg (by simp [h.len]), if_neg (by simp [h.ok]), h.len]
end Go.Proofs.YtedpcenghofpoaaDoor
