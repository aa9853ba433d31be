/-
  Orders of layers: small functions, the reference's points, creases and what lies. Own work.
  The reference's test whether layers go through each other. Own work.
  Heights of an order: the walk; lists that are foldings. Own work.
  Lists that are foldings. Own work.
  Lists that are foldings, by the reference. Own work.
  The places of segments: the walks. Own work.
-/
import Derived.Test.YtedpcenghofpoaaDoorG2
set_option linter.unusedVariables false
set_option linter.unusedSimpArgs false
namespace Go.Proofs.YtedpcenghofpoaaDoor
open Go Fw

theorem notmem_take_succ {l : List Int} {i : Nat} (h : i < l.length) {n : Int} (h1 : n ∉ l.take i) (h2 : ¬ n = l[i]) : n ∉ l.take (i + 1) := by
  intro hn
  rcases (mem_take_succ h).1 hn with h' | h'
  · exact h1 h'
  · exact h2 h'
def idxI (l : List Int) (n : Int) : Int := if n ∈ l then (l.idxOf n : Int) else -1
theorem p82 {x : AV} {l : List Int} (hx : asI x = some l) (n : Int) : PCall Tryd.prog 82 [x, .int .i64 n] (.int .i64 (idxI l n)) := by
  refine PCall.of CtxOk.nil ok82 (by simp) rfl fun hs hb => ?_
  have hll := asI_len hx
  simp only [A82, R82]
  simp [alen_of hx]
  refine At.loop (fun (i : Nat) s => i ≤ l.length ∧ n ∉ l.take i ∧ s.env 0 = x ∧ s.env 1 = .int .i64 n ∧ s.env 7 = .int .i64 (l.length : Int) ∧ s.env 8 = .int .i64 (i : Int)) (fun i => l.length - i) 0 ?_ ?_
  · simp
  rintro N i s hN ⟨hi, hnt, e0, e1, e7, e8⟩
  simp [e7, e8]
  refine At.dec (fun hlt => ?_) (fun hlt => ?_)
  · have hi' : i < l.length := by omega
    simp [e0, e1, e8, aidx_nat hx hi']
    refine At.dec (fun h => ?_) (fun h => ?_)
    · have hm : n ∈ l := by rw [h]; exact List.getElem_mem _
      have := idxOf_of hi' h.symm hnt
      simp [idxI, hm, this]
    · have w1 := wrap_nat1 (show i < _ by omega)
      simp [w1, e8]
      refine hN (i + 1) _ (by omega) ⟨by omega, notmem_take_succ hi' hnt h, ?_⟩
      simp [e0, e1, e7]
  · have : i = l.length := by omega
    subst this
    rw [List.take_length] at hnt
    simp [idxI, hnt]
theorem idxI_ge (l : List Int) (n : Int) : decide (0 ≤ idxI l n) = decide (n ∈ l) := by
  unfold idxI
  rw [Bool.eq_iff_iff]
  simp only [decide_eq_true_eq]
  split
  · rename_i h; simp [h]
  · rename_i h; simp [h]
theorem p52 {x : AV} {l : List Int} (hx : asI x = some l) (n : Int) : PCall Tryd.prog 52 [x, .int .i64 n] (.bool (decide (n ∈ l))) := by
  obtain ⟨C, hC, hc, _⟩ := ctx_pt CtxOk.nil 82 _ _ (p82 hx n)
  refine PCall.of hC ok52 (by simp) rfl fun hs hb => ?_
  have := idxI_ge l n
  simp only [A52, R52]
  simp [hc]
  by_cases h : n ∈ l
  · simp [h] at this; simp [h, this]
  · simp [h] at this; simp [h]; omega
/-- how high each segment lies in an order -/
def hO (o : List Int) (k : Nat) : Int := if (k : Int) ∈ o then (o.idxOf (k : Int) : Int) else 0
theorem hO_nil (k : Nat) : hO [] k = 0 := by simp [hO]
theorem hO_snoc {o : List Int} {a : Nat} (h : (a : Int) ∉ o) (k : Nat) : hO (o ++ [(a : Int)]) k = if k = a then (o.length : Int) else hO o k := by
  unfold hO
  by_cases hk : k = a
  · subst hk
    rw [if_pos rfl, if_pos (by simp), List.idxOf_append, if_neg h]
    simp
  · rw [if_neg hk]
    have e : ((k : Int) ∈ o ++ [(a : Int)]) ↔ (k : Int) ∈ o := by
      simp only [List.mem_append, List.mem_singleton]
      constructor
      · rintro (h' | h')
        · exact h'
        · omega
      · exact .inl
    by_cases hm : (k : Int) ∈ o
    · rw [if_pos (e.2 hm), if_pos hm, List.idxOf_append, if_pos hm]
    · rw [if_neg (fun h' => hm (e.1 h')), if_neg hm]
/-- heights as a list -/
def hL (n : Nat) (h : Nat → Int) : List Int := (List.range n).map h
theorem hL_len (n : Nat) (h : Nat → Int) : (hL n h).length = n := by simp [hL]
theorem gI_hL {n : Nat} {h : Nat → Int} {k : Nat} (hk : k < n) : gI (hL n h) k = h k := by simp [gI, hL, hk]
theorem aappend_own {sz sz' : Nat} {hs hs' : HS} {x a y : AV} {c : Cap} (h : aappend sz hs x (.sl sz' [a] c) = some (y, hs')) : ∃ xs, y = .sl sz xs (.own hs.nt) := by
  unfold aappend at h
  split at h <;> (try (cases h; done))
  rename_i xs ys hxs hys
  have : ys = [a] := by simp [aelemsH, aelems] at hys; exact hys.symm
  subst this
  split at h <;> (try (cases h; done))
  rw [if_neg (by simp)] at h
  split at h <;> (try (cases h; done))
  · injection h with h; injection h with h1 h2; exact ⟨_, h1.symm⟩
  · injection h with h; injection h with h1 h2; exact ⟨_, h1.symm⟩
  · injection h with h; injection h with h1 h2; exact ⟨_, h1.symm⟩
  · split at h <;> (try (cases h; done))
    injection h with h; injection h with h1 h2; exact ⟨_, h1.symm⟩
theorem share_own {x : AV} {l : List Int} {xs : List AV} {k : Nat} (h : asI x = some l) (hk : x = .sl 1 xs (.own k)) (hne : l ≠ []) : x.share = outV 1 (ints l) := by
  subst hk
  rcases asI_inv h with ⟨h', _⟩ | ⟨c, h'⟩
  · cases h'
  · injection h' with _ h1 h2
    subst h1
    rw [outV_ne (by intro h'; exact hne (by simpa [ints] using h')), share_sl, share_ints]; rfl
/-- points, one behind the other -/
theorem p47 {x : AV} {l : List Int} (hx : asI x = some l) (hm : meas l = 0) : PCall Tryd.prog 47 [x] (outV 1 (ints (hL (l.length + 1) (pn l)))) := by
  refine PCall.of CtxOk.nil ok47 (by simp) (plain_outV _) fun hs hb => ?_
  obtain ⟨m1, m2, m3, m4⟩ := meas_0 hm
  simp only [A47, R47]
  simp [alen_of hx, astoAll, sto_in, cel_in]
  refine At.loop (fun (i : Nat) s => i ≤ l.length ∧ s.env 0 = x ∧ s.env 4 = .int .i64 (i : Int) ∧ Grow s.hs (s.env 3) (hL (i + 1) (pn l)) ∧ (i = 0 ∨ ∃ xs k, s.env 3 = .sl 1 xs (.own k))) (fun i => l.length - i) 0 ?_ ?_
  · simp
    exact ⟨by simp [Fresh], rfl⟩
  rintro N i s hN ⟨hi, e0, e4, hG, hown⟩
  simp [e0, e4, alen_of hx]
  refine At.dec (fun hlt => ?_) (fun hlt => ?_)
  · have hi' : i < l.length := by omega
    have b0 := pn_le hm (i := i) (by omega)
    have b1 := pn_le hm (i := i + 1) (by omega)
    have hg := m3 (gI l i) (by rw [gI_of hi']; exact List.getElem_mem _)
    have hix := idx_g hx hi' (k := .i64)
    have hix2 := idx_g hG.as (i := i) (by rw [hL_len]; omega) (k := .i64)
    rw [gI_hL (by omega)] at hix2
    have hLs : hL (i + 1 + 1) (pn l) = hL (i + 1) (pn l) ++ [pn l (i + 1)] := by simp only [hL]; rw [List.range_succ, List.map_append]; rfl
    obtain ⟨y, hs', a1, a2, a3⟩ := hG.add (by rw [hL_len]; omega) (pn l (i + 1))
    rw [← hLs] at a2
    obtain ⟨xs, hxs⟩ := aappend_own a1
    have par : (i % 2 = 0 ∧ IntKind.i64.wrap (pn l i + gI l i) = pn l (i + 1) ∧ (i : Int).tmod 2 = 0) ∨
        (i % 2 = 1 ∧ IntKind.i64.wrap (pn l i - gI l i) = pn l (i + 1) ∧ (i : Int).tmod 2 = 1) := by
      rcases Nat.mod_two_eq_zero_or_one i with hp | hp
      · left
        refine ⟨hp, ?_, ?_⟩
        · rw [pn_s, if_pos hp]; exact wrap64 (by omega) (by omega)
        · show ((i % 2 : Nat) : Int) = 0
          rw [hp]; rfl
      · right
        refine ⟨hp, ?_, ?_⟩
        · rw [pn_s, if_neg (by omega)]; exact wrap64 (by omega) (by omega)
        · show ((i % 2 : Nat) : Int) = 1
          rw [hp]; rfl
    have w1 := wrap_nat1 (show i < _ by omega)
    generalize hv3 : s.env 3 = v3 at *
    rcases par with ⟨hp, wa, tm⟩ | ⟨hp, wa, tm⟩
    · simp [e0, e4, hv3, hix, hix2, wa, tm, astoAll, sto_in, cel_in, a1]
      refine hN (i + 1) _ (by omega) ⟨by omega, ?_⟩
      simp [e0, e4, w1]
      exact ⟨a2, xs, _, hxs⟩
    · simp [e0, e4, hv3, hix, hix2, wa, tm, astoAll, sto_in, cel_in, a1]
      refine hN (i + 1) _ (by omega) ⟨by omega, ?_⟩
      simp [e0, e4, w1]
      exact ⟨a2, xs, _, hxs⟩
  · have : i = l.length := by omega
    subst this
    simp
    rcases hown with h | ⟨xs, k, h⟩
    · omega
    · exact share_own hG.as h (by intro h; have := congrArg List.length h; simp [hL_len] at this)
/-- creases of heights, as the reference finds them -/
theorem p57 {x : AV} {n : Nat} {h : Nat → Int} (hx : asI x = some (hL n h)) (h1 : 1 ≤ n) (hn : n ≤ 7) : PCall Tryd.prog 57 [x] (.str (bs (crsL h (n - 1)))) := by
  refine PCall.of CtxOk.nil ok57 (by simp) rfl fun hs hb => ?_
  have hal := alen_of hx
  rw [hL_len] at hal
  simp only [A57, R57]
  simp
  refine At.loop (fun (i : Nat) s => i + 1 ≤ n ∧ s.env 0 = x ∧ s.env 3 = .str (bs (crsL h i)) ∧ s.env 4 = .int .i64 (i : Int)) (fun i => n - i) 0 ?_ ?_
  · simp [h1]; rfl
  rintro N i s hN ⟨hi, e0, e3, e4⟩
  have w1 := wrap_nat1 (show i < _ by omega)
  simp [e0, e4, hal, w1]
  refine At.dec (fun hlt => ?_) (fun hlt => ?_)
  · have hi' : i + 1 < n := by omega
    have hix := idx_g hx (i := i) (by rw [hL_len]; omega) (k := .i64)
    have hix2 := idx_g hx (i := i + 1) (by rw [hL_len]; omega) (k := .i64)
    rw [gI_hL (by omega)] at hix hix2
    have tm : (i : Int).tmod 2 = ((i % 2 : Nat) : Int) := rfl
    have hcl : (crsL h i).length = i := by simp [crsL]
    have hadd : ∀ (kd : Nat) (c : UInt8), abin kd .add (.str (bs (crsL h i))) (.str (bs [c])) = some (.str (bs (crsL h i ++ [c]))) := fun kd c => abin_sadd (by simp [hcl]; omega)
    have hcr : crs h i = if decide (h i < h (i + 1)) = decide (i % 2 = 0) then 118 else 109 := rfl
    have hsu := crsL_succ h i
    generalize hk1 : ((i + 1 : Nat) : Int) = k1 at w1 hix2
    have mm : decide (((i % 2 : Nat) : Int) = 0) = decide (i % 2 = 0) := by rw [Bool.eq_iff_iff]; simp only [decide_eq_true_eq]; omega
    generalize ((i % 2 : Nat) : Int) = q at tm mm
    by_cases hb2 : decide (h i < h (i + 1)) = decide (i % 2 = 0)
    · rw [if_pos hb2] at hcr
      rw [← mm] at hb2
      simp [e0, e3, e4, w1, hix, hix2, tm, hb2, hadd]
      refine hN (i + 1) _ (by omega) ⟨by omega, ?_⟩
      simp [e0, w1, hk1, hsu, hcr]
    · rw [if_neg hb2] at hcr
      rw [← mm] at hb2
      simp [e0, e3, e4, w1, hix, hix2, tm, hb2, hadd]
      refine hN (i + 1) _ (by omega) ⟨by omega, ?_⟩
      simp [e0, w1, hk1, hsu, hcr]
  · have : i = n - 1 := by omega
    subst this
    simp [e3]
end Go.Proofs.YtedpcenghofpoaaDoor
set_option linter.unusedVariables false
set_option linter.unusedSimpArgs false
namespace Go.Proofs.YtedpcenghofpoaaDoor
open Go Fw

def parR (l : List Int) (h : Nat → Int) (i k : Nat) : Bool := !(!decide (k = i) && decide (k % 2 = i % 2) && decide (pn l (k + 1) = pn l (i + 1))) || (ins h k i == ins h (k + 1) i)
theorem parR_all (l : List Int) (h : Nat → Int) (i : Nat) : (sameL l l.length (pn l (i + 1), ((i % 2 : Nat) : Int))).all (parB h i) = (List.range (l.length - 1)).all (parR l h i) := by
  rw [Bool.eq_iff_iff, List.all_eq_true, List.all_eq_true]
  constructor
  · intro hh k hk
    have hk := List.mem_range.1 hk
    unfold parR
    by_cases c : k % 2 = i % 2 ∧ pn l (k + 1) = pn l (i + 1)
    · have hm : (k : Int) ∈ sameL l l.length (pn l (i + 1), ((i % 2 : Nat) : Int)) := by
        unfold sameL
        refine List.mem_map.2 ⟨k, List.mem_filter.2 ⟨List.mem_range.2 (by omega), ?_⟩, rfl⟩
        rw [Bool.and_eq_true, decide_eq_true_eq, decide_eq_true_eq]
        exact ⟨by omega, by rw [c.1, c.2]⟩
      have := hh _ hm
      unfold parB at this
      by_cases hki : k = i
      · simp [hki]
      · have : ins h k i = ins h (k + 1) i := by
          simp only [Bool.or_eq_true, decide_eq_true_eq] at this
          rcases this with h' | h'
          · omega
          · simpa using h'
        simp [this]
    · have : (decide (k % 2 = i % 2) && decide (pn l (k + 1) = pn l (i + 1))) = false := by
        rw [Bool.eq_false_iff]; intro e
        rw [Bool.and_eq_true, decide_eq_true_eq, decide_eq_true_eq] at e
        exact c e
      rw [Bool.and_assoc, this]; simp
  · intro hh c hc
    obtain ⟨k, rfl, h1, h2, h3⟩ := sameL_mem hc
    have := hh k (List.mem_range.2 (by omega))
    unfold parR at this
    unfold parB
    have e1 : pn l (k + 1) = pn l (i + 1) := congrArg Prod.fst h3
    have e2 : k % 2 = i % 2 := by have := congrArg Prod.snd h3; simp only at this; omega
    by_cases hki : k = i
    · simp [hki]
    · rw [e1, e2] at this
      simp [hki] at this
      simp [this]
theorem p58 {x y : AV} {l : List Int} {h : Nat → Int} (hx : asI x = some l) (hm : meas l = 0) (hy : asI y = some (hL l.length h)) : PCall Tryd.prog 58 [x, y] (.bool (fitB l h)) := by
  obtain ⟨C, hC, c47, hne⟩ := ctx_pt C2ok 47 _ _ (p47 hx hm)
  have c86 : ∀ a b c : Int, C 86 [.int .i64 a, .int .i64 b, .int .i64 c] = some (.bool (mid a b c)) := fun a b c => by rw [hne 86 (by decide)]; rfl
  refine PCall.of hC ok58 (by simp) rfl fun hs hb => ?_
  obtain ⟨m1, m2, m3, m4⟩ := meas_0 hm
  have hpv := asI_outV (l := hL (l.length + 1) (pn l)) (by rw [hL_len]; omega)
  have hal := alen_of hx
  have ix : ∀ {k : Nat}, k < l.length + 1 → aidxS 1 (outV 1 (ints (hL (l.length + 1) (pn l)))) (.int .i64 (k : Int)) = some (.ptr (.int .i64 (pn l k))) := fun {k} hk => by
    have := idx_g hpv (i := k) (by rw [hL_len]; exact hk) (k := .i64)
    rwa [gI_hL hk] at this
  have iy : ∀ {k : Nat}, k < l.length → aidxS 1 y (.int .i64 (k : Int)) = some (.ptr (.int .i64 (h k))) := fun {k} hk => by
    have := idx_g hy (i := k) (by rw [hL_len]; exact hk) (k := .i64)
    rwa [gI_hL hk] at this
  generalize outV 1 (ints (hL (l.length + 1) (pn l))) = pv at c47 ix
  clear hpv
  simp only [A58, R58]
  simp [c47]
  refine At.loop (fun (i : Nat) s => i + 1 ≤ l.length ∧ (List.range i).all (fitI l h) = true ∧ s.env 0 = x ∧ s.env 1 = y ∧ s.env 5 = pv ∧ s.env 6 = .int .i64 (i : Int)) (fun i => l.length - i) 0 ?_ ?_
  · simp [m1]
  rintro N i s hN ⟨hi, hall, e0, e1, e5, e6⟩
  have w1 := wrap_nat1 (show i < _ by omega)
  simp [e0, e6, hal, w1]
  refine At.dec (fun hlt => ?_) (fun hlt => ?_)
  · have hi' : i + 1 < l.length := by omega
    simp
    refine At.loop (fun (k : Nat) s => k ≤ l.length ∧ (List.range k).all (thrB l h i) = true ∧ s.env 0 = x ∧ s.env 1 = y ∧ s.env 5 = pv ∧ s.env 6 = .int .i64 (i : Int) ∧ s.env 7 = .int .i64 (k : Int)) (fun k => l.length - k) 0 ?_ ?_
    · simp [e0, e1, e5, e6]
    rintro N2 k s hN2 ⟨hk, hall2, e0, e1, e5, e6, e7⟩
    simp [e0, e7, hal]
    refine At.dec (fun hlt2 => ?_) (fun hlt2 => ?_)
    · have hk' : k < l.length := by omega
      have w2 := wrap_nat1 (show k < _ by omega)
      have x1 := ix (k := i + 1) (by omega)
      have x2 := ix (k := k) (by omega)
      have x3 := ix (k := k + 1) (by omega)
      have y1 := iy (k := k) (by omega)
      have y2 := iy (k := i) (by omega)
      have y3 := iy (k := i + 1) (by omega)
      have hthr : thrB l h i k = !(mid (pn l (i + 1)) (pn l k) (pn l (k + 1)) && mid (h k) (h i) (h (i + 1))) := rfl
      have q1 := c86 (pn l (i + 1)) (pn l k) (pn l (k + 1))
      have q2 := c86 (h k) (h i) (h (i + 1))
      have hsuc : thrB l h i k = true → (List.range (k + 1)).all (thrB l h i) = true := fun e => by rw [all_range_succ, hall2, e]; rfl
      generalize hi1 : ((i + 1 : Nat) : Int) = i1 at w1 x1 y3
      generalize hk1 : ((k + 1 : Nat) : Int) = k1 at w2 x3
      cases c1 : mid (pn l (i + 1)) (pn l k) (pn l (k + 1)) with
      | false =>
        rw [c1] at q1 hthr
        simp [e0, e1, e5, e6, e7, w1, w2, x1, x2, x3, q1]
        refine hN2 (k + 1) _ (by omega) ⟨by omega, hsuc hthr, ?_⟩
        simp [e0, e1, e5, e6, hk1]
      | true =>
        rw [c1] at q1 hthr
        cases c2 : mid (h k) (h i) (h (i + 1)) with
        | false =>
          rw [c2] at q2 hthr
          simp [e0, e1, e5, e6, e7, w1, w2, x1, x2, x3, y1, y2, y3, q1, q2]
          refine hN2 (k + 1) _ (by omega) ⟨by omega, hsuc hthr, ?_⟩
          simp [e0, e1, e5, e6, hk1]
        | true =>
          rw [c2] at q2 hthr
          have hfit : fitB l h = false := all_range_false (k := i) (by omega) (by unfold fitI; rw [all_range_false hk' hthr]; rfl)
          simp [e0, e1, e5, e6, e7, w1, w2, x1, x2, x3, y1, y2, y3, q1, q2, hfit]
    · have hkn : k = l.length := by omega
      subst hkn
      simp
      refine At.loop (fun (k : Nat) s => k + 1 ≤ l.length ∧ (List.range k).all (parR l h i) = true ∧ s.env 0 = x ∧ s.env 1 = y ∧ s.env 5 = pv ∧ s.env 6 = .int .i64 (i : Int) ∧ s.env 8 = .int .i64 (k : Int)) (fun k => l.length - k) 0 ?_ ?_
      · simp [e0, e1, e5, e6, m1]
      rintro N3 k s hN3 ⟨hk, hall3, e0, e1, e5, e6, e8⟩
      have w2 := wrap_nat1 (show k < _ by omega)
      simp [e0, e8, hal, w2]
      refine At.dec (fun hlt3 => ?_) (fun hlt3 => ?_)
      · have hk' : k + 1 < l.length := by omega
        have x1 := ix (k := i + 1) (by omega)
        have x3 := ix (k := k + 1) (by omega)
        have y1 := iy (k := k) (by omega)
        have y2 := iy (k := i) (by omega)
        have y3 := iy (k := i + 1) (by omega)
        have y4 := iy (k := k + 1) (by omega)
        have q1 := c86 (h k) (h i) (h (i + 1))
        have q2 := c86 (h (k + 1)) (h i) (h (i + 1))
        have tm1 : (k : Int).tmod 2 = ((k % 2 : Nat) : Int) := rfl
        have tm2 : (i : Int).tmod 2 = ((i % 2 : Nat) : Int) := rfl
        have hq : (((k % 2 : Nat) : Int) = ((i % 2 : Nat) : Int)) ↔ k % 2 = i % 2 := by omega
        have hpar : parR l h i k = (!(!decide (k = i) && decide (k % 2 = i % 2) && decide (pn l (k + 1) = pn l (i + 1))) || (mid (h k) (h i) (h (i + 1)) == mid (h (k + 1)) (h i) (h (i + 1)))) := rfl
        have hsuc : parR l h i k = true → (List.range (k + 1)).all (parR l h i) = true := fun e => by rw [all_range_succ, hall3, e]; rfl
        generalize hi1 : ((i + 1 : Nat) : Int) = i1 at w1 x1 y3
        generalize hk1 : ((k + 1 : Nat) : Int) = k1 at w2 x3 y4
        generalize ((k % 2 : Nat) : Int) = r1 at tm1 hq
        generalize ((i % 2 : Nat) : Int) = r2 at tm2 hq
        by_cases c1 : k = i
        · have c1' : (k : Int) = (i : Int) := by omega
          have hpt : parR l h i k = true := by rw [hpar]; simp [c1]
          simp [e0, e1, e5, e6, e8, w1, w2, c1, c1']
          refine hN3 (k + 1) _ (by omega) ⟨by omega, hsuc hpt, ?_⟩
          rw [c1] at hk1 w2
          simp [e0, e1, e5, e6, hk1, c1, w1, w2]
          rw [← hi1, hk1]
        have c1' : ¬ (k : Int) = (i : Int) := by omega
        by_cases c2 : k % 2 = i % 2
        rotate_left
        · have hpt : parR l h i k = true := by rw [hpar]; simp [c2]
          have c2' : ¬ r1 = r2 := fun e => c2 (hq.1 e)
          simp [e0, e1, e5, e6, e8, w1, w2, c1, c1', tm1, tm2, c2']
          refine hN3 (k + 1) _ (by omega) ⟨by omega, hsuc hpt, ?_⟩
          simp [e0, e1, e5, e6, hk1]
        have c2' : r1 = r2 := hq.2 c2
        by_cases c3 : pn l (k + 1) = pn l (i + 1)
        rotate_left
        · have hpt : parR l h i k = true := by rw [hpar]; simp [c3]
          simp [e0, e1, e5, e6, e8, w1, w2, c1, c1', tm1, tm2, c2', x1, x3, c3]
          refine hN3 (k + 1) _ (by omega) ⟨by omega, hsuc hpt, ?_⟩
          simp [e0, e1, e5, e6, hk1]
        by_cases c4 : mid (h k) (h i) (h (i + 1)) = mid (h (k + 1)) (h i) (h (i + 1))
        · have hpt : parR l h i k = true := by rw [hpar]; simp [c4]
          simp [e0, e1, e5, e6, e8, w1, w2, c1, c1', tm1, tm2, c2', x1, x3, c3, y1, y2, y3, y4, q1, q2, c4]
          refine hN3 (k + 1) _ (by omega) ⟨by omega, hsuc hpt, ?_⟩
          simp [e0, e1, e5, e6, hk1]
        · have hpt : parR l h i k = false := by rw [hpar]; simp [c1, c2, c3, c4]
          have hfit : fitB l h = false := all_range_false (k := i) (by omega) (by
            unfold fitI
            rw [parR_all, all_range_false (k := k) (by omega) hpt, Bool.and_false])
          simp [e0, e1, e5, e6, e8, w1, w2, c1, c1', tm1, tm2, c2', x1, x3, c3, y1, y2, y3, y4, q1, q2, c4, hfit]
      · have hkn : k = l.length - 1 := by omega
        subst hkn
        have hfi : fitI l h i = true := by unfold fitI; rw [hall2, parR_all, hall3]; rfl
        have w1 := wrap_nat1 (show i < _ by omega)
        simp [e6, w1]
        refine hN (i + 1) _ (by omega) ⟨by omega, by rw [all_range_succ, hall, hfi]; rfl, ?_⟩
        simp [e0, e1, e5]
  · have : i = l.length - 1 := by omega
    subst this
    simp
    exact hall
end Go.Proofs.YtedpcenghofpoaaDoor
set_option linter.unusedVariables false
set_option linter.unusedSimpArgs false
namespace Go.Proofs.YtedpcenghofpoaaDoor
open Go Fw

theorem hL_set {n : Nat} {h : Nat → Int} {k : Nat} (hk : k < n) (v : Int) : (ints (hL n h)).set k (.int .i64 v) = ints (hL n fun j => if j = k then v else h j) := by
  apply List.ext_getElem?
  intro j
  by_cases hj : j = k
  · subst hj
    rw [List.getElem?_set_self (by rw [ints_len, hL_len]; exact hk)]
    simp [ints, hL, hk]
  · rw [List.getElem?_set_ne (by omega)]
    simp only [ints, hL, List.getElem?_map, List.getElem?_range]
    by_cases hjn : j < n
    · simp [hjn, hj]
    · simp [hjn]
theorem hL_cong {n : Nat} {h g : Nat → Int} (e : ∀ k, k < n → h k = g k) : hL n h = hL n g := List.map_congr_left fun k hk => e k (List.mem_range.1 hk)
theorem p56 {n0 : Nat} {hs : HS} {x : AV} {o : List Int} (hx : RdI n0 hs.heap x o) (hn0 : n0 ≤ hs.nh) (hl : o.length ≤ 1000) (hr : ∀ a ∈ o, 0 ≤ a ∧ a < o.length) (hd : o.Nodup) :
    FCall Tryd.prog 56 [x] hs fun e hs' => e = .ret (.msl false 1 hs.nh 0 o.length true) ∧ hs' = hs.blk (ints (hL o.length (hO o))) := by
  refine FCall.ofAt CtxOk.nil ok56 (by simp) ?_
  have hal := hx.len
  have mk : amake false 1 [.int .i64 0] hs (.int .i64 (o.length : Int)) (.int .i64 (o.length : Int)) = some (.msl false 1 hs.nh 0 o.length true, hs.blk (List.replicate o.length (.int .i64 0))) := amake_eq (by omega)
  have hz : List.replicate o.length (.int .i64 0) = ints (hL o.length (hO (o.take 0))) := by
    apply List.ext_getElem?
    intro j
    simp only [ints, hL, List.getElem?_map, List.getElem?_range, List.take_zero]
    by_cases hj : j < o.length
    · simp [hj, hO]
    · simp [hj]
  rw [hz] at mk
  simp only [A56, R56]
  simp [hal, mk]
  refine At.loop (fun (i : Nat) s => i ≤ o.length ∧ s.hs = hs.blk (ints (hL o.length (hO (o.take i)))) ∧ s.env 0 = x ∧ s.env 3 = .msl false 1 hs.nh 0 o.length true ∧ s.env 4 = .int .i64 (i : Int)) (fun i => o.length - i) 0 ?_ ?_
  · simp
  rintro N i s hN ⟨hi, ehs, e0, e3, e4⟩
  simp [e0, e4, hal]
  refine At.dec (fun hlt => ?_) (fun hlt => ?_)
  · have hi' : i < o.length := by omega
    have hx' : RdI n0 (hs.blk (ints (hL o.length (hO (o.take i))))).heap x o := hx.up (Nat.le_refl _) fun k hk => HS.blk_old (by omega)
    obtain ⟨p, hp1, hp2⟩ := hx'.get hi' (k := .i64)
    obtain ⟨a, ha⟩ : ∃ a : Nat, o[i] = (a : Int) := ⟨o[i].toNat, by have := hr o[i] (List.getElem_mem _); omega⟩
    have har := hr o[i] (List.getElem_mem _)
    rw [ha] at hp2 har
    have hal2 : a < o.length := by omega
    have hnt : (a : Int) ∉ o.take i := by
      rw [← ha]
      intro hm
      obtain ⟨j, hj, e⟩ := List.mem_take_iff_getElem.1 hm
      have := (List.getElem_inj hd).1 e
      omega
    have ix : aidxS 1 (.msl false 1 hs.nh 0 o.length true) (.int .i64 (a : Int)) = some (.ref hs.nh a) := aidx_msln hal2
    have st : astore (hs.blk (ints (hL o.length (hO (o.take i))))).heap 1 (.ref hs.nh a) (.int .i64 (i : Int)) = some (fun k => if k = hs.nh then some ((ints (hL o.length (hO (o.take i)))).set a (.int .i64 (i : Int))) else (hs.blk (ints (hL o.length (hO (o.take i))))).heap k) := store_cell (by simp) (by rw [ints_len, hL_len]; exact hal2) rfl
    have hnew : hL o.length (hO (o.take (i + 1))) = hL o.length fun j => if j = a then (i : Int) else hO (o.take i) j := by
      refine hL_cong fun k _ => ?_
      rw [take_snoc hi', ha, hO_snoc hnt]
      simp [Nat.min_eq_left hi]
    rw [hL_set hal2] at st
    rw [← hnew] at st
    have fin : ∀ st' : HS, st' = (hs.blk (ints (hL o.length (hO (o.take i))))).upd hs.nh (ints (hL o.length (hO (o.take (i + 1))))) → st' = hs.blk (ints (hL o.length (hO (o.take (i + 1))))) := fun st' e => by rw [e, HS.upd_blk]
    generalize hy2 : ints (hL o.length (hO (o.take (i + 1)))) = y2 at st fin
    have w1 := wrap_nat1 (show i < _ by omega)
    generalize hb : hs.blk (ints (hL o.length (hO (o.take i)))) = hb1 at *
    simp [ehs, e0, e3, e4, hp1, hp2, ix, st]
    refine hN (i + 1) _ (by omega) ⟨by omega, ?_⟩
    rw [hy2]
    simp [e0, e3, w1]
    exact fin _ rfl
  · have : i = o.length := by omega
    subst this
    rw [List.take_length] at ehs
    simp [e3]
    exact At.of ehs
end Go.Proofs.YtedpcenghofpoaaDoor
set_option linter.unusedVariables false
set_option linter.unusedSimpArgs false
namespace Go.Proofs.YtedpcenghofpoaaDoor
open Go Fw

/-- what is wrong with an order at the place i -/
def oE (o : List Int) (i : Nat) : Int := if btw 0 (gI o i) ((o.length : Int) - 1) = false then 5 else if gI o i ∈ o.take i then 6 else 0
def liesR (l : List Int) (f : List UInt8) (o : List Int) : Int :=
  if chk l f ≠ 0 then chk l f else if o.length ≠ l.length then 9 else if firstE (oE o) o.length ≠ 0 then firstE (oE o) o.length else if crsL (hO o) (o.length - 1) = f ∧ fitB l (hO o) = true then 0 else 13
theorem oE_zero {o : List Int} {i : Nat} (h : oE o i = 0) : 0 ≤ gI o i ∧ gI o i < o.length ∧ gI o i ∉ o.take i := by
  unfold oE at h
  split at h
  · omega
  · rename_i hb
    split at h
    · omega
    · rename_i hn
      have : btw 0 (gI o i) ((o.length : Int) - 1) = true := by simpa using hb
      simp only [btw, Bool.and_eq_true, decide_eq_true_eq] at this
      exact ⟨this.1, by omega, hn⟩
theorem oE_all {o : List Int} (h : ∀ k, k < o.length → oE o k = 0) : (∀ a ∈ o, 0 ≤ a ∧ a < o.length) ∧ o.Nodup := by
  constructor
  · intro a ha
    obtain ⟨k, hk, e⟩ := List.getElem_of_mem ha
    have := oE_zero (h k hk)
    rw [gI_of hk, e] at this
    exact ⟨this.1, this.2.1⟩
  · rw [List.nodup_iff_pairwise_ne, List.pairwise_iff_getElem]
    intro i j hi hj hij e
    have := oE_zero (h j hj)
    rw [gI_of hj] at this
    exact this.2.2 (List.mem_take_iff_getElem.2 ⟨i, by omega, e⟩)
def S52 : List AV → Option AV
  | [x, .int .i64 n] => (asI x).map fun l => .bool (decide (n ∈ l))
  | _ => none
theorem S52_i {x : AV} {l : List Int} (h : asI x = some l) (n : Int) : S52 [x, .int .i64 n] = some (.bool (decide (n ∈ l))) := by simp [S52, h]
theorem S52_ok : ∀ a r, S52 a = some r → PCall Tryd.prog 52 a r := by
  intro a r e
  unfold S52 at e
  split at e <;> (try (cases e; done))
  rename_i x n
  cases hl : asI x with
  | none => simp [hl] at e
  | some l => simp [hl] at e; subst e; exact p52 hl n
def C8 : PCtx := C2.add 52 S52
theorem C8ok : CtxOk Tryd.prog C8 := C2ok.add S52_ok
theorem hV_hL (h : Nat → Int) : hV h = .agg (ints (hL 7 h)) := rfl
theorem slice_to {x : AV} {l : List Int} (hx : asI x = some l) {k : Nat} (hk : k ≤ l.length) : ∃ y, aslice 1 x none (some (.int .i64 (k : Int))) none = some y ∧ asI y = some (l.take k) := sl_take hx hk
theorem ld7 {hp : Nat → Option (List AV)} {b : Nat} {h : Nat → Int} (hh : hp b = some (ints (hL 7 h))) : aload hp true 7 (.ref b 0) = some (hV h) := by
  simp only [aload, hh, Option.bind_some]
  rfl
theorem p21 {x y : AV} {l o : List Int} (hx : asI x = some l) (f : List UInt8) (hy : asI y = some o) : PCall Tryd.prog 21 [.agg [x, .str (bs f)], y] (.int .i64 (liesR l f o)) := by
  by_cases hc : chk l f = 0
  rotate_left
  · refine PCall.of C8ok ok21 (by simp) rfl fun hs hb => ?_
    have c19 : C8 19 [.agg [x, .str (bs f)]] = some (.int .i64 (chk l f)) := chk_i hx
    simp [A21, R21, c19, hc, liesR]
  obtain ⟨hm, hfl, _⟩ := chk_0 hc
  obtain ⟨m1, m2, m3, m4⟩ := meas_0 hm
  have hll := asI_len hy
  by_cases hlen : o.length = l.length
  rotate_left
  · refine PCall.of C8ok ok21 (by simp) rfl fun hs hb => ?_
    have c19 : C8 19 [.agg [x, .str (bs f)]] = some (.int .i64 (chk l f)) := chk_i hx
    simp [A21, R21, c19, hc, liesR, hlen, asI_ld hx, alen_of hx, alen_of hy, show ¬ (o.length : Int) = (l.length : Int) by omega]
  obtain ⟨C, hC, c53, hne⟩ := ctx_pt C8ok 53 [hV (hO o), .int .i64 (o.length : Int)] _ (p53 (hO o) (by omega) (by omega))
  have c19 : C 19 [.agg [x, .str (bs f)]] = some (.int .i64 (chk l f)) := by rw [hne 19 (by decide)]; exact chk_i hx
  have c51 : ∀ a b c : Int, C 51 [.int .i64 a, .int .i64 b, .int .i64 c] = some (.bool (btw a b c)) := fun a b c => by rw [hne 51 (by decide)]; rfl
  have c52 : ∀ {x : AV} {l : List Int}, asI x = some l → ∀ n : Int, C 52 [x, .int .i64 n] = some (.bool (decide (n ∈ l))) := fun {x l} h n => by rw [hne 52 (by decide)]; exact S52_i h n
  refine PCall.of hC ok21 (by simp) rfl fun hs hb => ?_
  have haly := alen_of hy
  simp only [A21, R21]
  simp [c19, hc, haly, hlen, asI_ld hx, alen_of hx]
  refine At.loop (fun (i : Nat) s => i ≤ o.length ∧ (∀ k, k < i → oE o k = 0) ∧ s.hs.nh = hs.nh + 1 ∧ s.hs.heap hs.nh = some (ints (hL 7 (hO (o.take i)))) ∧ s.env 1 = y ∧ s.env 2 = .ptr (.agg [x, .str (bs f)]) ∧ s.env 6 = .ref hs.nh 0 ∧ s.env 22 = y ∧ s.env 23 = .int .i64 (o.length : Int) ∧ s.env 24 = .int .i64 (i : Int)) (fun i => o.length - i) 0 ?_ ?_
  · simp [hlen]
    rfl
  rintro N i s hN ⟨hi, hz, enh, ehp, e1, e2, e6, e22, e23, e24⟩
  simp [e23, e24]
  refine At.dec (fun hlt => ?_) (fun hlt => ?_)
  · have hi' : i < o.length := by omega
    have hix := idx_g hy hi' (k := .i64)
    have w0 : IntKind.i64.wrap ((o.length : Int) - 1) = (o.length : Int) - 1 := wrap64 (by omega) (by omega)
    have q1 := c51 0 (gI o i) ((o.length : Int) - 1)
    cases hbt : btw 0 (gI o i) ((o.length : Int) - 1) with
    | false =>
      rw [hbt] at q1
      have hE : oE o i = 5 := by unfold oE; rw [if_pos hbt]
      have hF : firstE (oE o) o.length = 5 := by rw [firstE_hit hz (by rw [hE]; decide) hi', hE]
      have hR : liesR l f o = 5 := by unfold liesR; rw [if_neg (by simp [hc]), if_neg (by simp [hlen]), if_pos (by rw [hF]; decide), hF]
      rw [hR]
      simp [e1, e22, e24, hix, haly, w0, q1]
    | true =>
      rw [hbt] at q1
      obtain ⟨z, ez, hzv⟩ := slice_to hy (k := i) (by omega)
      have q2 := c52 hzv (gI o i)
      by_cases hmem : gI o i ∈ o.take i
      · have hE : oE o i = 6 := by unfold oE; rw [if_neg (by simp [hbt]), if_pos hmem]
        have hF : firstE (oE o) o.length = 6 := by rw [firstE_hit hz (by rw [hE]; decide) hi', hE]
        have hR : liesR l f o = 6 := by unfold liesR; rw [if_neg (by simp [hc]), if_neg (by simp [hlen]), if_pos (by rw [hF]; decide), hF]
        rw [hR]
        simp [e1, e22, e24, hix, haly, w0, q1, ez, q2, hmem]
      · have hE : oE o i = 0 := by unfold oE; rw [if_neg (by simp [hbt]), if_neg hmem]
        have hz' : ∀ k, k < i + 1 → oE o k = 0 := fun k hk => by
          by_cases e : k = i
          · subst e; exact hE
          · exact hz k (by omega)
        obtain ⟨g0, g1, g2⟩ := oE_zero hE
        obtain ⟨a, ha⟩ : ∃ a : Nat, gI o i = (a : Int) := ⟨(gI o i).toNat, by omega⟩
        rw [ha] at hix q1 q2 hmem g0 g1
        have ix : aidxA 7 false 1 (.ref hs.nh 0) (.int .i64 (a : Int)) = some (.ref hs.nh a) := by simp [aidxA, afaddr]; omega
        have st : astore s.hs.heap 1 (.ref hs.nh a) (.int .i64 (i : Int)) = some (fun k => if k = hs.nh then some ((ints (hL 7 (hO (o.take i)))).set a (.int .i64 (i : Int))) else s.hs.heap k) := store_cell ehp (by rw [ints_len, hL_len]; omega) rfl
        have hnew : hL 7 (hO (o.take (i + 1))) = hL 7 fun j => if j = a then (i : Int) else hO (o.take i) j := by
          refine hL_cong fun k _ => ?_
          rw [take_snoc hi', ← gI_of hi', ha, hO_snoc hmem]
          simp [Nat.min_eq_left hi]
        rw [hL_set (by omega), ← hnew] at st
        have w1 := wrap_nat1 (show i < _ by omega)
        simp [e1, e6, e22, e24, hix, haly, w0, q1, ez, q2, hmem, ix, st, w1]
        refine hN (i + 1) _ (by omega) ⟨by omega, hz', ?_⟩
        simp [e1, e2, e6, e22, e23, enh]
  · have hi2 : i = o.length := by omega
    subst hi2
    rw [List.take_length] at ehp
    have hF : firstE (oE o) o.length = 0 := firstE_zero hz
    have hres : liesR l f o = if crsL (hO o) (o.length - 1) = f ∧ fitB l (hO o) = true then 0 else 13 := by
      unfold liesR
      rw [if_neg (by simp [hc]), if_neg (by simp [hlen]), if_neg (by simp [hF])]
    rw [hres]
    simp
    refine At.any_to (fun s' => s'.env 62 = .bool (!(decide (crsL (hO o) (o.length - 1) = f) && fitB l (hO o)))) ?_ (fun s' h62 => ?_)
    · have e46 : aload s.hs.heap true 7 (.ref hs.nh 0) = some (hV (hO o)) := ld7 ehp
      refine At.any_q 1 endN_p rfl rfl rfl ?_
      simp
      refine At.any_q 2 endN_p rfl rfl rfl ?_
      simp [e1, haly]
      refine At.any_q 4 endN_p rfl rfl rfl ?_
      simp [e2]
      refine At.any_l 5 endN_p rfl rfl ⟨.str (bs f), by simp⟩ ?_
      simp
      refine At.any_o 0 rfl rfl ?_
      simp [e6, e46]
      refine At.any_o 3 rfl rfl ?_
      simp [c53]
      refine At.any_o 6 rfl rfl ?_
      simp
      refine At.any_o 7 rfl rfl ?_
      simp
      by_cases c1 : crsL (hO o) (o.length - 1) = f
      · simp [c1]
        have hfits : ∀ hs2 : HS, Sht hs2 (s.hs.nh + 1) s.hs.nh l l.length → FCall Tryd.prog 54 [.ref (s.hs.nh + 1) 0, hV (hO o), .int .i64 (o.length : Int)] hs2 fun e hs' => e = .ret (.bool (fitB l (hO o))) ∧ hs' = hs2 := fun hs2 h2 => by rw [hlen]; exact p54 hm (hO o) h2
        have hst := hV_sto (hO o)
        generalize hV (hO o) = H at e46 hfits hst ⊢
        refine At.any_q 8 endN_p rfl rfl rfl ?_
        simp [e2]
        refine At.any_q 12 endN_p rfl rfl rfl ?_
        simp [e1]
        refine At.any_q 13 endN_p rfl rfl rfl ?_
        simp [haly]
        refine At.any_lg 9 endN_p rfl rfl (by simp [AS.want]) (y := x) (v := x) (by simp) (by rw [asI_cells hx]; rfl) ?_
        refine At.any_2 10 11 rfl rfl rfl ?_ ?_
        · simp
          refine At.hc (p45 hx hm s.hs) ?_ ?_
          · rintro v hs2 ⟨hv, hsht, hext⟩
            injection hv with hv; subst hv
            have e57 : aload hs2.heap true 7 (.ref hs.nh 0) = some H := by
              rw [← e46]
              simp only [aload, hext.h.heap hs.nh (by omega)]

            refine At.any_o 11 rfl rfl ?_
            simp [e6, e57]
            refine At.any_o 14 rfl rfl ?_
            simp
            refine At.hc (hfits hs2 hsht) ?_ ?_
            · rintro v hs3 ⟨hv, rfl⟩
              injection hv with hv; subst hv

              refine At.any_o 15 rfl rfl ?_
              simp
              refine At.any_o 16 rfl rfl ?_
              simp
              refine At.any_e rfl ?_
              simp
            · rintro v hs3 ⟨hv, _⟩; cases hv
          · rintro v hs2 ⟨hv, _⟩; cases hv
        · simp [e6, e46]
          refine At.any_o 10 rfl rfl ?_
          simp
          refine At.hc (p45 hx hm s.hs) ?_ ?_
          · rintro v hs2 ⟨hv, hsht, hext⟩
            injection hv with hv; subst hv

            refine At.any_o 14 rfl rfl ?_
            simp
            refine At.hc (hfits hs2 hsht) ?_ ?_
            · rintro v hs3 ⟨hv, rfl⟩
              injection hv with hv; subst hv

              refine At.any_o 15 rfl rfl ?_
              simp
              refine At.any_o 16 rfl rfl ?_
              simp
              refine At.any_e rfl ?_
              simp
            · rintro v hs3 ⟨hv, _⟩; cases hv
          · rintro v hs2 ⟨hv, _⟩; cases hv
      · simp [c1]
        refine At.any_u 8 endN_p rfl rfl (by simp [AS.want]) ?_
        refine At.any_u 9 endN_p rfl rfl (by simp [AS.want]) ?_
        refine At.any_u 10 endN_p rfl rfl (by simp [AS.want]) ?_
        refine At.any_u 11 endN_p rfl rfl (by simp [AS.want]) ?_
        refine At.any_u 12 endN_p rfl rfl (by simp [AS.want]) ?_
        refine At.any_u 13 endN_p rfl rfl (by simp [AS.want]) ?_
        refine At.any_u 14 endN_p rfl rfl (by simp [AS.want]) ?_
        refine At.any_u 15 endN_p rfl rfl (by simp [AS.want]) ?_
        refine At.any_o 16 rfl rfl ?_
        simp
        refine At.any_e rfl ?_
        simp
    · by_cases c1 : crsL (hO o) (o.length - 1) = f
      · cases c2 : fitB l (hO o) with
        | true => simp [c1, c2] at h62; simp [h62, c1]
        | false => simp [c1, c2] at h62; simp [h62, c1]
      · simp [c1] at h62; simp [h62, c1]
end Go.Proofs.YtedpcenghofpoaaDoor
set_option linter.unusedVariables false
set_option linter.unusedSimpArgs false
namespace Go.Proofs.YtedpcenghofpoaaDoor
open Go Fw

theorem frz_heights {hp : Nat → Option (List AV)} {b : Nat} {L : List Int} {n : Nat} (hh : hp b = some (ints L)) (hl : L.length = n) : ∃ c, frz hp 2 (.msl false 1 b 0 n true) = .sl 1 (ints L) c := by
  have := frzL_msl (h := hp) (n := 1) (ag := false) (sz := 1) (i := b) (off := 0) (len := n) (ex := true) (ys := ints L) (xs := ints L) hh (mcont_full (by rw [ints_len]; exact hl))
  rw [frz_msl, this]
  exact ⟨_, by rw [map_frz_ints]⟩
theorem p22 {x y : AV} {l o : List Int} (hx : asI x = some l) (f : List UInt8) (hy : asI y = some o) : PCall Tryd.prog 22 [.agg [x, .str (bs f)], y] (.int .i64 (liesR l f o)) := by
  by_cases hc : chk l f = 0
  rotate_left
  · refine PCall.of C8ok ok22 (by simp) rfl fun hs hb => ?_
    have c20 : C8 20 [.agg [x, .str (bs f)]] = some (.int .i64 (chk l f)) := chk_i hx
    simp [A22, R22, c20, hc, liesR]
  obtain ⟨hm, hfl, _⟩ := chk_0 hc
  obtain ⟨m1, m2, m3, m4⟩ := meas_0 hm
  have hll := asI_len hy
  by_cases hlen : o.length = l.length
  rotate_left
  · refine PCall.of C8ok ok22 (by simp) rfl fun hs hb => ?_
    have c20 : C8 20 [.agg [x, .str (bs f)]] = some (.int .i64 (chk l f)) := chk_i hx
    simp [A22, R22, c20, hc, liesR, hlen, asI_ld hx, alen_of hx, alen_of hy, show ¬ (o.length : Int) = (l.length : Int) by omega]
  obtain ⟨C1', hC1, c57', hne1⟩ := ctx_fam C8ok 57 (fun z : {z : AV // asI z = some (hL o.length (hO o))} => [z.1]) (fun _ => .str (bs (crsL (hO o) (o.length - 1)))) (fun z => p57 z.2 (by omega) (by omega)) (fun _ _ _ => rfl)
  obtain ⟨C, hC, c58', hne⟩ := ctx_fam hC1 58 (fun z : {z : AV // asI z = some (hL l.length (hO o))} => [x, z.1]) (fun _ => .bool (fitB l (hO o))) (fun z => p58 hx hm z.2) (fun _ _ _ => rfl)
  have c20 : C 20 [.agg [x, .str (bs f)]] = some (.int .i64 (chk l f)) := by rw [hne 20 (by decide), hne1 20 (by decide)]; exact chk_i hx
  have c55 : ∀ a b c : Int, C 55 [.int .i64 a, .int .i64 b, .int .i64 c] = some (.bool (btw b a c)) := fun a b c => by rw [hne 55 (by decide), hne1 55 (by decide)]; rfl
  have c57 : ∀ {z : AV}, asI z = some (hL o.length (hO o)) → C 57 [z] = some (.str (bs (crsL (hO o) (o.length - 1)))) := fun {z} hz => by rw [hne 57 (by decide)]; exact c57' ⟨z, hz⟩
  have c58 : ∀ {z : AV}, asI z = some (hL l.length (hO o)) → C 58 [x, z] = some (.bool (fitB l (hO o))) := fun {z} hz => c58' ⟨z, hz⟩
  refine PCall.of hC ok22 (by simp) rfl fun hs hb => ?_
  have haly := alen_of hy
  simp only [A22, R22]
  simp [c20, hc, haly, hlen, asI_ld hx, alen_of hx]
  refine At.loop (fun (i : Nat) s => i ≤ o.length ∧ (∀ k, k < i → oE o k = 0) ∧ s.hs = hs ∧ s.env 1 = y ∧ s.env 2 = .ptr (.agg [x, .str (bs f)]) ∧ s.env 6 = .int .i64 (i : Int)) (fun i => o.length - i) 0 ?_ ?_
  · simp
  rintro N i s hN ⟨hi, hz, ehs, e1, e2, e6⟩
  simp [e1, e6, haly]
  refine At.dec (fun hlt => ?_) (fun hlt => ?_)
  · have hi' : i < o.length := by omega
    have hix := idx_g hy hi' (k := .i64)
    have w0 : IntKind.i64.wrap ((o.length : Int) - 1) = (o.length : Int) - 1 := wrap64 (by omega) (by omega)
    have q1 := c55 (gI o i) 0 ((o.length : Int) - 1)
    cases hbt : btw 0 (gI o i) ((o.length : Int) - 1) with
    | false =>
      rw [hbt] at q1
      have hE : oE o i = 5 := by unfold oE; rw [if_pos hbt]
      have hF : firstE (oE o) o.length = 5 := by rw [firstE_hit hz (by rw [hE]; decide) hi', hE]
      have hR : liesR l f o = 5 := by unfold liesR; rw [if_neg (by simp [hc]), if_neg (by simp [hlen]), if_pos (by rw [hF]; decide), hF]
      rw [hR]
      simp [e1, e6, hix, haly, w0, q1]
    | true =>
      rw [hbt] at q1
      simp [e1, e6, hix, haly, w0, q1]
      refine At.loop (fun (k : Nat) s => k ≤ i ∧ gI o i ∉ o.take k ∧ s.hs = hs ∧ s.env 1 = y ∧ s.env 2 = .ptr (.agg [x, .str (bs f)]) ∧ s.env 6 = .int .i64 (i : Int) ∧ s.env 7 = .int .i64 (k : Int)) (fun k => i - k) 0 ?_ ?_
      · simp [ehs, e1, e2, e6]
      rintro N2 k s hN2 ⟨hk, hnm, ehs, e1, e2, e6, e7⟩
      simp [e6, e7]
      refine At.dec (fun hlt2 => ?_) (fun hlt2 => ?_)
      · have hk' : k < i := by omega
        have hix2 := idx_g hy (i := k) (by omega) (k := .i64)
        simp [e1, e6, e7, hix, hix2]
        refine At.dec (fun h => ?_) (fun h => ?_)
        · have hmem : gI o i ∈ o.take i := by
            rw [← h, gI_of (show k < o.length by omega)]
            exact List.mem_take_iff_getElem.2 ⟨k, by omega, rfl⟩
          have hE : oE o i = 6 := by unfold oE; rw [if_neg (by simp [hbt]), if_pos hmem]
          have hF : firstE (oE o) o.length = 6 := by rw [firstE_hit hz (by rw [hE]; decide) hi', hE]
          have hR : liesR l f o = 6 := by unfold liesR; rw [if_neg (by simp [hc]), if_neg (by simp [hlen]), if_pos (by rw [hF]; decide), hF]
          rw [hR]
          simp
        · have w1 := wrap_nat1 (show k < _ by omega)
          simp [e7, w1]
          refine hN2 (k + 1) _ (by omega) ⟨by omega, notmem_take_succ (by omega) hnm (by rw [← gI_of]; exact fun e => h e.symm), ?_⟩
          simp [ehs, e1, e2, e6]
      · have hki : k = i := by omega
        subst hki
        have hE : oE o k = 0 := by unfold oE; rw [if_neg (by simp [hbt]), if_neg hnm]
        have w1 := wrap_nat1 (show k < _ by omega)
        simp [e6, w1]
        refine hN (k + 1) _ (by omega) ⟨by omega, fun j hj => ?_, ?_⟩
        · by_cases e : j = k
          · subst e; exact hE
          · exact hz j (by omega)
        · simp [ehs, e1, e2]
  · have hi2 : i = o.length := by omega
    subst hi2
    have hF : firstE (oE o) o.length = 0 := firstE_zero hz
    obtain ⟨hr, hd⟩ := oE_all hz
    have hres : liesR l f o = if crsL (hO o) (o.length - 1) = f ∧ fitB l (hO o) = true then 0 else 13 := by
      unfold liesR
      rw [if_neg (by simp [hc]), if_neg (by simp [hlen]), if_neg (by simp [hF])]
    rw [hres]
    simp [e1]
    refine At.hc (p56 (hs := s.hs) (n0 := 0) (.of hy) (by omega) (by omega) hr hd) ?_ ?_
    · rintro v hs2 ⟨hv, hs2e⟩
      injection hv with hv; subst hv
      obtain ⟨c, hfz⟩ := frz_heights (hp := (s.hs.blk (ints (hL o.length (hO o)))).heap) (b := s.hs.nh) (L := hL o.length (hO o)) (n := o.length) (by simp) (hL_len _ _)
      have hzi : asI (.sl 1 (ints (hL o.length (hO o))) c) = some (hL o.length (hO o)) := asI_sl (by rw [hL_len]; exact hll)
      have k57 := c57 hzi
      have k58 := c58 (z := .sl 1 (ints (hL o.length (hO o))) c) (by rw [← hlen]; exact hzi)
      have a57 : alcall C 57 (s.hs.blk (ints (hL o.length (hO o)))) [.msl false 1 s.hs.nh 0 o.length true] = some (.str (bs (crsL (hO o) (o.length - 1)))) := by
        unfold alcall
        rw [show [AV.msl false 1 s.hs.nh 0 o.length true].map (frz (s.hs.blk (ints (hL o.length (hO o)))).heap 2) = [.sl 1 (ints (hL o.length (hO o))) c] by rw [List.map_cons, hfz]; rfl, k57]
        rfl
      have a58 : alcall C 58 (s.hs.blk (ints (hL o.length (hO o)))) [x, .msl false 1 s.hs.nh 0 o.length true] = some (.bool (fitB l (hO o))) := by
        unfold alcall
        rw [show [x, AV.msl false 1 s.hs.nh 0 o.length true].map (frz (s.hs.blk (ints (hL o.length (hO o)))).heap 2) = [x, .sl 1 (ints (hL o.length (hO o))) c] by rw [List.map_cons, List.map_cons, hfz, frz_asI hx]; rfl, k58]
        rfl
      rw [← hs2e] at a57 a58
      clear hs2e
      by_cases c1 : crsL (hO o) (o.length - 1) = f
      · cases c2 : fitB l (hO o) with
        | true =>
          rw [c2] at a58
          simp [e2, a57, a58, c1, asI_ld hx]
        | false =>
          rw [c2] at a58
          simp [e2, a57, a58, c1, asI_ld hx]
      · simp [e2, a57, c1]
    · rintro v hs2 ⟨hv, _⟩; cases hv
end Go.Proofs.YtedpcenghofpoaaDoor
set_option linter.unusedVariables false
set_option linter.unusedSimpArgs false
namespace Go.Proofs.YtedpcenghofpoaaDoor
open Go Fw

/-- the span of a segment -/
def bnd (l : List Int) (i : Nat) : AV := .agg [.int .i64 (min (pn l i) (pn l (i + 1))), .int .i64 (max (pn l i) (pn l (i + 1)))]
def bnds (l : List Int) (n : Nat) : List AV := (List.range n).map (bnd l)
theorem bnds_len (l : List Int) (n : Nat) : (bnds l n).length = n := by simp [bnds]
theorem mcont_bnds {l : List Int} {j : Nat} {ys : List AV} (h : Shc l l.length j ys) (hl : l.length ≤ 7) : mcont true 2 0 l.length ys = some (bnds l l.length) := by
  unfold mcont
  rw [if_pos ⟨by rw [h.len]; omega, .inl rfl⟩]
  congr 1
  refine List.map_congr_left fun k hk => ?_
  have hk := List.mem_range.1 hk
  have h1 := h.lo k hk
  have h2 := h.hi k hk
  have hlen := h.len
  simp only [if_true, bnd, Nat.zero_add]
  congr 1
  rw [Nat.mul_comm k 2, List.drop_eq_getElem_cons (by omega), List.take_succ_cons, List.drop_eq_getElem_cons (by omega), List.take_succ_cons, List.take_zero]
  rw [List.getElem?_eq_getElem (by omega)] at h1 h2
  injection h1 with h1
  injection h2 with h2
  rw [h1, h2]
theorem p46 {l : List Int} (h1 : 1 ≤ l.length) (hl : l.length ≤ 7) {hs : HS} {p j : Nat} {ys : List AV} {ex : Bool} (hh : hs.heap p = some ys) (hS : Shc l l.length j ys) :
    FCall Tryd.prog 46 [.msl true 2 p 0 l.length ex] hs fun e hs' => ∃ k, e = .ret (.sl 2 (bnds l l.length) (.own k)) := by
  refine FCall.ofAt CtxOk.nil ok46 (by simp) ?_
  have ha : aappend 2 hs (.sl 2 [] .exact) (.msl true 2 p 0 l.length ex) = some (.sl 2 (bnds l l.length) (.own hs.nt), { hs with nt := hs.nt + 1, tok := fun t => if t = hs.nt then true else hs.tok t }) := by
    have hne : bnds l l.length ≠ [] := by intro e; have := congrArg List.length e; rw [bnds_len] at this; simp only [List.length_nil] at this; omega
    unfold aappend
    simp only [aelemsH, aelems, hh, Option.bind_some, mcont_bnds hS hl]
    rw [if_pos ⟨rfl, rfl, by rw [bnds_len]; simp; omega⟩, if_neg hne]
    rfl
  have hn : abin 2 .eql (.msl true 2 p 0 l.length ex) .nilsl = some (.bool false) := rfl
  simp [A46, R46, hn, astoAll, ha]
def plcV (l : List Int) (f : List UInt8) : AV := if chk l f = 0 then .tup [outV 2 (bnds l l.length), .int .i64 0] else .tup [.nilsl, .int .i64 (chk l f)]
theorem plainL_bnds (l : List Int) (n : Nat) : plainL (bnds l n) = true := by
  unfold bnds
  generalize List.range n = r
  induction r with
  | nil => rfl
  | cons a r ih => simp only [List.map_cons, plainL, ih, Bool.and_true]; rfl
theorem share_bnds (l : List Int) (n : Nat) : (bnds l n).map AV.share = bnds l n := by
  unfold bnds
  rw [List.map_map]
  refine List.map_congr_left fun k _ => ?_
  simp [bnd]
theorem plcV_plain (l : List Int) (f : List UInt8) : (plcV l f).plain = true := by
  unfold plcV
  split
  · simp only [AV.plain, plainL, Bool.and_true]
    unfold outV
    split
    · rfl
    · simp only [AV.plain, plainL_bnds]
  · rfl
theorem p17 {x : AV} {l : List Int} (hx : asI x = some l) (f : List UInt8) : PCall Tryd.prog 17 [.agg [x, .str (bs f)]] (plcV l f) := by
  refine PCall.of C2ok ok17 (by simp) (plcV_plain l f) fun hs hb => ?_
  by_cases hc : chk l f = 0
  rotate_left
  · simp [A17, R17, chk_i hx, hc, plcV]
  obtain ⟨hm, hfl, _⟩ := chk_0 hc
  obtain ⟨m1, m2, m3, m4⟩ := meas_0 hm
  have hne : bnds l l.length ≠ [] := by intro e; have := congrArg List.length e; rw [bnds_len] at this; simp only [List.length_nil] at this; omega
  simp only [A17, R17]
  simp [chk_i hx, hc, asI_ld hx, plcV]
  refine At.hc (p45 hx hm hs) ?_ ?_
  · rintro v hs2 ⟨hv, hsht, hext⟩
    injection hv with hv; subst hv
    obtain ⟨ys, hys, hS⟩ := hsht.cells
    have nc : anilchk (.ref (hs.nh + 1) 0) = some (.ref (hs.nh + 1) 0) := rfl
    have ha : amem (.asl true 2 7 false true) hs2 [.ref (hs.nh + 1) 0, .int .i64 (l.length : Int)] = some (.msl true 2 (hs.nh + 1) 0 l.length false, hs2) := by
      simp only [amem, mlo, mhi, aidx, aaslice]
      simp [aidx, show (l.length : Int) ≤ 7 by omega, aaslice, amsub, show ¬ 0 = l.length by omega]
    simp [nc, fa, asI_ld hx, alen_of hx, ha]
    refine At.hc (p46 m1 m2 (hs := hs2) (ex := false) hys hS) ?_ ?_
    · rintro v hs3 ⟨k, hv⟩
      injection hv with hv; subst hv
      simp [outV_ne hne]
      rw [← List.map_eq_map_iff.2 (fun _ _ => rfl), share_bnds]
    · rintro v hs3 ⟨k, hv⟩; cases hv
  · rintro v hs2 ⟨hv, _⟩; cases hv
theorem p18 {x : AV} {l : List Int} (hx : asI x = some l) (f : List UInt8) : PCall Tryd.prog 18 [.agg [x, .str (bs f)]] (plcV l f) := by
  by_cases hc : chk l f = 0
  rotate_left
  · refine PCall.of C2ok ok18 (by simp) (plcV_plain l f) fun hs hb => ?_
    simp [A18, R18, chk_i hx, hc, plcV]
  obtain ⟨hm, hfl, _⟩ := chk_0 hc
  obtain ⟨m1, m2, m3, m4⟩ := meas_0 hm
  obtain ⟨C, hC, c47, hne⟩ := ctx_pt C2ok 47 _ _ (p47 hx hm)
  have c20 : C 20 [.agg [x, .str (bs f)]] = some (.int .i64 (chk l f)) := by rw [hne 20 (by decide)]; exact chk_i hx
  refine PCall.of hC ok18 (by simp) (plcV_plain l f) fun hs hb => ?_
  have hpv := asI_outV (l := hL (l.length + 1) (pn l)) (by rw [hL_len]; omega)
  have hal := alen_of hx
  have ix : ∀ {k : Nat}, k < l.length + 1 → aidxS 1 (outV 1 (ints (hL (l.length + 1) (pn l)))) (.int .i64 (k : Int)) = some (.ptr (.int .i64 (pn l k))) := fun {k} hk => by
    have := idx_g hpv (i := k) (by rw [hL_len]; exact hk) (k := .i64)
    rwa [gI_hL hk] at this
  generalize outV 1 (ints (hL (l.length + 1) (pn l))) = pv at c47 ix
  clear hpv
  simp only [A18, R18]
  simp [c20, hc, asI_ld hx, c47, plcV]
  refine At.loop (fun (i : Nat) s => i ≤ l.length ∧ s.env 1 = .ptr (.agg [x, .str (bs f)]) ∧ s.env 5 = pv ∧ s.env 7 = .int .i64 (i : Int) ∧ Outs 2 s.hs (s.env 6) (bnds l i)) (fun i => l.length - i) 0 ?_ ?_
  · simp; exact .nil
  rintro N i s hN ⟨hi, e1, e5, e7, ho⟩
  simp [e1, e7, asI_ld hx, hal]
  refine At.dec (fun hlt => ?_) (fun hlt => ?_)
  · have hi' : i < l.length := by omega
    have x1 := ix (k := i) (by omega)
    have x2 := ix (k := i + 1) (by omega)
    have w1 := wrap_nat1 (show i < _ by omega)
    have mn : amin (.int .i64 (pn l i)) (.int .i64 (pn l (i + 1))) = some (.int .i64 (min (pn l i) (pn l (i + 1)))) := rfl
    have mx : amax (.int .i64 (pn l i)) (.int .i64 (pn l (i + 1))) = some (.int .i64 (max (pn l i) (pn l (i + 1)))) := rfl
    have hbs : bnds l (i + 1) = bnds l i ++ [bnd l i] := by unfold bnds; rw [List.range_succ, List.map_append]; rfl
    have hbd : bnd l i = .agg [.int .i64 (min (pn l i) (pn l (i + 1))), .int .i64 (max (pn l i) (pn l (i + 1)))] := rfl
    generalize hk1 : ((i + 1 : Nat) : Int) = i1 at w1 x2
    generalize min (pn l i) (pn l (i + 1)) = vmn at mn hbd
    generalize max (pn l i) (pn l (i + 1)) = vmx at mx hbd
    have hap := append_outs (q := .sl 2 [.agg [.int .i64 vmn, .int .i64 vmx]] .exact) (ys := [.agg [.int .i64 vmn, .int .i64 vmx]]) ho (asV_sl (by simp)) (by rw [bnds_len]; simp; omega)
    obtain ⟨y, hs', a1, a2, a3⟩ := hap
    simp [e1, e5, e7, x1, x2, w1, mn, mx, -amin_int, -amax_int, astoAll, AV.sto, AV.cells, AV.leaf, a1]
    refine hN (i + 1) _ (by omega) ⟨by omega, ?_⟩
    simp [e1, e5, w1, hk1, hbs, hbd]
    simpa using a2
  · have : i = l.length := by omega
    subst this
    have := ho.sh
    simp
    exact this
end Go.Proofs.YtedpcenghofpoaaDoor
