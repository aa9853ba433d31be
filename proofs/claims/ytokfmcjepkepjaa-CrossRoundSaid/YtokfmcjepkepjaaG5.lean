/-
  Rules by numbers: made; what the first pairs with the same distance are. Own work.
  Mirrored and shifted rules. Own work.
  How often each distance occurs; clean. Own work.
  CrossLocated. Own work.
-/
import Derived.Test.YtokfmcjepkepjaaG4
import Derived.Test.YtokfmcjepkepjaaFw4
set_option linter.unusedVariables false
set_option linter.unusedSimpArgs false
namespace Go.Proofs.Ytokfmcjepkepjaa
open Go Fw

def IsU8 (x : AV) (l : List Int) : Prop := (x = .nilsl ∧ l = [] ∨ x = .sl 1 (l.map (AV.int .u8)) .shared) ∧ ∀ a ∈ l, 0 ≤ a ∧ a ≤ 255
theorem IsU8.of {x : AV} (h : ShV (.sl (.int .u8)) x) : ∃ l, IsU8 x l := by
  obtain ⟨l, h1, _, h3⟩ := shv_intsK h
  exact ⟨l, h1, fun a ha => u8_bd (h3 a ha)⟩
theorem IsU8.len {x : AV} {l : List Int} (h : IsU8 x l) : alenK false x = some (.int .i64 l.length) := by
  rcases h.1 with ⟨rfl, rfl⟩ | rfl
  · rfl
  · simp
theorem IsU8.get {x : AV} {l : List Int} (h : IsU8 x l) {i : Nat} (hi : i < l.length) : aidxS 1 x (.int .i64 (i : Int)) = some (.ptr (.int .u8 l[i])) := by
  rcases h.1 with ⟨rfl, rfl⟩ | rfl
  · simp at hi
  · simp [aidxS, hi]
/-- the places after the first i steps -/
def mdN (es : List Int) (m : Int) : Nat → List Int
  | 0 => [0]
  | i + 1 => mdN es m i ++ [lastN (mdN es m i) + 1 + es.getD i 0 % m]
theorem mdN_len (es : List Int) (m : Int) : ∀ i, (mdN es m i).length = i + 1
  | 0 => rfl
  | i + 1 => by simp [mdN, mdN_len es m i]
theorem mdN_ne (es : List Int) (m : Int) (i : Nat) : mdN es m i ≠ [] := by
  have := mdN_len es m i
  intro h; rw [h] at this; simp at this
def madL (es : List Int) (m : Int) : List Int := if es.length = 0 then [0, 3] else mdN es m (min es.length 5)
theorem mdN_ok {es : List Int} {m : Int} (hm : 0 < m) : ∀ i, (∀ n ∈ mdN es m i, 0 ≤ n ∧ n ≤ lastN (mdN es m i)) ∧ lastN (mdN es m i) ≤ m * i ∧ (mdN es m i).Pairwise (· < ·) ∧ (mdN es m i).getD 0 0 = 0
  | 0 => by simp [mdN, lastN]
  | i + 1 => by
    obtain ⟨h1, h2, h3, h4⟩ := mdN_ok (es := es) hm i
    have hr0 := Int.emod_nonneg (es.getD i 0) (show m ≠ 0 by omega)
    have hr1 := Int.emod_lt_of_pos (es.getD i 0) hm
    have hl0 : 0 ≤ lastN (mdN es m i) := by
      have hp : 0 < (mdN es m i).length := by rw [mdN_len]; omega
      have := h1 (mdN es m i)[0] (List.getElem_mem _)
      omega
    simp only [mdN, lastN_snoc]
    refine ⟨?_, ?_, ?_, ?_⟩
    · intro n hn
      rcases List.mem_append.1 hn with hn | hn
      · have := h1 n hn; omega
      · rw [List.mem_singleton] at hn; omega
    · have : m * ((i + 1 : Nat) : Int) = m * i + m := by rw [Int.natCast_add, Int.mul_add]; omega
      omega
    · rw [List.pairwise_append]
      refine ⟨h3, by simp, fun a ha b hb => ?_⟩
      have := h1 a ha
      rw [List.mem_singleton] at hb; omega
    · have hp : 0 < (mdN es m i).length := by rw [mdN_len]; omega
      rw [getD_of (by simp), List.getElem_append_left hp, ← getD_of hp, h4]
theorem madL_ok {es : List Int} {m : Int} (hm : 0 < m) (hm9 : m ≤ 9) : OkL (madL es m) ∧ (madL es m).length ≤ 6 ∧ (madL es m).getD 0 0 = 0 ∧ ∀ n ∈ madL es m, n ≤ 45 ∧ n ≤ lastN (madL es m) := by
  unfold madL
  split
  · refine ⟨⟨by simp, by simp, by simp, by simp⟩, by simp, rfl, by simp [lastN]⟩
  · rename_i h0
    obtain ⟨h1, h2, h3, h4⟩ := mdN_ok (es := es) hm (min es.length 5)
    have hl := mdN_len es m (min es.length 5)
    have hb : m * ((min es.length 5 : Nat) : Int) ≤ 45 := by
      have : ((min es.length 5 : Nat) : Int) ≤ 5 := by omega
      calc m * ((min es.length 5 : Nat) : Int) ≤ m * 5 := Int.mul_le_mul_of_nonneg_left this (by omega)
        _ ≤ 45 := by omega
    refine ⟨⟨by omega, by omega, fun n hn => ?_, h3⟩, by omega, h4, fun n hn => ?_⟩
    · have := h1 n hn; omega
    · have := h1 n hn; omega
theorem lastN_get {l : List Int} (h : 0 < l.length) : l[l.length - 1]'(by omega) = lastN l := by
  obtain ⟨l', q, rfl⟩ := snoc_of (List.length_pos_iff.1 h)
  rw [lastN_snoc]; simp
theorem app_own {hs hs' : HS} {x y : AV} {n : Int} (h : aappend 1 hs x (.sl 1 [.int .i64 n] .exact) = some (y, hs')) : ∃ xs k, y = .sl 1 xs (.own k) := by
  unfold aappend at h
  have e : aelemsH hs.heap (.sl 1 [.int .i64 n] .exact) = some [.int .i64 n] := rfl
  rw [e] at h
  cases hx : aelemsH hs.heap x with
  | none => rw [hx] at h; cases h
  | some xs =>
    rw [hx] at h
    simp only at h
    split at h
    · rw [if_neg (by simp)] at h
      split at h
      · injection h with h; injection h with h _; exact ⟨_, _, h.symm⟩
      · injection h with h; injection h with h _; exact ⟨_, _, h.symm⟩
      · injection h with h; injection h with h _; exact ⟨_, _, h.symm⟩
      · split at h
        · injection h with h; injection h with h _; exact ⟨_, _, h.symm⟩
        · cases h
      · cases h
    · cases h
theorem app_share {hs hs' : HS} {x y : AV} {n : Int} {l : List Int} (h : aappend 1 hs x (.sl 1 [.int .i64 n] .exact) = some (y, hs')) (h2 : asI y = some l) (hne : l ≠ []) : y.share = outV 1 (ints l) := by
  obtain ⟨xs, k, rfl⟩ := app_own h
  rcases asI_inv h2 with ⟨h3, _⟩ | ⟨c, h3⟩
  · cases h3
  · injection h3 with _ h3 h4
    subst h3
    rw [share_sl, share_ints, outV_ne (by simpa [ints] using hne)]; rfl
theorem p40 {x : AV} {es : List Int} (hx : IsU8 x es) {m : Int} (hm : 0 < m) (hm9 : m ≤ 9) : PCall Try.prog 40 [x, .int .i64 m] (outV 1 (ints (madL es m))) := by
  refine PCall.of D2ok ok40 (by simp) (outI_plain _) fun hs' hb => ?_
  simp [A40, R40]
  refine At.loop (fun (i : Nat) s => i ≤ es.length ∧ i ≤ 5 ∧ s.env 0 = x ∧ s.env 1 = .int .i64 m ∧ s.env 6 = .int .i64 (i : Int) ∧ Grow s.hs (s.env 5) (mdN es m i) ∧ (0 < i → (s.env 5).share = outV 1 (ints (mdN es m i)))) (fun i => 5 - i) 0 ?_ ?_
  · refine ⟨by omega, by omega, by simp, by simp, by simp, ⟨?_, ?_⟩, by omega⟩
    · simp [Fresh]
    · simp
      exact asI_sl (l := [0]) (by simp)
  rintro N i s hN ⟨h1, h5, e0, e1, e6, hG, hsh⟩
  simp [e0, e1, e6, hx.len]
  by_cases h : i < es.length ∧ i < 5
  · obtain ⟨hi, hi5⟩ := h
    have hi5' : (i : Int) < 5 := by omega
    obtain ⟨k1, k2, _, _⟩ := mdN_ok (es := es) hm i
    have hl := mdN_len es m i
    have hix := aidx_nat hG.as (i := i) (by omega) (k := .i64)
    have hla : (mdN es m i)[i]'(by omega) = lastN (mdN es m i) := by
      have := lastN_get (l := mdN es m i) (by omega)
      rw [← this]; congr 1; omega
    rw [hla] at hix
    have hp := hx.2 es[i] (List.getElem_mem hi)
    have hb0 : 0 ≤ lastN (mdN es m i) := by
      have := k1 ((mdN es m i)[0]'(by omega)) (List.getElem_mem _); omega
    have hb : lastN (mdN es m i) ≤ 45 := by
      have : m * (i : Int) ≤ 9 * 5 := Int.mul_le_mul hm9 (by omega) (by omega) (by omega)
      omega
    have hr0 := Int.emod_nonneg (es[i]) (show m ≠ 0 by omega)
    have hr1 := Int.emod_lt_of_pos (es[i]) hm
    have hg : es.getD i 0 = es[i] := getD_of hi
    have w1 : IntKind.i64.wrap es[i] = es[i] := wrap64 (by omega) (by omega)
    have w2 : (es[i]).tmod m = es[i] % m := Int.tmod_eq_emod_of_nonneg (by omega)
    have w3 : IntKind.i64.wrap (lastN (mdN es m i) + 1) = lastN (mdN es m i) + 1 := wrap64 (by omega) (by omega)
    have w4 : IntKind.i64.wrap (lastN (mdN es m i) + 1 + es[i] % m) = lastN (mdN es m i) + 1 + es[i] % m := wrap64 (by omega) (by omega)
    have w5 : ¬ m = 0 := by omega
    obtain ⟨y, hs2, a1, a2, a3⟩ := hG.add (by omega) (lastN (mdN es m i) + 1 + es[i] % m)
    simp [hi, hi5, hi5', e0, e1, e6, hix, hx.get hi, w1, w2, w3, w4, w5, astoAll, si, a1, e6]
    refine hN (i + 1) _ (by omega) ⟨by omega, by omega, by simp [e0], by simp [e1], by simp [wrap_nat1 (show i < _ by omega)], ?_, fun _ => ?_⟩
    · simp only [mdN, hg]
      simpa using a2
    · simp only [mdN, hg]
      simpa using app_share a1 a2.as (by simp)
  · have hmin : i = min es.length 5 := by omega
    have hg : ¬ ((i : Int) < (es.length : Int) ∧ (i : Int) < 5) := by omega
    have hdec : decide (i < es.length) = true → ¬ ((i : Int) < 5) := by simp; omega
    have hl := mdN_len es m i
    have al := alen_of hG.as
    by_cases h0 : es.length = 0
    · have hi0 : i = 0 := by omega
      subst hi0
      have hM : madL es m = [0, 3] := by rw [madL, if_pos h0]
      obtain ⟨y, hs2, a1, a2, a3⟩ := hG.add (by omega) 3
      simp [h0, al, hl, a1, astoAll, si]
      rw [hM]
      exact app_share a1 a2.as (by simp)
    · have hM : madL es m = mdN es m i := by rw [madL, if_neg h0, hmin]
      have h2 : ¬ ((mdN es m i).length : Int) < 2 := by omega
      have h2' : ¬ i + 1 < 2 := by omega
      have h2'' : ¬ (i : Int) + 1 < 2 := by omega
      rw [hM]
      have hsh := hsh (by omega)
      by_cases hi : i < es.length
      · have hi5 : ¬ i < 5 := by omega
        have hi5' : ¬ (i : Int) < 5 := by omega
        simp [hi, hi5, hi5', e6, al, hl, h2, h2', h2'', hsh]
      · simp [hi, al, hl, h2, h2', h2'', hsh]

/-! the first pair that another one is like, and the first other one -/
theorem foldS_st2 (num : Pr → Int) (p : Pr) : ∀ ps : List Pr, foldS (st2 num p) none ps = (ps.find? fun q => decide (p ≠ q ∧ num p = num q)).map fun q => (p, q)
  | [] => rfl
  | q :: ps => by
    by_cases h : p ≠ q ∧ num p = num q
    · rw [List.find?_cons_of_pos (by simpa using h)]
      simp [foldS, st2, h]
    · rw [List.find?_cons_of_neg (by simpa using h), ← foldS_st2 num p ps]
      have : st2 num p none q = (none, true) := by simp only [st2]; rw [if_neg h]; rfl
      simp [foldS, this]
theorem foldS_st1 (num : Pr → Int) (ps : List Pr) : ∀ qs : List Pr, foldS (st1 num ps) none qs = qs.findSome? fun p => (ps.find? fun q => decide (p ≠ q ∧ num p = num q)).map fun q => (p, q)
  | [] => rfl
  | p :: qs => by
    rw [List.findSome?_cons, ← foldS_st2]
    cases h : foldS (st2 num p) none ps with
    | none =>
      have : st1 num ps none p = (none, true) := by simp [st1, h]
      simp [foldS, this, foldS_st1 num ps qs]
    | some v =>
      have : st1 num ps none p = (some v, false) := by simp [st1, h]
      simp [foldS, this]
theorem tw_eq (num : Pr → Int) (ps : List Pr) : tw num ps = ps.findSome? fun p => (ps.find? fun q => decide (p ≠ q ∧ num p = num q)).map fun q => (p, q) := foldS_st1 num ps ps
theorem tw_none {num : Pr → Int} {ps : List Pr} : tw num ps = none ↔ ∀ p ∈ ps, ∀ q ∈ ps, p ≠ q → num p ≠ num q := by
  rw [tw_eq, List.findSome?_eq_none_iff]
  simp only [Option.map_eq_none_iff, List.find?_eq_none, decide_eq_true_eq, not_and]
theorem clr_iff {l : List Int} : clrB l = true ↔ ∀ p ∈ resF l.length 0, ∀ q ∈ resF l.length 0, p ≠ q → dsN l p ≠ dsN l q := by
  rw [clrB, Option.isNone_iff_eq_none, tw_none]
theorem twE_clr {l : List Int} : twE (tw (dsN l) (resF l.length 0)) = if clrB l = true then 5 else 0 := by
  unfold twE clrB
  cases tw (dsN l) (resF l.length 0) <;> simp
/-- a call with a list, as a family -/
theorem ctx_li {C : PCtx} (hC : CtxOk Try.prog C) {f : FuncId} {r : List Int → AV} (h : ∀ {x l}, asI x = some l → PCall Try.prog f [x] (r l)) : ∃ C' : PCtx, CtxOk Try.prog C' ∧ (∀ x l, asI x = some l → C' f [x] = some (r l)) ∧ ∀ g, ¬ g = f → C' g = C g := by
  refine ⟨C.fam (ι := {q : AV × List Int // asI q.1 = some q.2}) f (fun q => [q.1.1]) (fun q => r q.1.2), hC.fam fun q => h q.2, fun x l hx => ?_, fun g hg => funext fun a => fam_ne hg⟩
  refine fam_eq (g := fun q : {q : AV × List Int // asI q.1 = some q.2} => [q.1.1]) (r := fun q => r q.1.2) (fun i j e => ?_) ⟨(x, l), hx⟩
  have h1 := i.2
  injection e with e
  rw [e, j.2] at h1
  injection h1 with h1
  show r i.1.2 = r j.1.2
  rw [h1]
end Go.Proofs.Ytokfmcjepkepjaa
set_option linter.unusedVariables false
set_option linter.unusedSimpArgs false
namespace Go.Proofs.Ytokfmcjepkepjaa
open Go Fw

def revL (l : List Int) : List Int := (List.range l.length).map fun i => 60 - l.getD (l.length - 1 - i) 0
def movL (l : List Int) (s : Int) : List Int := l.map fun n => n + s
theorem revL_len (l : List Int) : (revL l).length = l.length := by simp [revL]
theorem movL_len (l : List Int) (s : Int) : (movL l s).length = l.length := by simp [movL]
theorem revL_get {l : List Int} {i : Nat} (h : i < l.length) : (revL l).getD i 0 = 60 - l.getD (l.length - 1 - i) 0 := by
  rw [getD_of (by rw [revL_len]; exact h)]
  simp [revL]
theorem movL_get {l : List Int} {s : Int} {i : Nat} (h : i < l.length) : (movL l s).getD i 0 = l.getD i 0 + s := by
  rw [getD_of (by rw [movL_len]; exact h), getD_of h]
  simp [movL]
theorem revL_ds {l : List Int} {p : Pr} (h1 : p.1 < l.length) (h2 : p.2 < l.length) : dsN (revL l) p = dsN l (l.length - 1 - p.2, l.length - 1 - p.1) := by
  rw [dsN, dsN, revL_get h1, revL_get h2]
  simp only
  omega
theorem movL_ds {l : List Int} {s : Int} {p : Pr} (h1 : p.1 < l.length) (h2 : p.2 < l.length) : dsN (movL l s) p = dsN l p := by
  rw [dsN, dsN, movL_get h1, movL_get h2]
  omega
theorem revL_ok {l : List Int} (h : OkL l) : OkL (revL l) := by
  have h2 := h.two
  have h8 := h.eight
  refine ⟨by rw [revL_len]; exact h2, by rw [revL_len]; exact h8, fun n hn => ?_, ?_⟩
  · obtain ⟨i, hi, rfl⟩ := List.mem_map.1 hn
    have hi' : l.length - 1 - i < l.length := by omega
    rw [getD_of hi']
    have := h.bd _ (List.getElem_mem hi')
    omega
  · rw [List.pairwise_iff_getElem]
    intro i j hi hj hij
    rw [revL_len] at hi hj
    rw [← getD_of, ← getD_of, revL_get hi, revL_get hj, getD_of (by omega), getD_of (by omega)]
    have := List.pairwise_iff_getElem.1 h.asc (l.length - 1 - j) (l.length - 1 - i) (by omega) (by omega) (by omega)
    omega
theorem movL_ok {l : List Int} {s : Int} (h : OkL l) (hs : 0 ≤ s) (hb : ∀ n ∈ l, n + s ≤ 60) : OkL (movL l s) := by
  refine ⟨by rw [movL_len]; exact h.two, by rw [movL_len]; exact h.eight, fun n hn => ?_, ?_⟩
  · obtain ⟨m, hm, rfl⟩ := List.mem_map.1 hn
    have := h.bd m hm
    have := hb m hm
    omega
  · unfold movL
    rw [List.pairwise_map]
    exact h.asc.imp fun hab => by omega
/-- a mirrored pair -/
def flp (n : Nat) (p : Pr) : Pr := (n - 1 - p.2, n - 1 - p.1)
theorem flp_mem {n : Nat} {p : Pr} (h : p ∈ resF n 0) : flp n p ∈ resF n 0 := by
  obtain ⟨h1, h2⟩ := mem_resF.1 h
  refine mem_resF.2 ⟨?_, ?_⟩
  · show n - 1 - p.2 < n - 1 - p.1; omega
  · show n - 1 - p.1 < n; omega
theorem flp_flp {n : Nat} {p : Pr} (h : p ∈ resF n 0) : flp n (flp n p) = p := by
  obtain ⟨h1, h2⟩ := mem_resF.1 h
  obtain ⟨a, b⟩ := p
  simp only at h1 h2
  simp only [flp]
  refine Prod.ext ?_ ?_
  · show n - 1 - (n - 1 - a) = a; omega
  · show n - 1 - (n - 1 - b) = b; omega
theorem revL_dsf {l : List Int} {p : Pr} (h : p ∈ resF l.length 0) : dsN (revL l) p = dsN l (flp l.length p) := by
  obtain ⟨h1, h2⟩ := mem_resF.1 h
  exact revL_ds (by omega) h2
theorem revL_dsb {l : List Int} {p : Pr} (h : p ∈ resF l.length 0) : dsN (revL l) (flp l.length p) = dsN l p := by
  rw [revL_dsf (flp_mem h), flp_flp h]
theorem movL_dsf {l : List Int} {s : Int} {p : Pr} (h : p ∈ resF l.length 0) : dsN (movL l s) p = dsN l p := by
  obtain ⟨h1, h2⟩ := mem_resF.1 h
  exact movL_ds (by omega) h2
theorem revL_meas (l : List Int) (n : Int) : measB (revL l) n = measB l n := by
  rw [Bool.eq_iff_iff]
  simp only [measB, List.any_eq_true, decide_eq_true_eq, revL_len]
  constructor
  · rintro ⟨p, hp, e⟩
    exact ⟨_, flp_mem hp, by rw [← revL_dsf hp]; exact e⟩
  · rintro ⟨p, hp, e⟩
    exact ⟨_, flp_mem hp, by rw [revL_dsb hp]; exact e⟩
theorem movL_meas (l : List Int) (s n : Int) : measB (movL l s) n = measB l n := by
  rw [Bool.eq_iff_iff]
  simp only [measB, List.any_eq_true, decide_eq_true_eq, movL_len]
  constructor
  · rintro ⟨p, hp, e⟩
    exact ⟨p, hp, by rw [← movL_dsf hp]; exact e⟩
  · rintro ⟨p, hp, e⟩
    exact ⟨p, hp, by rw [movL_dsf hp]; exact e⟩
theorem revL_clr (l : List Int) : clrB (revL l) = clrB l := by
  rw [Bool.eq_iff_iff, clr_iff, clr_iff, revL_len]
  constructor
  · intro h p hp q hq hne
    rw [← revL_dsb hp, ← revL_dsb hq]
    refine h _ (flp_mem hp) _ (flp_mem hq) fun e => hne ?_
    rw [← flp_flp hp, e, flp_flp hq]
  · intro h p hp q hq hne
    rw [revL_dsf hp, revL_dsf hq]
    refine h _ (flp_mem hp) _ (flp_mem hq) fun e => hne ?_
    rw [← flp_flp hp, e, flp_flp hq]
theorem movL_clr (l : List Int) (s : Int) : clrB (movL l s) = clrB l := by
  rw [Bool.eq_iff_iff, clr_iff, clr_iff, movL_len]
  constructor
  · intro h p hp q hq hne
    rw [← movL_dsf (s := s) hp, ← movL_dsf (s := s) hq]
    exact h p hp q hq hne
  · intro h p hp q hq hne
    rw [movL_dsf hp, movL_dsf hq]
    exact h p hp q hq hne
theorem revL_lenN {l : List Int} (h : 0 < l.length) : lenN (revL l) = lenN l := by
  unfold lenN
  rw [revL_len, revL_get (by omega), revL_get h]
  have : l.length - 1 - (l.length - 1) = 0 := by omega
  rw [this, Nat.sub_zero]
  omega
theorem movL_lenN {l : List Int} {s : Int} (h : 0 < l.length) : lenN (movL l s) = lenN l := by
  unfold lenN
  rw [movL_len, movL_get (by omega), movL_get h]
  omega
theorem revL_wi {l : List Int} (h : 0 < l.length) (is : Bool) : wiL (revL l) is = wiL l is := by
  unfold wiL
  simp only [revL_lenN h, revL_meas]
theorem movL_wi {l : List Int} {s : Int} (h : 0 < l.length) (is : Bool) : wiL (movL l s) is = wiL l is := by
  unfold wiL
  simp only [movL_lenN h, movL_meas]
theorem revL_be {l : List Int} (h : OkL l) : beE (revL l) = beE l := by
  have h2 := h.two
  unfold beE
  rw [if_pos (chkE_zero.2 (revL_ok h)), if_pos (chkE_zero.2 h), revL_len, revL_clr, revL_lenN (by omega)]
theorem diR_ok {l : List Int} (h : OkL l) (is : Bool) : diR l is = .tup [outV 1 (ints (wiL l is)), .int .i64 0] := by
  rw [diR, if_pos (chkE_zero.2 h)]
theorem twiR_ok {l : List Int} (h : OkL l) : twiR l = twR (if clrB l = true then 5 else 0) (tw (dsN l) (resF l.length 0)) := by
  rw [twiR, if_pos (chkE_zero.2 h), twE_clr]
theorem take_c {l : List Int} {i : Nat} (h : i < l.length) : l.take (i + 1) = l.take i ++ [l.getD i 0] := by
  rw [List.take_succ_eq_append_getElem h, getD_of h]
theorem p14 {x : AV} {es : List Int} (hx : IsU8 x es) {b : Int} (hb0 : 0 ≤ b) (hb1 : b ≤ 255) : PCall Try.prog 14 [x, .int .u8 b] (.bool true) := by
  obtain ⟨hok, hlen6, h00, h45⟩ := madL_ok (es := es) (m := 9) (by omega) (by omega)
  have h40 := p40 hx (m := 9) (by omega) (by omega)
  generalize madL es 9 = l at *
  have h2 := hok.two
  have hXa : asI (outV 1 (ints l)) = some l := asI_outV (by omega)
  generalize hX : outV 1 (ints l) = X at *
  obtain ⟨C1, c1, k17, n1⟩ := ctx_li (D2ok.pt p16) (f := 17) (r := twiR) p17
  obtain ⟨C2, c2, k19, n2⟩ := ctx_li c1 (f := 19) (r := fun l => diR l true) p19
  obtain ⟨C3, c3, k36, n3⟩ := ctx_li c2 (f := 36) (r := fun l => .int .i64 (beE l)) p36
  obtain ⟨C, hC, k40, k16, q17, q19, q36, k23⟩ : ∃ C, CtxOk Try.prog C ∧ C 40 [x, .int .i64 9] = some X ∧ C 16 [] = some (.bool true) ∧ (∀ x l, asI x = some l → C 17 [x] = some (twiR l)) ∧ (∀ x l, asI x = some l → C 19 [x] = some (diR l true)) ∧ (∀ x l, asI x = some l → C 36 [x] = some (.int .i64 (beE l))) ∧ C 23 = SNum :=
    ⟨_, c3.pt h40, by simp, by simp [n3, n2, n1], fun x l h => by simp [n3, n2, k17 x l h], fun x l h => by simp [n3, k19 x l h], fun x l h => by simp [k36 x l h], by rw [← D2_23]; funext a; simp [n3, n2, n1]⟩
  have hlast : l.length - 1 < l.length := by omega
  have hwl : IntKind.i64.wrap ((l.length : Int) - 1) = ((l.length - 1 : Nat) : Int) := by rw [wrap64 (by omega) (by omega)]; omega
  have hix := aidx_nat hXa hlast (k := .i64)
  rw [lastN_get (by omega)] at hix
  have hla : lastN l ∈ l := by rw [← lastN_get (l := l) (by omega)]; exact List.getElem_mem _
  have hlb := hok.bd _ hla
  have hlb2 := h45 _ hla
  have wb : IntKind.i64.wrap b = b := wrap64 (by omega) (by omega)
  have w61 : IntKind.i64.wrap (61 - lastN l) = 61 - lastN l := wrap64 (by omega) (by omega)
  have hmod : b.tmod (61 - lastN l) = b % (61 - lastN l) := Int.tmod_eq_emod_of_nonneg hb0
  have hs0 := Int.emod_nonneg b (show 61 - lastN l ≠ 0 by omega)
  have hs1 := Int.emod_lt_of_pos b (show 0 < 61 - lastN l by omega)
  have hnz : ¬ (61 - lastN l = 0) := by omega
  generalize b % (61 - lastN l) = s at *
  have okr := revL_ok hok
  have okm := movL_ok (s := s) hok hs0 (fun n hn => by have := (h45 n hn).2; omega)
  refine PCall.of hC ok14 (by simp) rfl fun hs' hb => ?_
  simp [A14, R14, k40, wb, alen_of hXa, hwl, hix, w61, hmod, hnz]
  refine At.loop (fun (i : Nat) t => i ≤ l.length ∧ t.env 5 = X ∧ t.env 6 = .int .i64 s ∧ t.env 38 = .int .i64 (l.length : Int) ∧ t.env 39 = .int .i64 (i : Int) ∧ Outs 1 t.hs (t.env 7) (ints ((revL l).take i)) ∧ Outs 1 t.hs (t.env 8) (ints ((movL l s).take i)) ∧ Apart (t.env 7) (t.env 8)) (fun i => l.length - i) 0 ?_ ?_
  · exact ⟨by omega, by simp, by simp, by simp, by simp, by simp; exact .nil, by simp; exact .nil, by simp⟩
  rintro N i t hN ⟨hi, e5, e6, e38, e39, o7, o8, ap⟩
  simp [e5, e6, e38, e39]
  refine At.dec (fun hlt => ?_) (fun hlt => ?_)
  · have hi' : l.length - 1 - i < l.length := by omega
    have wi : IntKind.i64.wrap (((l.length - 1 : Nat) : Int) - (i : Int)) = ((l.length - 1 - i : Nat) : Int) := by rw [wrap64 (by omega) (by omega)]; omega
    have i1 := aidx_nat hXa hi' (k := .i64)
    have i2 := aidx_nat hXa hlt (k := .i64)
    have b1 := hok.bd _ (List.getElem_mem hi')
    have b2 := hok.bd _ (List.getElem_mem hlt)
    have w1 : IntKind.i64.wrap (60 - l[l.length - 1 - i]) = (revL l).getD i 0 := by rw [wrap64 (by omega) (by omega), revL_get hlt, getD_of hi']
    have w2 : IntKind.i64.wrap (l[i] + s) = (movL l s).getD i 0 := by rw [wrap64 (by omega) (by omega), movL_get hlt, getD_of hlt]
    simp [e5, e6, e39, alen_of hXa, hwl, wi, i1, i2, w1, w2, astoAll, si]
    refine At.app1 o7 (by simp; omega) fun y7 hs1 a1 m1 kp1 => ?_
    obtain ⟨o8', ap'⟩ := kp1 o8 ap
    simp [e5, e6, e39, i2, w2, astoAll, si]
    refine At.app1 o8' (by simp; omega) fun y8 hs2 a2 m2 kp2 => ?_
    obtain ⟨o7', ap2⟩ := kp2 a1 ap'.symm
    simp [e39]
    refine hN (i + 1) _ (by omega) ⟨by omega, by simp [e5], by simp [e6], by simp [e38], by simp [wrap_nat1 (show i < _ by omega)], ?_, ?_, ?_⟩
    · rw [take_c (by rw [revL_len]; exact hlt)]; simpa using o7'
    · rw [take_c (by rw [movL_len]; exact hlt)]; simpa using a2
    · simpa using ap2.symm
  · rw [List.take_of_length_le (by rw [revL_len]; omega)] at o7
    rw [List.take_of_length_le (by rw [movL_len]; omega)] at o8
    have s7 := o7.asI (by rw [revL_len]; omega)
    have s8 := o8.asI (by rw [movL_len]; omega)
    have g1 := q19 _ _ hXa
    have g2 := q19 _ _ s7
    have g3 := q19 _ _ s8
    rw [diR_ok hok] at g1
    rw [diR_ok okr, revL_wi (by omega)] at g2
    rw [diR_ok okm, movL_wi (by omega)] at g3
    have f1 := q17 _ _ hXa
    have f2 := q17 _ _ s7
    have f3 := q17 _ _ s8
    rw [twiR_ok hok] at f1
    rw [twiR_ok okr, revL_clr] at f2
    rw [twiR_ok okm, movL_clr] at f3
    generalize tw (dsN l) (resF l.length 0) = V1 at *
    generalize tw (dsN (revL l)) (resF (revL l).length 0) = V2 at *
    generalize tw (dsN (movL l s)) (resF (movL l s).length 0) = V3 at *
    generalize (if clrB l = true then (5 : Int) else 0) = E at *
    have z1 := q36 _ _ hXa
    have z2 := q36 _ _ s7
    rw [revL_be hok] at z2
    have aw : asI (outV 1 (ints (wiL l true))) = some (wiL l true) := by
      have h1 := wiL_len l true
      have h2 := hok.len60
      exact asI_outV (by omega)
    have sn := SNum_i aw aw
    generalize hr : t.hs.nh = r
    have hne : ¬ r = r + 1 := by omega
    simp [e5, g1, g2, g3, f1, f2, f3, twR, hr]
    refine At.one none (by simp [one', zz, hne]) ?_
    simp
    refine At.tw2 none (by simp [two', zz, hne]) ?_
    simp [e5, g1, g2, g3, f1, f2, f3, twR, hr]
    refine At.one none (by simp [one', zz, hne]) ?_
    simp
    refine At.tw2 none (by simp [two', zz, hne]) ?_
    simp [e5, g1, g2, g3, f1, f2, f3, twR, hr]
    refine At.one none (by simp [one', zz, hne]) ?_
    simp
    refine At.tw2 none (by simp [two', zz, hne]) ?_
    simp [e5, g1, g2, g3, k23, sn, z1, z2, k16]
theorem mirrored_typed (xs : List AV) (h : Typed [.sl (.int .u8), .int .u8] xs) : PCall Try.prog 14 xs (.bool true) := by
  obtain ⟨x, y, rfl, h1, h2⟩ := h.two
  obtain ⟨l, hl⟩ := IsU8.of h1
  obtain ⟨b, rfl, hb⟩ := shv_int h2
  obtain ⟨b0, b1⟩ := u8_bd hb
  exact p14 hl b0 b1
end Go.Proofs.Ytokfmcjepkepjaa
set_option linter.unusedVariables false
set_option linter.unusedSimpArgs false
namespace Go.Proofs.Ytokfmcjepkepjaa
open Go Fw

/-- a block of numbers -/
def inF (n : Nat) (f : Nat → Int) : List AV := (List.range n).map fun i => .int .i64 (f i)
theorem inF_len (n : Nat) (f : Nat → Int) : (inF n f).length = n := by simp [inF]
theorem inF_get {n : Nat} {f : Nat → Int} {i : Nat} (h : i < n) : (inF n f)[i]'(by rw [inF_len]; exact h) = .int .i64 (f i) := by simp [inF]
theorem inF_set {n : Nat} {f : Nat → Int} {i : Nat} {b : Int} : (inF n f).set i (.int .i64 b) = inF n (fun j => if j = i then b else f j) := by
  refine List.ext_getElem (by simp [inF]) fun j h1 h2 => ?_
  have hj : j < n := by simpa [inF] using h2
  rw [List.getElem_set]
  split
  · rename_i h; subst h; rw [inF_get hj, if_pos rfl]
  · rename_i h
    rw [inF_get hj, inF_get hj, if_neg (fun e => h e.symm)]
theorem inF_ap {n : Nat} {f : Nat → Int} : apart true n 0 (inF n f) = some (.agg (inF n f)) := by
  unfold apart
  simp only [if_true]
  rw [if_pos (by rw [inF_len]; omega), List.drop_zero, List.take_of_length_le (by rw [inF_len]; omega)]
theorem inF_plain {n : Nat} {f : Nat → Int} : plainL (inF n f) = true := by
  unfold inF
  induction List.range n with
  | nil => rfl
  | cons a l ih => simpa [plainL, AV.plain] using ih
theorem inF_share {n : Nat} {f : Nat → Int} : (inF n f).map AV.share = inF n f := by
  unfold inF; rw [List.map_map]; rfl
theorem in_st {hp : Nat → Option (List AV)} {i n : Nat} {f g : Nat → Int} (h : hp i = some (inF n f)) : astore hp n (.ref i 0) (.agg (inF n g)) = some (fun k => if k = i then some (inF n g) else hp k) := by
  simp only [astore, h, Option.bind_some, AV.sto, ca, inF_len, true_and, Nat.zero_add, Nat.le_refl, if_true]
  congr 1
  funext k
  split
  · congr 1
    have key : ∀ (xs ys zs : List AV), ys.length = xs.length → setL (zs ++ ys) zs.length xs = zs ++ xs := by
      intro xs
      induction xs with
      | nil => intro ys zs h; simp only [setL]; rw [List.length_eq_zero_iff.1 h]
      | cons x xs ih =>
        intro ys zs h
        match ys, h with
        | y :: ys, h =>
          simp only [setL]
          have := ih ys (zs ++ [x]) (by simpa using h)
          simp only [List.length_append, List.length_cons, List.length_nil, Nat.zero_add, List.append_assoc, List.cons_append, List.nil_append] at this
          rw [List.set_append_right _ _ (Nat.le_refl _), Nat.sub_self, List.set_cons_zero]
          exact this
    have := key (inF n g) (inF n f) [] (by simp [inF_len])
    simpa using this
  · rfl
theorem in_ix {q n : Nat} {i : Nat} (h : i < n) : aidxA n false 1 (.ref q 0) (.int .i64 (i : Int)) = some (.ref q i) := by
  simp only [aidxA]
  rw [if_pos ⟨by omega, by omega⟩]
  simp [afaddr]
theorem in_ld {hp : Nat → Option (List AV)} {q n : Nat} {f : Nat → Int} {i : Nat} (hq : hp q = some (inF n f)) (h : i < n) : aload hp false 1 (.ref q i) = some (.int .i64 (f i)) := by
  rw [load_cell hq (by rw [inF_len]; exact h), inF_get h]
theorem in_sc {hp : Nat → Option (List AV)} {q n : Nat} {f : Nat → Int} {i : Nat} {b : Int} (hq : hp q = some (inF n f)) (h : i < n) : astore hp 1 (.ref q i) (.int .i64 b) = some (fun k => if k = q then some (inF n (fun j => if j = i then b else f j)) else hp k) := by
  rw [store_cell hq (by rw [inF_len]; exact h) rfl, inF_set]

/-- how many pairs have a distance -/
def cnP (l : List Int) (ps : List Pr) (j : Nat) : Nat := ps.countP fun p => decide (dsN l p = (j : Int))
def cnN (l : List Int) (j : Nat) : Nat := cnP l (resF l.length 0) j
theorem cnP_cons {l : List Int} {p : Pr} {ps : List Pr} {j : Nat} : cnP l (p :: ps) j = (if dsN l p = (j : Int) then 1 else 0) + cnP l ps j := by
  unfold cnP
  rw [List.countP_cons]
  by_cases h : dsN l p = (j : Int)
  · simp [h]; omega
  · simp [h]
theorem cnP_le (l : List Int) (ps : List Pr) (j : Nat) : cnP l ps j ≤ ps.length := List.countP_le_length
theorem p42 {x : AV} {l : List Int} (hx : asI x = some l) (h : Rl l) : PCall Try.prog 42 [x] (.agg (inF 61 fun j => (cnN l j : Int))) := by
  have hl64 := h.len
  have h4096 := resF_len h.len
  refine PCall.of D2ok ok42 (by simp) (by simp [AV.plain, inF_plain]) fun hs' hb => ?_
  generalize hr : hs'.nh = r
  have hne : ¬ r = r + 1 := by omega
  have b0 : inF 61 (fun _ => 0) = [AV.int .i64 0, AV.int .i64 0, AV.int .i64 0, AV.int .i64 0, AV.int .i64 0, AV.int .i64 0, AV.int .i64 0, AV.int .i64 0, AV.int .i64 0, AV.int .i64 0, AV.int .i64 0, AV.int .i64 0, AV.int .i64 0, AV.int .i64 0, AV.int .i64 0, AV.int .i64 0, AV.int .i64 0, AV.int .i64 0, AV.int .i64 0, AV.int .i64 0, AV.int .i64 0, AV.int .i64 0, AV.int .i64 0, AV.int .i64 0, AV.int .i64 0, AV.int .i64 0, AV.int .i64 0, AV.int .i64 0, AV.int .i64 0, AV.int .i64 0, AV.int .i64 0, AV.int .i64 0, AV.int .i64 0, AV.int .i64 0, AV.int .i64 0, AV.int .i64 0, AV.int .i64 0, AV.int .i64 0, AV.int .i64 0, AV.int .i64 0, AV.int .i64 0, AV.int .i64 0, AV.int .i64 0, AV.int .i64 0, AV.int .i64 0, AV.int .i64 0, AV.int .i64 0, AV.int .i64 0, AV.int .i64 0, AV.int .i64 0, AV.int .i64 0, AV.int .i64 0, AV.int .i64 0, AV.int .i64 0, AV.int .i64 0, AV.int .i64 0, AV.int .i64 0, AV.int .i64 0, AV.int .i64 0, AV.int .i64 0, AV.int .i64 0] := rfl
  simp only [A42, R42, ← b0]
  simp [alen_of hx, hr]
  refine At.loop (fun (i : Nat) s => i ≤ l.length ∧ s.env 0 = x ∧ s.env 2 = .ref r 0 ∧ s.env 3 = .ref (r + 1) 0 ∧ s.env 7 = .int .i64 (l.length : Int) ∧ s.env 8 = .int .i64 (i : Int) ∧ s.hs.heap r = some (inF 61 fun _ => 0) ∧ ∃ f : Nat → Int, s.hs.heap (r + 1) = some (inF 61 f) ∧ ∀ j, 0 ≤ f j ∧ f j + (cnP l (resF l.length i) j : Int) = (cnN l j : Int)) (fun i => l.length - i) 0 ?_ ?_
  · exact ⟨by omega, by simp, by simp, by simp, by simp, by simp, by simp [hne], fun _ => 0, by simp, fun j => ⟨by simp, by simp [cnN]⟩⟩
  rintro N i s hN ⟨hi, e0, e2, e3, e7, e8, w0, f, w1, hf⟩
  simp [e0, e7, e8]
  refine At.dec (fun hlt => ?_) (fun hlt => ?_)
  · have hw : IntKind.i64.wrap ((i : Int) + 1) = ((i + 1 : Nat) : Int) := wrap_nat1 (show i < _ by omega)
    simp [e8, hw]
    rw [resF_c hlt] at hf
    refine At.loop (fun (k : Nat) s => i < k ∧ k ≤ l.length ∧ s.env 0 = x ∧ s.env 2 = .ref r 0 ∧ s.env 3 = .ref (r + 1) 0 ∧ s.env 4 = .int .i64 (i : Int) ∧ s.env 5 = .int .i64 (k : Int) ∧ s.env 7 = .int .i64 (l.length : Int) ∧ s.env 8 = .int .i64 (i : Int) ∧ s.hs.heap r = some (inF 61 fun _ => 0) ∧ ∃ f : Nat → Int, s.hs.heap (r + 1) = some (inF 61 f) ∧ ∀ j, 0 ≤ f j ∧ f j + (cnP l (rowF l.length i k ++ resF l.length (i + 1)) j : Int) = (cnN l j : Int)) (fun k => l.length - k) (i + 1) ?_ ?_
    · exact ⟨by omega, by omega, by simp [e0], by simp [e2], by simp [e3], by simp, by simp, by simp [e7], by simp [e8], by simpa using w0, f, by simpa using w1, hf⟩
    rintro N2 k s2 hN2 ⟨hik, hk, e0, e2, e3, e4, e5, e7, e8, w0, f, w1, hf⟩
    simp [e0, e5, alen_of hx]
    refine At.dec (fun hlt2 => ?_) (fun hlt2 => ?_)
    · rw [rowF_c hlt2, List.cons_append] at hf
      have hd := h.ds (p := (i, k)) hik hlt2
      obtain ⟨d, hdd⟩ : ∃ d : Nat, dsN l (i, k) = (d : Int) := ⟨(dsN l (i, k)).toNat, by omega⟩
      have b1 := h.bd _ (List.getElem_mem hlt)
      have b2 := h.bd _ (List.getElem_mem hlt2)
      have hw2 : IntKind.i64.wrap (l[k] - l[i]) = (d : Int) := by rw [wrap64 (by omega) (by omega), ← hdd, dsN, getD_of hlt, getD_of hlt2]
      have hd61 : d < 61 := by omega
      have hfd := hf d
      have hle := cnP_le l (resF l.length 0) d
      have hcn : cnN l d = cnP l (resF l.length 0) d := rfl
      have hf0 : 0 ≤ f d ∧ f d ≤ 4096 := by omega
      have hw3 : IntKind.i64.wrap (f d + 1) = f d + 1 := wrap64 (by omega) (by omega)
      simp [e0, e3, e4, e5, aidx_nat hx hlt, aidx_nat hx hlt2, hw2, in_ix hd61, in_ld w1 hd61, hw3, in_sc w1 hd61]
      refine hN2 (k + 1) _ (by omega) ⟨by omega, by omega, by simp [e0], by simp [e2], by simp [e3], by simp [e4], by simp [wrap_nat1 (show k < _ by omega)], by simp [e7], by simp [e8], by simp [w0, hne], fun j => if j = d then f d + 1 else f j, by simp, fun j => ?_⟩
      have hf0j := (hf j).1
      have := (hf j).2
      rw [cnP_cons, hdd] at this
      by_cases hj : j = d
      · subst hj
        rw [if_pos rfl] at this
        simp only [if_true]
        omega
      · have hj2 : ¬ ((d : Int) = (j : Int)) := by omega
        rw [if_neg hj2] at this
        simp only [if_neg hj]
        omega
    · have : k = l.length := by omega
      subst this
      rw [rowF_n (Nat.le_refl _), List.nil_append] at hf
      simp [e8, hw]
      refine hN (i + 1) _ (by omega) ⟨by omega, by simp [e0], by simp [e2], by simp [e3], by simp [e7], by simp, by simpa using w0, f, by simpa using w1, hf⟩
  · have : i = l.length := by omega
    subst this
    have hff : inF 61 f = inF 61 fun j => (cnN l j : Int) := by
      congr 1
      funext j
      have := (hf j).2
      rw [resF_n (Nat.le_refl _)] at this
      simpa [cnP] using this
    rw [hff] at w1
    simp [e2, e3, la, w1, inF_ap, in_st w0, aResult_cs]
    simp [inF_share]
theorem in_ag {n : Nat} {f : Nat → Int} {j : Nat} (h : j < n) : aindex n false 1 (.agg (inF n f)) (.int .i64 (j : Int)) = some (.int .i64 (f j)) := by
  have e : (inF n f)[j]? = some (.int .i64 (f j)) := by rw [List.getElem?_eq_getElem (by rw [inF_len]; exact h), inF_get h]
  simp only [aindex]
  rw [if_pos ⟨by omega, by omega⟩]
  simp [apart, e]
theorem cnN_zero {l : List Int} {j : Nat} : cnN l j = 0 ↔ measB l (j : Int) = false := by
  unfold cnN cnP measB
  rw [List.countP_eq_zero]
  rw [List.any_eq_false]
theorem mem_nodup {ps : List Pr} (hn : ps.Nodup) {f : Pr → Int} : (ps.map f).Nodup ↔ ∀ p ∈ ps, ∀ q ∈ ps, p ≠ q → f p ≠ f q := by
  constructor
  · intro h p hp q hq hne e
    obtain ⟨i, hi, rfl⟩ := List.mem_iff_getElem.1 hp
    obtain ⟨j, hj, rfl⟩ := List.mem_iff_getElem.1 hq
    have : i = j := by
      have h1 : (ps.map f)[i]'(by simpa using hi) = (ps.map f)[j]'(by simpa using hj) := by simpa using e
      exact nodup_inj h (by simpa using hi) (by simpa using hj) h1
    subst this
    exact hne rfl
  · intro h
    unfold List.Nodup
    rw [List.pairwise_map]
    exact List.Pairwise.imp_of_mem (fun ha hb hab => h _ ha _ hb hab) hn
theorem clr_cnt {l : List Int} (h : Rl l) : clrB l = true ↔ ∀ j, j < 61 → cnN l j ≤ 1 := by
  rw [clr_iff, ← mem_nodup (resF_nodup _ _), List.nodup_iff_count]
  have key : ∀ j : Nat, cnN l j = ((resF l.length 0).map (dsN l)).count (j : Int) := by
    intro j
    unfold cnN cnP List.count
    rw [List.countP_map]
    congr 1
  constructor
  · intro hc j _
    rw [key]; exact hc _
  · intro hc a
    rcases Nat.eq_zero_or_pos (((resF l.length 0).map (dsN l)).count a) with h0 | h0
    · omega
    · obtain ⟨p, hp, rfl⟩ := List.mem_map.1 (List.count_pos_iff.1 h0)
      obtain ⟨h1, h2⟩ := mem_resF.1 hp
      have hd := h.ds h1 h2
      obtain ⟨d, hdd⟩ : ∃ d : Nat, dsN l p = (d : Int) := ⟨(dsN l p).toNat, by omega⟩
      rw [hdd, ← key]
      exact hc d (by omega)
theorem p41 {x : AV} {l : List Int} (hx : asI x = some l) (h : Rl l) : PCall Try.prog 41 [x] (.bool (clrB l)) := by
  obtain ⟨C, hC, k42⟩ : ∃ C, CtxOk Try.prog C ∧ C 42 [x] = some (.agg (inF 61 fun j => (cnN l j : Int))) := ⟨_, CtxOk.nil.pt (p42 hx h), by simp⟩
  refine PCall.of hC ok41 (by simp) rfl fun hs' hb => ?_
  simp [A41, R41, k42]
  refine At.loop (fun (j : Nat) s => j ≤ 61 ∧ s.env 6 = .agg (inF 61 fun j => (cnN l j : Int)) ∧ s.env 7 = .int .i64 (j : Int) ∧ ∀ i, i < j → cnN l i ≤ 1) (fun j => 61 - j) 0 ?_ ?_
  · exact ⟨by omega, by simp, by simp, fun i hi => by omega⟩
  rintro N j s hN ⟨hj, e6, e7, hb⟩
  simp [e6, e7]
  refine At.dec (fun hlt => ?_) (fun hlt => ?_)
  · have hj' : j < 61 := by omega
    have hix : aindex 61 false 1 (.agg (inF 61 fun j => (cnN l j : Int))) (.int .i64 (j : Int)) = some (.int .i64 (cnN l j : Int)) := in_ag hj'
    simp [e6, e7, hix]
    refine At.dec (fun hq => ?_) (fun hq => ?_)
    · have : clrB l = false := by
        rw [← Bool.not_eq_true, clr_cnt h]
        intro hc
        have := hc j hj'
        omega
      simp [this]
    · simp [e7]
      refine hN (j + 1) _ (by omega) ⟨by omega, by simp [e6], by simp [wrap_nat1 (show j < _ by omega)], fun i hi => ?_⟩
      by_cases hij : i = j
      · subst hij; omega
      · exact hb i (by omega)
  · have : clrB l = true := by
      rw [clr_cnt h]
      intro i hi
      exact hb i (by omega)
    simp [this]
end Go.Proofs.Ytokfmcjepkepjaa
set_option linter.unusedVariables false
set_option linter.unusedSimpArgs false
namespace Go.Proofs.Ytokfmcjepkepjaa
open Go Fw

theorem drop_cons {α : Type} {W : List α} {k : Nat} {a : α} {t : List α} (h : W.drop k = a :: t) : ∃ hk : k < W.length, W[k] = a ∧ W.drop (k + 1) = t := by
  by_cases hk : k < W.length
  · rw [List.drop_eq_getElem_cons hk] at h
    injection h with h1 h2
    exact ⟨hk, h1, h2⟩
  · rw [List.drop_eq_nil_of_le (by omega)] at h
    cases h
theorem loL_mem {l : List Int} {w : Int} {m : List Int} {n : Int} : n ∈ loL l w m ↔ (-60 ≤ n ∧ n ≤ 60) ∧ locP l n w m = true := by
  unfold loL loF
  simp only [List.mem_map, List.mem_filter, List.mem_range'_1]
  constructor
  · rintro ⟨k, ⟨⟨h1, h2⟩, h3⟩, rfl⟩
    exact ⟨by omega, h3⟩
  · rintro ⟨h1, h2⟩
    refine ⟨(n + 60).toNat, ⟨⟨by omega, by omega⟩, ?_⟩, by omega⟩
    have : (((n + 60).toNat : Nat) : Int) - 60 = n := by omega
    rw [this]; exact h2
theorem loL_asc (l : List Int) (w : Int) (m : List Int) : (loL l w m).Pairwise (· < ·) := by
  unfold loL loF
  rw [List.pairwise_map]
  refine ((List.pairwise_lt_range' (s := 0) (n := 121 - 0)).filter _).imp fun hab => by omega
theorem clr_val {l : List Int} (h : l.Pairwise (· < ·)) (hc : clrB l = true) {a b c d : Int} (ha : a ∈ l) (hb : b ∈ l) (hc' : c ∈ l) (hd : d ∈ l) (hab : a < b) (hcd : c < d) (e : b - a = d - c) : a = c := by
  have hix : ∀ {u v : Nat} (hu : u < l.length) (hv : v < l.length), l[u] < l[v] → u < v := by
    intro u v hu hv huv
    rcases Nat.lt_trichotomy u v with h1 | h1 | h1
    · exact h1
    · subst h1; omega
    · have := List.pairwise_iff_getElem.1 h v u hv hu h1
      omega
  obtain ⟨i, hi, rfl⟩ := List.mem_iff_getElem.1 ha
  obtain ⟨j, hj, rfl⟩ := List.mem_iff_getElem.1 hb
  obtain ⟨u, hu, rfl⟩ := List.mem_iff_getElem.1 hc'
  obtain ⟨v, hv, rfl⟩ := List.mem_iff_getElem.1 hd
  have h1 := hix hi hj hab
  have h2 := hix hu hv hcd
  by_cases hne : ((i, j) : Pr) = (u, v)
  · have : i = u := congrArg Prod.fst hne
    subst this; rfl
  · exfalso
    refine clr_iff.1 hc (i, j) (mem_resF.2 ⟨h1, hj⟩) (u, v) (mem_resF.2 ⟨h2, hv⟩) hne ?_
    rw [dsN, dsN, getD_of hi, getD_of hj, getD_of hu, getD_of hv]
    exact e
/-- what is seen of the crosses from one on -/
def seF (l : List Int) (sh w : Int) (i : Nat) : List Int := ((l.drop i).filter fun p => btw sh p (sh + w)).map fun p => p - sh
theorem seF_c {l : List Int} {sh w : Int} {i : Nat} (h : i < l.length) : seF l sh w i = if btw sh l[i] (sh + w) = true then (l[i] - sh) :: seF l sh w (i + 1) else seF l sh w (i + 1) := by
  unfold seF
  rw [List.drop_eq_getElem_cons h, List.filter_cons]
  split
  · rfl
  · rfl
theorem seF_n {l : List Int} {sh w : Int} {i : Nat} (h : l.length ≤ i) : seF l sh w i = [] := by
  unfold seF
  rw [List.drop_eq_nil_of_le h]; rfl
/-- what is seen from one shift, from a cross on -/
def wiD (l : List Int) (s w : Int) (j : Nat) : List Int := (l.drop j).filter fun p => btw s p (s + w)
theorem wiD_c {l : List Int} {s w : Int} {j : Nat} (h : j < l.length) : wiD l s w j = if btw s l[j] (s + w) = true then l[j] :: wiD l s w (j + 1) else wiD l s w (j + 1) := by
  unfold wiD
  rw [List.drop_eq_getElem_cons h, List.filter_cons]
theorem wiD_n {l : List Int} {s w : Int} {j : Nat} (h : l.length ≤ j) : wiD l s w j = [] := by
  unfold wiD
  rw [List.drop_eq_nil_of_le h]; rfl
theorem tmod_bd (a : Int) : -60 ≤ a.tmod 61 ∧ a.tmod 61 ≤ 60 := by
  have h1 := Int.tmod_lt_of_pos a (show (0 : Int) < 61 by omega)
  have h2 := Int.lt_tmod_of_pos a (show (0 : Int) < 61 by omega)
  omega
set_option maxHeartbeats 4000000 in
set_option maxRecDepth 100000 in
theorem p9 {x : AV} {es : List Int} (hx : IsU8 x es) {a : Int} (ha : -128 ≤ a ∧ a ≤ 127) {b : Int} (hb0 : 0 ≤ b) (hb1 : b ≤ 255) : PCall Try.prog 9 [x, .int .i8 a, .int .u8 b] (.bool true) := by
  obtain ⟨hok, hlen6, h00, h45⟩ := madL_ok (es := es) (m := 9) (by omega) (by omega)
  have h40 := p40 hx (m := 9) (by omega) (by omega)
  generalize madL es 9 = l at *
  have h2 := hok.two
  have hXa : asI (outV 1 (ints l)) = some l := asI_outV (by omega)
  generalize hX : outV 1 (ints l) = X at *
  have wa : IntKind.i64.wrap a = a := wrap64 (by omega) (by omega)
  have wb : IntKind.i64.wrap b = b := wrap64 (by omega) (by omega)
  have hmod : b.tmod 30 = b % 30 := Int.tmod_eq_emod_of_nonneg hb0
  have hsb := tmod_bd a
  generalize hsh : a.tmod 61 = sh at *
  have hw0 := Int.emod_nonneg b (show (30 : Int) ≠ 0 by omega)
  have hw1 := Int.emod_lt_of_pos b (show (0 : Int) < 30 by omega)
  generalize b % 30 = w at *
  obtain ⟨seen, hseen⟩ : ∃ seen, seen = seF l sh w 0 := ⟨_, rfl⟩
  have hseen2 : seen = (winL l sh w).map fun p => p - sh := by rw [hseen]; rfl
  have hsl : seen.length ≤ 6 := by
    rw [hseen2, List.length_map]
    exact Nat.le_trans (List.length_filter_le _ _) hlen6
  have hmem : ∀ n ∈ seen, 0 ≤ n ∧ n ≤ w := by
    intro n hn
    rw [hseen2] at hn
    obtain ⟨p, hp, rfl⟩ := List.mem_map.1 hn
    have := (List.mem_filter.1 hp).2
    simp [btw] at this
    omega
  have hsasc : seen.Pairwise (· < ·) := by
    rw [hseen2, List.pairwise_map]
    exact (hok.asc.filter _).imp fun hab => by omega
  have hloE : loE l w seen = 0 := by
    rw [loE, if_pos (chkE_zero.2 hok), if_pos (by simp [btw]; omega)]
    exact ascE_zero.2 ⟨fun n hn => by have := hmem n hn; omega, hsasc⟩
  have hloR : loR l w seen = .tup [outV 1 (ints (loL l w seen)), .int .i64 0] := by rw [loR, if_pos hloE]
  have hF121 := loL_len l w seen
  have hFm : ∀ s ∈ loL l w seen, (-60 ≤ s ∧ s ≤ 60) ∧ winL l s w = seen.map fun n => n + s := fun s hs => by
    have := loL_mem.1 hs
    exact ⟨this.1, by simpa [locP] using this.2⟩
  have hFsh : sh ∈ loL l w seen := by
    refine loL_mem.2 ⟨hsb, ?_⟩
    rw [locP_eq, ← hseen2]
    simp
  have hFasc := loL_asc l w seen
  have hone : clrB l = true → 2 ≤ seen.length → (loL l w seen).length = 1 := by
    intro hc hs2
    have hall : ∀ s ∈ loL l w seen, s = sh := by
      intro s hs
      have m1 := (hFm s hs).2
      have m2 := (hFm sh hFsh).2
      have hin : ∀ {t : Int} (ht : winL l t w = seen.map fun n => n + t) {i : Nat} (hi : i < seen.length), seen[i] + t ∈ l := by
        intro t ht i hi
        have : seen[i] + t ∈ winL l t w := by rw [ht]; exact List.mem_map.2 ⟨_, List.getElem_mem hi, rfl⟩
        exact (List.mem_filter.1 this).1
      have hlt := List.pairwise_iff_getElem.1 hsasc 0 1 (by omega) (by omega) (by omega)
      have := clr_val hok.asc hc (hin m1 (i := 0) (by omega)) (hin m1 (i := 1) (by omega)) (hin m2 (i := 0) (by omega)) (hin m2 (i := 1) (by omega)) (by omega) (by omega) (by omega)
      omega
    have hp : 0 < (loL l w seen).length := List.length_pos_of_mem hFsh
    by_cases h1 : 1 < (loL l w seen).length
    · have := List.pairwise_iff_getElem.1 hFasc 0 1 (by omega) h1 (by omega)
      have e0 := hall _ (List.getElem_mem (show 0 < (loL l w seen).length by omega))
      have e1 := hall _ (List.getElem_mem h1)
      omega
    · omega
  have hFa : asI (outV 1 (ints (loL l w seen))) = some (loL l w seen) := asI_outV (by omega)
  generalize loL l w seen = F at *
  generalize hFV : outV 1 (ints F) = FV at *
  have c28 := (((D2ok.pt p16).pt h40).pt (p41 hXa hok.rl)).fam (ι := {y : AV // asI y = some seen}) (f := 28) (g := fun y => [X, .int .i64 w, y.1]) (r := fun _ => .tup [FV, .int .i64 0]) (fun y => hloR ▸ p28 hXa y.2 w)
  obtain ⟨C, hC, k40, k16, k41, k28⟩ : ∃ C, CtxOk Try.prog C ∧ C 40 [x, .int .i64 9] = some X ∧ C 16 [] = some (.bool true) ∧ C 41 [X] = some (.bool (clrB l)) ∧ ∀ y, asI y = some seen → C 28 [X, .int .i64 w, y] = some (.tup [FV, .int .i64 0]) :=
    ⟨_, c28, by simp, by simp, by simp, fun y hy => fam_eq (ι := {y : AV // asI y = some seen}) (g := fun y => [X, .int .i64 w, y.1]) (r := fun _ => .tup [FV, .int .i64 0]) (fun _ _ _ => rfl) ⟨y, hy⟩⟩
  refine PCall.of hC ok9 (by simp) rfl fun hs' hb => ?_
  simp [A9, R9, k40, wa, wb, hmod, hsh, alen_of hXa]
  have wsw : IntKind.i64.wrap (sh + w) = sh + w := wrap64 (by omega) (by omega)
  refine At.loop (fun (i : Nat) t => i ≤ l.length ∧ t.env 7 = X ∧ t.env 8 = .int .i64 sh ∧ t.env 9 = .int .i64 w ∧ t.env 29 = X ∧ t.env 30 = .int .i64 (l.length : Int) ∧ t.env 31 = .int .i64 (i : Int) ∧ ∃ A, Outs 1 t.hs (t.env 10) (ints A) ∧ A.length ≤ i ∧ A ++ seF l sh w i = seen) (fun i => l.length - i) 0 ?_ ?_
  · exact ⟨by omega, by simp, by simp, by simp, by simp, by simp, by simp, [], by simp; exact .nil, by simp, by rw [hseen]; rfl⟩
  rintro N i t hN ⟨hi, e7, e8, e9, e29, e30, e31, A, hO, hAl, hA⟩
  simp [e30, e31]
  refine At.dec (fun hlt => ?_) (fun hlt => ?_)
  · have i1 := aidx_nat hXa hlt (k := .i64)
    have b1 := hok.bd _ (List.getElem_mem hlt)
    have w1 : IntKind.i64.wrap (l[i] - sh) = l[i] - sh := wrap64 (by omega) (by omega)
    rw [seF_c hlt] at hA
    have hskip : btw sh l[i] (sh + w) = false → A ++ seF l sh w (i + 1) = seen := fun hq => by rw [hq] at hA; simpa using hA
    by_cases ha1 : sh ≤ l[i]
    · by_cases ha2 : l[i] ≤ sh + w
      · rw [if_pos (by simp [btw, ha1, ha2])] at hA
        simp [e7, e8, e9, e29, e31, i1, ha1, ha2, wsw, w1, astoAll, si]
        refine At.app1 hO (by omega) fun y hs2 o1 m1 _ => ?_
        simp [e31]
        refine hN (i + 1) _ (by omega) ⟨by omega, by simp [e7], by simp [e8], by simp [e9], by simp [e29], by simp [e30], by simp [wrap_nat1 (show i < _ by omega)], A ++ [l[i] - sh], by simpa using o1, by simp; omega, by simpa using hA⟩
      · simp [e7, e8, e9, e29, e31, i1, ha1, ha2, wsw]
        refine hN (i + 1) _ (by omega) ⟨by omega, by simp [e7], by simp [e8], by simp [e9], by simp [e29], by simp [e30], by simp [wrap_nat1 (show i < _ by omega)], A, by simpa using hO, by omega, hskip (by simp [btw, ha2])⟩
    · simp [e7, e8, e9, e29, e31, i1, ha1, wsw]
      refine hN (i + 1) _ (by omega) ⟨by omega, by simp [e7], by simp [e8], by simp [e9], by simp [e29], by simp [e30], by simp [wrap_nat1 (show i < _ by omega)], A, by simpa using hO, by omega, hskip (by simp [btw, ha1])⟩
  · rw [seF_n (by omega), List.append_nil] at hA
    subst hA
    have hy := hO.asI (by omega)
    obtain ⟨y, hyy⟩ : ∃ y, t.env 10 = y := ⟨_, rfl⟩
    rw [hyy] at hy
    have g28 := k28 _ hy
    have aly := alen_of hy
    have alF := alen_of hFa
    simp [e7, e9, hyy, g28, alF]
    refine At.loop (fun (i : Nat) t => i ≤ F.length ∧ t.env 7 = X ∧ t.env 8 = .int .i64 sh ∧ t.env 9 = .int .i64 w ∧ t.env 10 = y ∧ t.env 13 = FV ∧ t.env 15 = .bool (decide (sh ∈ F.take i)) ∧ t.env 61 = FV ∧ t.env 62 = .int .i64 (F.length : Int) ∧ t.env 63 = .int .i64 (i : Int)) (fun i => F.length - i) 0 ?_ ?_
    · exact ⟨by omega, by simp [e7], by simp [e8], by simp [e9], by simp [hyy], by simp, by simp, by simp, by simp, by simp⟩
    rintro N2 i t hN2 ⟨hi, e7, e8, e9, e10, e13, e15, e61, e62, e63⟩
    simp [e62, e63]
    refine At.dec (fun hlt => ?_) (fun hlt => ?_)
    · have i1 := aidx_nat hFa hlt (k := .i64)
      obtain ⟨hb60, hWs⟩ := hFm _ (List.getElem_mem hlt)
      have hup : i ≠ 0 → ∃ u, aidxS 1 FV (.int .i64 (IntKind.i64.wrap ((i : Int) - 1))) = some (.ptr (.int .i64 u)) ∧ ¬ F[i] ≤ u := by
        intro h0
        have hw : IntKind.i64.wrap ((i : Int) - 1) = ((i - 1 : Nat) : Int) := by rw [wrap64 (by omega) (by omega)]; omega
        rw [hw]
        refine ⟨F[i - 1]'(by omega), aidx_nat hFa (by omega) (k := .i64), ?_⟩
        have := List.pairwise_iff_getElem.1 hFasc (i - 1) i (by omega) hlt (by omega)
        omega
      have htk : (decide (sh ∈ F.take (i + 1))) = (decide (sh ∈ F.take i) || decide (F[i] = sh)) := by
        rw [List.take_succ_eq_append_getElem hlt, Bool.eq_iff_iff]
        simp only [decide_eq_true_eq, Bool.or_eq_true, List.mem_append, List.mem_singleton]
        exact or_congr Iff.rfl ⟨fun h => h.symm, fun h => h.symm⟩
      generalize hs : F[i] = s at *
      have hb1 : ¬ s < -60 := by omega
      have hb2 : ¬ 60 < s := by omega
      have wsw2 : IntKind.i64.wrap (s + w) = s + w := wrap64 (by omega) (by omega)
      have hWl : (winL l s w).length = A.length := by rw [hWs, List.length_map]
      by_cases h0 : i = 0
      · have z1 : ¬ 0 < i := by omega
        have z2 : ¬ (0 : Int) < (i : Int) := by omega
        by_cases hin : sh ∈ F.take i
        · simp [alen_of hXa, e7, e8, e9, e10, e13, e15, e61, e63, i1, hb1, hb2, z1, z2, hin]
          refine At.loop (fun (j : Nat) t => j ≤ l.length ∧ t.env 7 = X ∧ t.env 8 = .int .i64 sh ∧ t.env 9 = .int .i64 w ∧ t.env 10 = y ∧ t.env 13 = FV ∧ t.env 15 = .bool (decide (sh ∈ F.take (i + 1))) ∧ t.env 17 = .int .i64 s ∧ t.env 61 = FV ∧ t.env 62 = .int .i64 (F.length : Int) ∧ t.env 63 = .int .i64 (i : Int) ∧ t.env 93 = X ∧ t.env 94 = .int .i64 (l.length : Int) ∧ t.env 95 = .int .i64 (j : Int) ∧ ∃ k : Nat, t.env 18 = .int .i64 (k : Int) ∧ k ≤ A.length ∧ (winL l s w).drop k = wiD l s w j) (fun j => l.length - j) 0 ?_ ?_
          · exact ⟨by omega, by simp [e7], by simp [e8], by simp [e9], by simp [e10], by simp [e13], by simp [htk, hin, e15], by simp, by simp [e61], by simp [e62], by simp [e63], by simp [e7], by simp [e7, alen_of hXa], by simp, 0, by simp, by omega, rfl⟩
          rintro N3 j t3 hN3 ⟨hj, f7, f8, f9, f10, f13, f15, f17, f61, f62, f63, f93, f94, f95, k, f18, hk, hD⟩
          simp [f94, f95]
          refine At.dec (fun hlt3 => ?_) (fun hlt3 => ?_)
          · have j1 := aidx_nat hXa hlt3 (k := .i64)
            have bj := hok.bd _ (List.getElem_mem hlt3)
            rw [wiD_c hlt3] at hD
            have wj : IntKind.i64.wrap (l[j] - s) = l[j] - s := wrap64 (by omega) (by omega)
            by_cases q1 : l[j] < s
            · rw [if_neg (by simp [btw]; omega)] at hD
              simp [f7, f9, f17, f93, f95, j1, q1, wsw2]
              refine hN3 (j + 1) _ (by omega) ⟨by omega, by simp [f7], by simp [f8], by simp [f9], by simp [f10], by simp [f13], by simp [f15], by simp [f17], by simp [f61], by simp [f62], by simp [f63], by simp [f93], by simp [f94], by simp [wrap_nat1 (show j < _ by omega)], k, by simp [f18], hk, hD⟩
            · by_cases q2 : s + w < l[j]
              · rw [if_neg (by simp [btw]; omega)] at hD
                simp [f7, f9, f17, f93, f95, j1, q1, q2, wsw2]
                refine hN3 (j + 1) _ (by omega) ⟨by omega, by simp [f7], by simp [f8], by simp [f9], by simp [f10], by simp [f13], by simp [f15], by simp [f17], by simp [f61], by simp [f62], by simp [f63], by simp [f93], by simp [f94], by simp [wrap_nat1 (show j < _ by omega)], k, by simp [f18], hk, hD⟩
              · rw [if_pos (by simp [btw]; omega)] at hD
                obtain ⟨k1, k2, k3⟩ := drop_cons hD
                have kA : k < A.length := by omega
                have kA1 : ¬ A.length ≤ k := by omega
                have kA2 : ¬ (A.length : Int) ≤ (k : Int) := by omega
                have ks := aidx_nat hy kA (k := .i64)
                have kv : A[k] = l[j] - s := by
                  have : (winL l s w)[k] = A[k] + s := by simp [hWs]
                  omega
                simp [f7, f9, f10, f17, f18, f93, f95, j1, q1, q2, wsw2, aly, kA1, kA2, ks, kv, wj]
                refine hN3 (j + 1) _ (by omega) ⟨by omega, by simp [f7], by simp [f8], by simp [f9], by simp [f10], by simp [f13], by simp [f15], by simp [f17], by simp [f61], by simp [f62], by simp [f63], by simp [f93], by simp [f94], by simp [wrap_nat1 (show j < _ by omega)], k + 1, by simp [wrap_nat1 (show k < _ by omega)], by omega, k3⟩
          · rw [wiD_n (by omega)] at hD
            have hkA : k = A.length := by
              have := congrArg List.length hD
              simp at this; omega
            subst hkA
            simp [f10, f18, aly, f63]
            refine hN2 (i + 1) _ (by omega) ⟨by omega, by simp [f7], by simp [f8], by simp [f9], by simp [f10], by simp [f13], by simp [f15], by simp [f61], by simp [f62], by simp [wrap_nat1 (show i < _ by omega)]⟩
        · simp [alen_of hXa, e7, e8, e9, e10, e13, e15, e61, e63, i1, hb1, hb2, z1, z2, hin]
          refine At.loop (fun (j : Nat) t => j ≤ l.length ∧ t.env 7 = X ∧ t.env 8 = .int .i64 sh ∧ t.env 9 = .int .i64 w ∧ t.env 10 = y ∧ t.env 13 = FV ∧ t.env 15 = .bool (decide (sh ∈ F.take (i + 1))) ∧ t.env 17 = .int .i64 s ∧ t.env 61 = FV ∧ t.env 62 = .int .i64 (F.length : Int) ∧ t.env 63 = .int .i64 (i : Int) ∧ t.env 93 = X ∧ t.env 94 = .int .i64 (l.length : Int) ∧ t.env 95 = .int .i64 (j : Int) ∧ ∃ k : Nat, t.env 18 = .int .i64 (k : Int) ∧ k ≤ A.length ∧ (winL l s w).drop k = wiD l s w j) (fun j => l.length - j) 0 ?_ ?_
          · exact ⟨by omega, by simp [e7], by simp [e8], by simp [e9], by simp [e10], by simp [e13], by simp [htk, hin, e15], by simp, by simp [e61], by simp [e62], by simp [e63], by simp [e7], by simp [e7, alen_of hXa], by simp, 0, by simp, by omega, rfl⟩
          rintro N3 j t3 hN3 ⟨hj, f7, f8, f9, f10, f13, f15, f17, f61, f62, f63, f93, f94, f95, k, f18, hk, hD⟩
          simp [f94, f95]
          refine At.dec (fun hlt3 => ?_) (fun hlt3 => ?_)
          · have j1 := aidx_nat hXa hlt3 (k := .i64)
            have bj := hok.bd _ (List.getElem_mem hlt3)
            rw [wiD_c hlt3] at hD
            have wj : IntKind.i64.wrap (l[j] - s) = l[j] - s := wrap64 (by omega) (by omega)
            by_cases q1 : l[j] < s
            · rw [if_neg (by simp [btw]; omega)] at hD
              simp [f7, f9, f17, f93, f95, j1, q1, wsw2]
              refine hN3 (j + 1) _ (by omega) ⟨by omega, by simp [f7], by simp [f8], by simp [f9], by simp [f10], by simp [f13], by simp [f15], by simp [f17], by simp [f61], by simp [f62], by simp [f63], by simp [f93], by simp [f94], by simp [wrap_nat1 (show j < _ by omega)], k, by simp [f18], hk, hD⟩
            · by_cases q2 : s + w < l[j]
              · rw [if_neg (by simp [btw]; omega)] at hD
                simp [f7, f9, f17, f93, f95, j1, q1, q2, wsw2]
                refine hN3 (j + 1) _ (by omega) ⟨by omega, by simp [f7], by simp [f8], by simp [f9], by simp [f10], by simp [f13], by simp [f15], by simp [f17], by simp [f61], by simp [f62], by simp [f63], by simp [f93], by simp [f94], by simp [wrap_nat1 (show j < _ by omega)], k, by simp [f18], hk, hD⟩
              · rw [if_pos (by simp [btw]; omega)] at hD
                obtain ⟨k1, k2, k3⟩ := drop_cons hD
                have kA : k < A.length := by omega
                have kA1 : ¬ A.length ≤ k := by omega
                have kA2 : ¬ (A.length : Int) ≤ (k : Int) := by omega
                have ks := aidx_nat hy kA (k := .i64)
                have kv : A[k] = l[j] - s := by
                  have : (winL l s w)[k] = A[k] + s := by simp [hWs]
                  omega
                simp [f7, f9, f10, f17, f18, f93, f95, j1, q1, q2, wsw2, aly, kA1, kA2, ks, kv, wj]
                refine hN3 (j + 1) _ (by omega) ⟨by omega, by simp [f7], by simp [f8], by simp [f9], by simp [f10], by simp [f13], by simp [f15], by simp [f17], by simp [f61], by simp [f62], by simp [f63], by simp [f93], by simp [f94], by simp [wrap_nat1 (show j < _ by omega)], k + 1, by simp [wrap_nat1 (show k < _ by omega)], by omega, k3⟩
          · rw [wiD_n (by omega)] at hD
            have hkA : k = A.length := by
              have := congrArg List.length hD
              simp at this; omega
            subst hkA
            simp [f10, f18, aly, f63]
            refine hN2 (i + 1) _ (by omega) ⟨by omega, by simp [f7], by simp [f8], by simp [f9], by simp [f10], by simp [f13], by simp [f15], by simp [f61], by simp [f62], by simp [wrap_nat1 (show i < _ by omega)]⟩
      · have z1 : 0 < i := by omega
        have z2 : (0 : Int) < (i : Int) := by omega
        obtain ⟨u, hu1, hu2⟩ := hup h0
        by_cases hin : sh ∈ F.take i
        · simp [alen_of hXa, e7, e8, e9, e10, e13, e15, e61, e63, i1, hb1, hb2, z1, z2, hu1, hu2, hin]
          refine At.loop (fun (j : Nat) t => j ≤ l.length ∧ t.env 7 = X ∧ t.env 8 = .int .i64 sh ∧ t.env 9 = .int .i64 w ∧ t.env 10 = y ∧ t.env 13 = FV ∧ t.env 15 = .bool (decide (sh ∈ F.take (i + 1))) ∧ t.env 17 = .int .i64 s ∧ t.env 61 = FV ∧ t.env 62 = .int .i64 (F.length : Int) ∧ t.env 63 = .int .i64 (i : Int) ∧ t.env 93 = X ∧ t.env 94 = .int .i64 (l.length : Int) ∧ t.env 95 = .int .i64 (j : Int) ∧ ∃ k : Nat, t.env 18 = .int .i64 (k : Int) ∧ k ≤ A.length ∧ (winL l s w).drop k = wiD l s w j) (fun j => l.length - j) 0 ?_ ?_
          · exact ⟨by omega, by simp [e7], by simp [e8], by simp [e9], by simp [e10], by simp [e13], by simp [htk, hin, e15], by simp, by simp [e61], by simp [e62], by simp [e63], by simp [e7], by simp [e7, alen_of hXa], by simp, 0, by simp, by omega, rfl⟩
          rintro N3 j t3 hN3 ⟨hj, f7, f8, f9, f10, f13, f15, f17, f61, f62, f63, f93, f94, f95, k, f18, hk, hD⟩
          simp [f94, f95]
          refine At.dec (fun hlt3 => ?_) (fun hlt3 => ?_)
          · have j1 := aidx_nat hXa hlt3 (k := .i64)
            have bj := hok.bd _ (List.getElem_mem hlt3)
            rw [wiD_c hlt3] at hD
            have wj : IntKind.i64.wrap (l[j] - s) = l[j] - s := wrap64 (by omega) (by omega)
            by_cases q1 : l[j] < s
            · rw [if_neg (by simp [btw]; omega)] at hD
              simp [f7, f9, f17, f93, f95, j1, q1, wsw2]
              refine hN3 (j + 1) _ (by omega) ⟨by omega, by simp [f7], by simp [f8], by simp [f9], by simp [f10], by simp [f13], by simp [f15], by simp [f17], by simp [f61], by simp [f62], by simp [f63], by simp [f93], by simp [f94], by simp [wrap_nat1 (show j < _ by omega)], k, by simp [f18], hk, hD⟩
            · by_cases q2 : s + w < l[j]
              · rw [if_neg (by simp [btw]; omega)] at hD
                simp [f7, f9, f17, f93, f95, j1, q1, q2, wsw2]
                refine hN3 (j + 1) _ (by omega) ⟨by omega, by simp [f7], by simp [f8], by simp [f9], by simp [f10], by simp [f13], by simp [f15], by simp [f17], by simp [f61], by simp [f62], by simp [f63], by simp [f93], by simp [f94], by simp [wrap_nat1 (show j < _ by omega)], k, by simp [f18], hk, hD⟩
              · rw [if_pos (by simp [btw]; omega)] at hD
                obtain ⟨k1, k2, k3⟩ := drop_cons hD
                have kA : k < A.length := by omega
                have kA1 : ¬ A.length ≤ k := by omega
                have kA2 : ¬ (A.length : Int) ≤ (k : Int) := by omega
                have ks := aidx_nat hy kA (k := .i64)
                have kv : A[k] = l[j] - s := by
                  have : (winL l s w)[k] = A[k] + s := by simp [hWs]
                  omega
                simp [f7, f9, f10, f17, f18, f93, f95, j1, q1, q2, wsw2, aly, kA1, kA2, ks, kv, wj]
                refine hN3 (j + 1) _ (by omega) ⟨by omega, by simp [f7], by simp [f8], by simp [f9], by simp [f10], by simp [f13], by simp [f15], by simp [f17], by simp [f61], by simp [f62], by simp [f63], by simp [f93], by simp [f94], by simp [wrap_nat1 (show j < _ by omega)], k + 1, by simp [wrap_nat1 (show k < _ by omega)], by omega, k3⟩
          · rw [wiD_n (by omega)] at hD
            have hkA : k = A.length := by
              have := congrArg List.length hD
              simp at this; omega
            subst hkA
            simp [f10, f18, aly, f63]
            refine hN2 (i + 1) _ (by omega) ⟨by omega, by simp [f7], by simp [f8], by simp [f9], by simp [f10], by simp [f13], by simp [f15], by simp [f61], by simp [f62], by simp [wrap_nat1 (show i < _ by omega)]⟩
        · simp [alen_of hXa, e7, e8, e9, e10, e13, e15, e61, e63, i1, hb1, hb2, z1, z2, hu1, hu2, hin]
          refine At.loop (fun (j : Nat) t => j ≤ l.length ∧ t.env 7 = X ∧ t.env 8 = .int .i64 sh ∧ t.env 9 = .int .i64 w ∧ t.env 10 = y ∧ t.env 13 = FV ∧ t.env 15 = .bool (decide (sh ∈ F.take (i + 1))) ∧ t.env 17 = .int .i64 s ∧ t.env 61 = FV ∧ t.env 62 = .int .i64 (F.length : Int) ∧ t.env 63 = .int .i64 (i : Int) ∧ t.env 93 = X ∧ t.env 94 = .int .i64 (l.length : Int) ∧ t.env 95 = .int .i64 (j : Int) ∧ ∃ k : Nat, t.env 18 = .int .i64 (k : Int) ∧ k ≤ A.length ∧ (winL l s w).drop k = wiD l s w j) (fun j => l.length - j) 0 ?_ ?_
          · exact ⟨by omega, by simp [e7], by simp [e8], by simp [e9], by simp [e10], by simp [e13], by simp [htk, hin, e15], by simp, by simp [e61], by simp [e62], by simp [e63], by simp [e7], by simp [e7, alen_of hXa], by simp, 0, by simp, by omega, rfl⟩
          rintro N3 j t3 hN3 ⟨hj, f7, f8, f9, f10, f13, f15, f17, f61, f62, f63, f93, f94, f95, k, f18, hk, hD⟩
          simp [f94, f95]
          refine At.dec (fun hlt3 => ?_) (fun hlt3 => ?_)
          · have j1 := aidx_nat hXa hlt3 (k := .i64)
            have bj := hok.bd _ (List.getElem_mem hlt3)
            rw [wiD_c hlt3] at hD
            have wj : IntKind.i64.wrap (l[j] - s) = l[j] - s := wrap64 (by omega) (by omega)
            by_cases q1 : l[j] < s
            · rw [if_neg (by simp [btw]; omega)] at hD
              simp [f7, f9, f17, f93, f95, j1, q1, wsw2]
              refine hN3 (j + 1) _ (by omega) ⟨by omega, by simp [f7], by simp [f8], by simp [f9], by simp [f10], by simp [f13], by simp [f15], by simp [f17], by simp [f61], by simp [f62], by simp [f63], by simp [f93], by simp [f94], by simp [wrap_nat1 (show j < _ by omega)], k, by simp [f18], hk, hD⟩
            · by_cases q2 : s + w < l[j]
              · rw [if_neg (by simp [btw]; omega)] at hD
                simp [f7, f9, f17, f93, f95, j1, q1, q2, wsw2]
                refine hN3 (j + 1) _ (by omega) ⟨by omega, by simp [f7], by simp [f8], by simp [f9], by simp [f10], by simp [f13], by simp [f15], by simp [f17], by simp [f61], by simp [f62], by simp [f63], by simp [f93], by simp [f94], by simp [wrap_nat1 (show j < _ by omega)], k, by simp [f18], hk, hD⟩
              · rw [if_pos (by simp [btw]; omega)] at hD
                obtain ⟨k1, k2, k3⟩ := drop_cons hD
                have kA : k < A.length := by omega
                have kA1 : ¬ A.length ≤ k := by omega
                have kA2 : ¬ (A.length : Int) ≤ (k : Int) := by omega
                have ks := aidx_nat hy kA (k := .i64)
                have kv : A[k] = l[j] - s := by
                  have : (winL l s w)[k] = A[k] + s := by simp [hWs]
                  omega
                simp [f7, f9, f10, f17, f18, f93, f95, j1, q1, q2, wsw2, aly, kA1, kA2, ks, kv, wj]
                refine hN3 (j + 1) _ (by omega) ⟨by omega, by simp [f7], by simp [f8], by simp [f9], by simp [f10], by simp [f13], by simp [f15], by simp [f17], by simp [f61], by simp [f62], by simp [f63], by simp [f93], by simp [f94], by simp [wrap_nat1 (show j < _ by omega)], k + 1, by simp [wrap_nat1 (show k < _ by omega)], by omega, k3⟩
          · rw [wiD_n (by omega)] at hD
            have hkA : k = A.length := by
              have := congrArg List.length hD
              simp at this; omega
            subst hkA
            simp [f10, f18, aly, f63]
            refine hN2 (i + 1) _ (by omega) ⟨by omega, by simp [f7], by simp [f8], by simp [f9], by simp [f10], by simp [f13], by simp [f15], by simp [f61], by simp [f62], by simp [wrap_nat1 (show i < _ by omega)]⟩
    · have hiF : i = F.length := by omega
      subst hiF
      rw [List.take_length] at e15
      have e15' : decide (sh ∈ F) = true := by simpa using hFsh
      rw [e15'] at e15
      by_cases hc : clrB l = true
      · by_cases hs2 : 2 ≤ A.length
        · have := hone hc hs2
          have h3 : ¬ (A.length : Int) < 2 := by omega
          have h3' : ¬ A.length < 2 := by omega
          simp [e7, e10, e13, e15, k41, hc, aly, alF, h3, h3', this, k16]
        · have h3 : (A.length : Int) < 2 := by omega
          have h3' : A.length < 2 := by omega
          simp [e7, e10, e13, e15, k41, hc, aly, alF, h3, h3', k16]
      · rw [Bool.not_eq_true] at hc
        simp [e7, e10, e13, e15, k41, hc, aly, alF, k16]
theorem located_typed (xs : List AV) (h : Typed [.sl (.int .u8), .int .i8, .int .u8] xs) : PCall Try.prog 9 xs (.bool true) := by
  obtain ⟨x, y, z, rfl, h1, h2, h3⟩ := h.three
  obtain ⟨l, hl⟩ := IsU8.of h1
  obtain ⟨a, rfl, ha⟩ := shv_int h2
  obtain ⟨b, rfl, hb⟩ := shv_int h3
  obtain ⟨b0, b1⟩ := u8_bd hb
  have ha2 : -128 ≤ a ∧ a ≤ 127 := by
    simp [Lit.wf, IntKind.min, IntKind.max, IntKind.signed, IntKind.bits] at ha
    omega
  exact p9 hl ha2 b0 b1
end Go.Proofs.Ytokfmcjepkepjaa
