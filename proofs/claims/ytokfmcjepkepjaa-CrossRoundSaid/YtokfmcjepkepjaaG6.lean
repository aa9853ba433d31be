/-
  CrossClear, plainly: shifts and pairs; distances in their order; the first pairs. Own work.
  CrossClear, walked. Own work.
-/
import Derived.Test.YtokfmcjepkepjaaG5
set_option linter.unusedVariables false
set_option linter.unusedSimpArgs false
namespace Go.Proofs.Ytokfmcjepkepjaa
open Go Fw

theorem cnP_app {l : List Int} {ps qs : List Pr} {j : Nat} : cnP l (ps ++ qs) j = cnP l ps j + cnP l qs j := List.countP_append
theorem cnP_row {l : List Int} {i j : Nat} : ∀ (m k : Nat), l.length - k = m → cnP l (rowF l.length i k) j = (l.drop k).count (l.getD i 0 + j)
  | 0, k, h => by
    rw [rowF_n (by omega), List.drop_eq_nil_of_le (by omega)]; rfl
  | m + 1, k, h => by
    have hk : k < l.length := by omega
    rw [rowF_c hk, cnP_cons, cnP_row m (k + 1) (by omega), List.drop_eq_getElem_cons hk, List.count_cons]
    by_cases e : dsN l (i, k) = (j : Int)
    · have : l[k] = l.getD i 0 + (j : Int) := by rw [dsN, getD_of hk] at e; simp only at e; omega
      rw [if_pos e, if_pos (by simpa using this)]; omega
    · have : ¬ l[k] = l.getD i 0 + (j : Int) := by rw [dsN, getD_of hk] at e; simp only at e; omega
      rw [if_neg e, if_neg (by simpa using this)]; omega
theorem cnt_later {l : List Int} (h : l.Pairwise (· < ·)) {i j : Nat} (hi : i < l.length) (hj : 1 ≤ j) : (l.drop (i + 1)).count (l[i] + j) = l.count (l[i] + j) := by
  have e : l.count (l[i] + j) = (l.take (i + 1)).count (l[i] + j) + (l.drop (i + 1)).count (l[i] + j) := by
    rw [← List.count_append, List.take_append_drop]
  have z : (l.take (i + 1)).count (l[i] + j) = 0 := by
    rw [List.count_eq_zero]
    intro hm
    obtain ⟨u, hu, e⟩ := List.mem_iff_getElem.1 hm
    rw [List.length_take] at hu
    rw [List.getElem_take] at e
    rcases Nat.lt_or_ge u i with h1 | h1
    · have := List.pairwise_iff_getElem.1 h u i (by omega) hi h1
      omega
    · have : u = i := by omega
      subst this
      omega
  omega
theorem cnt_part {l : List Int} (h : l.Pairwise (· < ·)) {j : Nat} (hj : 1 ≤ j) : ∀ i, i ≤ l.length → cntT l j i + cnP l (resF l.length i) j = cnN l j
  | 0, _ => by simp [cntT, cnN]
  | i + 1, hi => by
    have hi' : i < l.length := by omega
    have ih := cnt_part h hj i (by omega)
    rw [resF_c hi', cnP_app, cnP_row _ _ rfl, getD_of hi', cnt_later h hi' hj] at ih
    rw [cntT_c hi']
    omega
theorem cnt_all {l : List Int} (h : l.Pairwise (· < ·)) {j : Nat} (hj : 1 ≤ j) : cntT l j l.length = cnN l j := by
  have := cnt_part h hj l.length (Nat.le_refl _)
  rw [resF_n (Nat.le_refl _)] at this
  simpa [cnP] using this
theorem swap_row (a : List Int) (p s : Int) : ∀ b : List Int, (b.map fun q => (p :: a).count (q + -s)).sum = b.count (p + s) + (b.map fun q => a.count (q + -s)).sum
  | [] => rfl
  | q :: b => by
    have ih := swap_row a p s b
    rw [List.map_cons, List.sum_cons, List.map_cons, List.sum_cons, ih, List.count_cons, List.count_cons]
    by_cases e : p = q + -s
    · have : q = p + s := by omega
      rw [if_pos (by simpa using e), if_pos (by simpa using this)]
      omega
    · have : ¬ q = p + s := by omega
      have e2 : ¬ (p == q + -s) = true := by simpa using e
      have e3 : ¬ (q == p + s) = true := by simpa using this
      rw [if_neg e2, if_neg e3]
      omega
theorem swap_all (s : Int) (b : List Int) : ∀ a : List Int, (a.map fun p => b.count (p + s)).sum = (b.map fun q => a.count (q + -s)).sum
  | [] => by
    have : ∀ b : List Int, (b.map fun q => ([] : List Int).count (q + -s)).sum = 0 := by
      intro b
      induction b with
      | nil => rfl
      | cons a b ih => simpa using ih
    rw [this]; rfl
  | p :: a => by
    rw [swap_row, ← swap_all s b a]
    rfl
theorem cnt_neg (l : List Int) (s : Int) : cntT l (-s) l.length = cntT l s l.length := by
  unfold cntT
  rw [List.take_length, ← swap_all]
theorem coR_ok {l : List Int} (h : OkL l) {s : Int} (h1 : -60 ≤ s) (h2 : s ≤ 60) : coR l s = .tup [.int .i64 (cntT l s l.length : Int), .int .i64 0] := by
  have : coE l s = 0 := by rw [coE, if_pos (chkE_zero.2 h), if_pos (by simp [btw, h1, h2])]
  rw [coR, this, if_pos rfl]
theorem take_count {l : List Int} {j : Nat} (h : j < l.length) (v : Int) : (l.take (j + 1)).count v = (l.take j).count v + if l[j] = v then 1 else 0 := by
  rw [List.take_succ_eq_append_getElem h, List.count_append, List.count_singleton]
  simp
theorem clr_cnt1 {l : List Int} (h : Rl l) : clrB l = true ↔ ∀ t : Nat, 1 ≤ t → t < 61 → cntT l t l.length ≤ 1 := by
  rw [clr_cnt h]
  constructor
  · intro hc t h1 h2
    rw [cnt_all h.asc h1]; exact hc t h2
  · intro hc j hj
    rcases Nat.eq_zero_or_pos j with h0 | h0
    · subst h0
      have : cnN l 0 = 0 := by
        rw [cnN_zero, measB, List.any_eq_false]
        intro p hp
        obtain ⟨h1, h2⟩ := mem_resF.1 hp
        have := h.ds h1 h2
        simp; omega
      omega
    · rw [← cnt_all h.asc h0]; exact hc j h0 hj
theorem wiF_ge {l : List Int} {is : Bool} {n : Nat} {v : Int} (h : v ∈ wiF l is n) : (n : Int) ≤ v := by
  unfold wiF at h
  simp only [List.mem_map, List.mem_filter, List.mem_range'_1] at h
  obtain ⟨k, ⟨⟨h1, _⟩, _⟩, rfl⟩ := h
  omega
theorem wi_ne {l : List Int} {is : Bool} {n x : Nat} {W : List Int} (h : W.drop x = wiF l is (n + 1)) (hx : x < W.length) : ¬ W[x] = (n : Int) := by
  rw [List.drop_eq_getElem_cons hx] at h
  have : W[x] ∈ wiF l is (n + 1) := by rw [← h]; exact List.mem_cons_self
  have := wiF_ge this
  omega
theorem resF_size : ∀ n, n < 9 → (resF n 0).length = n * (n - 1) / 2 := by decide
theorem wi_count {l : List Int} (h : OkL l) (hc : clrB l = true) : (wiL l true).length = l.length * (l.length - 1) / 2 := by
  have h8 := h.eight
  have h2 := h.two
  rw [← resF_size l.length (by omega)]
  have n1 : ((resF l.length 0).map (dsN l)).Nodup := (mem_nodup (resF_nodup _ _)).2 (clr_iff.1 hc)
  have n2 : (wiL l true).Nodup := by
    unfold wiL
    unfold List.Nodup
    rw [List.pairwise_map]
    exact ((List.pairwise_lt_range' (s := 1) (n := (lenN l).toNat)).filter _).imp fun hab => by omega
  have hm : ∀ v, v ∈ wiL l true ↔ v ∈ (resF l.length 0).map (dsN l) := by
    intro v
    unfold wiL measB
    simp only [List.mem_map, List.mem_filter, List.mem_range'_1, decide_eq_true_eq, List.any_eq_true]
    constructor
    · rintro ⟨k, ⟨_, p, hp, e⟩, rfl⟩
      exact ⟨p, hp, e⟩
    · rintro ⟨p, hp, rfl⟩
      obtain ⟨h1, h2⟩ := mem_resF.1 hp
      have hd := h.rl.ds h1 h2
      have hle : dsN l p ≤ lenN l := by
        rw [lenN, dsN, getD_of h2, getD_of (by omega : p.1 < l.length), getD_of (by omega), getD_of (by omega)]
        have a1 : l[p.2] ≤ l[l.length - 1]'(by omega) := by
          rcases Nat.lt_or_ge p.2 (l.length - 1) with h3 | h3
          · have := List.pairwise_iff_getElem.1 h.asc p.2 (l.length - 1) h2 (by omega) h3; omega
          · have : p.2 = l.length - 1 := by omega
            simp [this]
        have a2 : l[0]'(by omega) ≤ l[p.1]'(by omega) := by
          rcases Nat.eq_zero_or_pos p.1 with h3 | h3
          · simp [h3]
          · have := List.pairwise_iff_getElem.1 h.asc 0 p.1 (by omega) (by omega) h3; omega
        omega
      refine ⟨(dsN l p).toNat, ⟨by omega, p, hp, by omega⟩, by omega⟩
  have := ((List.perm_ext_iff_of_nodup n2 n1).2 hm).length_eq
  rw [this, List.length_map]
/-- the first other pair that is like one -/
def fnd (l : List Int) (p : Pr) (qs : List Pr) : Option Pr := qs.find? fun q => decide (p ≠ q ∧ dsN l p = dsN l q)
def fst' (l : List Int) (ps : List Pr) : Option (Pr × Pr) := ps.findSome? fun p => (fnd l p (resF l.length 0)).map fun q => (p, q)
theorem tw_fst (l : List Int) : tw (dsN l) (resF l.length 0) = fst' l (resF l.length 0) := tw_eq _ _
theorem fst_c {l : List Int} {p : Pr} {ps : List Pr} : fst' l (p :: ps) = match fnd l p (resF l.length 0) with | some q => some (p, q) | none => fst' l ps := by
  unfold fst'
  rw [List.findSome?_cons]
  cases fnd l p (resF l.length 0) <;> rfl
theorem fnd_c {l : List Int} {p q : Pr} {qs : List Pr} : fnd l p (q :: qs) = if p ≠ q ∧ dsN l p = dsN l q then some q else fnd l p qs := by
  unfold fnd
  rw [List.find?_cons]
  by_cases h : p ≠ q ∧ dsN l p = dsN l q
  · rw [if_pos h, decide_eq_true h]
  · rw [if_neg h, decide_eq_false h]
theorem fnd_none {l : List Int} {p : Pr} (hp : p ∈ resF l.length 0) {d : Nat} (hd : dsN l p = (d : Int)) : fnd l p (resF l.length 0) = none ↔ cnN l d < 2 := by
  have hnd := resF_nodup l.length 0
  unfold fnd
  rw [List.find?_eq_none]
  simp only [decide_eq_true_eq]
  constructor
  · intro h
    have h1 : cnN l d ≤ (resF l.length 0).countP (fun q => q == p) := by
      unfold cnN cnP
      refine List.countP_mono_left fun q hq e => ?_
      simp only [decide_eq_true_eq] at e
      by_cases hqp : q = p
      · simpa using hqp
      · exact absurd ⟨fun e => hqp e.symm, by omega⟩ (h q hq)
    have h2 : (resF l.length 0).count p ≤ 1 := List.nodup_iff_count.1 hnd p
    have h3 : (resF l.length 0).countP (fun q => q == p) = (resF l.length 0).count p := rfl
    omega
  · rintro h q hq ⟨hne, e⟩
    have hc : 2 ≤ cnN l d := by
      unfold cnN cnP
      rw [List.countP_eq_length_filter]
      have m1 : p ∈ (resF l.length 0).filter fun p => decide (dsN l p = (d : Int)) := List.mem_filter.2 ⟨hp, by simpa using hd⟩
      have m2 : q ∈ (resF l.length 0).filter fun p => decide (dsN l p = (d : Int)) := List.mem_filter.2 ⟨hq, by simp; omega⟩
      generalize (resF l.length 0).filter (fun p => decide (dsN l p = (d : Int))) = L at *
      match L, m1, m2 with
      | [], m1, _ => cases m1
      | [a], m1, m2 =>
        rw [List.mem_singleton] at m1 m2
        exact absurd (m1.trans m2.symm) hne
      | a :: b :: L, _, _ => simp
    omega
end Go.Proofs.Ytokfmcjepkepjaa
set_option linter.unusedVariables false
set_option linter.unusedSimpArgs false
namespace Go.Proofs.Ytokfmcjepkepjaa
open Go Fw

theorem At.ist {hp : Nat → Option (List AV)} {i n : Nat} {f g : Nat → Int} {K : (Nat → Option (List AV)) → Prop} (h : hp i = some (inF n f)) (k : At (K fun k => if k = i then some (inF n g) else hp k)) : At (optK (astore hp n (.ref i 0) (.agg (inF n g))) K) := by rw [in_st h]; exact k
set_option maxHeartbeats 4000000 in
set_option maxRecDepth 100000 in
theorem p8 {x0 : AV} {es : List Int} (hx : IsU8 x0 es) : PCall Try.prog 8 [x0] (.bool true) := by
  obtain ⟨hok, hlen6, h00, h45⟩ := madL_ok (es := es) (m := 9) (by omega) (by omega)
  have h40 := p40 hx (m := 9) (by omega) (by omega)
  generalize madL es 9 = l at *
  have h2 := hok.two
  have hrl := hok.rl
  have hXa : asI (outV 1 (ints l)) = some l := asI_outV (by omega)
  generalize hX : outV 1 (ints l) = X at *
  have h17 := p17 hXa
  rw [twiR_ok hok] at h17
  have h19 := p19 hXa
  rw [diR_ok hok] at h19
  have h21 := p21 hXa
  rw [diR_ok hok] at h21
  have h60 := hok.len60
  have hlast : l.length - 1 < l.length := by omega
  have hix := aidx_nat hXa hlast (k := .i64)
  rw [lastN_get (by omega)] at hix
  have hwl : IntKind.i64.wrap ((l.length : Int) - 1) = ((l.length - 1 : Nat) : Int) := by rw [wrap64 (by omega) (by omega)]; omega
  have hlenN : lastN l = lenN l := by
    rw [lenN, h00, getD_of hlast, lastN_get (by omega)]; omega
  obtain ⟨last, hla⟩ : ∃ last : Nat, lenN l = (last : Int) := ⟨(lenN l).toNat, by omega⟩
  rw [hlenN, hla] at hix
  have hDl := wiL_len l true
  have hMl := wiL_len l false
  have hDa : asI (outV 1 (ints (wiL l true))) = some (wiL l true) := asI_outV (by omega)
  have hMa : asI (outV 1 (ints (wiL l false))) = some (wiL l false) := asI_outV (by omega)
  have hcount := fun hc => wi_count hok hc
  have hD1 := wiF_1 l true
  have hM1 := wiF_1 l false
  generalize wiL l true = D at *
  generalize wiL l false = Mi at *
  generalize outV 1 (ints D) = DV at *
  generalize outV 1 (ints Mi) = MV at *
  obtain ⟨V, hV⟩ : ∃ V, tw (dsN l) (resF l.length 0) = V := ⟨_, rfl⟩
  have hVc : clrB l = V.isNone := by rw [clrB, hV]
  have hVf : fst' l (resF l.length 0) = V := by rw [← tw_fst, hV]
  rw [hV] at h17
  generalize hE : (if clrB l = true then (5 : Int) else 0) = E at *
  obtain ⟨C, hC, k40, k16, k41, k42, k17, k19, k21, k26⟩ : ∃ C, CtxOk Try.prog C ∧ C 40 [x0, .int .i64 9] = some X ∧ C 16 [] = some (.bool true) ∧ C 41 [X] = some (.bool (clrB l)) ∧ C 42 [X] = some (.agg (inF 61 fun j => (cnN l j : Int))) ∧ C 17 [X] = some (twR E V) ∧ C 19 [X] = some (.tup [DV, .int .i64 0]) ∧ C 21 [X] = some (.tup [MV, .int .i64 0]) ∧ ∀ s : Int, C 26 [X, .int .i64 s] = some (coR l s) :=
    ⟨_, (((((((D2ok.pt p16).pt h40).pt (p41 hXa hrl)).pt (p42 hXa hrl)).pt h17).pt h19).pt h21).fam (f := 26) (g := fun s : Int => [X, .int .i64 s]) (fun s => p26 hXa s), by simp, by simp, by simp, by simp, by simp, by simp, by simp, fun s => fam_eq (g := fun s : Int => [X, .int .i64 s]) (r := fun s : Int => coR l s) (fun i j h => by simp at h; rw [h]) s⟩
  have ap2 : ∀ a b : AV, apart true 2 0 [a, b] = some (.agg [a, b]) := fun _ _ => rfl
  refine PCall.of hC ok8 (by simp) rfl fun hs' hb => ?_
  have b0 : inF 61 (fun _ => 0) = [AV.int .i64 0, AV.int .i64 0, AV.int .i64 0, AV.int .i64 0, AV.int .i64 0, AV.int .i64 0, AV.int .i64 0, AV.int .i64 0, AV.int .i64 0, AV.int .i64 0, AV.int .i64 0, AV.int .i64 0, AV.int .i64 0, AV.int .i64 0, AV.int .i64 0, AV.int .i64 0, AV.int .i64 0, AV.int .i64 0, AV.int .i64 0, AV.int .i64 0, AV.int .i64 0, AV.int .i64 0, AV.int .i64 0, AV.int .i64 0, AV.int .i64 0, AV.int .i64 0, AV.int .i64 0, AV.int .i64 0, AV.int .i64 0, AV.int .i64 0, AV.int .i64 0, AV.int .i64 0, AV.int .i64 0, AV.int .i64 0, AV.int .i64 0, AV.int .i64 0, AV.int .i64 0, AV.int .i64 0, AV.int .i64 0, AV.int .i64 0, AV.int .i64 0, AV.int .i64 0, AV.int .i64 0, AV.int .i64 0, AV.int .i64 0, AV.int .i64 0, AV.int .i64 0, AV.int .i64 0, AV.int .i64 0, AV.int .i64 0, AV.int .i64 0, AV.int .i64 0, AV.int .i64 0, AV.int .i64 0, AV.int .i64 0, AV.int .i64 0, AV.int .i64 0, AV.int .i64 0, AV.int .i64 0, AV.int .i64 0, AV.int .i64 0] := rfl
  simp only [A8, R8, ← b0]
  simp [k40]
  refine At.loop (fun (s : Nat) t => 1 ≤ s ∧ s ≤ 61 ∧ ∃ M : Nat, t.env 3 = X ∧ t.env 4 = .int .i64 (M : Int) ∧ t.env 5 = .int .i64 (s : Int) ∧ M ≤ 1000000 ∧ (M ≤ 1 ↔ ∀ u : Nat, 1 ≤ u → u < s → cntT l u l.length ≤ 1)) (fun s => 61 - s) 1 ?_ ?_
  · exact ⟨by omega, by omega, 0, by simp, by simp, by simp, by omega, ⟨fun _ u h1 h2 => by omega, fun _ => by omega⟩⟩
  rintro N s t hN ⟨hs1, hs61, M, e3, e4, e5, hM6, hM⟩
  simp [e5]
  refine At.dec (fun hlt => ?_) (fun hlt => ?_)
  · simp [e3, alen_of hXa]
    have hs60 : s ≤ 60 := by omega
    refine At.loop (fun (i : Nat) t => i ≤ l.length ∧ t.env 3 = X ∧ t.env 4 = .int .i64 (M : Int) ∧ t.env 5 = .int .i64 (s : Int) ∧ t.env 6 = .int .i64 ((cntT l s i : Nat) : Int) ∧ t.env 36 = X ∧ t.env 37 = .int .i64 (l.length : Int) ∧ t.env 38 = .int .i64 (i : Int)) (fun i => l.length - i) 0 ?_ ?_
    · exact ⟨by omega, by simp [e3], by simp [e4], by simp [e5], by simp [cntT], by simp [e3], by simp [e3, alen_of hXa], by simp⟩
    rintro N2 i t hN2 ⟨hi, e3, e4, e5, e6, e36, e37, e38⟩
    simp [e37, e38]
    refine At.dec (fun hlt2 => ?_) (fun hlt2 => ?_)
    · have i1 := aidx_nat hXa hlt2 (k := .i64)
      have bi := hok.bd _ (List.getElem_mem hlt2)
      have wps : IntKind.i64.wrap (l[i] + (s : Int)) = l[i] + (s : Int) := wrap64 (by omega) (by omega)
      have hcl := cntT_le (l := l) (s := (s : Int)) (i := i) (by omega)
      have hmul : i * l.length ≤ 6 * 6 := Nat.mul_le_mul (by omega) (by omega)
      simp [e3, e36, e38, i1, alen_of hXa]
      refine At.loop (fun (j : Nat) t => j ≤ l.length ∧ ∃ K : Nat, t.env 3 = X ∧ t.env 4 = .int .i64 (M : Int) ∧ t.env 5 = .int .i64 (s : Int) ∧ t.env 6 = .int .i64 (K : Int) ∧ t.env 8 = .int .i64 l[i] ∧ t.env 36 = X ∧ t.env 37 = .int .i64 (l.length : Int) ∧ t.env 38 = .int .i64 (i : Int) ∧ t.env 42 = X ∧ t.env 43 = .int .i64 (l.length : Int) ∧ t.env 44 = .int .i64 (j : Int) ∧ K = cntT l s i + (l.take j).count (l[i] + (s : Int))) (fun j => l.length - j) 0 ?_ ?_
      · exact ⟨by omega, cntT l s i, by simp [e3], by simp [e4], by simp [e5], by simp [e6], by simp, by simp [e36], by simp [e37], by simp [e38], by simp [e3], by simp [e3, alen_of hXa], by simp, by simp⟩
      rintro N3 j t hN3 ⟨hj, K, e3, e4, e5, e6, e8, e36, e37, e38, e42, e43, e44, hK⟩
      simp [e43, e44]
      refine At.dec (fun hlt3 => ?_) (fun hlt3 => ?_)
      · have j1 := aidx_nat hXa hlt3 (k := .i64)
        have htc := take_count hlt3 (l[i] + (s : Int))
        have hcl2 : (l.take j).count (l[i] + (s : Int)) ≤ 6 := Nat.le_trans List.count_le_length (by simp; omega)
        by_cases hq : l[i] + (s : Int) = l[j]
        · rw [if_pos hq.symm] at htc
          have bj := hok.bd _ (List.getElem_mem hlt3)
          have wj : IntKind.i64.wrap l[j] = l[j] := wrap64 (by omega) (by omega)
          have wK : IntKind.i64.wrap ((K : Int) + 1) = ((K + 1 : Nat) : Int) := by rw [wrap64 (by omega) (by omega)]; omega
          simp [e5, e6, e8, e42, e44, j1, wps, hq, wK, wj]
          refine hN3 (j + 1) _ (by omega) ⟨by omega, K + 1, by simp [e3], by simp [e4], by simp [e5], by simp, by simp [e8], by simp [e36], by simp [e37], by simp [e38], by simp [e42], by simp [e43], by simp [wrap_nat1 (show j < _ by omega)], by omega⟩
        · have hc0 : (l.take (j + 1)).count (l[i] + (s : Int)) = (l.take j).count (l[i] + (s : Int)) := by
            rw [htc, if_neg (fun e => hq e.symm)]; rfl
          simp [e5, e6, e8, e42, e44, j1, wps, hq]
          refine hN3 (j + 1) _ (by omega) ⟨by omega, K, by simp [e3], by simp [e4], by simp [e5], by simp [e6], by simp [e8], by simp [e36], by simp [e37], by simp [e38], by simp [e42], by simp [e43], by simp [wrap_nat1 (show j < _ by omega)], by omega⟩
      · rw [List.take_of_length_le (by omega), ← cntT_c hlt2] at hK
        subst hK
        simp [e38]
        refine hN2 (i + 1) _ (by omega) ⟨by omega, by simp [e3], by simp [e4], by simp [e5], by simp [e6], by simp [e36], by simp [e37], by simp [wrap_nat1 (show i < _ by omega)]⟩
    · have : i = l.length := by omega
      subst this
      have c1 := k26 (s : Int)
      have c2 := k26 (-(s : Int))
      rw [coR_ok hok (by omega) (by omega)] at c1
      rw [coR_ok hok (by omega) (by omega), cnt_neg] at c2
      have wneg : IntKind.i64.wrap (-(s : Int)) = -(s : Int) := wrap64 (by omega) (by omega)
      have hcl := cntT_le (l := l) (s := (s : Int)) (i := l.length) (by omega)
      have hmul : l.length * l.length ≤ 6 * 6 := Nat.mul_le_mul (by omega) (by omega)
      generalize hg : cntT l s l.length = g at *
      have un : aun .neg (.int .i64 (s : Int)) = some (.int .i64 (-(s : Int))) := by
        have : IntKind.i64.wrap (0 - (s : Int)) = -(s : Int) := by rw [wrap64 (by omega) (by omega)]; omega
        simp [aun, wneg, this]
      simp [e3, e4, e5, e6, c1, c2, un]
      refine hN (s + 1) _ (by omega) ⟨by omega, by omega, max M g, by simp [e3], ?_, by simp [wrap_nat1 (show s < _ by omega)], by omega, ?_⟩
      · simp
        split <;> omega
      · constructor
        · intro h u h1 h3
          by_cases hu : u = s
          · subst hu; omega
          · exact hM.1 (by omega) u h1 (by omega)
        · intro h
          have h4 := hM.2 fun u h1 h3 => h u h1 (by omega)
          have h5 := h s hs1 (by omega)
          omega
  · have hs : s = 61 := by omega
    subst hs
    have hMc : decide (M ≤ 1) = clrB l := by
      rw [Bool.eq_iff_iff, clr_cnt1 hrl, decide_eq_true_eq]
      exact hM
    have hMc2 : decide ((M : Int) ≤ 1) = clrB l := by rw [← hMc, Bool.eq_iff_iff]; simp; omega
    generalize hr : t.hs.nh = r
    have hne : ¬ r = r + 1 := by omega
    have hne2 : ¬ r = r + 2 := by omega
    have hne3 : ¬ r + 1 = r + 2 := by omega
    simp [e3, e4, k17, twR, hr]
    refine At.one none (by simp [one', zz, hne]) ?_
    simp
    refine At.tw2 none (by simp [two', zz, hne]) ?_
    simp [e3, e4, k19, k21, k41, k42, hMc, hMc2, hr]
    refine At.ist (f := fun _ => 0) (by simp) ?_
    simp
    have alD := alen_of hDa
    have alM := alen_of hMa
    refine At.loop (fun (n : Nat) t => 1 ≤ n ∧ n ≤ last + 1 ∧ ∃ x y : Nat, t.env 3 = X ∧ t.env 15 = .ref r 0 ∧ t.env 16 = .ref (r + 1) 0 ∧ t.env 17 = .int .i64 E ∧ t.env 18 = DV ∧ t.env 20 = MV ∧ t.env 22 = .int .i64 (x : Int) ∧ t.env 23 = .int .i64 (y : Int) ∧ t.env 24 = .ref (r + 2) 0 ∧ t.env 25 = .int .i64 (n : Int) ∧ t.hs.heap r = some (one' V) ∧ t.hs.heap (r + 1) = some (two' V) ∧ t.hs.heap (r + 2) = some (inF 61 fun j => (cnN l j : Int)) ∧ D.drop x = wiF l true n ∧ x ≤ D.length ∧ Mi.drop y = wiF l false n ∧ y ≤ Mi.length) (fun n => last + 1 - n) 1 ?_ ?_
    · exact ⟨by omega, by omega, 0, 0, by simp [e3], by simp, by simp, by simp, by simp, by simp, by simp, by simp, by simp, by simp, by simp [hne, hne2, hne3], by simp [hne, hne2, hne3], by simp, by rw [hD1]; rfl, by omega, by rw [hM1]; rfl, by omega⟩
    rintro N n t hN ⟨hn1, hn, x, y, e3, e15, e16, e17, e18, e20, e22, e23, e24, e25, w0, w1, w2, hDx, hxl, hMy, hyl⟩
    simp [e3, e25, alen_of hXa, hwl, hix]
    refine At.dec (fun hlt => ?_) (fun hlt => ?_)
    · have hn61 : n < 61 := by omega
      have ld := in_ld w2 hn61
      rw [wiF_c (by omega)] at hDx hMy
      by_cases hm : measB l (n : Int) = true
      · rw [if_pos hm] at hDx
        rw [if_neg (by rw [hm]; decide)] at hMy
        obtain ⟨x1, x2, x3⟩ := drop_cons hDx
        have xv := aidx_nat hDa x1 (k := .i64)
        have hc0 : cnN l n ≠ 0 := fun h => by rw [cnN_zero, hm] at h; cases h
        have hc1 : 0 < cnN l n := by omega
        have hc2 : ¬ cnN l n = 0 := hc0
        by_cases hy : y < Mi.length
        · have yv := aidx_nat hMa hy (k := .i64)
          have yn := wi_ne hMy hy
          simp [e18, e20, e22, e23, e24, e25, alD, alM, x1, xv, x2, hy, yv, yn, in_ix hn61, ld, hc1, hc2]
          refine hN (n + 1) _ (by omega) ⟨by omega, by omega, x + 1, y, by simp [e3], by simp [e15], by simp [e16], by simp [e17], by simp [e18], by simp [e20], by simp [wrap_nat1 (show x < _ by omega)], by simp [e23], by simp [e24], by simp [wrap_nat1 (show n < _ by omega)], by simpa using w0, by simpa using w1, by simpa using w2, x3, by omega, hMy, hyl⟩
        · simp [e18, e20, e22, e23, e24, e25, alD, alM, x1, xv, x2, hy, in_ix hn61, ld, hc1, hc2]
          refine hN (n + 1) _ (by omega) ⟨by omega, by omega, x + 1, y, by simp [e3], by simp [e15], by simp [e16], by simp [e17], by simp [e18], by simp [e20], by simp [wrap_nat1 (show x < _ by omega)], by simp [e23], by simp [e24], by simp [wrap_nat1 (show n < _ by omega)], by simpa using w0, by simpa using w1, by simpa using w2, x3, by omega, hMy, hyl⟩
      · rw [if_neg hm] at hDx
        rw [Bool.not_eq_true] at hm
        rw [if_pos hm] at hMy
        obtain ⟨y1, y2, y3⟩ := drop_cons hMy
        have yv := aidx_nat hMa y1 (k := .i64)
        have hc0 : cnN l n = 0 := cnN_zero.2 hm
        rw [hc0] at ld
        by_cases hx' : x < D.length
        · have xv := aidx_nat hDa hx' (k := .i64)
          have xn := wi_ne hDx hx'
          simp [e18, e20, e22, e23, e24, e25, alD, alM, y1, yv, y2, hx', xv, xn, in_ix hn61, ld]
          refine hN (n + 1) _ (by omega) ⟨by omega, by omega, x, y + 1, by simp [e3], by simp [e15], by simp [e16], by simp [e17], by simp [e18], by simp [e20], by simp [e22], by simp [wrap_nat1 (show y < _ by omega)], by simp [e24], by simp [wrap_nat1 (show n < _ by omega)], by simpa using w0, by simpa using w1, by simpa using w2, hDx, by omega, y3, by omega⟩
        · simp [e18, e20, e22, e23, e24, e25, alD, alM, y1, yv, y2, hx', in_ix hn61, ld]
          refine hN (n + 1) _ (by omega) ⟨by omega, by omega, x, y + 1, by simp [e3], by simp [e15], by simp [e16], by simp [e17], by simp [e18], by simp [e20], by simp [e22], by simp [wrap_nat1 (show y < _ by omega)], by simp [e24], by simp [wrap_nat1 (show n < _ by omega)], by simpa using w0, by simpa using w1, by simpa using w2, hDx, by omega, y3, by omega⟩
    · rw [wiF_n (by omega)] at hDx hMy
      have hxx : x = D.length := by
        have := List.drop_eq_nil_iff.1 hDx; omega
      have hyy : y = Mi.length := by
        have := List.drop_eq_nil_iff.1 hMy; omega
      subst hxx hyy
      by_cases hc : clrB l = true
      · rw [if_pos hc] at hE
        subst hE
        have hVn : V = none := by rw [hc] at hVc; simpa using hVc.symm
        subst hVn
        have hDn := hcount hc
        have ws : ∀ n : Int, 0 ≤ n → n ≤ 100 → IntKind.i64.wrap n = n := fun n h1 h2 => wrap64 (by omega) (by omega)
        have hll : l.length = 2 ∨ l.length = 3 ∨ l.length = 4 ∨ l.length = 5 ∨ l.length = 6 := by omega
        rcases hll with h | h | h | h | h
        all_goals
          rw [h] at hDn
          simp [e3, e15, e16, e17, e18, e20, e22, e23, alD, alM, k41, hc, la, w0, w1, one', two', zz, ap2, abin_pair, alen_of hXa, h, hDn, ws, k16]
      · rw [if_neg hc] at hE
        rw [Bool.not_eq_true] at hc
        have hVn : V ≠ none := by
          intro h
          rw [h, hc] at hVc
          cases hVc
        subst hE
        simp [e3, e18, e20, e22, e23, alD, alM, k41, hc, alen_of hXa]
        refine At.loop (fun (i : Nat) t => i ≤ l.length ∧ t.env 3 = X ∧ t.env 15 = .ref r 0 ∧ t.env 16 = .ref (r + 1) 0 ∧ t.env 17 = .int .i64 0 ∧ t.env 24 = .ref (r + 2) 0 ∧ t.env 214 = .int .i64 (l.length : Int) ∧ t.env 215 = .int .i64 (i : Int) ∧ t.hs.heap r = some (one' V) ∧ t.hs.heap (r + 1) = some (two' V) ∧ t.hs.heap (r + 2) = some (inF 61 fun j => (cnN l j : Int)) ∧ fst' l (resF l.length i) = V) (fun i => l.length - i) 0 ?_ ?_
        · exact ⟨by omega, by simp [e3], by simp [e15], by simp [e16], by simp [e17], by simp [e24], by simp [alen_of hXa, e3], by simp, by simpa using w0, by simpa using w1, by simpa using w2, hVf⟩
        rintro N8 i t hN8 ⟨hi, e3, e15, e16, e17, e24, e214, e215, w0, w1, w2, hf⟩
        simp [e214, e215]
        refine At.dec (fun hlt8 => ?_) (fun hlt8 => ?_)
        · rw [resF_c hlt8] at hf
          have i1 := aidx_nat hXa hlt8 (k := .i64)
          have bi := hok.bd _ (List.getElem_mem hlt8)
          have hwi : IntKind.i64.wrap ((i : Int) + 1) = ((i + 1 : Nat) : Int) := wrap_nat1 (show i < _ by omega)
          simp [e215, hwi]
          refine At.loop (fun (k : Nat) t => i < k ∧ k ≤ l.length ∧ t.env 3 = X ∧ t.env 15 = .ref r 0 ∧ t.env 16 = .ref (r + 1) 0 ∧ t.env 17 = .int .i64 0 ∧ t.env 24 = .ref (r + 2) 0 ∧ t.env 214 = .int .i64 (l.length : Int) ∧ t.env 215 = .int .i64 (i : Int) ∧ t.env 26 = .int .i64 (i : Int) ∧ t.env 27 = .int .i64 (k : Int) ∧ t.hs.heap r = some (one' V) ∧ t.hs.heap (r + 1) = some (two' V) ∧ t.hs.heap (r + 2) = some (inF 61 fun j => (cnN l j : Int)) ∧ fst' l (rowF l.length i k ++ resF l.length (i + 1)) = V) (fun k => l.length - k) (i + 1) ?_ ?_
          · exact ⟨by omega, by omega, by simp [e3], by simp [e15], by simp [e16], by simp [e17], by simp [e24], by simp [e214], by simp [e215], by simp, by simp, by simpa using w0, by simpa using w1, by simpa using w2, hf⟩
          rintro N10 k t hN10 ⟨hik, hk, e3, e15, e16, e17, e24, e214, e215, e26, e27, w0, w1, w2, hf⟩
          simp [e3, e27, alen_of hXa]
          refine At.dec (fun hlt10 => ?_) (fun hlt10 => ?_)
          · rw [rowF_c hlt10, List.cons_append] at hf
            have k1 := aidx_nat hXa hlt10 (k := .i64)
            have bk := hok.bd _ (List.getElem_mem hlt10)
            have hp : ((i, k) : Pr) ∈ resF l.length 0 := mem_resF.2 ⟨hik, hlt10⟩
            have hd := hrl.ds (p := (i, k)) hik hlt10
            obtain ⟨d, hdd⟩ : ∃ d : Nat, dsN l (i, k) = (d : Int) := ⟨(dsN l (i, k)).toNat, by omega⟩
            have hd61 : d < 61 := by omega
            have hwd : IntKind.i64.wrap (l[k] - l[i]) = (d : Int) := by rw [wrap64 (by omega) (by omega), ← hdd, dsN, getD_of hlt8, getD_of hlt10]
            have ld := in_ld w2 hd61
            by_cases h2c : cnN l d < 2
            · have h2i : (cnN l d : Int) < 2 := by omega
              rw [fst_c, (fnd_none hp hdd).2 h2c] at hf
              simp [e3, e24, e26, e27, i1, k1, hwd, in_ix hd61, ld, h2c, h2i]
              refine hN10 (k + 1) _ (by omega) ⟨by omega, by omega, by simp [e3], by simp [e15], by simp [e16], by simp [e17], by simp [e24], by simp [e214], by simp [e215], by simp [e26], by simp [wrap_nat1 (show k < _ by omega)], by simpa using w0, by simpa using w1, by simpa using w2, hf⟩
            · have h2i : ¬ (cnN l d : Int) < 2 := by omega
              have hq : ∃ q, fnd l (i, k) (resF l.length 0) = some q := by
                cases hfn : fnd l (i, k) (resF l.length 0) with
                | none => exact absurd ((fnd_none hp hdd).1 hfn) h2c
                | some q => exact ⟨q, rfl⟩
              obtain ⟨q, hq⟩ := hq
              rw [fst_c, hq] at hf
              simp only at hf
              subst hf
              simp [e3, e24, e26, e27, i1, k1, hwd, in_ix hd61, ld, h2c, h2i, alen_of hXa]
              refine At.loop (fun (a : Nat) t => a ≤ l.length ∧ t.env 3 = X ∧ t.env 15 = .ref r 0 ∧ t.env 16 = .ref (r + 1) 0 ∧ t.env 17 = .int .i64 0 ∧ t.env 24 = .ref (r + 2) 0 ∧ t.env 214 = .int .i64 (l.length : Int) ∧ t.env 215 = .int .i64 (i : Int) ∧ t.env 26 = .int .i64 (i : Int) ∧ t.env 27 = .int .i64 (k : Int) ∧ t.env 239 = .int .i64 (l.length : Int) ∧ t.env 240 = .int .i64 (a : Int) ∧ t.hs.heap r = some (one' (some ((i, k), q))) ∧ t.hs.heap (r + 1) = some (two' (some ((i, k), q))) ∧ t.hs.heap (r + 2) = some (inF 61 fun j => (cnN l j : Int)) ∧ fnd l (i, k) (resF l.length a) = some q) (fun a => l.length - a) 0 ?_ ?_
              · exact ⟨by omega, by simp [e3], by simp [e15], by simp [e16], by simp [e17], by simp [e24], by simp [e214], by simp [e215], by simp [e26], by simp [e27], by simp [alen_of hXa, e3], by simp, by simpa using w0, by simpa using w1, by simpa using w2, hq⟩
              rintro N12 a t hN12 ⟨ha, e3, e15, e16, e17, e24, e214, e215, e26, e27, e239, e240, w0, w1, w2, hf⟩
              simp [e239, e240]
              refine At.dec (fun hlt12 => ?_) (fun hlt12 => ?_)
              · rw [resF_c hlt12] at hf
                have a1 := aidx_nat hXa hlt12 (k := .i64)
                have ba := hok.bd _ (List.getElem_mem hlt12)
                have hwa : IntKind.i64.wrap ((a : Int) + 1) = ((a + 1 : Nat) : Int) := wrap_nat1 (show a < _ by omega)
                simp [e240, hwa]
                refine At.loop (fun (b : Nat) t => a < b ∧ b ≤ l.length ∧ t.env 3 = X ∧ t.env 15 = .ref r 0 ∧ t.env 16 = .ref (r + 1) 0 ∧ t.env 17 = .int .i64 0 ∧ t.env 24 = .ref (r + 2) 0 ∧ t.env 214 = .int .i64 (l.length : Int) ∧ t.env 215 = .int .i64 (i : Int) ∧ t.env 26 = .int .i64 (i : Int) ∧ t.env 27 = .int .i64 (k : Int) ∧ t.env 239 = .int .i64 (l.length : Int) ∧ t.env 240 = .int .i64 (a : Int) ∧ t.env 28 = .int .i64 (a : Int) ∧ t.env 29 = .int .i64 (b : Int) ∧ t.hs.heap r = some (one' (some ((i, k), q))) ∧ t.hs.heap (r + 1) = some (two' (some ((i, k), q))) ∧ t.hs.heap (r + 2) = some (inF 61 fun j => (cnN l j : Int)) ∧ fnd l (i, k) (rowF l.length a b ++ resF l.length (a + 1)) = some q) (fun b => l.length - b) (a + 1) ?_ ?_
                · exact ⟨by omega, by omega, by simp [e3], by simp [e15], by simp [e16], by simp [e17], by simp [e24], by simp [e214], by simp [e215], by simp [e26], by simp [e27], by simp [e239], by simp [e240], by simp, by simp, by simpa using w0, by simpa using w1, by simpa using w2, hf⟩
                rintro N14 b t hN14 ⟨hab, hb2, e3, e15, e16, e17, e24, e214, e215, e26, e27, e239, e240, e28, e29, w0, w1, w2, hf⟩
                simp [e3, e29, alen_of hXa]
                refine At.dec (fun hlt14 => ?_) (fun hlt14 => ?_)
                · rw [rowF_c hlt14, List.cons_append, fnd_c] at hf
                  have b1 := aidx_nat hXa hlt14 (k := .i64)
                  have bb := hok.bd _ (List.getElem_mem hlt14)
                  obtain ⟨u, hu⟩ : ∃ u, dsN l (a, b) = u := ⟨_, rfl⟩
                  have hwu : IntKind.i64.wrap (l[b] - l[a]) = u := by rw [wrap64 (by omega) (by omega), ← hu, dsN, getD_of hlt12, getD_of hlt14]
                  rw [hdd, hu] at hf
                  by_cases hu2 : u = (d : Int)
                  · by_cases hai : a = i
                    · by_cases hbk : b = k
                      · subst hai hbk
                        rw [if_neg (fun h => h.1 rfl)] at hf
                        simp [e26, e27, e28, e29]
                        refine hN14 (b + 1) _ (by omega) ⟨by omega, by omega, by simp [e3], by simp [e15], by simp [e16], by simp [e17], by simp [e24], by simp [e214], by simp [e215], by simp [e26], by simp [e27], by simp [e239], by simp [e240], by simp [e28], by simp [wrap_nat1 (show b < _ by omega)], by simpa using w0, by simpa using w1, by simpa using w2, hf⟩
                      · have hbk' : ¬ (b : Int) = (k : Int) := by omega
                        rw [if_pos ⟨fun h => hbk (congrArg Prod.snd h).symm, hu2.symm⟩] at hf
                        injection hf with hf
                        subst hf
                        subst hai
                        simp [e3, e15, e16, e17, e26, e27, e28, e29, i1, k1, a1, b1, hwd, hwu, hu2, hbk, hbk', la, w0, w1, one', two', prC, ap2, abin_pair, k16]
                    · have hai' : ¬ (a : Int) = (i : Int) := by omega
                      rw [if_pos ⟨fun h => hai (congrArg Prod.fst h).symm, hu2.symm⟩] at hf
                      injection hf with hf
                      subst hf
                      simp [e3, e15, e16, e17, e26, e27, e28, e29, i1, k1, a1, b1, hwd, hwu, hu2, hai, hai', la, w0, w1, one', two', prC, ap2, abin_pair, k16]
                  · rw [if_neg (fun h => hu2 h.2.symm)] at hf
                    by_cases hai : a = i
                    · by_cases hbk : b = k
                      · exact absurd (by rw [← hu, ← hdd, hai, hbk]) hu2
                      · have hbk' : ¬ (b : Int) = (k : Int) := by omega
                        subst hai
                        simp [e3, e26, e27, e28, e29, hbk, hbk', i1, k1, a1, b1, hwd, hwu, hu2]
                        refine hN14 (b + 1) _ (by omega) ⟨by omega, by omega, by simp [e3], by simp [e15], by simp [e16], by simp [e17], by simp [e24], by simp [e214], by simp [e215], by simp [e26], by simp [e27], by simp [e239], by simp [e240], by simp [e28], by simp [wrap_nat1 (show b < _ by omega)], by simpa using w0, by simpa using w1, by simpa using w2, hf⟩
                    · have hai' : ¬ (a : Int) = (i : Int) := by omega
                      simp [e3, e26, e27, e28, e29, hai, hai', i1, k1, a1, b1, hwd, hwu, hu2]
                      refine hN14 (b + 1) _ (by omega) ⟨by omega, by omega, by simp [e3], by simp [e15], by simp [e16], by simp [e17], by simp [e24], by simp [e214], by simp [e215], by simp [e26], by simp [e27], by simp [e239], by simp [e240], by simp [e28], by simp [wrap_nat1 (show b < _ by omega)], by simpa using w0, by simpa using w1, by simpa using w2, hf⟩
                · have : b = l.length := by omega
                  subst this
                  rw [rowF_n (Nat.le_refl _), List.nil_append] at hf
                  simp [e240, hwa]
                  refine hN12 (a + 1) _ (by omega) ⟨by omega, by simp [e3], by simp [e15], by simp [e16], by simp [e17], by simp [e24], by simp [e214], by simp [e215], by simp [e26], by simp [e27], by simp [e239], by simp, by simpa using w0, by simpa using w1, by simpa using w2, hf⟩
              · have : a = l.length := by omega
                subst this
                rw [resF_n (Nat.le_refl _)] at hf
                cases hf
          · have : k = l.length := by omega
            subst this
            rw [rowF_n (Nat.le_refl _), List.nil_append] at hf
            simp [e215, hwi]
            refine hN8 (i + 1) _ (by omega) ⟨by omega, by simp [e3], by simp [e15], by simp [e16], by simp [e17], by simp [e24], by simp [e214], by simp, by simpa using w0, by simpa using w1, by simpa using w2, hf⟩
        · have : i = l.length := by omega
          subst this
          rw [resF_n (Nat.le_refl _)] at hf
          exact absurd hf.symm hVn
theorem clear_typed (xs : List AV) (h : Typed [.sl (.int .u8)] xs) : PCall Try.prog 8 xs (.bool true) := by
  obtain ⟨x, rfl, h1⟩ := h.one
  obtain ⟨l, hl⟩ := IsU8.of h1
  exact p8 hl
end Go.Proofs.Ytokfmcjepkepjaa
