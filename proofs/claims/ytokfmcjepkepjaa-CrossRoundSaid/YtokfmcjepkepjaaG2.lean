/-
  Crosses that fall on others; binary search. Own work.
  The shifts at which just some crosses are seen. Own work.
  The shifts, after the reference. Own work.
  slices.Grow and slices.Concat. Own work.
  The places for one more cross. Own work.
  The places, after the reference. Own work.
  The first rule whose beginnings are all accepted: theory, and the walk with its jumps. Own work; the code's parts are printed from the code.
  The first rule whose beginnings are all accepted: the walk. Own work.
  Rules that grow: what is accepted, and the reference's search. Own work.
  The reference's search for shortest rules. Own work.
  What is accepted around a roller. Own work.
  The examples of the chapter hold: evaluated. Own work.
-/
import Derived.Test.YtokfmcjepkepjaaG1
set_option linter.unusedVariables false
set_option linter.unusedSimpArgs false
namespace Go.Proofs.Ytokfmcjepkepjaa
open Go Fw

def cntT (l : List Int) (s : Int) (i : Nat) : Nat := ((l.take i).map fun p => l.count (p + s)).sum
theorem cntT_c {l : List Int} {s : Int} {i : Nat} (h : i < l.length) : cntT l s (i + 1) = cntT l s i + l.count (l[i] + s) := by
  unfold cntT
  rw [take_snoc h, List.map_append, List.sum_append]; simp
theorem count_nodup {l : List Int} (h : l.Pairwise (· < ·)) (v : Int) : l.count v = if l.contains v = true then 1 else 0 := by
  induction l with
  | nil => simp
  | cons a l ih =>
    obtain ⟨h1, h2⟩ := List.pairwise_cons.1 h
    rw [List.count_cons, ih h2]
    by_cases e : a = v
    · subst e
      have : ¬ a ∈ l := fun hm => by have := h1 a hm; omega
      simp [this]
    · have : ¬ v = a := fun e' => e e'.symm
      simp [e, this]
theorem cntT_le {l : List Int} {s : Int} {i : Nat} (hi : i ≤ l.length) : cntT l s i ≤ i * l.length := by
  induction i with
  | zero => simp [cntT]
  | succ i ih =>
    rw [cntT_c (by omega)]
    have := ih (by omega)
    have h2 : l.count (l[i] + s) ≤ l.length := List.count_le_length
    rw [Nat.add_mul]; omega
def coE (l : List Int) (s : Int) : Int := if chkE l = 0 then (if btw (-60) s 60 = true then 0 else 4) else chkE l
def coR (l : List Int) (s : Int) : AV := .tup [.int .i64 (if coE l s = 0 then (cntT l s l.length : Int) else 0), .int .i64 (coE l s)]
theorem p26 {x : AV} {l : List Int} (hx : asI x = some l) (sh : Int) : PCall Try.prog 26 [x, .int .i64 sh] (coR l sh) := by
  obtain ⟨C, hC, k24, k54, k55⟩ : ∃ C, CtxOk Try.prog C ∧ C 24 [x] = some (.int .i64 (chkE l)) ∧ C 54 = SBtw ∧ ∀ v : Int, C 55 [x, .int .i64 v] = some (.bool (l.contains v)) :=
    ⟨_, (D0ok.pt (p24 hx)).fam (g := fun v : Int => [x, .int .i64 v]) (fun v => p55 hx v), by simp, by rw [← D0_54]; funext a; simp, fun v => fam_eq (g := fun v : Int => [x, .int .i64 v]) (r := fun v : Int => .bool (l.contains v)) (fun i j h => by simp at h; rw [h]) v⟩
  refine PCall.of hC ok26 (by simp) rfl fun hs' hb => ?_
  by_cases he : chkE l = 0
  rotate_left
  · have hE : coE l sh = chkE l := by rw [coE, if_neg he]
    simp [A26, R26, k24, he, coR, hE]
  by_cases hb2 : btw (-60) sh 60 = true
  rotate_left
  · have hE : coE l sh = 4 := by rw [coE, if_pos he, if_neg hb2]
    rw [Bool.not_eq_true] at hb2
    simp [A26, R26, k24, he, k54, hb2, coR, hE]
  have hE : coE l sh = 0 := by rw [coE, if_pos he, if_pos hb2]
  have hok := chkE_zero.1 he
  have h8 := hok.eight
  have hsb : -60 ≤ sh ∧ sh ≤ 60 := by simpa [btw] using hb2
  simp [A26, R26, k24, he, k54, hb2, coR, hE, alen_of hx]
  refine At.loop (fun (i : Nat) s => i ≤ l.length ∧ s.env 0 = x ∧ s.env 1 = .int .i64 sh ∧ s.env 7 = .int .i64 (cntT l sh i : Int) ∧ s.env 20 = x ∧ s.env 21 = .int .i64 (l.length : Int) ∧ s.env 22 = .int .i64 (i : Int)) (fun i => l.length - i) 0 ?_ ?_
  · simp [cntT]
  rintro N i s hN ⟨hi, e0, e1, e7, e20, e21, e22⟩
  simp [e21, e22]
  refine At.dec (fun hlt => ?_) (fun hlt => ?_)
  · have hi' : i < l.length := by omega
    have hbd := hok.bd l[i] (List.getElem_mem _)
    have hw : IntKind.i64.wrap (l[i] + sh) = l[i] + sh := wrap64 (by omega) (by omega)
    have hle := cntT_le (s := sh) (i := i) hi
    have hmul : i * l.length ≤ 8 * 8 := Nat.mul_le_mul (by omega) h8
    have hcn := count_nodup hok.asc (l[i] + sh)
    have hsu := cntT_c (s := sh) hi'
    rw [hcn] at hsu
    simp [e0, e1, e20, e22, aidx_nat hx hi', hw, k55]
    cases hc : l.contains (l[i] + sh) with
    | true =>
      rw [hc, if_pos rfl] at hsu
      have hc' : l[i] + sh ∈ l := by simpa using hc
      simp [hc', e7, e22, wrap_nat1 (show cntT l sh i < _ by omega)]
      refine hN (i + 1) _ (by omega) ⟨by omega, ?_⟩
      rw [hsu]
      simp [e0, e1, e20, e21, wrap_nat1 (show i < _ by omega)]
    | false =>
      rw [hc] at hsu
      simp only [Bool.false_eq_true, if_false, Nat.add_zero] at hsu
      have hc' : ¬ l[i] + sh ∈ l := by simpa using hc
      simp [hc', e22]
      refine hN (i + 1) _ (by omega) ⟨by omega, ?_⟩
      rw [hsu]
      simp [e0, e1, e7, e20, e21, wrap_nat1 (show i < _ by omega)]
  · have : i = l.length := by omega
    subst this
    simp [e7]
theorem p27 {x : AV} {l : List Int} (hx : asI x = some l) (sh : Int) : PCall Try.prog 27 [x, .int .i64 sh] (coR l sh) := by
  obtain ⟨C, hC, k25, k53⟩ : ∃ C, CtxOk Try.prog C ∧ C 25 [x] = some (.int .i64 (chkE l)) ∧ C 53 = SIs := ⟨_, D1ok.pt (p25 hx), by simp, by rw [← D1_53]; funext a; simp⟩
  refine PCall.of hC ok27 (by simp) rfl fun hs' hb => ?_
  by_cases he : chkE l = 0
  rotate_left
  · have hE : coE l sh = chkE l := by rw [coE, if_neg he]
    simp [A27, R27, k25, he, coR, hE]
  by_cases hb2 : btw (-60) sh 60 = true
  rotate_left
  · have hE : coE l sh = 4 := by rw [coE, if_pos he, if_neg hb2]
    rw [Bool.not_eq_true] at hb2
    simp [A27, R27, k25, he, k53, hb2, coR, hE]
  have hE : coE l sh = 0 := by rw [coE, if_pos he, if_pos hb2]
  have hok := chkE_zero.1 he
  have h8 := hok.eight
  have hsb : -60 ≤ sh ∧ sh ≤ 60 := by simpa [btw] using hb2
  simp [A27, R27, k25, he, k53, hb2, coR, hE]
  refine At.loop (fun (i : Nat) s => i ≤ l.length ∧ s.env 0 = x ∧ s.env 1 = .int .i64 sh ∧ s.env 7 = .int .i64 (cntT l sh i : Int) ∧ s.env 8 = .int .i64 (i : Int)) (fun i => l.length - i) 0 ?_ ?_
  · simp [cntT]
  rintro N i s hN ⟨hi, e0, e1, e7, e8⟩
  simp [e0, e8, alen_of hx]
  refine At.dec (fun hlt => ?_) (fun hlt => ?_)
  · have hi' : i < l.length := by omega
    have hbd := hok.bd l[i] (List.getElem_mem _)
    have hw : IntKind.i64.wrap (l[i] + sh) = l[i] + sh := wrap64 (by omega) (by omega)
    have hle := cntT_le (s := sh) (i := i) hi
    have hmul : i * l.length ≤ 8 * 8 := Nat.mul_le_mul (by omega) h8
    have hsu := cntT_c (s := sh) hi'
    simp [e8]
    refine At.loop (fun (k : Nat) s => k ≤ l.length ∧ s.env 0 = x ∧ s.env 1 = .int .i64 sh ∧ s.env 7 = .int .i64 ((cntT l sh i + (l.take k).count (l[i] + sh) : Nat) : Int) ∧ s.env 8 = .int .i64 (i : Int) ∧ s.env 9 = .int .i64 (k : Int)) (fun k => l.length - k) 0 ?_ ?_
    · simp [e0, e1, e7, e8]
    rintro N2 k s hN2 ⟨hk, e0, e1, e7, e8, e9⟩
    simp [e0, e9, alen_of hx]
    refine At.dec (fun hlt2 => ?_) (fun hlt2 => ?_)
    · have hk' : k < l.length := by omega
      have hcl : (l.take k).count (l[i] + sh) ≤ k := Nat.le_trans List.count_le_length (by simp; omega)
      have hcs : (l.take (k + 1)).count (l[i] + sh) = (l.take k).count (l[i] + sh) + if l[k] = l[i] + sh then 1 else 0 := by
        rw [take_snoc hk', List.count_append]; simp [List.count_cons, beq_iff_eq]
      simp [e0, e1, e8, e9, aidx_nat hx hi', aidx_nat hx hk', hw]
      refine At.dec (fun hq => ?_) (fun hq => ?_)
      · rw [if_pos hq.symm] at hcs
        have := wrap_nat1 (show cntT l sh i + (l.take k).count (l[i] + sh) < _ by omega)
        simp [e7, e9]
        refine hN2 (k + 1) _ (by omega) ⟨by omega, ?_⟩
        rw [hcs]
        simp at this
        simp [e0, e1, e8, wrap_nat1 (show k < _ by omega), this]
        omega
      · rw [if_neg (fun h => hq h.symm), Nat.add_zero] at hcs
        simp [e9]
        refine hN2 (k + 1) _ (by omega) ⟨by omega, ?_⟩
        rw [hcs]
        simp [e0, e1, e7, e8, wrap_nat1 (show k < _ by omega)]
    · have : k = l.length := by omega
      subst this
      rw [List.take_length, ← hsu] at e7
      simp [e8]
      refine hN (i + 1) _ (by omega) ⟨by omega, ?_⟩
      simp [e0, e1, e7, wrap_nat1 (show i < _ by omega)]
  · have : i = l.length := by omega
    subst this
    simp [e7]
/-! binary search -/
def ltN (l : List Int) (v : Int) : Nat := l.countP fun n => decide (n < v)
theorem ltN_of {l : List Int} {v : Int} {m : Nat} (hm : m ≤ l.length) (h1 : ∀ j (h : j < l.length), j < m → l[j] < v) (h2 : ∀ j (h : j < l.length), m ≤ j → ¬ l[j] < v) : ltN l v = m := by
  unfold ltN
  have e : l = l.take m ++ l.drop m := (List.take_append_drop m l).symm
  rw [e, List.countP_append]
  have a1 : (l.take m).countP (fun n => decide (n < v)) = (l.take m).length := by
    rw [List.countP_eq_length]
    intro n hn
    obtain ⟨j, hj, rfl⟩ := List.getElem_of_mem hn
    simp only [List.length_take] at hj
    rw [List.getElem_take]
    simpa using h1 j (by omega) (by omega)
  have a2 : (l.drop m).countP (fun n => decide (n < v)) = 0 := by
    rw [List.countP_eq_zero]
    intro n hn
    obtain ⟨j, hj, rfl⟩ := List.getElem_of_mem hn
    simp only [List.length_drop] at hj
    rw [List.getElem_drop]
    simpa using h2 (m + j) (by omega) (by omega)
  rw [a1, a2]; simp; omega
theorem p56 {x : AV} {l : List Int} (hx : asI x = some l) (hasc : l.Pairwise (· < ·)) (hl : l.length ≤ 1000) (v : Int) : PCall Try.prog 56 [x, .int .i64 v] (.tup [.int .i64 (ltN l v : Int), .bool (l.contains v)]) := by
  refine PCall.of D1ok ok56 (by simp) rfl fun hs' hb => ?_
  have mono : ∀ i j (hi : i < l.length) (hj : j < l.length), i ≤ j → l[i] ≤ l[j] := fun i j hi hj hij => by
    rcases Nat.lt_or_ge i j with h | h
    · have := List.pairwise_iff_getElem.1 hasc i j hi hj h; omega
    · have : i = j := by omega
      subst this; omega
  simp [A56, R56, alen_of hx]
  refine At.loop (fun (w : Nat × Nat) s => w.1 ≤ w.2 ∧ w.2 ≤ l.length ∧ s.env 0 = x ∧ s.env 1 = .int .i64 v ∧ s.env 6 = .int .i64 (l.length : Int) ∧ s.env 7 = .int .i64 (w.1 : Int) ∧ s.env 8 = .int .i64 (w.2 : Int) ∧ (∀ j (h : j < l.length), j < w.1 → l[j] < v) ∧ (∀ j (h : j < l.length), w.2 ≤ j → ¬ l[j] < v)) (fun w => w.2 - w.1) (0, l.length) ?_ ?_
  · simp
    intro j h hj; omega
  rintro N ⟨lo, hi⟩ s hN ⟨hle, hhl, e0, e1, e6, e7, e8, g1, g2⟩
  simp only at hle hhl e7 e8 g1 g2
  simp [e7, e8]
  refine At.dec (fun hlt => ?_) (fun hlt => ?_)
  · have hlt' : lo < hi := by omega
    obtain ⟨m, hm⟩ : ∃ m, m = (lo + hi) / 2 := ⟨_, rfl⟩
    have hml : m < l.length := by omega
    have hw1 : IntKind.i64.wrap ((lo : Int) + (hi : Int)) = ((lo + hi : Nat) : Int) := by rw [wrap64 (by omega) (by omega)]; omega
    have hw2 : IntKind.u64.wrap ((lo + hi : Nat) : Int) = ((lo + hi : Nat) : Int) := by
      have : IntKind.u64.wrap ((lo + hi : Nat) : Int) = ((lo + hi : Nat) : Int) % 18446744073709551616 := by simp [IntKind.wrap, IntKind.bits, IntKind.signed]
      rw [this]; omega
    have hsh : abin 0 .shr (.int .u64 ((lo + hi : Nat) : Int)) (.int .u64 1) = some (.int .u64 (m : Int)) := by
      rw [abin_shr (by omega)]
      congr 2
      have h2 : ((2 : Int) ^ min (Int.toNat 1) IntKind.u64.bits) = 2 := by decide
      rw [h2, Int.fdiv_eq_ediv_of_nonneg _ (by omega), hm]
      omega
    have hw3 : IntKind.i64.wrap (m : Int) = (m : Int) := wrap_nat (by omega)
    have hsh2 := hsh
    simp only [Int.natCast_add] at hsh hw1 hw2
    simp [e0, e1, e7, e8, hw1, hw2, hsh, hw3, aidx_nat hx hml]
    refine At.dec (fun hv => ?_) (fun hv => ?_)
    · simp
      refine hN (m + 1, hi) _ (by simp only; omega) ⟨by simp only; omega, hhl, by simp [e0], by simp [e1], by simp [e6], by simp [wrap_nat1 (show m < _ by omega)], by simp [e8], fun j h hj => ?_, fun j h hj => g2 j h hj⟩
      have := mono j m h hml (by simp only at hj; omega)
      omega
    · simp
      refine hN (lo, m) _ (by simp only; omega) ⟨by simp only; omega, by simp only; omega, by simp [e0], by simp [e1], by simp [e6], by simp [e7], by simp, fun j h hj => g1 j h hj, fun j h hj => ?_⟩
      have := mono m j hml h hj
      omega
  · have : lo = hi := by omega
    subst this
    have hN1 := ltN_of hhl g1 g2
    simp [e6, e7]
    by_cases hll : lo < l.length
    · have hc : l.contains v = decide (l[lo] = v) := by
        rw [Bool.eq_iff_iff]
        simp only [List.contains_iff_mem, decide_eq_true_eq]
        constructor
        · intro hm
          obtain ⟨j, hj, rfl⟩ := List.getElem_of_mem hm
          have : lo ≤ j := by
            apply Classical.byContradiction
            intro h
            have := g1 j hj (by omega); omega
          have h1 := mono lo j hll hj this
          have h2 := g2 lo hll (Nat.le_refl _)
          omega
        · intro h; rw [← h]; exact List.getElem_mem _
      have hc' : (v ∈ l) = (l[lo] = v) := by
        have := hc
        rw [Bool.eq_iff_iff] at this
        simpa using this
      have hll' : ((lo : Int) < (l.length : Int)) := by omega
      by_cases hv : l[lo] = v
      · simp [e0, e1, e7, hll, hll', aidx_nat hx hll, hv, hN1, hc']
      · simp [e0, e1, e7, hll, hll', aidx_nat hx hll, hv, hN1, hc']
    · have hc : ¬ v ∈ l := by
        intro hm
        obtain ⟨j, hj, rfl⟩ := List.getElem_of_mem hm
        have := g1 j hj (by omega); omega
      have hll' : ¬ ((lo : Int) < (l.length : Int)) := by omega
      simp [hll, hll', hN1, hc]
end Go.Proofs.Ytokfmcjepkepjaa
set_option linter.unusedVariables false
set_option linter.unusedSimpArgs false
namespace Go.Proofs.Ytokfmcjepkepjaa
open Go Fw

theorem q57 {x y : AV} {l m : List Int} (hx : asI x = some l) (hy : asI y = some m) {q : Nat} {sh : Int} (hsh : -1000 ≤ sh ∧ sh ≤ 1000) (hm : ∀ n ∈ m, -1000 ≤ n ∧ n ≤ 1000) {hs : HS} (hq : hs.heap q = some [.int .i64 sh]) :
    FCall Try.prog 57 [x, y, .fn (.func 58) [] [.ref q 0]] hs fun e hs' => e = .ret (.bool (decide (l = m.map fun n => n + sh))) ∧ hs' = hs := by
  have hll := asI_len hx
  refine FCall.of_body D1ok ok57 (by simp) (At.i ?_)
  by_cases hlm : l.length = m.length
  rotate_left
  · have h1 : ¬ ((l.length : Int) = (m.length : Int)) := by omega
    have h2 : ¬ l = m.map fun n => n + sh := fun h => hlm (by rw [h]; simp)
    simp [A57, R57, alen_of hx, alen_of hy, hlm, h1, h2]
  simp [A57, R57, alen_of hx, alen_of hy, hlm]
  refine At.loop (fun (i : Nat) s => i ≤ l.length ∧ s.env 0 = x ∧ s.env 1 = y ∧ s.env 2 = .fn (.func 58) [] [.ref q 0] ∧ s.env 15 = x ∧ s.env 16 = .int .i64 (l.length : Int) ∧ s.env 17 = .int .i64 (i : Int) ∧ s.hs = hs ∧ ∀ j (h : j < l.length) (h' : j < m.length), j < i → l[j] = m[j] + sh) (fun i => l.length - i) 0 ?_ ?_
  · simp [hlm]
  rintro N i s hN ⟨hi, e0, e1, e2, e15, e16, e17, eh, hno⟩
  simp [e16, e17]
  refine At.dec (fun hlt => ?_) (fun hlt => ?_)
  · have hi' : i < l.length := by omega
    have hi2 : i < m.length := by omega
    simp [e1, e2, e15, e17, aidx_nat hx hi', aidx_nat hy hi2]
    have hb := hm m[i] (List.getElem_mem _)
    have hw : IntKind.i64.wrap (m[i] + sh) = m[i] + sh := wrap64 (by omega) (by omega)
    refine At.hc (R := fun e hs' => e = .ret (.bool (decide (l[i] = m[i] + sh))) ∧ hs' = hs) ?_ ?_ (fun v hs' h => by cases h.1)
    · refine FCall.of_body D1ok ok58 (by simp) (At.i ?_)
      simp [A58, R58, la, eh, hq, apart, hw]
    rintro v hs2 ⟨hv, rfl⟩
    injection hv with hv; subst hv
    by_cases hv : l[i] = m[i] + sh
    · simp [hv, e17]
      refine hN (i + 1) _ (by omega) ⟨by omega, by simp [e0], by simp [e1], by simp [e2], by simp [e15], by simp [e16], by simp [wrap_nat1 (show i < _ by omega)], by simp, fun j h h' hj => ?_⟩
      by_cases hji : j = i
      · subst hji; exact hv
      · exact hno j h h' (by omega)
    · have : ¬ l = m.map fun n => n + sh := fun h => hv (by simp [h])
      simp [hv, this]
  · have : l = m.map fun n => n + sh := List.ext_getElem (by simp [hlm]) fun j h h' => by simpa using hno j h (by omega) (by omega)
    simp [← this, eh]
/-- what is seen of a rule -/
def winL (l : List Int) (s w : Int) : List Int := l.filter fun p => btw s p (s + w)
theorem take_lt (v : Int) : ∀ {l : List Int}, l.Pairwise (· < ·) → l.take (ltN l v) = l.filter fun n => decide (n < v)
  | [], _ => rfl
  | a :: l, h => by
    obtain ⟨h1, h2⟩ := List.pairwise_cons.1 h
    have ih := take_lt v h2
    unfold ltN at ih ⊢
    by_cases ha : a < v
    · rw [List.countP_cons_of_pos (by simpa using ha), List.take_succ_cons, ih, List.filter_cons_of_pos (by simpa using ha)]
    · have hn : ∀ n ∈ l, ¬ n < v := fun n hn => by have := h1 n hn; omega
      have e1 : l.countP (fun n => decide (n < v)) = 0 := by rw [List.countP_eq_zero]; intro n hn'; simpa using hn n hn'
      have e2 : l.filter (fun n => decide (n < v)) = [] := by rw [List.filter_eq_nil_iff]; intro n hn'; simpa using hn n hn'
      rw [List.countP_cons_of_neg (by simpa using ha), List.filter_cons_of_neg (by simpa using ha), e1, e2]; rfl
theorem drop_lt (v : Int) : ∀ {l : List Int}, l.Pairwise (· < ·) → l.drop (ltN l v) = l.filter fun n => !decide (n < v)
  | [], _ => rfl
  | a :: l, h => by
    obtain ⟨h1, h2⟩ := List.pairwise_cons.1 h
    have ih := drop_lt v h2
    unfold ltN at ih ⊢
    by_cases ha : a < v
    · rw [List.countP_cons_of_pos (by simpa using ha), List.drop_succ_cons, ih, List.filter_cons_of_neg (by simpa using ha)]
    · have hn : ∀ n ∈ l, ¬ n < v := fun n hn => by have := h1 n hn; omega
      have e1 : l.countP (fun n => decide (n < v)) = 0 := by rw [List.countP_eq_zero]; intro n hn'; simpa using hn n hn'
      have e2 : l.filter (fun n => !decide (n < v)) = l := by rw [List.filter_eq_self]; intro n hn'; simpa using hn n hn'
      rw [List.countP_cons_of_neg (by simpa using ha), List.filter_cons_of_pos (by simpa using ha), e1, e2]; rfl
theorem win_eq {l : List Int} (h : l.Pairwise (· < ·)) {s w : Int} (hw : 0 ≤ w) : (l.take (ltN l (s + w + 1))).drop (ltN l s) = winL l s w := by
  have hs : (l.filter fun n => decide (n < s + w + 1)).Pairwise (· < ·) := h.filter _
  have e : ltN l s = ltN (l.filter fun n => decide (n < s + w + 1)) s := by
    unfold ltN
    rw [List.countP_filter]
    congr 1
    funext n
    rw [Bool.eq_iff_iff]
    simp; omega
  rw [take_lt _ h, e, drop_lt _ hs, List.filter_filter]
  unfold winL btw
  congr 1
  funext n
  rw [Bool.eq_iff_iff]
  simp; omega
theorem ltN_le (l : List Int) (v : Int) : ltN l v ≤ l.length := List.countP_le_length
theorem ltN_mono (l : List Int) {u v : Int} (h : u ≤ v) : ltN l u ≤ ltN l v := by
  unfold ltN
  refine List.countP_mono_left fun n _ hn => ?_
  simp at hn ⊢; omega
theorem slice_sub {x : AV} {l : List Int} (hx : asI x = some l) {a b : Nat} (h1 : a ≤ b) (h2 : b ≤ l.length) : ∃ y, aslice 1 x (some (.int .i64 (a : Int))) (some (.int .i64 (b : Int))) none = some y ∧ asI y = some ((l.take b).drop a) := by
  have hl := asI_len hx
  rcases asI_inv hx with ⟨rfl, rfl⟩ | ⟨c, rfl⟩
  · have : b = 0 := by simpa using h2
    subst this
    have : a = 0 := by omega
    subst this
    exact ⟨.nilsl, rfl, rfl⟩
  · refine ⟨.sl 1 (((ints l).take b).drop a) .shared, ?_, ?_⟩
    · simp only [aslice, aidx, if_true, asliceL]
      rw [if_pos ⟨by omega, by omega, by simp [ints]; omega⟩]
      simp
    · have : ((ints l).take b).drop a = ints ((l.take b).drop a) := by simp [ints, List.map_take, List.map_drop]
      rw [this]
      exact asI_sl (by simp; omega)
def locP (l : List Int) (s w : Int) (m : List Int) : Bool := decide (winL l s w = m.map fun n => n + s)
theorem locP_eq (l : List Int) (s w : Int) (m : List Int) : locP l s w m = decide ((winL l s w).map (fun p => p - s) = m) := by
  unfold locP
  congr 1
  refine propext ⟨fun h => ?_, fun h => ?_⟩
  · rw [h, List.map_map]
    have : ((fun p : Int => p - s) ∘ fun n => n + s) = id := by funext n; simp
    rw [this, List.map_id]
  · rw [← h, List.map_map]
    have : ((fun n : Int => n + s) ∘ fun p => p - s) = id := by funext n; simp
    rw [this, List.map_id]
def loF (l : List Int) (w : Int) (m : List Int) (k : Nat) : List Int := ((List.range' k (121 - k)).filter fun (k : Nat) => locP l ((k : Int) - 60) w m).map fun (k : Nat) => (k : Int) - 60
def loL (l : List Int) (w : Int) (m : List Int) : List Int := loF l w m 0
theorem loF_c {l : List Int} {w : Int} {m : List Int} {k : Nat} (h : k < 121) : loF l w m k = if locP l ((k : Int) - 60) w m = true then ((k : Int) - 60) :: loF l w m (k + 1) else loF l w m (k + 1) := by
  unfold loF
  rw [show 121 - k = (121 - (k + 1)) + 1 by omega, List.range'_succ, List.filter_cons]
  split
  · rfl
  · rfl
theorem loF_n {l : List Int} {w : Int} {m : List Int} {k : Nat} (h : 121 ≤ k) : loF l w m k = [] := by
  unfold loF
  rw [show 121 - k = 0 by omega]; rfl
def loE (l : List Int) (w : Int) (m : List Int) : Int := if chkE l = 0 then (if btw 0 w 60 = true then ascE 0 w (-1) m else 4) else chkE l
def loR (l : List Int) (w : Int) (m : List Int) : AV := if loE l w m = 0 then .tup [outV 1 (ints (loL l w m)), .int .i64 0] else .tup [.nilsl, .int .i64 (loE l w m)]
theorem loR_plain (l : List Int) (w : Int) (m : List Int) : (loR l w m).plain = true := by
  unfold loR
  split
  · simp only [AV.plain, plainL, outI_plain, Bool.and_self]
  · rfl
theorem p28 {x y : AV} {l m : List Int} (hx : asI x = some l) (hy : asI y = some m) (w : Int) : PCall Try.prog 28 [x, .int .i64 w, y] (loR l w m) := by
  have hpl := loR_plain l w m
  by_cases he : chkE l = 0
  rotate_left
  · obtain ⟨C, hC, k24⟩ : ∃ C, CtxOk Try.prog C ∧ C 24 [x] = some (.int .i64 (chkE l)) := ⟨_, CtxOk.nil.pt (p24 hx), by simp⟩
    refine PCall.of hC ok28 (by simp) hpl fun hs' hb => ?_
    have hE : loE l w m = chkE l := by rw [loE, if_neg he]
    have hR : loR l w m = .tup [.nilsl, .int .i64 (chkE l)] := by rw [loR, hE, if_neg he]
    rw [hR]
    simp [A28, R28, k24, he]
  have hok := chkE_zero.1 he
  have h8 := hok.eight
  obtain ⟨C, hC, k24, k54, k52, k56⟩ : ∃ C, CtxOk Try.prog C ∧ C 24 [x] = some (.int .i64 (chkE l)) ∧ C 54 = SBtw ∧ C 52 [y, .int .i64 0, .int .i64 w] = some (.int .i64 (ascE 0 w (-1) m)) ∧ ∀ v : Int, C 56 [x, .int .i64 v] = some (.tup [.int .i64 (ltN l v : Int), .bool (l.contains v)]) :=
    ⟨_, ((D0ok.pt (p24 hx)).pt (p52 (lo := 0) (hi := w) hy (by omega))).fam (g := fun v : Int => [x, .int .i64 v]) (fun v => p56 hx hok.asc (by omega) v), by simp, by rw [← D0_54]; funext a; simp, by simp, fun v => fam_eq (g := fun v : Int => [x, .int .i64 v]) (r := fun v : Int => .tup [.int .i64 (ltN l v : Int), .bool (l.contains v)]) (fun i j h => by simp at h; rw [h]) v⟩
  refine PCall.of hC ok28 (by simp) hpl fun hs' hb => ?_
  by_cases hb2 : btw 0 w 60 = true
  rotate_left
  · have hE : loE l w m = 4 := by rw [loE, if_pos he, if_neg hb2]
    have hR : loR l w m = .tup [.nilsl, .int .i64 4] := by rw [loR, hE, if_neg (by decide)]
    rw [hR]
    rw [Bool.not_eq_true] at hb2
    simp [A28, R28, k24, he, k54, hb2]
  have hwb : 0 ≤ w ∧ w ≤ 60 := by simpa [btw] using hb2
  by_cases ha : ascE 0 w (-1) m = 0
  rotate_left
  · have hE : loE l w m = ascE 0 w (-1) m := by rw [loE, if_pos he, if_pos hb2]
    have hR : loR l w m = .tup [.nilsl, .int .i64 (ascE 0 w (-1) m)] := by rw [loR, hE, if_neg ha]
    rw [hR]
    simp [A28, R28, k24, he, k54, hb2, k52, ha]
  have hE : loE l w m = 0 := by rw [loE, if_pos he, if_pos hb2, ha]
  have hR : loR l w m = .tup [outV 1 (ints (loL l w m)), .int .i64 0] := by rw [loR, if_pos hE]
  rw [hR]
  have hmb : ∀ n ∈ m, -1000 ≤ n ∧ n ≤ 1000 := fun n hn => by have := (ascE_zero.1 ha).1 n hn; omega
  generalize hr : hs'.nh = r
  simp [A28, R28, k24, he, k54, hb2, k52, ha, hr, astore, si, ci, setL]
  refine At.loop (fun (k : Nat) s => k ≤ 121 ∧ s.env 0 = x ∧ s.env 1 = .int .i64 w ∧ s.env 2 = y ∧ ∃ q A, s.env 11 = .ref q 0 ∧ s.hs.heap q = some [.int .i64 ((k : Int) - 60)] ∧ q < s.hs.nh ∧ Outs 1 s.hs (s.env 10) (ints A) ∧ A.length ≤ k ∧ A ++ loF l w m k = loL l w m) (fun k => 121 - k) 0 ?_ ?_
  · exact ⟨by omega, by simp, by simp, by simp, r, [], by simp, by simp, by simp, by simp; exact .nil, by simp, rfl⟩
  rintro N k s hN ⟨hk, e0, e1, e2, q, A, e11, w11, hqn, hO, hAl, hA⟩
  simp [e11, la, w11, apart]
  refine At.dec (fun hlt => ?_) (fun hlt => ?_)
  · have hk' : k < 121 := by omega
    obtain ⟨sh, hsh⟩ : ∃ sh : Int, sh = (k : Int) - 60 := ⟨_, rfl⟩
    rw [loF_c hk'] at hA
    rw [← hsh] at hA w11 ⊢
    have hw1 : IntKind.i64.wrap (sh + w) = sh + w := wrap64 (by omega) (by omega)
    have hw2 : IntKind.i64.wrap (sh + w + 1) = sh + w + 1 := wrap64 (by omega) (by omega)
    have hw3 : IntKind.i64.wrap (sh + 1) = ((k + 1 : Nat) : Int) - 60 := by rw [wrap64 (by omega) (by omega)]; omega
    obtain ⟨z, hz1, hz2⟩ := slice_sub hx (a := ltN l sh) (b := ltN l (sh + w + 1)) (ltN_mono l (by omega)) (ltN_le _ _)
    rw [win_eq hok.asc hwb.1] at hz2
    have hcall := q57 hz2 hy (sh := sh) (by omega) hmb w11
    have hnq : ¬ q = s.hs.nh := by omega
    simp [e0, e1, e2, e11, la, w11, apart, k56, hw1, hw2, hz1]
    refine At.hc hcall ?_ (fun v hs' h => by cases h.1)
    rintro v hs2 ⟨hv, rfl⟩
    injection hv with hv; subst hv
    cases hP : locP l sh w m with
    | true =>
      rw [hP, if_pos rfl] at hA
      have hP' : winL l sh w = m.map fun n => n + sh := by simpa [locP] using hP
      simp [hP', e11, la, w11, apart, astoAll, si]
      refine At.app1 hO (by omega) fun y2 hs3 o1 m1 _ => ?_
      have z1 := m1.nh
      simp [e11, la, m1.heap, w11, apart, astore, si, ci, setL, hw3]
      refine hN (k + 1) _ (by omega) ⟨by omega, by simp [e0], by simp [e1], by simp [e2], hs3.nh, A ++ [sh], by simp, by simp, by simp, ?_, by simp; omega, by simpa using hA⟩
      have o2 : Outs 1 hs3 y2 (ints A ++ [.int .i64 sh]) := by simpa [ints] using o1
      simp
      exact o2.cong rfl rfl
    | false =>
      rw [hP] at hA
      simp only [Bool.false_eq_true, if_false] at hA
      have hP' : ¬ winL l sh w = m.map fun n => n + sh := by simpa [locP] using hP
      simp [hP', e11, la, w11, apart, astore, si, ci, setL, hw3]
      refine hN (k + 1) _ (by omega) ⟨by omega, by simp [e0], by simp [e1], by simp [e2], s.hs.nh, A, by simp, by simp, by simp, ?_, by omega, hA⟩
      simp
      exact hO.cong rfl rfl
  · rw [loF_n (by omega), List.append_nil] at hA
    subst hA
    simp [hO.sh]
end Go.Proofs.Ytokfmcjepkepjaa
set_option linter.unusedVariables false
set_option linter.unusedSimpArgs false
namespace Go.Proofs.Ytokfmcjepkepjaa
open Go Fw

theorem p29 {x y : AV} {l m : List Int} (hx : asI x = some l) (hy : asI y = some m) (w : Int) : PCall Try.prog 29 [x, .int .i64 w, y] (loR l w m) := by
  have hpl := loR_plain l w m
  have hll := asI_len hx
  have hml := asI_len hy
  obtain ⟨C, hC, k25, k53⟩ : ∃ C, CtxOk Try.prog C ∧ C 25 [x] = some (.int .i64 (chkE l)) ∧ C 53 = SIs := ⟨_, D1ok.pt (p25 hx), by simp, by rw [← D1_53]; funext a; simp⟩
  refine PCall.of hC ok29 (by simp) hpl fun hs' hb => ?_
  by_cases he : chkE l = 0
  rotate_left
  · have hE : loE l w m = chkE l := by rw [loE, if_neg he]
    have hR : loR l w m = .tup [.nilsl, .int .i64 (chkE l)] := by rw [loR, hE, if_neg he]
    rw [hR]
    simp [A29, R29, k25, he]
  have hok := chkE_zero.1 he
  have h8 := hok.eight
  by_cases hb2 : btw 0 w 60 = true
  rotate_left
  · have hE : loE l w m = 4 := by rw [loE, if_pos he, if_neg hb2]
    have hR : loR l w m = .tup [.nilsl, .int .i64 4] := by rw [loR, hE, if_neg (by decide)]
    rw [hR]
    rw [Bool.not_eq_true] at hb2
    simp [A29, R29, k25, he, k53, hb2]
  have hwb : 0 ≤ w ∧ w ≤ 60 := by simpa [btw] using hb2
  have hE : loE l w m = ascE 0 w (-1) m := by rw [loE, if_pos he, if_pos hb2]
  simp [A29, R29, k25, he, k53, hb2]
  refine At.loop (fun (i : Nat) s => i ≤ m.length ∧ s.env 0 = x ∧ s.env 1 = .int .i64 w ∧ s.env 2 = y ∧ s.env 9 = .int .i64 (i : Int) ∧ ∃ last : Int, (i = 0 → last = -1) ∧ (∀ j (h : j < m.length), i = j + 1 → last = m[j]) ∧ ascE 0 w (-1) m = ascE 0 w last (m.drop i)) (fun i => m.length - i) 0 ?_ ?_
  · exact ⟨by simp, by simp, by simp, by simp, by simp, -1, fun _ => rfl, fun j h hj => by omega, rfl⟩
  rintro N i s hN ⟨hi0, e0, e1, e2, e9, last, hl0, hl1, hr⟩
  simp [e2, e9, alen_of hy]
  refine At.dec (fun hlt => ?_) (fun hlt => ?_)
  · have hi' : i < m.length := by omega
    rw [List.drop_eq_getElem_cons hi'] at hr
    simp only [ascE] at hr
    simp [e1, e2, e9, aidx_nat hy hi', k53]
    cases hbt : btw 0 m[i] w with
    | false =>
      rw [hbt] at hr
      simp only [Bool.false_eq_true, if_false] at hr
      have hR : loR l w m = .tup [.nilsl, .int .i64 4] := by rw [loR, hE, hr, if_neg (by decide)]
      simp [hR]
    | true =>
      rw [hbt] at hr
      simp only [if_true] at hr
      have hb3 : 0 ≤ m[i] := by simp [btw] at hbt; exact hbt.1
      cases i with
      | zero =>
        have : ¬ m[0] ≤ last := by rw [hl0 rfl]; omega
        rw [if_neg this] at hr
        simp [e9]
        refine hN 1 _ (by omega) ⟨by omega, by simp [e0], by simp [e1], by simp [e2], by simp [show IntKind.i64.wrap 1 = 1 by decide], m[0], by simp, fun j h hj => (by obtain rfl : j = 0 := (by omega); rfl), hr⟩
      | succ k =>
        have hk : k < m.length := by omega
        have hla := hl1 k hk rfl
        have hw : IntKind.i64.wrap (k : Int) = (k : Int) := wrap_nat (by omega)
        have hpos : (0 : Int) < (k : Int) + 1 := by omega
        have hix := aidx_nat hy hi' (k := .i64)
        have hix2 := aidx_nat hy hk (k := .i64)
        rw [show ((k + 1 : Nat) : Int) = (k : Int) + 1 by omega] at hix
        by_cases hle : m[k + 1] ≤ last
        · rw [if_pos hle] at hr
          have hR : loR l w m = .tup [.nilsl, .int .i64 7] := by rw [loR, hE, hr, if_neg (by decide)]
          rw [hla] at hle
          simp [e2, e9, hpos, hw, hix, hix2, hle, hR]
        · rw [if_neg hle] at hr
          rw [hla] at hle
          simp [e2, e9, hpos, hw, hix, hix2, hle]
          refine hN (k + 2) _ (by omega) ⟨by omega, by simp [e0], by simp [e1], by simp [e2], ?_, m[k + 1], by simp, fun j h hj => (by obtain rfl : j = k + 1 := (by omega); rfl), hr⟩
          have := wrap_nat1 (show k + 1 < _ by omega)
          rw [show ((k + 1 : Nat) : Int) = (k : Int) + 1 by omega] at this
          simp [this]
          omega
  have hie : i = m.length := by omega
  subst hie
  rw [List.drop_length] at hr
  have ha : ascE 0 w (-1) m = 0 := by rw [hr, ascE]
  rw [ha] at hE
  have hR : loR l w m = .tup [outV 1 (ints (loL l w m)), .int .i64 0] := by rw [loR, if_pos hE]
  rw [hR]
  clear hr hl0 hl1 hN
  simp
  refine At.loop (fun (k : Nat) s => k ≤ 121 ∧ s.env 0 = x ∧ s.env 1 = .int .i64 w ∧ s.env 2 = y ∧ s.env 11 = .int .i64 ((k : Int) - 60) ∧ ∃ A, Outs 1 s.hs (s.env 10) (ints A) ∧ A.length ≤ k ∧ A ++ loF l w m k = loL l w m) (fun k => 121 - k) 0 ?_ ?_
  · exact ⟨by omega, by simp [e0], by simp [e1], by simp [e2], by simp, [], by simp; exact .nil, by simp, rfl⟩
  rintro N k s hN ⟨hk, e0, e1, e2, e11, A, hO, hAl, hA⟩
  simp [e11]
  refine At.dec (fun hlt => ?_) (fun hlt => ?_)
  · have hk' : k < 121 := by omega
    obtain ⟨sh, hsh⟩ : ∃ sh : Int, sh = (k : Int) - 60 := ⟨_, rfl⟩
    rw [loF_c hk'] at hA
    rw [← hsh] at hA e11
    have hw1 : IntKind.i64.wrap (sh + w) = sh + w := wrap64 (by omega) (by omega)
    have hw3 : IntKind.i64.wrap (sh + 1) = ((k + 1 : Nat) : Int) - 60 := by rw [wrap64 (by omega) (by omega)]; omega
    simp
    refine At.loop (fun (i : Nat) s => i ≤ l.length ∧ s.env 0 = x ∧ s.env 1 = .int .i64 w ∧ s.env 2 = y ∧ s.env 11 = .int .i64 sh ∧ s.env 13 = .int .i64 (i : Int) ∧ Outs 1 s.hs (s.env 10) (ints A) ∧ ∃ S, Outs 1 s.hs (s.env 12) (ints S) ∧ Apart (s.env 12) (s.env 10) ∧ S.length ≤ i ∧ S ++ (winL (l.drop i) sh w).map (fun p => p - sh) = (winL l sh w).map (fun p => p - sh)) (fun i => l.length - i) 0 ?_ ?_
    · exact ⟨by omega, by simp [e0], by simp [e1], by simp [e2], by simp [e11], by simp, by simpa using hO, [], by simp; exact .nil, by simp, by simp, rfl⟩
    rintro N2 i s hN2 ⟨hi, e0, e1, e2, e11, e13, hO, S, hS, hap, hSl, hSe⟩
    simp [e0, e13, alen_of hx]
    refine At.dec (fun hlt2 => ?_) (fun hlt2 => ?_)
    · have hi' : i < l.length := by omega
      have hbd := hok.bd l[i] (List.getElem_mem _)
      rw [List.drop_eq_getElem_cons hi'] at hSe
      simp [e0, e1, e11, e13, aidx_nat hx hi', hw1, k53]
      cases hbt : btw sh l[i] (sh + w) with
      | true =>
        have e : winL (l[i] :: l.drop (i + 1)) sh w = l[i] :: winL (l.drop (i + 1)) sh w := by unfold winL; rw [List.filter_cons_of_pos (p := fun p => btw sh p (sh + w)) hbt]
        rw [e] at hSe
        have hw4 : IntKind.i64.wrap (l[i] - sh) = l[i] - sh := wrap64 (by omega) (by omega)
        simp [e0, e11, e13, aidx_nat hx hi', hw4, astoAll, si]
        refine At.app1 hS (by omega) fun y2 hs3 o1 m1 t1 => ?_
        obtain ⟨g1, g2⟩ := t1 hO hap
        simp [e13]
        refine hN2 (i + 1) _ (by omega) ⟨by omega, by simp [e0], by simp [e1], by simp [e2], by simp [e11], by simp [wrap_nat1 (show i < _ by omega)], by simpa using g1, S ++ [l[i] - sh], by simpa using o1, by simpa using g2, by simp; omega, by simpa using hSe⟩
      | false =>
        have e : winL (l[i] :: l.drop (i + 1)) sh w = winL (l.drop (i + 1)) sh w := by unfold winL; rw [List.filter_cons_of_neg (by simp [hbt])]
        rw [e] at hSe
        simp [e13]
        refine hN2 (i + 1) _ (by omega) ⟨by omega, by simp [e0], by simp [e1], by simp [e2], by simp [e11], by simp [wrap_nat1 (show i < _ by omega)], by simpa using hO, S, by simpa using hS, by simpa using hap, by omega, hSe⟩
    have hie : i = l.length := by omega
    subst hie
    rw [List.drop_length] at hSe
    have hSe : S = (winL l sh w).map (fun p => p - sh) := by rw [← hSe]; simp [winL]
    rw [locP_eq, ← hSe] at hA
    have hSI := hS.asI (by omega)
    clear hSe hN2
    generalize hY : s.env 12 = Y at *
    simp [hY, e2, alen_of hSI, alen_of hy]
    refine At.loop (fun (i : Nat) s => i ≤ m.length ∧ s.env 0 = x ∧ s.env 1 = .int .i64 w ∧ s.env 2 = y ∧ s.env 11 = .int .i64 sh ∧ s.env 12 = Y ∧ s.env 15 = .int .i64 (i : Int) ∧ Outs 1 s.hs (s.env 10) (ints A) ∧ ∃ b, s.env 14 = .bool b ∧ (b = true → S.length = m.length ∧ ∀ j (h : j < S.length) (h' : j < m.length), j < i → S[j] = m[j]) ∧ (b = false → S ≠ m)) (fun i => m.length - i) 0 ?_ ?_
    · refine ⟨by omega, by simp [e0], by simp [e1], by simp [e2], by simp [e11], by simp [hY], by simp, by simpa using hO, decide (S.length = m.length), by simp; omega, fun h => ⟨by simpa using h, fun j _ _ hj => by omega⟩, fun h e => by rw [e] at h; simp at h⟩
    rintro N2 i s hN2 ⟨hi, e0, e1, e2, e11, e12, e15, hO, b, e14, hb1, hb0⟩
    have fin : (b = false ∨ i = m.length) → b = decide (S = m) := by
      intro h
      cases b with
      | false => rw [decide_eq_false (hb0 rfl)]
      | true =>
        rcases h with h | h
        · cases h
        · obtain ⟨h1, h2⟩ := hb1 rfl
          rw [decide_eq_true]
          exact List.ext_getElem h1 fun j g1 g2 => h2 j g1 g2 (by omega)
    by_cases hgo : i < m.length ∧ b = true
    · obtain ⟨hi', rfl⟩ := hgo
      obtain ⟨hlen, heq⟩ := hb1 rfl
      have hi2 : i < S.length := by omega
      have hix1 := aidx_nat hSI hi2 (k := .i64)
      have hix2 := aidx_nat hy hi' (k := .i64)
      simp [e2, e12, e14, e15, alen_of hy, hi', hix1, hix2]
      refine hN2 (i + 1) _ (by omega) ⟨by omega, by simp [e0], by simp [e1], by simp [e2], by simp [e11], by simp [e12], by simp [wrap_nat1 (show i < _ by omega)], by simpa using hO, decide (S[i] = m[i]), by simp, fun h => ⟨hlen, fun j g1 g2 hj => ?_⟩, fun h e => ?_⟩
      · by_cases hji : j = i
        · subst hji; simpa using h
        · exact heq j g1 g2 (by omega)
      · subst e; simp at h
    · have hbq := fin (by
        rcases Nat.lt_or_ge i m.length with h | h
        · left
          cases b with
          | false => rfl
          | true => exact absurd ⟨h, rfl⟩ hgo
        · right; omega)
      have hex : ∀ {K : AS → Prop}, True := fun {_} => trivial
      have hstep : (if (i : Int) < (m.length : Int) then b else false) = false := by
        split
        · cases b with
          | false => rfl
          | true => exact absurd ⟨by omega, rfl⟩ hgo
        · rfl
      by_cases hlt4 : (i : Int) < (m.length : Int)
      · have hbf : b = false := by simpa [hlt4] using hstep
        subst hbf
        rw [← hbq] at hA
        simp only [Bool.false_eq_true, if_false] at hA
        have hi4 : i < m.length := by omega
        simp [e2, e11, e14, e15, alen_of hy, hlt4, hi4, hw3]
        refine hN (k + 1) _ (by omega) ⟨by omega, by simp [e0], by simp [e1], by simp [e2], by simp, A, by simpa using hO, by omega, hA⟩
      · have hi4 : ¬ i < m.length := by omega
        rw [← hbq] at hA
        cases b with
        | false =>
          simp only [Bool.false_eq_true, if_false] at hA
          simp [e2, e11, e14, e15, alen_of hy, hlt4, hi4, hw3]
          refine hN (k + 1) _ (by omega) ⟨by omega, by simp [e0], by simp [e1], by simp [e2], by simp, A, by simpa using hO, by omega, hA⟩
        | true =>
          rw [if_pos rfl] at hA
          simp [e2, e11, e14, e15, alen_of hy, hlt4, hi4, astoAll, si]
          refine At.app1 hO (by omega) fun y2 hs3 o1 m1 _ => ?_
          simp [e11, hw3]
          refine hN (k + 1) _ (by omega) ⟨by omega, by simp [e0], by simp [e1], by simp [e2], by simp, A ++ [sh], by simpa using o1, by simp; omega, by simpa using hA⟩
  · rw [loF_n (by omega), List.append_nil] at hA
    subst hA
    simp [hO.sh]
end Go.Proofs.Ytokfmcjepkepjaa
set_option linter.unusedVariables false
set_option linter.unusedSimpArgs false
namespace Go.Proofs.Ytokfmcjepkepjaa
open Go Fw

/-- a list of numbers under way that has room of its own -/
def Own1 (hs : HS) (x : AV) (l : List Int) : Prop := (x = .nilsl ∧ l = []) ∨ ∃ k, x = .sl 1 (ints l) (.own k) ∧ hs.tok k = true ∧ k < hs.nt
theorem own_append {hs : HS} {x q : AV} {l m : List Int} (h : Own1 hs x l) (hq : asI q = some m) (hl : l.length + m.length ≤ 1000000000) :
    ∃ y hs', aappend 1 hs x q = some (y, hs') ∧ Own1 hs' y (l ++ m) ∧ (x = .nilsl → m = [] → y = .nilsl) := by
  obtain ⟨e1, e2⟩ := elems_of (asI_asV hq)
  rcases h with ⟨rfl, rfl⟩ | ⟨k, rfl, h1, h2⟩
  · rw [append_eq (xs := []) rfl e1 rfl e2 (by simp [ints] at hl ⊢; omega)]
    split
    · rename_i hy
      have : m = [] := by simpa [ints] using hy
      subst this
      exact ⟨_, _, rfl, .inl ⟨rfl, rfl⟩, fun _ _ => rfl⟩
    · rename_i hy
      refine ⟨_, _, rfl, .inr ⟨hs.nt, by simp, by simp, by simp⟩, fun _ hm => absurd (by rw [hm]; rfl) hy⟩
  · rw [append_eq (xs := ints l) rfl e1 (by simp [aszOk]) e2 (by simp [ints]; omega)]
    split
    · rename_i hy
      have : m = [] := by simpa [ints] using hy
      subst this
      exact ⟨_, _, rfl, .inr ⟨k, by simp, h1, h2⟩, fun h => by cases h⟩
    · rename_i hy
      simp only [appP, h1, if_true]
      refine ⟨_, _, rfl, .inr ⟨hs.nt, by simp [ints], by simp, by simp⟩, fun h => by cases h⟩

/-- the lists one behind the other: the first i -/
def catL (ls : Nat → List Int) : Nat → List Int
  | 0 => []
  | i + 1 => catL ls i ++ ls i
theorem FCall.ofAt {P : Program} {C : PCtx} (hC : CtxOk P C) {f : FuncId} {muts : List Nat} {pu : List FuncId} {ac : ACode} {rs : List ARes} {n : Nat} (hf : FnOk P f muts pu ac rs n) {args : List AV} {hs : HS} {R : AEnd → HS → Prop} (hn : args.length ≤ n)
    (h : At (awp P C ac (finQ rs R) ⟨argEnv args, hs⟩)) : FCall P f args hs R := FCall.of_body hC hf hn h
theorem catL_le (ls : Nat → List Int) : ∀ {i j : Nat}, i ≤ j → (catL ls i).length ≤ (catL ls j).length
  | i, 0, h => by have : i = 0 := by omega
                  subst this; exact Nat.le_refl _
  | i, j + 1, h => by
    rcases Nat.lt_or_ge i (j + 1) with h' | h'
    · have := catL_le ls (i := i) (j := j) (by omega)
      simp only [catL, List.length_append]; omega
    · have : i = j + 1 := by omega
      subst this; exact Nat.le_refl _
theorem p82 (n : Nat) (hn : n ≤ 1000000) (hs : HS) : FCall Try.prog 82 [.nilsl, .int .i64 (n : Int)] hs fun e hs' => ∃ y, e = .ret y ∧ Own1 hs' y [] ∧ (n = 0 → y = .nilsl) ∧ (n ≠ 0 → y ≠ .nilsl) := by
  refine FCall.ofAt D2ok ok82 (by simp) ?_
  simp [A82, R82]
  refine At.dec (fun h => ?_) (fun h => ?_)
  · omega
  have w0 : IntKind.i64.wrap ((n : Int) - 0) = n := by rw [wrap64 (by omega) (by omega)]; omega
  have w1 : IntKind.i64.wrap ((n : Int)) = n := by rw [wrap64 (by omega) (by omega)]
  have w2 : IntKind.i64.wrap 0 = 0 := by decide
  simp [acap, w1, w2]
  refine At.dec (fun h2 => ?_) (fun h2 => ?_)
  · have hn0 : 0 < n := by omega
    have ha : aslice 1 .nilsl none (some (.int .i64 0)) none = some .nilsl := by simp [aslice, aidx, asliceN]
    have hg : ∀ m k, aslice 1 (.gsl 1 m k) none (some (.int .i64 0)) none = some (.sl 1 [] (.own k)) := fun m k => by simp [aslice, aidx]
    simp [acap, ha, hg, aappz, hn0, show (n : Int) ≤ 1000000 by omega]
    exact At.of ⟨.inr ⟨hs.nt, by simp [ints], by simp, by simp⟩, by omega⟩
  · have hn0 : n = 0 := by omega
    subst hn0
    simp
    exact At.of (.inl ⟨rfl, rfl⟩)

theorem p60 {xs : List AV} {c : Cap} {ls : Nat → List Int} (hx : ∀ (i : Nat) (h : i < xs.length), asI xs[i] = some (ls i)) (hlen : ∀ i, i ≤ xs.length → (catL ls i).length ≤ 1000000) (hxl : xs.length ≤ 1000) :
    PCall Try.prog 60 [.sl 1 xs c] (outV 1 (ints (catL ls xs.length))) := by
  refine PCall.of D2ok ok60 (by simp) (outI_plain _) fun hs' hb => ?_
  simp [A60, R60]
  have hidx : ∀ i (h : i < xs.length), aidxS 1 (.sl 1 xs c) (.int .i64 (i : Int)) = some (.ptr xs[i]) := fun i h => by simp [aidxS, h]
  have hld : ∀ (i : Nat) (h : i < xs.length) hp, aload hp false 1 (.ptr xs[i]) = some xs[i] := fun i h hp => by
    rcases asI_inv (hx i h) with ⟨e, _⟩ | ⟨c, e⟩ <;> rw [e] <;> rfl
  refine At.loop (fun (i : Nat) s => i ≤ xs.length ∧ s.env 0 = .sl 1 xs c ∧ s.env 3 = .int .i64 ((catL ls i).length : Int) ∧ s.env 9 = .sl 1 xs c ∧ s.env 10 = .int .i64 (xs.length : Int) ∧ s.env 11 = .int .i64 (i : Int)) (fun i => xs.length - i) 0 ?_ ?_
  · simp [catL]
  rintro N i s hN ⟨hi, e0, e3, e9, e10, e11⟩
  simp [e10, e11]
  refine At.dec (fun hlt => ?_) (fun hlt => ?_)
  · have hi' : i < xs.length := by omega
    have hl1 := hlen (i + 1) (by omega)
    simp only [catL, List.length_append] at hl1
    have w1 : IntKind.i64.wrap (((catL ls i).length : Int) + ((ls i).length : Int)) = ((catL ls i).length : Int) + ((ls i).length : Int) := wrap64 (by omega) (by omega)
    simp [e3, e9, e11, hidx i hi', hld i hi', alen_of (hx i hi'), w1]
    refine At.dec (fun h => ?_) (fun h => ?_)
    · omega
    · simp [e11]
      refine hN (i + 1) _ (by omega) ⟨by omega, ?_⟩
      simp [e0, e9, e10, catL, wrap_nat1 (show i < _ by omega)]
  · have : i = xs.length := by omega
    subst this
    have hln := hlen xs.length (Nat.le_refl _)
    simp [e3]
    refine At.hc (p82 _ hln s.hs) ?_ ?_
    · rintro v hs2 ⟨y, hv, ho, hy0, hy1⟩
      injection hv with hv; subst hv
      simp [e0]
      refine At.loop (fun (i : Nat) s => i ≤ xs.length ∧ s.env 25 = .sl 1 xs c ∧ s.env 26 = .int .i64 (xs.length : Int) ∧ s.env 27 = .int .i64 (i : Int) ∧ Own1 s.hs (s.env 6) (catL ls i) ∧ ((catL ls xs.length).length = 0 → s.env 6 = .nilsl)) (fun i => xs.length - i) 0 ?_ ?_
      · simp [catL]; exact ⟨ho, fun h => hy0 (by rw [h]; rfl)⟩
      rintro N2 i s hN2 ⟨hi, e25, e26, e27, ho, hz⟩
      simp [e26, e27]
      refine At.dec (fun hlt => ?_) (fun hlt => ?_)
      · have hi' : i < xs.length := by omega
        have hl1 := hlen (i + 1) (by omega)
        simp only [catL, List.length_append] at hl1
        obtain ⟨y2, hs3, b1, b2, b3⟩ := own_append ho (hx i hi') (by omega)
        simp [e25, e27, hidx i hi', hld i hi', b1]
        refine hN2 (i + 1) _ (by omega) ⟨by omega, ?_⟩
        simp [e25, e26, catL, wrap_nat1 (show i < _ by omega)]
        refine ⟨b2, fun h => b3 (hz (by rw [h]; rfl)) ?_⟩
        have := catL_le ls (i := i + 1) (j := xs.length) (by omega)
        rw [h] at this
        simp only [catL, List.length_append, List.length_nil] at this
        exact List.length_eq_zero_iff.1 (by omega)
      · have : i = xs.length := by omega
        subst this
        simp
        rcases ho with ⟨h1, h2⟩ | ⟨k, h1, h2⟩
        · rw [h1, h2]; rfl
        · have hne : catL ls xs.length ≠ [] := fun h => by
            have := hz (by rw [h]; rfl)
            rw [h1] at this; cases this
          rw [h1, outV_ne (by simpa [ints] using hne)]
          simp
    · rintro v hs2 ⟨y, hv, _⟩
      cases hv
end Go.Proofs.Ytokfmcjepkepjaa
set_option linter.unusedVariables false
set_option linter.unusedSimpArgs false
namespace Go.Proofs.Ytokfmcjepkepjaa
open Go Fw

instance (l : List Int) : Decidable (Sm l) := by unfold Sm; infer_instance
def SClr : List AV → Option AV
  | [x] => (asI x).bind fun l => if l.length ≤ 64 ∧ Sm l then some (.bool (clrB l)) else none
  | _ => none
theorem SClr_i {x : AV} {l : List Int} (hx : asI x = some l) (h1 : l.length ≤ 64) (h2 : Sm l) : SClr [x] = some (.bool (clrB l)) := by simp [SClr, hx, h1, h2]
theorem c59 : ∀ a r, SClr a = some r → PCall Try.prog 59 a r := by
  intro a r h
  unfold SClr at h
  split at h <;> (try (cases h; done))
  obtain ⟨l, h1, h2⟩ := Option.bind_eq_some_iff.1 h
  split at h2 <;> (try (cases h2; done))
  rename_i hc
  injection h2 with h2; subst h2
  exact p59 h1 hc.2 hc.1
theorem c61 : ∀ a r, SClr a = some r → PCall Try.prog 61 a r := by
  intro a r h
  unfold SClr at h
  split at h <;> (try (cases h; done))
  obtain ⟨l, h1, h2⟩ := Option.bind_eq_some_iff.1 h
  split at h2 <;> (try (cases h2; done))
  rename_i hc
  injection h2 with h2; subst h2
  exact p61 h1 hc.2 hc.1
/-- a list with one more number -/
def insT (l : List Int) (v : Int) : List Int := l.take (ltN l v) ++ [v] ++ l.drop (ltN l v)
theorem insT_len (l : List Int) (v : Int) : (insT l v).length = l.length + 1 := by
  have := ltN_le l v
  simp [insT]; omega
theorem insT_mem {l : List Int} {v n : Int} (h : n ∈ insT l v) : n ∈ l ∨ n = v := by
  unfold insT at h
  simp only [List.mem_append, List.mem_singleton] at h
  rcases h with (h | h) | h
  · exact .inl (List.mem_of_mem_take h)
  · exact .inr h
  · exact .inl (List.mem_of_mem_drop h)
def wth (v : Int) : Bool → List Int → List Int
  | d, [] => if d = true then [] else [v]
  | d, a :: t => (if d = false ∧ v < a then [v] else []) ++ [a] ++ wth v (d || decide (v < a) || decide (v = a)) t
theorem wth_t (v : Int) : ∀ l, wth v true l = l
  | [] => rfl
  | a :: l => by simp [wth, wth_t v l]
theorem wth_f (v : Int) : ∀ {l : List Int}, l.Pairwise (· < ·) → wth v false l = if v ∈ l then l else insT l v
  | [], _ => by simp [wth, insT]
  | a :: l, h => by
    obtain ⟨h1, h2⟩ := List.pairwise_cons.1 h
    simp only [wth]
    by_cases hlt : v < a
    · have hn : v ∉ a :: l := by
        intro hm
        rcases List.mem_cons.1 hm with h | h
        · omega
        · have := h1 v h; omega
      have h0 : ltN (a :: l) v = 0 := by
        unfold ltN
        rw [List.countP_eq_zero]
        intro n hn'
        rcases List.mem_cons.1 hn' with rfl | h
        · simp; omega
        · have := h1 n h; simp; omega
      rw [if_neg hn]
      simp [hlt, wth_t, insT, h0]
    · by_cases he : v = a
      · subst he
        simp [wth_t]
      · have ih := wth_f v h2
        have hm : (v ∈ a :: l) ↔ v ∈ l := by simp [he]
        have h0 : ltN (a :: l) v = ltN l v + 1 := by
          unfold ltN
          rw [List.countP_cons_of_pos (by simp; omega)]
        simp only [hlt, he, decide_false, Bool.or_false, and_false, if_false, List.nil_append]
        rw [ih]
        by_cases hv : v ∈ l
        · rw [if_pos hv, if_pos (hm.2 hv)]; rfl
        · rw [if_neg hv, if_neg (fun h => hv (hm.1 h))]
          simp [insT, h0]
theorem p62 {x : AV} {l : List Int} (hx : asI x = some l) (hl : l.length ≤ 1000) (v : Int) : PCall Try.prog 62 [x, .int .i64 v] (outV 1 (ints (wth v false l))) := by
  refine PCall.of D2ok ok62 (by simp) (outI_plain _) fun hs' hb => ?_
  simp [A62, R62]
  refine At.loop (fun (i : Nat) s => i ≤ l.length ∧ s.env 0 = x ∧ s.env 1 = .int .i64 v ∧ s.env 7 = .int .i64 (i : Int) ∧ ∃ d A, s.env 6 = .bool d ∧ Outs 1 s.hs (s.env 5) (ints A) ∧ A.length ≤ 2 * i ∧ A ++ wth v d (l.drop i) = wth v false l) (fun i => l.length - i) 0 ?_ ?_
  · exact ⟨by simp, by simp, by simp, by simp, false, [], by simp, by simp; exact .nil, by simp, rfl⟩
  rintro N i s hN ⟨hi, e0, e1, e7, d, A, e6, hO, hAl, hA⟩
  simp [e0, e7, alen_of hx]
  refine At.dec (fun hlt => ?_) (fun hlt => ?_)
  · have hi' : i < l.length := by omega
    rw [List.drop_eq_getElem_cons hi', wth] at hA
    cases d with
    | true =>
      simp only [Bool.true_or, Bool.true_eq_false, false_and, if_false, List.nil_append] at hA
      simp [e0, e6, e7, aidx_nat hx hi', astoAll, si]
      refine At.app1 hO (by omega) fun y hs3 o1 m1 _ => ?_
      simp [e7]
      refine hN (i + 1) _ (by omega) ⟨by omega, by simp [e0], by simp [e1], by simp [wrap_nat1 (show i < _ by omega)], true, A ++ [l[i]], by simp, by simpa using o1, by simp; omega, by simpa using hA⟩
    | false =>
      by_cases hvl : v < l[i]
      · simp only [hvl, decide_true, Bool.or_true, Bool.true_or, and_self, if_true] at hA
        simp [e0, e1, e6, e7, aidx_nat hx hi', hvl, astoAll, si]
        refine At.app1 hO (by omega) fun y hs3 o1 m1 _ => ?_
        simp [e0, e7, aidx_nat hx hi', astoAll, si]
        refine At.app1 o1 (by simp; omega) fun y2 hs4 o2 m2 _ => ?_
        simp [e7]
        refine hN (i + 1) _ (by omega) ⟨by omega, by simp [e0], by simp [e1], by simp [wrap_nat1 (show i < _ by omega)], true, A ++ [v] ++ [l[i]], by simp, by simpa using o2, by simp; omega, by simpa using hA⟩
      · simp only [hvl, decide_false, Bool.or_false, Bool.false_or, and_false, if_false, List.nil_append] at hA
        simp [e0, e1, e6, e7, aidx_nat hx hi', hvl, astoAll, si]
        refine At.app1 hO (by omega) fun y hs3 o1 m1 _ => ?_
        simp [e7]
        refine hN (i + 1) _ (by omega) ⟨by omega, by simp [e0], by simp [e1], by simp [wrap_nat1 (show i < _ by omega)], decide (v = l[i]), A ++ [l[i]], by simp, by simpa using o1, by simp; omega, by simpa using hA⟩
  · have : i = l.length := by omega
    subst this
    rw [List.drop_length, wth] at hA
    cases d with
    | true =>
      simp only [if_true, List.append_nil] at hA
      rw [← hA]
      simp [e6, hO.sh]
    | false =>
      simp only [Bool.false_eq_true, if_false] at hA
      simp [e1, e6, astoAll, si]
      refine At.app1 hO (by omega) fun y hs3 o1 m1 _ => ?_
      rw [← hA]
      simp [o1.sh]
def plE (l : List Int) (most : Int) : Int := if chkE l = 0 then (if clrB l = true then (if l.length = 8 then 2 else if btw 0 most 60 = true then 0 else 4) else 13) else chkE l
def plP (l : List Int) (p : Int) : Bool := !l.contains p && clrB (insT l p)
def plF (l : List Int) (most : Int) (k : Nat) : List Int := ((List.range' k (most.toNat + 1 - k)).filter fun (k : Nat) => plP l (k : Int)).map fun (k : Nat) => (k : Int)
theorem plF_c {l : List Int} {most : Int} {k : Nat} (h : k ≤ most.toNat) : plF l most k = if plP l (k : Int) = true then (k : Int) :: plF l most (k + 1) else plF l most (k + 1) := by
  unfold plF
  rw [show most.toNat + 1 - k = (most.toNat + 1 - (k + 1)) + 1 by omega, List.range'_succ, List.filter_cons]
  split
  · rfl
  · rfl
theorem plF_n {l : List Int} {most : Int} {k : Nat} (h : most.toNat < k) : plF l most k = [] := by
  unfold plF
  rw [show most.toNat + 1 - k = 0 by omega]; rfl
def plR (l : List Int) (most : Int) : AV := if plE l most = 0 then .tup [outV 1 (ints (plF l most 0)), .int .i64 0] else .tup [.nilsl, .int .i64 (plE l most)]
theorem plR_plain (l : List Int) (most : Int) : (plR l most).plain = true := by
  unfold plR
  split
  · simp only [AV.plain, plainL, outI_plain, Bool.and_self]
  · rfl
theorem dropV_cells {x : AV} {l : List Int} (hx : asI x = some l) (n : Nat) : asI (dropV n x) = some (l.drop n) := asI_drop hx n
theorem p30 {x : AV} {l : List Int} (hx : asI x = some l) (most : Int) : PCall Try.prog 30 [x, .int .i64 most] (plR l most) := by
  have hpl := plR_plain l most
  by_cases he : chkE l = 0
  rotate_left
  · obtain ⟨C, hC, k24⟩ : ∃ C, CtxOk Try.prog C ∧ C 24 [x] = some (.int .i64 (chkE l)) := ⟨_, CtxOk.nil.pt (p24 hx), by simp⟩
    have hE : plE l most = chkE l := by rw [plE, if_neg he]
    have hR : plR l most = .tup [.nilsl, .int .i64 (chkE l)] := by rw [plR, hE, if_neg he]
    refine PCall.of hC ok30 (by simp) hpl fun hs' hb => ?_
    rw [hR]
    simp [A30, R30, k24, he]
  have hok := chkE_zero.1 he
  have h8 := hok.eight
  have hsm := hok.sm
  have hcat : ∀ k : Nat, PCall Try.prog 60 [.sl 1 [takeV (ltN l (k : Int)) x, .sl 1 [.int .i64 (k : Int)] .exact, dropV (ltN l (k : Int)) x] .exact] (outV 1 (ints (insT l (k : Int)))) := by
    intro k
    have hlt := ltN_le l (k : Int)
    have h := p60 (xs := [takeV (ltN l (k : Int)) x, .sl 1 [.int .i64 (k : Int)] .exact, dropV (ltN l (k : Int)) x]) (c := .exact) (ls := fun i => match i with | 0 => l.take (ltN l (k : Int)) | 1 => [(k : Int)] | _ => l.drop (ltN l (k : Int))) (fun i hi => by
      match i, hi with
      | 0, _ => exact asI_take hx _
      | 1, _ => exact asI_sl (l := [(k : Int)]) (by simp)
      | 2, _ => exact asI_drop hx _
      | i + 3, hi => exact absurd hi (by simp)) (fun i hi => by
      have : (catL (fun i => match i with | 0 => l.take (ltN l (k : Int)) | 1 => [(k : Int)] | _ => l.drop (ltN l (k : Int))) 3).length ≤ 1000000 := by
        simp [catL]; omega
      exact Nat.le_trans (catL_le _ hi) this) (by simp)
    have e : catL (fun i => match i with | 0 => l.take (ltN l (k : Int)) | 1 => [(k : Int)] | _ => l.drop (ltN l (k : Int))) 3 = insT l (k : Int) := by simp [catL, insT]
    have h' : (outV 1 (ints (catL (fun i => match i with | 0 => l.take (ltN l (k : Int)) | 1 => [(k : Int)] | _ => l.drop (ltN l (k : Int))) 3))) = outV 1 (ints (insT l (k : Int))) := by rw [e]
    rw [← h']
    exact h
  obtain ⟨C, hC, k24, k54, k59, k56, k60⟩ : ∃ C, CtxOk Try.prog C ∧ C 24 [x] = some (.int .i64 (chkE l)) ∧ C 54 = SBtw ∧ C 59 = SClr ∧ (∀ v : Int, C 56 [x, .int .i64 v] = some (.tup [.int .i64 (ltN l v : Int), .bool (l.contains v)])) ∧ ∀ k : Nat, C 60 [.sl 1 [takeV (ltN l (k : Int)) x, .sl 1 [.int .i64 (k : Int)] .exact, dropV (ltN l (k : Int)) x] .exact] = some (outV 1 (ints (insT l (k : Int)))) :=
    ⟨_, (((D0ok.add c59).pt (p24 hx)).fam (g := fun v : Int => [x, .int .i64 v]) (fun v => p56 hx hok.asc (by omega) v)).fam (g := fun k : Nat => [.sl 1 [takeV (ltN l (k : Int)) x, .sl 1 [.int .i64 (k : Int)] .exact, dropV (ltN l (k : Int)) x] .exact]) hcat, by simp, by rw [← D0_54]; funext a; simp [PCtx.add], by funext a; simp [PCtx.add],
      fun v => by
        rw [fam_ne (by decide)]
        exact fam_eq (g := fun v : Int => [x, .int .i64 v]) (r := fun v : Int => .tup [.int .i64 (ltN l v : Int), .bool (l.contains v)]) (fun i j h => by simp at h; rw [h]) v,
      fun k => fam_eq (g := fun k : Nat => [.sl 1 [takeV (ltN l (k : Int)) x, .sl 1 [.int .i64 (k : Int)] .exact, dropV (ltN l (k : Int)) x] .exact]) (r := fun k : Nat => outV 1 (ints (insT l (k : Int)))) (fun i j h => by
        simp at h
        have : i = j := by omega
        rw [this]) k⟩
  have k59l := SClr_i hx (by omega) hsm
  refine PCall.of hC ok30 (by simp) hpl fun hs' hb => ?_
  by_cases hcl : clrB l = true
  rotate_left
  · have hE : plE l most = 13 := by rw [plE, if_pos he, if_neg hcl]
    have hR : plR l most = .tup [.nilsl, .int .i64 13] := by rw [plR, hE, if_neg (by decide)]
    rw [hR]
    rw [Bool.not_eq_true] at hcl
    simp [A30, R30, k24, he, k59, k59l, hcl]
  by_cases h88 : l.length = 8
  · have hE : plE l most = 2 := by rw [plE, if_pos he, if_pos hcl, if_pos h88]
    have hR : plR l most = .tup [.nilsl, .int .i64 2] := by rw [plR, hE, if_neg (by decide)]
    rw [hR]
    simp [A30, R30, k24, he, k59, k59l, hcl, alen_of hx, h88]
  have h88' : ¬ ((l.length : Int) = 8) := by omega
  by_cases hb2 : btw 0 most 60 = true
  rotate_left
  · have hE : plE l most = 4 := by rw [plE, if_pos he, if_pos hcl, if_neg h88, if_neg hb2]
    have hR : plR l most = .tup [.nilsl, .int .i64 4] := by rw [plR, hE, if_neg (by decide)]
    rw [hR]
    rw [Bool.not_eq_true] at hb2
    simp [A30, R30, k24, he, k59, k59l, hcl, alen_of hx, h88', k54, hb2]
  have hE : plE l most = 0 := by rw [plE, if_pos he, if_pos hcl, if_neg h88, if_pos hb2]
  have hR : plR l most = .tup [outV 1 (ints (plF l most 0)), .int .i64 0] := by rw [plR, if_pos hE]
  rw [hR]
  have hmb : 0 ≤ most ∧ most ≤ 60 := by simpa [btw] using hb2
  obtain ⟨M, hM⟩ : ∃ M : Nat, most = (M : Int) := ⟨most.toNat, by omega⟩
  have hMt : most.toNat = M := by omega
  have hwm : IntKind.i64.wrap (most + 1) = ((M + 1 : Nat) : Int) := by rw [wrap64 (by omega) (by omega)]; omega
  simp [A30, R30, k24, he, k59, k59l, hcl, alen_of hx, h88', k54, hb2, hwm]
  refine At.loop (fun (k : Nat) s => k ≤ M + 1 ∧ s.env 0 = x ∧ s.env 30 = .int .i64 ((M + 1 : Nat) : Int) ∧ s.env 31 = .int .i64 (k : Int) ∧ ∃ A, Outs 1 s.hs (s.env 7) (ints A) ∧ A.length ≤ k ∧ A ++ plF l most k = plF l most 0) (fun k => M + 1 - k) 0 ?_ ?_
  · exact ⟨by omega, by simp, by simp, by simp, [], by simp; exact .nil, by simp, rfl⟩
  rintro N k s hN ⟨hk, e0, e30, e31, A, hO, hAl, hA⟩
  simp [e30, e31]
  refine At.dec (fun hlt => ?_) (fun hlt => ?_)
  · have hk' : k ≤ M := by omega
    rw [plF_c (by omega)] at hA
    have hlt2 := ltN_le l (k : Int)
    have ts := slice_take (asI_asV hx) (n := ltN l (k : Int)) (by simp [ints]; omega) (k := .i64)
    have ds := slice_drop (asI_asV hx) (n := ltN l (k : Int)) (by simp [ints]; omega) (k := .i64)
    have hst : astoAll 1 [takeV (ltN l (k : Int)) x, .sl 1 [.int .i64 (k : Int)] .exact, dropV (ltN l (k : Int)) x] = true := by
      have c1 := asI_cells (asI_take hx (ltN l (k : Int)))
      have c2 := asI_cells (asI_drop hx (ltN l (k : Int)))
      have s1 := asI_sto (asI_take hx (ltN l (k : Int)))
      have s2 := asI_sto (asI_drop hx (ltN l (k : Int)))
      simp [astoAll, c1, c2, s1, s2]
    have hIsm : Sm (insT l (k : Int)) := fun n hn => by
      rcases insT_mem hn with h | h
      · exact hsm n h
      · omega
    have hIl : (insT l (k : Int)).length ≤ 64 := by rw [insT_len]; omega
    have k59i := SClr_i (asI_outV (l := insT l (k : Int)) (by omega)) hIl hIsm
    simp [e0, e31, k56]
    cases hc : l.contains (k : Int) with
    | true =>
      have hc' : (k : Int) ∈ l := by simpa using hc
      have hP : plP l (k : Int) = false := by simp [plP, hc']
      rw [hP] at hA
      simp only [Bool.false_eq_true, if_false] at hA
      simp [hc', e31]
      refine hN (k + 1) _ (by omega) ⟨by omega, by simp [e0], by simp [e30], by simp [wrap_nat1 (show k < _ by omega)], A, by simpa using hO, by omega, hA⟩
    | false =>
      have hc' : ¬ (k : Int) ∈ l := by simpa using hc
      have hP : plP l (k : Int) = clrB (insT l (k : Int)) := by simp [plP, hc']
      rw [hP] at hA
      have hs1 : astoAll 1 [AV.int .i64 (k : Int)] = true := by simp [astoAll]
      simp [hc', e0, e31, ts, ds, hs1, hst, k60, k59, k59i]
      cases hcc : clrB (insT l (k : Int)) with
      | true =>
        rw [hcc, if_pos rfl] at hA
        simp [hc', hcc, astoAll, si]
        refine At.app1 hO (by omega) fun y hs3 o1 m1 _ => ?_
        simp [e31]
        refine hN (k + 1) _ (by omega) ⟨by omega, by simp [e0], by simp [e30], by simp [wrap_nat1 (show k < _ by omega)], A ++ [(k : Int)], by simpa using o1, by simp; omega, by simpa using hA⟩
      | false =>
        rw [hcc] at hA
        simp only [Bool.false_eq_true, if_false] at hA
        simp [hc', hcc, e31]
        refine hN (k + 1) _ (by omega) ⟨by omega, by simp [e0], by simp [e30], by simp [wrap_nat1 (show k < _ by omega)], A, by simpa using hO, by omega, hA⟩
  · rw [plF_n (by omega), List.append_nil] at hA
    subst hA
    simp [hO.sh]
end Go.Proofs.Ytokfmcjepkepjaa
set_option linter.unusedVariables false
set_option linter.unusedSimpArgs false
namespace Go.Proofs.Ytokfmcjepkepjaa
open Go Fw

theorem p31 {x : AV} {l : List Int} (hx : asI x = some l) (most : Int) : PCall Try.prog 31 [x, .int .i64 most] (plR l most) := by
  have hpl := plR_plain l most
  by_cases he : chkE l = 0
  rotate_left
  · obtain ⟨C, hC, k25⟩ : ∃ C, CtxOk Try.prog C ∧ C 25 [x] = some (.int .i64 (chkE l)) := ⟨_, CtxOk.nil.pt (p25 hx), by simp⟩
    have hE : plE l most = chkE l := by rw [plE, if_neg he]
    have hR : plR l most = .tup [.nilsl, .int .i64 (chkE l)] := by rw [plR, hE, if_neg he]
    refine PCall.of hC ok31 (by simp) hpl fun hs' hb => ?_
    rw [hR]
    simp [A31, R31, k25, he]
  have hok := chkE_zero.1 he
  have h8 := hok.eight
  have hsm := hok.sm
  obtain ⟨C, hC, k25, k53, k61, k62⟩ : ∃ C, CtxOk Try.prog C ∧ C 25 [x] = some (.int .i64 (chkE l)) ∧ C 53 = SIs ∧ C 61 = SClr ∧ ∀ v : Int, C 62 [x, .int .i64 v] = some (outV 1 (ints (wth v false l))) :=
    ⟨_, ((D1ok.add c61).pt (p25 hx)).fam (g := fun v : Int => [x, .int .i64 v]) (fun v => p62 hx (by omega) v), by simp, by rw [← D1_53]; funext a; simp [PCtx.add], by funext a; simp [PCtx.add],
      fun v => fam_eq (g := fun v : Int => [x, .int .i64 v]) (r := fun v : Int => outV 1 (ints (wth v false l))) (fun i j h => by simp at h; rw [h]) v⟩
  have k61l := SClr_i hx (by omega) hsm
  refine PCall.of hC ok31 (by simp) hpl fun hs' hb => ?_
  by_cases hcl : clrB l = true
  rotate_left
  · have hE : plE l most = 13 := by rw [plE, if_pos he, if_neg hcl]
    have hR : plR l most = .tup [.nilsl, .int .i64 13] := by rw [plR, hE, if_neg (by decide)]
    rw [hR]
    rw [Bool.not_eq_true] at hcl
    simp [A31, R31, k25, he, k61, k61l, hcl]
  by_cases h88 : l.length = 8
  · have hE : plE l most = 2 := by rw [plE, if_pos he, if_pos hcl, if_pos h88]
    have hR : plR l most = .tup [.nilsl, .int .i64 2] := by rw [plR, hE, if_neg (by decide)]
    rw [hR]
    simp [A31, R31, k25, he, k61, k61l, hcl, alen_of hx, h88]
  have h88' : ¬ ((l.length : Int) = 8) := by omega
  by_cases hb2 : btw 0 most 60 = true
  rotate_left
  · have hE : plE l most = 4 := by rw [plE, if_pos he, if_pos hcl, if_neg h88, if_neg hb2]
    have hR : plR l most = .tup [.nilsl, .int .i64 4] := by rw [plR, hE, if_neg (by decide)]
    rw [hR]
    rw [Bool.not_eq_true] at hb2
    simp [A31, R31, k25, he, k61, k61l, hcl, alen_of hx, h88', k53, hb2]
  have hE : plE l most = 0 := by rw [plE, if_pos he, if_pos hcl, if_neg h88, if_pos hb2]
  have hR : plR l most = .tup [outV 1 (ints (plF l most 0)), .int .i64 0] := by rw [plR, if_pos hE]
  rw [hR]
  have hmb : 0 ≤ most ∧ most ≤ 60 := by simpa [btw] using hb2
  obtain ⟨M, rfl⟩ : ∃ M : Nat, most = (M : Int) := ⟨most.toNat, by omega⟩
  have hMt : ((M : Int)).toNat = M := by omega
  simp [A31, R31, k25, he, k61, k61l, hcl, alen_of hx, h88', k53, hb2]
  refine At.loop (fun (k : Nat) s => k ≤ M + 1 ∧ s.env 0 = x ∧ s.env 1 = .int .i64 (M : Int) ∧ s.env 8 = .int .i64 (k : Int) ∧ ∃ A, Outs 1 s.hs (s.env 7) (ints A) ∧ A.length ≤ k ∧ A ++ plF l (M : Int) k = plF l (M : Int) 0) (fun k => M + 1 - k) 0 ?_ ?_
  · exact ⟨by omega, by simp, by simp, by simp, [], by simp; exact .nil, by simp, rfl⟩
  rintro N k s hN ⟨hk, e0, e1, e8, A, hO, hAl, hA⟩
  simp [e1, e8]
  refine At.dec (fun hlt => ?_) (fun hlt => ?_)
  · have hk' : k ≤ M := by omega
    rw [plF_c (by omega)] at hA
    have hIsm : Sm (insT l (k : Int)) := fun n hn => by
      rcases insT_mem hn with h | h
      · exact hsm n h
      · omega
    have hIl : (insT l (k : Int)).length ≤ 64 := by rw [insT_len]; omega
    have k61i := SClr_i (asI_outV (l := insT l (k : Int)) (by omega)) hIl hIsm
    have hwf := wth_f (k : Int) hok.asc
    cases hc : l.contains (k : Int) with
    | true =>
      have hc' : (k : Int) ∈ l := by simpa using hc
      rw [if_pos hc'] at hwf
      have hP : plP l (k : Int) = false := by simp [plP, hc']
      rw [hP] at hA
      simp only [Bool.false_eq_true, if_false] at hA
      have hlx : alenK false (outV 1 (ints l)) = some (.int .i64 (l.length : Int)) := by rw [alen_out]; simp [ints]
      generalize hV : outV 1 (ints l) = V at *
      have hV62 : C 62 [x, .int .i64 (k : Int)] = some V := by rw [k62, hwf, hV]
      simp [e0, e8, hV62, alen_of hx, hlx]
      refine hN (k + 1) _ (by omega) ⟨by omega, by simp [e0], by simp [e1], by simp [wrap_nat1 (show k < _ by omega)], A, by simpa using hO, by omega, hA⟩
    | false =>
      have hc' : ¬ (k : Int) ∈ l := by simpa using hc
      rw [if_neg hc'] at hwf
      have hP : plP l (k : Int) = clrB (insT l (k : Int)) := by simp [plP, hc']
      rw [hP] at hA
      have hlx : alenK false (outV 1 (ints (insT l (k : Int)))) = some (.int .i64 ((l.length : Int) + 1)) := by rw [alen_out]; simp [ints, insT_len]
      generalize hV : outV 1 (ints (insT l (k : Int))) = V at *
      have hV62 : C 62 [x, .int .i64 (k : Int)] = some V := by rw [k62, hwf, hV]
      have hlt9 : (l.length : Int) < (l.length : Int) + 1 := by omega
      simp [e0, e8, hV62, alen_of hx, hlx, hlt9, k61, k61i]
      cases hcc : clrB (insT l (k : Int)) with
      | true =>
        rw [hcc, if_pos rfl] at hA
        simp [hcc, e8, astoAll, si]
        refine At.app1 hO (by omega) fun y hs3 o1 m1 _ => ?_
        simp [e8]
        refine hN (k + 1) _ (by omega) ⟨by omega, by simp [e0], by simp [e1], by simp [wrap_nat1 (show k < _ by omega)], A ++ [(k : Int)], by simpa using o1, by simp; omega, by simpa using hA⟩
      | false =>
        rw [hcc] at hA
        simp only [Bool.false_eq_true, if_false] at hA
        simp [hcc, e8]
        refine hN (k + 1) _ (by omega) ⟨by omega, by simp [e0], by simp [e1], by simp [wrap_nat1 (show k < _ by omega)], A, by simpa using hO, by omega, hA⟩
  · rw [plF_n (by omega), List.append_nil] at hA
    subst hA
    simp [hO.sh]
end Go.Proofs.Ytokfmcjepkepjaa
set_option linter.unusedVariables false
set_option linter.unusedSimpArgs false
namespace Go.Proofs.Ytokfmcjepkepjaa
open Go Fw

def A63k : ACode := .seq (.block 0 (.loop (.seq (.seq (.reg [⟨some 29, none, .mv (.t 7)⟩, ⟨some 30, none, .mv (.t 7)⟩, ⟨some 31, none, .len false (.t 30)⟩, ⟨some 32, none, .bin 0 .sub (.t 31) (.c (.int .i64 1))⟩, ⟨some 33, none, .iaddrS 1 (.t 29) (.t 32)⟩, ⟨some 34, none, .load false 1 (.t 33)⟩, ⟨some 35, none, .mv (.t 1)⟩, ⟨some 36, none, .bin 0 .leq (.t 34) (.t 35)⟩])
  (.cond (.t 36) (.skip) (.exit 0)))
  (.block 1 (.seq (.seq (.reg [⟨some 37, none, .mv (.t 2)⟩, ⟨some 38, none, .mv (.t 7)⟩, ⟨some 39, none, .callv (.t 37) [.t 38]⟩])
  (.cond (.t 39) (.goto 0) (.skip)))
  (.reg [⟨some 40, none, .mv (.t 7)⟩, ⟨some 41, none, .mv (.t 7)⟩, ⟨some 42, none, .len false (.t 41)⟩, ⟨some 43, none, .bin 0 .sub (.t 42) (.c (.int .i64 1))⟩, ⟨some 44, none, .iaddrS 1 (.t 40) (.t 43)⟩, ⟨some 45, none, .load false 1 (.t 44)⟩, ⟨some 46, none, .bin 0 .add (.t 45) (.c (.int .i64 1))⟩, ⟨some 47, none, .iaddrS 1 (.t 40) (.t 43)⟩, ⟨none, none, .store 1 (.t 47) (.t 46)⟩]))))))
  (.seq (.reg [⟨some 48, none, .mv (.t 7)⟩, ⟨some 49, none, .mv (.t 7)⟩, ⟨some 50, none, .len false (.t 49)⟩, ⟨some 51, none, .bin 0 .sub (.t 50) (.c (.int .i64 1))⟩, ⟨some 52, none, .slice 1 (.t 48) none (some (.t 51)) none⟩, ⟨some 7, none, .mv (.t 52)⟩])
  (.seq (.seq (.reg [⟨some 53, none, .mv (.t 7)⟩, ⟨some 54, none, .len false (.t 53)⟩, ⟨some 55, none, .bin 0 .eql (.t 54) (.c (.int .i64 1))⟩])
  (.cond (.t 55) (.seq (.reg [⟨some 6, none, .mv (.c (.nilsl))⟩])
  (.ret)) (.skip)))
  (.seq (.reg [⟨some 56, none, .mv (.t 7)⟩, ⟨some 57, none, .mv (.t 7)⟩, ⟨some 58, none, .len false (.t 57)⟩, ⟨some 59, none, .bin 0 .sub (.t 58) (.c (.int .i64 1))⟩, ⟨some 60, none, .iaddrS 1 (.t 56) (.t 59)⟩, ⟨some 61, none, .load false 1 (.t 60)⟩, ⟨some 62, none, .bin 0 .add (.t 61) (.c (.int .i64 1))⟩, ⟨some 63, none, .iaddrS 1 (.t 56) (.t 59)⟩, ⟨none, none, .store 1 (.t 63) (.t 62)⟩])
  (.goto 1))))
def A63m : ACode := .seq (.seq (.reg [⟨some 9, none, .mv (.t 7)⟩, ⟨some 10, none, .len false (.t 9)⟩, ⟨some 11, none, .mv (.t 0)⟩, ⟨some 12, none, .bin 0 .eql (.t 10) (.t 11)⟩])
  (.cond (.t 12) (.seq (.reg [⟨some 13, none, .mv (.t 7)⟩, ⟨some 6, none, .mv (.t 13)⟩])
  (.ret)) (.skip)))
  (.seq (.regd [⟨some 14, none, .mv (.t 7)⟩, ⟨some 15, none, .mv (.t 7)⟩, ⟨some 16, none, .len false (.t 15)⟩, ⟨some 17, none, .mv (.t 7)⟩, ⟨some 18, none, .len false (.t 17)⟩, ⟨some 19, none, .slice 1 (.t 14) none (some (.t 16)) (some (.t 18))⟩, ⟨some 20, none, .mv (.t 7)⟩, ⟨some 21, none, .mv (.t 7)⟩, ⟨some 22, none, .len false (.t 21)⟩, ⟨some 23, none, .bin 0 .sub (.t 22) (.c (.int .i64 1))⟩, ⟨some 24, none, .iaddrS 1 (.t 20) (.t 23)⟩, ⟨some 25, none, .load false 1 (.t 24)⟩, ⟨some 26, none, .bin 0 .add (.t 25) (.c (.int .i64 1))⟩, ⟨some 27, none, .buildSl 1 [.t 26]⟩, ⟨some 28, none, .appm 1 (.t 19) (.t 27)⟩, ⟨some 7, none, .mv (.t 28)⟩])
  (.seq (.label 1)
  A63k))
theorem A63_eq : A63 = .seq (.reg [⟨some 6, none, .mv (.c (.nilsl))⟩])
  (.jump (.seq (.reg [⟨some 8, none, .buildSl 1 [.c (.int .i64 0)]⟩, ⟨some 7, none, .mv (.t 8)⟩])
  (.seq (.label 0)
  A63m)) 0 (.seq (.skip)
  A63m) 1 (.seq (.skip)
  A63k)) := rfl

/-- the numbers from a to last -/
def cand (a last : Int) : List Int := (List.range (last + 1 - a).toNat).map fun (i : Nat) => a + (i : Int)
theorem cand_c {a last : Int} (h : a ≤ last) : cand a last = a :: cand (a + 1) last := by
  unfold cand
  rw [show (last + 1 - a).toNat = (last + 1 - (a + 1)).toNat + 1 by omega, List.range_succ_eq_map, List.map_cons, List.map_map]
  congr 1
  · simp
  · apply List.map_congr_left
    intro i _
    simp; omega
theorem cand_n {a last : Int} (h : last < a) : cand a last = [] := by
  unfold cand
  rw [show (last + 1 - a).toNat = 0 by omega]; rfl
def lastN (l : List Int) : Int := l.reverse.headD 0
theorem lastN_snoc (l : List Int) (p : Int) : lastN (l ++ [p]) = p := by simp [lastN]
/-- the first extension by r numbers of which all beginnings are accepted -/
def ext (acc : List Int → Bool) (last : Int) : Nat → List Int → Option (List Int)
  | 0, l => some l
  | r + 1, l => (cand (lastN l + 1) last).findSome? fun q => if acc (l ++ [q]) = true then ext acc last r (l ++ [q]) else none
def tryF (acc : List Int → Bool) (last : Int) (r : Nat) (l : List Int) (p : Int) : Option (List Int) := (cand p last).findSome? fun q => if acc (l ++ [q]) = true then ext acc last r (l ++ [q]) else none
theorem ext_s {acc : List Int → Bool} {last : Int} {r : Nat} {l : List Int} : ext acc last (r + 1) l = tryF acc last r l (lastN l + 1) := rfl
theorem tryF_c {acc : List Int → Bool} {last : Int} {r : Nat} {l : List Int} {p : Int} (h : p ≤ last) : tryF acc last r l p = if acc (l ++ [p]) = true then (ext acc last r (l ++ [p])).or (tryF acc last r l (p + 1)) else tryF acc last r l (p + 1) := by
  unfold tryF
  rw [cand_c h, List.findSome?_cons]
  by_cases ha : acc (l ++ [p]) = true
  · rw [if_pos ha, if_pos ha]
    cases ext acc last r (l ++ [p]) <;> rfl
  · rw [if_neg ha, if_neg ha]
theorem tryF_n {acc : List Int → Bool} {last : Int} {r : Nat} {l : List Int} {p : Int} (h : last < p) : tryF acc last r l p = none := by
  unfold tryF; rw [cand_n h]; rfl
/-- what is found after the last number was given up (the list turned around) -/
def backR (acc : List Int → Bool) (last : Int) (cr : Nat) : List Int → Option (List Int)
  | [] => none
  | p :: rest => if rest = [] then none else (tryF acc last (cr - (rest.length + 1)) rest.reverse (p + 1)).or (backR acc last cr rest)
def lookR (acc : List Int → Bool) (last : Int) (cr : Nat) (p : Int) (rest : List Int) : Option (List Int) := (tryF acc last (cr - (rest.length + 1)) rest.reverse p).or (backR acc last cr rest)
def moreR (acc : List Int → Bool) (last : Int) (cr : Nat) (p : Int) (rest : List Int) : Option (List Int) := (ext acc last (cr - (rest.length + 1)) (rest.reverse ++ [p])).or (backR acc last cr (p :: rest))
theorem moreR_0 {acc : List Int → Bool} {last : Int} {cr : Nat} : moreR acc last cr 0 [] = ext acc last (cr - 1) [0] := by
  unfold moreR
  simp [backR]
theorem moreR_full {acc : List Int → Bool} {last : Int} {cr : Nat} {p : Int} {rest : List Int} (h : rest.length + 1 = cr) : moreR acc last cr p rest = some (rest.reverse ++ [p]) := by
  unfold moreR
  rw [h, Nat.sub_self]; rfl
theorem moreR_look {acc : List Int → Bool} {last : Int} {cr : Nat} {p : Int} {rest : List Int} (h : rest.length + 1 < cr) : moreR acc last cr p rest = lookR acc last cr (p + 1) (p :: rest) := by
  unfold moreR lookR
  rw [show cr - (rest.length + 1) = (cr - ((p :: rest).length + 1)) + 1 by simp only [List.length_cons]; omega, ext_s, lastN_snoc, List.reverse_cons]
theorem lookR_acc {acc : List Int → Bool} {last : Int} {cr : Nat} {p : Int} {rest : List Int} (h : p ≤ last) (hne : rest ≠ []) (ha : acc (rest.reverse ++ [p]) = true) : lookR acc last cr p rest = moreR acc last cr p rest := by
  unfold lookR moreR
  rw [tryF_c h, if_pos ha, backR, if_neg hne, Option.or_assoc]
theorem lookR_next {acc : List Int → Bool} {last : Int} {cr : Nat} {p : Int} {rest : List Int} (h : p ≤ last) (ha : ¬ acc (rest.reverse ++ [p]) = true) : lookR acc last cr p rest = lookR acc last cr (p + 1) rest := by
  unfold lookR
  rw [tryF_c h, if_neg ha]
theorem lookR_none {acc : List Int → Bool} {last : Int} {cr : Nat} {p q : Int} (h : last < p) : lookR acc last cr p [q] = none := by
  unfold lookR
  rw [tryF_n h]
  simp [backR]
theorem lookR_pop {acc : List Int → Bool} {last : Int} {cr : Nat} {p q : Int} {r2 : List Int} (h : last < p) (hne : r2 ≠ []) : lookR acc last cr p (q :: r2) = lookR acc last cr (q + 1) r2 := by
  unfold lookR
  rw [tryF_n h, Option.none_or, backR, if_neg hne]
/-! a number that every jump lowers -/
def VV (last : Int) : List Int → Nat
  | [] => 0
  | p :: rest => if rest = [] then 0 else VV last rest * (last + 3).toNat + (last + 2 - p).toNat
def WW (last : Int) (cr : Nat) (p : Int) (rest : List Int) : Nat := (VV last (p :: rest) + 1) * (last + 3).toNat ^ (cr - (rest.length + 1))
theorem WW_inc {last : Int} {cr : Nat} {p : Int} {rest : List Int} (h : p ≤ last + 1) (hl : -2 ≤ last) (hne : rest ≠ []) : WW last cr (p + 1) rest < WW last cr p rest := by
  unfold WW
  refine Nat.mul_lt_mul_of_pos_right ?_ (Nat.pow_pos (by omega))
  simp only [VV, if_neg hne]
  omega
theorem WW_push {last : Int} {cr : Nat} {p : Int} {rest : List Int} (h0 : 0 ≤ p) (hl : 0 ≤ last) (hlt : rest.length + 1 < cr) : WW last cr (p + 1) (p :: rest) < WW last cr p rest := by
  unfold WW
  rw [show cr - (rest.length + 1) = (cr - ((p :: rest).length + 1)) + 1 by simp only [List.length_cons]; omega, Nat.pow_succ, Nat.mul_comm (_ ^ _), ← Nat.mul_assoc]
  refine Nat.mul_lt_mul_of_pos_right ?_ (Nat.pow_pos (by omega))
  have e : VV last ((p + 1) :: p :: rest) = VV last (p :: rest) * (last + 3).toNat + (last + 2 - (p + 1)).toNat := by simp only [VV, if_neg (List.cons_ne_nil p rest)]
  rw [e, Nat.add_mul]
  omega
theorem WW_pop {last : Int} {cr : Nat} {p q : Int} {r2 : List Int} (hl : -2 ≤ last) (hq : q ≤ last + 1) (hne : r2 ≠ []) (hlt : r2.length + 2 ≤ cr) : WW last cr (q + 1) r2 < WW last cr p (q :: r2) := by
  unfold WW
  rw [show cr - (r2.length + 1) = (cr - ((q :: r2).length + 1)) + 1 by simp only [List.length_cons]; omega, Nat.pow_succ, Nat.mul_comm (_ ^ _), ← Nat.mul_assoc]
  refine Nat.mul_lt_mul_of_pos_right ?_ (Nat.pow_pos (by omega))
  have e : VV last (p :: q :: r2) = VV last (q :: r2) * (last + 3).toNat + (last + 2 - p).toNat := by rw [VV, if_neg (List.cons_ne_nil q r2)]
  have e2 : VV last (q :: r2) = VV last r2 * (last + 3).toNat + (last + 2 - q).toNat := by rw [VV, if_neg hne]
  have e3 : VV last ((q + 1) :: r2) = VV last r2 * (last + 3).toNat + (last + 2 - (q + 1)).toNat := by rw [VV, if_neg hne]
  rw [e, e3]
  have : VV last r2 * (last + 3).toNat + (last + 2 - (q + 1)).toNat + 1 ≤ VV last (q :: r2) := by rw [e2]; omega
  have := Nat.mul_le_mul_right (last + 3).toNat this
  omega
/-- what accept is asked of -/
structure VA (cr : Nat) (last : Int) (L : List Int) : Prop where
  two : 2 ≤ L.length
  le : L.length ≤ cr
  bd : ∀ n ∈ L, 0 ≤ n ∧ n ≤ last
  asc : L.Pairwise (· < ·)
structure VS (cr : Nat) (last : Int) (p : Int) (rest : List Int) : Prop where
  le : rest.length + 1 ≤ cr
  bd : ∀ n ∈ rest, 0 ≤ n ∧ n ≤ last
  p0 : 0 ≤ p
  p1 : p ≤ last + 1
  asc : (p :: rest).Pairwise (· > ·)
theorem VS.va {cr : Nat} {last p : Int} {rest : List Int} (h : VS cr last p rest) (hp : p ≤ last) (hne : rest ≠ []) : VA cr last (rest.reverse ++ [p]) := by
  have h1 := List.length_pos_iff.2 hne
  refine ⟨by simp; omega, by have := h.le; simp; omega, fun n hn => ?_, ?_⟩
  · rcases List.mem_append.1 hn with hn | hn
    · exact h.bd n (List.mem_reverse.1 hn)
    · rw [List.mem_singleton.1 hn]; exact ⟨h.p0, hp⟩
  · rw [← List.reverse_cons, List.pairwise_reverse]
    exact h.asc.imp fun h => h
theorem VS.push {cr : Nat} {last p : Int} {rest : List Int} (h : VS cr last p rest) (hp : p ≤ last) (hlt : rest.length + 1 < cr) : VS cr last (p + 1) (p :: rest) := by
  refine ⟨by simp only [List.length_cons]; omega, fun n hn => ?_, by have := h.p0; omega, by omega, ?_⟩
  · rcases List.mem_cons.1 hn with rfl | hn
    · exact ⟨h.p0, hp⟩
    · exact h.bd n hn
  · refine List.pairwise_cons.2 ⟨fun n hn => ?_, h.asc⟩
    rcases List.mem_cons.1 hn with rfl | hn
    · omega
    · have := (List.pairwise_cons.1 h.asc).1 n hn; omega
theorem VS.inc {cr : Nat} {last p : Int} {rest : List Int} (h : VS cr last p rest) (hp : p ≤ last) : VS cr last (p + 1) rest := by
  refine ⟨h.le, h.bd, by have := h.p0; omega, by omega, ?_⟩
  obtain ⟨h1, h2⟩ := List.pairwise_cons.1 h.asc
  exact List.pairwise_cons.2 ⟨fun n hn => by have := h1 n hn; omega, h2⟩
theorem VS.pop {cr : Nat} {last p q : Int} {r2 : List Int} (h : VS cr last p (q :: r2)) : VS cr last (q + 1) r2 := by
  have hq := h.bd q (by simp)
  have := h.le
  simp only [List.length_cons] at this
  refine ⟨by omega, fun n hn => h.bd n (by simp [hn]), by omega, by omega, ?_⟩
  obtain ⟨h1, h2⟩ := List.pairwise_cons.1 (List.pairwise_cons.1 h.asc).2
  exact List.pairwise_cons.2 ⟨fun n hn => by have := h1 n hn; omega, h2⟩
theorem mcont_take {K : List Int} {m : Nat} (h : m ≤ K.length) : mcont false 1 0 m (ints K) = some (ints (K.take m)) := by
  unfold mcont
  rw [if_pos ⟨by simp [ints]; omega, .inr rfl⟩]
  congr 1
  refine List.ext_getElem (by simp [ints]; omega) fun i h1 h2 => ?_
  have hi : i < K.length := by simp [ints] at h2; omega
  simp [ints, List.getD, hi]
theorem frz_take {hp : Nat → Option (List AV)} {b : Nat} {K : List Int} {m : Nat} {ex : Bool} (hb : hp b = some (ints K)) (h : m ≤ K.length) : frz hp 2 (.msl false 1 b 0 m ex) = .sl 1 (ints (K.take m)) (if ex = true then .exact else .shared) := by
  rw [frz_msl, frzL_msl hb (mcont_take h), map_frz_ints]
def fsV : Option (List Int) → AV
  | none => .nilsl
  | some l => .sl 1 (ints l) .shared
theorem fsV_plain (o : Option (List Int)) : (fsV o).plain = true := by
  cases o with
  | none => rfl
  | some l => exact plain_ints l
theorem fsV_asI {o : Option (List Int)} (h : (o.getD []).length < 4294967296) : asI (fsV o) = some (o.getD []) := by
  cases o with
  | none => rfl
  | some l => exact asI_sl h
theorem take_mid {rest R : List Int} {p : Int} : (rest.reverse ++ p :: R).take (rest.length + 1) = rest.reverse ++ [p] := by
  have e : rest.reverse ++ p :: R = (rest.reverse ++ [p]) ++ R := by simp
  rw [e, show rest.length + 1 = (rest.reverse ++ [p]).length by simp, List.take_left']
  rfl
/-- where the list lies -/
def Rep7 (p : Int) (rest : List Int) (s : AS) : Prop :=
  (s.env 7 = .sl 1 [.int .i64 0] .exact ∧ p = 0 ∧ rest = []) ∨ ∃ b R, s.env 7 = .msl false 1 b 0 (rest.length + 1) false ∧ s.hs.heap b = some (ints (rest.reverse ++ p :: R)) ∧ b < s.hs.nh
structure FI (cr : Nat) (last : Int) (acc : List Int → Bool) (f : FuncId) (xs ys : List AV) (res : Option (List Int)) (x : Bool × Int × List Int) (s : AS) : Prop where
  e0 : s.env 0 = .int .i64 (cr : Int)
  e1 : s.env 1 = .int .i64 last
  e2 : s.env 2 = .fn (.func f) xs ys
  vs : VS cr last x.2.1 x.2.2
  mo : x.1 = true → x.2.1 ≤ last ∧ moreR acc last cr x.2.1 x.2.2 = res
  lo : x.1 = false → x.2.2 ≠ [] ∧ lookR acc last cr x.2.1 x.2.2 = res
  rep : Rep7 x.2.1 x.2.2 s
def muF (last : Int) (cr : Nat) (x : Bool × Int × List Int) : Nat := 2 * WW last cr x.2.1 x.2.2 + (if x.1 = true then 0 else 1)
section
variable {C : PCtx} (hC : CtxOk Try.prog C) {cr : Nat} {last : Int} {acc : List Int → Bool} {f : FuncId} {xs ys : List AV} {res : Option (List Int)} (hcr : cr ≤ 1000) (hl0 : 0 ≤ last) (hl1 : last ≤ 1000)
  (hxs : ∀ h : Nat → Option (List AV), xs.map (frz h 2) = xs) (hys : ∀ h : Nat → Option (List AV), ys.map (frz h 2) = ys)
  (hacc : ∀ (L : List Int), VA cr last L → PCall Try.prog f (xs ++ [.sl 1 (ints L) .shared] ++ ys) (.bool (acc L)))
include hcr hl0 hl1 hxs hys hacc
theorem look63 {G : Nat → AS → Prop} {p : Int} {rest : List Int} {s : AS} (hG : ∀ y s', muF last cr y < muF last cr (false, p, rest) → FI cr last acc f xs ys res y s' → At (G (if y.1 = true then 0 else 1) s'))
    (hI : FI cr last acc f xs ys res (false, p, rest) s) : At (awp Try.prog C A63k (gotoQ G (finQ [.t 6] fun e hs' => ReadsZ 2 (fsV res) e hs')) s) := by
  simp [A63k]
  have hne0 := (hI.lo rfl).1
  simp only at hne0
  refine At.loop (fun (p' : Int) s => p ≤ p' ∧ FI cr last acc f xs ys res (false, p', rest) s ∧ WW last cr p' rest ≤ WW last cr p rest) (fun p' => (last + 1 - p').toNat) p ?_ ?_
  · exact ⟨Int.le_refl _, hI, Nat.le_refl _⟩
  rintro N p' s hN ⟨hpp, ⟨e0, e1, e2, vs, mo, lo, rep⟩, hW⟩
  simp only at vs lo rep
  obtain ⟨hne, hres⟩ := lo trivial
  rcases rep with ⟨_, _, h⟩ | ⟨b, R, e7, hb, hbl⟩
  · exact absurd h hne
  obtain ⟨m, hm⟩ : ∃ m, m = rest.length + 1 := ⟨_, rfl⟩
  rw [← hm] at e7
  have hlen0 := List.length_pos_iff.2 hne
  have hml : rest.length < m := by omega
  have hwm : IntKind.i64.wrap ((m : Int) - 1) = (rest.length : Int) := by have := vs.le; rw [wrap64 (by omega) (by omega)]; omega
  have hkl : rest.length < (ints (rest.reverse ++ p' :: R)).length := by simp [ints]
  have hld : aload s.hs.heap false 1 (.ref b rest.length) = some (.int .i64 p') := by
    rw [load_cell hb hkl]
    simp [ints]
  have hp0 := vs.p0
  simp [e1, e7, hwm, hml, hld]
  refine At.dec (fun hle => ?_) (fun hle => ?_)
  · have hfz : ([AV.msl false 1 b 0 m false]).map (frz s.hs.heap 2) = [.sl 1 (ints (rest.reverse ++ [p'])) .shared] := by
      simp only [List.map_cons, List.map_nil]
      rw [frz_take hb (by simp; omega), hm, take_mid]
      rfl
    have hcall := PCall.lent (hs := s.hs) (args := xs ++ [.msl false 1 b 0 m false] ++ ys) (r := .bool (acc (rest.reverse ++ [p']))) (by
      rw [List.map_append, List.map_append, hxs, hys, hfz]
      exact hacc _ (vs.va hle hne)) rfl
    simp [e2, e7]
    refine At.hc (R := fun e hs' => e = .ret (.bool (acc (rest.reverse ++ [p']))) ∧ hs' = s.hs) (by simpa using hcall) ?_ (fun v hs' h => by cases h.1)
    rintro v hs2 ⟨hv, rfl⟩
    injection hv with hv; subst hv
    cases ha : acc (rest.reverse ++ [p']) with
    | true =>
      simp
      refine hG (true, p', rest) _ ?_ ⟨by simp [e0], by simp [e1], by simp [e2], vs, fun _ => ⟨hle, by rw [← lookR_acc hle hne ha]; exact hres⟩, fun h => (by cases h), .inr ⟨b, R, by simp [e7, hm], by simpa using hb, by simpa using hbl⟩⟩
      unfold muF
      simp only [if_true, Bool.false_eq_true, if_false]
      omega
    | false =>
      have hws : IntKind.i64.wrap (p' + 1) = p' + 1 := wrap64 (by omega) (by omega)
      have hst : astore s.hs.heap 1 (.ref b rest.length) (.int .i64 (p' + 1)) = some (fun k => if k = b then some (ints (rest.reverse ++ (p' + 1) :: R)) else s.hs.heap k) := by
        rw [store_cell hb hkl rfl]
        have : (ints (rest.reverse ++ p' :: R)).set rest.length (.int .i64 (p' + 1)) = ints (rest.reverse ++ (p' + 1) :: R) := by
          simp [ints, List.set_append]
        rw [this]
      simp [e7, hwm, hml, hld, hws, hst]
      have hwi := WW_inc (cr := cr) (rest := rest) (p := p') (last := last) (by omega) (by omega) hne
      refine hN (p' + 1) _ (by omega) ⟨by omega, ⟨by simp [e0], by simp [e1], by simp [e2], vs.inc hle, fun h => (by cases h), fun _ => ⟨hne, by rw [← lookR_next hle (by rw [ha]; simp)]; exact hres⟩, .inr ⟨b, R, by simp [e7, hm], by simp, by simpa using hbl⟩⟩, by omega⟩
  · have hsl : aslice 1 (.msl false 1 b 0 m false) none (some (.int .i64 (rest.length : Int))) none = some (.msl false 1 b 0 rest.length false) := by
      simp only [aslice, aidx, if_true, amslice]
      rw [if_pos ⟨by omega, by omega⟩]
      simp only [amsub, Int.toNat_natCast]
      rw [if_neg (by omega)]
      simp
    simp [e7, hwm, hsl]
    have hle' : last < p' := by omega
    match rest, hne, hres, hb, vs, hsl, hm, hlen0, hW, hml, hwm with
    | [q], _, hres, hb, vs, _, _, _, _, _, _ =>
      rw [lookR_none hle'] at hres
      simp [← hres, fsV]
    | q :: q2 :: r2, _, hres, hb, vs, _, _, _, hW, hml, hwm =>
      rw [lookR_pop hle' (by simp)] at hres
      have hq := vs.bd q (by simp)
      have hle3 := vs.le
      simp only [List.length_cons] at hle3
      have hn1 : ¬ ((q :: q2 :: r2).length = 1) := by simp
      obtain ⟨n, hn⟩ : ∃ n, n = (q2 :: r2).length := ⟨_, rfl⟩
      have hnn : (q :: q2 :: r2).length = n + 1 := by rw [hn]; rfl
      have hn0 : n ≠ 0 := by rw [hn]; simp
      have hnr : n = r2.length + 1 := by rw [hn]; rfl
      rw [hnn] at hn1 ⊢
      have hbK : s.hs.heap b = some (ints ((q2 :: r2).reverse ++ q :: (p' :: R))) := by
        rw [hb]; simp
      have hkl2 : n < (ints ((q2 :: r2).reverse ++ q :: (p' :: R))).length := by rw [hn]; simp [ints]
      have hld2 : aload s.hs.heap false 1 (.ref b n) = some (.int .i64 q) := by
        rw [load_cell hbK hkl2]
        subst hn
        simp [ints]
      have hwn : IntKind.i64.wrap (((n + 1 : Nat) : Int) - 1) = (n : Int) := by rw [wrap64 (by omega) (by omega)]; omega
      have hws : IntKind.i64.wrap (q + 1) = q + 1 := wrap64 (by omega) (by omega)
      have hst : astore s.hs.heap 1 (.ref b n) (.int .i64 (q + 1)) = some (fun k => if k = b then some (ints ((q2 :: r2).reverse ++ (q + 1) :: (p' :: R))) else s.hs.heap k) := by
        rw [store_cell hbK hkl2 rfl]
        have : (ints ((q2 :: r2).reverse ++ q :: (p' :: R))).set n (.int .i64 (q + 1)) = ints ((q2 :: r2).reverse ++ (q + 1) :: (p' :: R)) := by
          subst hn
          simp [ints, List.set_append]
        rw [this]
      have hn1' : ¬ (((n + 1 : Nat) : Int) = 1) := by omega
      have hlt5 : n < n + 1 := by omega
      generalize hN1 : n + 1 = N1 at *
      simp [hn1', hn1, hwn, hlt5, hld2, hws, hst]
      refine hG (false, q + 1, q2 :: r2) _ ?_ ⟨by simp [e0], by simp [e1], by simp [e2], vs.pop, fun h => (by cases h), fun _ => ⟨by simp, hres⟩, .inr ⟨b, p' :: R, by simp [← hN1, hn], by simp, by simpa using hbl⟩⟩
      have := WW_pop (cr := cr) (p := p') (q := q) (r2 := q2 :: r2) (last := last) (by omega) (by omega) (by simp) (by simp only [List.length_cons]; omega)
      unfold muF
      simp only [Bool.false_eq_true, if_false]
      omega
end
end Go.Proofs.Ytokfmcjepkepjaa
set_option linter.unusedVariables false
set_option linter.unusedSimpArgs false
namespace Go.Proofs.Ytokfmcjepkepjaa
open Go Fw

theorem flat_ints (l : List Int) : flat (ints l) = ints l := by
  induction l with
  | nil => rfl
  | cons a l ih => simp only [ints, List.map_cons, flat, ci] at ih ⊢; rw [ih]; rfl
theorem appm_ints {hs : HS} {P : AV} {l : List Int} {q : Int} (h1 : aelemsH hs.heap P = some (ints l)) (h2 : exactA P = true) (h3 : aszOk 1 P = true) (hl : l.length ≤ 1000) :
    aappm 1 hs P (.sl 1 [.int .i64 q] .exact) = some (.msl false 1 hs.nh 0 (l.length + 1) false, { hs with heap := fun i => if i = hs.nh then some (ints (l ++ [q])) else hs.heap i, nh := hs.nh + 1 }) := by
  have e : aelemsH hs.heap (.sl 1 [.int .i64 q] .exact) = some [.int .i64 q] := rfl
  simp only [aappm, h1, e]
  rw [if_pos ⟨h2, h3, by simp [aszOk], by simp [ints]; omega⟩, if_neg (by simp)]
  have e2 : flat (ints l ++ [AV.int .i64 q]) = ints (l ++ [q]) := by
    rw [← flat_ints (l ++ [q])]; simp [ints]
  rw [e2]
  simp [agOf, ints]
section
variable {C : PCtx} (hC : CtxOk Try.prog C) {cr : Nat} {last : Int} {acc : List Int → Bool} {f : FuncId} {xs ys : List AV} {res : Option (List Int)} (hcr : cr ≤ 1000) (hl0 : 0 ≤ last) (hl1 : last ≤ 1000)
  (hxs : ∀ h : Nat → Option (List AV), xs.map (frz h 2) = xs) (hys : ∀ h : Nat → Option (List AV), ys.map (frz h 2) = ys)
  (hacc : ∀ (L : List Int), VA cr last L → PCall Try.prog f (xs ++ [.sl 1 (ints L) .shared] ++ ys) (.bool (acc L)))
include hcr hl0 hl1 hxs hys hacc
theorem more63 (hcr2 : 2 ≤ cr) {G : Nat → AS → Prop} {p : Int} {rest : List Int} {s : AS} (hG : ∀ y s', muF last cr y < muF last cr (true, p, rest) → FI cr last acc f xs ys res y s' → At (G (if y.1 = true then 0 else 1) s'))
    (hI : FI cr last acc f xs ys res (true, p, rest) s) : At (awp Try.prog C A63m (gotoQ G (finQ [.t 6] fun e hs' => ReadsZ 2 (fsV res) e hs')) s) := by
  obtain ⟨e0, e1, e2, vs, mo, lo, rep⟩ := hI
  simp only at vs rep
  obtain ⟨hle, hres⟩ := mo rfl
  simp only at hle hres
  have hp0 := vs.p0
  have hvl := vs.le
  have hws : IntKind.i64.wrap (p + 1) = p + 1 := wrap64 (by omega) (by omega)
  have push : rest.length + 1 < cr → ∀ s' : AS, s'.env 0 = .int .i64 (cr : Int) → s'.env 1 = .int .i64 last → s'.env 2 = .fn (.func f) xs ys → (∃ b, s'.env 7 = .msl false 1 b 0 (rest.length + 1 + 1) false ∧ s'.hs.heap b = some (ints ((rest.reverse ++ [p]) ++ [p + 1])) ∧ b < s'.hs.nh) →
      At (awp Try.prog C A63k (gotoQ G (finQ [.t 6] fun e hs' => ReadsZ 2 (fsV res) e hs')) s') := by
    intro hlt s' a0 a1 a2 ⟨b, a7, hb, hbl⟩
    have hw := WW_push (cr := cr) (p := p) (rest := rest) (last := last) hp0 hl0 hlt
    refine look63 (p := p + 1) (rest := p :: rest) hcr hl0 hl1 hxs hys hacc (fun y s2 hy hF => hG y s2 ?_ hF) ⟨a0, a1, a2, vs.push hle hlt, fun h => (by cases h), fun _ => ⟨by simp, by rw [← moreR_look hlt]; exact hres⟩, .inr ⟨b, [], by simpa using a7, by simpa using hb, hbl⟩⟩
    unfold muF at hy ⊢
    simp only [Bool.false_eq_true, if_false, if_true] at hy ⊢
    omega
  have hb1 : astoAll 1 [AV.int .i64 (p + 1)] = true := by simp [astoAll]
  rcases rep with ⟨e7, hp, hr⟩ | ⟨b, R, e7, hb, hbl⟩
  · subst hp; subst hr
    have hc1 : ¬ ((1 : Int) = (cr : Int)) := by omega
    have hc1' : ¬ (cr = 1) := by omega
    have hsl : aslice 1 (.sl 1 [.int .i64 0] .exact) none (some (.int .i64 1)) (some (.int .i64 1)) = some (.sl 1 [.int .i64 0] .exact) := by
      simp [aslice, aidx, asliceL]
    have hix : aidxS 1 (.sl 1 [.int .i64 0] .exact) (.int .i64 0) = some (.ptr (.int .i64 0)) := rfl
    have hw0 : IntKind.i64.wrap 0 = 0 := by decide
    have hw1 : IntKind.i64.wrap 1 = 1 := by decide
    have hb2 : astoAll 1 [AV.int .i64 1] = true := by simp [astoAll]
    have hap := appm_ints (hs := s.hs) (P := .sl 1 [.int .i64 0] .exact) (l := [0]) (q := 1) rfl rfl (by simp [aszOk]) (by simp)
    simp [A63m, e0, e7, hc1, hc1', hsl, hix, hw0, hw1, hb2, hap]
    refine push (by simp; omega) _ (by simp [e0]) (by simp [e1]) (by simp [e2]) ⟨s.hs.nh, by simp, by simp, by simp⟩
  · obtain ⟨m, hm⟩ : ∃ m, m = rest.length + 1 := ⟨_, rfl⟩
    rw [← hm] at e7
    have hml : rest.length < m := by omega
    have hwm : IntKind.i64.wrap ((m : Int) - 1) = (rest.length : Int) := by rw [wrap64 (by omega) (by omega)]; omega
    have hkl : rest.length < (ints (rest.reverse ++ p :: R)).length := by simp [ints]
    have hld : aload s.hs.heap false 1 (.ref b rest.length) = some (.int .i64 p) := by
      rw [load_cell hb hkl]
      simp [ints]
    by_cases hfull : m = cr
    · have hc : ((m : Int) = (cr : Int)) := by omega
      rw [moreR_full (by omega)] at hres
      simp [A63m, e0, e7, hfull, hc]
      rw [← hfull, hm]
      have := frz_take (ex := false) hb (m := rest.length + 1) (by simp)
      rw [take_mid] at this
      rw [frz_msl] at this
      rw [this, ← hres]
      rw [share_sl, share_ints]
      rfl
    · have hc : ¬ ((m : Int) = (cr : Int)) := by omega
      have hsl : aslice 1 (.msl false 1 b 0 m false) none (some (.int .i64 (m : Int))) (some (.int .i64 (m : Int))) = some (.msl false 1 b 0 m true) := by
        simp only [aslice, aidx, if_true, amslice]
        rw [if_pos ⟨by omega, by omega, trivial⟩]
        simp only [amsub, Int.toNat_natCast]
        rw [if_neg (by omega)]
        simp
      have hel : aelemsH s.hs.heap (.msl false 1 b 0 m true) = some (ints (rest.reverse ++ [p])) := by
        simp only [aelemsH, hb, Option.bind_some]
        rw [hm, mcont_take (by simp), take_mid]
      have hap := appm_ints (hs := s.hs) (P := .msl false 1 b 0 m true) (l := rest.reverse ++ [p]) (q := p + 1) hel rfl (by simp [aszOk]) (by simp; omega)
      simp [A63m, e0, e7, hfull, hc, hsl, hwm, hml, hld, hws, hb1, hap]
      refine push (by omega) _ (by simp [e0]) (by simp [e1]) (by simp [e2]) ⟨s.hs.nh, by simp, by simp, by simp⟩
end
theorem p63 {cr : Nat} {last : Int} {acc : List Int → Bool} {f : FuncId} {xs ys : List AV} (hcr2 : 2 ≤ cr) (hcr : cr ≤ 1000) (hl0 : 0 ≤ last) (hl1 : last ≤ 1000)
    (hxs : ∀ h : Nat → Option (List AV), xs.map (frz h 2) = xs) (hys : ∀ h : Nat → Option (List AV), ys.map (frz h 2) = ys)
    (hacc : ∀ (L : List Int), VA cr last L → PCall Try.prog f (xs ++ [.sl 1 (ints L) .shared] ++ ys) (.bool (acc L))) :
    PCall Try.prog 63 [.int .i64 (cr : Int), .int .i64 last, .fn (.func f) xs ys] (fsV (ext acc last (cr - 1) [0])) := by
  refine PCall.ofZ D2ok ok63 (by simp) (fsV_plain _) fun hs' hb => ?_
  rw [A63_eq]
  simp
  have hvs : VS cr last 0 [] := ⟨by simp; omega, by simp, by omega, by omega, by simp⟩
  have hFI : ∀ s : AS, s.env 0 = .int .i64 (cr : Int) → s.env 1 = .int .i64 last → s.env 2 = .fn (.func f) xs ys → s.env 7 = .sl 1 [.int .i64 0] .exact → FI cr last acc f xs ys (ext acc last (cr - 1) [0]) (true, 0, []) s :=
    fun s a0 a1 a2 a7 => ⟨a0, a1, a2, hvs, fun _ => ⟨hl0, moreR_0⟩, fun h => (by cases h), .inl ⟨a7, rfl, rfl⟩⟩
  refine At.jump (FI cr last acc f xs ys (ext acc last (cr - 1) [0])) (fun x => x.1) (muF last cr) (muF last cr (true, 0, [])) (.inl (by decide)) ?_ ?_
  · intro G hG
    simp [astoAll, si]
    exact more63 hcr hl0 hl1 hxs hys hacc hcr2 hG (hFI _ (by simp) (by simp) (by simp) (by simp))
  · rintro G ⟨m, p, rest⟩ s hG hI
    cases m with
    | true =>
      simp
      exact more63 hcr hl0 hl1 hxs hys hacc hcr2 hG hI
    | false =>
      simp
      exact look63 hcr hl0 hl1 hxs hys hacc hG hI
end Go.Proofs.Ytokfmcjepkepjaa
set_option linter.unusedVariables false
set_option linter.unusedSimpArgs false
namespace Go.Proofs.Ytokfmcjepkepjaa
open Go Fw

def idxP (P : Int → Bool) (l : List Int) : Int := match l.findIdx? P with | some i => i | none => -1
theorem idxP_ge {P : Int → Bool} {l : List Int} : decide (0 ≤ idxP P l) = l.any P := by
  unfold idxP
  cases h : l.findIdx? P with
  | some i =>
    obtain ⟨h1, h2, _⟩ := List.findIdx?_eq_some_iff_getElem.1 h
    have : l.any P = true := List.any_eq_true.2 ⟨l[i], List.getElem_mem _, h2⟩
    simp [this]
  | none =>
    have : l.any P = false := by
      rw [List.any_eq_false]
      intro n hn
      have := List.findIdx?_eq_none_iff.1 h n hn
      simpa using this
    simp [this]
theorem q88 {x : AV} {l : List Int} (hx : asI x = some l) {f : FuncId} {ys : List AV} {P : Int → Bool} {hs : HS} (hf : ∀ n ∈ l, FCall Try.prog f (.int .i64 n :: ys) hs fun e hs' => e = .ret (.bool (P n)) ∧ hs' = hs) :
    FCall Try.prog 88 [x, .fn (.func f) [] ys] hs fun e hs' => e = .ret (.int .i64 (idxP P l)) ∧ hs' = hs := by
  have hl := asI_len hx
  refine FCall.of_body D2ok ok88 (by simp) (At.i ?_)
  simp [A88, R88, alen_of hx]
  refine At.loop (fun (i : Nat) s => i ≤ l.length ∧ s.env 0 = x ∧ s.env 1 = .fn (.func f) [] ys ∧ s.env 7 = .int .i64 (l.length : Int) ∧ s.env 8 = .int .i64 (i : Int) ∧ s.hs = hs ∧ ∀ j (h : j < l.length), j < i → P l[j] = false) (fun i => l.length - i) 0 ?_ ?_
  · simp
  rintro N i s hN ⟨hi, e0, e1, e7, e8, eh, hno⟩
  simp [e7, e8]
  refine At.dec (fun hlt => ?_) (fun hlt => ?_)
  · have hi' : i < l.length := by omega
    simp [e0, e1, e8, aidx_nat hx hi']
    refine At.hc (R := fun e hs' => e = .ret (.bool (P l[i])) ∧ hs' = hs) (by simpa [eh] using hf l[i] (List.getElem_mem _)) ?_ (fun v hs' h => by cases h.1)
    rintro v hs2 ⟨hv, rfl⟩
    injection hv with hv; subst hv
    cases hP : P l[i] with
    | true =>
      have : idxP P l = (i : Int) := by
        unfold idxP
        have : l.findIdx? P = some i := List.findIdx?_eq_some_iff_getElem.2 ⟨hi', hP, fun j hj => by simpa using hno j (by omega) hj⟩
        rw [this]
      simp [this]
    | false =>
      simp [e8]
      refine hN (i + 1) _ (by omega) ⟨by omega, by simp [e0], by simp [e1], by simp [e7], by simp [wrap_nat1 (show i < _ by omega)], by simp, fun j h hj => ?_⟩
      by_cases hji : j = i
      · subst hji; exact hP
      · exact hno j h (by omega)
  · have : idxP P l = -1 := by
      unfold idxP
      have : l.findIdx? P = none := List.findIdx?_eq_none_iff.2 fun n hn => by
        obtain ⟨j, hj, rfl⟩ := List.getElem_of_mem hn
        simpa using hno j hj (by omega)
      rw [this]
    simp [this, eh]
theorem q83 {x : AV} {l : List Int} (hx : asI x = some l) {f : FuncId} {ys : List AV} {P : Int → Bool} {hs : HS} (hf : ∀ n ∈ l, FCall Try.prog f (.int .i64 n :: ys) hs fun e hs' => e = .ret (.bool (P n)) ∧ hs' = hs) :
    FCall Try.prog 83 [x, .fn (.func f) [] ys] hs fun e hs' => e = .ret (.bool (l.any P)) ∧ hs' = hs := by
  refine FCall.of_body D2ok ok83 (by simp) (At.i ?_)
  simp only [← idxP_ge]
  simp [A83, R83]
  refine At.hc (q88 hx hf) ?_ (fun v hs' h => by cases h.1)
  rintro v hs2 ⟨hv, rfl⟩
  injection hv with hv; subst hv
  simp
/-- that a rule is clear that is so without its last cross -/
def grA (L : List Int) : Bool := !(L.dropLast.any fun p => measB L.dropLast (lastN L - p))
theorem grA_snoc (l : List Int) (q : Int) : grA (l ++ [q]) = !(l.any fun p => measB l (q - p)) := by
  unfold grA
  rw [List.dropLast_concat, lastN_snoc]
theorem snoc_of {L : List Int} (h : L ≠ []) : ∃ l q, L = l ++ [q] := ⟨L.dropLast, L.getLast h, (List.dropLast_concat_getLast h).symm⟩
theorem q84 {y z : AV} {l : List Int} {q p : Int} (hy : asI y = some (l ++ [q])) (hz : asI z = some l) {r0 r1 : Nat} {hs : HS} (h1 : hs.heap r1 = some (blF 61 fun n => measB l (n : Int))) (h0 : hs.heap r0 = some [z])
    (hp : 0 ≤ p) (hlt : p < q) (hq : q ≤ 60) : FCall Try.prog 84 [.int .i64 p, .ref r1 0, .ptr y, .ref r0 0] hs fun e hs' => e = .ret (.bool (measB l (q - p))) ∧ hs' = hs := by
  obtain ⟨d, hd⟩ : ∃ d : Nat, q - p = (d : Int) := ⟨(q - p).toNat, by omega⟩
  have hix : aidxS 1 y (.int .i64 (l.length : Int)) = some (.ptr (.int .i64 q)) := by
    have := aidx_nat hy (i := l.length) (by simp) (k := .i64)
    simpa using this
  have hw : IntKind.i64.wrap (q - p) = (d : Int) := by rw [wrap64 (by omega) (by omega), hd]
  have hld0 : aload hs.heap false 1 (.ref r0 0) = some z := by rw [la, h0]; rfl
  refine FCall.of_body D2ok ok84 (by simp) (At.i ?_)
  simp [A84, R84, asI_ld hy, hld0, alen_of hz, hix, hw, bl_ix (show d < 61 by omega), bl_ld h1 (show d < 61 by omega)]
  exact At.of (by rw [hd])
theorem p64 {y : AV} {L : List Int} {cr : Nat} {last : Int} (hy : asI y = some L) (hA : VA cr last L) (hcr : cr ≤ 60) (hl : last ≤ 60) : PCall Try.prog 64 [y] (.bool (grA L)) := by
  obtain ⟨l, q, rfl⟩ := snoc_of (L := L) (fun h => by have := hA.two; rw [h] at this; simp at this)
  have h2 := hA.two
  have hle := hA.le
  simp only [List.length_append, List.length_cons, List.length_nil] at h2 hle
  obtain ⟨n, hn⟩ : ∃ n, n = l.length := ⟨_, rfl⟩
  have hlx : alenK false y = some (.int .i64 ((n + 1 : Nat) : Int)) := by rw [alen_of hy]; simp [hn]
  have hasc := List.pairwise_append.1 hA.asc
  have hRl : Rl l := ⟨by omega, fun m hm => by have := hA.bd m (by simp [hm]); omega, hasc.1⟩
  have hwn : IntKind.i64.wrap (n : Int) = (n : Int) := wrap_nat (by omega)
  have ts := slice_take (asI_asV hy) (n := n) (by simp [ints, hn]) (k := .i64)
  have hz : asI (takeV n y) = some l := by
    have := asI_take hy n
    rw [hn, List.take_left'] at this
    · rw [hn]; exact this
    · rfl
  generalize takeV n y = z at *
  obtain ⟨C, hC, k76⟩ : ∃ C, CtxOk Try.prog C ∧ C 76 [z] = some (.agg (blF 61 fun n => measB l (n : Int))) := ⟨_, CtxOk.nil.pt (p76 hz hRl), by simp⟩
  refine PCall.of hC ok64 (by simp) rfl fun hs' hb => ?_
  have b0 : blF 61 (fun _ => false) = [.bool false, .bool false, .bool false, .bool false, .bool false, .bool false, .bool false, .bool false, .bool false, .bool false, .bool false, .bool false, .bool false, .bool false, .bool false, .bool false, .bool false, .bool false, .bool false, .bool false, .bool false, .bool false, .bool false, .bool false, .bool false, .bool false, .bool false, .bool false, .bool false, .bool false, .bool false, .bool false, .bool false, .bool false, .bool false, .bool false, .bool false, .bool false, .bool false, .bool false, .bool false, .bool false, .bool false, .bool false, .bool false, .bool false, .bool false, .bool false, .bool false, .bool false, .bool false, .bool false, .bool false, .bool false, .bool false, .bool false, .bool false, .bool false, .bool false, .bool false, .bool false] := rfl
  generalize hr : hs'.nh = r
  have hne : ¬ r = r + 1 := by omega
  have hst0 : ∀ hp : Nat → Option (List AV), astore (fun i => if i = r then some [.nilsl] else hp i) 1 (.ref r 0) z = some (fun k => if k = r then some [z] else if k = r then some [.nilsl] else hp k) := fun hp => by
    have := store_cell (hp := fun i => if i = r then some [.nilsl] else hp i) (i := r) (o := 0) (ys := [.nilsl]) (v := z) (by simp) (by simp) (by
      rcases asI_inv hz with ⟨h, _⟩ | ⟨c, h⟩ <;> rw [h] <;> rfl)
    simpa using this
  have hst : ∀ hp : Nat → Option (List AV), astore (fun i => if i = r + 1 then some (blF 61 fun _ => false) else hp i) 61 (.ref (r + 1) 0) (.agg (blF 61 fun n => measB l (n : Int))) = some (fun k => if k = r + 1 then some (blF 61 fun n => measB l (n : Int)) else if k = r + 1 then some (blF 61 fun _ => false) else hp k) := fun hp => bl_st (f := fun _ => false) (by simp)
  simp only [A64, R64, ← b0]
  simp [asI_sto hy, asI_ld hy, hlx, hwn, ts, hr, hst0, la, apart, k76, hst, hne]
  refine At.hc (q83 hz (P := fun p => measB l (q - p)) fun p hp => ?_) ?_ (fun v hs' h => by cases h.1)
  · have hbp := hRl.bd p hp
    have hbq := hA.bd q (by simp)
    have hlt : p < q := hasc.2.2 p hp q (by simp)
    exact q84 hy hz (by simp) (by simp [hne]) hbp.1 hlt (by omega)
  rintro v hs2 ⟨hv, rfl⟩
  injection hv with hv; subst hv
  rw [grA_snoc]
  simp
end Go.Proofs.Ytokfmcjepkepjaa
set_option linter.unusedVariables false
set_option linter.unusedSimpArgs false
namespace Go.Proofs.Ytokfmcjepkepjaa
open Go Fw

/-- a copy, and one more number behind it -/
theorem At.snoc {hs : HS} {x : AV} {l : List Int} {K : AV × HS → Prop} (hx : asI x = some l) (hne : l ≠ []) (hl : l.length ≤ 1000)
    (k : ∀ y hs', SameMem hs hs' → (∀ {n : Int} {K2 : AV × HS → Prop}, (∀ Y hs2, (∃ t, Y = .sl 1 (ints (l ++ [n])) (.own t)) → SameMem hs' hs2 → At (K2 (Y, hs2))) → At (optK (aappend 1 hs' y (.sl 1 [.int .i64 n] .exact)) K2)) → At (K (y, hs'))) :
    At (optK (aappend 1 hs (.sl 1 [] .exact) x) K) := by
  obtain ⟨hs1, a1, a2, a3, a4, a5⟩ := append_exact (sz := 1) (hs := hs) (xs := []) (q := x) (ys := ints l) (asI_asV hx) (by simp [ints]; omega) (by simpa [ints] using hne)
  rw [a1]
  refine k _ hs1 a3 ?_
  intro n K2 hK
  obtain ⟨e1, e2⟩ := elems_of (sz := 1) (q := .sl 1 [.int .i64 n] .exact) (ys := [.int .i64 n]) (asV_sl (by simp))
  have := append_eq (sz := 1) (hs := hs1) (p := .sl 1 ([] ++ ints l) (.own hs.nt)) (q := .sl 1 [.int .i64 n] .exact) (xs := ints l) (ys := [.int .i64 n]) (by rfl) e1 (by simp [aszOk]) e2 (by simp [ints]; omega)
  rw [this, if_neg (by simp)]
  simp only [appP, List.nil_append, a2, if_true]
  have e : ints l ++ [AV.int .i64 n] = ints (l ++ [n]) := by simp [ints]
  rw [e]
  exact hK _ _ ⟨_, rfl⟩ ⟨rfl, rfl⟩
def gro (last : Int) : Nat → List Int → Option (List Int)
  | 0, l => if lastN l = last then some l else none
  | r + 1, l => (cand (lastN l + 1) last).findSome? fun q => if grA (l ++ [q]) = true then gro last r (l ++ [q]) else none
def groF (last : Int) (r : Nat) (l : List Int) (p : Int) : Option (List Int) := (cand p last).findSome? fun q => if grA (l ++ [q]) = true then gro last r (l ++ [q]) else none
theorem groF_c {last : Int} {r : Nat} {l : List Int} {p : Int} (h : p ≤ last) : groF last r l p = if grA (l ++ [p]) = true then (gro last r (l ++ [p])).or (groF last r l (p + 1)) else groF last r l (p + 1) := by
  unfold groF
  rw [cand_c h, List.findSome?_cons]
  by_cases ha : grA (l ++ [p]) = true
  · rw [if_pos ha, if_pos ha]
    cases gro last r (l ++ [p]) <;> rfl
  · rw [if_neg ha, if_neg ha]
theorem groF_n {last : Int} {r : Nat} {l : List Int} {p : Int} (h : last < p) : groF last r l p = none := by
  unfold groF; rw [cand_n h]; rfl
theorem fsV_own {l : List Int} : (AV.sl 1 (ints l) .shared) = fsV (some l) := rfl
theorem p65 {last : Int} (hl0 : 0 ≤ last) (hl1 : last ≤ 60) : ∀ (r : Nat) {x : AV} {l : List Int} {cr : Nat}, asI x = some l → l.length + r = cr → cr ≤ 60 → l ≠ [] → Sm l → (∀ n ∈ l, 0 ≤ n ∧ n ≤ last) → (r = 0 → ∃ k, x = .sl 1 (ints l) (.own k)) → PCall Try.prog 65 [x, .int .i64 (cr : Int), .int .i64 last] (fsV (gro last r l)) := by
  intro r
  induction r with
  | zero =>
    intro x l cr hx hlr hcr hne hsm hbd hown
    obtain ⟨k, rfl⟩ := hown rfl
    have hlp := List.length_pos_iff.2 hne
    obtain ⟨n, hn⟩ : ∃ n, l.length = n + 1 := ⟨l.length - 1, by omega⟩
    have hlen : alenK false (.sl 1 (ints l) (.own k)) = some (.int .i64 (cr : Int)) := by rw [alen_of hx, ← hlr]; simp
    have hwn : IntKind.i64.wrap ((cr : Int) - 1) = (n : Int) := by rw [wrap64 (by omega) (by omega)]; omega
    obtain ⟨l', q, rfl⟩ := snoc_of hne
    have hix : aidxS 1 (.sl 1 (ints (l' ++ [q])) (.own k)) (.int .i64 (n : Int)) = some (.ptr (.int .i64 q)) := by
      have hnl : n = l'.length := by simpa using hn.symm
      have := aidx_nat hx (i := l'.length) (by simp) (k := .i64)
      rw [hnl]
      simpa using this
    refine PCall.of D2ok ok65 (by simp) (fsV_plain _) fun hs' hb => ?_
    generalize hX : AV.sl 1 (ints (l' ++ [q])) (.own k) = X at *
    have hXs : X.share = .sl 1 (ints (l' ++ [q])) .shared := by rw [← hX, share_sl, share_ints]; rfl
    simp only [gro, lastN_snoc]
    by_cases hq : q = last
    · rw [if_pos hq]
      simp [A65, R65, hlen, hwn, hix, hq]
      rw [hXs, hq]; rfl
    · rw [if_neg hq]
      simp [A65, R65, hlen, hwn, hix, hq]
      rfl
  | succ r ih =>
    intro x l cr hx hlr hcr hne hsm hbd hown
    have hlp := List.length_pos_iff.2 hne
    obtain ⟨n, hn⟩ : ∃ n, l.length = n + 1 := ⟨l.length - 1, by omega⟩
    have hlen : alenK false x = some (.int .i64 (l.length : Int)) := alen_of hx
    have hlc : ¬ ((l.length : Int) = (cr : Int)) := by omega
    have hlc' : ¬ (l.length = cr) := by omega
    have hwn : IntKind.i64.wrap ((l.length : Int) - 1) = (n : Int) := by rw [wrap64 (by omega) (by omega)]; omega
    have hlast : aidxS 1 x (.int .i64 (n : Int)) = some (.ptr (.int .i64 (lastN l))) := by
      obtain ⟨l', q, rfl⟩ := snoc_of hne
      have hnl : n = l'.length := by simpa using hn.symm
      have := aidx_nat hx (i := l'.length) (by simp) (k := .i64)
      rw [hnl, lastN_snoc]
      simpa using this
    have hlb : 0 ≤ lastN l ∧ lastN l ≤ last := by
      obtain ⟨l', q, rfl⟩ := snoc_of hne
      rw [lastN_snoc]; exact hbd q (by simp)
    have hws : IntKind.i64.wrap (lastN l + 1) = lastN l + 1 := wrap64 (by omega) (by omega)
    have hS : ∀ q : Int, 0 ≤ q → q ≤ last → Sm (l ++ [q]) := fun q h1 h2 m hm => by
      rcases List.mem_append.1 hm with hm | hm
      · exact hsm m hm
      · rw [List.mem_singleton.1 hm]; omega
    have hB : ∀ q : Int, 0 ≤ q → q ≤ last → ∀ n ∈ l ++ [q], 0 ≤ n ∧ n ≤ last := fun q h1 h2 m hm => by
      rcases List.mem_append.1 hm with hm | hm
      · exact hbd m hm
      · rw [List.mem_singleton.1 hm]; exact ⟨h1, h2⟩
    obtain ⟨C, hC, k77, k65⟩ : ∃ C, CtxOk Try.prog C ∧ (∀ d : Int, C 77 [x, .int .i64 d] = some (.bool (measB l d))) ∧ ∀ (t : Nat) (q : Int), 0 ≤ q → q ≤ last → C 65 [.sl 1 (ints (l ++ [q])) (.own t), .int .i64 (cr : Int), .int .i64 last] = some (fsV (gro last r (l ++ [q]))) := by
      refine ⟨_, (CtxOk.nil.fam (g := fun d : Int => [x, .int .i64 d]) (fun d => p77 hx hsm d)).fam (ι := { w : Nat × Int // 0 ≤ w.2 ∧ w.2 ≤ last }) (g := fun w => [.sl 1 (ints (l ++ [w.1.2])) (.own w.1.1), .int .i64 (cr : Int), .int .i64 last]) (r := fun w => fsV (gro last r (l ++ [w.1.2]))) (fun w => ih (asI_sl (by simp; omega)) (by simp; omega) hcr (by simp) (hS w.1.2 w.2.1 w.2.2) (hB w.1.2 w.2.1 w.2.2) (fun _ => ⟨_, rfl⟩)), fun d => ?_, fun t q h1 h2 => ?_⟩
      · rw [fam_ne (by decide)]
        exact fam_eq (g := fun d : Int => [x, .int .i64 d]) (r := fun d : Int => .bool (measB l d)) (fun i j h => by simp at h; rw [h]) d
      · exact fam_eq (ι := { w : Nat × Int // 0 ≤ w.2 ∧ w.2 ≤ last }) (g := fun w => [.sl 1 (ints (l ++ [w.1.2])) (.own w.1.1), .int .i64 (cr : Int), .int .i64 last]) (r := fun w => fsV (gro last r (l ++ [w.1.2]))) (fun i j h => by
          have h1 := congrArg (fun z => match z with | [AV.sl _ ys _, _, _] => ys.getLastD .nilsl | _ => .nilsl) h
          simp [ints] at h1
          rw [h1]) ⟨(t, q), h1, h2⟩
    refine PCall.of hC ok65 (by simp) (fsV_plain _) fun hs' hb => ?_
    have hG : gro last (r + 1) l = groF last r l (lastN l + 1) := rfl
    rw [hG]
    simp [A65, R65, hlen, hlc, hlc', hwn, hlast, hws]
    refine At.loop (fun (p : Int) s => lastN l + 1 ≤ p ∧ p ≤ last + 1 ∧ s.env 0 = x ∧ s.env 1 = .int .i64 (cr : Int) ∧ s.env 2 = .int .i64 last ∧ s.env 7 = .int .i64 p ∧ groF last r l (lastN l + 1) = groF last r l p) (fun p => (last + 1 - p).toNat) (lastN l + 1) ?_ ?_
    · exact ⟨by omega, by omega, by simp, by simp, by simp, by simp, rfl⟩
    rintro N p s hN ⟨hp1, hp2, e0, e1, e2, e7, hf⟩
    by_cases hle : p ≤ last
    rotate_left
    · rw [groF_n (p := p) (by omega)] at hf
      rw [hf]
      simp [e2, e7, hle, fsV]
    rw [groF_c hle] at hf
    have hwp : IntKind.i64.wrap (p + 1) = p + 1 := wrap64 (by omega) (by omega)
    simp [e2, e7, hle]
    refine At.loop (fun (i : Nat) s => i ≤ l.length ∧ s.env 0 = x ∧ s.env 1 = .int .i64 (cr : Int) ∧ s.env 2 = .int .i64 last ∧ s.env 7 = .int .i64 p ∧ s.env 9 = .int .i64 (i : Int) ∧ ∃ b, s.env 8 = .bool b ∧ grA (l ++ [p]) = (b && !(l.drop i).any fun a => measB l (p - a))) (fun i => l.length - i) 0 ?_ ?_
    · exact ⟨by omega, by simp [e0], by simp [e1], by simp [e2], by simp [e7], by simp, true, by simp, by rw [grA_snoc]; simp⟩
    rintro N2 i s hN2 ⟨hi, e0, e1, e2, e7, e9, b, e8, hga⟩
    simp [e0, e9, hlen]
    refine At.dec (fun hlt2 => ?_) (fun hlt2 => ?_)
    · have hi' : i < l.length := by omega
      have hbi := hbd l[i] (List.getElem_mem _)
      have hwd : IntKind.i64.wrap (p - l[i]) = p - l[i] := wrap64 (by omega) (by omega)
      rw [List.drop_eq_getElem_cons hi', List.any_cons] at hga
      cases b with
      | false =>
        simp [e8, e9]
        refine hN2 (i + 1) _ (by omega) ⟨by omega, by simp [e0], by simp [e1], by simp [e2], by simp [e7], by simp [wrap_nat1 (show i < _ by omega)], false, by simp, by rw [hga]; simp⟩
      | true =>
        simp [e0, e7, e8, e9, aidx_nat hx hi', hwd, k77]
        refine hN2 (i + 1) _ (by omega) ⟨by omega, by simp [e0], by simp [e1], by simp [e2], by simp [e7], by simp [wrap_nat1 (show i < _ by omega)], !measB l (p - l[i]), by simp, by rw [hga]; cases measB l (p - l[i]) <;> simp⟩
    · have hie : i = l.length := by omega
      subst hie
      rw [List.drop_length] at hga
      simp only [List.any_nil, Bool.not_false, Bool.and_true] at hga
      subst hga
      cases hgr : grA (l ++ [p]) with
      | false =>
        rw [hgr] at hf e8
        simp only [Bool.false_eq_true, if_false] at hf
        simp [e7, e8, hwp]
        refine hN (p + 1) _ (by omega) ⟨by omega, by omega, by simp [e0], by simp [e1], by simp [e2], by simp, hf⟩
      | true =>
        rw [hgr] at hf e8
        rw [if_pos rfl] at hf
        simp [e0, e7, e8, astoAll]
        refine At.snoc hx hne (by omega) ?_
        rintro y hs2 m1 hK
        simp [e7, astoAll, si]
        refine hK ?_
        rintro Y hs3 ⟨t, hY⟩ m2
        have k65' := k65 t p (by omega) hle
        rw [← hY] at k65'
        simp [e1, e2, k65']
        cases hgo : gro last r (l ++ [p]) with
        | none =>
          rw [hgo, Option.none_or] at hf
          simp [fsV, e7, hwp]
          refine hN (p + 1) _ (by omega) ⟨by omega, by omega, by simp [e0], by simp [e1], by simp [e2], by simp, hf⟩
        | some L =>
          rw [hgo, Option.some_or] at hf
          rw [hf]
          simp [fsV]
end Go.Proofs.Ytokfmcjepkepjaa
set_option linter.unusedVariables false
set_option linter.unusedSimpArgs false
namespace Go.Proofs.Ytokfmcjepkepjaa
open Go Fw

theorem wyN_bd {l : List Int} {size : Int} (h1 : 1 ≤ size) (hb : ∀ n ∈ l, 0 ≤ n ∧ n < size) {p : Pr} (g1 : p.1 < l.length) (g2 : p.2 < l.length) : 0 ≤ wyN l size p ∧ wyN l size p < size := by
  have b1 := hb l[p.1] (List.getElem_mem _)
  have b2 := hb l[p.2] (List.getElem_mem _)
  have hd : dsN l p = l[p.2] - l[p.1] := by rw [dsN, getD_of g1, getD_of g2]
  unfold wyN
  exact ⟨Int.tmod_nonneg _ (by omega), Int.tmod_lt_of_pos _ (by omega)⟩
def stW (l : List Int) (size : Int) (f : Nat → Bool) (p : Pr) : (Nat → Bool) × Bool := (fun j => if j = (wyN l size p).toNat then true else f j, true)
theorem foldW (l : List Int) (size : Int) : ∀ (ps : List Pr) (f : Nat → Bool) (j : Nat), foldS (stW l size) f ps j = (f j || ps.any fun p => decide (j = (wyN l size p).toNat))
  | [], f, j => by simp [foldS]
  | p :: ps, f, j => by
    have : foldS (stW l size) f (p :: ps) = foldS (stW l size) (stW l size f p).1 ps := by simp [foldS, stW]
    rw [this, foldW l size ps]
    simp only [stW, List.any_cons]
    by_cases h : j = (wyN l size p).toNat
    · simp [h]
    · simp [h]
theorem q68 {x : AV} {l : List Int} {size : Int} (hx : asI x = some l) (h1 : 1 ≤ size) (h2 : size ≤ 40) (hb : ∀ n ∈ l, 0 ≤ n ∧ n < size) {q : Nat} {f : Nat → Bool} {p : Pr} (g1 : p.1 < l.length) (g2 : p.2 < l.length) {hs : HS} (hq : hs.heap q = some (blF 40 f)) (hlt : q < hs.nh) :
    FCall Try.prog 68 [prA p, .ref q 0, .ptr x, .ptr (.int .i64 size)] hs fun e hs' => e = .ret (.bool (stW l size f p).2) ∧ hs'.heap q = some (blF 40 (stW l size f p).1) ∧ q < hs'.nh := by
  have hd := wyN_bd h1 hb g1 g2
  have hsm : Sm l := fun n hn => by have := hb n hn; omega
  obtain ⟨d, hdd⟩ : ∃ d : Nat, wyN l size p = (d : Int) := ⟨(wyN l size p).toNat, by omega⟩
  obtain ⟨C, hC, k69⟩ : ∃ C, CtxOk Try.prog C ∧ C 69 [x, .int .i64 size] = some (.fn (.func 85) [] [.ptr x.share, .ptr (.int .i64 size)]) := ⟨_, CtxOk.nil.pt (p69 hx size), by simp⟩
  refine FCall.of_body hC ok68 (by simp) (At.i ?_)
  simp [A68, R68, prA_sto, asI_ld hx, k69, prA_ld]
  refine At.hc ((p85 (asI_share' hx) hsm h1 (by omega) g1 g2).fcall hs) ?_ (fun v hs' h => by cases h.1)
  rintro v hs2 ⟨hv, rfl⟩
  injection hv with hv; subst hv
  rw [hdd]
  simp [bl_ix (show d < 40 by omega), bl_sc hq (show d < 40 by omega)]
  exact At.of ⟨rfl, by simp [stW, hdd], hlt⟩
def usW (l : List Int) (size : Int) (j : Nat) : Bool := (resG l.length 0).any fun p => decide (j = (wyN l size p).toNat)
/-- the ways of one more cross, one after the other -/
def roF (size q : Int) : List Int → Bool → (Nat → Bool) → Bool
  | [], g, _ => g
  | a :: t, g, f => roF size q t (g && !f (q - a).toNat && !f (size - (q - a)).toNat && decide (2 * (q - a) ≠ size)) (fun j => decide (j = (size - (q - a)).toNat) || (decide (j = (q - a).toNat) || f j))
def roA (size : Int) (L : List Int) : Bool := roF size (lastN L) L.dropLast true (usW L.dropLast size)
theorem roA_snoc (size : Int) (l : List Int) (q : Int) : roA size (l ++ [q]) = roF size q l true (usW l size) := by
  unfold roA
  rw [List.dropLast_concat, lastN_snoc]
theorem wyN_app {l : List Int} {q size : Int} {p : Pr} (h1 : p.1 < l.length) (h2 : p.2 < l.length) : wyN (l ++ [q]) size p = wyN l size p := by
  unfold wyN dsN
  have e1 : (l ++ [q]).getD p.1 0 = l.getD p.1 0 := by simp [List.getD, List.getElem?_append_left h1]
  have e2 : (l ++ [q]).getD p.2 0 = l.getD p.2 0 := by simp [List.getD, List.getElem?_append_left h2]
  rw [e1, e2]
theorem usW_app {l : List Int} {q size : Int} : blF 40 (foldS (stW (l ++ [q]) size) (fun _ => false) (resG l.length 0)) = blF 40 (usW l size) := by
  congr 1
  funext j
  rw [foldW, Bool.false_or]
  unfold usW
  rw [Bool.eq_iff_iff, List.any_eq_true, List.any_eq_true]
  constructor
  · rintro ⟨p, hp, e⟩
    obtain ⟨h1, h2, _⟩ := mem_resG.1 hp
    exact ⟨p, hp, by rw [← wyN_app (q := q) h1 h2]; exact e⟩
  · rintro ⟨p, hp, e⟩
    obtain ⟨h1, h2, _⟩ := mem_resG.1 hp
    exact ⟨p, hp, by rw [wyN_app h1 h2]; exact e⟩
theorem p66 {y : AV} {L : List Int} {cr : Nat} {size : Int} (hy : asI y = some L) (h1 : 2 ≤ size) (h2 : size ≤ 40) (hA : VA cr (size - 1) L) (hcr : cr ≤ 60) : PCall Try.prog 66 [y, .ptr (.int .i64 size)] (.bool (roA size L)) := by
  obtain ⟨l, q, rfl⟩ := snoc_of (L := L) (fun h => by have := hA.two; rw [h] at this; simp at this)
  have h2' := hA.two
  have hle := hA.le
  simp only [List.length_append, List.length_cons, List.length_nil] at h2' hle
  obtain ⟨n, hn⟩ : ∃ n, n = l.length := ⟨_, rfl⟩
  have hlx : alenK false y = some (.int .i64 ((n + 1 : Nat) : Int)) := by rw [alen_of hy]; simp [hn]
  have hasc := List.pairwise_append.1 hA.asc
  have hwn : IntKind.i64.wrap (n : Int) = (n : Int) := wrap_nat (by omega)
  have hbL : ∀ m ∈ l ++ [q], 0 ≤ m ∧ m < size := fun m hm => by have := hA.bd m hm; omega
  have hbq := hbL q (by simp)
  have hix : aidxS 1 y (.int .i64 (n : Int)) = some (.ptr (.int .i64 q)) := by
    have := aidx_nat hy (i := l.length) (by simp) (k := .i64)
    rw [hn]
    simpa using this
  have hixi : ∀ i (h : i < l.length), aidxS 1 y (.int .i64 (i : Int)) = some (.ptr (.int .i64 l[i])) := fun i h => by
    have := aidx_nat hy (i := i) (by simp; omega) (k := .i64)
    rw [List.getElem_append_left h] at this
    exact this
  refine PCall.of D2ok ok66 (by simp) rfl fun hs' hb => ?_
  have b0 : blF 40 (fun _ => false) = [.bool false, .bool false, .bool false, .bool false, .bool false, .bool false, .bool false, .bool false, .bool false, .bool false, .bool false, .bool false, .bool false, .bool false, .bool false, .bool false, .bool false, .bool false, .bool false, .bool false, .bool false, .bool false, .bool false, .bool false, .bool false, .bool false, .bool false, .bool false, .bool false, .bool false, .bool false, .bool false, .bool false, .bool false, .bool false, .bool false, .bool false, .bool false, .bool false, .bool false] := rfl
  generalize hr : hs'.nh = r
  rw [roA_snoc]
  simp only [A66, R66, ← b0]
  simp [asI_sto hy, asI_ld hy, hlx, hwn, hr]
  refine At.hc (p67 (S := Nat → Bool) (step := stW (l ++ [q]) size) (J := fun f hs => hs.heap r = some (blF 40 f) ∧ r < hs.nh) (g := 68) (xs := []) (ys := [.ref r 0, .ptr y, .ptr (.int .i64 size)]) (n := n) (by omega) (s0 := fun _ => false) ?_ fun s p hs hp hJ2 => ?_) ?_ (fun v hs' h => by cases h.1)
  · exact ⟨by simp, by simp⟩
  · obtain ⟨g1, g2, _⟩ := mem_resG.1 hp
    exact q68 hy (by omega) h2 hbL (by simp; omega) (by simp; omega) hJ2.1 hJ2.2
  rintro w hs2 ⟨hv, k1, k2⟩
  injection hv with hv; subst hv
  rw [hn, usW_app] at k1
  have hnl : (n : Int) = (l.length : Int) := by omega
  simp
  refine At.loop (fun (i : Nat) s => i ≤ l.length ∧ s.env 1 = .ptr (.int .i64 size) ∧ s.env 2 = .ptr y ∧ s.env 4 = .ref r 0 ∧ s.env 5 = .int .i64 (n : Int) ∧ s.env 15 = .int .i64 (n : Int) ∧ s.env 16 = .int .i64 (i : Int) ∧ ∃ g f, s.env 6 = .bool g ∧ s.hs.heap r = some (blF 40 f) ∧ roF size q l true (usW l size) = roF size q (l.drop i) g f) (fun i => l.length - i) 0 ?_ ?_
  · exact ⟨by omega, by simp, by simp, by simp, by simp, by simp, by simp, true, usW l size, by simp, by simpa using k1, rfl⟩
  rintro N i s hN ⟨hi, e1, e2, e4, e5, e15, e16, g, f, e6, w1, hf⟩
  simp [e15, e16]
  refine At.dec (fun hlt => ?_) (fun hlt => ?_)
  · have hi' : i < l.length := by omega
    rw [List.drop_eq_getElem_cons hi', roF] at hf
    have hbi := hbL l[i] (by simp)
    have hlq : l[i] < q := hasc.2.2 l[i] (List.getElem_mem _) q (by simp)
    obtain ⟨d, hd⟩ : ∃ d : Nat, q - l[i] = (d : Int) := ⟨(q - l[i]).toNat, by omega⟩
    obtain ⟨e, he⟩ : ∃ e : Nat, size - (d : Int) = (e : Int) := ⟨(size - (d : Int)).toNat, by omega⟩
    have hwd : IntKind.i64.wrap (q - l[i]) = (d : Int) := by rw [wrap64 (by omega) (by omega), hd]
    have hwe : IntKind.i64.wrap (size - (d : Int)) = (e : Int) := by rw [wrap64 (by omega) (by omega), he]
    have hw2 : IntKind.i64.wrap (2 * (d : Int)) = 2 * (d : Int) := wrap64 (by omega) (by omega)
    have hd40 : d < 40 := by omega
    have he40 : e < 40 := by omega
    rw [hd, he] at hf
    simp only [Int.toNat_natCast] at hf
    have ld := bl_ld w1 hd40
    have le := bl_ld w1 he40
    have fin : ∀ (g' : Bool) (s' : AS), s'.env 1 = .ptr (.int .i64 size) → s'.env 2 = .ptr y → s'.env 4 = .ref r 0 → s'.env 5 = .int .i64 (n : Int) → s'.env 6 = .bool g' → s'.env 8 = .int .i64 (d : Int) → s'.env 15 = .int .i64 (n : Int) → s'.env 16 = .int .i64 (i : Int) → s'.hs.heap r = some (blF 40 f) →
        (g && !f d && !f e && decide (2 * (d : Int) ≠ size)) = g' → ∀ (Q' : AEx → AS → Prop), (∀ s3, s3.env 1 = .ptr (.int .i64 size) ∧ s3.env 2 = .ptr y ∧ s3.env 4 = .ref r 0 ∧ s3.env 5 = .int .i64 (n : Int) ∧ s3.env 6 = .bool g' ∧ s3.env 15 = .int .i64 (n : Int) ∧ s3.env 16 = .int .i64 (i : Int) ∧ s3.hs.heap r = some (blF 40 fun j => decide (j = e) || (decide (j = d) || f j)) → At (Q' .normal s3)) →
        At (anyW Try.prog D2 [[], [], [], [1, 2], [0, 0], [4, 0], [3, 0, 1, 2, 3, 4, 5], [6, 5, 0, 1, 2, 3, 4, 5]] [⟨some 49, none, .mv (.t 8)⟩, ⟨some 50, none, .load false 1 (.t 1)⟩, ⟨some 51, none, .mv (.t 8)⟩, ⟨some 52, none, .bin 0 .sub (.t 50) (.t 51)⟩, ⟨some 53, none, .iaddrA 40 false 1 (.t 4) (.t 49)⟩, ⟨none, none, .store 1 (.t 53) (.c (.bool true))⟩, ⟨some 54, none, .iaddrA 40 false 1 (.t 4) (.t 52)⟩, ⟨none, none, .store 1 (.t 54) (.c (.bool true))⟩] 8 [] Q' s') := by
      intro g' s' a1 a2 a4 a5 a6 a8 a15 a16 aw hg Q' hQ'
      refine At.any_to (fun s3 => s3.env 1 = .ptr (.int .i64 size) ∧ s3.env 2 = .ptr y ∧ s3.env 4 = .ref r 0 ∧ s3.env 5 = .int .i64 (n : Int) ∧ s3.env 6 = .bool g' ∧ s3.env 15 = .int .i64 (n : Int) ∧ s3.env 16 = .int .i64 (i : Int) ∧ s3.hs.heap r = some (blF 40 fun j => decide (j = e) || (decide (j = d) || f j))) ?_ hQ'
      refine At.any_q 0 endN_p rfl rfl rfl ?_
      simp [a8]
      refine At.any_lg 1 (y := .int .i64 size) (v := .int .i64 size) endN_p rfl rfl (by simp [AS.want]) (by simp [a1]) rfl ?_
      refine At.any_q 2 endN_p rfl rfl rfl ?_
      simp [a8]
      refine At.any_q 3 endN_p rfl rfl rfl ?_
      simp [hwe]
      refine At.any_q 4 endN_p rfl rfl rfl ?_
      simp [a4, bl_ix hd40]
      refine At.any_o 5 rfl rfl ?_
      simp [bl_sc aw hd40]
      refine At.any_o 6 rfl rfl ?_
      simp [a4, bl_ix he40]
      refine At.any_o 7 rfl rfl ?_
      have hst2 := bl_sc (hp := fun k => if k = r then some (blF 40 fun j => if j = d then true else f j) else s'.hs.heap k) (q := r) (n := 40) (f := fun j => if j = d then true else f j) (i := e) (b := true) (by simp) he40
      simp at hst2
      simp [hst2]
      refine At.any_e rfl ?_
      refine At.of ⟨by simp [a1], by simp [a2], by simp [a4], by simp [a5], by simp [a6], by simp [a15], by simp [a16], ?_⟩
      simp
    have hwi := wrap_nat1 (show i < 9223372036854775807 by omega)
    cases hg : g with
    | false =>
      rw [hg] at e6 hf fin
      simp [e1, e2, e5, e6, e16, asI_ld hy, hix, hixi i hi', hwd]
      refine fin false _ (by simp [e1]) (by simp [e2]) (by simp [e4]) (by simp [e5]) (by simp) (by simp) (by simp [e15]) (by simp [e16]) (by simpa using w1) (by simp) _ ?_
      rintro s3 ⟨a1, a2, a4, a5, a6, a15, a16, aw⟩
      simp [a16]
      refine hN (i + 1) _ (by omega) ⟨by omega, by simp [a1], by simp [a2], by simp [a4], by simp [a5], by simp [a15], by simp [hwi], false, _, by simp [a6], by simpa using aw, by rw [hf]; simp⟩
    | true =>
      rw [hg] at e6 hf fin
      cases hfd : f d with
      | true =>
        rw [hfd] at ld
        rw [hfd] at hf
        simp [e1, e2, e4, e5, e6, e16, asI_ld hy, hix, hixi i hi', hwd, bl_ix hd40, ld]
        refine fin false _ (by simp [e1]) (by simp [e2]) (by simp [e4]) (by simp [e5]) (by simp) (by simp) (by simp [e15]) (by simp [e16]) (by simpa using w1) (by simp [hfd]) _ ?_
        rintro s3 ⟨a1, a2, a4, a5, a6, a15, a16, aw⟩
        simp [a16]
        refine hN (i + 1) _ (by omega) ⟨by omega, by simp [a1], by simp [a2], by simp [a4], by simp [a5], by simp [a15], by simp [hwi], false, _, by simp [a6], by simpa using aw, by rw [hf]; simp⟩
      | false =>
        rw [hfd] at ld
        rw [hfd] at hf
        cases hfe : f e with
        | true =>
          rw [hfe] at le
          rw [hfe] at hf
          simp [e1, e2, e4, e5, e6, e16, asI_ld hy, hix, hixi i hi', hwd, hwe, bl_ix hd40, ld, bl_ix he40, le]
          refine fin false _ (by simp [e1]) (by simp [e2]) (by simp [e4]) (by simp [e5]) (by simp) (by simp) (by simp [e15]) (by simp [e16]) (by simpa using w1) (by simp [hfe]) _ ?_
          rintro s3 ⟨a1, a2, a4, a5, a6, a15, a16, aw⟩
          simp [a16]
          refine hN (i + 1) _ (by omega) ⟨by omega, by simp [a1], by simp [a2], by simp [a4], by simp [a5], by simp [a15], by simp [hwi], false, _, by simp [a6], by simpa using aw, by rw [hf]; simp⟩
        | false =>
          rw [hfe] at le
          rw [hfe] at hf
          simp [e1, e2, e4, e5, e6, e16, asI_ld hy, hix, hixi i hi', hwd, hwe, bl_ix hd40, ld, bl_ix he40, le, hw2]
          refine fin (decide (2 * (d : Int) ≠ size)) _ (by simp [e1]) (by simp [e2]) (by simp [e4]) (by simp [e5]) (by simp) (by simp) (by simp [e15]) (by simp [e16]) (by simpa using w1) (by simp [hfd, hfe]) _ ?_
          rintro s3 ⟨a1, a2, a4, a5, a6, a15, a16, aw⟩
          simp [a16]
          refine hN (i + 1) _ (by omega) ⟨by omega, by simp [a1], by simp [a2], by simp [a4], by simp [a5], by simp [a15], by simp [hwi], decide (2 * (d : Int) ≠ size), _, by simp [a6], by simpa using aw, by rw [hf]; simp⟩
  · have hie : i = l.length := by omega
    subst hie
    rw [List.drop_length, roF] at hf
    simp [e6, hf]
end Go.Proofs.Ytokfmcjepkepjaa
set_option linter.unusedVariables false
set_option linter.unusedSimpArgs false
namespace Go.Proofs.Ytokfmcjepkepjaa
open Go Fw

def L1 (R : List Int → AV) : List AV → Option AV
  | [x] => (asI x).map R
  | _ => none
theorem L1_c {f : FuncId} {R : List Int → AV} (h : ∀ {x : AV} {l : List Int}, asI x = some l → PCall Try.prog f [x] (R l)) : ∀ a r, L1 R a = some r → PCall Try.prog f a r := by
  intro a r e
  unfold L1 at e
  split at e <;> (try (cases e; done))
  obtain ⟨l, h1, rfl⟩ := Option.map_eq_some_iff.1 e
  exact h h1
theorem L1_i {R : List Int → AV} {x : AV} {l : List Int} (hx : asI x = some l) : L1 R [x] = some (R l) := by simp [L1, hx]
def L1n (R : List Int → Int → AV) : List AV → Option AV
  | [x, .int .i64 n] => (asI x).map fun l => R l n
  | _ => none
theorem L1n_c {f : FuncId} {R : List Int → Int → AV} (h : ∀ {x : AV} {l : List Int}, asI x = some l → ∀ n, PCall Try.prog f [x, .int .i64 n] (R l n)) : ∀ a r, L1n R a = some r → PCall Try.prog f a r := by
  intro a r e
  unfold L1n at e
  split at e <;> (try (cases e; done))
  obtain ⟨l, h1, rfl⟩ := Option.map_eq_some_iff.1 e
  exact h h1 _
theorem L1n_i {R : List Int → Int → AV} {x : AV} {l : List Int} (hx : asI x = some l) {n : Int} : L1n R [x, .int .i64 n] = some (R l n) := by simp [L1n, hx]
def SLo : List AV → Option AV
  | [x, .int .i64 w, y] => match asI x, asI y with
    | some l, some m => some (loR l w m)
    | _, _ => none
  | _ => none
theorem c28 : ∀ a r, SLo a = some r → PCall Try.prog 28 a r := by
  intro a r h
  unfold SLo at h
  split at h <;> (try (cases h; done))
  split at h <;> (try (cases h; done))
  rename_i l m h1 h2
  injection h with h; subst h
  exact p28 h1 h2 _
theorem c29 : ∀ a r, SLo a = some r → PCall Try.prog 29 a r := by
  intro a r h
  unfold SLo at h
  split at h <;> (try (cases h; done))
  split at h <;> (try (cases h; done))
  rename_i l m h1 h2
  injection h with h; subst h
  exact p29 h1 h2 _
theorem SLo_i {x y : AV} {l m : List Int} (hx : asI x = some l) (hy : asI y = some m) {w : Int} : SLo [x, .int .i64 w, y] = some (loR l w m) := by simp [SLo, hx, hy]
theorem f63g {cr : Nat} {last : Int} (h1 : 2 ≤ cr) (h2 : cr ≤ 60) (h3 : 0 ≤ last) (h4 : last ≤ 60) : PCall Try.prog 63 [.int .i64 (cr : Int), .int .i64 last, .fn (.func 64) [] []] (fsV (ext grA last (cr - 1) [0])) :=
  p63 h1 (by omega) h3 (by omega) (fun _ => rfl) (fun _ => rfl) fun L hA => p64 (asI_sl (by have := hA.le; omega)) hA h2 h4
theorem f63r {cr : Nat} {size : Int} (h1 : 2 ≤ cr) (h2 : cr ≤ 60) (h3 : 2 ≤ size) (h4 : size ≤ 40) : PCall Try.prog 63 [.int .i64 (cr : Int), .int .i64 (size - 1), .fn (.func 66) [] [.ptr (.int .i64 size)]] (fsV (ext (roA size) (size - 1) (cr - 1) [0])) :=
  p63 h1 (by omega) (by omega) (by omega) (fun _ => rfl) (fun _ => rfl) fun L hA => p66 (asI_sl (by have := hA.le; omega)) h3 h4 hA h2
def S63 : List AV → Option AV
  | [.int .i64 cr, .int .i64 last, .fn (.func 64) [] []] => if 2 ≤ cr ∧ cr ≤ 60 ∧ 0 ≤ last ∧ last ≤ 60 then some (fsV (ext grA last (cr.toNat - 1) [0])) else none
  | [.int .i64 cr, .int .i64 last, .fn (.func 66) [] [.ptr (.int .i64 size)]] => if 2 ≤ cr ∧ cr ≤ 60 ∧ 2 ≤ size ∧ size ≤ 40 ∧ last = size - 1 then some (fsV (ext (roA size) (size - 1) (cr.toNat - 1) [0])) else none
  | _ => none
theorem c63 : ∀ a r, S63 a = some r → PCall Try.prog 63 a r := by
  intro a r h
  unfold S63 at h
  split at h <;> (try (cases h; done))
  · split at h <;> (try (cases h; done))
    rename_i cr last hc
    obtain ⟨h1, h2, h3, h4⟩ := hc
    injection h with h; subst h
    obtain ⟨n, rfl⟩ : ∃ n : Nat, cr = (n : Int) := ⟨cr.toNat, by omega⟩
    exact f63g (by omega) (by omega) h3 h4
  · split at h <;> (try (cases h; done))
    rename_i cr last size hc
    obtain ⟨h1, h2, h3, h4, rfl⟩ := hc
    injection h with h; subst h
    obtain ⟨n, rfl⟩ : ∃ n : Nat, cr = (n : Int) := ⟨cr.toNat, by omega⟩
    exact f63r (by omega) (by omega) h3 h4
def S71 : List AV → Option AV
  | [x] => (asI x).bind fun l => if 0 < l.length ∧ Sm l then some (.int .i64 (lenN l)) else none
  | _ => none
theorem c71 : ∀ a r, S71 a = some r → PCall Try.prog 71 a r := by
  intro a r h
  unfold S71 at h
  split at h <;> (try (cases h; done))
  obtain ⟨l, h1, h2⟩ := Option.bind_eq_some_iff.1 h
  split at h2 <;> (try (cases h2; done))
  rename_i hc
  injection h2 with h2; subst h2
  exact p71 h1 hc.2 hc.1
theorem S71_i {x : AV} {l : List Int} (hx : asI x = some l) (h1 : 0 < l.length) (h2 : Sm l) : S71 [x] = some (.int .i64 (lenN l)) := by simp [S71, hx, h1, h2]
def T11 : FuncId → Option Entry
  | 16 => some (.code A16 R16 214)
  | 32 => some (.code A32 R32 25)
  | 34 => some (.code A34 R34 23)
  | 36 => some (.code A36 R36 31)
  | 44 => some (.code A44 R44 4)
  | 17 => some (.spec (L1 twiR))
  | 19 => some (.spec (L1 fun l => diR l true))
  | 21 => some (.spec (L1 fun l => diR l false))
  | 23 => some (.spec SNum)
  | 24 => some (.spec SChk)
  | 26 => some (.spec (L1n coR))
  | 28 => some (.spec SLo)
  | 30 => some (.spec (L1n plR))
  | 38 => some (.spec (L1n arR))
  | 54 => some (.spec SBtw)
  | 59 => some (.spec SClr)
  | 63 => some (.spec S63)
  | 71 => some (.spec S71)
  | _ => none
theorem T11ok : TOk Try.prog T11 := by
  intro f x h
  unfold T11 at h
  split at h <;> (try (cases h; done)) <;> (injection h with h; subst h)
  · exact ⟨_, _, ok16⟩
  · exact ⟨_, _, ok32⟩
  · exact ⟨_, _, ok34⟩
  · exact ⟨_, _, ok36⟩
  · exact ⟨_, _, ok44⟩
  · exact L1_c p17
  · exact L1_c p19
  · exact L1_c p21
  · exact c23
  · exact c24
  · exact L1n_c p26
  · exact c28
  · exact L1n_c p30
  · exact L1n_c p38
  · exact c54 .nil
  · exact c59
  · exact c63
  · exact c71
theorem p16 : PCall Try.prog 16 [] (.bool true) := evTrue T11ok (L := 40) (n := 6) (by decide +kernel)
end Go.Proofs.Ytokfmcjepkepjaa
