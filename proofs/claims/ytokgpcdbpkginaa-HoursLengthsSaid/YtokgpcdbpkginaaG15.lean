/-
  Works as arguments: much larger ones, and others. Own work.
  HoursRooms and HoursSums, walked. Own work.
-/
import Derived.Test.YtokgpcdbpkginaaG3
import Derived.Test.YtokgpcdbpkginaaFx4
set_option linter.unusedVariables false
set_option linter.unusedSimpArgs false
namespace Go.Proofs.Ytokgpcdbpkginaa
open Go Fw

def TWk : Ty := .sl (.isl (.int .i64))
theorem i64_wf {n : Int} (h : (Lit.int .i64 n).wf = true) : -9223372036854775808 ≤ n ∧ n ≤ 9223372036854775807 := by
  have h : IntKind.i64.min ≤ n ∧ n ≤ IntKind.i64.max := by simpa [Lit.wf] using h
  rw [show IntKind.i64.min = -9223372036854775808 by decide, show IntKind.i64.max = 9223372036854775807 by decide] at h
  exact h
theorem i64_typed {x : AV} (h : ShV (.int .i64) x) : ∃ n : Int, x = .int .i64 n ∧ -9223372036854775808 ≤ n ∧ n ≤ 9223372036854775807 := by
  obtain ⟨n, rfl, hn⟩ := shv_int h
  exact ⟨n, rfl, i64_wf hn⟩
/-- a row as an argument -/
theorem row_typed {y : AV} (h : ShV (.isl (.int .i64)) y) : ∃ n : Nat, n ≤ maxLen ∧ alenK false y = some (.int .i64 (n : Int)) ∧ y.leaf = true ∧ (n ≤ 20 → ∃ l : List Int, rowI y = some l ∧ l.length = n) := by
  rcases shv_isl h with rfl | rfl | ⟨ys, rfl, hl, hy⟩
  · exact ⟨0, by simp, rfl, rfl, fun _ => ⟨[], rfl, rfl⟩⟩
  · exact ⟨0, by simp, rfl, rfl, fun _ => ⟨[], rfl, rfl⟩⟩
  · refine ⟨ys.length, hl, rfl, rfl, fun h20 => ?_⟩
    have : ∀ ys : List AV, (∀ y ∈ ys, ShV (.int .i64) y) → ∃ l : List Int, ys = ints l := by
      intro ys
      induction ys with
      | nil => intro _; exact ⟨[], rfl⟩
      | cons y ys ih =>
        intro h
        obtain ⟨n, rfl, _⟩ := shv_int (h y (by simp))
        obtain ⟨l, rfl⟩ := ih fun z hz => h z (by simp [hz])
        exact ⟨n :: l, rfl⟩
    obtain ⟨l, rfl⟩ := this ys hy
    have hll : l.length ≤ 20 := by rw [ints_len] at h20; exact h20
    exact ⟨l, rowI_of (asI_sl (by omega)), by rw [ints_len]⟩
/-- whether a work is much larger than works are -/
theorem p14 {xs : List AV} {c : Cap} {n : Nat → Nat} (hn : ∀ i (h : i < xs.length), alenK false xs[i] = some (.int .i64 (n i : Int)) ∧ xs[i].leaf = true) (hl : xs.length ≤ maxLen) :
    PCall Try.prog 14 [.sl 1 xs c] (.bool (decide (20 < xs.length) || (List.range xs.length).any fun i => decide (20 < n i))) := by
  refine PCall.of D0ok ok14 (by simp) rfl fun hs hb => ?_
  simp [A14, R14]
  by_cases h20 : 20 < xs.length
  · have : (20 : Int) < (xs.length : Int) := by omega
    simp [h20, this]
  have h20i : ¬ (20 : Int) < (xs.length : Int) := by omega
  simp [h20, h20i]
  refine At.loop (fun (i : Nat) s => i ≤ xs.length ∧ s.env 0 = .sl 1 xs c ∧ s.env 3 = .int .i64 (i : Int) ∧ ∀ j, j < i → ¬ 20 < n j) (fun i => xs.length - i) 0 ?_ ?_
  · exact ⟨by omega, by simp, by simp, fun j hj => by omega⟩
  rintro N i s hN ⟨hi, e0, e3, hno⟩
  simp [e0, e3]
  refine At.dec (fun hlt => ?_) (fun hlt => ?_)
  · have hi' : i < xs.length := by omega
    obtain ⟨h1, h2⟩ := hn i hi'
    have hx : aidxS 1 (.sl 1 xs c) (.int .i64 (i : Int)) = some (.ptr xs[i]) := by simp [aidxS, hi']
    by_cases hb20 : 20 < n i
    · have hb2 : (20 : Int) < (n i : Int) := by omega
      have : ((List.range xs.length).any fun i => decide (20 < n i)) = true := List.any_eq_true.2 ⟨i, List.mem_range.2 hi', by simpa using hb20⟩
      simp [e0, e3, hx, leaf_ld h2, h1, hb2, hb20]
      exact ⟨i, hi', hb20⟩
    · have hb2 : ¬ (20 : Int) < (n i : Int) := by omega
      simp [e0, e3, hx, leaf_ld h2, h1, hb2, hb20]
      refine hN (i + 1) _ (by omega) ⟨by omega, by simp [e0], by simp [wrap_nat1 (show i < _ by omega)], fun j hj => ?_⟩
      by_cases e : j = i
      · subst e; exact hb20
      · exact hno j (by omega)
  · have hi' : i = xs.length := by omega
    subst hi'
    simp
    exact fun j hj => by have := hno j hj; omega
theorem p14n : PCall Try.prog 14 [.nilsl] (.bool false) := by
  refine PCall.of D0ok ok14 (by simp) rfl fun hs hb => ?_
  simp [A14, R14]
  refine At.loop (fun (i : Nat) s => s.env 0 = .nilsl ∧ s.env 3 = .int .i64 0) (fun i => i) 0 ⟨by simp, by simp⟩ ?_
  rintro N i s hN ⟨e0, e3⟩
  simp [e0, e3]
theorem wk_typed {x : AV} (h : ShV TWk x) : PCall Try.prog 14 [x] (.bool true) ∨ PCall Try.prog 14 [x] (.bool false) ∧ ∃ m R, IsM x m R ∧ m.length ≤ 20 := by
  rcases shv_sl h with rfl | ⟨xs, rfl, hl, hx⟩
  · exact .inr ⟨p14n, [], fun _ => .nilsl, ⟨by simp, .inl ⟨rfl, rfl⟩, fun i h => by simp at h⟩, by simp⟩
  · have hrow : ∀ i, i < xs.length → ∃ n : Nat, n ≤ maxLen ∧ alenK false (xs.getD i .nilsl) = some (.int .i64 (n : Int)) ∧ (xs.getD i .nilsl).leaf = true ∧ (n ≤ 20 → ∃ l : List Int, rowI (xs.getD i .nilsl) = some l ∧ l.length = n) := fun i hi => by
      have e : xs.getD i .nilsl = xs[i] := by simp [List.getD, hi]
      rw [e]; exact row_typed (hx _ (List.getElem_mem hi))
    obtain ⟨n, hn⟩ := Go.Deep.choose_lt hrow
    have q := p14 (xs := xs) (c := .shared) (n := n) (fun i hi => by
      have := hn i hi
      have e : xs.getD i .nilsl = xs[i] := by simp [List.getD, hi]
      rw [e] at this
      exact ⟨this.2.1, this.2.2.1⟩) hl
    change PCall Try.prog 14 [.sl (Ty.isl (.int .i64)).size xs .shared] _ at q
    by_cases hb : (decide (20 < xs.length) || (List.range xs.length).any fun i => decide (20 < n i)) = true
    · rw [hb] at q; exact .inl q
    · rw [Bool.eq_false_iff.2 hb] at q
      simp only [Bool.or_eq_true, decide_eq_true_eq, not_or] at hb
      have hs : ∀ i, i < xs.length → n i ≤ 20 := fun i hi => by
        rcases Nat.lt_or_ge 20 (n i) with h' | h'
        · exact absurd (List.any_eq_true.2 ⟨i, List.mem_range.2 hi, by simpa using h'⟩) hb.2
        · exact h'
      obtain ⟨L, hL⟩ := Go.Deep.choose_lt fun i hi => (hn i hi).2.2.2 (hs i hi)
      refine .inr ⟨q, (List.range xs.length).map L, fun i => xs.getD i .nilsl, ⟨by simp; omega, .inr ⟨.shared, ?_⟩, fun i hi => ?_⟩, by simp; omega⟩
      · show AV.sl 1 xs .shared = _
        congr 1
        apply List.ext_getElem
        · simp
        · intro i a b
          simp [List.getD, a]
      · have hi' : i < xs.length := by simpa using hi
        rw [(hL i hi').1]
        simp
end Go.Proofs.Ytokgpcdbpkginaa
set_option linter.unusedVariables false
set_option linter.unusedSimpArgs false
namespace Go.Proofs.Ytokgpcdbpkginaa
open Go Fw

theorem asI_oi {l : List Int} (h : l.length ≤ 1000) : ∃ l', asI (outV 1 (ints l)) = some l' := ⟨l, asI_outV (by omega)⟩
theorem busV_is (m : List (List Int)) (seats : Int) : ∃ a b e l1 l2, busV m seats = .tup [a, b, .int .i64 e] ∧ asI a = some l1 ∧ asI b = some l2 := by
  unfold busV
  split
  · rename_i h
    have hw := (chsE_zero.1 h).1
    have h6 := hw.r6
    have hc : cols m ≤ 6 := hw.c6
    refine ⟨_, _, _, _, _, rfl, asI_outV (l := posI (arts m) (short m seats)) ?_, asI_outV (l := posI (machs m) (short m seats)) ?_⟩
    · have := posT_len (arts m) (short m seats) (arts m).length
      unfold posI; rw [arts_len] at *; omega
    · have := posT_len (machs m) (short m seats) (machs m).length
      unfold posI; rw [machs_len] at *; omega
  · exact ⟨_, _, _, [], [], rfl, rfl, rfl⟩
theorem roomV_is (m : List (List Int)) (seats r c : Int) : ∃ n e, roomV m seats r c = .tup [.int .i64 n, .int .i64 e] := by
  unfold roomV
  split
  · split
    · exact ⟨_, _, rfl⟩
    · exact ⟨_, _, rfl⟩
  · exact ⟨_, _, rfl⟩
theorem enoV_is (m : List (List Int)) (t : Int) : ∃ n e, enoV m t = .tup [.int .i64 n, .int .i64 e] := by
  unfold enoV
  split
  · exact ⟨_, _, rfl⟩
  · exact ⟨_, _, rfl⟩
theorem p5 {x : AV} (h14 : PCall Try.prog 14 [x] (.bool true) ∨ PCall Try.prog 14 [x] (.bool false) ∧ ∃ m R, IsM x m R ∧ m.length ≤ 20) (seats r c : Int) {t : Int} (ht : t ≤ 9223372036854775807) :
    PCall Try.prog 5 [x, .int .i64 seats, .int .i64 r, .int .i64 c, .int .i64 t] (.bool true) := by
  rcases h14 with h14 | ⟨h14, m, R, hx, _⟩
  · refine PCall.of ((D0ok.pt h14).pt p15) ok5 (by simp) rfl fun hs hb => ?_
    simp [A5, R5]
  · obtain ⟨a, b, e, l1, l2, hbv, ha, hb⟩ := busV_is m seats
    obtain ⟨n1, e1, hr⟩ := roomV_is m seats r c
    obtain ⟨n2, e2, he⟩ := enoV_is m t
    have q23 := p23 hx seats
    have q24 := p24 hx seats
    have q25 := p25 hx seats r c
    have q26 := p26 hx seats r c
    have q27 := p27 hx ht
    have q28 := p28 hx ht
    rw [hbv] at q23 q24
    rw [hr] at q25 q26
    rw [he] at q27 q28
    obtain ⟨C, hC, k29, n29⟩ := ctx29 ((((((((D0ok.pt h14).pt p15).pt q23).pt q24).pt q25).pt q26).pt q27).pt q28)
    have k14 : C 14 [x] = some (.bool false) := by rw [n29 14 (by decide)]; simp
    have k15 : C 15 [] = some (.bool true) := by rw [n29 15 (by decide)]; simp
    have k23 : C 23 [x, .int .i64 seats] = some (.tup [a, b, .int .i64 e]) := by rw [n29 23 (by decide)]; simp
    have k24 : C 24 [x, .int .i64 seats] = some (.tup [a, b, .int .i64 e]) := by rw [n29 24 (by decide)]; simp
    have k25 : C 25 [x, .int .i64 seats, .int .i64 r, .int .i64 c] = some (.tup [.int .i64 n1, .int .i64 e1]) := by rw [n29 25 (by decide)]; simp
    have k26 : C 26 [x, .int .i64 seats, .int .i64 r, .int .i64 c] = some (.tup [.int .i64 n1, .int .i64 e1]) := by rw [n29 26 (by decide)]; simp
    have k27 : C 27 [x, .int .i64 t] = some (.tup [.int .i64 n2, .int .i64 e2]) := by rw [n29 27 (by decide)]; simp
    have k28 : C 28 [x, .int .i64 t] = some (.tup [.int .i64 n2, .int .i64 e2]) := by rw [n29 28 (by decide)]; simp
    have a29 : ∀ hs y l, asI y = some l → alcall C 29 hs [y, y] = some (.bool true) := fun hs y l hy => alcall_of (by simp only [List.map_cons, List.map_nil, frz_asI hy]; rw [k29 y y l l hy hy]; simp) rfl
    refine PCall.of hC ok5 (by simp) rfl fun hs hbr => ?_
    simp [A5, R5, k14, k15, k23, k24, k25, k26, k27, k28, a29 _ _ _ ha, a29 _ _ _ hb]
theorem rooms_typed (xs : List AV) (h : Typed [TWk, .int .i64, .int .i64, .int .i64, .int .i64] xs) : PCall Try.prog 5 xs (.bool true) := by
  obtain ⟨x, y, z, w, v, rfl, h1, h2, h3, h4, h5⟩ := h.five
  obtain ⟨a, rfl, _⟩ := i64_typed h2
  obtain ⟨b, rfl, _⟩ := i64_typed h3
  obtain ⟨c, rfl, _⟩ := i64_typed h4
  obtain ⟨d, rfl, _, hd⟩ := i64_typed h5
  exact p5 (wk_typed h1) a b c hd
/-! HoursSums -/
theorem sumsR_is (m : List (List Int)) (c : Cap) : ∃ a b e l1 l2, sumsR m c = .tup [a, b, .int .i64 e] ∧ asI a = some l1 ∧ asI b = some l2 ∧ (l1 = if chkE m = 0 then arts m else []) ∧ (l2 = if chkE m = 0 then machs m else []) ∧ e = chkE m := by
  unfold sumsR
  split
  · rename_i h
    have hw := chkE_zero.1 h
    have h6 := hw.r6
    have hc : cols m ≤ 6 := hw.c6
    exact ⟨_, _, _, _, _, rfl, asI_sl (l := arts m) (by rw [arts_len]; omega), asI_sl (l := machs m) (by rw [machs_len]; omega), rfl, rfl, h.symm⟩
  · exact ⟨_, _, _, [], [], rfl, rfl, rfl, rfl, rfl, rfl⟩
theorem bndV_is (m : List (List Int)) (seats a b : Int) : ∃ n e, bndV m seats a b = .tup [.int .i64 n, .int .i64 e] := by
  unfold bndV
  split
  · split
    · exact ⟨_, _, rfl⟩
    · exact ⟨_, _, rfl⟩
  · exact ⟨_, _, rfl⟩
theorem shV_is (m : List (List Int)) (seats : Int) : ∃ n e, shV m seats = .tup [.int .i64 n, .int .i64 e] := by
  unfold shV
  split
  · exact ⟨_, _, rfl⟩
  · exact ⟨_, _, rfl⟩
theorem why_is {x : AV} {m : List (List Int)} {R : Nat → AV} (hx : IsM x m R) (seats : Int) : ∃ a b e : Int, PCall Try.prog 42 [x, .int .i64 seats] (.tup [.agg [.int .i64 a, .int .i64 b], .int .i64 e]) ∧ PCall Try.prog 43 [x, .int .i64 seats] (.tup [.agg [.int .i64 a, .int .i64 b], .int .i64 e]) := by
  by_cases h : chsE m seats = 0
  · obtain ⟨hw, hse⟩ := chsE_zero.1 h
    obtain ⟨w, k, hW⟩ := isWhy_ex hw hse
    exact ⟨_, _, _, p42 hx seats hw hse hW, p43 hx seats hw hse hW⟩
  · exact ⟨_, _, _, p42e hx seats h, p43e hx seats h⟩
set_option maxHeartbeats 1000000 in
theorem p12 {x : AV} (h14 : PCall Try.prog 14 [x] (.bool true) ∨ PCall Try.prog 14 [x] (.bool false) ∧ ∃ m R, IsM x m R ∧ m.length ≤ 20) (seats kd at_ : Int) :
    PCall Try.prog 12 [x, .int .i64 seats, .agg [.int .i64 kd, .int .i64 at_]] (.bool true) := by
  rcases h14 with h14 | ⟨h14, m, R, hx, _⟩
  · refine PCall.of ((D0ok.pt h14).pt p15) ok12 (by simp) rfl fun hs hb => ?_
    simp [A12, R12, sa]
  · obtain ⟨a, b, e, l1, l2, hs1, ha, hb, g1, g2, g3⟩ := sumsR_is m .shared
    obtain ⟨a', b', e', l1', l2', hs2, ha', hb', g1', g2', g3'⟩ := sumsR_is m .exact
    have gl1 : l1' = l1 := by rw [g1, g1']
    have gl2 : l2' = l2 := by rw [g2, g2']
    have ge : e' = e := by rw [g3, g3']
    subst gl1; subst gl2; subst ge
    obtain ⟨n1, e1, hsh⟩ := shV_is m seats
    obtain ⟨n2, e2, hbn⟩ := bndV_is m seats kd at_
    obtain ⟨wa, wb, we, q42, q43⟩ := why_is hx seats
    have q40 := p40 hx
    have q41 := p41 hx
    have q32 := p32 hx seats
    have q17 := p17 hx seats
    have q44 := p44 hx seats kd at_
    have q45 := p45 hx seats kd at_
    have q39 := p39 hx
    have q46 := p46 hx
    rw [hs1] at q40
    rw [hs2] at q41
    rw [hsh] at q32 q17
    rw [hbn] at q44 q45
    obtain ⟨C, hC, k29, n29⟩ := ctx29 (((((((((((((D0ok.pt h14).pt p15).pt q40).pt q41).pt q32).pt q17).pt q42).pt q43).pt q44).pt q45).pt q39).pt q46))
    have k14 : C 14 [x] = some (.bool false) := by rw [n29 14 (by decide)]; simp
    have k15 : C 15 [] = some (.bool true) := by rw [n29 15 (by decide)]; simp
    have k40 : C 40 [x] = some (.tup [a, b, .int .i64 e']) := by rw [n29 40 (by decide)]; simp
    have k41 : C 41 [x] = some (.tup [a', b', .int .i64 e']) := by rw [n29 41 (by decide)]; simp
    have k32 : C 32 [x, .int .i64 seats] = some (.tup [.int .i64 n1, .int .i64 e1]) := by rw [n29 32 (by decide)]; simp
    have k17 : C 17 [x, .int .i64 seats] = some (.tup [.int .i64 n1, .int .i64 e1]) := by rw [n29 17 (by decide)]; simp
    have k42 : C 42 [x, .int .i64 seats] = some (.tup [.agg [.int .i64 wa, .int .i64 wb], .int .i64 we]) := by rw [n29 42 (by decide)]; simp
    have k43 : C 43 [x, .int .i64 seats] = some (.tup [.agg [.int .i64 wa, .int .i64 wb], .int .i64 we]) := by rw [n29 43 (by decide)]; simp
    have k44 : C 44 [x, .int .i64 seats, .agg [.int .i64 kd, .int .i64 at_]] = some (.tup [.int .i64 n2, .int .i64 e2]) := by rw [n29 44 (by decide)]; simp
    have k45 : C 45 [x, .int .i64 seats, .agg [.int .i64 kd, .int .i64 at_]] = some (.tup [.int .i64 n2, .int .i64 e2]) := by rw [n29 45 (by decide)]; simp
    have k39 : C 39 [x] = some (.int .i64 (chkE m)) := by rw [n29 39 (by decide)]; simp
    have k46 : C 46 [x] = some (.int .i64 (chkE m)) := by rw [n29 46 (by decide)]; simp
    have a32 : ∀ hs, alcall C 32 hs [x, .int .i64 seats] = some (.tup [.int .i64 n1, .int .i64 e1]) := fun hs => alcall_of (by simp [hx.frz, k32]) rfl
    have a29 : ∀ hs y z l, asI y = some l → asI z = some l → alcall C 29 hs [y, z] = some (.bool true) := fun hs y z l hy hz => alcall_of (by simp only [List.map_cons, List.map_nil, frz_asI hy, frz_asI hz]; rw [k29 y z l l hy hz]; simp) rfl
    refine PCall.of hC ok12 (by simp) rfl fun hs hbr => ?_
    simp [A12, R12, sa, k14, k15, k40, k41, a32, k17, k42, k43, store_ag]
    simp [k44, k45, a29 _ _ _ _ ha ha', a29 _ _ _ _ hb hb', la, apart, abin_pair, k39, k46, k15]
def TRe : Ty := .st (.fcons (.int .i64) (.fcons (.int .i64) .fnil))
theorem re_typed {x : AV} (h : ShV TRe x) : ∃ a b : Int, x = .agg [.int .i64 a, .int .i64 b] := by
  obtain ⟨cs, rfl, hc⟩ := shv_agg rfl h
  obtain ⟨_, r1, rfl, ⟨a, rfl, ha⟩, hc1⟩ := sh_cons (f := .int .i64) (r := .fcons (.int .i64) .fnil) hc
  obtain ⟨_, r2, rfl, ⟨b, rfl, hb⟩, hc2⟩ := sh_cons hc1
  rw [sh_nil hc2]
  exact ⟨a, b, rfl⟩
theorem sums_typed (xs : List AV) (h : Typed [TWk, .int .i64, TRe] xs) : PCall Try.prog 12 xs (.bool true) := by
  obtain ⟨x, y, z, rfl, h1, h2, h3⟩ := h.three
  obtain ⟨a, rfl, _⟩ := i64_typed h2
  obtain ⟨b, c, rfl⟩ := re_typed h3
  exact p12 (wk_typed h1) a b c
end Go.Proofs.Ytokgpcdbpkginaa
