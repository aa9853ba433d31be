/-
  A copy of a work in memory; with some hours more. Own work.
  HoursMore: the plain law. Own work.
-/
import Derived.Test.YtokgpcdbpkginaaG6
set_option linter.unusedVariables false
set_option linter.unusedSimpArgs false
namespace Go.Proofs.Ytokgpcdbpkginaa
open Go Fw

/-- rows copied into blocks of their own, the first i of them -/
structure LeftM (hs : HS) (q R C : Nat) (D : Nat → List Int) (i : Nat) : Prop where
  cell : ∃ cs, hs.heap q = some cs ∧ cs.length = R ∧ (∀ (j : Nat) (h : j < cs.length), j < i → ∃ k, cs[j] = .osl false 1 (q + 1 + j) C k) ∧ (∀ (j : Nat) (h : j < cs.length), i ≤ j → cs[j] = .nilsl)
  row : ∀ j, j < i → hs.heap (q + 1 + j) = some (ints (D j))
  dl : ∀ j, j < i → (D j).length = C
  nh : q + 1 + i ≤ hs.nh
theorem LeftM.up {hs hs' : HS} {q R C i : Nat} {D : Nat → List Int} (h : LeftM hs q R C D i) (hh : ∀ j, q ≤ j → j < q + 1 + i → hs'.heap j = hs.heap j) (hn : hs.nh ≤ hs'.nh) : LeftM hs' q R C D i :=
  ⟨by rw [hh q (Nat.le_refl _) (by omega)]; exact h.cell, fun j hj => by rw [hh _ (by omega) (by omega)]; exact h.row j hj, h.dl, Nat.le_trans h.nh hn⟩
theorem LeftM.get {hs : HS} {q R C i j : Nat} {D : Nat → List Int} (h : LeftM hs q R C D i) (hj : j < i) (hR : j < R) : ∃ k, aload hs.heap false 1 (.ref q j) = some (.osl false 1 (q + 1 + j) C k) := by
  obtain ⟨cs, h1, h2, h3, h4⟩ := h.cell
  obtain ⟨k, hk⟩ := h3 j (by omega) hj
  exact ⟨k, by rw [load_cell h1 (by omega), hk]⟩
theorem LeftM.put {hs : HS} {q R C i j : Nat} {D : Nat → List Int} (h : LeftM hs q R C D i) (hj : j < i) {l : List Int} (hl : l.length = C) {hs' : HS} (h1 : hs'.heap (q + 1 + j) = some (ints l)) (h2 : ∀ k, k ≠ q + 1 + j → hs'.heap k = hs.heap k) (hn : hs.nh ≤ hs'.nh) :
    LeftM hs' q R C (fun r => if r = j then l else D r) i := by
  refine ⟨by rw [h2 q (by omega)]; exact h.cell, fun r hr => ?_, fun r hr => ?_, Nat.le_trans h.nh hn⟩
  · by_cases e : r = j
    · subst e; rw [if_pos rfl]; exact h1
    · rw [if_neg e, h2 _ (by omega)]; exact h.row r hr
  · by_cases e : r = j
    · rw [if_pos e]; exact hl
    · rw [if_neg e]; exact h.dl r hr
theorem LeftM.asM {hs : HS} {q R C : Nat} {D : Nat → List Int} (h : LeftM hs q R C D R) (hR : R ≤ 1000) (hC : C ≤ 1000) : Fw.asM (frz hs.heap 2 (.msl false 1 q 0 R true)) = some ((List.range R).map D) := by
  obtain ⟨cs, h1, h2, h3, h4⟩ := h.cell
  have e : frz hs.heap 2 (.msl false 1 q 0 R true) = .sl 1 ((List.range ((List.range R).map D).length).map fun j => AV.sl 1 (ints (D j)) .shared) .exact := by
    rw [frz_msl, frzL_msl h1 (mcont_full h2)]
    simp only [if_true]
    congr 1
    apply List.ext_getElem
    · simp [h2]
    · intro j a b
      have hj : j < cs.length := by simpa using a
      obtain ⟨k, hk⟩ := h3 j hj (by omega)
      simp only [List.getElem_map, List.getElem_range, hk, frzC_osl]
      rw [frzL_osl (h.row j (by omega)) (by rw [← h.dl j (by omega)]; exact ints_cont _), map_frz_ints]
  rw [e]
  refine (isM_sl (m := (List.range R).map D) (by simp; omega) fun j hj => ?_).asM
  have hj' : j < R := by simpa using hj
  rw [rowI_of (asI_sl (by rw [h.dl j hj']; omega))]
  simp
theorem appm_copy {x : AV} {l : List Int} (hx : asI x = some l) (hl : 0 < l.length) (hl2 : l.length ≤ 1000) (hs : HS) :
    ∃ tk, aappm 1 hs (.sl 1 [] .exact) x = some (.osl false 1 hs.nh l.length hs.nt, ⟨fun i => if i = hs.nh then some (ints l) else hs.heap i, hs.nh + 1, hs.nt + 1, tk, hs.mp⟩) := by
  obtain ⟨c, rfl⟩ : ∃ c, x = .sl 1 (ints l) c := by
    rcases asI_inv hx with ⟨_, rfl⟩ | h
    · simp at hl
    · exact h
  have hne : ints l ≠ [] := by
    intro h; have := congrArg List.length h; rw [ints_len, List.length_nil] at this; omega
  have hp : aelemsH hs.heap (.sl 1 [] .exact) = some [] := rfl
  have hq : aelemsH hs.heap (.sl 1 (ints l) c) = some (ints l) := rfl
  unfold aappm
  rw [hp, hq]
  simp only
  rw [if_pos ⟨rfl, rfl, rfl, by rw [ints_len]; simp; omega⟩, if_neg hne, List.nil_append, flat_ints, ints_len]
  cases l with
  | nil => simp at hl
  | cons a l => exact ⟨fun t => if t = hs.nt then true else hs.tok t, by simp [agOf, ints, kilH, kilT]⟩
theorem LeftM.zero {hs : HS} {q R C : Nat} {D : Nat → List Int} (h : hs.heap q = some (List.replicate R .nilsl)) (hn : q + 1 ≤ hs.nh) : LeftM hs q R C D 0 :=
  ⟨⟨_, h, by simp, fun j h hj => by omega, fun j h _ => by simp⟩, fun j hj => by omega, fun j hj => by omega, hn⟩
/-- one more row -/
theorem LeftM.add {hs : HS} {q R C i : Nat} {D : Nat → List Int} (h : LeftM hs q R C D i) (hi : i < R) (hn : hs.nh = q + 1 + i) {l : List Int} (hD : D i = l) (hl : l.length = C) {nt k : Nat} {tk : Nat → Bool} {mp : Nat → Option (List (AV × AV))} :
    ∃ hp, astore (fun j => if j = hs.nh then some (ints l) else hs.heap j) 1 (.ref q i) (.osl false 1 hs.nh l.length k) = some hp ∧ LeftM ⟨hp, hs.nh + 1, nt, tk, mp⟩ q R C D (i + 1) ∧ ∀ j, j < q → hp j = hs.heap j := by
  obtain ⟨cs, h1, h2, h3, h4⟩ := h.cell
  have hq : (fun j => if j = hs.nh then some (ints l) else hs.heap j) q = some cs := by show (if q = hs.nh then _ else _) = _; rw [if_neg (by omega)]; exact h1
  refine ⟨_, store_cell hq (by omega) rfl, ⟨⟨cs.set i (.osl false 1 hs.nh l.length k), ?_, by rw [List.length_set]; exact h2, fun j hj hji => ?_, fun j hj hji => ?_⟩, fun j hj => ?_, fun j hj => ?_, by simp only; omega⟩, fun j hj => ?_⟩
  · simp
  · rw [List.length_set] at hj
    by_cases e : j = i
    · subst e
      exact ⟨k, by rw [List.getElem_set_self, hl, hn]⟩
    · rw [List.getElem_set_ne (Ne.symm e)]
      exact h3 j hj (by omega)
  · rw [List.length_set] at hj
    rw [List.getElem_set_ne (by omega)]
    exact h4 j hj (by omega)
  · show (if q + 1 + j = q then _ else if q + 1 + j = hs.nh then _ else _) = _
    rw [if_neg (by omega)]
    by_cases e : j = i
    · subst e; rw [if_pos (by omega), hD]
    · rw [if_neg (by omega)]; exact h.row j (by omega)
  · by_cases e : j = i
    · subst e; rw [hD]; exact hl
    · exact h.dl j (by omega)
  · show (if j = q then _ else if j = hs.nh then _ else _) = _
    rw [if_neg (by omega), if_neg (by omega)]
def adR (m : List (List Int)) (i k : Nat) (n : Int) (r : Nat) : List Int := if r = i then (m.getD i []).set k ((m.getD i []).getD k 0 + n) else m.getD r []
def adM (m : List (List Int)) (i k : Nat) (n : Int) : List (List Int) := (List.range m.length).map (adR m i k n)
theorem p36 {x : AV} {m : List (List Int)} {R : Nat → AV} (hx : IsM x m R) (hw : OkW m) {i k : Nat} {n : Int} (hi : i < m.length) (hk : k < cols m) (hn : 0 ≤ n ∧ n ≤ 1000) {q ia ib : Nat} {hs : HS} (hq : hs.heap q = some [x]) (ha : hs.heap ia = some [.int .i64 (i : Int)]) (hb : hs.heap ib = some [.int .i64 (k : Int)])
    (lq : q < hs.nh) (la : ia < hs.nh) (lb : ib < hs.nh) :
    FCall Try.prog 36 [.int .i64 n, .ref q 0, .ref ia 0, .ref ib 0] hs fun e hs' => ∃ v, e = .ret v ∧ asM (frz hs'.heap 2 v) = some (adM m i k n) ∧ hs.nh ≤ hs'.nh ∧ ∀ j, j < hs.nh → hs'.heap j = hs.heap j := by
  have hr6 := hw.r6
  have hr1 := hw.r1
  have hc1 : 1 ≤ cols m := hw.c1
  have hc6 : cols m ≤ 6 := hw.c6
  have hmk : amake false 1 [.nilsl] hs (.int .i64 (m.length : Int)) (.int .i64 (m.length : Int)) = some (.msl false 1 hs.nh 0 m.length true, hs.blk (List.replicate m.length .nilsl)) := amake_eq (by omega)
  refine FCall.ofAt D0ok ok36 (by simp) ?_
  generalize hQ : hs.nh = Q at hmk
  have hL0 : LeftM (hs.blk (List.replicate m.length .nilsl)) Q m.length (cols m) (fun r => m.getD r []) 0 := LeftM.zero (by rw [← hQ, HS.blk_new]) (by rw [HS.blk_nh]; omega)
  have hN0 : (hs.blk (List.replicate m.length AV.nilsl)).nh = Q + 1 := by rw [HS.blk_nh, hQ]
  have hO0 : ∀ j, j < Q → (hs.blk (List.replicate m.length AV.nilsl)).heap j = hs.heap j := fun j hj => HS.blk_old (by omega)
  generalize hs.blk (List.replicate m.length .nilsl) = hs0 at *
  simp [A36, R36, load_one hq, hx.len, hmk]
  have hq0 : hs0.heap q = some [x] := by rw [hO0 q (by omega)]; exact hq
  simp [load_one hq0, hx.len]
  refine At.loop (fun (r : Nat) s => r ≤ m.length ∧ s.env 0 = .int .i64 n ∧ s.env 1 = .ref q 0 ∧ s.env 2 = .ref ia 0 ∧ s.env 3 = .ref ib 0 ∧ s.env 6 = .msl false 1 Q 0 m.length true ∧ s.env 12 = .int .i64 (m.length : Int) ∧ s.env 13 = .int .i64 (r : Int) ∧
    LeftM s.hs Q m.length (cols m) (fun r => m.getD r []) r ∧ s.hs.nh = Q + 1 + r ∧ ∀ j, j < Q → s.hs.heap j = hs.heap j) (fun r => m.length - r) 0 ?_ ?_
  · exact ⟨by omega, by simp, by simp, by simp, by simp, by simp, by simp, by simp, by simpa using hL0, by simp [hN0], fun j hj => by simp [hO0 j hj]⟩
  rintro N r s hN ⟨hr, e0, e1, e2, e3, e6, e12, e13, hL, hnh, ho⟩
  simp [e12, e13]
  refine At.dec (fun hlt => ?_) (fun hlt => ?_)
  · have hr' : r < m.length := by omega
    have hrow := hw.rows hx hr'
    have hrl := hw.len hr'
    have hqs : s.hs.heap q = some [x] := by rw [ho q (by omega)]; exact hq
    obtain ⟨tk, hap⟩ := appm_copy hrow (by omega) (by omega) s.hs
    have x1 : aidxS 1 (.msl false 1 Q 0 m.length true) (.int .i64 (r : Int)) = some (.ref Q r) := aidx_msln hr'
    obtain ⟨hp, st, hL', ho'⟩ := hL.add hr' hnh (l := m[r]) (by simp [List.getD, hr']) hrl (nt := s.hs.nt + 1) (k := s.hs.nt) (tk := tk) (mp := s.hs.mp)
    generalize hz : ints m[r] = z at *
    simp [e1, e6, e13, astoAll, load_one hqs, hx.get hr', hx.ld hr', hap, x1, st]
    refine hN (r + 1) _ (by omega) ⟨by omega, by simp [e0], by simp [e1], by simp [e2], by simp [e3], by simp [e6], by simp [e12], by simp [wrap_nat1 (show r < _ by omega)], by simpa using hL', by simp; omega, fun j hj => by simp [ho' j hj, ho j hj]⟩
  · have hr' : r = m.length := by omega
    subst hr'
    have has : s.hs.heap ia = some [.int .i64 (i : Int)] := by rw [ho ia (by omega)]; exact ha
    have hbs : s.hs.heap ib = some [.int .i64 (k : Int)] := by rw [ho ib (by omega)]; exact hb
    have x1 : aidxS 1 (.msl false 1 Q 0 m.length true) (.int .i64 (i : Int)) = some (.ref Q i) := aidx_msln hi
    obtain ⟨kk, ld⟩ := hL.get hi hi
    have x2 : aidxS 1 (.osl false 1 (Q + 1 + i) (cols m) kk) (.int .i64 (k : Int)) = some (.ref (Q + 1 + i) k) := by simp [aidxS, hk]
    have hkl : k < (m.getD i []).length := by rw [hL.dl i hi]; exact hk
    have ld2 := ld_ints (hL.row i hi) hkl
    have hgE : (m.getD i []).getD k 0 = (m.getD i [])[k] := getD_of hkl
    rw [← hgE] at ld2
    have bE := hw.el (r := m.getD i []) (by simp [List.getD, hi]) k
    have wE : IntKind.i64.wrap ((m.getD i []).getD k 0 + n) = (m.getD i []).getD k 0 + n := wrap64 (by omega) (by omega)
    have st := st_ints (v := (m.getD i []).getD k 0 + n) (hL.row i hi) hkl
    have hadr : adR m i k n i = (m.getD i []).set k ((m.getD i []).getD k 0 + n) := by simp [adR]
    rw [← hadr] at st
    generalize hV : (m.getD i []).getD k 0 = V at *
    generalize hz : ints (adR m i k n i) = z at *
    simp [e0, e2, e3, e6, load_one has, load_one hbs, x1, ld, x2, ld2, wE, st]
    refine At.of ⟨?_, by omega, fun j hj => ?_⟩
    · have h2 := hL.put (hs' := ⟨fun j => if j = Q + 1 + i then some z else s.hs.heap j, s.hs.nh, s.hs.nt, s.hs.tok, s.hs.mp⟩) hi (l := adR m i k n i) (by rw [hadr, List.length_set]; exact hL.dl i hi) (by simp [hz]) (fun j hj => by simp [hj]) (Nat.le_refl _)
      have h3 := h2.asM (by omega) (by omega)
      refine Eq.trans h3 ?_
      congr 1
      unfold adM
      apply List.map_congr_left
      intro r _
      by_cases e : r = i
      · subst e; rw [if_pos rfl]
      · rw [if_neg e]; simp [adR, e]
    · rw [if_neg (by omega)]; exact ho j (by omega)
end Go.Proofs.Ytokgpcdbpkginaa
set_option linter.unusedVariables false
set_option linter.unusedSimpArgs false
namespace Go.Proofs.Ytokgpcdbpkginaa
open Go Fw

theorem sum_if {n i : Nat} {c : Int} (hi : i < n) (f : Nat → Int) : ((List.range n).map fun r => f r + if r = i then c else 0).sum = ((List.range n).map f).sum + c := by
  rw [sum_map_add]
  congr 1
  induction n with
  | zero => omega
  | succ n ih =>
    rw [List.range_succ, List.map_append, List.sum_append]
    by_cases e : i = n
    · subst e
      have z : ∀ l : List Nat, (∀ r ∈ l, r ≠ i) → (l.map fun r => if r = i then c else 0).sum = 0 := by
        intro l
        induction l with
        | nil => intro _; rfl
        | cons a l ih => intro h; rw [List.map_cons, List.sum_cons, if_neg (h a (by simp)), ih fun r hr => h r (by simp [hr])]; rfl
      rw [z _ fun r hr => by have := List.mem_range.1 hr; omega]
      simp
    · rw [ih (by omega)]
      simp [Ne.symm e]
section
variable {m : List (List Int)} {i k : Nat} {d : Int}
theorem adM_len : (adM m i k d).length = m.length := by simp [adM]
theorem adM_get {r : Nat} (h : r < (adM m i k d).length) : (adM m i k d)[r] = adR m i k d r := by simp [adM]
theorem adR_len (hw : OkW m) (hi : i < m.length) {r : Nat} (hr : r < m.length) : (adR m i k d r).length = cols m := by
  unfold adR
  split
  · rw [List.length_set, getD_row hi]; exact hw.len hi
  · rw [getD_row hr]; exact hw.len hr
theorem adM_cols (hw : OkW m) (hi : i < m.length) : cols (adM m i k d) = cols m := by
  have h0 : 0 < (adM m i k d).length := by rw [adM_len]; have := hw.r1; omega
  unfold cols
  rw [getD_row h0, adM_get]
  exact adR_len hw hi (by have := hw.r1; omega)
theorem adR_getD (hw : OkW m) (hi : i < m.length) (hk : k < cols m) (r j : Nat) : (adR m i k d r).getD j 0 = (m.getD r []).getD j 0 + if r = i then (if j = k then d else 0) else 0 := by
  unfold adR
  by_cases e : r = i
  · subst e
    rw [if_pos rfl, if_pos rfl]
    have hl : k < (m.getD r []).length := by rw [getD_row hi, hw.len hi]; exact hk
    by_cases e2 : j = k
    · subst e2
      simp [List.getD, List.getElem?_set, hl, getD_row hi] at hl ⊢
      simp [hl]
    · have : ∀ (l : List Int) (v : Int), (l.set k v).getD j 0 = l.getD j 0 := fun l v => by simp only [List.getD_eq_getElem?_getD, List.getElem?_set_ne (Ne.symm e2)]
      rw [if_neg e2, this]; omega
  · rw [if_neg e, if_neg e]; omega
theorem arts_ad (hw : OkW m) (hi : i < m.length) (hk : k < cols m) {r : Nat} (hr : r < m.length) : (arts (adM m i k d)).getD r 0 = (arts m).getD r 0 + if r = i then d else 0 := by
  have h1 : r < (arts (adM m i k d)).length := by rw [arts_len, adM_len]; exact hr
  have h2 : r < (arts m).length := by rw [arts_len]; exact hr
  rw [getD_of h1, getD_of h2]
  simp only [arts, List.getElem_map, adM_get]
  unfold adR
  split
  · rename_i e
    subst e
    rw [sum_set (by rw [getD_row hr, hw.len hr]; exact hk), getD_row hr]; omega
  · rw [getD_row hr]; omega
theorem machs_ad (hw : OkW m) (hi : i < m.length) (hk : k < cols m) {j : Nat} (hj : j < cols m) : (machs (adM m i k d)).getD j 0 = (machs m).getD j 0 + if j = k then d else 0 := by
  have h1 : j < (machs (adM m i k d)).length := by rw [machs_len, adM_cols hw hi]; exact hj
  have h2 : j < (machs m).length := by rw [machs_len]; exact hj
  rw [getD_of h1, getD_of h2]
  simp only [machs, List.getElem_map, List.getElem_range, colN, adM, List.map_map]
  have e1 : (List.range m.length).map ((fun r => r.getD j 0) ∘ adR m i k d) = (List.range m.length).map fun r => (m.getD r []).getD j 0 + if r = i then (if j = k then d else 0) else 0 := by
    apply List.map_congr_left
    intro r _
    exact adR_getD hw hi hk r j
  rw [e1, sum_if hi]
  congr 2
  apply List.ext_getElem
  · simp
  · intro r a b
    simp at b
    simp [List.getD, b]
theorem tot_ad (hw : OkW m) (hi : i < m.length) (hk : k < cols m) : tot (adM m i k d) = tot m + d := by
  have h1 : arts (adM m i k d) = (List.range m.length).map fun r => (arts m).getD r 0 + if r = i then d else 0 := by
    apply List.ext_getElem
    · simp [arts_len, adM_len]
    · intro r a b
      have hr : r < m.length := by simpa using b
      have := arts_ad (d := d) hw hi hk hr
      rw [getD_of a] at this
      simpa using this
  have h2 : ((List.range m.length).map fun r => (arts m).getD r 0) = arts m := by
    apply List.ext_getElem
    · simp [arts_len]
    · intro r a b
      simp [List.getD, b]
  unfold tot
  rw [h1, sum_if hi, h2]
theorem gtr_le {l : List Int} {t : Int} : gtr 0 l ≤ t ↔ 0 ≤ t ∧ ∀ x ∈ l, x ≤ t :=
  ⟨fun h => ⟨Int.le_trans (gtr_ge l 0) h, fun x hx => Int.le_trans (gtr_el hx) h⟩, fun h => gtr_bd h.1 h.2⟩
theorem all_getD {l : List Int} {t : Int} : (∀ x ∈ l, x ≤ t) ↔ ∀ j, j < l.length → l.getD j 0 ≤ t := by
  constructor
  · intro h j hj
    rw [getD_of hj]; exact h _ (List.getElem_mem hj)
  · intro h x hx
    obtain ⟨j, hj, rfl⟩ := List.mem_iff_getElem.1 hx
    have := h j hj
    rwa [getD_of hj] at this
theorem short_ad (hw : OkW m) (hi : i < m.length) (hk : k < cols m) {s t : Int} (hs : 1 ≤ s) (ht : short m s ≤ t) (hd : 0 ≤ d) :
    short (adM m i k d) s ≤ t ↔ (arts m).getD i 0 + d ≤ t ∧ (machs m).getD k 0 + d ≤ t ∧ tot m + d ≤ s * t := by
  rw [short_le hs, tot_ad hw hi hk]
  have h1 := (short_le (m := m) hs).1 ht
  have hm : maxL (adM m i k d) ≤ t ↔ gtr 0 (arts (adM m i k d)) ≤ t ∧ gtr 0 (machs (adM m i k d)) ≤ t := by unfold maxL; omega
  have h2 : gtr 0 (arts m) ≤ t ∧ gtr 0 (machs m) ≤ t := by have := h1.1; unfold maxL at this; omega
  have a1 := gtr_le.1 h2.1
  have a2 := gtr_le.1 h2.2
  have a3 := all_getD.1 a1.2
  have a4 := all_getD.1 a2.2
  rw [arts_len] at a3
  rw [machs_len] at a4
  have b1 : gtr 0 (arts (adM m i k d)) ≤ t ↔ (arts m).getD i 0 + d ≤ t := by
    rw [gtr_le, all_getD, arts_len, adM_len]
    constructor
    · rintro ⟨_, h⟩
      have := h i hi
      rw [arts_ad hw hi hk hi, if_pos rfl] at this
      exact this
    · intro h
      refine ⟨a1.1, fun r hr => ?_⟩
      rw [arts_ad hw hi hk hr]
      by_cases e : r = i
      · subst e; rw [if_pos rfl]; exact h
      · rw [if_neg e]; have := a3 r hr; omega
  have b2 : gtr 0 (machs (adM m i k d)) ≤ t ↔ (machs m).getD k 0 + d ≤ t := by
    rw [gtr_le, all_getD, machs_len, adM_cols hw hi]
    constructor
    · rintro ⟨_, h⟩
      have := h k hk
      rw [machs_ad hw hi hk hk, if_pos rfl] at this
      exact this
    · intro h
      refine ⟨a2.1, fun r hr => ?_⟩
      rw [machs_ad hw hi hk hr]
      by_cases e : r = k
      · subst e; rw [if_pos rfl]; exact h
      · rw [if_neg e]; have := a4 r hr; omega
  rw [hm, b1, b2]
  constructor
  · rintro ⟨⟨x, y⟩, z⟩; exact ⟨x, y, z⟩
  · rintro ⟨x, y, z⟩; exact ⟨⟨x, y⟩, z⟩
theorem short_ad_ge (hw : OkW m) (hi : i < m.length) (hk : k < cols m) {s : Int} (hs : 1 ≤ s) (hd : 0 ≤ d) : short m s ≤ short (adM m i k d) s := by
  have h := (short_le (m := adM m i k d) hs).1 (Int.le_refl (short (adM m i k d) s))
  generalize short (adM m i k d) s = t at *
  rw [tot_ad hw hi hk] at h
  have hm : gtr 0 (arts (adM m i k d)) ≤ t ∧ gtr 0 (machs (adM m i k d)) ≤ t := by have := h.1; unfold maxL at this; omega
  have a1 := gtr_le.1 hm.1
  have a2 := gtr_le.1 hm.2
  have a3 := all_getD.1 a1.2
  have a4 := all_getD.1 a2.2
  rw [arts_len, adM_len] at a3
  rw [machs_len, adM_cols hw hi] at a4
  refine (short_le hs).2 ⟨?_, by have := h.2; omega⟩
  have b1 : gtr 0 (arts m) ≤ t := gtr_le.2 ⟨a1.1, all_getD.2 fun r hr => by
    rw [arts_len] at hr
    have := a3 r hr
    rw [arts_ad hw hi hk hr] at this
    split at this <;> omega⟩
  have b2 : gtr 0 (machs m) ≤ t := gtr_le.2 ⟨a2.1, all_getD.2 fun r hr => by
    rw [machs_len] at hr
    have := a4 r hr
    rw [machs_ad hw hi hk hr] at this
    split at this <;> omega⟩
  unfold maxL; omega
/-- as many hours as there is room for -/
def roomN (m : List (List Int)) (s : Int) (i k : Nat) : Int := min (min (short m s - (arts m).getD i 0) (short m s - (machs m).getD k 0)) (short m s * s - tot m)
set_option maxHeartbeats 2000000 in
theorem more_law (hw : OkW m) (hi : i < m.length) (hk : k < cols m) {s : Int} (hs : 1 ≤ s ∧ s ≤ 6) (h48 : maxL m ≤ 90) :
    0 ≤ roomN m s i k ∧ roomN m s i k ≤ 100 ∧ (roomN m s i k = 0 ↔ short (adM m i k 1) s = short m s + 1) ∧ short m s ≤ short (adM m i k 1) s ∧ short (adM m i k 1) s ≤ short m s + 1 ∧
      short (adM m i k (roomN m s i k)) s = short m s ∧ short (adM m i k (roomN m s i k + 1)) s = short m s + 1 := by
  have h0 := (short_le (m := m) hs.1).1 (Int.le_refl (short m s))
  have a0 : (arts m).getD i 0 ≤ short m s ∧ 0 ≤ (arts m).getD i 0 := by
    have hl : i < (arts m).length := by rw [arts_len]; exact hi
    rw [getD_of hl]
    have := gtr_el (a := 0) (List.getElem_mem hl)
    have := h0.1
    unfold maxL at this
    exact ⟨by omega, (hw.art _ (List.getElem_mem hl)).1⟩
  have c0 : (machs m).getD k 0 ≤ short m s ∧ 0 ≤ (machs m).getD k 0 := by
    have hl : k < (machs m).length := by rw [machs_len]; exact hk
    rw [getD_of hl]
    have := gtr_el (a := 0) (List.getElem_mem hl)
    have := h0.1
    unfold maxL at this
    exact ⟨by omega, (hw.mach _ (List.getElem_mem hl)).1⟩
  have hr : roomN m s i k = min (min (short m s - (arts m).getD i 0) (short m s - (machs m).getD k 0)) (s * short m s - tot m) := by unfold roomN; rw [Int.mul_comm]
  have key : ∀ d t : Int, 0 ≤ d → short m s ≤ t → (short (adM m i k d) s ≤ t ↔ (arts m).getD i 0 + d ≤ t ∧ (machs m).getD k 0 + d ≤ t ∧ tot m + d ≤ s * t) := fun d t hd ht => short_ad hw hi hk hs.1 ht hd
  have kge : ∀ d : Int, 0 ≤ d → short m s ≤ short (adM m i k d) s := fun d hd => short_ad_ge hw hi hk hs.1 hd
  have hsn : s * (short m s + 1) = s * short m s + s := by rw [Int.mul_add, Int.mul_one]
  have hbig : short m s = maxL m ∨ s * short m s ≤ tot m + s - 1 := by
    rcases Int.le_total (upN m s) (maxL m) with h | h
    · left; rw [short_eq]; omega
    · right
      have e : short m s = upN m s := by rw [short_eq]; omega
      rw [e]
      unfold upN
      exact Int.mul_ediv_self_le (by omega)
  have hR : 0 ≤ roomN m s i k := by rw [hr]; omega
  have hR2 : roomN m s i k ≤ 100 := by
    rw [hr]
    rcases hbig with h | h <;> omega
  generalize hX : roomN m s i k = r at *
  have k1 := key 1 (short m s) (by omega) (Int.le_refl _)
  have k2 := key 1 (short m s + 1) (by omega) (by omega)
  have k3 := key r (short m s) hR (Int.le_refl _)
  have k4 := key (r + 1) (short m s) (by omega) (Int.le_refl _)
  have k5 := key (r + 1) (short m s + 1) (by omega) (by omega)
  have g1 := kge 1 (by omega)
  have g3 := kge r hR
  have g4 := kge (r + 1) (by omega)
  rw [hsn] at k2 k5
  generalize short (adM m i k (r + 1)) s = S4 at *
  generalize short (adM m i k r) s = S3 at *
  generalize short (adM m i k 1) s = S1 at *
  generalize s * short m s = P at *
  generalize short m s = S0 at *
  generalize (arts m).getD i 0 = A0 at *
  generalize (machs m).getD k 0 = C0 at *
  generalize tot m = T0 at *
  clear key kge hbig h0
  refine ⟨hR, hR2, ?_, g1, k2.2 ⟨by omega, by omega, by omega⟩, ?_, ?_⟩
  · have u2 := k2.2 ⟨by omega, by omega, by omega⟩
    constructor
    · intro h
      have : ¬ S1 ≤ S0 := fun h' => by have := k1.1 h'; omega
      omega
    · intro h
      have : ¬ (A0 + 1 ≤ S0 ∧ C0 + 1 ≤ S0 ∧ T0 + 1 ≤ P) := fun h' => by have := k1.2 h'; omega
      omega
  · have := k3.2 ⟨by omega, by omega, by omega⟩; omega
  · have h5 := k5.2 ⟨by omega, by omega, by omega⟩
    have h4 : ¬ S4 ≤ S0 := fun h' => by have := k4.1 h'; omega
    omega
theorem short_fewer (m : List (List Int)) {s : Int} (hs : 2 ≤ s) (ht : 0 ≤ short m (s - 1)) : short m s ≤ short m (s - 1) := by
  have h := (short_le (m := m) (s := s - 1) (t := short m (s - 1)) (by omega)).1 (Int.le_refl _)
  refine (short_le (by omega)).2 ⟨h.1, ?_⟩
  have : s * short m (s - 1) = (s - 1) * short m (s - 1) + short m (s - 1) := by rw [Int.sub_mul, Int.one_mul]; omega
  omega
theorem OkG.ad (hw : OkW m) (hi : i < m.length) (hk : k < cols m) (hd : 0 ≤ d ∧ d ≤ 900) : OkG (adM m i k d) := by
  have hc : ((adM m i k d).getD 0 []).length = cols m := adM_cols hw hi
  refine ⟨by rw [adM_len]; exact hw.r1, by rw [adM_len]; exact hw.r6, by rw [hc]; exact hw.c1, by rw [hc]; exact hw.c6, fun r hr => ?_, fun r hr h hh => ?_⟩
  · rw [hc]
    obtain ⟨j, hj, rfl⟩ := List.mem_map.1 hr
    exact adR_len hw hi (List.mem_range.1 hj)
  · obtain ⟨j, hj, rfl⟩ := List.mem_map.1 hr
    obtain ⟨c, hc, rfl⟩ := List.mem_iff_getElem.1 hh
    have := adR_getD (d := d) hw hi hk j c
    rw [getD_of hc] at this
    have hb := hw.el (r := m.getD j []) (by rw [getD_row (List.mem_range.1 hj)]; exact List.getElem_mem _) c
    rw [this]
    split <;> (try split) <;> omega
theorem OkW.ad (hw : OkW m) (hi : i < m.length) (hk : k < cols m) (hb : ∀ r ∈ m, ∀ h ∈ r, h ≤ 29) : OkW (adM m i k 1) := by
  have h := OkG.ad (d := 1) hw hi hk (by omega)
  refine ⟨h.r1, h.r6, h.c1, h.c6, h.row, fun r hr v hv => ⟨(h.bd r hr v hv).1, ?_⟩⟩
  obtain ⟨j, hj, rfl⟩ := List.mem_map.1 hr
  have hj := List.mem_range.1 hj
  obtain ⟨c, hc, rfl⟩ := List.mem_iff_getElem.1 hv
  have := adR_getD (d := 1) hw hi hk j c
  rw [getD_of hc] at this
  have hl : c < (m.getD j []).length := by
    rw [adR_len hw hi hj] at hc
    rw [getD_row hj, hw.len hj]; exact hc
  have := hb (m.getD j []) (by rw [getD_row hj]; exact List.getElem_mem _) _ (List.getElem_mem hl)
  rw [← getD_of hl] at this
  split at * <;> (try split at *) <;> omega
end
end Go.Proofs.Ytokgpcdbpkginaa
