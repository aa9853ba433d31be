/-
  A copy of a work in memory; with some hours more. Own work.
-/
import Derived.Test.YtokgpcdbpkginaaG6
set_option linter.unusedVariables false
set_option linter.unusedSimpArgs false
namespace Go.Proofs.Ytokgpcdbpkginaa
open Go Fw

/-- rows copied into blocks of their own, the first i of them -/
structure LeftM (hs : HS) (q R C : Nat) (D : Nat → List Int) (i : Nat) : Prop where
  cell : ∃ cs, hs.heap q = some cs ∧ cs.length = R ∧ (∀ (j : Nat) (h : j < cs.length), j < i → ∃ k, cs[j] = .osl false 1 (q + 1 + j) C k) ∧ (∀ (j : Nat) (h : j < cs.length), i ≤ j → cs[j] = .nilsl)
  row : ∀ j, j < i → hs.heap (q + 1 + j) = some (ints (D j))
  dl : ∀ j, j < i → (D j).length = C
  nh : q + 1 + i ≤ hs.nh
theorem LeftM.up {hs hs' : HS} {q R C i : Nat} {D : Nat → List Int} (h : LeftM hs q R C D i) (hh : ∀ j, q ≤ j → j < q + 1 + i → hs'.heap j = hs.heap j) (hn : hs.nh ≤ hs'.nh) : LeftM hs' q R C D i :=
  ⟨by rw [hh q (Nat.le_refl _) (by omega)]; exact h.cell, fun j hj => by rw [hh _ (by omega) (by omega)]; exact h.row j hj, h.dl, Nat.le_trans h.nh hn⟩
theorem LeftM.get {hs : HS} {q R C i j : Nat} {D : Nat → List Int} (h : LeftM hs q R C D i) (hj : j < i) (hR : j < R) : ∃ k, aload hs.heap false 1 (.ref q j) = some (.osl false 1 (q + 1 + j) C k) := by
  obtain ⟨cs, h1, h2, h3, h4⟩ := h.cell
  obtain ⟨k, hk⟩ := h3 j (by omega) hj
  exact ⟨k, by rw [load_cell h1 (by omega), hk]⟩
theorem LeftM.put {hs : HS} {q R C i j : Nat} {D : Nat → List Int} (h : LeftM hs q R C D i) (hj : j < i) {l : List Int} (hl : l.length = C) {hs' : HS} (h1 : hs'.heap (q + 1 + j) = some (ints l)) (h2 : ∀ k, k ≠ q + 1 + j → hs'.heap k = hs.heap k) (hn : hs.nh ≤ hs'.nh) :
    LeftM hs' q R C (fun r => if r = j then l else D r) i := by
  refine ⟨by rw [h2 q (by omega)]; exact h.cell, fun r hr => ?_, fun r hr => ?_, Nat.le_trans h.nh hn⟩
  · by_cases e : r = j
    · subst e; rw [if_pos rfl]; exact h1
    · rw [if_neg e, h2 _ (by omega)]; exact h.row r hr
  · by_cases e : r = j
    · rw [if_pos e]; exact hl
    · rw [if_neg e]; exact h.dl r hr
theorem LeftM.asM {hs : HS} {q R C : Nat} {D : Nat → List Int} (h : LeftM hs q R C D R) (hR : R ≤ 1000) (hC : C ≤ 1000) : Fw.asM (frz hs.heap 2 (.msl false 1 q 0 R true)) = some ((List.range R).map D) := by
  obtain ⟨cs, h1, h2, h3, h4⟩ := h.cell
  have e : frz hs.heap 2 (.msl false 1 q 0 R true) = .sl 1 ((List.range ((List.range R).map D).length).map fun j => AV.sl 1 (ints (D j)) .shared) .exact := by
    rw [frz_msl, frzL_msl h1 (mcont_full h2)]
    simp only [if_true]
    congr 1
    apply List.ext_getElem
    · simp [h2]
    · intro j a b
      have hj : j < cs.length := by simpa using a
      obtain ⟨k, hk⟩ := h3 j hj (by omega)
      simp only [List.getElem_map, List.getElem_range, hk, frzC_osl]
      rw [frzL_osl (h.row j (by omega)) (by rw [← h.dl j (by omega)]; exact ints_cont _), map_frz_ints]
  rw [e]
  refine (isM_sl (m := (List.range R).map D) (by simp; omega) fun j hj => ?_).asM
  have hj' : j < R := by simpa using hj
  rw [rowI_of (asI_sl (by rw [h.dl j hj']; omega))]
  simp
theorem appm_copy {x : AV} {l : List Int} (hx : asI x = some l) (hl : 0 < l.length) (hl2 : l.length ≤ 1000) (hs : HS) :
    ∃ tk, aappm 1 hs (.sl 1 [] .exact) x = some (.osl false 1 hs.nh l.length hs.nt, ⟨fun i => if i = hs.nh then some (ints l) else hs.heap i, hs.nh + 1, hs.nt + 1, tk, hs.mp⟩) := by
  obtain ⟨c, rfl⟩ : ∃ c, x = .sl 1 (ints l) c := by
    rcases asI_inv hx with ⟨_, rfl⟩ | h
    · simp at hl
    · exact h
  have hne : ints l ≠ [] := by
    intro h; have := congrArg List.length h; rw [ints_len, List.length_nil] at this; omega
  have hp : aelemsH hs.heap (.sl 1 [] .exact) = some [] := rfl
  have hq : aelemsH hs.heap (.sl 1 (ints l) c) = some (ints l) := rfl
  unfold aappm
  rw [hp, hq]
  simp only
  rw [if_pos ⟨rfl, rfl, rfl, by rw [ints_len]; simp; omega⟩, if_neg hne, List.nil_append, flat_ints, ints_len]
  cases l with
  | nil => simp at hl
  | cons a l => exact ⟨fun t => if t = hs.nt then true else hs.tok t, by simp [agOf, ints, kilH, kilT]⟩
theorem LeftM.zero {hs : HS} {q R C : Nat} {D : Nat → List Int} (h : hs.heap q = some (List.replicate R .nilsl)) (hn : q + 1 ≤ hs.nh) : LeftM hs q R C D 0 :=
  ⟨⟨_, h, by simp, fun j h hj => by omega, fun j h _ => by simp⟩, fun j hj => by omega, fun j hj => by omega, hn⟩
/-- one more row -/
theorem LeftM.add {hs : HS} {q R C i : Nat} {D : Nat → List Int} (h : LeftM hs q R C D i) (hi : i < R) (hn : hs.nh = q + 1 + i) {l : List Int} (hD : D i = l) (hl : l.length = C) {nt k : Nat} {tk : Nat → Bool} {mp : Nat → Option (List (AV × AV))} :
    ∃ hp, astore (fun j => if j = hs.nh then some (ints l) else hs.heap j) 1 (.ref q i) (.osl false 1 hs.nh l.length k) = some hp ∧ LeftM ⟨hp, hs.nh + 1, nt, tk, mp⟩ q R C D (i + 1) ∧ ∀ j, j < q → hp j = hs.heap j := by
  obtain ⟨cs, h1, h2, h3, h4⟩ := h.cell
  have hq : (fun j => if j = hs.nh then some (ints l) else hs.heap j) q = some cs := by show (if q = hs.nh then _ else _) = _; rw [if_neg (by omega)]; exact h1
  refine ⟨_, store_cell hq (by omega) rfl, ⟨⟨cs.set i (.osl false 1 hs.nh l.length k), ?_, by rw [List.length_set]; exact h2, fun j hj hji => ?_, fun j hj hji => ?_⟩, fun j hj => ?_, fun j hj => ?_, by simp only; omega⟩, fun j hj => ?_⟩
  · simp
  · rw [List.length_set] at hj
    by_cases e : j = i
    · subst e
      exact ⟨k, by rw [List.getElem_set_self, hl, hn]⟩
    · rw [List.getElem_set_ne (Ne.symm e)]
      exact h3 j hj (by omega)
  · rw [List.length_set] at hj
    rw [List.getElem_set_ne (by omega)]
    exact h4 j hj (by omega)
  · show (if q + 1 + j = q then _ else if q + 1 + j = hs.nh then _ else _) = _
    rw [if_neg (by omega)]
    by_cases e : j = i
    · subst e; rw [if_pos (by omega), hD]
    · rw [if_neg (by omega)]; exact h.row j (by omega)
  · by_cases e : j = i
    · subst e; rw [hD]; exact hl
    · exact h.dl j (by omega)
  · show (if j = q then _ else if j = hs.nh then _ else _) = _
    rw [if_neg (by omega), if_neg (by omega)]
def adR (m : List (List Int)) (i k : Nat) (n : Int) (r : Nat) : List Int := if r = i then (m.getD i []).set k ((m.getD i []).getD k 0 + n) else m.getD r []
def adM (m : List (List Int)) (i k : Nat) (n : Int) : List (List Int) := (List.range m.length).map (adR m i k n)
theorem p36 {x : AV} {m : List (List Int)} {R : Nat → AV} (hx : IsM x m R) (hw : OkW m) {i k : Nat} {n : Int} (hi : i < m.length) (hk : k < cols m) (hn : 0 ≤ n ∧ n ≤ 1000) {q ia ib : Nat} {hs : HS} (hq : hs.heap q = some [x]) (ha : hs.heap ia = some [.int .i64 (i : Int)]) (hb : hs.heap ib = some [.int .i64 (k : Int)])
    (lq : q < hs.nh) (la : ia < hs.nh) (lb : ib < hs.nh) :
    FCall Try.prog 36 [.int .i64 n, .ref q 0, .ref ia 0, .ref ib 0] hs fun e hs' => ∃ v, e = .ret v ∧ asM (frz hs'.heap 2 v) = some (adM m i k n) ∧ hs.nh ≤ hs'.nh ∧ ∀ j, j < hs.nh → hs'.heap j = hs.heap j := by
  have hr6 := hw.r6
  have hr1 := hw.r1
  have hc1 : 1 ≤ cols m := hw.c1
  have hc6 : cols m ≤ 6 := hw.c6
  have hmk : amake false 1 [.nilsl] hs (.int .i64 (m.length : Int)) (.int .i64 (m.length : Int)) = some (.msl false 1 hs.nh 0 m.length true, hs.blk (List.replicate m.length .nilsl)) := amake_eq (by omega)
  refine FCall.ofAt D0ok ok36 (by simp) ?_
  generalize hQ : hs.nh = Q at hmk
  have hL0 : LeftM (hs.blk (List.replicate m.length .nilsl)) Q m.length (cols m) (fun r => m.getD r []) 0 := LeftM.zero (by rw [← hQ, HS.blk_new]) (by rw [HS.blk_nh]; omega)
  have hN0 : (hs.blk (List.replicate m.length AV.nilsl)).nh = Q + 1 := by rw [HS.blk_nh, hQ]
  have hO0 : ∀ j, j < Q → (hs.blk (List.replicate m.length AV.nilsl)).heap j = hs.heap j := fun j hj => HS.blk_old (by omega)
  generalize hs.blk (List.replicate m.length .nilsl) = hs0 at *
  simp [A36, R36, load_one hq, hx.len, hmk]
  have hq0 : hs0.heap q = some [x] := by rw [hO0 q (by omega)]; exact hq
  simp [load_one hq0, hx.len]
  refine At.loop (fun (r : Nat) s => r ≤ m.length ∧ s.env 0 = .int .i64 n ∧ s.env 1 = .ref q 0 ∧ s.env 2 = .ref ia 0 ∧ s.env 3 = .ref ib 0 ∧ s.env 6 = .msl false 1 Q 0 m.length true ∧ s.env 12 = .int .i64 (m.length : Int) ∧ s.env 13 = .int .i64 (r : Int) ∧
    LeftM s.hs Q m.length (cols m) (fun r => m.getD r []) r ∧ s.hs.nh = Q + 1 + r ∧ ∀ j, j < Q → s.hs.heap j = hs.heap j) (fun r => m.length - r) 0 ?_ ?_
  · exact ⟨by omega, by simp, by simp, by simp, by simp, by simp, by simp, by simp, by simpa using hL0, by simp [hN0], fun j hj => by simp [hO0 j hj]⟩
  rintro N r s hN ⟨hr, e0, e1, e2, e3, e6, e12, e13, hL, hnh, ho⟩
  simp [e12, e13]
  refine At.dec (fun hlt => ?_) (fun hlt => ?_)
  · have hr' : r < m.length := by omega
    have hrow := hw.rows hx hr'
    have hrl := hw.len hr'
    have hqs : s.hs.heap q = some [x] := by rw [ho q (by omega)]; exact hq
    obtain ⟨tk, hap⟩ := appm_copy hrow (by omega) (by omega) s.hs
    have x1 : aidxS 1 (.msl false 1 Q 0 m.length true) (.int .i64 (r : Int)) = some (.ref Q r) := aidx_msln hr'
    obtain ⟨hp, st, hL', ho'⟩ := hL.add hr' hnh (l := m[r]) (by simp [List.getD, hr']) hrl (nt := s.hs.nt + 1) (k := s.hs.nt) (tk := tk) (mp := s.hs.mp)
    generalize hz : ints m[r] = z at *
    simp [e1, e6, e13, astoAll, load_one hqs, hx.get hr', hx.ld hr', hap, x1, st]
    refine hN (r + 1) _ (by omega) ⟨by omega, by simp [e0], by simp [e1], by simp [e2], by simp [e3], by simp [e6], by simp [e12], by simp [wrap_nat1 (show r < _ by omega)], by simpa using hL', by simp; omega, fun j hj => by simp [ho' j hj, ho j hj]⟩
  · have hr' : r = m.length := by omega
    subst hr'
    have has : s.hs.heap ia = some [.int .i64 (i : Int)] := by rw [ho ia (by omega)]; exact ha
    have hbs : s.hs.heap ib = some [.int .i64 (k : Int)] := by rw [ho ib (by omega)]; exact hb
    have x1 : aidxS 1 (.msl false 1 Q 0 m.length true) (.int .i64 (i : Int)) = some (.ref Q i) := aidx_msln hi
    obtain ⟨kk, ld⟩ := hL.get hi hi
    have x2 : aidxS 1 (.osl false 1 (Q + 1 + i) (cols m) kk) (.int .i64 (k : Int)) = some (.ref (Q + 1 + i) k) := by simp [aidxS, hk]
    have hkl : k < (m.getD i []).length := by rw [hL.dl i hi]; exact hk
    have ld2 := ld_ints (hL.row i hi) hkl
    have hgE : (m.getD i []).getD k 0 = (m.getD i [])[k] := getD_of hkl
    rw [← hgE] at ld2
    have bE := hw.el (r := m.getD i []) (by simp [List.getD, hi]) k
    have wE : IntKind.i64.wrap ((m.getD i []).getD k 0 + n) = (m.getD i []).getD k 0 + n := wrap64 (by omega) (by omega)
    have st := st_ints (v := (m.getD i []).getD k 0 + n) (hL.row i hi) hkl
    have hadr : adR m i k n i = (m.getD i []).set k ((m.getD i []).getD k 0 + n) := by simp [adR]
    rw [← hadr] at st
    generalize hV : (m.getD i []).getD k 0 = V at *
    generalize hz : ints (adR m i k n i) = z at *
    simp [e0, e2, e3, e6, load_one has, load_one hbs, x1, ld, x2, ld2, wE, st]
    refine At.of ⟨?_, by omega, fun j hj => ?_⟩
    · have h2 := hL.put (hs' := ⟨fun j => if j = Q + 1 + i then some z else s.hs.heap j, s.hs.nh, s.hs.nt, s.hs.tok, s.hs.mp⟩) hi (l := adR m i k n i) (by rw [hadr, List.length_set]; exact hL.dl i hi) (by simp [hz]) (fun j hj => by simp [hj]) (Nat.le_refl _)
      have h3 := h2.asM (by omega) (by omega)
      refine Eq.trans h3 ?_
      congr 1
      unfold adM
      apply List.map_congr_left
      intro r _
      by_cases e : r = i
      · subst e; rw [if_pos rfl]
      · rw [if_neg e]; simp [adR, e]
    · rw [if_neg (by omega)]; exact ho j (by omega)
end Go.Proofs.Ytokgpcdbpkginaa
