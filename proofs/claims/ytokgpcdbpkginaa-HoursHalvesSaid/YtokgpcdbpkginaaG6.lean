/-
  Many lists under way side by side. Own work.
  HoursHalves: the plain law. Own work.
  HoursHalves, walked. Own work.
-/
import Derived.Test.YtokgpcdbpkginaaG5
set_option linter.unusedVariables false
set_option linter.unusedSimpArgs false
namespace Go.Proofs.Ytokgpcdbpkginaa
open Go Fw

/-- slots that may all be appended to -/
structure Side (hs : HS) (F : Nat → AV) : Prop where
  fresh : ∀ i, Fresh hs (F i)
  apart : ∀ i j, i ≠ j → Apart (F i) (F j)
def upF (F : Nat → AV) (p : Nat) (y : AV) : Nat → AV := fun i => if i = p then y else F i
@[simp] theorem upF_eq {F : Nat → AV} {p : Nat} {y : AV} : upF F p y p = y := by simp [upF]
theorem upF_ne {F : Nat → AV} {p i : Nat} {y : AV} (h : i ≠ p) : upF F p y i = F i := by simp [upF, h]
theorem Side.nil (hs : HS) : Side hs (fun _ => .nilsl) := ⟨fun _ => trivial, fun _ _ _ => Apart.nil⟩
theorem Side.set {hs hs' : HS} {F : Nat → AV} {p : Nat} {y : AV} (h : ∀ i, i ≠ p → Fresh hs' (F i) ∧ Apart y (F i)) (hy : Fresh hs' y) (hs : Side hs F) : Side hs' (upF F p y) := by
  refine ⟨fun i => ?_, fun i j hij => ?_⟩
  · by_cases e : i = p
    · subst e; rw [upF_eq]; exact hy
    · rw [upF_ne e]; exact (h i e).1
  · by_cases e : i = p
    · subst e
      rw [upF_eq, upF_ne (Ne.symm hij)]; exact (h j (Ne.symm hij)).2
    · rw [upF_ne e]
      by_cases e2 : j = p
      · subst e2; rw [upF_eq]; exact (h i e).2.symm
      · rw [upF_ne e2]; exact hs.apart i j hij
theorem Side.app {hs : HS} {F : Nat → AV} (h : Side hs F) {p : Nat} {l ys : List AV} {q : AV} (hp : asV 1 (F p) = some l) (hq : asV 1 q = some ys) (hl : l.length + ys.length ≤ 1000000) :
    ∃ y hs', aappend 1 hs (F p) q = some (y, hs') ∧ Side hs' (upF F p y) ∧ asV 1 y = some (l ++ ys) ∧ SameMem hs hs' := by
  obtain ⟨e1, e2⟩ := elems_of hp
  obtain ⟨y, hs', a1, a2, a3, a4, a5, a6, a7⟩ := append_fresh (h.fresh p) e1 e2 hq (by omega)
  refine ⟨y, hs', a1, Side.set (fun i hi => a7 (h.fresh i) (h.apart p i (Ne.symm hi))) a2 h, ?_, a6⟩
  rcases a5 with ⟨rfl, rfl⟩ | ⟨k, rfl⟩
  · simpa using hp
  · exact asV_sl (by simp; omega)
theorem fresh_keep {hs hs' : HS} {x : AV} (h : Fresh hs x) (k : KeepT hs hs') : Fresh hs' x := by
  revert h
  unfold Fresh
  split <;> intro h
  · trivial
  · trivial
  · exact ⟨k.tok _ h.2 h.1, Nat.lt_of_lt_of_le h.2 k.nt⟩
  · exact h
theorem Side.keep {hs hs' : HS} {F : Nat → AV} (h : Side hs F) (k : KeepT hs hs') : Side hs' F := ⟨fun i => fresh_keep (h.fresh i) k, h.apart⟩
theorem Side.clear {hs : HS} {F : Nat → AV} (h : Side hs F) (p : Nat) : Side hs (upF F p .nilsl) := h.set (fun i hi => ⟨h.fresh i, Apart.nil⟩) trivial
theorem Side.cong {hs hs' : HS} {F : Nat → AV} (h : Side hs F) (ht : hs'.tok = hs.tok) (hn : hs'.nt = hs.nt) : Side hs' F := h.keep ⟨by omega, fun k _ h => by rw [ht]; exact h⟩
/-- a list of lists, row by row -/
def MatA (x : AV) (m : List (List Int)) : Prop := ∃ es, asV 1 x = some es ∧ es.length = m.length ∧ ∀ (j : Nat) (h : j < es.length) (h' : j < m.length), asI es[j] = some m[j]
theorem MatA.nil : MatA .nilsl [] := ⟨[], rfl, rfl, fun j h => by simp at h⟩
theorem MatA.isM {x : AV} {m : List (List Int)} (h : MatA x m) : ∃ R, IsM x m R := by
  obtain ⟨es, h1, h2, h3⟩ := h
  obtain ⟨hf, hl⟩ := asV_inv h1
  refine ⟨fun i => es.getD i .nilsl, by omega, ?_, fun i hi => ?_⟩
  · rcases hf with ⟨rfl, rfl⟩ | ⟨c, rfl⟩
    · exact .inl ⟨rfl, List.length_eq_zero_iff.1 h2.symm⟩
    · refine .inr ⟨c, ?_⟩
      congr 1
      apply List.ext_getElem
      · simp [h2]
      · intro i a b
        simp [List.getD, a]
  · have hi' : i < es.length := by omega
    simp only [List.getD_eq_getElem?_getD, List.getElem?_eq_getElem hi', Option.getD_some]
    exact rowI_of (h3 i hi' hi)
theorem MatA.snoc {m : List (List Int)} {es : List AV} {y x : AV} {i : Nat} (hi : i < m.length) (hl : es.length = i) (h3 : ∀ (j : Nat) (h : j < es.length) (h' : j < (m.take i).length), asI es[j] = some (m.take i)[j]) (hy : asV 1 y = some (es ++ [x])) (hx : asI x = some m[i]) : MatA y (m.take (i + 1)) := by
  refine ⟨_, hy, by simp [hl]; omega, fun j h h' => ?_⟩
  rw [List.getElem_append]
  split
  · rename_i hj
    rw [h3 j hj (by simp; omega)]
    simp
  · rename_i hj
    have : j = i := by simp at h; omega
    subst this
    simp [hl, hx]
/-- a row, turned by one -/
def rot1 (l : List Int) : List Int := l.drop 1 ++ [l.getD 0 0]
theorem rot1_len {l : List Int} (h : 0 < l.length) : (rot1 l).length = l.length := by simp [rot1]; omega
theorem rot_make {hs : HS} {x : AV} {l : List Int} (hx : ∃ c, x = .sl 1 (ints l) c) (hl : 0 < l.length) (hl2 : l.length ≤ 1000) :
    ∃ z y1 hs1 y hs2, aslice 1 x (some (.int .i64 1)) none none = some z ∧ aappend 1 hs (.sl 1 [] .exact) z = some (y1, hs1) ∧ aappend 1 hs1 y1 (.sl 1 [.int .i64 (l.getD 0 0)] .exact) = some (y, hs2) ∧ asI y = some (rot1 l) ∧ SameMem hs hs2 ∧ KeepT hs hs2 := by
  obtain ⟨c, rfl⟩ := hx
  have hsl : aslice 1 (.sl 1 (ints l) c) (some (.int .i64 1)) none none = some (.sl 1 (ints (l.drop 1)) c) := by
    have : (1 : Int) ≤ (ints l).length := by rw [ints_len]; omega
    simp only [aslice, aidx, asliceL, if_true]
    rw [if_pos ⟨by omega, this⟩]
    simp [ints]
  by_cases h1 : l.drop 1 = []
  · obtain ⟨hs2, a1, a2, a3, a4, a5⟩ := append_exact (sz := 1) (hs := hs) (xs := []) (q := .sl 1 [.int .i64 (l.getD 0 0)] .exact) (ys := [.int .i64 (l.getD 0 0)]) (asV_sl (by simp)) (by simp) (by simp)
    have h0 : aappend 1 hs (.sl 1 [] .exact) (.sl 1 (ints (l.drop 1)) c) = some (.sl 1 [] .exact, hs) := by
      rw [h1]; rfl
    refine ⟨_, _, _, _, _, hsl, h0, a1, ?_, a3, a4⟩
    rw [rot1, h1]
    exact asI_sl (l := [l.getD 0 0]) (by simp)
  · obtain ⟨y1, hs1, y, hs2, b1, b2, b3, b4, b5⟩ := copy_snoc (hs := hs) (x := .sl 1 (ints (l.drop 1)) c) (c := l.drop 1) (asI_sl (by simp; omega)) h1 (by simp; omega) (l.getD 0 0)
    exact ⟨_, _, _, _, _, hsl, b1, b2, b3, b4, b5⟩
end Go.Proofs.Ytokgpcdbpkginaa
set_option linter.unusedVariables false
set_option linter.unusedSimpArgs false
namespace Go.Proofs.Ytokgpcdbpkginaa
open Go Fw

def scM (c : Int) (m : List (List Int)) : List (List Int) := m.map fun r => r.map fun h => c * h
def trM (m : List (List Int)) : List (List Int) := (List.range (cols m)).map fun k => m.map fun r => r.getD k 0
def moM (m : List (List Int)) (t : Nat) : List (List Int) := (m.drop t ++ m.take t).map rot1
/-! scaled -/
theorem sum_sc (c : Int) : ∀ l : List Int, (l.map fun h => c * h).sum = c * l.sum
  | [] => by simp
  | a :: l => by simp only [List.map_cons, List.sum_cons, sum_sc c l, Int.mul_add]
theorem arts_sc (c : Int) (m : List (List Int)) : arts (scM c m) = (arts m).map fun h => c * h := by
  simp only [arts, scM, List.map_map]
  apply List.map_congr_left
  intro r _
  exact sum_sc c r
theorem getD_sc (c : Int) (l : List Int) (k : Nat) : (l.map fun h => c * h).getD k 0 = c * l.getD k 0 := by
  rcases Nat.lt_or_ge k l.length with h | h
  · simp [List.getD, h]
  · simp [List.getD, List.getElem?_eq_none h]
theorem cols_sc (c : Int) (m : List (List Int)) : cols (scM c m) = cols m := by
  cases m with
  | nil => rfl
  | cons r m => simp [cols, scM]
theorem machs_sc (c : Int) (m : List (List Int)) : machs (scM c m) = (machs m).map fun h => c * h := by
  unfold machs
  rw [cols_sc, List.map_map]
  apply List.map_congr_left
  intro k _
  simp only [Function.comp, colN, scM, List.map_map]
  rw [← sum_sc, List.map_map]
  congr 1
  apply List.map_congr_left
  intro r _
  simp only [Function.comp]
  exact getD_sc c r k
theorem gtr_sc {c : Int} (hc : 0 ≤ c) : ∀ (l : List Int) (a : Int), gtr (c * a) (l.map fun h => c * h) = c * gtr a l
  | [], a => rfl
  | b :: l, a => by
    show gtr (max (c * a) (c * b)) (l.map fun h => c * h) = c * gtr (max a b) l
    rw [← gtr_sc hc l (max a b)]
    congr 1
    rcases Int.le_total a b with h | h
    · have := Int.mul_le_mul_of_nonneg_left h hc
      rw [show max a b = b by omega]; omega
    · have := Int.mul_le_mul_of_nonneg_left h hc
      rw [show max a b = a by omega]; omega
theorem maxL_sc {c : Int} (hc : 0 ≤ c) (m : List (List Int)) : maxL (scM c m) = c * maxL m := by
  have h1 := gtr_sc hc (arts m) 0
  have h2 := gtr_sc hc (machs m) 0
  rw [Int.mul_zero] at h1 h2
  unfold maxL
  rw [arts_sc, machs_sc, h1, h2]
  rcases Int.le_total (gtr 0 (arts m)) (gtr 0 (machs m)) with h | h
  · have := Int.mul_le_mul_of_nonneg_left h hc
    rw [show max (gtr 0 (arts m)) (gtr 0 (machs m)) = gtr 0 (machs m) by omega]; omega
  · have := Int.mul_le_mul_of_nonneg_left h hc
    rw [show max (gtr 0 (arts m)) (gtr 0 (machs m)) = gtr 0 (arts m) by omega]; omega
theorem tot_sc (c : Int) (m : List (List Int)) : tot (scM c m) = c * tot m := by
  unfold tot; rw [arts_sc, sum_sc]
theorem short_le {m : List (List Int)} {s t : Int} (hs : 1 ≤ s) : short m s ≤ t ↔ maxL m ≤ t ∧ tot m ≤ s * t := by
  rw [← upN_le (m := m) (s := s) (t := t) hs, short_eq]; omega
theorem short_sc {m : List (List Int)} {s c : Int} (hs : 1 ≤ s) (hc : 0 ≤ c) : short (scM c m) s ≤ c * short m s := by
  have h := (short_le (m := m) (s := s) (t := short m s) hs).1 (Int.le_refl _)
  refine (short_le hs).2 ⟨?_, ?_⟩
  · rw [maxL_sc hc]; exact Int.mul_le_mul_of_nonneg_left h.1 hc
  · rw [tot_sc, Int.mul_left_comm]; exact Int.mul_le_mul_of_nonneg_left h.2 hc
theorem short_sc_ge {m : List (List Int)} (hw : OkW m) {s : Int} (hs : 1 ≤ s) : short m s ≤ short (scM 2 m) s := by
  have h := (short_le (m := scM 2 m) (s := s) (t := short (scM 2 m) s) hs).1 (Int.le_refl _)
  rw [maxL_sc (by omega), tot_sc] at h
  have h1 := (maxL_bd hw).1
  have h2 := hw.tot.1
  exact (short_le hs).2 ⟨by omega, by omega⟩
theorem OkW.sc {m : List (List Int)} (hw : OkW m) {c : Int} (hc : 0 ≤ c) (hb : ∀ r ∈ m, ∀ h ∈ r, c * h ≤ 30) : OkW (scM c m) := by
  have hcl : ((scM c m).getD 0 []).length = (m.getD 0 []).length := cols_sc c m
  refine ⟨by simpa [scM] using hw.r1, by simpa [scM] using hw.r6, by rw [hcl]; exact hw.c1, by rw [hcl]; exact hw.c6, fun r hr => ?_, fun r hr h hh => ?_⟩
  · rw [hcl]
    obtain ⟨r0, hr0, rfl⟩ := List.mem_map.1 hr
    rw [List.length_map]; exact hw.row r0 hr0
  · obtain ⟨r0, hr0, rfl⟩ := List.mem_map.1 hr
    obtain ⟨h0, hh0, rfl⟩ := List.mem_map.1 hh
    have := (hw.bd r0 hr0 h0 hh0).1
    exact ⟨Int.mul_nonneg hc this, hb r0 hr0 h0 hh0⟩
theorem short_1000 {m : List (List Int)} (hw : OkW m) (h4 : m.length ≤ 4) {s : Int} (hs : 1 ≤ s ∧ s ≤ 6) : short m s < 1000 := by
  have h1 := tot_arts hw
  have h2 := maxL_bd hw
  have h3 := hw.tot.1
  have : (m.length : Int) * maxL m ≤ 4 * 180 := Int.mul_le_mul (by omega) h2.2 h2.1 (by omega)
  have h5 : tot m ≤ s * tot m := by
    have := Int.mul_le_mul_of_nonneg_right hs.1 h3
    omega
  have h6 : short m s ≤ max (maxL m) (tot m) := (short_le hs.1).2 ⟨by omega, by
    have : s * tot m ≤ s * max (maxL m) (tot m) := Int.mul_le_mul_of_nonneg_left (by omega) (by omega)
    omega⟩
  omega
/-! the same numbers in another order -/
theorem gtr_same {l l2 : List Int} (h : ∀ x, x ∈ l ↔ x ∈ l2) (a : Int) : gtr a l = gtr a l2 := by
  have key : ∀ {l l2 : List Int}, (∀ x ∈ l, x ∈ l2) → gtr a l ≤ gtr a l2 := by
    intro l l2 h
    rcases gtr_in l a with e | e
    · rw [e]; exact gtr_ge l2 a
    · exact gtr_el (h _ e)
  have h1 := key fun x hx => (h x).1 hx
  have h2 := key fun x hx => (h x).2 hx
  omega
/-- exchanged -/
theorem tr_cols {m : List (List Int)} (hw : OkW m) : cols (trM m) = m.length := by
  have h1 : 0 < cols m := hw.c1
  unfold cols trM
  rw [List.getD_eq_getElem?_getD, List.getElem?_eq_getElem (by simpa using h1)]
  simp
theorem arts_tr (m : List (List Int)) : arts (trM m) = machs m := by
  simp only [arts, trM, machs, List.map_map]
  apply List.map_congr_left
  intro k _
  rfl
theorem machs_tr {m : List (List Int)} (hw : OkW m) : machs (trM m) = arts m := by
  unfold machs
  rw [tr_cols hw]
  apply List.ext_getElem
  · simp [arts]
  · intro i h1 h2
    have hi : i < m.length := by simpa using h1
    simp only [List.getElem_map, List.getElem_range, colN, trM, List.map_map, arts]
    rw [← sum_range_getD (cols m) m[i] (hw.len hi)]
    congr 1
    apply List.map_congr_left
    intro k _
    simp [List.getD, hi]
theorem short_tr {m : List (List Int)} (hw : OkW m) (s : Int) : short (trM m) s = short m s := by
  have ht : tot (trM m) = tot m := by unfold tot; rw [arts_tr]; exact hw.tot2
  rw [short_eq, short_eq]
  unfold maxL upN
  rw [arts_tr, machs_tr hw, ht]
  congr 1
  omega
theorem OkW.tr {m : List (List Int)} (hw : OkW m) : OkW (trM m) := by
  have hc : ((trM m).getD 0 []).length = m.length := tr_cols hw
  have hl : (trM m).length = cols m := by simp [trM]
  refine ⟨by rw [hl]; exact hw.c1, by rw [hl]; exact hw.c6, by rw [hc]; exact hw.r1, by rw [hc]; exact hw.r6, fun r hr => ?_, fun r hr h hh => ?_⟩
  · rw [hc]
    obtain ⟨k, _, rfl⟩ := List.mem_map.1 hr
    simp
  · obtain ⟨k, _, rfl⟩ := List.mem_map.1 hr
    obtain ⟨r0, hr0, rfl⟩ := List.mem_map.1 hh
    exact hw.el hr0 k
/-- turned -/
theorem rot_sum {l : List Int} (h : 0 < l.length) : (rot1 l).sum = l.sum := by
  cases l with
  | nil => simp at h
  | cons a l => simp [rot1, List.sum_append]; omega
theorem mem_rot {l : List (List Int)} {t : Nat} (x : List Int) : x ∈ l.drop t ++ l.take t ↔ x ∈ l := by
  have : x ∈ l ↔ x ∈ l.take t ++ l.drop t := by rw [List.take_append_drop]
  rw [this, List.mem_append, List.mem_append, or_comm]
theorem sum_rot (f : List Int → Int) (l : List (List Int)) (t : Nat) : ((l.drop t ++ l.take t).map f).sum = (l.map f).sum := by
  have : (l.map f).sum = ((l.take t ++ l.drop t).map f).sum := by rw [List.take_append_drop]
  rw [this, List.map_append, List.map_append, List.sum_append, List.sum_append]; omega
theorem mo_cols {m : List (List Int)} (hw : OkW m) (t : Nat) : cols (moM m t) = cols m := by
  have h1 := hw.r1
  have hl : (m.drop t ++ m.take t).length = m.length := by simp; omega
  have h0 : 0 < (m.drop t ++ m.take t).length := by omega
  unfold moM
  show (List.getD _ 0 []).length = _
  rw [List.getD_eq_getElem?_getD, List.getElem?_eq_getElem (by simpa using h0)]
  simp only [List.getElem_map, Option.getD_some]
  have hm := (mem_rot (l := m) (t := t) _).1 (List.getElem_mem h0)
  have hr : _ = cols m := hw.row _ hm
  have hc : 1 ≤ cols m := hw.c1
  rw [rot1_len (by omega)]; exact hr
theorem arts_mo {m : List (List Int)} (hw : OkW m) (t : Nat) : arts (moM m t) = (m.drop t ++ m.take t).map List.sum := by
  simp only [arts, moM, List.map_map]
  apply List.map_congr_left
  intro r hr
  have hm := (mem_rot (l := m) (t := t) r).1 hr
  have h1 : r.length = cols m := hw.row r hm
  have hc : 1 ≤ cols m := hw.c1
  exact rot_sum (by omega)
theorem rot_getD {l : List Int} {k : Nat} (hk : k < l.length) : (rot1 l).getD k 0 = l.getD ((k + 1) % l.length) 0 := by
  unfold rot1
  rw [List.getD_eq_getElem?_getD, List.getElem?_append]
  simp only [List.length_drop]
  split
  · rename_i h
    rw [List.getElem?_drop, Nat.mod_eq_of_lt (by omega), Nat.add_comm k 1]; rfl
  · rename_i h
    have : k + 1 = l.length := by omega
    rw [this, Nat.mod_self, show k - (l.length - 1) = 0 by omega]; rfl
theorem colN_mo {m : List (List Int)} (hw : OkW m) (t : Nat) {k : Nat} (hk : k < cols m) : colN (moM m t) k = colN m ((k + 1) % cols m) := by
  unfold colN moM
  rw [List.map_map, ← sum_rot _ m t]
  congr 1
  apply List.map_congr_left
  intro r hr
  have hm := (mem_rot (l := m) (t := t) r).1 hr
  have h1 : r.length = cols m := hw.row r hm
  simp only [Function.comp]
  rw [rot_getD (by omega), h1]
theorem short_mo {m : List (List Int)} (hw : OkW m) (t : Nat) (s : Int) : short (moM m t) s = short m s := by
  have ht : tot (moM m t) = tot m := by
    unfold tot; rw [arts_mo hw]; exact sum_rot _ m t
  have h1 : gtr 0 (arts (moM m t)) = gtr 0 (arts m) := gtr_same (fun x => by
    rw [arts_mo hw]
    unfold arts
    simp only [List.mem_map, mem_rot]) 0
  have h2 : gtr 0 (machs (moM m t)) = gtr 0 (machs m) := gtr_same (fun x => by
    unfold machs
    rw [mo_cols hw]
    simp only [List.mem_map, List.mem_range]
    have hc : 1 ≤ cols m := hw.c1
    constructor
    · rintro ⟨k, hk, rfl⟩
      exact ⟨(k + 1) % cols m, Nat.mod_lt _ (by omega), (colN_mo hw t hk).symm⟩
    · rintro ⟨k, hk, rfl⟩
      by_cases h0 : k = 0
      · subst h0
        refine ⟨cols m - 1, by omega, ?_⟩
        rw [colN_mo hw t (by omega), show cols m - 1 + 1 = cols m by omega, Nat.mod_self]
      · refine ⟨k - 1, by omega, ?_⟩
        rw [colN_mo hw t (by omega), show k - 1 + 1 = k by omega, Nat.mod_eq_of_lt hk]) 0
  rw [short_eq, short_eq]
  unfold maxL upN
  rw [h1, h2, ht]
theorem OkW.mo {m : List (List Int)} (hw : OkW m) (t : Nat) : OkW (moM m t) := by
  have hc : ((moM m t).getD 0 []).length = (m.getD 0 []).length := mo_cols hw t
  have hl : (moM m t).length = m.length := by simp [moM]; omega
  refine ⟨by rw [hl]; exact hw.r1, by rw [hl]; exact hw.r6, by rw [hc]; exact hw.c1, by rw [hc]; exact hw.c6, fun r hr => ?_, fun r hr h hh => ?_⟩
  · obtain ⟨r0, hr0, rfl⟩ := List.mem_map.1 hr
    have h1 := hw.row r0 ((mem_rot r0).1 hr0)
    have := hw.c1
    rw [hc, rot1_len (by omega)]; exact h1
  · obtain ⟨r0, hr0, rfl⟩ := List.mem_map.1 hr
    have hm := (mem_rot r0).1 hr0
    unfold rot1 at hh
    rcases List.mem_append.1 hh with h1 | h1
    · exact hw.bd r0 hm h (List.mem_of_mem_drop h1)
    · rw [List.mem_singleton] at h1; subst h1
      exact hw.el hm 0
theorem mo_get {m : List (List Int)} {t i : Nat} (ht : t < m.length) (hi : i < m.length) : (moM m t)[i]? = some (rot1 (m.getD ((i + t) % m.length) [])) := by
  unfold moM
  rw [List.getElem?_map, List.getElem?_append]
  simp only [List.length_drop]
  split
  · rename_i h
    rw [List.getElem?_drop, Nat.mod_eq_of_lt (by omega), Nat.add_comm i t, List.getElem?_eq_getElem (by omega)]
    simp [List.getD, show t + i < m.length by omega]
  · rename_i h
    have e : (i + t) % m.length = i - (m.length - t) := by
      rw [Nat.mod_eq_sub_mod (by omega), Nat.mod_eq_of_lt (by omega)]; omega
    rw [List.getElem?_take, if_pos (by omega), e, List.getElem?_eq_getElem (by omega)]
    simp [List.getD, show i - (m.length - t) < m.length by omega]
end Go.Proofs.Ytokgpcdbpkginaa
set_option linter.unusedVariables false
set_option linter.unusedSimpArgs false
namespace Go.Proofs.Ytokgpcdbpkginaa
open Go Fw

/-- columns of the first rows -/
def colP (m : List (List Int)) (j i : Nat) : List Int := (m.take i).map fun r => r.getD j 0
theorem colP_s {m : List (List Int)} {j i : Nat} (hi : i < m.length) : colP m j i ++ [(m[i]).getD j 0] = colP m j (i + 1) := by
  unfold colP
  rw [take_snoc hi, List.map_append]; rfl
theorem colP_len {m : List (List Int)} {j i : Nat} (hi : i ≤ m.length) : (colP m j i).length = i := by simp [colP]; omega
def tuL (F : Nat → AV) (C : Nat) : List AV := (List.range C).map fun j => F (5 + j)
theorem tuL_len (F : Nat → AV) (C : Nat) : (tuL F C).length = C := by simp [tuL]
theorem tuL_get {F : Nat → AV} {C j : Nat} (h : j < (tuL F C).length) : (tuL F C)[j] = F (5 + j) := by simp [tuL]
theorem tuL_other {F : Nat → AV} {C p : Nat} {y : AV} (h : p < 5) : tuL (upF F p y) C = tuL F C := by
  unfold tuL
  apply List.map_congr_left
  intro j _
  rw [upF_ne (by omega)]
theorem tuL_set {F : Nat → AV} {C k : Nat} {y : AV} : (tuL F C).set k y = tuL (upF F (5 + k) y) C := by
  apply List.ext_getElem
  · simp [tuL_len]
  · intro j h1 h2
    rw [List.getElem_set, tuL_get, tuL_get]
    split
    · rename_i e; subst e; rw [upF_eq]
    · rename_i e; rw [upF_ne (by omega)]
/-- what holds between rounds -/
structure HI (m : List (List Int)) (S : Int) (t i : Nat) (q : Nat) (s : AS) (F : Nat → AV) : Prop where
  sd : Side s.hs F
  e7 : s.env 7 = F 0
  e8 : s.env 8 = F 1
  e9 : s.env 9 = F 2
  hp : s.hs.heap q = some (tuL F (cols m))
  tw : MatA (F 0) ((scM 2 m).take i)
  ti : MatA (F 1) ((scM S m).take i)
  mo : MatA (F 2) ((moM m t).take i)
  tu : ∀ j, j < cols m → asV 1 (F (5 + j)) = some (ints (colP m j i))
/-- what holds between the numbers of a row -/
structure HK (m : List (List Int)) (S : Int) (t i k : Nat) (q : Nat) (s : AS) (F : Nat → AV) : Prop where
  sd : Side s.hs F
  e7 : s.env 7 = F 0
  e8 : s.env 8 = F 1
  e9 : s.env 9 = F 2
  e12 : s.env 12 = F 3
  e13 : s.env 13 = F 4
  hp : s.hs.heap q = some (tuL F (cols m))
  tw : MatA (F 0) ((scM 2 m).take i)
  ti : MatA (F 1) ((scM S m).take i)
  mo : MatA (F 2) ((moM m t).take i)
  x : asV 1 (F 3) = some (ints (((m.getD i []).take k).map fun h => 2 * h))
  y : asV 1 (F 4) = some (ints (((m.getD i []).take k).map fun h => S * h))
  tu : ∀ j, j < cols m → asV 1 (F (5 + j)) = some (ints (colP m j (if j < k then i + 1 else i)))
theorem asV_leaf {sz : Nat} {x : AV} {l : List AV} (h : asV sz x = some l) : x.leaf = true := by
  rcases (asV_inv h).1 with ⟨rfl, _⟩ | ⟨c, rfl⟩ <;> rfl
theorem el_bd {u : Nat → Nat} {most : Nat} {r : List Int} (hr : r ∈ mU u most) {h : Int} (hh : h ∈ r) : 0 ≤ h ∧ h ≤ most := by
  simp only [mU, List.mem_map] at hr
  obtain ⟨i, _, rfl⟩ := hr
  simp only [rowU, List.mem_map] at hh
  obtain ⟨k, _, rfl⟩ := hh
  exact hrN_bd _ _ _ _
def tuN (i T n : Nat) : Nat := (i + T) % n
theorem MatA.take {m : List (List Int)} {x : AV} {i : Nat} (h : MatA x (m.take i)) (hi : i ≤ m.length) : ∃ es, asV 1 x = some es ∧ es.length = i ∧ ∀ (j : Nat) (h : j < es.length) (h' : j < (m.take i).length), asI es[j] = some (m.take i)[j] := by
  obtain ⟨es, h1, h2, h3⟩ := h
  exact ⟨es, h1, by rw [h2, List.length_take]; omega, h3⟩
set_option maxHeartbeats 2000000 in
theorem p10 (u : Nat → Nat) (hu : ∀ j, u j < 256) (T : Nat) (hT : T < 256) : PCall Try.prog 10 [benV u, .int .u8 (T : Int)] (.bool true) := by
  have q30 := p30 u hu (most := 6) (by omega)
  have hx := isMU u 6
  have hw := mU_ok u (most := 6) (by omega)
  have hS := sN_bd u
  have hml := mU_len u 6
  have hr4 := rN_bd u
  have hel : ∀ r ∈ mU u 6, ∀ h ∈ r, 0 ≤ h ∧ h ≤ 6 := fun r hr h hh => el_bd hr hh
  have hrs : ∀ i (h : i < (mU u 6).length), ∃ c, shR ((mU u 6).getD i []) = .sl 1 (ints (mU u 6)[i]) c := fun i h => ⟨.shared, by simp [shR, List.getD, h]⟩
  generalize hM : mU u 6 = m at *
  generalize hX : madV m = x at *
  generalize hR : (fun i => shR (m.getD i [])) = R at *
  have hRi : ∀ i (h : i < m.length), ∃ c, R i = .sl 1 (ints m[i]) c := fun i h => by rw [← hR]; exact hrs i h
  generalize hSN : ((sN u : Nat) : Int) = S at *
  have hS5 : 1 ≤ S ∧ S ≤ 5 := by omega
  obtain ⟨C, hC, k32, n32⟩ := ctx32 ((D0ok.pt q30).pt p15) S
  obtain ⟨E, hE, e30, e15, e32⟩ : ∃ E, CtxOk Try.prog E ∧ E 30 [benV u, .int .i64 6] = some (.tup [x, .int .i64 S]) ∧ E 15 [] = some (.bool true) ∧ (∀ x m, asM x = some m → E 32 [x, .int .i64 S] = some (shV m S)) :=
    ⟨C, hC, by rw [n32 30 (by decide)]; simp, by rw [n32 15 (by decide)]; simp, k32⟩
  refine PCall.of hE ok10 (by simp) rfl fun hs hb => ?_
  have hsto : (benV u).sto = true := rfl
  have hr6 := hw.r6
  have hr1 := hw.r1
  have hc1 : 1 ≤ cols m := hw.c1
  have hc6 : cols m ≤ 6 := hw.c6
  have h0 : 0 < m.length := by omega
  have rl0 : alenK false (R 0) = some (.int .i64 (cols m : Int)) := by rw [hx.rlen h0, hw.len h0]
  have hmk : amake false 1 [.nilsl] hs (.int .i64 (cols m : Int)) (.int .i64 (cols m : Int)) = some (.msl false 1 hs.nh 0 (cols m) true, hs.blk (List.replicate (cols m) .nilsl)) := amake_eq (by omega)
  generalize hq : hs.nh = q at hmk
  have hcl0 : (hs.blk (List.replicate (cols m) AV.nilsl)).heap q = some (tuL (fun _ => .nilsl) (cols m)) := by
    rw [← hq, HS.blk_new]; congr 1; rw [tuL, List.map_const', List.length_range]
  generalize hs.blk (List.replicate (cols m) .nilsl) = hs0 at *
  simp [A10, R10, hsto, ben_l, e30, hx.get0 h0, hx.ld h0, rl0, hmk, hx.len]
  refine At.loop (fun (i : Nat) s => i ≤ m.length ∧ s.env 1 = .int .u8 (T : Int) ∧ s.env 5 = x ∧ s.env 6 = .int .i64 S ∧ s.env 10 = .msl false 1 q 0 (cols m) true ∧ s.env 37 = x ∧ s.env 38 = .int .i64 (m.length : Int) ∧ s.env 39 = .int .i64 (i : Int) ∧
    ∃ F, HI m S (T % m.length) i q s F) (fun i => m.length - i) 0 ?_ ?_
  · exact ⟨by omega, by simp, by simp, by simp, by simp, by simp, by simp, by simp, fun _ => .nilsl, ⟨Side.nil _, by simp, by simp, by simp, by simp [hcl0], .nil, .nil, .nil, fun j hj => rfl⟩⟩
  rintro N i s hN ⟨hi, e1, e5, e6, e10, e37, e38, e39, F, I⟩
  simp [e38, e39]
  refine At.dec (fun hlt => ?_) (fun hlt => ?_)
  · have hi' : i < m.length := by omega
    have hrow := hw.rows hx hi'
    have hrl := hw.len hi'
    have hgi : m.getD i [] = m[i] := by simp [List.getD, hi']
    simp [e5, e39, hx.get hi', hx.ld hi', alen_of hrow, hrl]
    refine At.loop (fun (k : Nat) s => k ≤ cols m ∧ s.env 1 = .int .u8 (T : Int) ∧ s.env 5 = x ∧ s.env 6 = .int .i64 S ∧ s.env 10 = .msl false 1 q 0 (cols m) true ∧ s.env 37 = x ∧ s.env 38 = .int .i64 (m.length : Int) ∧ s.env 39 = .int .i64 (i : Int) ∧ s.env 11 = .int .i64 (i : Int) ∧ s.env 45 = R i ∧ s.env 46 = .int .i64 (cols m : Int) ∧ s.env 47 = .int .i64 (k : Int) ∧
      ∃ F, HK m S (T % m.length) i k q s F) (fun k => cols m - k) 0 ?_ ?_
    · refine ⟨by omega, by simp [e1], by simp [e5], by simp [e6], by simp [e10], by simp [e37], by simp [e38], by simp [e39], by simp, by simp, by simp, by simp, upF (upF F 3 .nilsl) 4 .nilsl, ?_⟩
      have a0 : upF (upF F 3 .nilsl) 4 .nilsl 0 = F 0 := by rw [upF_ne (by omega), upF_ne (by omega)]
      have a1 : upF (upF F 3 .nilsl) 4 .nilsl 1 = F 1 := by rw [upF_ne (by omega), upF_ne (by omega)]
      have a2 : upF (upF F 3 .nilsl) 4 .nilsl 2 = F 2 := by rw [upF_ne (by omega), upF_ne (by omega)]
      refine ⟨(I.sd.clear 3).clear 4, by simp [a0, I.e7], by simp [a1, I.e8], by simp [a2, I.e9], by rw [upF_ne (by omega), upF_eq]; simp, by rw [upF_eq]; simp, by rw [tuL_other (by omega), tuL_other (by omega)]; simp [I.hp], by rw [a0]; exact I.tw, by rw [a1]; exact I.ti, by rw [a2]; exact I.mo, by rw [upF_ne (by omega), upF_eq]; rfl, by rw [upF_eq]; rfl, fun j hj => ?_⟩
      rw [upF_ne (by omega), upF_ne (by omega), if_neg (by omega)]; exact I.tu j hj
    rintro N2 k s2 hN2 ⟨hk, f1, f5, f6, f10, f37, f38, f39, f11, f45, f46, f47, F, K⟩
    simp [f46, f47]
    refine At.dec (fun hlt2 => ?_) (fun hlt2 => ?_)
    · have hk' : k < cols m := by omega
      have hkr : k < (m[i]).length := by omega
      have bE := hel _ (List.getElem_mem hi') (m[i])[k] (List.getElem_mem hkr)
      have w2 : IntKind.i64.wrap (2 * (m[i])[k]) = 2 * (m[i])[k] := wrap64 (by omega) (by omega)
      have bS : 0 ≤ S * (m[i])[k] ∧ S * (m[i])[k] ≤ 5 * 6 := ⟨Int.mul_nonneg (by omega) bE.1, Int.mul_le_mul hS5.2 bE.2 bE.1 (by omega)⟩
      have wS : IntKind.i64.wrap (S * (m[i])[k]) = S * (m[i])[k] := wrap64 (by omega) (by omega)
      have tl : ((m.getD i []).take k).length ≤ 1000 := by rw [List.length_take]; omega
      have qv : ∀ v : Int, asV 1 (.sl 1 [.int .i64 v] .exact) = some [.int .i64 v] := fun v => asV_sl (by simp)
      obtain ⟨x3, hs1, ap1, sd1, l1, sm1⟩ := K.sd.app K.x (qv (2 * (m[i])[k])) (by simp at tl ⊢; omega)
      have y0 : asV 1 (upF F 3 x3 4) = some (ints (((m.getD i []).take k).map fun h => S * h)) := by rw [upF_ne (by omega)]; exact K.y
      obtain ⟨y4, hs2, ap2, sd2, l2, sm2⟩ := sd1.app y0 (qv (S * (m[i])[k])) (by simp at tl ⊢; omega)
      have t0 : asV 1 (upF (upF F 3 x3) 4 y4 (5 + k)) = some (ints (colP m k i)) := by rw [upF_ne (by omega), upF_ne (by omega)]; have := K.tu k hk'; simpa using this
      obtain ⟨z, hs3, ap3, sd3, l3, sm3⟩ := sd2.app t0 (qv (m[i])[k]) (by rw [ints_len, colP_len (by omega)]; simp; omega)
      rw [upF_ne (by omega)] at ap2
      rw [upF_ne (by omega), upF_ne (by omega)] at ap3
      have x1 : aidxS 1 (.msl false 1 q 0 (cols m) true) (.int .i64 (k : Int)) = some (.ref q k) := aidx_msln hk'
      have hp2 : hs2.heap q = some (tuL F (cols m)) := by rw [sm2.heap, sm1.heap, K.hp]
      have hkt : k < (tuL F (cols m)).length := by rw [tuL_len]; exact hk'
      have ld : aload hs2.heap false 1 (.ref q k) = some (F (5 + k)) := by rw [load_cell hp2 hkt, tuL_get]
      have st : astore hs3.heap 1 (.ref q k) z = _ := store_cell (by rw [sm3.heap]; exact hp2) hkt (asV_leaf l3)
      rw [← K.e12] at ap1
      rw [← K.e13] at ap2
      simp [f6, f10, f45, f47, aidx_nat hrow hkr, w2, wS, astoAll, si, ci, ap1, ap2, x1, ld, ap3, st]
      have hg : ∀ c : Int, ((m.getD i []).take k).map (fun h => c * h) ++ [c * (m[i])[k]] = ((m.getD i []).take (k + 1)).map fun h => c * h := fun c => by
        rw [hgi, take_snoc hkr, List.map_append]; rfl
      refine hN2 (k + 1) _ (by omega) ⟨by omega, by simp [f1], by simp [f5], by simp [f6], by simp [f10], by simp [f37], by simp [f38], by simp [f39], by simp [f11], by simp [f45], by simp [f46], by simp [wrap_nat1 (show k < _ by omega)], upF (upF (upF F 3 x3) 4 y4) (5 + k) z, ?_⟩
      have a0 : upF (upF (upF F 3 x3) 4 y4) (5 + k) z 0 = F 0 := by rw [upF_ne (by omega), upF_ne (by omega), upF_ne (by omega)]
      have a1 : upF (upF (upF F 3 x3) 4 y4) (5 + k) z 1 = F 1 := by rw [upF_ne (by omega), upF_ne (by omega), upF_ne (by omega)]
      have a2 : upF (upF (upF F 3 x3) 4 y4) (5 + k) z 2 = F 2 := by rw [upF_ne (by omega), upF_ne (by omega), upF_ne (by omega)]
      have a3 : upF (upF (upF F 3 x3) 4 y4) (5 + k) z 3 = x3 := by rw [upF_ne (by omega), upF_ne (by omega), upF_eq]
      have a4 : upF (upF (upF F 3 x3) 4 y4) (5 + k) z 4 = y4 := by rw [upF_ne (by omega), upF_eq]
      refine ⟨?_, by simp [a0, K.e7], by simp [a1, K.e8], by simp [a2, K.e9], by simp [a3], by simp [a4], ?_, by rw [a0]; exact K.tw, by rw [a1]; exact K.ti, by rw [a2]; exact K.mo, ?_, ?_, fun j hj => ?_⟩
      · exact sd3.cong rfl rfl
      · have : tuL (upF (upF (upF F 3 x3) 4 y4) (5 + k) z) (cols m) = (tuL F (cols m)).set k z := by
          rw [← tuL_set, tuL_other (by omega), tuL_other (by omega)]
        simp [this]
      · rw [a3, l1, ← hg]; simp [ints]
      · rw [a4, l2, ← hg]; simp [ints]
      · by_cases hjk : j = k
        · subst hjk
          rw [upF_eq, if_pos (by omega), ← colP_s hi', l3]
          simp [ints, hkr]
        · rw [upF_ne (by omega), upF_ne (by omega), upF_ne (by omega), K.tu j hj]
          congr 3
          by_cases hjl : j < k
          · rw [if_pos hjl, if_pos (by omega)]
          · rw [if_neg hjl, if_neg (by omega)]
    · have hk' : k = cols m := by omega
      subst hk'
      have hgx : (m.getD i []).take (cols m) = m[i] := by rw [hgi]; exact List.take_of_length_le (by omega)
      have Kx := K.x
      have Ky := K.y
      rw [hgx] at Kx Ky
      have lx : asI (F 3) = some ((m[i]).map fun h => 2 * h) := asV_asI Kx
      have ly : asI (F 4) = some ((m[i]).map fun h => S * h) := asV_asI Ky
      obtain ⟨es0, b1, b2, b3⟩ := K.tw.take (by simp [scM]; omega)
      obtain ⟨es1, c1, c2, c3⟩ := K.ti.take (by simp [scM]; omega)
      obtain ⟨es2, d1, d2, d3⟩ := K.mo.take (by simp [moM]; omega)
      have qv : ∀ v : AV, asV 1 (.sl 1 [v] .exact) = some [v] := fun v => asV_sl (by simp)
      obtain ⟨y0, hs1, ap1, sd1, l1, sm1⟩ := K.sd.app b1 (qv (F 3)) (by simp [b2]; omega)
      have c1' : asV 1 (upF F 0 y0 1) = some es1 := by rw [upF_ne (by omega)]; exact c1
      obtain ⟨y1, hs2, ap2, sd2, l2, sm2⟩ := sd1.app c1' (qv (F 4)) (by simp [c2]; omega)
      rw [upF_ne (by omega)] at ap2
      have hj : tuN i T m.length < m.length := Nat.mod_lt _ (by omega)
      have hjl := hw.len hj
      obtain ⟨z, w1, hs3, w2, hs4, r1, r2, r3, r4, sm4, kt4⟩ := rot_make (hs := hs2) (hRi _ hj) (by omega) (by omega)
      have sd3 := sd2.keep kt4
      have d1' : asV 1 (upF (upF F 0 y0) 1 y1 2) = some es2 := by rw [upF_ne (by omega), upF_ne (by omega)]; exact d1
      obtain ⟨y2, hs5, ap5, sd5, l5, sm5⟩ := sd3.app d1' (qv w2) (by simp [d2]; omega)
      rw [upF_ne (by omega), upF_ne (by omega)] at ap5
      have sto3 : (F 3).sto = true := asI_sto lx
      have cel3 : (F 3).cells = [F 3] := asI_cells lx
      have sto4 : (F 4).sto = true := asI_sto ly
      have cel4 : (F 4).cells = [F 4] := asI_cells ly
      have stow : w2.sto = true := asI_sto r4
      have celw : w2.cells = [w2] := asI_cells r4
      have cT : IntKind.i64.wrap (T : Int) = T := wrap_nat (by omega)
      have wa : IntKind.i64.wrap ((i : Int) + (T : Int)) = (i : Int) + T := wrap64 (by omega) (by omega)
      have rm : ((i : Int) + (T : Int)).tmod (m.length : Int) = (tuN i T m.length : Int) := rfl
      have hne : ¬ m = [] := by intro h; rw [h] at h0; simp at h0
      obtain ⟨c0, hc0⟩ := hRi _ hj
      have ai0 := aidx_nat (k := .i64) (hw.rows hx hj) (i := 0) (by omega)
      have hg0 : (m[tuN i T m.length])[0]'(by omega) = (m[tuN i T m.length]).getD 0 0 := by simp [List.getD, show 0 < (m[tuN i T m.length]).length by omega]
      rw [hg0] at ai0
      simp only [Int.ofNat_eq_natCast, Int.natCast_zero] at ai0
      simp [K.e7, K.e8, K.e9, K.e12, K.e13, f1, f5, f11, f39, astoAll, sto3, cel3, sto4, cel4, ap1, ap2, cT, wa, hx.len, hne, rm, hx.get hj, hx.ld hj, r1, r2, ai0, si, ci, -List.getD_eq_getElem?_getD, r3, stow, celw, ap5]
      refine hN (i + 1) _ (by omega) ⟨by omega, by simp [f1], by simp [f5], by simp [f6], by simp [f10], by simp [f37], by simp [f38], by simp [wrap_nat1 (show i < _ by omega)], upF (upF (upF F 0 y0) 1 y1) 2 y2, ?_⟩
      have a0 : upF (upF (upF F 0 y0) 1 y1) 2 y2 0 = y0 := by rw [upF_ne (by omega), upF_ne (by omega), upF_eq]
      have a1 : upF (upF (upF F 0 y0) 1 y1) 2 y2 1 = y1 := by rw [upF_ne (by omega), upF_eq]
      refine ⟨by simpa using sd5, by simp [a0], by simp [a1], by simp, ?_, ?_, ?_, ?_, fun j hj => ?_⟩
      · have : hs5.heap q = some (tuL (upF (upF (upF F 0 y0) 1 y1) 2 y2) (cols m)) := by
          rw [tuL_other (by omega), tuL_other (by omega), tuL_other (by omega), sm5.heap, sm4.heap, sm2.heap, sm1.heap, K.hp]
        simpa using this
      · rw [a0]
        exact MatA.snoc (by simp [scM]; omega) b2 b3 l1 (by rw [lx]; simp [scM])
      · rw [a1]
        exact MatA.snoc (by simp [scM]; omega) c2 c3 l2 (by rw [ly]; simp [scM])
      · rw [upF_eq]
        have hml : (moM m (T % m.length)).length = m.length := by simp [moM]; omega
        refine MatA.snoc (by omega) d2 d3 l5 ?_
        have := mo_get (m := m) (t := T % m.length) (i := i) (Nat.mod_lt _ (by omega)) hi'
        rw [List.getElem?_eq_getElem (by omega)] at this
        injection this with this
        rw [this, r4, Nat.add_mod_mod]
        congr 2
        show _ = m.getD (tuN i T m.length) []
        simp [List.getD, hj]
      · rw [upF_ne (by omega), upF_ne (by omega), upF_ne (by omega), K.tu j hj, if_pos hj]
  · have hi' : i = m.length := by omega
    subst hi'
    have tkA : ∀ l : List (List Int), l.length = m.length → l.take m.length = l := fun l h => List.take_of_length_le (by omega)
    have hTw := I.tw
    have hTi := I.ti
    have hMo := I.mo
    rw [tkA _ (by simp [scM])] at hTw hTi
    rw [tkA _ (by simp [moM]; omega)] at hMo
    obtain ⟨R0, g0⟩ := hTw.isM
    obtain ⟨R1, g1⟩ := hTi.isM
    obtain ⟨R2, g2⟩ := hMo.isM
    have htl : (trM m).length = cols m := by simp [trM]
    have hcP : ∀ (j : Nat) (h : j < (trM m).length), asI (F (5 + j)) = some (trM m)[j] := fun j h => by
      rw [asV_asI (I.tu j (by omega))]
      simp [colP, trM]
    have g3 : IsM (.sl 1 (tuL F (cols m)) .exact) (trM m) (fun j => F (5 + j)) := by
      rw [tuL, ← htl]
      exact isM_sl (by rw [htl]; omega) fun j h => rowI_of (hcP j h)
    have fz : frz s.hs.heap 2 (.msl false 1 q 0 (cols m) true) = .sl 1 (tuL F (cols m)) .exact := by
      rw [frz_msl, frzL_msl I.hp (mcont_full (tuL_len _ _))]
      simp only [if_true]
      congr 1
      conv => rhs; rw [← List.map_id (tuL F (cols m))]
      apply List.map_congr_left
      intro z hz
      simp only [tuL, List.mem_map, List.mem_range] at hz
      obtain ⟨j, hj, rfl⟩ := hz
      have := hcP j (by omega)
      exact frzC_noM (rowI_noM (rowI_of this) _) (asI_leaf this)
    have okT := hw.tr
    have okM := hw.mo (T % m.length)
    have ok2 : OkW (scM 2 m) := hw.sc (by omega) fun r hr h hh => by have := hel r hr h hh; omega
    have okS : OkW (scM S m) := hw.sc (by omega) fun r hr h hh => by
      have := hel r hr h hh
      have := Int.mul_le_mul hS5.2 this.2 this.1 (show (0 : Int) ≤ 5 by omega)
      omega
    have hS6 : 1 ≤ S ∧ S ≤ 6 := by omega
    have k0 : alcall E 32 s.hs [x, .int .i64 S] = some (.tup [.int .i64 (short m S), .int .i64 0]) := alcall_of (by simp [hx.frz, e32 _ _ hx.asM, shV_ok hw hS6]) rfl
    have k1 : alcall E 32 s.hs [F 0, .int .i64 S] = some (.tup [.int .i64 (short (scM 2 m) S), .int .i64 0]) := alcall_of (by simp [g0.frz, e32 _ _ g0.asM, shV_ok ok2 hS6]) rfl
    have k2 : alcall E 32 s.hs [F 1, .int .i64 S] = some (.tup [.int .i64 (short (scM S m) S), .int .i64 0]) := alcall_of (by simp [g1.frz, e32 _ _ g1.asM, shV_ok okS hS6]) rfl
    have k3 : alcall E 32 s.hs [F 2, .int .i64 S] = some (.tup [.int .i64 (short m S), .int .i64 0]) := alcall_of (by simp [g2.frz, e32 _ _ g2.asM, shV_ok okM hS6, short_mo hw]) rfl
    have k4 : alcall E 32 s.hs [.msl false 1 q 0 (cols m) true, .int .i64 S] = some (.tup [.int .i64 (short m S), .int .i64 0]) := alcall_of (by simp only [List.map_cons, List.map_nil, fz, frz_int, e32 _ _ g3.asM, shV_ok okT hS6, short_tr hw]) rfl
    have n0 := (short_bd hw hS6).1
    have n1 := short_1000 hw (by omega) hS6
    have n2 := short_sc (m := m) (s := S) (c := 2) (by omega) (by omega)
    have n3 := short_sc_ge hw (s := S) (by omega)
    have n4 := short_sc (m := m) (s := S) (c := S) (by omega) (by omega)
    have n5 : 0 ≤ S * short m S ∧ S * short m S ≤ 5 * 1000 := ⟨Int.mul_nonneg (by omega) n0, Int.mul_le_mul hS5.2 (by omega) n0 (by omega)⟩
    have v2 : IntKind.i64.wrap (2 * short m S) = 2 * short m S := wrap64 (by omega) (by omega)
    have vS : IntKind.i64.wrap (S * short m S) = S * short m S := wrap64 (by omega) (by omega)
    simp [e5, e6, e10, I.e7, I.e8, I.e9, k0, k1, k2, k3, k4, n0, n1, v2, vS, n2, n3, n4, e15]
theorem halves_typed (xs : List AV) (h : Typed [TBe, .int .u8] xs) : PCall Try.prog 10 xs (.bool true) := by
  obtain ⟨x, y, rfl, h1, h2⟩ := h.two
  obtain ⟨u, hu, rfl⟩ := ben_typed h1
  obtain ⟨n, hn, rfl⟩ := u8_typed h2
  exact p10 u hu n hn
end Go.Proofs.Ytokgpcdbpkginaa
