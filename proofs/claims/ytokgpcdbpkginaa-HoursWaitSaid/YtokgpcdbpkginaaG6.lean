/-
  Many lists under way side by side. Own work.
  HoursHalves: the plain law. Own work.
-/
import Derived.Test.YtokgpcdbpkginaaG5
set_option linter.unusedVariables false
set_option linter.unusedSimpArgs false
namespace Go.Proofs.Ytokgpcdbpkginaa
open Go Fw

/-- slots that may all be appended to -/
structure Side (hs : HS) (F : Nat → AV) : Prop where
  fresh : ∀ i, Fresh hs (F i)
  apart : ∀ i j, i ≠ j → Apart (F i) (F j)
def upF (F : Nat → AV) (p : Nat) (y : AV) : Nat → AV := fun i => if i = p then y else F i
@[simp] theorem upF_eq {F : Nat → AV} {p : Nat} {y : AV} : upF F p y p = y := by simp [upF]
theorem upF_ne {F : Nat → AV} {p i : Nat} {y : AV} (h : i ≠ p) : upF F p y i = F i := by simp [upF, h]
theorem Side.nil (hs : HS) : Side hs (fun _ => .nilsl) := ⟨fun _ => trivial, fun _ _ _ => Apart.nil⟩
theorem Side.set {hs hs' : HS} {F : Nat → AV} {p : Nat} {y : AV} (h : ∀ i, i ≠ p → Fresh hs' (F i) ∧ Apart y (F i)) (hy : Fresh hs' y) (hs : Side hs F) : Side hs' (upF F p y) := by
  refine ⟨fun i => ?_, fun i j hij => ?_⟩
  · by_cases e : i = p
    · subst e; rw [upF_eq]; exact hy
    · rw [upF_ne e]; exact (h i e).1
  · by_cases e : i = p
    · subst e
      rw [upF_eq, upF_ne (Ne.symm hij)]; exact (h j (Ne.symm hij)).2
    · rw [upF_ne e]
      by_cases e2 : j = p
      · subst e2; rw [upF_eq]; exact (h i e).2.symm
      · rw [upF_ne e2]; exact hs.apart i j hij
theorem Side.app {hs : HS} {F : Nat → AV} (h : Side hs F) {p : Nat} {l ys : List AV} {q : AV} (hp : asV 1 (F p) = some l) (hq : asV 1 q = some ys) (hl : l.length + ys.length ≤ 1000000) :
    ∃ y hs', aappend 1 hs (F p) q = some (y, hs') ∧ Side hs' (upF F p y) ∧ asV 1 y = some (l ++ ys) ∧ SameMem hs hs' := by
  obtain ⟨e1, e2⟩ := elems_of hp
  obtain ⟨y, hs', a1, a2, a3, a4, a5, a6, a7⟩ := append_fresh (h.fresh p) e1 e2 hq (by omega)
  refine ⟨y, hs', a1, Side.set (fun i hi => a7 (h.fresh i) (h.apart p i (Ne.symm hi))) a2 h, ?_, a6⟩
  rcases a5 with ⟨rfl, rfl⟩ | ⟨k, rfl⟩
  · simpa using hp
  · exact asV_sl (by simp; omega)
theorem fresh_keep {hs hs' : HS} {x : AV} (h : Fresh hs x) (k : KeepT hs hs') : Fresh hs' x := by
  revert h
  unfold Fresh
  split <;> intro h
  · trivial
  · trivial
  · exact ⟨k.tok _ h.2 h.1, Nat.lt_of_lt_of_le h.2 k.nt⟩
  · exact h
theorem Side.keep {hs hs' : HS} {F : Nat → AV} (h : Side hs F) (k : KeepT hs hs') : Side hs' F := ⟨fun i => fresh_keep (h.fresh i) k, h.apart⟩
theorem Side.clear {hs : HS} {F : Nat → AV} (h : Side hs F) (p : Nat) : Side hs (upF F p .nilsl) := h.set (fun i hi => ⟨h.fresh i, Apart.nil⟩) trivial
theorem Side.cong {hs hs' : HS} {F : Nat → AV} (h : Side hs F) (ht : hs'.tok = hs.tok) (hn : hs'.nt = hs.nt) : Side hs' F := h.keep ⟨by omega, fun k _ h => by rw [ht]; exact h⟩
/-- a list of lists, row by row -/
def MatA (x : AV) (m : List (List Int)) : Prop := ∃ es, asV 1 x = some es ∧ es.length = m.length ∧ ∀ (j : Nat) (h : j < es.length) (h' : j < m.length), asI es[j] = some m[j]
theorem MatA.nil : MatA .nilsl [] := ⟨[], rfl, rfl, fun j h => by simp at h⟩
theorem MatA.isM {x : AV} {m : List (List Int)} (h : MatA x m) : ∃ R, IsM x m R := by
  obtain ⟨es, h1, h2, h3⟩ := h
  obtain ⟨hf, hl⟩ := asV_inv h1
  refine ⟨fun i => es.getD i .nilsl, by omega, ?_, fun i hi => ?_⟩
  · rcases hf with ⟨rfl, rfl⟩ | ⟨c, rfl⟩
    · exact .inl ⟨rfl, List.length_eq_zero_iff.1 h2.symm⟩
    · refine .inr ⟨c, ?_⟩
      congr 1
      apply List.ext_getElem
      · simp [h2]
      · intro i a b
        simp [List.getD, a]
  · have hi' : i < es.length := by omega
    simp only [List.getD_eq_getElem?_getD, List.getElem?_eq_getElem hi', Option.getD_some]
    exact rowI_of (h3 i hi' hi)
theorem MatA.snoc {m : List (List Int)} {es : List AV} {y x : AV} {i : Nat} (hi : i < m.length) (hl : es.length = i) (h3 : ∀ (j : Nat) (h : j < es.length) (h' : j < (m.take i).length), asI es[j] = some (m.take i)[j]) (hy : asV 1 y = some (es ++ [x])) (hx : asI x = some m[i]) : MatA y (m.take (i + 1)) := by
  refine ⟨_, hy, by simp [hl]; omega, fun j h h' => ?_⟩
  rw [List.getElem_append]
  split
  · rename_i hj
    rw [h3 j hj (by simp; omega)]
    simp
  · rename_i hj
    have : j = i := by simp at h; omega
    subst this
    simp [hl, hx]
/-- a row, turned by one -/
def rot1 (l : List Int) : List Int := l.drop 1 ++ [l.getD 0 0]
theorem rot1_len {l : List Int} (h : 0 < l.length) : (rot1 l).length = l.length := by simp [rot1]; omega
theorem rot_make {hs : HS} {x : AV} {l : List Int} (hx : ∃ c, x = .sl 1 (ints l) c) (hl : 0 < l.length) (hl2 : l.length ≤ 1000) :
    ∃ z y1 hs1 y hs2, aslice 1 x (some (.int .i64 1)) none none = some z ∧ aappend 1 hs (.sl 1 [] .exact) z = some (y1, hs1) ∧ aappend 1 hs1 y1 (.sl 1 [.int .i64 (l.getD 0 0)] .exact) = some (y, hs2) ∧ asI y = some (rot1 l) ∧ SameMem hs hs2 ∧ KeepT hs hs2 := by
  obtain ⟨c, rfl⟩ := hx
  have hsl : aslice 1 (.sl 1 (ints l) c) (some (.int .i64 1)) none none = some (.sl 1 (ints (l.drop 1)) c) := by
    have : (1 : Int) ≤ (ints l).length := by rw [ints_len]; omega
    simp only [aslice, aidx, asliceL, if_true]
    rw [if_pos ⟨by omega, this⟩]
    simp [ints]
  by_cases h1 : l.drop 1 = []
  · obtain ⟨hs2, a1, a2, a3, a4, a5⟩ := append_exact (sz := 1) (hs := hs) (xs := []) (q := .sl 1 [.int .i64 (l.getD 0 0)] .exact) (ys := [.int .i64 (l.getD 0 0)]) (asV_sl (by simp)) (by simp) (by simp)
    have h0 : aappend 1 hs (.sl 1 [] .exact) (.sl 1 (ints (l.drop 1)) c) = some (.sl 1 [] .exact, hs) := by
      rw [h1]; rfl
    refine ⟨_, _, _, _, _, hsl, h0, a1, ?_, a3, a4⟩
    rw [rot1, h1]
    exact asI_sl (l := [l.getD 0 0]) (by simp)
  · obtain ⟨y1, hs1, y, hs2, b1, b2, b3, b4, b5⟩ := copy_snoc (hs := hs) (x := .sl 1 (ints (l.drop 1)) c) (c := l.drop 1) (asI_sl (by simp; omega)) h1 (by simp; omega) (l.getD 0 0)
    exact ⟨_, _, _, _, _, hsl, b1, b2, b3, b4, b5⟩
end Go.Proofs.Ytokgpcdbpkginaa
set_option linter.unusedVariables false
set_option linter.unusedSimpArgs false
namespace Go.Proofs.Ytokgpcdbpkginaa
open Go Fw

def scM (c : Int) (m : List (List Int)) : List (List Int) := m.map fun r => r.map fun h => c * h
def trM (m : List (List Int)) : List (List Int) := (List.range (cols m)).map fun k => m.map fun r => r.getD k 0
def moM (m : List (List Int)) (t : Nat) : List (List Int) := (m.drop t ++ m.take t).map rot1
/-! scaled -/
theorem sum_sc (c : Int) : ∀ l : List Int, (l.map fun h => c * h).sum = c * l.sum
  | [] => by simp
  | a :: l => by simp only [List.map_cons, List.sum_cons, sum_sc c l, Int.mul_add]
theorem arts_sc (c : Int) (m : List (List Int)) : arts (scM c m) = (arts m).map fun h => c * h := by
  simp only [arts, scM, List.map_map]
  apply List.map_congr_left
  intro r _
  exact sum_sc c r
theorem getD_sc (c : Int) (l : List Int) (k : Nat) : (l.map fun h => c * h).getD k 0 = c * l.getD k 0 := by
  rcases Nat.lt_or_ge k l.length with h | h
  · simp [List.getD, h]
  · simp [List.getD, List.getElem?_eq_none h]
theorem cols_sc (c : Int) (m : List (List Int)) : cols (scM c m) = cols m := by
  cases m with
  | nil => rfl
  | cons r m => simp [cols, scM]
theorem machs_sc (c : Int) (m : List (List Int)) : machs (scM c m) = (machs m).map fun h => c * h := by
  unfold machs
  rw [cols_sc, List.map_map]
  apply List.map_congr_left
  intro k _
  simp only [Function.comp, colN, scM, List.map_map]
  rw [← sum_sc, List.map_map]
  congr 1
  apply List.map_congr_left
  intro r _
  simp only [Function.comp]
  exact getD_sc c r k
theorem gtr_sc {c : Int} (hc : 0 ≤ c) : ∀ (l : List Int) (a : Int), gtr (c * a) (l.map fun h => c * h) = c * gtr a l
  | [], a => rfl
  | b :: l, a => by
    show gtr (max (c * a) (c * b)) (l.map fun h => c * h) = c * gtr (max a b) l
    rw [← gtr_sc hc l (max a b)]
    congr 1
    rcases Int.le_total a b with h | h
    · have := Int.mul_le_mul_of_nonneg_left h hc
      rw [show max a b = b by omega]; omega
    · have := Int.mul_le_mul_of_nonneg_left h hc
      rw [show max a b = a by omega]; omega
theorem maxL_sc {c : Int} (hc : 0 ≤ c) (m : List (List Int)) : maxL (scM c m) = c * maxL m := by
  have h1 := gtr_sc hc (arts m) 0
  have h2 := gtr_sc hc (machs m) 0
  rw [Int.mul_zero] at h1 h2
  unfold maxL
  rw [arts_sc, machs_sc, h1, h2]
  rcases Int.le_total (gtr 0 (arts m)) (gtr 0 (machs m)) with h | h
  · have := Int.mul_le_mul_of_nonneg_left h hc
    rw [show max (gtr 0 (arts m)) (gtr 0 (machs m)) = gtr 0 (machs m) by omega]; omega
  · have := Int.mul_le_mul_of_nonneg_left h hc
    rw [show max (gtr 0 (arts m)) (gtr 0 (machs m)) = gtr 0 (arts m) by omega]; omega
theorem tot_sc (c : Int) (m : List (List Int)) : tot (scM c m) = c * tot m := by
  unfold tot; rw [arts_sc, sum_sc]
theorem short_le {m : List (List Int)} {s t : Int} (hs : 1 ≤ s) : short m s ≤ t ↔ maxL m ≤ t ∧ tot m ≤ s * t := by
  rw [← upN_le (m := m) (s := s) (t := t) hs, short_eq]; omega
theorem short_sc {m : List (List Int)} {s c : Int} (hs : 1 ≤ s) (hc : 0 ≤ c) : short (scM c m) s ≤ c * short m s := by
  have h := (short_le (m := m) (s := s) (t := short m s) hs).1 (Int.le_refl _)
  refine (short_le hs).2 ⟨?_, ?_⟩
  · rw [maxL_sc hc]; exact Int.mul_le_mul_of_nonneg_left h.1 hc
  · rw [tot_sc, Int.mul_left_comm]; exact Int.mul_le_mul_of_nonneg_left h.2 hc
theorem short_sc_ge {m : List (List Int)} (hw : OkW m) {s : Int} (hs : 1 ≤ s) : short m s ≤ short (scM 2 m) s := by
  have h := (short_le (m := scM 2 m) (s := s) (t := short (scM 2 m) s) hs).1 (Int.le_refl _)
  rw [maxL_sc (by omega), tot_sc] at h
  have h1 := (maxL_bd hw).1
  have h2 := hw.tot.1
  exact (short_le hs).2 ⟨by omega, by omega⟩
theorem OkW.sc {m : List (List Int)} (hw : OkW m) {c : Int} (hc : 0 ≤ c) (hb : ∀ r ∈ m, ∀ h ∈ r, c * h ≤ 30) : OkW (scM c m) := by
  have hcl : ((scM c m).getD 0 []).length = (m.getD 0 []).length := cols_sc c m
  refine ⟨by simpa [scM] using hw.r1, by simpa [scM] using hw.r6, by rw [hcl]; exact hw.c1, by rw [hcl]; exact hw.c6, fun r hr => ?_, fun r hr h hh => ?_⟩
  · rw [hcl]
    obtain ⟨r0, hr0, rfl⟩ := List.mem_map.1 hr
    rw [List.length_map]; exact hw.row r0 hr0
  · obtain ⟨r0, hr0, rfl⟩ := List.mem_map.1 hr
    obtain ⟨h0, hh0, rfl⟩ := List.mem_map.1 hh
    have := (hw.bd r0 hr0 h0 hh0).1
    exact ⟨Int.mul_nonneg hc this, hb r0 hr0 h0 hh0⟩
theorem short_1000 {m : List (List Int)} (hw : OkW m) (h4 : m.length ≤ 4) {s : Int} (hs : 1 ≤ s ∧ s ≤ 6) : short m s < 1000 := by
  have h1 := tot_arts hw
  have h2 := maxL_bd hw
  have h3 := hw.tot.1
  have : (m.length : Int) * maxL m ≤ 4 * 180 := Int.mul_le_mul (by omega) h2.2 h2.1 (by omega)
  have h5 : tot m ≤ s * tot m := by
    have := Int.mul_le_mul_of_nonneg_right hs.1 h3
    omega
  have h6 : short m s ≤ max (maxL m) (tot m) := (short_le hs.1).2 ⟨by omega, by
    have : s * tot m ≤ s * max (maxL m) (tot m) := Int.mul_le_mul_of_nonneg_left (by omega) (by omega)
    omega⟩
  omega
/-! the same numbers in another order -/
theorem gtr_same {l l2 : List Int} (h : ∀ x, x ∈ l ↔ x ∈ l2) (a : Int) : gtr a l = gtr a l2 := by
  have key : ∀ {l l2 : List Int}, (∀ x ∈ l, x ∈ l2) → gtr a l ≤ gtr a l2 := by
    intro l l2 h
    rcases gtr_in l a with e | e
    · rw [e]; exact gtr_ge l2 a
    · exact gtr_el (h _ e)
  have h1 := key fun x hx => (h x).1 hx
  have h2 := key fun x hx => (h x).2 hx
  omega
/-- exchanged -/
theorem tr_cols {m : List (List Int)} (hw : OkW m) : cols (trM m) = m.length := by
  have h1 : 0 < cols m := hw.c1
  unfold cols trM
  rw [List.getD_eq_getElem?_getD, List.getElem?_eq_getElem (by simpa using h1)]
  simp
theorem arts_tr (m : List (List Int)) : arts (trM m) = machs m := by
  simp only [arts, trM, machs, List.map_map]
  apply List.map_congr_left
  intro k _
  rfl
theorem machs_tr {m : List (List Int)} (hw : OkW m) : machs (trM m) = arts m := by
  unfold machs
  rw [tr_cols hw]
  apply List.ext_getElem
  · simp [arts]
  · intro i h1 h2
    have hi : i < m.length := by simpa using h1
    simp only [List.getElem_map, List.getElem_range, colN, trM, List.map_map, arts]
    rw [← sum_range_getD (cols m) m[i] (hw.len hi)]
    congr 1
    apply List.map_congr_left
    intro k _
    simp [List.getD, hi]
theorem short_tr {m : List (List Int)} (hw : OkW m) (s : Int) : short (trM m) s = short m s := by
  have ht : tot (trM m) = tot m := by unfold tot; rw [arts_tr]; exact hw.tot2
  rw [short_eq, short_eq]
  unfold maxL upN
  rw [arts_tr, machs_tr hw, ht]
  congr 1
  omega
theorem OkW.tr {m : List (List Int)} (hw : OkW m) : OkW (trM m) := by
  have hc : ((trM m).getD 0 []).length = m.length := tr_cols hw
  have hl : (trM m).length = cols m := by simp [trM]
  refine ⟨by rw [hl]; exact hw.c1, by rw [hl]; exact hw.c6, by rw [hc]; exact hw.r1, by rw [hc]; exact hw.r6, fun r hr => ?_, fun r hr h hh => ?_⟩
  · rw [hc]
    obtain ⟨k, _, rfl⟩ := List.mem_map.1 hr
    simp
  · obtain ⟨k, _, rfl⟩ := List.mem_map.1 hr
    obtain ⟨r0, hr0, rfl⟩ := List.mem_map.1 hh
    exact hw.el hr0 k
/-- turned -/
theorem rot_sum {l : List Int} (h : 0 < l.length) : (rot1 l).sum = l.sum := by
  cases l with
  | nil => simp at h
  | cons a l => simp [rot1, List.sum_append]; omega
theorem mem_rot {l : List (List Int)} {t : Nat} (x : List Int) : x ∈ l.drop t ++ l.take t ↔ x ∈ l := by
  have : x ∈ l ↔ x ∈ l.take t ++ l.drop t := by rw [List.take_append_drop]
  rw [this, List.mem_append, List.mem_append, or_comm]
theorem sum_rot (f : List Int → Int) (l : List (List Int)) (t : Nat) : ((l.drop t ++ l.take t).map f).sum = (l.map f).sum := by
  have : (l.map f).sum = ((l.take t ++ l.drop t).map f).sum := by rw [List.take_append_drop]
  rw [this, List.map_append, List.map_append, List.sum_append, List.sum_append]; omega
theorem mo_cols {m : List (List Int)} (hw : OkW m) (t : Nat) : cols (moM m t) = cols m := by
  have h1 := hw.r1
  have hl : (m.drop t ++ m.take t).length = m.length := by simp; omega
  have h0 : 0 < (m.drop t ++ m.take t).length := by omega
  unfold moM
  show (List.getD _ 0 []).length = _
  rw [List.getD_eq_getElem?_getD, List.getElem?_eq_getElem (by simpa using h0)]
  simp only [List.getElem_map, Option.getD_some]
  have hm := (mem_rot (l := m) (t := t) _).1 (List.getElem_mem h0)
  have hr : _ = cols m := hw.row _ hm
  have hc : 1 ≤ cols m := hw.c1
  rw [rot1_len (by omega)]; exact hr
theorem arts_mo {m : List (List Int)} (hw : OkW m) (t : Nat) : arts (moM m t) = (m.drop t ++ m.take t).map List.sum := by
  simp only [arts, moM, List.map_map]
  apply List.map_congr_left
  intro r hr
  have hm := (mem_rot (l := m) (t := t) r).1 hr
  have h1 : r.length = cols m := hw.row r hm
  have hc : 1 ≤ cols m := hw.c1
  exact rot_sum (by omega)
theorem rot_getD {l : List Int} {k : Nat} (hk : k < l.length) : (rot1 l).getD k 0 = l.getD ((k + 1) % l.length) 0 := by
  unfold rot1
  rw [List.getD_eq_getElem?_getD, List.getElem?_append]
  simp only [List.length_drop]
  split
  · rename_i h
    rw [List.getElem?_drop, Nat.mod_eq_of_lt (by omega), Nat.add_comm k 1]; rfl
  · rename_i h
    have : k + 1 = l.length := by omega
    rw [this, Nat.mod_self, show k - (l.length - 1) = 0 by omega]; rfl
theorem colN_mo {m : List (List Int)} (hw : OkW m) (t : Nat) {k : Nat} (hk : k < cols m) : colN (moM m t) k = colN m ((k + 1) % cols m) := by
  unfold colN moM
  rw [List.map_map, ← sum_rot _ m t]
  congr 1
  apply List.map_congr_left
  intro r hr
  have hm := (mem_rot (l := m) (t := t) r).1 hr
  have h1 : r.length = cols m := hw.row r hm
  simp only [Function.comp]
  rw [rot_getD (by omega), h1]
theorem short_mo {m : List (List Int)} (hw : OkW m) (t : Nat) (s : Int) : short (moM m t) s = short m s := by
  have ht : tot (moM m t) = tot m := by
    unfold tot; rw [arts_mo hw]; exact sum_rot _ m t
  have h1 : gtr 0 (arts (moM m t)) = gtr 0 (arts m) := gtr_same (fun x => by
    rw [arts_mo hw]
    unfold arts
    simp only [List.mem_map, mem_rot]) 0
  have h2 : gtr 0 (machs (moM m t)) = gtr 0 (machs m) := gtr_same (fun x => by
    unfold machs
    rw [mo_cols hw]
    simp only [List.mem_map, List.mem_range]
    have hc : 1 ≤ cols m := hw.c1
    constructor
    · rintro ⟨k, hk, rfl⟩
      exact ⟨(k + 1) % cols m, Nat.mod_lt _ (by omega), (colN_mo hw t hk).symm⟩
    · rintro ⟨k, hk, rfl⟩
      by_cases h0 : k = 0
      · subst h0
        refine ⟨cols m - 1, by omega, ?_⟩
        rw [colN_mo hw t (by omega), show cols m - 1 + 1 = cols m by omega, Nat.mod_self]
      · refine ⟨k - 1, by omega, ?_⟩
        rw [colN_mo hw t (by omega), show k - 1 + 1 = k by omega, Nat.mod_eq_of_lt hk]) 0
  rw [short_eq, short_eq]
  unfold maxL upN
  rw [h1, h2, ht]
theorem OkW.mo {m : List (List Int)} (hw : OkW m) (t : Nat) : OkW (moM m t) := by
  have hc : ((moM m t).getD 0 []).length = (m.getD 0 []).length := mo_cols hw t
  have hl : (moM m t).length = m.length := by simp [moM]; omega
  refine ⟨by rw [hl]; exact hw.r1, by rw [hl]; exact hw.r6, by rw [hc]; exact hw.c1, by rw [hc]; exact hw.c6, fun r hr => ?_, fun r hr h hh => ?_⟩
  · obtain ⟨r0, hr0, rfl⟩ := List.mem_map.1 hr
    have h1 := hw.row r0 ((mem_rot r0).1 hr0)
    have := hw.c1
    rw [hc, rot1_len (by omega)]; exact h1
  · obtain ⟨r0, hr0, rfl⟩ := List.mem_map.1 hr
    have hm := (mem_rot r0).1 hr0
    unfold rot1 at hh
    rcases List.mem_append.1 hh with h1 | h1
    · exact hw.bd r0 hm h (List.mem_of_mem_drop h1)
    · rw [List.mem_singleton] at h1; subst h1
      exact hw.el hm 0
theorem mo_get {m : List (List Int)} {t i : Nat} (ht : t < m.length) (hi : i < m.length) : (moM m t)[i]? = some (rot1 (m.getD ((i + t) % m.length) [])) := by
  unfold moM
  rw [List.getElem?_map, List.getElem?_append]
  simp only [List.length_drop]
  split
  · rename_i h
    rw [List.getElem?_drop, Nat.mod_eq_of_lt (by omega), Nat.add_comm i t, List.getElem?_eq_getElem (by omega)]
    simp [List.getD, show t + i < m.length by omega]
  · rename_i h
    have e : (i + t) % m.length = i - (m.length - t) := by
      rw [Nat.mod_eq_sub_mod (by omega), Nat.mod_eq_of_lt (by omega)]; omega
    rw [List.getElem?_take, if_pos (by omega), e, List.getElem?_eq_getElem (by omega)]
    simp [List.getD, show i - (m.length - t) < m.length by omega]
end Go.Proofs.Ytokgpcdbpkginaa
