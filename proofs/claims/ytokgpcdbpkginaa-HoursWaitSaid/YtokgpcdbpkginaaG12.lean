/-
  HoursWait: the plain law. Own work.
  HoursWait: who has this sum works all the time, walked. Own work.
  HoursWait: machines that work all the time, walked. Own work.
  HoursWait, walked. Own work.
-/
import Derived.Test.YtokgpcdbpkginaaG10
set_option linter.unusedVariables false
set_option linter.unusedSimpArgs false
namespace Go.Proofs.Ytokgpcdbpkginaa
open Go Fw

theorem remP_sum (m : List (List Int)) (i k : Nat) : ∀ p : List (Int × List Int), remP m p i k = xg m i k - sumF p fun s => if s.2.getD i 0 = (k : Int) then s.1 else 0
  | [] => by simp [remP, sumF]
  | s :: p => by
    rw [remP, remP_sum m i k p, sumF_cons]; omega
theorem sumF_app {α : Type} (l l2 : List α) (f : α → Int) : sumF (l ++ l2) f = sumF l f + sumF l2 f := by simp [sumF]
theorem ferr_all {m : List (List Int)} (hw : OkW m) {seats : Int} (hse : 1 ≤ seats ∧ seats ≤ 6) : ∀ {q : List (Int × List Int)}, (∀ s ∈ q, StepOk m seats s) → ferr m seats q = 0
  | [], _ => rfl
  | s :: q, h => by rw [ferr, if_pos (good_step hw hse (h s (by simp)))]; exact ferr_all hw hse fun t ht => h t (by simp [ht])
/-- an hour in which nobody works, put in -/
def waitP (R : Nat) (p : List (Int × List Int)) (k : Nat) (h : Int) : List (Int × List Int) := p.take k ++ [(h, List.replicate R (-1))] ++ p.drop k
def lessP (p : List (Int × List Int)) (k : Nat) : List (Int × List Int) := p.take k ++ p.drop (k + 1)
theorem waitP_len (R : Nat) (p : List (Int × List Int)) {k : Nat} (h : Int) (hk : k ≤ p.length) : (waitP R p k h).length = p.length + 1 := by simp [waitP]; omega
section
variable {m : List (List Int)} {seats : Int} {p : List (Int × List Int)}
theorem wait_ver (hw : OkW m) (hse : 1 ≤ seats ∧ seats ≤ 6) (hg : Good m seats p) {k : Nat} (hk : k ≤ p.length) {h : Int} (hh : 1 ≤ h ∧ h ≤ 9) : lenE m seats (waitP m.length p k h) = 0 ∧ ((waitP m.length p k h).map Prod.fst).sum = short m seats + h ∧ verE m seats (waitP m.length p k h) = 14 := by
  have hc := chsE_zero.2 ⟨hw, hse⟩
  have hidle : StepOk m seats (h, List.replicate m.length (-1)) := by
    refine ⟨by simp, hh.1, by show h ≤ 1100; omega, fun v hv => ?_, fun c _ => ?_, ?_⟩
    · have := (List.mem_replicate.1 hv).2
      have hc1 : 1 ≤ cols m := hw.c1
      omega
    · have : (List.replicate m.length (-1 : Int)).count (c : Int) = 0 := List.count_eq_zero.2 fun hm => by
        have := (List.mem_replicate.1 hm).2
        omega
      show (List.replicate m.length (-1 : Int)).count (c : Int) ≤ 1
      omega
    · have : (List.replicate m.length (-1 : Int)).filter (fun v => decide (v ≠ -1)) = [] := List.filter_eq_nil_iff.2 fun v hv => by
        have := (List.mem_replicate.1 hv).2
        simp [this]
      show (((List.replicate m.length (-1 : Int)).filter fun v => decide (v ≠ -1)).length : Int) ≤ seats
      rw [this]; simp; omega
  have hall : ∀ s ∈ waitP m.length p k h, StepOk m seats s := fun s hs => by
    simp only [waitP, List.mem_append, List.mem_singleton] at hs
    rcases hs with (hs | hs) | hs
    · exact hg.st s (List.mem_of_mem_take hs)
    · rw [hs]; exact hidle
    · exact hg.st s (List.mem_of_mem_drop hs)
  have hf := ferr_all hw hse hall
  have hrem : ∀ i c, i < m.length → c < cols m → remP m (waitP m.length p k h) i c = 0 := fun i c hi hc => by
    have h1 := hg.rem i c hi hc
    rw [remP_sum] at h1 ⊢
    have h2 : sumF p (fun s => if s.2.getD i 0 = (c : Int) then s.1 else 0) = sumF (p.take k) (fun s => if s.2.getD i 0 = (c : Int) then s.1 else 0) + sumF (p.drop k) fun s => if s.2.getD i 0 = (c : Int) then s.1 else 0 := by
      rw [← sumF_app, List.take_append_drop]
    have h3 : (List.replicate m.length (-1 : Int)).getD i 0 = -1 := by simp [List.getD, hi]
    have h4 : sumF [((h, List.replicate m.length (-1)) : Int × List Int)] (fun s => if s.2.getD i 0 = (c : Int) then s.1 else 0) = 0 := by
      rw [sumF_cons, h3, if_neg (by omega)]; rfl
    rw [waitP, sumF_app, sumF_app, h4]
    omega
  have hr : remZ m (waitP m.length p k h) = true := by
    unfold remZ
    rw [List.all_eq_true]
    intro i hi
    rw [List.all_eq_true]
    intro c hc
    simpa using hrem i c (by simpa using hi) (by simpa using hc)
  have hl := waitP_len m.length p h hk
  have h0 : lenE m seats (waitP m.length p k h) = 0 := by
    have := hg.len
    rw [lenE, if_pos hc, if_neg (by omega), if_pos hf, if_pos hr]
  have hsum : ((waitP m.length p k h).map Prod.fst).sum = short m seats + h := by
    have h1 := hg.tot
    have h2 : (p.map Prod.fst).sum = ((p.take k).map Prod.fst).sum + ((p.drop k).map Prod.fst).sum := by rw [← List.sum_append, ← List.map_append, List.take_append_drop]
    simp only [waitP, List.map_append, List.sum_append, List.map_cons, List.map_nil, List.sum_cons, List.sum_nil]
    omega
  refine ⟨h0, hsum, ?_⟩
  rw [verE, if_pos h0, hsum, if_pos (by omega)]
theorem less_ver (hw : OkW m) (hse : 1 ≤ seats ∧ seats ≤ 6) (hg : Good m seats p) {k : Nat} (hk : k < p.length) (hu : ∃ v ∈ p[k].2, v ≠ -1) : verE m seats (lessP p k) = 13 := by
  have hc := chsE_zero.2 ⟨hw, hse⟩
  have hf : ferr m seats (lessP p k) = 0 := ferr_all hw hse fun s hs => by
    simp only [lessP, List.mem_append] at hs
    rcases hs with hs | hs
    · exact hg.st s (List.mem_of_mem_take hs)
    · exact hg.st s (List.mem_of_mem_drop hs)
  have hso := hg.st p[k] (List.getElem_mem hk)
  obtain ⟨v, hv, hne⟩ := hu
  obtain ⟨i, hi, rfl⟩ := List.mem_iff_getElem.1 hv
  have hb := hso.pl p[k].2[i] (List.getElem_mem hi)
  obtain ⟨c, hc2, e⟩ : ∃ c : Nat, c < cols m ∧ p[k].2[i] = (c : Int) := ⟨(p[k].2[i]).toNat, by omega, by omega⟩
  have hi2 : i < m.length := by rw [← hso.len]; exact hi
  have hrem : remP m (lessP p k) i c ≠ 0 := by
    have h1 := hg.rem i c hi2 hc2
    rw [remP_sum] at h1 ⊢
    have h2 : sumF p (fun s => if s.2.getD i 0 = (c : Int) then s.1 else 0) = sumF (p.take k) (fun s => if s.2.getD i 0 = (c : Int) then s.1 else 0) + (p[k].1 + sumF (p.drop (k + 1)) fun s => if s.2.getD i 0 = (c : Int) then s.1 else 0) := by
      have h3 : p = p.take k ++ (p[k] :: p.drop (k + 1)) := by rw [List.getElem_cons_drop, List.take_append_drop]
      conv => lhs; rw [h3]
      rw [sumF_app, sumF_cons, getD_of hi, if_pos e]
    have := hso.h1
    rw [lessP, sumF_app]
    omega
  have hr : remZ m (lessP p k) = false := by
    rw [← Bool.not_eq_true]
    intro hr
    unfold remZ at hr
    have := List.all_eq_true.1 (List.all_eq_true.1 hr i (by simpa using hi2)) c (by simpa using hc2)
    exact hrem (by simpa using this)
  have hl : ¬ 200 < (lessP p k).length := by
    have := hg.len
    simp [lessP]; omega
  have h13 : lenE m seats (lessP p k) = 13 := by
    rw [lenE, if_pos hc, if_neg hl, if_pos hf, if_neg (by simp [hr])]
  rw [verE, h13, if_neg (by omega)]
theorem sumF_eq {α : Type} {f w : α → Int} : ∀ {l : List α}, (∀ s ∈ l, f s ≤ w s) → sumF l f = sumF l w → ∀ s ∈ l, f s = w s
  | [], _, _, s, hs => by simp at hs
  | a :: l, h, e, s, hs => by
    rw [sumF_cons, sumF_cons] at e
    have h1 := h a (by simp)
    have h2 : sumF l f ≤ sumF l w := sumF_le fun b hb => h b (by simp [hb])
    rcases List.mem_cons.1 hs with rfl | hs
    · omega
    · exact sumF_eq (fun b hb => h b (by simp [hb])) (by omega) s hs
theorem sumF_getD (f : Int → Int) : ∀ (n : Nat) (l : List Int), l.length = n → sumF (List.range n) (fun i => f (l.getD i 0)) = sumF l f := by
  intro n l h
  unfold sumF
  congr 1
  apply List.ext_getElem
  · simp [h]
  · intro i h1 h2
    have : i < l.length := by simpa using h2
    simp [List.getD, this]
theorem sumF_count (k h : Int) : ∀ l : List Int, sumF l (fun v => if v = k then h else 0) = (l.count k : Nat) * h
  | [] => by simp [sumF]
  | a :: l => by
    rw [sumF_cons, sumF_count k h l, List.count_cons]
    by_cases e : a = k
    · simp [e, Int.add_mul]; omega
    · simp [e]
theorem row_sum (hw : OkW m) (hg : Good m seats p) {i : Nat} (hi : i < m.length) : (arts m).getD i 0 = sumF p fun s => if s.2.getD i 0 = -1 then 0 else s.1 := by
  have h1 : (arts m).getD i 0 = sumF (List.range (cols m)) (xg m i) := by
    rw [sumF_xrow (by rw [getD_row hi]; exact hw.len hi), getD_of (by rw [arts_len]; exact hi), getD_row hi]; simp [arts]
  have h2 : sumF (List.range (cols m)) (xg m i) = sumF (List.range (cols m)) fun k => sumF p fun s => if s.2.getD i 0 = (k : Int) then s.1 else 0 := sumF_congr fun k hk => by
    have := hg.rem i k hi (List.mem_range.1 hk)
    rw [remP_sum] at this; omega
  rw [h1, h2, sumF_swap]
  refine sumF_congr fun s hs => ?_
  have hso := hg.st s hs
  have hl : i < s.2.length := by rw [hso.len]; exact hi
  have hb := hso.pl s.2[i] (List.getElem_mem hl)
  rw [getD_of hl]
  by_cases e : s.2[i] = -1
  · rw [if_pos e]
    have : sumF (List.range (cols m)) (fun k => if s.2[i] = (k : Int) then s.1 else 0) = sumF (List.range (cols m)) fun _ => 0 := sumF_congr fun k _ => by rw [if_neg (by omega)]
    rw [this, sumF_const]; omega
  · rw [if_neg e]
    have : sumF (List.range (cols m)) (fun k => if s.2[i] = (k : Int) then s.1 else 0) = sumF (List.range (cols m)) fun k => if k = (s.2[i]).toNat then s.1 else 0 := sumF_congr fun k _ => by
      by_cases h : k = (s.2[i]).toNat
      · rw [if_pos h, if_pos (by omega)]
      · rw [if_neg h, if_neg (by omega)]
    rw [this, sumF_delta (by omega)]
theorem col_sum (hw : OkW m) (hg : Good m seats p) {k : Nat} (hk : k < cols m) : (machs m).getD k 0 = sumF p fun s => (s.2.count (k : Int) : Nat) * s.1 := by
  have h1 : (machs m).getD k 0 = sumF (List.range m.length) (fun i => xg m i k) := by
    rw [sumF_xcol rfl, getD_of (by rw [machs_len]; exact hk)]; simp [machs]
  have h2 : sumF (List.range m.length) (fun i => xg m i k) = sumF (List.range m.length) fun i => sumF p fun s => if s.2.getD i 0 = (k : Int) then s.1 else 0 := sumF_congr fun i hi => by
    have := hg.rem i k (List.mem_range.1 hi) hk
    rw [remP_sum] at this; omega
  rw [h1, h2, sumF_swap]
  refine sumF_congr fun s hs => ?_
  rw [sumF_getD (fun v => if v = (k : Int) then s.1 else 0) m.length s.2 (hg.st s hs).len, sumF_count]
theorem tot_sum (hg : Good m seats p) : short m seats = sumF p fun s => s.1 := hg.tot.symm
theorem art_all (hw : OkW m) (hg : Good m seats p) {i : Nat} (hi : i < m.length) (h : (arts m).getD i 0 = short m seats) : ∀ s ∈ p, s.2.getD i 0 ≠ -1 := by
  rw [row_sum hw hg hi, tot_sum hg] at h
  intro s hs
  have h1 := sumF_eq (fun s hs => by have := (hg.st s hs).h1; split <;> omega) h s hs
  intro e
  rw [if_pos e] at h1
  have := (hg.st s hs).h1
  omega
theorem mach_all (hw : OkW m) (hg : Good m seats p) {k : Nat} (hk : k < cols m) (h : (machs m).getD k 0 = short m seats) : ∀ s ∈ p, (k : Int) ∈ s.2 := by
  rw [col_sum hw hg hk, tot_sum hg] at h
  intro s hs
  have h1 := sumF_eq (fun s hs => by
    have h1 := (hg.st s hs).h1
    have h2 := (hg.st s hs).one k hk
    have : s.2.count (k : Int) = 0 ∨ s.2.count (k : Int) = 1 := by omega
    rcases this with e | e <;> rw [e] <;> simp <;> omega) h s hs
  apply Classical.byContradiction
  intro hn
  rw [List.count_eq_zero.2 hn] at h1
  have := (hg.st s hs).h1
  simp at h1
  omega
end
/-! where a number stands -/
theorem posT_more (l : List Int) (n : Int) (a : Nat) : ∀ d, a + d ≤ l.length → ∃ t, posT l n (a + d) = posT l n a ++ t ∧ ∀ v ∈ t, (a : Int) ≤ v
  | 0, _ => ⟨[], by simp, fun v h => by simp at h⟩
  | d + 1, h => by
    obtain ⟨t, h1, h2⟩ := posT_more l n a d (by omega)
    rw [show a + (d + 1) = (a + d) + 1 by omega, posT_s l n (a + d) (by omega), h1]
    refine ⟨t ++ if l[a + d] = n then [((a + d : Nat) : Int)] else [], by rw [List.append_assoc], fun v hv => ?_⟩
    rcases List.mem_append.1 hv with hv | hv
    · exact h2 v hv
    · split at hv
      · rw [List.mem_singleton] at hv; omega
      · simp at hv
theorem pos_yes {l : List Int} {n : Int} {c : Nat} (hc : c < l.length) (h : l[c] = n) : (posT l n c).length < (posI l n).length ∧ (posI l n)[(posT l n c).length]? = some (c : Int) := by
  obtain ⟨t, h1, _⟩ := posT_more l n (c + 1) (l.length - (c + 1)) (by omega)
  rw [show c + 1 + (l.length - (c + 1)) = l.length by omega, posT_s l n c hc, if_pos h] at h1
  change posI l n = _ at h1
  rw [h1]
  simp
theorem pos_no {l : List Int} {n : Int} {c : Nat} (hc : c < l.length) (h : l[c] ≠ n) : (posI l n)[(posT l n c).length]? ≠ some (c : Int) := by
  obtain ⟨t, h1, h2⟩ := posT_more l n (c + 1) (l.length - (c + 1)) (by omega)
  rw [show c + 1 + (l.length - (c + 1)) = l.length by omega, posT_s l n c hc, if_neg h, List.append_nil] at h1
  change posI l n = _ at h1
  rw [h1, List.getElem?_append_right (Nat.le_refl _), Nat.sub_self]
  intro e
  have := h2 _ (List.mem_of_getElem? e)
  omega
theorem posT_len_s {l : List Int} {n : Int} {c : Nat} (hc : c < l.length) : (posT l n (c + 1)).length = (posT l n c).length + if l[c] = n then 1 else 0 := by
  rw [posT_s l n c hc]
  split <;> simp
end Go.Proofs.Ytokgpcdbpkginaa
set_option linter.unusedVariables false
set_option linter.unusedSimpArgs false
namespace Go.Proofs.Ytokgpcdbpkginaa
open Go Fw

def B7a : ACode := (.block 4 (.loop (.seq (.reg [⟨some 204, none, .bin 0 .lss (.t 203) (.t 202)⟩])
  (.seq (.cond (.t 204) (.skip) (.exit 4))
  (.seq (.block 5 (.seq (.reg [⟨some 205, none, .mv (.t 203)⟩, ⟨some 206, none, .iaddrS 1 (.t 201) (.t 203)⟩, ⟨some 207, none, .load false 1 (.t 206)⟩, ⟨some 32, none, .mv (.t 205)⟩, ⟨some 33, none, .mv (.t 207)⟩])
  (.seq (.reg [⟨some 208, none, .mv (.t 33)⟩, ⟨some 209, none, .mv (.t 14)⟩, ⟨some 210, none, .bin 0 .eql (.t 208) (.t 209)⟩, ⟨some 34, none, .mv (.t 210)⟩])
  (.seq (.reg [⟨some 211, none, .mv (.t 34)⟩, ⟨some 212, none, .mv (.t 30)⟩, ⟨some 213, none, .mv (.t 11)⟩, ⟨some 214, none, .len false (.t 213)⟩, ⟨some 215, none, .bin 0 .lss (.t 212) (.t 214)⟩, ⟨some 216, none, .mv (.t 215)⟩, ⟨some 217, some (216, true), .mv (.t 11)⟩, ⟨some 218, some (216, true), .mv (.t 30)⟩, ⟨some 219, some (216, true), .iaddrS 1 (.t 217) (.t 218)⟩, ⟨some 220, some (216, true), .load false 1 (.t 219)⟩, ⟨some 221, some (216, true), .mv (.t 32)⟩, ⟨some 222, some (216, true), .bin 0 .eql (.t 220) (.t 221)⟩, ⟨some 223, none, .pick (.t 216) (.t 222) (.c (.bool false))⟩, ⟨some 224, none, .bin 1 .neq (.t 211) (.t 223)⟩])
  (.cond (.t 224) (.seq (.reg [⟨some 6, none, .mv (.c (.bool false))⟩])
  (.ret)) (.seq (.reg [⟨some 225, none, .mv (.t 34)⟩])
  (.cond (.t 225) (.seq (.reg [⟨some 226, none, .mv (.t 30)⟩, ⟨some 227, none, .bin 0 .add (.t 226) (.c (.int .i64 1))⟩, ⟨some 30, none, .mv (.t 227)⟩])
  (.seq (.reg [⟨some 228, none, .mv (.t 9)⟩, ⟨some 229, none, .len false (.t 228)⟩, ⟨some 230, none, .mv (.c (.int .i64 0))⟩])
  (.block 6 (.loop (.seq (.reg [⟨some 231, none, .bin 0 .lss (.t 230) (.t 229)⟩])
  (.seq (.cond (.t 231) (.skip) (.exit 6))
  (.seq (.block 7 (.seq (.reg [⟨some 232, none, .iaddrS 2 (.t 228) (.t 230)⟩, ⟨some 233, none, .load true 2 (.t 232)⟩, ⟨some 36, none, .alloc [.int .i64 0, .nilsl]⟩, ⟨none, none, .store 2 (.t 36) (.t 233)⟩])
  (.seq (.reg [⟨some 234, none, .faddr false 1 1 (.t 36)⟩, ⟨some 235, none, .load false 1 (.t 234)⟩, ⟨some 236, none, .mv (.t 32)⟩, ⟨some 237, none, .iaddrS 1 (.t 235) (.t 236)⟩, ⟨some 238, none, .load false 1 (.t 237)⟩, ⟨some 239, none, .bin 0 .eql (.t 238) (.c (.int .i64 (-1)))⟩])
  (.cond (.t 239) (.seq (.reg [⟨some 6, none, .mv (.c (.bool false))⟩])
  (.ret)) (.skip)))))
  (.reg [⟨some 240, none, .bin 0 .add (.t 230) (.c (.int .i64 1))⟩, ⟨some 230, none, .mv (.t 240)⟩])))))))) (.skip))))))))
  (.reg [⟨some 241, none, .bin 0 .add (.t 203) (.c (.int .i64 1))⟩, ⟨some 203, none, .mv (.t 241)⟩]))))))
def B7m : ACode := (.block 8 (.loop (.seq (.reg [⟨some 245, none, .bin 0 .lss (.t 244) (.t 243)⟩])
  (.seq (.cond (.t 245) (.skip) (.exit 8))
  (.seq (.block 9 (.seq (.reg [⟨some 246, none, .mv (.t 244)⟩, ⟨some 247, none, .iaddrS 1 (.t 242) (.t 244)⟩, ⟨some 248, none, .load false 1 (.t 247)⟩, ⟨some 37, none, .mv (.t 246)⟩, ⟨some 38, none, .mv (.t 248)⟩])
  (.seq (.reg [⟨some 249, none, .mv (.t 38)⟩, ⟨some 250, none, .mv (.t 14)⟩, ⟨some 251, none, .bin 0 .eql (.t 249) (.t 250)⟩, ⟨some 39, none, .mv (.t 251)⟩])
  (.seq (.reg [⟨some 252, none, .mv (.t 39)⟩, ⟨some 253, none, .mv (.t 31)⟩, ⟨some 254, none, .mv (.t 12)⟩, ⟨some 255, none, .len false (.t 254)⟩, ⟨some 256, none, .bin 0 .lss (.t 253) (.t 255)⟩, ⟨some 257, none, .mv (.t 256)⟩, ⟨some 258, some (257, true), .mv (.t 12)⟩, ⟨some 259, some (257, true), .mv (.t 31)⟩, ⟨some 260, some (257, true), .iaddrS 1 (.t 258) (.t 259)⟩, ⟨some 261, some (257, true), .load false 1 (.t 260)⟩, ⟨some 262, some (257, true), .mv (.t 37)⟩, ⟨some 263, some (257, true), .bin 0 .eql (.t 261) (.t 262)⟩, ⟨some 264, none, .pick (.t 257) (.t 263) (.c (.bool false))⟩, ⟨some 265, none, .bin 1 .neq (.t 252) (.t 264)⟩])
  (.cond (.t 265) (.seq (.reg [⟨some 6, none, .mv (.c (.bool false))⟩])
  (.ret)) (.seq (.reg [⟨some 266, none, .mv (.t 39)⟩])
  (.cond (.t 266) (.seq (.reg [⟨some 267, none, .mv (.t 31)⟩, ⟨some 268, none, .bin 0 .add (.t 267) (.c (.int .i64 1))⟩, ⟨some 31, none, .mv (.t 268)⟩])
  (.seq (.reg [⟨some 269, none, .mv (.t 9)⟩, ⟨some 270, none, .len false (.t 269)⟩, ⟨some 271, none, .mv (.c (.int .i64 0))⟩])
  (.block 10 (.loop (.seq (.reg [⟨some 272, none, .bin 0 .lss (.t 271) (.t 270)⟩])
  (.seq (.cond (.t 272) (.skip) (.exit 10))
  (.seq (.block 11 (.seq (.reg [⟨some 273, none, .iaddrS 2 (.t 269) (.t 271)⟩, ⟨some 274, none, .load true 2 (.t 273)⟩, ⟨some 41, none, .alloc [.int .i64 0, .nilsl]⟩, ⟨none, none, .store 2 (.t 41) (.t 274)⟩])
  (.seq (.reg [⟨some 42, none, .mv (.c (.bool false))⟩])
  (.seq (.seq (.reg [⟨some 275, none, .faddr false 1 1 (.t 41)⟩, ⟨some 276, none, .load false 1 (.t 275)⟩, ⟨some 277, none, .len false (.t 276)⟩, ⟨some 278, none, .mv (.c (.int .i64 0))⟩])
  (.block 12 (.loop (.seq (.reg [⟨some 279, none, .bin 0 .lss (.t 278) (.t 277)⟩])
  (.seq (.cond (.t 279) (.skip) (.exit 12))
  (.seq (.block 13 (.seq (.reg [⟨some 280, none, .iaddrS 1 (.t 276) (.t 278)⟩, ⟨some 281, none, .load false 1 (.t 280)⟩, ⟨some 44, none, .mv (.t 281)⟩])
  (.reg [⟨some 282, none, .mv (.t 42)⟩, ⟨some 283, none, .mv (.t 282)⟩, ⟨some 284, some (283, false), .mv (.t 44)⟩, ⟨some 285, some (283, false), .mv (.t 37)⟩, ⟨some 286, some (283, false), .bin 0 .eql (.t 284) (.t 285)⟩, ⟨some 287, none, .pick (.t 283) (.c (.bool true)) (.t 286)⟩, ⟨some 42, none, .mv (.t 287)⟩])))
  (.reg [⟨some 288, none, .bin 0 .add (.t 278) (.c (.int .i64 1))⟩, ⟨some 278, none, .mv (.t 288)⟩])))))))
  (.seq (.reg [⟨some 289, none, .mv (.t 42)⟩, ⟨some 290, none, .un .not (.t 289)⟩])
  (.cond (.t 290) (.seq (.reg [⟨some 6, none, .mv (.c (.bool false))⟩])
  (.ret)) (.skip)))))))
  (.reg [⟨some 291, none, .bin 0 .add (.t 271) (.c (.int .i64 1))⟩, ⟨some 271, none, .mv (.t 291)⟩])))))))) (.skip))))))))
  (.reg [⟨some 292, none, .bin 0 .add (.t 244) (.c (.int .i64 1))⟩, ⟨some 244, none, .mv (.t 292)⟩]))))))
theorem idx_is {x : AV} {l : List Int} (h : asI x = some l) {i : Nat} {v : Int} (hv : l[i]? = some v) : aidxS 1 x (.int .i64 (i : Int)) = some (.ptr (.int .i64 v)) := by
  have hi : i < l.length := by
    rcases Nat.lt_or_ge i l.length with h' | h'
    · exact h'
    · rw [List.getElem?_eq_none h'] at hv; cases hv
  rw [aidx_nat h hi]
  rw [List.getElem?_eq_getElem hi] at hv
  injection hv with hv
  rw [hv]
theorem artB {E : PCtx} {Q : AEx → AS → Prop} {a x1 x2 y : AV} {A : List Int} {want : Int} {p : List (Int × List Int)} (hx1 : asI x1 = some (posI A want)) (hy : IsP y p) (hpl : p.length ≤ 149) (ha : asI a = some A) (hAl : A.length ≤ 6)
    (hall : ∀ c (h : c < A.length), A[c] = want → ∀ s ∈ p, s.2.getD c 0 ≠ -1) (hlen : ∀ s ∈ p, s.2.length = A.length) {q C : Nat} {Mc : List Int} {s0 : AS}
    (e9 : s0.env 9 = y) (e11 : s0.env 11 = x1) (e12 : s0.env 12 = x2) (e14 : s0.env 14 = .int .i64 want) (e28 : s0.env 28 = .msl false 1 q 0 C true) (e30 : s0.env 30 = .int .i64 0) (e31 : s0.env 31 = .int .i64 0) (e201 : s0.env 201 = a) (e202 : s0.env 202 = .int .i64 (A.length : Int)) (e203 : s0.env 203 = .int .i64 0)
    (hq : s0.hs.heap q = some (ints Mc)) (hqn : q < s0.hs.nh)
    (hnext : ∀ s : AS, s.env 9 = y → s.env 11 = x1 → s.env 12 = x2 → s.env 14 = .int .i64 want → s.env 28 = .msl false 1 q 0 C true → s.env 30 = .int .i64 ((posI A want).length : Int) → s.env 31 = .int .i64 0 → s.hs.heap q = some (ints Mc) → q < s.hs.nh → At (Q .normal s)) :
    At (awp Try.prog E B7a Q s0) := by
  simp only [B7a]
  simp
  refine At.loop (fun (c : Nat) s => c ≤ A.length ∧ s.env 9 = y ∧ s.env 11 = x1 ∧ s.env 12 = x2 ∧ s.env 14 = .int .i64 want ∧ s.env 28 = .msl false 1 q 0 C true ∧ s.env 30 = .int .i64 ((posT A want c).length : Int) ∧ s.env 31 = .int .i64 0 ∧ s.env 201 = a ∧ s.env 202 = .int .i64 (A.length : Int) ∧ s.env 203 = .int .i64 (c : Int) ∧ s.hs.heap q = some (ints Mc) ∧ q < s.hs.nh) (fun c => A.length - c) 0 ?_ ?_
  · exact ⟨by omega, e9, e11, e12, e14, e28, by simpa [posT] using e30, e31, e201, e202, e203, hq, hqn⟩
  clear e9 e11 e12 e14 e28 e30 e31 e201 e202 e203 hq hqn
  rintro N c s hN ⟨hc, e9, e11, e12, e14, e28, e30, e31, e201, e202, e203, hq, hqn⟩
  simp [e202, e203]
  refine At.dec (fun hlt => ?_) (fun hlt => ?_)
  · have hc' : c < A.length := by omega
    have hpl1 := posT_len A want c
    have hpls := posT_len_s (n := want) hc'
    have wc : IntKind.i64.wrap ((c : Int) + 1) = ((c + 1 : Nat) : Int) := wrap_nat1 (by omega)
    have hax := alen_of hx1
    by_cases hw : A[c] = want
    · obtain ⟨g1, g2⟩ := pos_yes hc' hw
      have hix := idx_is hx1 g2
      have hall := hall c hc' hw
      rw [if_pos hw] at hpls
      have wk : IntKind.i64.wrap (((posT A want c).length : Int) + 1) = ((posT A want (c + 1)).length : Int) := by rw [hpls, wrap_nat1 (by omega)]
      generalize (posT A want c).length = k at *
      generalize (posI A want).length = K at *
      simp [e9, e11, e14, e30, e201, e203, aidx_nat ha hc', hw, hax, g1, hix, wk, hy.len]
      refine At.loop (fun (t : Nat) s => t ≤ p.length ∧ s.env 9 = y ∧ s.env 11 = x1 ∧ s.env 12 = x2 ∧ s.env 14 = .int .i64 want ∧ s.env 28 = .msl false 1 q 0 C true ∧ s.env 30 = .int .i64 ((posT A want (c + 1)).length : Int) ∧ s.env 31 = .int .i64 0 ∧ s.env 32 = .int .i64 (c : Int) ∧ s.env 201 = a ∧ s.env 202 = .int .i64 (A.length : Int) ∧ s.env 203 = .int .i64 (c : Int) ∧ s.env 228 = y ∧ s.env 229 = .int .i64 (p.length : Int) ∧ s.env 230 = .int .i64 (t : Int) ∧ s.hs.heap q = some (ints Mc) ∧ q < s.hs.nh) (fun t => p.length - t) 0 ?_ ?_
      · exact ⟨by omega, by simp [e9], by simp [e11], by simp [e12], by simp [e14], by simp [e28], by simp, by simp [e31], by simp, by simp [e201], by simp [e202], by simp [e203], by simp, by simp, by simp, by simp [hq], by simp [hqn]⟩
      clear e9 e11 e12 e14 e28 e30 e31 e201 e202 e203 hq hqn
      rintro N2 t s hN2 ⟨ht, e9, e11, e12, e14, e28, e30, e31, e32, e201, e202, e203, e228, e229, e230, hq, hqn⟩
      simp [e229, e230]
      refine At.dec (fun hlt2 => ?_) (fun hlt2 => ?_)
      · have ht' : t < p.length := by omega
        obtain ⟨at_, g1, g2⟩ := hy.get t ht'
        have hsl := hlen p[t] (List.getElem_mem ht')
        have hca : c < p[t].2.length := by omega
        have hne := hall p[t] (List.getElem_mem ht')
        rw [getD_of hca] at hne
        have hst := store_ag (hp := fun k => if k = s.hs.nh then some [.int .i64 0, .nilsl] else s.hs.heap k) (i := s.hs.nh) (u1 := .int .i64 0) (u2 := .nilsl) (v1 := .int .i64 p[t].1) (v2 := at_) (by simp)
        have hld : ∀ hp, aload hp true 2 (.ptr (.agg [.int .i64 p[t].1, at_])) = some (.agg [.int .i64 p[t].1, at_]) := fun hp => rfl
        simp [e32, e228, e230, g1, hld, hst, la, fa, apart, aidx_nat g2 hca, hne]
        refine hN2 (t + 1) _ (by omega) ⟨by omega, by simp [e9], by simp [e11], by simp [e12], by simp [e14], by simp [e28], by simp [e30], by simp [e31], by simp [e32], by simp [e201], by simp [e202], by simp [e203], by simp [e228], by simp [e229], by simp [wrap_nat1 (show t < _ by omega)], ?_, by simp; omega⟩
        simp
        rw [if_neg (by omega), if_neg (by omega)]; exact hq
      · simp [e203]
        exact hN (c + 1) _ (by omega) ⟨by omega, by simp [e9], by simp [e11], by simp [e12], by simp [e14], by simp [e28], by simp [e30], by simp [e31], by simp [e201], by simp [e202], by simp [wc], by simp [hq], by simp [hqn]⟩
    · have hno := pos_no hc' hw
      rw [if_neg hw, Nat.add_zero] at hpls
      by_cases hlt3 : (posT A want c).length < (posI A want).length
      · have hx := aidx_nat (k := .i64) hx1 hlt3
        have hne : ¬ (posI A want)[(posT A want c).length] = (c : Int) := fun e => hno (by rw [List.getElem?_eq_getElem hlt3, e])
        generalize hk : (posT A want c).length = k at *
        simp [e9, e11, e14, e30, e201, e203, aidx_nat ha hc', hw, hax, hlt3, hx, hne]
        exact hN (c + 1) _ (by omega) ⟨by omega, by simp [e9], by simp [e11], by simp [e12], by simp [e14], by simp [e28], by simp [e30, hpls], by simp [e31], by simp [e201], by simp [e202], by simp [wc], by simp [hq], by simp [hqn]⟩
      · generalize hk : (posT A want c).length = k at *
        simp [e9, e11, e14, e30, e201, e203, aidx_nat ha hc', hw, hax, hlt3]
        exact hN (c + 1) _ (by omega) ⟨by omega, by simp [e9], by simp [e11], by simp [e12], by simp [e14], by simp [e28], by simp [e30, hpls], by simp [e31], by simp [e201], by simp [e202], by simp [wc], by simp [hq], by simp [hqn]⟩
  · have hc' : c = A.length := by omega
    subst hc'
    simp
    exact hnext _ (by simp [e9]) (by simp [e11]) (by simp [e12]) (by simp [e14]) (by simp [e28]) (by simp [e30, posI]) (by simp [e31]) (by simp [hq]) (by simp [hqn])
end Go.Proofs.Ytokgpcdbpkginaa
set_option linter.unusedVariables false
set_option linter.unusedSimpArgs false
namespace Go.Proofs.Ytokgpcdbpkginaa
open Go Fw

theorem machB {E : PCtx} {Q : AEx → AS → Prop} {x1 x2 y : AV} {A : List Int} {want : Int} {p : List (Int × List Int)} (hx2 : asI x2 = some (posI A want)) (hy : IsP y p) (hpl : p.length ≤ 149) (hAl : A.length ≤ 6)
    (hall : ∀ c (h : c < A.length), A[c] = want → ∀ s ∈ p, (c : Int) ∈ s.2) (hlen : ∀ s ∈ p, s.2.length ≤ 6) {q : Nat} {K : Int} {s0 : AS}
    (e9 : s0.env 9 = y) (e11 : s0.env 11 = x1) (e12 : s0.env 12 = x2) (e14 : s0.env 14 = .int .i64 want) (e30 : s0.env 30 = .int .i64 K) (e31 : s0.env 31 = .int .i64 0) (e242 : s0.env 242 = .msl false 1 q 0 A.length true) (e243 : s0.env 243 = .int .i64 (A.length : Int)) (e244 : s0.env 244 = .int .i64 0)
    (hq : s0.hs.heap q = some (ints A)) (hqn : q < s0.hs.nh)
    (hnext : ∀ s : AS, s.env 11 = x1 → s.env 12 = x2 → s.env 30 = .int .i64 K → s.env 31 = .int .i64 ((posI A want).length : Int) → At (Q .normal s)) :
    At (awp Try.prog E B7m Q s0) := by
  simp only [B7m]
  simp
  refine At.loop (fun (c : Nat) s => c ≤ A.length ∧ s.env 9 = y ∧ s.env 11 = x1 ∧ s.env 12 = x2 ∧ s.env 14 = .int .i64 want ∧ s.env 30 = .int .i64 K ∧ s.env 31 = .int .i64 ((posT A want c).length : Int) ∧ s.env 242 = .msl false 1 q 0 A.length true ∧ s.env 243 = .int .i64 (A.length : Int) ∧ s.env 244 = .int .i64 (c : Int) ∧ s.hs.heap q = some (ints A) ∧ q < s.hs.nh) (fun c => A.length - c) 0 ?_ ?_
  · exact ⟨by omega, e9, e11, e12, e14, e30, by simpa [posT] using e31, e242, e243, e244, hq, hqn⟩
  clear e9 e11 e12 e14 e30 e31 e242 e243 e244 hq hqn
  rintro N c s hN ⟨hc, e9, e11, e12, e14, e30, e31, e242, e243, e244, hq, hqn⟩
  simp [e243, e244]
  refine At.dec (fun hlt => ?_) (fun hlt => ?_)
  · have hc' : c < A.length := by omega
    have hpl1 := posT_len A want c
    have hpls := posT_len_s (n := want) hc'
    have wc : IntKind.i64.wrap ((c : Int) + 1) = ((c + 1 : Nat) : Int) := wrap_nat1 (by omega)
    have hax := alen_of hx2
    have xm : aidxS 1 (.msl false 1 q 0 A.length true) (.int .i64 (c : Int)) = some (.ref q c) := aidx_msln hc'
    have ldm := ld_ints hq hc'
    by_cases hw : A[c] = want
    · obtain ⟨g1, g2⟩ := pos_yes hc' hw
      have hix := idx_is hx2 g2
      have hall := hall c hc' hw
      rw [if_pos hw] at hpls
      have wk : IntKind.i64.wrap (((posT A want c).length : Int) + 1) = ((posT A want (c + 1)).length : Int) := by rw [hpls, wrap_nat1 (by omega)]
      rw [hw] at ldm
      generalize (posT A want c).length = k at *
      generalize (posI A want).length = L at *
      simp [e9, e12, e14, e31, e242, e244, xm, ldm, hax, g1, hix, wk, hy.len]
      refine At.loop (fun (t : Nat) s => t ≤ p.length ∧ s.env 9 = y ∧ s.env 11 = x1 ∧ s.env 12 = x2 ∧ s.env 14 = .int .i64 want ∧ s.env 30 = .int .i64 K ∧ s.env 31 = .int .i64 ((posT A want (c + 1)).length : Int) ∧ s.env 37 = .int .i64 (c : Int) ∧ s.env 242 = .msl false 1 q 0 A.length true ∧ s.env 243 = .int .i64 (A.length : Int) ∧ s.env 244 = .int .i64 (c : Int) ∧ s.env 269 = y ∧ s.env 270 = .int .i64 (p.length : Int) ∧ s.env 271 = .int .i64 (t : Int) ∧ s.hs.heap q = some (ints A) ∧ q < s.hs.nh) (fun t => p.length - t) 0 ?_ ?_
      · exact ⟨by omega, by simp [e9], by simp [e11], by simp [e12], by simp [e14], by simp [e30], by simp, by simp, by simp [e242], by simp [e243], by simp [e244], by simp, by simp, by simp, by simp [hq], by simp [hqn]⟩
      clear e9 e11 e12 e14 e30 e31 e242 e243 e244 hq hqn ldm
      rintro N2 t s hN2 ⟨ht, e9, e11, e12, e14, e30, e31, e37, e242, e243, e244, e269, e270, e271, hq, hqn⟩
      simp [e270, e271]
      refine At.dec (fun hlt2 => ?_) (fun hlt2 => ?_)
      · have ht' : t < p.length := by omega
        obtain ⟨at_, g1, g2⟩ := hy.get t ht'
        have hsl := hlen p[t] (List.getElem_mem ht')
        have hin := hall p[t] (List.getElem_mem ht')
        have hst := store_ag (hp := fun k => if k = s.hs.nh then some [.int .i64 0, .nilsl] else s.hs.heap k) (i := s.hs.nh) (u1 := .int .i64 0) (u2 := .nilsl) (v1 := .int .i64 p[t].1) (v2 := at_) (by simp)
        have hld : ∀ hp, aload hp true 2 (.ptr (.agg [.int .i64 p[t].1, at_])) = some (.agg [.int .i64 p[t].1, at_]) := fun hp => rfl
        simp [e269, e271, g1, hld, hst, la, fa, apart, alen_of g2]
        refine At.loop (fun (d : Nat) s => d ≤ p[t].2.length ∧ s.env 9 = y ∧ s.env 11 = x1 ∧ s.env 12 = x2 ∧ s.env 14 = .int .i64 want ∧ s.env 30 = .int .i64 K ∧ s.env 31 = .int .i64 ((posT A want (c + 1)).length : Int) ∧ s.env 37 = .int .i64 (c : Int) ∧ s.env 242 = .msl false 1 q 0 A.length true ∧ s.env 243 = .int .i64 (A.length : Int) ∧ s.env 244 = .int .i64 (c : Int) ∧ s.env 269 = y ∧ s.env 270 = .int .i64 (p.length : Int) ∧ s.env 271 = .int .i64 (t : Int) ∧ s.env 276 = at_ ∧ s.env 277 = .int .i64 (p[t].2.length : Int) ∧ s.env 278 = .int .i64 (d : Int) ∧ s.env 42 = .bool (decide ((c : Int) ∈ p[t].2.take d)) ∧ s.hs.heap q = some (ints A) ∧ q < s.hs.nh) (fun d => p[t].2.length - d) 0 ?_ ?_
        · refine ⟨by omega, by simp [e9], by simp [e11], by simp [e12], by simp [e14], by simp [e30], by simp [e31], by simp [e37], by simp [e242], by simp [e243], by simp [e244], by simp [e269], by simp [e270], by simp [e271], by simp, by simp, by simp, by simp, ?_, by simp; omega⟩
          simp
          rw [if_neg (by omega), if_neg (by omega)]; exact hq
        clear e9 e11 e12 e14 e30 e31 e37 e242 e243 e244 e269 e270 e271 hq hqn hst
        rintro N3 d s hN3 ⟨hd, e9, e11, e12, e14, e30, e31, e37, e242, e243, e244, e269, e270, e271, e276, e277, e278, e42, hq, hqn⟩
        simp [e277, e278]
        refine At.dec (fun hlt3 => ?_) (fun hlt3 => ?_)
        · have hd' : d < p[t].2.length := by omega
          have hmt := mem_take_succ (l := p[t].2) hd' (x := (c : Int))
          by_cases hb : (c : Int) ∈ p[t].2.take d
          · have hb2 := hmt.2 (.inl hb)
            simp only [hb, decide_true] at e42
            simp [e37, e42, e276, e278, aidx_nat g2 hd']
            exact hN3 (d + 1) _ (by omega) ⟨by omega, by simp [e9], by simp [e11], by simp [e12], by simp [e14], by simp [e30], by simp [e31], by simp [e37], by simp [e242], by simp [e243], by simp [e244], by simp [e269], by simp [e270], by simp [e271], by simp [e276], by simp [e277], by simp [wrap_nat1 (show d < _ by omega)], by simp [hb2], by simp [hq], by simp [hqn]⟩
          · simp only [hb, decide_false] at e42
            by_cases he : p[t].2[d] = (c : Int)
            · have hb2 := hmt.2 (.inr he.symm)
              simp [e37, e42, e276, e278, aidx_nat g2 hd', he]
              exact hN3 (d + 1) _ (by omega) ⟨by omega, by simp [e9], by simp [e11], by simp [e12], by simp [e14], by simp [e30], by simp [e31], by simp [e37], by simp [e242], by simp [e243], by simp [e244], by simp [e269], by simp [e270], by simp [e271], by simp [e276], by simp [e277], by simp [wrap_nat1 (show d < _ by omega)], by simp [hb2], by simp [hq], by simp [hqn]⟩
            · have hb2 : ¬ (c : Int) ∈ p[t].2.take (d + 1) := fun h => by
                rcases hmt.1 h with h | h
                · exact hb h
                · exact he h.symm
              simp [e37, e42, e276, e278, aidx_nat g2 hd', he]
              exact hN3 (d + 1) _ (by omega) ⟨by omega, by simp [e9], by simp [e11], by simp [e12], by simp [e14], by simp [e30], by simp [e31], by simp [e37], by simp [e242], by simp [e243], by simp [e244], by simp [e269], by simp [e270], by simp [e271], by simp [e276], by simp [e277], by simp [wrap_nat1 (show d < _ by omega)], by simp [hb2], by simp [hq], by simp [hqn]⟩
        · have hd' : d = p[t].2.length := by omega
          subst hd'
          rw [List.take_length] at e42
          simp only [hin, decide_true] at e42
          simp [e42, e271]
          exact hN2 (t + 1) _ (by omega) ⟨by omega, by simp [e9], by simp [e11], by simp [e12], by simp [e14], by simp [e30], by simp [e31], by simp [e37], by simp [e242], by simp [e243], by simp [e244], by simp [e269], by simp [e270], by simp [wrap_nat1 (show t < _ by omega)], by simp [hq], by simp [hqn]⟩
      · simp [e244]
        exact hN (c + 1) _ (by omega) ⟨by omega, by simp [e9], by simp [e11], by simp [e12], by simp [e14], by simp [e30], by simp [e31], by simp [e242], by simp [e243], by simp [wc], by simp [hq], by simp [hqn]⟩
    · have hno := pos_no hc' hw
      rw [if_neg hw, Nat.add_zero] at hpls
      by_cases hlt3 : (posT A want c).length < (posI A want).length
      · have hx := aidx_nat (k := .i64) hx2 hlt3
        have hne : ¬ (posI A want)[(posT A want c).length] = (c : Int) := fun e => hno (by rw [List.getElem?_eq_getElem hlt3, e])
        generalize hk : (posT A want c).length = k at *
        simp [e9, e12, e14, e31, e242, e244, xm, ldm, hw, hax, hlt3, hx, hne]
        exact hN (c + 1) _ (by omega) ⟨by omega, by simp [e9], by simp [e11], by simp [e12], by simp [e14], by simp [e30], by simp [e31, hpls], by simp [e242], by simp [e243], by simp [wc], by simp [hq], by simp [hqn]⟩
      · generalize hk : (posT A want c).length = k at *
        simp [e9, e12, e14, e31, e242, e244, xm, ldm, hw, hax, hlt3]
        exact hN (c + 1) _ (by omega) ⟨by omega, by simp [e9], by simp [e11], by simp [e12], by simp [e14], by simp [e30], by simp [e31, hpls], by simp [e242], by simp [e243], by simp [wc], by simp [hq], by simp [hqn]⟩
  · have hc' : c = A.length := by omega
    subst hc'
    simp
    exact hnext _ (by simp [e11]) (by simp [e12]) (by simp [e30]) (by simp [e31, posI])
end Go.Proofs.Ytokgpcdbpkginaa
set_option linter.unusedVariables false
set_option linter.unusedSimpArgs false
namespace Go.Proofs.Ytokgpcdbpkginaa
open Go Fw

def T7 : ACode := .seq (.reg [⟨some 196, none, .mv (.t 7)⟩, ⟨some 197, none, .hcall 35 [.t 196]⟩, ⟨some 195, none, .mv (.t 197)⟩, ⟨some 198, none, .extract (.t 195) 0⟩, ⟨some 199, none, .extract (.t 195) 1⟩, ⟨some 200, none, .extract (.t 195) 2⟩, ⟨some 27, none, .mv (.t 198)⟩, ⟨some 28, none, .mv (.t 199)⟩, ⟨some 29, none, .mv (.t 200)⟩])
  (.seq (.reg [⟨some 30, none, .mv (.c (.int .i64 0))⟩, ⟨some 31, none, .mv (.c (.int .i64 0))⟩])
  (.seq (.seq (.reg [⟨some 201, none, .mv (.t 27)⟩, ⟨some 202, none, .len false (.t 201)⟩, ⟨some 203, none, .mv (.c (.int .i64 0))⟩])
  (.block 4 (.loop (.seq (.reg [⟨some 204, none, .bin 0 .lss (.t 203) (.t 202)⟩])
  (.seq (.cond (.t 204) (.skip) (.exit 4))
  (.seq (.block 5 (.seq (.reg [⟨some 205, none, .mv (.t 203)⟩, ⟨some 206, none, .iaddrS 1 (.t 201) (.t 203)⟩, ⟨some 207, none, .load false 1 (.t 206)⟩, ⟨some 32, none, .mv (.t 205)⟩, ⟨some 33, none, .mv (.t 207)⟩])
  (.seq (.reg [⟨some 208, none, .mv (.t 33)⟩, ⟨some 209, none, .mv (.t 14)⟩, ⟨some 210, none, .bin 0 .eql (.t 208) (.t 209)⟩, ⟨some 34, none, .mv (.t 210)⟩])
  (.seq (.reg [⟨some 211, none, .mv (.t 34)⟩, ⟨some 212, none, .mv (.t 30)⟩, ⟨some 213, none, .mv (.t 11)⟩, ⟨some 214, none, .len false (.t 213)⟩, ⟨some 215, none, .bin 0 .lss (.t 212) (.t 214)⟩, ⟨some 216, none, .mv (.t 215)⟩, ⟨some 217, some (216, true), .mv (.t 11)⟩, ⟨some 218, some (216, true), .mv (.t 30)⟩, ⟨some 219, some (216, true), .iaddrS 1 (.t 217) (.t 218)⟩, ⟨some 220, some (216, true), .load false 1 (.t 219)⟩, ⟨some 221, some (216, true), .mv (.t 32)⟩, ⟨some 222, some (216, true), .bin 0 .eql (.t 220) (.t 221)⟩, ⟨some 223, none, .pick (.t 216) (.t 222) (.c (.bool false))⟩, ⟨some 224, none, .bin 1 .neq (.t 211) (.t 223)⟩])
  (.cond (.t 224) (.seq (.reg [⟨some 6, none, .mv (.c (.bool false))⟩])
  (.ret)) (.seq (.reg [⟨some 225, none, .mv (.t 34)⟩])
  (.cond (.t 225) (.seq (.reg [⟨some 226, none, .mv (.t 30)⟩, ⟨some 227, none, .bin 0 .add (.t 226) (.c (.int .i64 1))⟩, ⟨some 30, none, .mv (.t 227)⟩])
  (.seq (.reg [⟨some 228, none, .mv (.t 9)⟩, ⟨some 229, none, .len false (.t 228)⟩, ⟨some 230, none, .mv (.c (.int .i64 0))⟩])
  (.block 6 (.loop (.seq (.reg [⟨some 231, none, .bin 0 .lss (.t 230) (.t 229)⟩])
  (.seq (.cond (.t 231) (.skip) (.exit 6))
  (.seq (.block 7 (.seq (.reg [⟨some 232, none, .iaddrS 2 (.t 228) (.t 230)⟩, ⟨some 233, none, .load true 2 (.t 232)⟩, ⟨some 36, none, .alloc [.int .i64 0, .nilsl]⟩, ⟨none, none, .store 2 (.t 36) (.t 233)⟩])
  (.seq (.reg [⟨some 234, none, .faddr false 1 1 (.t 36)⟩, ⟨some 235, none, .load false 1 (.t 234)⟩, ⟨some 236, none, .mv (.t 32)⟩, ⟨some 237, none, .iaddrS 1 (.t 235) (.t 236)⟩, ⟨some 238, none, .load false 1 (.t 237)⟩, ⟨some 239, none, .bin 0 .eql (.t 238) (.c (.int .i64 (-1)))⟩])
  (.cond (.t 239) (.seq (.reg [⟨some 6, none, .mv (.c (.bool false))⟩])
  (.ret)) (.skip)))))
  (.reg [⟨some 240, none, .bin 0 .add (.t 230) (.c (.int .i64 1))⟩, ⟨some 230, none, .mv (.t 240)⟩])))))))) (.skip))))))))
  (.reg [⟨some 241, none, .bin 0 .add (.t 203) (.c (.int .i64 1))⟩, ⟨some 203, none, .mv (.t 241)⟩])))))))
  (.seq (.seq (.reg [⟨some 242, none, .mv (.t 28)⟩, ⟨some 243, none, .len false (.t 242)⟩, ⟨some 244, none, .mv (.c (.int .i64 0))⟩])
  (.block 8 (.loop (.seq (.reg [⟨some 245, none, .bin 0 .lss (.t 244) (.t 243)⟩])
  (.seq (.cond (.t 245) (.skip) (.exit 8))
  (.seq (.block 9 (.seq (.reg [⟨some 246, none, .mv (.t 244)⟩, ⟨some 247, none, .iaddrS 1 (.t 242) (.t 244)⟩, ⟨some 248, none, .load false 1 (.t 247)⟩, ⟨some 37, none, .mv (.t 246)⟩, ⟨some 38, none, .mv (.t 248)⟩])
  (.seq (.reg [⟨some 249, none, .mv (.t 38)⟩, ⟨some 250, none, .mv (.t 14)⟩, ⟨some 251, none, .bin 0 .eql (.t 249) (.t 250)⟩, ⟨some 39, none, .mv (.t 251)⟩])
  (.seq (.reg [⟨some 252, none, .mv (.t 39)⟩, ⟨some 253, none, .mv (.t 31)⟩, ⟨some 254, none, .mv (.t 12)⟩, ⟨some 255, none, .len false (.t 254)⟩, ⟨some 256, none, .bin 0 .lss (.t 253) (.t 255)⟩, ⟨some 257, none, .mv (.t 256)⟩, ⟨some 258, some (257, true), .mv (.t 12)⟩, ⟨some 259, some (257, true), .mv (.t 31)⟩, ⟨some 260, some (257, true), .iaddrS 1 (.t 258) (.t 259)⟩, ⟨some 261, some (257, true), .load false 1 (.t 260)⟩, ⟨some 262, some (257, true), .mv (.t 37)⟩, ⟨some 263, some (257, true), .bin 0 .eql (.t 261) (.t 262)⟩, ⟨some 264, none, .pick (.t 257) (.t 263) (.c (.bool false))⟩, ⟨some 265, none, .bin 1 .neq (.t 252) (.t 264)⟩])
  (.cond (.t 265) (.seq (.reg [⟨some 6, none, .mv (.c (.bool false))⟩])
  (.ret)) (.seq (.reg [⟨some 266, none, .mv (.t 39)⟩])
  (.cond (.t 266) (.seq (.reg [⟨some 267, none, .mv (.t 31)⟩, ⟨some 268, none, .bin 0 .add (.t 267) (.c (.int .i64 1))⟩, ⟨some 31, none, .mv (.t 268)⟩])
  (.seq (.reg [⟨some 269, none, .mv (.t 9)⟩, ⟨some 270, none, .len false (.t 269)⟩, ⟨some 271, none, .mv (.c (.int .i64 0))⟩])
  (.block 10 (.loop (.seq (.reg [⟨some 272, none, .bin 0 .lss (.t 271) (.t 270)⟩])
  (.seq (.cond (.t 272) (.skip) (.exit 10))
  (.seq (.block 11 (.seq (.reg [⟨some 273, none, .iaddrS 2 (.t 269) (.t 271)⟩, ⟨some 274, none, .load true 2 (.t 273)⟩, ⟨some 41, none, .alloc [.int .i64 0, .nilsl]⟩, ⟨none, none, .store 2 (.t 41) (.t 274)⟩])
  (.seq (.reg [⟨some 42, none, .mv (.c (.bool false))⟩])
  (.seq (.seq (.reg [⟨some 275, none, .faddr false 1 1 (.t 41)⟩, ⟨some 276, none, .load false 1 (.t 275)⟩, ⟨some 277, none, .len false (.t 276)⟩, ⟨some 278, none, .mv (.c (.int .i64 0))⟩])
  (.block 12 (.loop (.seq (.reg [⟨some 279, none, .bin 0 .lss (.t 278) (.t 277)⟩])
  (.seq (.cond (.t 279) (.skip) (.exit 12))
  (.seq (.block 13 (.seq (.reg [⟨some 280, none, .iaddrS 1 (.t 276) (.t 278)⟩, ⟨some 281, none, .load false 1 (.t 280)⟩, ⟨some 44, none, .mv (.t 281)⟩])
  (.reg [⟨some 282, none, .mv (.t 42)⟩, ⟨some 283, none, .mv (.t 282)⟩, ⟨some 284, some (283, false), .mv (.t 44)⟩, ⟨some 285, some (283, false), .mv (.t 37)⟩, ⟨some 286, some (283, false), .bin 0 .eql (.t 284) (.t 285)⟩, ⟨some 287, none, .pick (.t 283) (.c (.bool true)) (.t 286)⟩, ⟨some 42, none, .mv (.t 287)⟩])))
  (.reg [⟨some 288, none, .bin 0 .add (.t 278) (.c (.int .i64 1))⟩, ⟨some 278, none, .mv (.t 288)⟩])))))))
  (.seq (.reg [⟨some 289, none, .mv (.t 42)⟩, ⟨some 290, none, .un .not (.t 289)⟩])
  (.cond (.t 290) (.seq (.reg [⟨some 6, none, .mv (.c (.bool false))⟩])
  (.ret)) (.skip)))))))
  (.reg [⟨some 291, none, .bin 0 .add (.t 271) (.c (.int .i64 1))⟩, ⟨some 271, none, .mv (.t 291)⟩])))))))) (.skip))))))))
  (.reg [⟨some 292, none, .bin 0 .add (.t 244) (.c (.int .i64 1))⟩, ⟨some 244, none, .mv (.t 292)⟩])))))))
  (.seq (.reg [⟨some 293, none, .mv (.t 30)⟩, ⟨some 294, none, .mv (.t 11)⟩, ⟨some 295, none, .len false (.t 294)⟩, ⟨some 296, none, .bin 0 .eql (.t 293) (.t 295)⟩, ⟨some 297, none, .mv (.t 296)⟩, ⟨some 298, some (297, true), .mv (.t 31)⟩, ⟨some 299, some (297, true), .mv (.t 12)⟩, ⟨some 300, some (297, true), .len false (.t 299)⟩, ⟨some 301, some (297, true), .bin 0 .eql (.t 298) (.t 300)⟩, ⟨some 302, none, .pick (.t 297) (.t 301) (.c (.bool false))⟩, ⟨some 303, none, .mv (.t 302)⟩, ⟨some 304, some (303, true), .pcall 15 []⟩, ⟨some 305, none, .pick (.t 303) (.t 304) (.c (.bool false))⟩, ⟨some 6, none, .mv (.t 305)⟩])
  (.ret)))))
def A7x : ACode := .seq (.reg [⟨some 3, none, .boxi (.t 0)⟩, ⟨some 6, none, .mv (.c (.bool false))⟩])
  (.seq (.reg [⟨some 46, none, .load true 19 (.t 3)⟩, ⟨some 47, none, .pcall 30 [.t 46, .c (.int .i64 9)]⟩, ⟨some 45, none, .mv (.t 47)⟩, ⟨some 48, none, .extract (.t 45) 0⟩, ⟨some 49, none, .extract (.t 45) 1⟩, ⟨some 7, none, .mv (.t 48)⟩, ⟨some 8, none, .mv (.t 49)⟩])
  (.seq (.reg [⟨some 51, none, .mv (.t 7)⟩, ⟨some 52, none, .mv (.t 8)⟩, ⟨some 53, none, .pcall 16 [.t 51, .t 52]⟩, ⟨some 50, none, .mv (.t 53)⟩, ⟨some 54, none, .extract (.t 50) 0⟩, ⟨some 55, none, .extract (.t 50) 1⟩, ⟨some 9, none, .mv (.t 54)⟩, ⟨some 10, none, .mv (.t 55)⟩])
  (.seq (.reg [⟨some 57, none, .mv (.t 7)⟩, ⟨some 58, none, .mv (.t 8)⟩, ⟨some 59, none, .pcall 23 [.t 57, .t 58]⟩, ⟨some 56, none, .mv (.t 59)⟩, ⟨some 60, none, .extract (.t 56) 0⟩, ⟨some 61, none, .extract (.t 56) 1⟩, ⟨some 62, none, .extract (.t 56) 2⟩, ⟨some 11, none, .mv (.t 60)⟩, ⟨some 12, none, .mv (.t 61)⟩, ⟨some 13, none, .mv (.t 62)⟩])
  (.seq (.reg [⟨some 63, none, .mv (.t 7)⟩, ⟨some 64, none, .mv (.t 8)⟩, ⟨some 65, none, .lcall 33 [.t 63, .t 64]⟩, ⟨some 14, none, .mv (.t 65)⟩])
  (.seq (.reg [⟨some 67, none, .mv (.t 7)⟩, ⟨some 68, none, .mv (.t 8)⟩, ⟨some 69, none, .mv (.t 9)⟩, ⟨some 70, none, .pcall 34 [.t 67, .t 68, .t 69]⟩, ⟨some 66, none, .mv (.t 70)⟩, ⟨some 71, none, .extract (.t 66) 0⟩, ⟨some 72, none, .extract (.t 66) 1⟩, ⟨some 15, none, .mv (.t 71)⟩, ⟨some 16, none, .mv (.t 72)⟩])
  (.seq (.seq (.reg [⟨some 73, none, .mv (.t 10)⟩, ⟨some 74, none, .bin 0 .neq (.t 73) (.c (.int .i64 0))⟩, ⟨some 75, none, .mv (.t 74)⟩, ⟨some 76, some (75, false), .mv (.t 13)⟩, ⟨some 77, some (75, false), .bin 0 .neq (.t 76) (.c (.int .i64 0))⟩, ⟨some 78, none, .pick (.t 75) (.c (.bool true)) (.t 77)⟩, ⟨some 79, none, .mv (.t 78)⟩, ⟨some 80, some (79, false), .mv (.t 16)⟩, ⟨some 81, some (79, false), .un .not (.t 80)⟩, ⟨some 82, none, .pick (.t 79) (.c (.bool true)) (.t 81)⟩, ⟨some 83, none, .mv (.t 82)⟩, ⟨some 84, some (83, false), .mv (.t 15)⟩, ⟨some 85, some (83, false), .mv (.t 14)⟩, ⟨some 86, some (83, false), .bin 0 .neq (.t 84) (.t 85)⟩, ⟨some 87, none, .pick (.t 83) (.c (.bool true)) (.t 86)⟩])
  (.cond (.t 87) (.seq (.reg [⟨some 6, none, .mv (.c (.bool false))⟩])
  (.ret)) (.skip)))
  (.seq (.reg [⟨some 88, none, .mv (.t 7)⟩, ⟨some 89, none, .len false (.t 88)⟩, ⟨some 90, none, .make false 1 [.int .i64 0] (.t 89) (.t 89)⟩, ⟨some 17, none, .mv (.t 90)⟩])
  (.seq (.seq (.reg [⟨some 91, none, .mv (.t 17)⟩, ⟨some 92, none, .len false (.t 91)⟩, ⟨some 93, none, .mv (.c (.int .i64 0))⟩])
  (.block 0 (.loop (.seq (.reg [⟨some 94, none, .bin 0 .lss (.t 93) (.t 92)⟩])
  (.seq (.cond (.t 94) (.skip) (.exit 0))
  (.seq (.block 1 (.seq (.reg [⟨some 95, none, .mv (.t 93)⟩, ⟨some 18, none, .mv (.t 95)⟩])
  (.reg [⟨some 96, none, .mv (.t 17)⟩, ⟨some 97, none, .mv (.t 18)⟩, ⟨some 98, none, .iaddrS 1 (.t 96) (.t 97)⟩, ⟨none, none, .store 1 (.t 98) (.c (.int .i64 (-1)))⟩])))
  (.reg [⟨some 99, none, .bin 0 .add (.t 93) (.c (.int .i64 1))⟩, ⟨some 93, none, .mv (.t 99)⟩])))))))
  (.seq (.reg [⟨some 100, none, .mv (.t 1)⟩, ⟨some 101, none, .conv .i64 (.t 100)⟩, ⟨some 102, none, .mv (.t 9)⟩, ⟨some 103, none, .len false (.t 102)⟩, ⟨some 104, none, .bin 0 .add (.t 103) (.c (.int .i64 1))⟩, ⟨some 105, none, .bin 0 .rem (.t 101) (.t 104)⟩, ⟨some 19, none, .mv (.t 105)⟩])
  (.seq (.regd [⟨some 106, none, .buildSl 2 []⟩, ⟨some 107, none, .mv (.t 9)⟩, ⟨some 108, none, .mv (.t 19)⟩, ⟨some 109, none, .slice 2 (.t 107) none (some (.t 108)) none⟩, ⟨some 110, none, .append 2 (.t 106) (.t 109)⟩, ⟨some 111, none, .mv (.t 2)⟩, ⟨some 112, none, .conv .i64 (.t 111)⟩, ⟨some 113, none, .bin 0 .rem (.t 112) (.c (.int .i64 9))⟩, ⟨some 114, none, .bin 0 .add (.c (.int .i64 1)) (.t 113)⟩, ⟨some 115, none, .mv (.t 17)⟩, ⟨some 116, none, .build [.int .i64 0, .nilsl] [(0, 1, (.t 114)), (1, 1, (.t 115))]⟩, ⟨some 117, none, .buildSl 2 [.t 116]⟩, ⟨some 118, none, .append 2 (.t 110) (.t 117)⟩, ⟨some 119, none, .mv (.t 9)⟩, ⟨some 120, none, .mv (.t 19)⟩, ⟨some 121, none, .slice 2 (.t 119) (some (.t 120)) none none⟩, ⟨some 122, none, .append 2 (.t 118) (.t 121)⟩, ⟨some 20, none, .mv (.t 122)⟩])
  (.seq (.seq (.reg [⟨some 123, none, .mv (.t 20)⟩, ⟨some 124, none, .len false (.t 123)⟩, ⟨some 125, none, .bin 0 .leq (.t 124) (.c (.int .i64 200))⟩])
  (.cond (.t 125) (.seq (.reg [⟨some 127, none, .mv (.t 7)⟩, ⟨some 128, none, .mv (.t 8)⟩, ⟨some 129, none, .mv (.t 20)⟩, ⟨some 130, none, .lcall 20 [.t 127, .t 128, .t 129]⟩, ⟨some 126, none, .mv (.t 130)⟩, ⟨some 131, none, .extract (.t 126) 0⟩, ⟨some 132, none, .extract (.t 126) 1⟩, ⟨some 21, none, .mv (.t 131)⟩, ⟨some 22, none, .mv (.t 132)⟩])
  (.seq (.reg [⟨some 133, none, .mv (.t 22)⟩, ⟨some 134, none, .bin 0 .neq (.t 133) (.c (.int .i64 0))⟩, ⟨some 135, none, .mv (.t 134)⟩, ⟨some 136, some (135, false), .mv (.t 21)⟩, ⟨some 137, some (135, false), .mv (.t 14)⟩, ⟨some 138, some (135, false), .bin 0 .add (.t 137) (.c (.int .i64 1))⟩, ⟨some 139, some (135, false), .mv (.t 2)⟩, ⟨some 140, some (135, false), .conv .i64 (.t 139)⟩, ⟨some 141, some (135, false), .bin 0 .rem (.t 140) (.c (.int .i64 9))⟩, ⟨some 142, some (135, false), .bin 0 .add (.t 138) (.t 141)⟩, ⟨some 143, some (135, false), .bin 0 .neq (.t 136) (.t 142)⟩, ⟨some 144, none, .pick (.t 135) (.c (.bool true)) (.t 143)⟩, ⟨some 145, none, .mv (.t 144)⟩, ⟨some 146, some (145, false), .mv (.t 7)⟩, ⟨some 147, some (145, false), .mv (.t 8)⟩, ⟨some 148, some (145, false), .mv (.t 20)⟩, ⟨some 149, some (145, false), .lcall 22 [.t 146, .t 147, .t 148]⟩, ⟨some 150, some (145, false), .bin 0 .neq (.t 149) (.c (.int .i64 14))⟩, ⟨some 151, none, .pick (.t 145) (.c (.bool true)) (.t 150)⟩])
  (.cond (.t 151) (.seq (.reg [⟨some 6, none, .mv (.c (.bool false))⟩])
  (.ret)) (.skip)))) (.skip)))
  (.seq (.seq (.reg [⟨some 152, none, .mv (.t 9)⟩, ⟨some 153, none, .len false (.t 152)⟩, ⟨some 154, none, .bin 0 .gtr (.t 153) (.c (.int .i64 0))⟩, ⟨some 155, none, .mv (.t 154)⟩, ⟨some 156, some (155, true), .mv (.t 19)⟩, ⟨some 157, some (155, true), .mv (.t 9)⟩, ⟨some 158, some (155, true), .len false (.t 157)⟩, ⟨some 159, some (155, true), .bin 0 .lss (.t 156) (.t 158)⟩, ⟨some 160, none, .pick (.t 155) (.t 159) (.c (.bool false))⟩])
  (.cond (.t 160) (.seq (.regd [⟨some 161, none, .buildSl 2 []⟩, ⟨some 162, none, .mv (.t 9)⟩, ⟨some 163, none, .mv (.t 19)⟩, ⟨some 164, none, .slice 2 (.t 162) none (some (.t 163)) none⟩, ⟨some 165, none, .append 2 (.t 161) (.t 164)⟩, ⟨some 166, none, .mv (.t 9)⟩, ⟨some 167, none, .mv (.t 19)⟩, ⟨some 168, none, .bin 0 .add (.t 167) (.c (.int .i64 1))⟩, ⟨some 169, none, .slice 2 (.t 166) (some (.t 168)) none none⟩, ⟨some 170, none, .append 2 (.t 165) (.t 169)⟩, ⟨some 23, none, .mv (.t 170)⟩])
  (.seq (.reg [⟨some 24, none, .mv (.c (.bool false))⟩])
  (.seq (.seq (.reg [⟨some 171, none, .mv (.t 9)⟩, ⟨some 172, none, .mv (.t 19)⟩, ⟨some 173, none, .iaddrS 2 (.t 171) (.t 172)⟩, ⟨some 174, none, .faddr false 1 1 (.t 173)⟩, ⟨some 175, none, .load false 1 (.t 174)⟩, ⟨some 176, none, .len false (.t 175)⟩, ⟨some 177, none, .mv (.c (.int .i64 0))⟩])
  (.block 2 (.loop (.seq (.reg [⟨some 178, none, .bin 0 .lss (.t 177) (.t 176)⟩])
  (.seq (.cond (.t 178) (.skip) (.exit 2))
  (.seq (.block 3 (.seq (.reg [⟨some 179, none, .iaddrS 1 (.t 175) (.t 177)⟩, ⟨some 180, none, .load false 1 (.t 179)⟩, ⟨some 26, none, .mv (.t 180)⟩])
  (.reg [⟨some 181, none, .mv (.t 24)⟩, ⟨some 182, none, .mv (.t 181)⟩, ⟨some 183, some (182, false), .mv (.t 26)⟩, ⟨some 184, some (182, false), .bin 0 .neq (.t 183) (.c (.int .i64 (-1)))⟩, ⟨some 185, none, .pick (.t 182) (.c (.bool true)) (.t 184)⟩, ⟨some 24, none, .mv (.t 185)⟩])))
  (.reg [⟨some 186, none, .bin 0 .add (.t 177) (.c (.int .i64 1))⟩, ⟨some 177, none, .mv (.t 186)⟩])))))))
  (.seq (.reg [⟨some 187, none, .mv (.t 24)⟩, ⟨some 188, none, .mv (.t 187)⟩, ⟨some 189, some (188, true), .mv (.t 7)⟩, ⟨some 190, some (188, true), .mv (.t 8)⟩, ⟨some 191, some (188, true), .mv (.t 23)⟩, ⟨some 192, some (188, true), .lcall 22 [.t 189, .t 190, .t 191]⟩, ⟨some 193, some (188, true), .bin 0 .neq (.t 192) (.c (.int .i64 13))⟩, ⟨some 194, none, .pick (.t 188) (.t 193) (.c (.bool false))⟩])
  (.cond (.t 194) (.seq (.reg [⟨some 6, none, .mv (.c (.bool false))⟩])
  (.ret)) (.skip)))))) (.skip)))
  T7))))))))))))
theorem A7_eq : A7 = A7x := rfl

/-! plans as slices -/
theorem isP_sl {q : List (Int × List Int)} {c : Cap} (hp : q.length ≤ 1000) (hl : ∀ s ∈ q, s.2.length ≤ 1000) : IsP (.sl 2 (q.map stepV) c) q := by
  refine ⟨by simp [alenK], fun i h => ⟨.sl 1 (ints q[i].2) .exact, ?_, asI_sl (by have := hl _ (List.getElem_mem h); omega)⟩, fun hp n => ?_⟩
  · simp [aidxS, h, stepV]
  · refine frzL_noM ?_
    cases n with
    | zero => rfl
    | succ n =>
      simp only [noM, List.all_map, List.all_eq_true, Function.comp]
      intro t ht
      simp only [stepV, List.all_cons, List.all_nil, Bool.and_true, Bool.and_eq_true]
      exact ⟨by cases n <;> rfl, noM_ints n _ _⟩
theorem isP_uniq {x : AV} {p q : List (Int × List Int)} (h : IsP x p) (h2 : IsP x q) : p = q := by
  have hl : p.length = q.length := by
    have a := h.len
    rw [h2.len] at a
    injection a with a; injection a with _ a
    omega
  apply List.ext_getElem hl
  intro i h3 h4
  obtain ⟨a, a1, a2⟩ := h.get i h3
  obtain ⟨b, b1, b2⟩ := h2.get i h4
  rw [a1] at b1
  injection b1 with b1; injection b1 with b1; injection b1 with b1
  injection b1 with b1 b3
  injection b3 with b3 _
  injection b1 with _ b1
  subst b3
  rw [a2] at b2
  injection b2 with b2
  exact Prod.ext b1 b2
theorem ctx20 {C : PCtx} (hC : CtxOk Try.prog C) {x : AV} {m : List (List Int)} {R : Nat → AV} (hx : IsM x m R) (S : Int) : ∃ C', CtxOk Try.prog C' ∧ (∀ y q, IsP y q → C' 20 [x, .int .i64 S, y] = some (lenV m S q)) ∧ ∀ g, ¬ g = 20 → C' g = C g := by
  refine ⟨C.fam (ι := {q : AV × List (Int × List Int) // IsP q.1 q.2}) 20 (fun q => [x, .int .i64 S, q.1.1]) (fun q => lenV m S q.1.2), hC.fam fun q => p20 hx S q.2, fun y q hq => ?_, fun g hg => funext fun b => fam_ne hg⟩
  refine fam_eq (g := fun q : {q : AV × List (Int × List Int) // IsP q.1 q.2} => [x, .int .i64 S, q.1.1]) (r := fun q => lenV m S q.1.2) (fun i j e => ?_) ⟨(y, q), hq⟩
  simp at e
  have h1 := i.2
  rw [e] at h1
  show lenV m S i.1.2 = lenV m S j.1.2
  rw [isP_uniq h1 j.2]
theorem ctx22 {C : PCtx} (hC : CtxOk Try.prog C) {x : AV} {m : List (List Int)} {R : Nat → AV} (hx : IsM x m R) (S : Int) : ∃ C', CtxOk Try.prog C' ∧ (∀ y q, IsP y q → C' 22 [x, .int .i64 S, y] = some (.int .i64 (verE m S q))) ∧ ∀ g, ¬ g = 22 → C' g = C g := by
  refine ⟨C.fam (ι := {q : AV × List (Int × List Int) // IsP q.1 q.2}) 22 (fun q => [x, .int .i64 S, q.1.1]) (fun q => .int .i64 (verE m S q.1.2)), hC.fam fun q => p22 hx S q.2, fun y q hq => ?_, fun g hg => funext fun b => fam_ne hg⟩
  refine fam_eq (g := fun q : {q : AV × List (Int × List Int) // IsP q.1 q.2} => [x, .int .i64 S, q.1.1]) (r := fun q => .int .i64 (verE m S q.1.2)) (fun i j e => ?_) ⟨(y, q), hq⟩
  simp at e
  have h1 := i.2
  rw [e] at h1
  show AV.int .i64 (verE m S i.1.2) = .int .i64 (verE m S j.1.2)
  rw [isP_uniq h1 j.2]
theorem app_sl {hs : HS} {xs ys : List AV} {c : Cap} {q : AV} (hf : Fresh hs (.sl 2 xs c)) (hq : asV 2 q = some ys) (hl : xs.length + ys.length ≤ 1000) :
    ∃ c' hs', aappend 2 hs (.sl 2 xs c) q = some (.sl 2 (xs ++ ys) c', hs') ∧ Fresh hs' (.sl 2 (xs ++ ys) c') ∧ SameMem hs hs' := by
  obtain ⟨y, hs', a1, a2, a3, a4, a5, a6, a7⟩ := append_fresh (sz := 2) (l := xs) hf rfl rfl hq (by omega)
  rcases a5 with ⟨rfl, rfl⟩ | ⟨k, rfl⟩
  · exact ⟨c, hs', by simpa using a1, by simpa using a2, a6⟩
  · exact ⟨.own k, hs', a1, a2, a6⟩
theorem pl_take (p : List (Int × List Int)) (hp : p.length ≤ 1000) {k : Nat} (hk : k ≤ p.length) : ∃ z, aslice 2 (planV p) none (some (.int .i64 (k : Int))) none = some z ∧ asV 2 z = some ((p.take k).map stepV) := by
  unfold planV
  cases p with
  | nil =>
    have : k = 0 := by simpa using hk
    subst this
    exact ⟨.nilsl, rfl, rfl⟩
  | cons s p =>
    rw [outV_ne (by simp)]
    refine ⟨.sl 2 (((s :: p).map stepV).take k) .shared, ?_, ?_⟩
    · simp only [aslice, aidx, asliceL, if_true]
      rw [if_pos ⟨by omega, by simp at hk ⊢; omega⟩]; simp
    · rw [← List.map_take]
      exact asV_sl (by simp at hp ⊢; omega)
theorem pl_drop (p : List (Int × List Int)) (hp : p.length ≤ 1000) {k : Nat} (hk : k ≤ p.length) : ∃ z, aslice 2 (planV p) (some (.int .i64 (k : Int))) none none = some z ∧ asV 2 z = some ((p.drop k).map stepV) := by
  unfold planV
  cases p with
  | nil =>
    have : k = 0 := by simpa using hk
    subst this
    exact ⟨.nilsl, rfl, rfl⟩
  | cons s p =>
    rw [outV_ne (by simp)]
    refine ⟨.sl 2 (((s :: p).map stepV).drop k) .shared, ?_, ?_⟩
    · simp only [aslice, aidx, asliceL, if_true]
      rw [if_pos ⟨by omega, by simp at hk ⊢; omega⟩]; simp
    · rw [← List.map_drop]
      exact asV_sl (by simp at hp ⊢; omega)
/-- the end of the law -/
theorem tail7 {E : PCtx} (hE : CtxOk Try.prog E) (e15 : E 15 [] = some (.bool true)) {x : AV} {m : List (List Int)} {R : Nat → AV} (hx : IsM x m R) (hw : OkW m) {S : Int} (hS : 1 ≤ S ∧ S ≤ 6) {y x1 x2 : AV} {p : List (Int × List Int)} (hg : Good m S p) (hy : IsP y p)
    (hx1 : asI x1 = some (posI (arts m) (short m S))) (hx2 : asI x2 = some (posI (machs m) (short m S))) {s : AS}
    (e7 : s.env 7 = x) (e9 : s.env 9 = y) (e11 : s.env 11 = x1) (e12 : s.env 12 = x2) (e14 : s.env 14 = .int .i64 (short m S)) :
    At (awp Try.prog E T7 (finQ R7 fun e _ => Reads (.bool true) e) s) := by
  have al := arts_len m
  have ml := machs_len m
  have hr6 := hw.r6
  have hc6 : cols m ≤ 6 := hw.c6
  simp only [T7, R7]
  simp [e7]
  refine At.hc (p35 hx hw _) ?_ (fun v hs' ⟨a, h, _⟩ => by cases h)
  rintro v hs1 ⟨a, hv, hB⟩
  injection hv with hv; subst hv
  simp at hB
  have ha := hB.out.asI (by omega)
  have hcell := hB.cell
  have hnn := hB.nh
  simp [bdsV, alen_of ha, al]
  refine artB (x2 := x2) (q := s.hs.nh) (C := cols m) (Mc := machs m) hx1 hy hg.len ha (by omega) (fun c h hc => art_all hw hg (by omega) (by rw [getD_of h]; exact hc)) (fun s hs => by rw [(hg.st s hs).len, al]) (by simp [e9]) (by simp [e11]) (by simp [e12]) (by simp [e14]) (by simp) (by simp) (by simp) (by simp) (by simp [al]) (by simp) (by simp [hcell]) (by simp; omega) ?_
  intro s2 f9 f11 f12 f14 f28 f30 f31 fh fn
  rw [← ml] at f28
  simp [f28]
  refine machB (q := s.hs.nh) (x1 := x1) (K := ((posI (arts m) (short m S)).length : Int)) hx2 hy hg.len (by omega) (fun c h hc => mach_all hw hg (by omega) (by rw [getD_of h]; exact hc)) (fun s hs => by rw [(hg.st s hs).len]; omega) (by simp [f9]) (by simp [f11]) (by simp [f12]) (by simp [f14]) (by simp [f30]) (by simp [f31]) (by simp) (by simp) (by simp) (by simp [fh]) (by simp [fn]) ?_
  intro s3 g11 g12 g30 g31
  simp [g11, g12, g30, g31, alen_of hx1, alen_of hx2, e15]
end Go.Proofs.Ytokgpcdbpkginaa
