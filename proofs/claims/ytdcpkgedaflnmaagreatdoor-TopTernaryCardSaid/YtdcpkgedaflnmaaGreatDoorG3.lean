/-
  Orders of layers: small functions, the reference's points, creases and what lies. Own work.
  The reference's test whether layers go through each other. Own work.
  Heights of an order: the walk; lists that are foldings. Own work.
  Lists that are foldings. Own work.
  Lists that are foldings, by the reference. Own work.
  The places of segments: the walks. Own work.
  All orders of layers, with a function that each of them is handed to: the walk. Own work.
  All orders of layers; the smallest folding and numbers of foldings: the walks. Own work.
-/
import Derived.Test.YtdcpkgedaflnmaaGreatDoorG2
set_option linter.unusedVariables false
set_option linter.unusedSimpArgs false
namespace Go.Proofs.YtdcpkgedaflnmaaGreatDoor.Fo
open Go Fw

theorem notmem_take_succ {l : List Int} {i : Nat} (h : i < l.length) {n : Int} (h1 : n ∉ l.take i) (h2 : ¬ n = l[i]) : n ∉ l.take (i + 1) := by
  intro hn
  rcases (mem_take_succ h).1 hn with h' | h'
  · exact h1 h'
  · exact h2 h'
def idxI (l : List Int) (n : Int) : Int := if n ∈ l then (l.idxOf n : Int) else -1
theorem p82 {x : AV} {l : List Int} (hx : asI x = some l) (n : Int) : PCall Tryz.prog 115 [x, .int .i64 n] (.int .i64 (idxI l n)) := by
  refine PCall.of CtxOk.nil ok82 (by simp) rfl fun hs hb => ?_
  have hll := asI_len hx
  simp only [A82, R82]
  simp [alen_of hx]
  refine At.loop (fun (i : Nat) s => i ≤ l.length ∧ n ∉ l.take i ∧ s.env 0 = x ∧ s.env 1 = .int .i64 n ∧ s.env 7 = .int .i64 (l.length : Int) ∧ s.env 8 = .int .i64 (i : Int)) (fun i => l.length - i) 0 ?_ ?_
  · simp
  rintro N i s hN ⟨hi, hnt, e0, e1, e7, e8⟩
  simp [e7, e8]
  refine At.dec (fun hlt => ?_) (fun hlt => ?_)
  · have hi' : i < l.length := by omega
    simp [e0, e1, e8, aidx_nat hx hi']
    refine At.dec (fun h => ?_) (fun h => ?_)
    · have hm : n ∈ l := by rw [h]; exact List.getElem_mem _
      have := idxOf_of hi' h.symm hnt
      simp [idxI, hm, this]
    · have w1 := wrap_nat1 (show i < _ by omega)
      simp [w1, e8]
      refine hN (i + 1) _ (by omega) ⟨by omega, notmem_take_succ hi' hnt h, ?_⟩
      simp [e0, e1, e7]
  · have : i = l.length := by omega
    subst this
    rw [List.take_length] at hnt
    simp [idxI, hnt]
theorem idxI_ge (l : List Int) (n : Int) : decide (0 ≤ idxI l n) = decide (n ∈ l) := by
  unfold idxI
  rw [Bool.eq_iff_iff]
  simp only [decide_eq_true_eq]
  split
  · rename_i h; simp [h]
  · rename_i h; simp [h]
theorem p52 {x : AV} {l : List Int} (hx : asI x = some l) (n : Int) : PCall Tryz.prog 72 [x, .int .i64 n] (.bool (decide (n ∈ l))) := by
  obtain ⟨C, hC, hc, _⟩ := ctx_pt CtxOk.nil 115 _ _ (p82 hx n)
  refine PCall.of hC ok52 (by simp) rfl fun hs hb => ?_
  have := idxI_ge l n
  simp only [A52, R52]
  simp [hc]
  by_cases h : n ∈ l
  · simp [h] at this; simp [h, this]
  · simp [h] at this; simp [h]; omega
/-- how high each segment lies in an order -/
def hO (o : List Int) (k : Nat) : Int := if (k : Int) ∈ o then (o.idxOf (k : Int) : Int) else 0
theorem hO_snoc {o : List Int} {a : Nat} (h : (a : Int) ∉ o) (k : Nat) : hO (o ++ [(a : Int)]) k = if k = a then (o.length : Int) else hO o k := by
  unfold hO
  by_cases hk : k = a
  · subst hk
    rw [if_pos rfl, if_pos (by simp), List.idxOf_append, if_neg h]
    simp
  · rw [if_neg hk]
    have e : ((k : Int) ∈ o ++ [(a : Int)]) ↔ (k : Int) ∈ o := by
      simp only [List.mem_append, List.mem_singleton]
      constructor
      · rintro (h' | h')
        · exact h'
        · omega
      · exact .inl
    by_cases hm : (k : Int) ∈ o
    · rw [if_pos (e.2 hm), if_pos hm, List.idxOf_append, if_pos hm]
    · rw [if_neg (fun h' => hm (e.1 h')), if_neg hm]
/-- heights as a list -/
def hL (n : Nat) (h : Nat → Int) : List Int := (List.range n).map h
theorem hL_len (n : Nat) (h : Nat → Int) : (hL n h).length = n := by simp [hL]
end Go.Proofs.YtdcpkgedaflnmaaGreatDoor.Fo
set_option linter.unusedVariables false
set_option linter.unusedSimpArgs false
namespace Go.Proofs.YtdcpkgedaflnmaaGreatDoor.Fo
open Go Fw

def parR (l : List Int) (h : Nat → Int) (i k : Nat) : Bool := !(!decide (k = i) && decide (k % 2 = i % 2) && decide (pn l (k + 1) = pn l (i + 1))) || (ins h k i == ins h (k + 1) i)
theorem parR_all (l : List Int) (h : Nat → Int) (i : Nat) : (sameL l l.length (pn l (i + 1), ((i % 2 : Nat) : Int))).all (parB h i) = (List.range (l.length - 1)).all (parR l h i) := by
  rw [Bool.eq_iff_iff, List.all_eq_true, List.all_eq_true]
  constructor
  · intro hh k hk
    have hk := List.mem_range.1 hk
    unfold parR
    by_cases c : k % 2 = i % 2 ∧ pn l (k + 1) = pn l (i + 1)
    · have hm : (k : Int) ∈ sameL l l.length (pn l (i + 1), ((i % 2 : Nat) : Int)) := by
        unfold sameL
        refine List.mem_map.2 ⟨k, List.mem_filter.2 ⟨List.mem_range.2 (by omega), ?_⟩, rfl⟩
        rw [Bool.and_eq_true, decide_eq_true_eq, decide_eq_true_eq]
        exact ⟨by omega, by rw [c.1, c.2]⟩
      have := hh _ hm
      unfold parB at this
      by_cases hki : k = i
      · simp [hki]
      · have : ins h k i = ins h (k + 1) i := by
          simp only [Bool.or_eq_true, decide_eq_true_eq] at this
          rcases this with h' | h'
          · omega
          · simpa using h'
        simp [this]
    · have : (decide (k % 2 = i % 2) && decide (pn l (k + 1) = pn l (i + 1))) = false := by
        rw [Bool.eq_false_iff]; intro e
        rw [Bool.and_eq_true, decide_eq_true_eq, decide_eq_true_eq] at e
        exact c e
      rw [Bool.and_assoc, this]; simp
  · intro hh c hc
    obtain ⟨k, rfl, h1, h2, h3⟩ := sameL_mem hc
    have := hh k (List.mem_range.2 (by omega))
    unfold parR at this
    unfold parB
    have e1 : pn l (k + 1) = pn l (i + 1) := congrArg Prod.fst h3
    have e2 : k % 2 = i % 2 := by have := congrArg Prod.snd h3; simp only at this; omega
    by_cases hki : k = i
    · simp [hki]
    · rw [e1, e2] at this
      simp [hki] at this
      simp [this]
end Go.Proofs.YtdcpkgedaflnmaaGreatDoor.Fo
set_option linter.unusedVariables false
set_option linter.unusedSimpArgs false
namespace Go.Proofs.YtdcpkgedaflnmaaGreatDoor.Fo
open Go Fw

theorem hL_set {n : Nat} {h : Nat → Int} {k : Nat} (hk : k < n) (v : Int) : (ints (hL n h)).set k (.int .i64 v) = ints (hL n fun j => if j = k then v else h j) := by
  apply List.ext_getElem?
  intro j
  by_cases hj : j = k
  · subst hj
    rw [List.getElem?_set_self (by rw [ints_len, hL_len]; exact hk)]
    simp [ints, hL, hk]
  · rw [List.getElem?_set_ne (by omega)]
    simp only [ints, hL, List.getElem?_map, List.getElem?_range]
    by_cases hjn : j < n
    · simp [hjn, hj]
    · simp [hjn]
end Go.Proofs.YtdcpkgedaflnmaaGreatDoor.Fo
set_option linter.unusedVariables false
set_option linter.unusedSimpArgs false
namespace Go.Proofs.YtdcpkgedaflnmaaGreatDoor.Fo
open Go Fw

def S52 : List AV → Option AV
  | [x, .int .i64 n] => (asI x).map fun l => .bool (decide (n ∈ l))
  | _ => none
theorem S52_i {x : AV} {l : List Int} (h : asI x = some l) (n : Int) : S52 [x, .int .i64 n] = some (.bool (decide (n ∈ l))) := by simp [S52, h]
theorem S52_ok : ∀ a r, S52 a = some r → PCall Tryz.prog 72 a r := by
  intro a r e
  unfold S52 at e
  split at e <;> (try (cases e; done))
  rename_i x n
  cases hl : asI x with
  | none => simp [hl] at e
  | some l => simp [hl] at e; subst e; exact p52 hl n
def C8 : PCtx := C2.add 72 S52
theorem C8ok : CtxOk Tryz.prog C8 := C2ok.add S52_ok
theorem ld7 {hp : Nat → Option (List AV)} {b : Nat} {h : Nat → Int} (hh : hp b = some (ints (hL 7 h))) : aload hp true 7 (.ref b 0) = some (hV h) := by
  simp only [aload, hh, Option.bind_some]
  rfl
end Go.Proofs.YtdcpkgedaflnmaaGreatDoor.Fo
set_option linter.unusedVariables false
set_option linter.unusedSimpArgs false
namespace Go.Proofs.YtdcpkgedaflnmaaGreatDoor.Fo
open Go Fw

end Go.Proofs.YtdcpkgedaflnmaaGreatDoor.Fo
set_option linter.unusedVariables false
set_option linter.unusedSimpArgs false
namespace Go.Proofs.YtdcpkgedaflnmaaGreatDoor.Fo
open Go Fw

end Go.Proofs.YtdcpkgedaflnmaaGreatDoor.Fo
set_option linter.unusedVariables false
set_option linter.unusedSimpArgs false
namespace Go.Proofs.YtdcpkgedaflnmaaGreatDoor.Fo
open Go Fw

/-- orders of n layers that begin with one, m of them missing -/
def extL (n : Nat) : Nat → List Int → List (List Int)
  | 0, o => [o]
  | m + 1, o => (List.range n).flatMap fun k : Nat => if (k : Int) ∈ o then [] else extL n m (o ++ [(k : Int)])
/-- the first of them -/
def extT (n m : Nat) (o : List Int) (i : Nat) : List (List Int) := (List.range i).flatMap fun k : Nat => if (k : Int) ∈ o then [] else extL n m (o ++ [(k : Int)])
theorem extT_succ (n m : Nat) (o : List Int) (i : Nat) : extT n m o (i + 1) = extT n m o i ++ (if (i : Int) ∈ o then [] else extL n m (o ++ [(i : Int)])) := by
  unfold extT
  rw [List.range_succ, List.flatMap_append]
  simp
theorem extT_pre (n m : Nat) (o : List Int) {k : Nat} : ∀ {i : Nat}, k ≤ i → ∃ rest, extT n m o i = extT n m o k ++ rest
  | 0, h => ⟨[], by have : k = 0 := by omega
                    rw [this, List.append_nil]⟩
  | i + 1, h => by
    by_cases e : k = i + 1
    · exact ⟨[], by rw [e, List.append_nil]⟩
    · obtain ⟨r, hr⟩ := extT_pre n m o (k := k) (i := i) (by omega)
      exact ⟨r ++ _, by rw [extT_succ, hr, List.append_assoc]⟩
/-- one after the other, until one says no -/
def runE {σ : Type} (step : σ → List Int → σ × Bool) : σ → List (List Int) → σ × Bool
  | st, [] => (st, true)
  | st, o :: os => if (step st o).2 = true then runE step (step st o).1 os else ((step st o).1, false)
theorem runE_app {σ : Type} (step : σ → List Int → σ × Bool) : ∀ (a b : List (List Int)) (st : σ), runE step st (a ++ b) = if (runE step st a).2 = true then runE step (runE step st a).1 b else runE step st a
  | [], b, st => by simp [runE]
  | o :: a, b, st => by
    by_cases h : (step st o).2 = true
    · simp only [List.cons_append, runE, h, if_true]
      exact runE_app step a b _
    · simp [List.cons_append, runE, h]
/-- an order holds each number -/
theorem perm_all {o : List Int} {n : Nat} (hl : o.length = n) (hr : ∀ a ∈ o, 0 ≤ a ∧ a < n) (hd : o.Nodup) {k : Nat} (hk : k < n) : (k : Int) ∈ o := by
  apply Classical.byContradiction
  intro hno
  have hd2 : (o.map Int.toNat).Nodup := by
    rw [List.nodup_iff_pairwise_ne, List.pairwise_map]
    refine (List.nodup_iff_pairwise_ne.1 hd).imp_of_mem fun {a b} ha hb hab e => hab ?_
    have h1 := hr a ha
    have h2 := hr b hb
    omega
  have hnk : k ∉ o.map Int.toNat := by
    intro h
    obtain ⟨a, ha, e⟩ := List.mem_map.1 h
    have := hr a ha
    exact hno (by rw [← e, Int.toNat_of_nonneg this.1]; exact ha)
  have := nodup_le (n := n) (l := k :: o.map Int.toNat) (List.nodup_cons.2 ⟨hnk, hd2⟩) (by
    intro i hi
    rcases List.mem_cons.1 hi with rfl | hi
    · exact hk
    · obtain ⟨a, ha, e⟩ := List.mem_map.1 hi
      have := hr a ha
      omega)
  simp at this
  omega
/-- those orders that fit -/
def fitE {σ : Type} (l : List Int) (step : σ → List Int → σ × Bool) (st : σ) (o : List Int) : σ × Bool := if fitB l (hO o) = true then step st o else (st, true)
theorem fitB_cong {l : List Int} {h g : Nat → Int} (e : ∀ k, k < l.length → h k = g k) : fitB l h = fitB l g := by
  unfold fitB
  apply Bool.eq_iff_iff.2
  rw [List.all_eq_true, List.all_eq_true]
  have key : ∀ i, i < l.length - 1 → fitI l h i = fitI l g i := by
    intro i hi
    have ins_c : ∀ k, k < l.length → ins h k i = ins g k i := fun k hk => by unfold ins; rw [e k hk, e i (by omega), e (i + 1) (by omega)]
    unfold fitI
    congr 1
    · apply Bool.eq_iff_iff.2
      rw [List.all_eq_true, List.all_eq_true]
      constructor
      · intro h1 k hk
        have := h1 k hk
        unfold thrB at *
        rwa [ins_c k (List.mem_range.1 hk)] at this
      · intro h1 k hk
        have := h1 k hk
        unfold thrB at *
        rwa [ins_c k (List.mem_range.1 hk)]
    · rw [parR_all, parR_all]
      apply Bool.eq_iff_iff.2
      rw [List.all_eq_true, List.all_eq_true]
      constructor
      · intro h1 k hk
        have := h1 k hk
        have hk' := List.mem_range.1 hk
        unfold parR at *
        rwa [ins_c k (by omega), ins_c (k + 1) (by omega)] at this
      · intro h1 k hk
        have := h1 k hk
        have hk' := List.mem_range.1 hk
        unfold parR at *
        rwa [ins_c k (by omega), ins_c (k + 1) (by omega)]
  constructor
  · intro h1 i hi
    rw [← key i (List.mem_range.1 hi)]; exact h1 i hi
  · intro h1 i hi
    rw [key i (List.mem_range.1 hi)]; exact h1 i hi
theorem crsL_cong {n : Nat} {h g : Nat → Int} (e : ∀ k, k < n + 1 → h k = g k) : crsL h n = crsL g n := by
  unfold crsL
  refine List.map_congr_left fun i hi => ?_
  have := List.mem_range.1 hi
  unfold crs
  rw [e i (by omega), e (i + 1) (by omega)]
/-- memory, but for two blocks -/
structure Fm (b5 bo : Nat) (hs hs' : HS) : Prop where
  nh : hs'.nh = hs.nh
  hp : ∀ i, i ≠ b5 → i ≠ bo → hs'.heap i = hs.heap i
  mp : hs'.mp = hs.mp
  tk : KeepT hs hs'
theorem Fm.refl (b5 bo : Nat) (hs : HS) : Fm b5 bo hs hs := ⟨rfl, fun _ _ _ => rfl, rfl, .refl _⟩
theorem Fm.trans {b5 bo : Nat} {a b c : HS} (h : Fm b5 bo a b) (k : Fm b5 bo b c) : Fm b5 bo a c :=
  ⟨k.nh.trans h.nh, fun i h1 h2 => (k.hp i h1 h2).trans (h.hp i h1 h2), k.mp.trans h.mp, h.tk.trans k.tk⟩
theorem Sht.fm {b5 bo p j n : Nat} {l : List Int} {hs hs' : HS} (h : Sht hs p j l n) (f : Fm b5 bo hs hs') (h1 : p ≠ b5) (h2 : p ≠ bo) : Sht hs' p j l n := by
  obtain ⟨⟨ys, hy, hS⟩, es, he, hM⟩ := h
  exact ⟨⟨ys, by rw [f.hp p h1 h2]; exact hy, hS⟩, es, by rw [f.mp]; exact he, hM.keep f.tk⟩
/-- what is handed each order -/
structure Cb {σ : Type} (E : AV) (bo : Nat) (n : Nat) (cell : σ → AV) (step : σ → List Int → σ × Bool) : Prop where
  fn : ∃ fE caps, E = .fn (.func fE) [] caps ∧ ∀ st o z hs, asI z = some o → o.length = n → hs.heap bo = some [cell st] →
    FCall Tryz.prog fE ([z, .str (bs (crsL (hO o) (n - 1)))] ++ caps) hs fun e hs' => e = .ret (.bool (step st o).2) ∧ hs'.heap bo = some [cell (step st o).1] ∧ ∀ b5, Fm b5 bo hs hs'
/-- what does not change -/
structure Fix (hs : HS) (E : AV) (x : AV) (l : List Int) (b4 b5 b6 bo p j : Nat) : Prop where
  h4 : hs.heap b4 = some [.ref p 0]
  h6 : hs.heap b6 = some [.fn (.func 119) [] [.ptr x, .ref b4 0, .ref b5 0, .ptr E, .ref b6 0]]
  sh : Sht hs p j l l.length
  n45 : b4 ≠ b5
  n65 : b6 ≠ b5
  np5 : p ≠ b5
  n5o : b5 ≠ bo
  n4o : b4 ≠ bo
  n6o : b6 ≠ bo
  npo : p ≠ bo
theorem Fix.fm {hs hs' : HS} {E x : AV} {l : List Int} {b4 b5 b6 bo p j : Nat} (h : Fix hs E x l b4 b5 b6 bo p j) (f : Fm b5 bo hs hs') : Fix hs' E x l b4 b5 b6 bo p j :=
  ⟨by rw [f.hp b4 h.n45 h.n4o]; exact h.h4, by rw [f.hp b6 h.n65 h.n6o]; exact h.h6, h.sh.fm f h.np5 h.npo, h.n45, h.n65, h.np5, h.n5o, h.n4o, h.n6o, h.npo⟩
def clV : AV → AV
  | .sl sz xs _ => .sl sz xs .exact
  | x => x
theorem clV_plain {z : AV} {o : List Int} (h : asI z = some o) : (clV z).plain = true := by
  rcases asI_inv h with ⟨rfl, _⟩ | ⟨c, rfl⟩
  · rfl
  · exact plain_ints o
theorem p88 {z : AV} {o : List Int} (hz : asI z = some o) : PCall Tryz.prog 82 [z] (clV z) := by
  refine PCall.of CtxOk.nil ok88 (by simp) (clV_plain hz) fun hs hb => ?_
  have hs1 := slice_clip (sz := 1) (asI_asV hz) (k := .i64)
  rw [ints_len] at hs1
  have hsh : (clipV z).share = clV z := by
    rcases asI_inv hz with ⟨rfl, _⟩ | ⟨c, rfl⟩
    · rfl
    · simp only [clipV, clV, share_sl, share_ints]; rfl
  simp [A88, R88, alen_of hz, hs1, hsh]
theorem keepT_new (hs : HS) : KeepT hs { hs with nt := hs.nt + 1, tok := fun t => if t = hs.nt then true else hs.tok t } :=
  ⟨by simp, fun k hk h => by show (if k = hs.nt then true else hs.tok k) = true; rw [if_neg (by omega)]; exact h⟩
theorem clV_app {z : AV} {o : List Int} (hz : asI z = some o) (hl : o.length ≤ 1000000) (k : Int) (hs : HS) : ∃ y hs', aappend 1 hs (clV z) (.sl 1 [.int .i64 k] .exact) = some (y, hs') ∧ asI y = some (o ++ [k]) ∧ hs'.heap = hs.heap ∧ ∀ b5 bo, Fm b5 bo hs hs' := by
  have hi : ints o ++ [.int .i64 k] = ints (o ++ [k]) := by simp [ints]
  rcases asI_inv hz with ⟨rfl, rfl⟩ | ⟨c, rfl⟩
  · refine ⟨.sl 1 [.int .i64 k] (.own hs.nt), { hs with nt := hs.nt + 1, tok := fun t => if t = hs.nt then true else hs.tok t }, by rw [show clV .nilsl = .nilsl from rfl, append_eq (xs := []) rfl (q := .sl 1 [.int .i64 k] .exact) rfl rfl rfl (by simp), if_neg (by simp)]; rfl, rfl, rfl, fun b5 bo => ⟨rfl, fun _ _ _ => rfl, rfl, keepT_new hs⟩⟩
  · refine ⟨.sl 1 (ints o ++ [.int .i64 k]) (.own hs.nt), { hs with nt := hs.nt + 1, tok := fun t => if t = hs.nt then true else hs.tok t }, by rw [show clV (.sl 1 (ints o) c) = .sl 1 (ints o) .exact from rfl, append_eq (xs := ints o) rfl (q := .sl 1 [.int .i64 k] .exact) rfl rfl rfl (by simp [ints]; omega), if_neg (by simp)]; rfl, ?_, rfl, fun b5 bo => ⟨rfl, fun _ _ _ => rfl, rfl, keepT_new hs⟩⟩
    rw [hi]
    exact asI_sl (by simp; omega)
/-- heights agree with an order -/
def Agr (o : List Int) (g : Nat → Int) : Prop := ∀ k : Nat, (k : Int) ∈ o → g k = hO o k
theorem pvis {σ : Type} {E x : AV} {l : List Int} {b4 b5 b6 bo p j : Nat} {cell : σ → AV} {step : σ → List Int → σ × Bool} (hx : asI x = some l) (hm : meas l = 0) (cb : Cb E bo l.length cell step) :
    ∀ (m : Nat) (o : List Int) (z : AV) (hs : HS) (st : σ) (g : Nat → Int), asI z = some o → o.length + m = l.length → (∀ a ∈ o, 0 ≤ a ∧ a < l.length) → o.Nodup → Fix hs E x l b4 b5 b6 bo p j →
      hs.heap b5 = some (ints (hL 7 g)) → hs.heap bo = some [cell st] → Agr o g →
      FCall Tryz.prog 119 [z, .ptr x, .ref b4 0, .ref b5 0, .ptr E, .ref b6 0] hs fun e hs' => ∃ g', e = .ret (.bool (runE (fitE l step) st (extL l.length m o)).2) ∧ hs'.heap b5 = some (ints (hL 7 g')) ∧ hs'.heap bo = some [cell (runE (fitE l step) st (extL l.length m o)).1] ∧ Agr o g' ∧ Fm b5 bo hs hs' := by
  obtain ⟨m1, m2, m3, m4⟩ := meas_0 hm
  obtain ⟨fE, caps, rfl, hcb⟩ := cb.fn
  intro m
  induction m with
  | zero =>
    intro o z hs st g hz hlen hr hd hF h5 ho hag
    have hlen' : o.length = l.length := by omega
    have hall : ∀ k : Nat, k < l.length → g k = hO o k := fun k hk => hag k (perm_all hlen' hr hd hk)
    have hfit : fitB l g = fitB l (hO o) := fitB_cong hall
    have hcrs : crsL g (l.length - 1) = crsL (hO o) (l.length - 1) := crsL_cong fun k hk => hall k (by omega)
    obtain ⟨C, hC, c53, hne⟩ := ctx_pt C8ok 73 [hV g, .int .i64 (l.length : Int)] _ (p53 g (by omega) (by omega))
    rw [hcrs] at c53
    refine FCall.ofAt hC ok87 (by simp) ?_
    have e4 : aload hs.heap false 1 (.ref b4 0) = some (.ref p 0) := load_one hF.h4
    have e5 : aload hs.heap true 7 (.ref b5 0) = some (hV g) := ld7 h5
    have p54' := p54 hm g hF.sh
    rw [hfit] at p54'
    have hst := hV_sto g
    generalize hV g = H at e5 c53 p54' hst
    simp only [A87, R87]
    simp [alen_of hz, asI_ld hx, alen_of hx, hlen', e4, e5]
    refine At.hc p54' ?_ ?_
    · rintro v hs2 ⟨hv, rfl⟩
      injection hv with hv; subst hv
      have hrun : runE (fitE l step) st (extL l.length 0 o) = fitE l step st o := by
        simp only [extL, runE]
        split
        · rename_i h; rw [← h]
        · rename_i h; rw [Bool.not_eq_true] at h; rw [← h]
      rw [hrun]
      unfold fitE
      cases hb : fitB l (hO o) with
      | false =>
        simp
        exact At.of ⟨g, h5, ho, hag, .refl _ _ _⟩
      | true =>
        simp [lpf, e5, asI_ld hx, alen_of hx, c53]
        refine At.hc (hcb st o z hs2 hz hlen' ho) ?_ ?_
        · rintro v hs3 ⟨hv, ho3, hfm⟩
          injection hv with hv; subst hv
          simp
          refine At.of ⟨g, ?_, ho3, hag, hfm b5⟩
          rw [(hfm (b5 + 1)).hp b5 (by omega) hF.n5o]
          exact h5
        · rintro v hs3 ⟨hv, _⟩; cases hv
    · rintro v hs2 ⟨hv, _⟩; cases hv
  | succ m ih =>
    intro o z hs st g hz hlen hr hd hF h5 ho hag
    obtain ⟨C, hC, c88, hne⟩ := ctx_pt C8ok 82 [z] _ (p88 hz)
    have c52 : ∀ n : Int, C 72 [z, .int .i64 n] = some (.bool (decide (n ∈ o))) := fun n => by rw [hne 72 (by decide)]; exact S52_i hz n
    refine FCall.ofAt hC ok87 (by simp) ?_
    have hnl : ¬ (o.length : Int) = (l.length : Int) := by omega
    have hol : (o.length : Int) = (o.length : Int) := rfl
    simp only [A87, R87]
    simp [alen_of hz, asI_ld hx, alen_of hx, hnl, show ¬ o.length = l.length by omega]
    refine At.loop (fun (k : Nat) s => k ≤ l.length ∧ s.env 0 = z ∧ s.env 1 = .ptr x ∧ s.env 2 = .ref b4 0 ∧ s.env 3 = .ref b5 0 ∧ s.env 4 = .ptr (.fn (.func fE) [] caps) ∧ s.env 5 = .ref b6 0 ∧ s.env 30 = .int .i64 (l.length : Int) ∧ s.env 31 = .int .i64 (k : Int) ∧
      (∃ st', runE (fitE l step) st (extT l.length m o k) = (st', true) ∧ s.hs.heap bo = some [cell st']) ∧ (∃ g', s.hs.heap b5 = some (ints (hL 7 g')) ∧ Agr o g') ∧ Fm b5 bo hs s.hs) (fun k => l.length - k) 0 ?_ ?_
    · simp
      exact ⟨⟨st, rfl, ho⟩, ⟨g, h5, hag⟩, .refl _ _ _⟩
    rintro N k s hN ⟨hk, e0, e1, e2, e3, e4, e5, e30, e31, ⟨st', hrun, hbo⟩, ⟨g', h5', hag'⟩, hfm⟩
    simp [e30, e31]
    refine At.dec (fun hlt => ?_) (fun hlt => ?_)
    · have hk' : k < l.length := by omega
      have w1 := wrap_nat1 (show k < _ by omega)
      have q52 := c52 (k : Int)
      by_cases hmem : (k : Int) ∈ o
      · simp [e0, e31, q52, hmem, w1]
        refine hN (k + 1) _ (by omega) ⟨by omega, ?_⟩
        simp [e0, e1, e2, e3, e4, e5, e30]
        refine ⟨⟨st', ?_, hbo⟩, ⟨g', h5', hag'⟩, hfm⟩
        rw [extT_succ, if_pos hmem, List.append_nil]; exact hrun
      · have ix : aidxA 7 false 1 (.ref b5 0) (.int .i64 (k : Int)) = some (.ref b5 k) := by simp [aidxA, afaddr]; omega
        have sto : astore s.hs.heap 1 (.ref b5 k) (.int .i64 (o.length : Int)) = some (fun i => if i = b5 then some ((ints (hL 7 g')).set k (.int .i64 (o.length : Int))) else s.hs.heap i) := store_cell h5' (by rw [ints_len, hL_len]; omega) rfl
        rw [hL_set (by omega)] at sto
        have hag2 : Agr (o ++ [(k : Int)]) (fun j => if j = k then (o.length : Int) else g' j) := by
          intro j hj
          rw [hO_snoc hmem]
          by_cases e : j = k
          · simp [e]
          · simp only [e, if_false]
            refine hag' j ?_
            rcases List.mem_append.1 hj with h | h
            · exact h
            · exact absurd (List.mem_singleton.1 h) (by omega)
        generalize hhp : (fun i => if i = b5 then some (ints (hL 7 fun j => if j = k then (o.length : Int) else g' j)) else s.hs.heap i) = hp2 at sto
        have hp2b : hp2 b5 = some (ints (hL 7 fun j => if j = k then (o.length : Int) else g' j)) := by rw [← hhp]; exact if_pos rfl
        have hp2o : ∀ i, i ≠ b5 → hp2 i = s.hs.heap i := fun i hi => by rw [← hhp]; exact if_neg hi
        have fm2 : Fm b5 bo hs ⟨hp2, s.hs.nh, s.hs.nt, s.hs.tok, s.hs.mp⟩ := hfm.trans ⟨rfl, fun i h1 h2 => hp2o i h1, rfl, ⟨Nat.le_refl _, fun _ _ h => h⟩⟩
        obtain ⟨y, hs3, hy1, hy2, hy3, hy4⟩ := clV_app hz (by omega) (k : Int) ⟨hp2, s.hs.nh, s.hs.nt, s.hs.tok, s.hs.mp⟩
        have fm3 := fm2.trans (hy4 b5 bo)
        have l6 : aload hp2 false 1 (.ref b6 0) = some (.fn (.func 119) [] [.ptr x, .ref b4 0, .ref b5 0, .ptr (.fn (.func fE) [] caps), .ref b6 0]) := load_one (by rw [← (hF.fm fm2).h6])
        have hih := ih (o ++ [(k : Int)]) y hs3 st' (fun j => if j = k then (o.length : Int) else g' j) hy2 (by simp; omega) (by
            intro a ha
            rcases List.mem_append.1 ha with h | h
            · exact hr a h
            · have := List.mem_singleton.1 h; omega) (by
            rw [List.nodup_append]
            exact ⟨hd, by simp, fun a ha b hb e => hmem (by rw [List.mem_singleton.1 hb] at e; rw [← e]; exact ha)⟩) (hF.fm fm3) (by rw [hy3]; exact hp2b) (by rw [hy3]; simp only; rw [hp2o bo hF.n5o.symm]; exact hbo) hag2
        simp [e0, e3, e5, e31, q52, hmem, alen_of hz, ix, sto, l6, c88, astoAll, sto_in, cel_in, hy1]
        refine At.hc hih ?_ ?_
        · rintro v hs4 ⟨g4, hv, k5, ko, kag, kfm⟩
          injection hv with hv; subst hv
          have hsucc : extT l.length m o (k + 1) = extT l.length m o k ++ extL l.length m (o ++ [(k : Int)]) := by rw [extT_succ, if_neg hmem]
          have hr2 : runE (fitE l step) st (extT l.length m o (k + 1)) = runE (fitE l step) st' (extL l.length m (o ++ [(k : Int)])) := by
            rw [hsucc, runE_app, hrun]; simp
          have hag4 : Agr o g4 := by
            intro j hj
            have := kag j (by simp [hj])
            rw [this, hO_snoc hmem]
            by_cases e : j = k
            · subst e; exact absurd hj hmem
            · simp [e]
          cases hres : (runE (fitE l step) st' (extL l.length m (o ++ [(k : Int)]))).2 with
          | true =>
            simp [w1, e31]
            refine hN (k + 1) _ (by omega) ⟨by omega, ?_⟩
            simp [e0, e1, e2, e3, e4, e5, e30]
            refine ⟨⟨_, ?_, ko⟩, ⟨g4, k5, hag4⟩, fm3.trans kfm⟩
            rw [hr2]
            exact Prod.ext rfl hres
          | false =>
            simp
            have hstop : runE (fitE l step) st (extL l.length (m + 1) o) = runE (fitE l step) st' (extL l.length m (o ++ [(k : Int)])) := by
              obtain ⟨rest, hrest⟩ := extT_pre l.length m o (i := l.length) (k := k + 1) (by omega)
              show runE (fitE l step) st (extT l.length m o l.length) = _
              rw [hrest, runE_app, hr2, if_neg (by rw [hres]; decide)]
            rw [hstop]
            exact At.of ⟨hres, g4, k5, ko, hag4, fm3.trans kfm⟩
        · rintro v hs4 ⟨g4, hv, _⟩; cases hv
    · have hkn : k = l.length := by omega
      subst hkn
      have hE : extL l.length (m + 1) o = extT l.length m o l.length := rfl
      rw [hE, hrun]
      simp
      exact At.of ⟨g', h5', hbo, hag', hfm⟩
end Go.Proofs.YtdcpkgedaflnmaaGreatDoor.Fo
set_option linter.unusedVariables false
set_option linter.unusedSimpArgs false
namespace Go.Proofs.YtdcpkgedaflnmaaGreatDoor.Fo
open Go Fw

/-- all orders of n layers -/
def permsL (n : Nat) : List (List Int) := extL n n []
theorem p59 {σ : Type} {E x : AV} {l : List Int} {bo : Nat} {cell : σ → AV} {step : σ → List Int → σ × Bool} (hx : asI x = some l) (hm : meas l = 0) (cb : Cb E bo l.length cell step) {hs : HS} {st : σ} (ho : hs.heap bo = some [cell st]) (hbo : bo < hs.nh) :
    FCall Tryz.prog 67 [x, E] hs fun e hs' => e = .ret (.tup []) ∧ hs'.heap bo = some [cell (runE (fitE l step) st (permsL l.length)).1] := by
  refine FCall.ofAt CtxOk.nil ok59 (by simp) ?_
  obtain ⟨fE, caps, hE, hcb⟩ := cb.fn
  have hEs : E.sto = true := by rw [hE]; rfl
  have hEc : E.cells = [E] := by rw [hE]; rfl
  have hxs := asI_sto hx
  simp only [A59, R59]
  simp [hEs, hxs, asI_ld hx]
  refine At.hc (p45 hx hm hs) ?_ ?_
  · rintro v hs2 ⟨hv, hsht, hext⟩
    injection hv with hv; subst hv
    have n2 := hext.n2
    obtain ⟨h1, st1, h1b, h1o⟩ : ∃ h1, astore (fun i => if i = hs2.nh then some [.nilptr] else hs2.heap i) 1 (.ref hs2.nh 0) (.ref (hs.nh + 1) 0) = some h1 ∧ h1 hs2.nh = some [.ref (hs.nh + 1) 0] ∧ ∀ k, k ≠ hs2.nh → h1 k = hs2.heap k :=
      ⟨_, store_one (u := .nilptr) (by simp) rfl rfl, by simp, fun k hk => by simp [hk]⟩
    obtain ⟨h2, st2, h2a, h2b, h2o⟩ : ∃ h2, astore (fun i => if i = hs2.nh + 1 + 1 then some [.nilfn] else if i = hs2.nh + 1 then some [.int .i64 0, .int .i64 0, .int .i64 0, .int .i64 0, .int .i64 0, .int .i64 0, .int .i64 0] else h1 i) 1 (.ref (hs2.nh + 1 + 1) 0)
        (.fn (.func 119) [] [.ptr x, .ref hs2.nh 0, .ref (hs2.nh + 1) 0, .ptr E, .ref (hs2.nh + 1 + 1) 0]) = some h2 ∧ h2 (hs2.nh + 1 + 1) = some [.fn (.func 119) [] [.ptr x, .ref hs2.nh 0, .ref (hs2.nh + 1) 0, .ptr E, .ref (hs2.nh + 1 + 1) 0]] ∧
        h2 (hs2.nh + 1) = some (ints (hL 7 fun _ => 0)) ∧ ∀ k, k ≠ hs2.nh + 1 + 1 → k ≠ hs2.nh + 1 → h2 k = h1 k :=
      ⟨_, store_one (u := .nilfn) (by simp) rfl rfl, by simp, by simp; rfl, fun k hk hk2 => by simp [hk, hk2]⟩
    have hold : ∀ k, k < hs2.nh → h2 k = hs2.heap k := fun k hk => by rw [h2o k (by omega) (by omega), h1o k (by omega)]
    have l6 : aload h2 false 1 (.ref (hs2.nh + 1 + 1) 0) = some (.fn (.func 119) [] [.ptr x, .ref hs2.nh 0, .ref (hs2.nh + 1) 0, .ptr E, .ref (hs2.nh + 1 + 1) 0]) := load_one h2a
    simp [st1, st2, l6]
    have hsh2 : Sht ⟨h2, hs2.nh + 1 + 1 + 1, hs2.nt, hs2.tok, hs2.mp⟩ (hs.nh + 1) hs.nh l l.length := by
      obtain ⟨⟨ys, hy, hS⟩, es, he, hM⟩ := hsht
      exact ⟨⟨ys, by simp only; rw [hold _ (by omega)]; exact hy, hS⟩, es, he, hM.keep ⟨Nat.le_refl _, fun _ _ h => h⟩⟩
    have hrun := pvis (p := hs.nh + 1) (j := hs.nh) (b4 := hs2.nh) (b5 := hs2.nh + 1) (b6 := hs2.nh + 1 + 1) hx hm cb l.length [] .nilsl ⟨h2, hs2.nh + 1 + 1 + 1, hs2.nt, hs2.tok, hs2.mp⟩ st (fun _ => 0) rfl (by simp) (by simp) (by simp)
      ⟨by simp only; rw [h2o _ (by omega) (by omega)]; exact h1b, h2a, hsh2, by omega, by omega, by omega, by omega, by omega, by omega, by omega⟩ h2b (by simp only; rw [hold bo (by omega), hext.h.heap bo hbo]; exact ho) (fun k hk => by cases hk)
    refine At.hc hrun ?_ ?_
    · rintro v hs4 ⟨g4, hv, k5, ko, _⟩
      injection hv with hv; subst hv
      simp
      exact At.of ko
    · rintro v hs4 ⟨g4, hv, _⟩; cases hv
  · rintro v hs2 ⟨hv, _⟩; cases hv
/-- that an order is a folding -/
def isF (l : List Int) (f : List UInt8) (o : List Int) : Bool := fitB l (hO o) && decide (crsL (hO o) (l.length - 1) = f)
/-- all foldings -/
def foldL (l : List Int) (f : List UInt8) : List (List Int) := (permsL l.length).filter (isF l f)
/-- what Order, Count and All return -/
def ordV (l : List Int) (f : List UInt8) : AV := if chk l f ≠ 0 then .tup [.nilsl, .int .i64 (chk l f)] else if foldL l f = [] then .tup [.nilsl, .int .i64 14] else .tup [outV 1 (ints ((foldL l f).head?.getD [])), .int .i64 0]
def st60 (n : Nat) (f : List UInt8) (st o : List Int) : List Int × Bool := if crsL (hO o) (n - 1) = f then (o, false) else (st, decide (st = []))
theorem run60 (l : List Int) (f : List UInt8) : ∀ os : List (List Int), (∀ o ∈ os, o ≠ []) → (runE (fitE l (st60 l.length f)) [] os).1 = ((os.filter (isF l f)).head?).getD []
  | [], _ => rfl
  | o :: os, h => by
    have ih := run60 l f os fun o' ho => h o' (by simp [ho])
    have hne := h o (by simp)
    by_cases h1 : fitB l (hO o) = true
    · by_cases h2 : crsL (hO o) (l.length - 1) = f
      · simp [runE, fitE, st60, h1, h2, isF]
      · simp [runE, fitE, st60, h1, h2, isF] at ih ⊢
        exact ih
    · simp [runE, fitE, st60, h1, isF] at ih ⊢
      exact ih
theorem extL_len (n : Nat) : ∀ (m : Nat) (o : List Int), ∀ q ∈ extL n m o, q.length = o.length + m
  | 0, o, q, h => by simp [extL] at h; rw [h]; rfl
  | m + 1, o, q, h => by
    unfold extL at h
    obtain ⟨k, hk, hq⟩ := List.mem_flatMap.1 h
    split at hq
    · cases hq
    · have := extL_len n m _ q hq
      simp at this; omega
theorem perms_ne {n : Nat} (h : 1 ≤ n) : ∀ o ∈ permsL n, o ≠ [] := by
  intro o ho e
  have := extL_len n n [] o ho
  rw [e] at this
  simp at this; omega
theorem nil_out (st : List Int) : abin 2 .eql (outV 1 (ints st)) .nilsl = some (.bool (decide (st = []))) := by
  cases st with
  | nil => rfl
  | cons a r => simp [outV, ints]
/-- the three functions that orders are handed to -/
theorem cb60 {x : AV} {l : List Int} (hx : asI x = some l) (f : List UInt8) (h1 : 1 ≤ l.length) (hl : l.length ≤ 7) (bo : Nat) : Cb (.fn (.func 68) [] [.ptr (.agg [x, .str (bs f)]), .ref bo 0]) bo l.length (fun st => outV 1 (ints st)) (st60 l.length f) := by
  refine ⟨68, _, rfl, fun st o z hs hz hlen ho => ?_⟩
  refine FCall.ofAt C3ok ok60 (by simp) ?_
  have hne : o ≠ [] := by intro e; rw [e] at hlen; simp at hlen; omega
  have h61 := S61_i hz hne (by omega)
  have hone := one_outV o
  have hone2 := one_outV st
  have ld : aload hs.heap false 1 (.ref bo 0) = some (outV 1 (ints st)) := load_one ho
  have nl := nil_out st
  have nl2 := nil_out o
  simp only [List.cons_append, List.nil_append]
  simp only [st60]
  generalize hzs : outV 1 (ints st) = zs at ho ld nl hone2
  by_cases hc : crsL (hO o) (l.length - 1) = f
  · have sto := store_one (v := outV 1 (ints o)) ho hone.st hone.ce
    generalize hzo : outV 1 (ints o) = zo at h61 hone nl2 sto
    have ld2 : aload (fun k => if k = bo then some [zo] else hs.heap k) false 1 (.ref bo 0) = some zo := load_one (by simp)
    simp [A60, R60, hc, h61, sto, ld2, nl2, hne, hzo]
    exact At.of fun b5 => ⟨rfl, fun i h1 h2 => by simp [h2], rfl, ⟨Nat.le_refl _, fun _ _ h => h⟩⟩
  · simp [A60, R60, hc, ld, nl, ho]
    exact At.of ⟨hzs.symm, fun b5 => .refl _ _ _⟩
theorem ordV_plain (l : List Int) (f : List UInt8) : (ordV l f).plain = true := by
  unfold ordV
  split
  · rfl
  · split
    · rfl
    · simp only [AV.plain, plainL, plain_outV, Bool.and_self]
theorem fold_head {l : List Int} {f : List UInt8} (h1 : 1 ≤ l.length) : (runE (fitE l (st60 l.length f)) [] (permsL l.length)).1 = (foldL l f).head?.getD [] := run60 l f _ (perms_ne h1)
theorem head_nil {l : List Int} {f : List UInt8} (h1 : 1 ≤ l.length) : (foldL l f).head?.getD [] = [] ↔ foldL l f = [] := by
  constructor
  · intro h
    cases hf : foldL l f with
    | nil => rfl
    | cons a r =>
      rw [hf] at h
      simp at h
      have : a ∈ foldL l f := by rw [hf]; simp
      exact absurd h (perms_ne h1 a (List.mem_filter.1 this).1)
  · intro h; rw [h]; rfl
theorem p23 {x : AV} {l : List Int} (hx : asI x = some l) (f : List UInt8) : PCall Tryz.prog 27 [.agg [x, .str (bs f)]] (ordV l f) := by
  refine PCall.of C3ok ok23 (by simp) (ordV_plain l f) fun hs hb => ?_
  have c19 : C3 64 [.agg [x, .str (bs f)]] = some (.int .i64 (chk l f)) := chk_i hx
  by_cases hc : chk l f = 0
  rotate_left
  · simp [A23, R23, c19, hc, ordV]
  obtain ⟨hm, hfl, _⟩ := chk_0 hc
  obtain ⟨m1, m2, m3, m4⟩ := meas_0 hm
  simp only [A23, R23]
  simp [c19, hc, asI_ld hx]
  have hv := p59 (hs := ⟨fun i => if i = hs.nh then some [.nilsl] else hs.heap i, hs.nh + 1, hs.nt, hs.tok, hs.mp⟩) (st := []) hx hm (cb60 hx f m1 m2 hs.nh) (by simp; rfl) (by simp)
  rw [fold_head m1] at hv
  refine At.hc hv ?_ ?_
  · rintro v hs2 ⟨hv, ho⟩
    injection hv with hv; subst hv
    have ld : aload hs2.heap false 1 (.ref hs.nh 0) = some (outV 1 (ints ((foldL l f).head?.getD []))) := load_one ho
    have nl := nil_out ((foldL l f).head?.getD [])
    have hsh := share_outV ((foldL l f).head?.getD [])
    by_cases he : foldL l f = []
    · have hq := (head_nil m1).2 he
      rw [hq, show outV 1 (ints []) = .nilsl from rfl] at ld
      have hov : ordV l f = .tup [.nilsl, .int .i64 14] := by unfold ordV; rw [if_neg (by simp [hc]), if_pos he]
      rw [hov]
      simp [ld]
    · have hq : ¬ (foldL l f).head?.getD [] = [] := fun e => he ((head_nil m1).1 e)
      have hov : ordV l f = .tup [outV 1 (ints ((foldL l f).head?.getD [])), .int .i64 0] := by unfold ordV; rw [if_neg (by simp [hc]), if_neg he]
      rw [hov]
      generalize (foldL l f).head?.getD [] = q at ld nl hq hsh ⊢
      generalize outV 1 (ints q) = z at ld nl hsh ⊢
      simp [ld, nl, hq, hsh]
  · rintro v hs2 ⟨hv, _⟩; cases hv
end Go.Proofs.YtdcpkgedaflnmaaGreatDoor.Fo
