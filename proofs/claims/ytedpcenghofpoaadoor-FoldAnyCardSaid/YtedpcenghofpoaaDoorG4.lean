/-
  All orders of layers, with a function that each of them is handed to: the walk. Own work.
  All orders of layers; the smallest folding and numbers of foldings: the walks. Own work.
  Plain: the next order, by pivots; evaluated in the kernel for all orders of up to 7 layers. Own work.
  The reference's orders: the walk. Own work.
  The reference's foldings, smallest folding, and numbers of foldings. Own work.
-/
import Derived.Test.YtedpcenghofpoaaDoorG3
import Derived.Test.YtedpcenghofpoaaDoorFx4
set_option linter.unusedVariables false
set_option linter.unusedSimpArgs false
namespace Go.Proofs.YtedpcenghofpoaaDoor
open Go Fw

/-- orders of n layers that begin with one, m of them missing -/
def extL (n : Nat) : Nat → List Int → List (List Int)
  | 0, o => [o]
  | m + 1, o => (List.range n).flatMap fun k : Nat => if (k : Int) ∈ o then [] else extL n m (o ++ [(k : Int)])
/-- the first of them -/
def extT (n m : Nat) (o : List Int) (i : Nat) : List (List Int) := (List.range i).flatMap fun k : Nat => if (k : Int) ∈ o then [] else extL n m (o ++ [(k : Int)])
theorem extT_succ (n m : Nat) (o : List Int) (i : Nat) : extT n m o (i + 1) = extT n m o i ++ (if (i : Int) ∈ o then [] else extL n m (o ++ [(i : Int)])) := by
  unfold extT
  rw [List.range_succ, List.flatMap_append]
  simp
theorem extT_pre (n m : Nat) (o : List Int) {k : Nat} : ∀ {i : Nat}, k ≤ i → ∃ rest, extT n m o i = extT n m o k ++ rest
  | 0, h => ⟨[], by have : k = 0 := by omega
                    rw [this, List.append_nil]⟩
  | i + 1, h => by
    by_cases e : k = i + 1
    · exact ⟨[], by rw [e, List.append_nil]⟩
    · obtain ⟨r, hr⟩ := extT_pre n m o (k := k) (i := i) (by omega)
      exact ⟨r ++ _, by rw [extT_succ, hr, List.append_assoc]⟩
/-- one after the other, until one says no -/
def runE {σ : Type} (step : σ → List Int → σ × Bool) : σ → List (List Int) → σ × Bool
  | st, [] => (st, true)
  | st, o :: os => if (step st o).2 = true then runE step (step st o).1 os else ((step st o).1, false)
theorem runE_app {σ : Type} (step : σ → List Int → σ × Bool) : ∀ (a b : List (List Int)) (st : σ), runE step st (a ++ b) = if (runE step st a).2 = true then runE step (runE step st a).1 b else runE step st a
  | [], b, st => by simp [runE]
  | o :: a, b, st => by
    by_cases h : (step st o).2 = true
    · simp only [List.cons_append, runE, h, if_true]
      exact runE_app step a b _
    · simp [List.cons_append, runE, h]
/-- an order holds each number -/
theorem perm_all {o : List Int} {n : Nat} (hl : o.length = n) (hr : ∀ a ∈ o, 0 ≤ a ∧ a < n) (hd : o.Nodup) {k : Nat} (hk : k < n) : (k : Int) ∈ o := by
  apply Classical.byContradiction
  intro hno
  have hd2 : (o.map Int.toNat).Nodup := by
    rw [List.nodup_iff_pairwise_ne, List.pairwise_map]
    refine (List.nodup_iff_pairwise_ne.1 hd).imp_of_mem fun {a b} ha hb hab e => hab ?_
    have h1 := hr a ha
    have h2 := hr b hb
    omega
  have hnk : k ∉ o.map Int.toNat := by
    intro h
    obtain ⟨a, ha, e⟩ := List.mem_map.1 h
    have := hr a ha
    exact hno (by rw [← e, Int.toNat_of_nonneg this.1]; exact ha)
  have := nodup_le (n := n) (l := k :: o.map Int.toNat) (List.nodup_cons.2 ⟨hnk, hd2⟩) (by
    intro i hi
    rcases List.mem_cons.1 hi with rfl | hi
    · exact hk
    · obtain ⟨a, ha, e⟩ := List.mem_map.1 hi
      have := hr a ha
      omega)
  simp at this
  omega
/-- those orders that fit -/
def fitE {σ : Type} (l : List Int) (step : σ → List Int → σ × Bool) (st : σ) (o : List Int) : σ × Bool := if fitB l (hO o) = true then step st o else (st, true)
theorem fitB_cong {l : List Int} {h g : Nat → Int} (e : ∀ k, k < l.length → h k = g k) : fitB l h = fitB l g := by
  unfold fitB
  apply Bool.eq_iff_iff.2
  rw [List.all_eq_true, List.all_eq_true]
  have key : ∀ i, i < l.length - 1 → fitI l h i = fitI l g i := by
    intro i hi
    have ins_c : ∀ k, k < l.length → ins h k i = ins g k i := fun k hk => by unfold ins; rw [e k hk, e i (by omega), e (i + 1) (by omega)]
    unfold fitI
    congr 1
    · apply Bool.eq_iff_iff.2
      rw [List.all_eq_true, List.all_eq_true]
      constructor
      · intro h1 k hk
        have := h1 k hk
        unfold thrB at *
        rwa [ins_c k (List.mem_range.1 hk)] at this
      · intro h1 k hk
        have := h1 k hk
        unfold thrB at *
        rwa [ins_c k (List.mem_range.1 hk)]
    · rw [parR_all, parR_all]
      apply Bool.eq_iff_iff.2
      rw [List.all_eq_true, List.all_eq_true]
      constructor
      · intro h1 k hk
        have := h1 k hk
        have hk' := List.mem_range.1 hk
        unfold parR at *
        rwa [ins_c k (by omega), ins_c (k + 1) (by omega)] at this
      · intro h1 k hk
        have := h1 k hk
        have hk' := List.mem_range.1 hk
        unfold parR at *
        rwa [ins_c k (by omega), ins_c (k + 1) (by omega)]
  constructor
  · intro h1 i hi
    rw [← key i (List.mem_range.1 hi)]; exact h1 i hi
  · intro h1 i hi
    rw [key i (List.mem_range.1 hi)]; exact h1 i hi
theorem crsL_cong {n : Nat} {h g : Nat → Int} (e : ∀ k, k < n + 1 → h k = g k) : crsL h n = crsL g n := by
  unfold crsL
  refine List.map_congr_left fun i hi => ?_
  have := List.mem_range.1 hi
  unfold crs
  rw [e i (by omega), e (i + 1) (by omega)]

/-- memory, but for two blocks -/
structure Fm (b5 bo : Nat) (hs hs' : HS) : Prop where
  nh : hs'.nh = hs.nh
  hp : ∀ i, i ≠ b5 → i ≠ bo → hs'.heap i = hs.heap i
  mp : hs'.mp = hs.mp
  tk : KeepT hs hs'
theorem Fm.refl (b5 bo : Nat) (hs : HS) : Fm b5 bo hs hs := ⟨rfl, fun _ _ _ => rfl, rfl, .refl _⟩
theorem Fm.trans {b5 bo : Nat} {a b c : HS} (h : Fm b5 bo a b) (k : Fm b5 bo b c) : Fm b5 bo a c :=
  ⟨k.nh.trans h.nh, fun i h1 h2 => (k.hp i h1 h2).trans (h.hp i h1 h2), k.mp.trans h.mp, h.tk.trans k.tk⟩
theorem Sht.fm {b5 bo p j n : Nat} {l : List Int} {hs hs' : HS} (h : Sht hs p j l n) (f : Fm b5 bo hs hs') (h1 : p ≠ b5) (h2 : p ≠ bo) : Sht hs' p j l n := by
  obtain ⟨⟨ys, hy, hS⟩, es, he, hM⟩ := h
  exact ⟨⟨ys, by rw [f.hp p h1 h2]; exact hy, hS⟩, es, by rw [f.mp]; exact he, hM.keep f.tk⟩
/-- what is handed each order -/
structure Cb {σ : Type} (E : AV) (bo : Nat) (n : Nat) (cell : σ → AV) (step : σ → List Int → σ × Bool) : Prop where
  fn : ∃ fE caps, E = .fn (.func fE) [] caps ∧ ∀ st o z hs, asI z = some o → o.length = n → hs.heap bo = some [cell st] →
    FCall Tryd.prog fE ([z, .str (bs (crsL (hO o) (n - 1)))] ++ caps) hs fun e hs' => e = .ret (.bool (step st o).2) ∧ hs'.heap bo = some [cell (step st o).1] ∧ ∀ b5, Fm b5 bo hs hs'
/-- what does not change -/
structure Fix (hs : HS) (E : AV) (x : AV) (l : List Int) (b4 b5 b6 bo p j : Nat) : Prop where
  h4 : hs.heap b4 = some [.ref p 0]
  h6 : hs.heap b6 = some [.fn (.func 87) [] [.ptr x, .ref b4 0, .ref b5 0, .ptr E, .ref b6 0]]
  sh : Sht hs p j l l.length
  n45 : b4 ≠ b5
  n65 : b6 ≠ b5
  np5 : p ≠ b5
  n5o : b5 ≠ bo
  n4o : b4 ≠ bo
  n6o : b6 ≠ bo
  npo : p ≠ bo
theorem Fix.fm {hs hs' : HS} {E x : AV} {l : List Int} {b4 b5 b6 bo p j : Nat} (h : Fix hs E x l b4 b5 b6 bo p j) (f : Fm b5 bo hs hs') : Fix hs' E x l b4 b5 b6 bo p j :=
  ⟨by rw [f.hp b4 h.n45 h.n4o]; exact h.h4, by rw [f.hp b6 h.n65 h.n6o]; exact h.h6, h.sh.fm f h.np5 h.npo, h.n45, h.n65, h.np5, h.n5o, h.n4o, h.n6o, h.npo⟩

def clV : AV → AV
  | .sl sz xs _ => .sl sz xs .exact
  | x => x
theorem clV_plain {z : AV} {o : List Int} (h : asI z = some o) : (clV z).plain = true := by
  rcases asI_inv h with ⟨rfl, _⟩ | ⟨c, rfl⟩
  · rfl
  · exact plain_ints o
theorem p88 {z : AV} {o : List Int} (hz : asI z = some o) : PCall Tryd.prog 88 [z] (clV z) := by
  refine PCall.of CtxOk.nil ok88 (by simp) (clV_plain hz) fun hs hb => ?_
  have hs1 := slice_clip (sz := 1) (asI_asV hz) (k := .i64)
  rw [ints_len] at hs1
  have hsh : (clipV z).share = clV z := by
    rcases asI_inv hz with ⟨rfl, _⟩ | ⟨c, rfl⟩
    · rfl
    · simp only [clipV, clV, share_sl, share_ints]; rfl
  simp [A88, R88, alen_of hz, hs1, hsh]
theorem keepT_new (hs : HS) : KeepT hs { hs with nt := hs.nt + 1, tok := fun t => if t = hs.nt then true else hs.tok t } :=
  ⟨by simp, fun k hk h => by show (if k = hs.nt then true else hs.tok k) = true; rw [if_neg (by omega)]; exact h⟩
theorem clV_app {z : AV} {o : List Int} (hz : asI z = some o) (hl : o.length ≤ 1000000) (k : Int) (hs : HS) : ∃ y hs', aappend 1 hs (clV z) (.sl 1 [.int .i64 k] .exact) = some (y, hs') ∧ asI y = some (o ++ [k]) ∧ hs'.heap = hs.heap ∧ ∀ b5 bo, Fm b5 bo hs hs' := by
  have hi : ints o ++ [.int .i64 k] = ints (o ++ [k]) := by simp [ints]
  rcases asI_inv hz with ⟨rfl, rfl⟩ | ⟨c, rfl⟩
  · refine ⟨.sl 1 [.int .i64 k] (.own hs.nt), { hs with nt := hs.nt + 1, tok := fun t => if t = hs.nt then true else hs.tok t }, by rw [show clV .nilsl = .nilsl from rfl, append_eq (xs := []) rfl (q := .sl 1 [.int .i64 k] .exact) rfl rfl rfl (by simp), if_neg (by simp)]; rfl, rfl, rfl, fun b5 bo => ⟨rfl, fun _ _ _ => rfl, rfl, keepT_new hs⟩⟩
  · refine ⟨.sl 1 (ints o ++ [.int .i64 k]) (.own hs.nt), { hs with nt := hs.nt + 1, tok := fun t => if t = hs.nt then true else hs.tok t }, by rw [show clV (.sl 1 (ints o) c) = .sl 1 (ints o) .exact from rfl, append_eq (xs := ints o) rfl (q := .sl 1 [.int .i64 k] .exact) rfl rfl rfl (by simp [ints]; omega), if_neg (by simp)]; rfl, ?_, rfl, fun b5 bo => ⟨rfl, fun _ _ _ => rfl, rfl, keepT_new hs⟩⟩
    rw [hi]
    exact asI_sl (by simp; omega)
/-- heights agree with an order -/
def Agr (o : List Int) (g : Nat → Int) : Prop := ∀ k : Nat, (k : Int) ∈ o → g k = hO o k
theorem pvis {σ : Type} {E x : AV} {l : List Int} {b4 b5 b6 bo p j : Nat} {cell : σ → AV} {step : σ → List Int → σ × Bool} (hx : asI x = some l) (hm : meas l = 0) (cb : Cb E bo l.length cell step) :
    ∀ (m : Nat) (o : List Int) (z : AV) (hs : HS) (st : σ) (g : Nat → Int), asI z = some o → o.length + m = l.length → (∀ a ∈ o, 0 ≤ a ∧ a < l.length) → o.Nodup → Fix hs E x l b4 b5 b6 bo p j →
      hs.heap b5 = some (ints (hL 7 g)) → hs.heap bo = some [cell st] → Agr o g →
      FCall Tryd.prog 87 [z, .ptr x, .ref b4 0, .ref b5 0, .ptr E, .ref b6 0] hs fun e hs' => ∃ g', e = .ret (.bool (runE (fitE l step) st (extL l.length m o)).2) ∧ hs'.heap b5 = some (ints (hL 7 g')) ∧ hs'.heap bo = some [cell (runE (fitE l step) st (extL l.length m o)).1] ∧ Agr o g' ∧ Fm b5 bo hs hs' := by
  obtain ⟨m1, m2, m3, m4⟩ := meas_0 hm
  obtain ⟨fE, caps, rfl, hcb⟩ := cb.fn
  intro m
  induction m with
  | zero =>
    intro o z hs st g hz hlen hr hd hF h5 ho hag
    have hlen' : o.length = l.length := by omega
    have hall : ∀ k : Nat, k < l.length → g k = hO o k := fun k hk => hag k (perm_all hlen' hr hd hk)
    have hfit : fitB l g = fitB l (hO o) := fitB_cong hall
    have hcrs : crsL g (l.length - 1) = crsL (hO o) (l.length - 1) := crsL_cong fun k hk => hall k (by omega)
    obtain ⟨C, hC, c53, hne⟩ := ctx_pt C8ok 53 [hV g, .int .i64 (l.length : Int)] _ (p53 g (by omega) (by omega))
    rw [hcrs] at c53
    refine FCall.ofAt hC ok87 (by simp) ?_
    have e4 : aload hs.heap false 1 (.ref b4 0) = some (.ref p 0) := load_one hF.h4
    have e5 : aload hs.heap true 7 (.ref b5 0) = some (hV g) := ld7 h5
    have p54' := p54 hm g hF.sh
    rw [hfit] at p54'
    have hst := hV_sto g
    generalize hV g = H at e5 c53 p54' hst
    simp only [A87, R87]
    simp [alen_of hz, asI_ld hx, alen_of hx, hlen', e4, e5]
    refine At.hc p54' ?_ ?_
    · rintro v hs2 ⟨hv, rfl⟩
      injection hv with hv; subst hv
      have hrun : runE (fitE l step) st (extL l.length 0 o) = fitE l step st o := by
        simp only [extL, runE]
        split
        · rename_i h; rw [← h]
        · rename_i h; rw [Bool.not_eq_true] at h; rw [← h]
      rw [hrun]
      unfold fitE
      cases hb : fitB l (hO o) with
      | false =>
        simp
        exact At.of ⟨g, h5, ho, hag, .refl _ _ _⟩
      | true =>
        simp [lpf, e5, asI_ld hx, alen_of hx, c53]
        refine At.hc (hcb st o z hs2 hz hlen' ho) ?_ ?_
        · rintro v hs3 ⟨hv, ho3, hfm⟩
          injection hv with hv; subst hv
          simp
          refine At.of ⟨g, ?_, ho3, hag, hfm b5⟩
          rw [(hfm (b5 + 1)).hp b5 (by omega) hF.n5o]
          exact h5
        · rintro v hs3 ⟨hv, _⟩; cases hv
    · rintro v hs2 ⟨hv, _⟩; cases hv
  | succ m ih =>
    intro o z hs st g hz hlen hr hd hF h5 ho hag
    obtain ⟨C, hC, c88, hne⟩ := ctx_pt C8ok 88 [z] _ (p88 hz)
    have c52 : ∀ n : Int, C 52 [z, .int .i64 n] = some (.bool (decide (n ∈ o))) := fun n => by rw [hne 52 (by decide)]; exact S52_i hz n
    refine FCall.ofAt hC ok87 (by simp) ?_
    have hnl : ¬ (o.length : Int) = (l.length : Int) := by omega
    have hol : (o.length : Int) = (o.length : Int) := rfl
    simp only [A87, R87]
    simp [alen_of hz, asI_ld hx, alen_of hx, hnl, show ¬ o.length = l.length by omega]
    refine At.loop (fun (k : Nat) s => k ≤ l.length ∧ s.env 0 = z ∧ s.env 1 = .ptr x ∧ s.env 2 = .ref b4 0 ∧ s.env 3 = .ref b5 0 ∧ s.env 4 = .ptr (.fn (.func fE) [] caps) ∧ s.env 5 = .ref b6 0 ∧ s.env 30 = .int .i64 (l.length : Int) ∧ s.env 31 = .int .i64 (k : Int) ∧
      (∃ st', runE (fitE l step) st (extT l.length m o k) = (st', true) ∧ s.hs.heap bo = some [cell st']) ∧ (∃ g', s.hs.heap b5 = some (ints (hL 7 g')) ∧ Agr o g') ∧ Fm b5 bo hs s.hs) (fun k => l.length - k) 0 ?_ ?_
    · simp
      exact ⟨⟨st, rfl, ho⟩, ⟨g, h5, hag⟩, .refl _ _ _⟩
    rintro N k s hN ⟨hk, e0, e1, e2, e3, e4, e5, e30, e31, ⟨st', hrun, hbo⟩, ⟨g', h5', hag'⟩, hfm⟩
    simp [e30, e31]
    refine At.dec (fun hlt => ?_) (fun hlt => ?_)
    · have hk' : k < l.length := by omega
      have w1 := wrap_nat1 (show k < _ by omega)
      have q52 := c52 (k : Int)
      by_cases hmem : (k : Int) ∈ o
      · simp [e0, e31, q52, hmem, w1]
        refine hN (k + 1) _ (by omega) ⟨by omega, ?_⟩
        simp [e0, e1, e2, e3, e4, e5, e30]
        refine ⟨⟨st', ?_, hbo⟩, ⟨g', h5', hag'⟩, hfm⟩
        rw [extT_succ, if_pos hmem, List.append_nil]; exact hrun
      · have ix : aidxA 7 false 1 (.ref b5 0) (.int .i64 (k : Int)) = some (.ref b5 k) := by simp [aidxA, afaddr]; omega
        have sto : astore s.hs.heap 1 (.ref b5 k) (.int .i64 (o.length : Int)) = some (fun i => if i = b5 then some ((ints (hL 7 g')).set k (.int .i64 (o.length : Int))) else s.hs.heap i) := store_cell h5' (by rw [ints_len, hL_len]; omega) rfl
        rw [hL_set (by omega)] at sto
        have hag2 : Agr (o ++ [(k : Int)]) (fun j => if j = k then (o.length : Int) else g' j) := by
          intro j hj
          rw [hO_snoc hmem]
          by_cases e : j = k
          · simp [e]
          · simp only [e, if_false]
            refine hag' j ?_
            rcases List.mem_append.1 hj with h | h
            · exact h
            · exact absurd (List.mem_singleton.1 h) (by omega)
        generalize hhp : (fun i => if i = b5 then some (ints (hL 7 fun j => if j = k then (o.length : Int) else g' j)) else s.hs.heap i) = hp2 at sto
        have hp2b : hp2 b5 = some (ints (hL 7 fun j => if j = k then (o.length : Int) else g' j)) := by rw [← hhp]; exact if_pos rfl
        have hp2o : ∀ i, i ≠ b5 → hp2 i = s.hs.heap i := fun i hi => by rw [← hhp]; exact if_neg hi
        have fm2 : Fm b5 bo hs ⟨hp2, s.hs.nh, s.hs.nt, s.hs.tok, s.hs.mp⟩ := hfm.trans ⟨rfl, fun i h1 h2 => hp2o i h1, rfl, ⟨Nat.le_refl _, fun _ _ h => h⟩⟩
        obtain ⟨y, hs3, hy1, hy2, hy3, hy4⟩ := clV_app hz (by omega) (k : Int) ⟨hp2, s.hs.nh, s.hs.nt, s.hs.tok, s.hs.mp⟩
        have fm3 := fm2.trans (hy4 b5 bo)
        have l6 : aload hp2 false 1 (.ref b6 0) = some (.fn (.func 87) [] [.ptr x, .ref b4 0, .ref b5 0, .ptr (.fn (.func fE) [] caps), .ref b6 0]) := load_one (by rw [← (hF.fm fm2).h6])
        have hih := ih (o ++ [(k : Int)]) y hs3 st' (fun j => if j = k then (o.length : Int) else g' j) hy2 (by simp; omega) (by
            intro a ha
            rcases List.mem_append.1 ha with h | h
            · exact hr a h
            · have := List.mem_singleton.1 h; omega) (by
            rw [List.nodup_append]
            exact ⟨hd, by simp, fun a ha b hb e => hmem (by rw [List.mem_singleton.1 hb] at e; rw [← e]; exact ha)⟩) (hF.fm fm3) (by rw [hy3]; exact hp2b) (by rw [hy3]; simp only; rw [hp2o bo hF.n5o.symm]; exact hbo) hag2
        simp [e0, e3, e5, e31, q52, hmem, alen_of hz, ix, sto, l6, c88, astoAll, sto_in, cel_in, hy1]
        refine At.hc hih ?_ ?_
        · rintro v hs4 ⟨g4, hv, k5, ko, kag, kfm⟩
          injection hv with hv; subst hv
          have hsucc : extT l.length m o (k + 1) = extT l.length m o k ++ extL l.length m (o ++ [(k : Int)]) := by rw [extT_succ, if_neg hmem]
          have hr2 : runE (fitE l step) st (extT l.length m o (k + 1)) = runE (fitE l step) st' (extL l.length m (o ++ [(k : Int)])) := by
            rw [hsucc, runE_app, hrun]; simp
          have hag4 : Agr o g4 := by
            intro j hj
            have := kag j (by simp [hj])
            rw [this, hO_snoc hmem]
            by_cases e : j = k
            · subst e; exact absurd hj hmem
            · simp [e]
          cases hres : (runE (fitE l step) st' (extL l.length m (o ++ [(k : Int)]))).2 with
          | true =>
            simp [w1, e31]
            refine hN (k + 1) _ (by omega) ⟨by omega, ?_⟩
            simp [e0, e1, e2, e3, e4, e5, e30]
            refine ⟨⟨_, ?_, ko⟩, ⟨g4, k5, hag4⟩, fm3.trans kfm⟩
            rw [hr2]
            exact Prod.ext rfl hres
          | false =>
            simp
            have hstop : runE (fitE l step) st (extL l.length (m + 1) o) = runE (fitE l step) st' (extL l.length m (o ++ [(k : Int)])) := by
              obtain ⟨rest, hrest⟩ := extT_pre l.length m o (i := l.length) (k := k + 1) (by omega)
              show runE (fitE l step) st (extT l.length m o l.length) = _
              rw [hrest, runE_app, hr2, if_neg (by rw [hres]; decide)]
            rw [hstop]
            exact At.of ⟨hres, g4, k5, ko, hag4, fm3.trans kfm⟩
        · rintro v hs4 ⟨g4, hv, _⟩; cases hv
    · have hkn : k = l.length := by omega
      subst hkn
      have hE : extL l.length (m + 1) o = extT l.length m o l.length := rfl
      rw [hE, hrun]
      simp
      exact At.of ⟨g', h5', hbo, hag', hfm⟩
end Go.Proofs.YtedpcenghofpoaaDoor
set_option linter.unusedVariables false
set_option linter.unusedSimpArgs false
namespace Go.Proofs.YtedpcenghofpoaaDoor
open Go Fw

/-- all orders of n layers -/
def permsL (n : Nat) : List (List Int) := extL n n []
theorem p59 {σ : Type} {E x : AV} {l : List Int} {bo : Nat} {cell : σ → AV} {step : σ → List Int → σ × Bool} (hx : asI x = some l) (hm : meas l = 0) (cb : Cb E bo l.length cell step) {hs : HS} {st : σ} (ho : hs.heap bo = some [cell st]) (hbo : bo < hs.nh) :
    FCall Tryd.prog 59 [x, E] hs fun e hs' => e = .ret (.tup []) ∧ hs'.heap bo = some [cell (runE (fitE l step) st (permsL l.length)).1] := by
  refine FCall.ofAt CtxOk.nil ok59 (by simp) ?_
  obtain ⟨fE, caps, hE, hcb⟩ := cb.fn
  have hEs : E.sto = true := by rw [hE]; rfl
  have hEc : E.cells = [E] := by rw [hE]; rfl
  have hxs := asI_sto hx
  simp only [A59, R59]
  simp [hEs, hxs, asI_ld hx]
  refine At.hc (p45 hx hm hs) ?_ ?_
  · rintro v hs2 ⟨hv, hsht, hext⟩
    injection hv with hv; subst hv
    have n2 := hext.n2
    obtain ⟨h1, st1, h1b, h1o⟩ : ∃ h1, astore (fun i => if i = hs2.nh then some [.nilptr] else hs2.heap i) 1 (.ref hs2.nh 0) (.ref (hs.nh + 1) 0) = some h1 ∧ h1 hs2.nh = some [.ref (hs.nh + 1) 0] ∧ ∀ k, k ≠ hs2.nh → h1 k = hs2.heap k :=
      ⟨_, store_one (u := .nilptr) (by simp) rfl rfl, by simp, fun k hk => by simp [hk]⟩
    obtain ⟨h2, st2, h2a, h2b, h2o⟩ : ∃ h2, astore (fun i => if i = hs2.nh + 1 + 1 then some [.nilfn] else if i = hs2.nh + 1 then some [.int .i64 0, .int .i64 0, .int .i64 0, .int .i64 0, .int .i64 0, .int .i64 0, .int .i64 0] else h1 i) 1 (.ref (hs2.nh + 1 + 1) 0)
        (.fn (.func 87) [] [.ptr x, .ref hs2.nh 0, .ref (hs2.nh + 1) 0, .ptr E, .ref (hs2.nh + 1 + 1) 0]) = some h2 ∧ h2 (hs2.nh + 1 + 1) = some [.fn (.func 87) [] [.ptr x, .ref hs2.nh 0, .ref (hs2.nh + 1) 0, .ptr E, .ref (hs2.nh + 1 + 1) 0]] ∧
        h2 (hs2.nh + 1) = some (ints (hL 7 fun _ => 0)) ∧ ∀ k, k ≠ hs2.nh + 1 + 1 → k ≠ hs2.nh + 1 → h2 k = h1 k :=
      ⟨_, store_one (u := .nilfn) (by simp) rfl rfl, by simp, by simp; rfl, fun k hk hk2 => by simp [hk, hk2]⟩
    have hold : ∀ k, k < hs2.nh → h2 k = hs2.heap k := fun k hk => by rw [h2o k (by omega) (by omega), h1o k (by omega)]
    have l6 : aload h2 false 1 (.ref (hs2.nh + 1 + 1) 0) = some (.fn (.func 87) [] [.ptr x, .ref hs2.nh 0, .ref (hs2.nh + 1) 0, .ptr E, .ref (hs2.nh + 1 + 1) 0]) := load_one h2a
    simp [st1, st2, l6]
    have hsh2 : Sht ⟨h2, hs2.nh + 1 + 1 + 1, hs2.nt, hs2.tok, hs2.mp⟩ (hs.nh + 1) hs.nh l l.length := by
      obtain ⟨⟨ys, hy, hS⟩, es, he, hM⟩ := hsht
      exact ⟨⟨ys, by simp only; rw [hold _ (by omega)]; exact hy, hS⟩, es, he, hM.keep ⟨Nat.le_refl _, fun _ _ h => h⟩⟩
    have hrun := pvis (p := hs.nh + 1) (j := hs.nh) (b4 := hs2.nh) (b5 := hs2.nh + 1) (b6 := hs2.nh + 1 + 1) hx hm cb l.length [] .nilsl ⟨h2, hs2.nh + 1 + 1 + 1, hs2.nt, hs2.tok, hs2.mp⟩ st (fun _ => 0) rfl (by simp) (by simp) (by simp)
      ⟨by simp only; rw [h2o _ (by omega) (by omega)]; exact h1b, h2a, hsh2, by omega, by omega, by omega, by omega, by omega, by omega, by omega⟩ h2b (by simp only; rw [hold bo (by omega), hext.h.heap bo hbo]; exact ho) (fun k hk => by cases hk)
    refine At.hc hrun ?_ ?_
    · rintro v hs4 ⟨g4, hv, k5, ko, _⟩
      injection hv with hv; subst hv
      simp
      exact At.of ko
    · rintro v hs4 ⟨g4, hv, _⟩; cases hv
  · rintro v hs2 ⟨hv, _⟩; cases hv
/-- that an order is a folding -/
def isF (l : List Int) (f : List UInt8) (o : List Int) : Bool := fitB l (hO o) && decide (crsL (hO o) (l.length - 1) = f)
/-- all foldings -/
def foldL (l : List Int) (f : List UInt8) : List (List Int) := (permsL l.length).filter (isF l f)
def flatL (l : List Int) : List (List Int) := (permsL l.length).filter fun o => fitB l (hO o)
/-- what Order, Count and All return -/
def ordV (l : List Int) (f : List UInt8) : AV := if chk l f ≠ 0 then .tup [.nilsl, .int .i64 (chk l f)] else if foldL l f = [] then .tup [.nilsl, .int .i64 14] else .tup [outV 1 (ints ((foldL l f).head?.getD [])), .int .i64 0]
def cntV (l : List Int) (f : List UInt8) : AV := if chk l f ≠ 0 then .tup [.int .i64 0, .int .i64 (chk l f)] else .tup [.int .i64 ((foldL l f).length : Int), .int .i64 0]
def allV (l : List Int) : AV := if meas l ≠ 0 then .tup [.int .i64 0, .int .i64 (meas l)] else .tup [.int .i64 ((flatL l).length : Int), .int .i64 0]
def st60 (n : Nat) (f : List UInt8) (st o : List Int) : List Int × Bool := if crsL (hO o) (n - 1) = f then (o, false) else (st, decide (st = []))
def st63 (n : Nat) (f : List UInt8) (k : Nat) (o : List Int) : Nat × Bool := if crsL (hO o) (n - 1) = f then (k + 1, true) else (k, true)
def st64 (k : Nat) (o : List Int) : Nat × Bool := (k + 1, true)
theorem run60 (l : List Int) (f : List UInt8) : ∀ os : List (List Int), (∀ o ∈ os, o ≠ []) → (runE (fitE l (st60 l.length f)) [] os).1 = ((os.filter (isF l f)).head?).getD []
  | [], _ => rfl
  | o :: os, h => by
    have ih := run60 l f os fun o' ho => h o' (by simp [ho])
    have hne := h o (by simp)
    by_cases h1 : fitB l (hO o) = true
    · by_cases h2 : crsL (hO o) (l.length - 1) = f
      · simp [runE, fitE, st60, h1, h2, isF]
      · simp [runE, fitE, st60, h1, h2, isF] at ih ⊢
        exact ih
    · simp [runE, fitE, st60, h1, isF] at ih ⊢
      exact ih
theorem run63 (l : List Int) (f : List UInt8) : ∀ (os : List (List Int)) (k : Nat), (runE (fitE l (st63 l.length f)) k os).1 = k + (os.filter (isF l f)).length
  | [], k => rfl
  | o :: os, k => by
    by_cases h1 : fitB l (hO o) = true
    · by_cases h2 : crsL (hO o) (l.length - 1) = f
      · have ih := run63 l f os (k + 1)
        simp [runE, fitE, st63, h1, h2, isF] at ih ⊢
        rw [ih]; omega
      · have ih := run63 l f os k
        simp [runE, fitE, st63, h1, h2, isF] at ih ⊢
        exact ih
    · have ih := run63 l f os k
      simp [runE, fitE, st63, h1, isF] at ih ⊢
      exact ih
theorem run64 (l : List Int) : ∀ (os : List (List Int)) (k : Nat), (runE (fitE l st64) k os).1 = k + (os.filter fun o => fitB l (hO o)).length
  | [], k => rfl
  | o :: os, k => by
    by_cases h1 : fitB l (hO o) = true
    · have ih := run64 l os (k + 1)
      simp [runE, fitE, st64, h1] at ih ⊢
      rw [ih]; omega
    · have ih := run64 l os k
      simp [runE, fitE, st64, h1] at ih ⊢
      exact ih
theorem extL_le (n : Nat) : ∀ (m : Nat) (o : List Int), (extL n m o).length ≤ n ^ m
  | 0, o => by simp [extL]
  | m + 1, o => by
    have key : ∀ i, (extT n m o i).length ≤ i * n ^ m := by
      intro i
      induction i with
      | zero => simp [extT]
      | succ i ih =>
        rw [extT_succ, List.length_append, Nat.succ_mul]
        split
        · simp; omega
        · have := extL_le n m (o ++ [(i : Int)])
          omega
    show (extT n m o n).length ≤ _
    rw [Nat.pow_succ, Nat.mul_comm]
    exact key n
theorem perms_len {n : Nat} (h : n ≤ 7) : (permsL n).length ≤ 823543 := by
  refine Nat.le_trans (extL_le n n []) ?_
  match n, h with
  | 0, _ => decide
  | 1, _ => decide
  | 2, _ => decide
  | 3, _ => decide
  | 4, _ => decide
  | 5, _ => decide
  | 6, _ => decide
  | 7, _ => decide
theorem extL_len (n : Nat) : ∀ (m : Nat) (o : List Int), ∀ q ∈ extL n m o, q.length = o.length + m
  | 0, o, q, h => by simp [extL] at h; rw [h]; rfl
  | m + 1, o, q, h => by
    unfold extL at h
    obtain ⟨k, hk, hq⟩ := List.mem_flatMap.1 h
    split at hq
    · cases hq
    · have := extL_len n m _ q hq
      simp at this; omega
theorem perms_ne {n : Nat} (h : 1 ≤ n) : ∀ o ∈ permsL n, o ≠ [] := by
  intro o ho e
  have := extL_len n n [] o ho
  rw [e] at this
  simp at this; omega
theorem nil_out (st : List Int) : abin 2 .eql (outV 1 (ints st)) .nilsl = some (.bool (decide (st = []))) := by
  cases st with
  | nil => rfl
  | cons a r => simp [outV, ints]
theorem wrapc {n : Nat} (h : n ≤ 823543) : IntKind.i64.wrap (n : Int) = n := wrap_nat (by omega)
theorem wrap_one (a : Int) : IntKind.i64.wrap (IntKind.i64.wrap a + 1) = IntKind.i64.wrap (a + 1) := by
  rw [IntKind.wrap_i64, IntKind.wrap_i64, IntKind.wrap_i64]; omega
/-- the three functions that orders are handed to -/
theorem cb60 {x : AV} {l : List Int} (hx : asI x = some l) (f : List UInt8) (h1 : 1 ≤ l.length) (hl : l.length ≤ 7) (bo : Nat) : Cb (.fn (.func 60) [] [.ptr (.agg [x, .str (bs f)]), .ref bo 0]) bo l.length (fun st => outV 1 (ints st)) (st60 l.length f) := by
  refine ⟨60, _, rfl, fun st o z hs hz hlen ho => ?_⟩
  refine FCall.ofAt C3ok ok60 (by simp) ?_
  have hne : o ≠ [] := by intro e; rw [e] at hlen; simp at hlen; omega
  have h61 := S61_i hz hne (by omega)
  have hone := one_outV o
  have hone2 := one_outV st
  have ld : aload hs.heap false 1 (.ref bo 0) = some (outV 1 (ints st)) := load_one ho
  have nl := nil_out st
  have nl2 := nil_out o
  simp only [List.cons_append, List.nil_append]
  simp only [st60]
  generalize hzs : outV 1 (ints st) = zs at ho ld nl hone2
  by_cases hc : crsL (hO o) (l.length - 1) = f
  · have sto := store_one (v := outV 1 (ints o)) ho hone.st hone.ce
    generalize hzo : outV 1 (ints o) = zo at h61 hone nl2 sto
    have ld2 : aload (fun k => if k = bo then some [zo] else hs.heap k) false 1 (.ref bo 0) = some zo := load_one (by simp)
    simp [A60, R60, hc, h61, sto, ld2, nl2, hne, hzo]
    exact At.of fun b5 => ⟨rfl, fun i h1 h2 => by simp [h2], rfl, ⟨Nat.le_refl _, fun _ _ h => h⟩⟩
  · simp [A60, R60, hc, ld, nl, ho]
    exact At.of ⟨hzs.symm, fun b5 => .refl _ _ _⟩
theorem cb63 {x : AV} {l : List Int} (hx : asI x = some l) (f : List UInt8) (bo : Nat) : Cb (.fn (.func 63) [] [.ptr (.agg [x, .str (bs f)]), .ref bo 0]) bo l.length (fun k : Nat => .int .i64 (IntKind.i64.wrap (k : Int))) (st63 l.length f) := by
  refine ⟨63, _, rfl, fun st o z hs hz hlen ho => ?_⟩
  refine FCall.ofAt C3ok ok63 (by simp) ?_
  have ld : aload hs.heap false 1 (.ref bo 0) = some (.int .i64 (IntKind.i64.wrap (st : Int))) := load_one ho
  have w1 := wrap_one (st : Int)
  have w2 : ((st + 1 : Nat) : Int) = (st : Int) + 1 := by omega
  simp only [List.cons_append, List.nil_append]
  simp only [st63]
  by_cases hc : crsL (hO o) (l.length - 1) = f
  · have sto := store_one (v := .int .i64 (IntKind.i64.wrap ((st : Int) + 1))) ho rfl rfl
    simp [A63, R63, hc, ld, w1, sto]
    exact At.of fun b5 => ⟨rfl, fun i h1 h2 => by simp [h2], rfl, ⟨Nat.le_refl _, fun _ _ h => h⟩⟩
  · simp [A63, R63, hc, ho]
    exact At.of fun b5 => .refl _ _ _
theorem cb64 (n bo : Nat) : Cb (.fn (.func 64) [] [.ref bo 0]) bo n (fun k : Nat => .int .i64 (IntKind.i64.wrap (k : Int))) st64 := by
  refine ⟨64, _, rfl, fun st o z hs hz hlen ho => ?_⟩
  refine FCall.ofAt C3ok ok64 (by simp) ?_
  have ld : aload hs.heap false 1 (.ref bo 0) = some (.int .i64 (IntKind.i64.wrap (st : Int))) := load_one ho
  have w1 := wrap_one (st : Int)
  simp only [List.cons_append, List.nil_append]
  simp only [st64]
  have sto := store_one (v := .int .i64 (IntKind.i64.wrap ((st : Int) + 1))) ho rfl rfl
  simp [A64, R64, ld, w1, sto]
  exact At.of fun b5 => ⟨rfl, fun i h1 h2 => by simp [h2], rfl, ⟨Nat.le_refl _, fun _ _ h => h⟩⟩
theorem ordV_plain (l : List Int) (f : List UInt8) : (ordV l f).plain = true := by
  unfold ordV
  split
  · rfl
  · split
    · rfl
    · simp only [AV.plain, plainL, plain_outV, Bool.and_self]
theorem cntV_plain (l : List Int) (f : List UInt8) : (cntV l f).plain = true := by unfold cntV; split <;> rfl
theorem allV_plain (l : List Int) : (allV l).plain = true := by unfold allV; split <;> rfl
theorem fold_head {l : List Int} {f : List UInt8} (h1 : 1 ≤ l.length) : (runE (fitE l (st60 l.length f)) [] (permsL l.length)).1 = (foldL l f).head?.getD [] := run60 l f _ (perms_ne h1)
theorem head_nil {l : List Int} {f : List UInt8} (h1 : 1 ≤ l.length) : (foldL l f).head?.getD [] = [] ↔ foldL l f = [] := by
  constructor
  · intro h
    cases hf : foldL l f with
    | nil => rfl
    | cons a r =>
      rw [hf] at h
      simp at h
      have : a ∈ foldL l f := by rw [hf]; simp
      exact absurd h (perms_ne h1 a (List.mem_filter.1 this).1)
  · intro h; rw [h]; rfl
theorem p23 {x : AV} {l : List Int} (hx : asI x = some l) (f : List UInt8) : PCall Tryd.prog 23 [.agg [x, .str (bs f)]] (ordV l f) := by
  refine PCall.of C3ok ok23 (by simp) (ordV_plain l f) fun hs hb => ?_
  have c19 : C3 19 [.agg [x, .str (bs f)]] = some (.int .i64 (chk l f)) := chk_i hx
  by_cases hc : chk l f = 0
  rotate_left
  · simp [A23, R23, c19, hc, ordV]
  obtain ⟨hm, hfl, _⟩ := chk_0 hc
  obtain ⟨m1, m2, m3, m4⟩ := meas_0 hm
  simp only [A23, R23]
  simp [c19, hc, asI_ld hx]
  have hv := p59 (hs := ⟨fun i => if i = hs.nh then some [.nilsl] else hs.heap i, hs.nh + 1, hs.nt, hs.tok, hs.mp⟩) (st := []) hx hm (cb60 hx f m1 m2 hs.nh) (by simp; rfl) (by simp)
  rw [fold_head m1] at hv
  refine At.hc hv ?_ ?_
  · rintro v hs2 ⟨hv, ho⟩
    injection hv with hv; subst hv
    have ld : aload hs2.heap false 1 (.ref hs.nh 0) = some (outV 1 (ints ((foldL l f).head?.getD []))) := load_one ho
    have nl := nil_out ((foldL l f).head?.getD [])
    have hsh := share_outV ((foldL l f).head?.getD [])
    by_cases he : foldL l f = []
    · have hq := (head_nil m1).2 he
      rw [hq, show outV 1 (ints []) = .nilsl from rfl] at ld
      have hov : ordV l f = .tup [.nilsl, .int .i64 14] := by unfold ordV; rw [if_neg (by simp [hc]), if_pos he]
      rw [hov]
      simp [ld]
    · have hq : ¬ (foldL l f).head?.getD [] = [] := fun e => he ((head_nil m1).1 e)
      have hov : ordV l f = .tup [outV 1 (ints ((foldL l f).head?.getD [])), .int .i64 0] := by unfold ordV; rw [if_neg (by simp [hc]), if_neg he]
      rw [hov]
      generalize (foldL l f).head?.getD [] = q at ld nl hq hsh ⊢
      generalize outV 1 (ints q) = z at ld nl hsh ⊢
      simp [ld, nl, hq, hsh]
  · rintro v hs2 ⟨hv, _⟩; cases hv
theorem p25 {x : AV} {l : List Int} (hx : asI x = some l) (f : List UInt8) : PCall Tryd.prog 25 [.agg [x, .str (bs f)]] (cntV l f) := by
  refine PCall.of C3ok ok25 (by simp) (cntV_plain l f) fun hs hb => ?_
  have c19 : C3 19 [.agg [x, .str (bs f)]] = some (.int .i64 (chk l f)) := chk_i hx
  by_cases hc : chk l f = 0
  rotate_left
  · simp [A25, R25, c19, hc, cntV]
  obtain ⟨hm, hfl, _⟩ := chk_0 hc
  obtain ⟨m1, m2, m3, m4⟩ := meas_0 hm
  obtain ⟨h1, sto, h1b⟩ : ∃ h1, astore (fun i => if i = hs.nh then some [.int .i64 0] else hs.heap i) 1 (.ref hs.nh 0) (.int .i64 0) = some h1 ∧ h1 hs.nh = some [.int .i64 0] := ⟨_, store_one (u := .int .i64 0) (by simp) rfl rfl, by simp⟩
  simp only [A25, R25]
  simp [c19, hc, asI_ld hx, sto]
  have hv := p59 (hs := ⟨h1, hs.nh + 1, hs.nt, hs.tok, hs.mp⟩) (st := (0 : Nat)) hx hm (cb63 hx f hs.nh) (by simp only [h1b]; congr) (by simp)
  rw [run63, Nat.zero_add] at hv
  refine At.hc hv ?_ ?_
  · rintro v hs2 ⟨hv, ho⟩
    injection hv with hv; subst hv
    have hle : (foldL l f).length ≤ 823543 := Nat.le_trans (List.length_filter_le _ _) (perms_len m2)
    have ho' : hs2.heap hs.nh = some [.int .i64 (IntKind.i64.wrap ((foldL l f).length : Int))] := ho
    rw [wrapc hle] at ho'
    have ld := load_one ho'
    simp [ld, cntV, hc]
  · rintro v hs2 ⟨hv, _⟩; cases hv
theorem p27 {x : AV} {l : List Int} (hx : asI x = some l) : PCall Tryd.prog 27 [x] (allV l) := by
  refine PCall.of C3ok ok27 (by simp) (allV_plain l) fun hs hb => ?_
  have c48 : C3 48 [x] = some (.int .i64 (meas l)) := SI_i hx
  by_cases hm : meas l = 0
  rotate_left
  · simp [A27, R27, c48, hm, allV]
  obtain ⟨m1, m2, m3, m4⟩ := meas_0 hm
  obtain ⟨h1, sto, h1b⟩ : ∃ h1, astore (fun i => if i = hs.nh then some [.int .i64 0] else hs.heap i) 1 (.ref hs.nh 0) (.int .i64 0) = some h1 ∧ h1 hs.nh = some [.int .i64 0] := ⟨_, store_one (u := .int .i64 0) (by simp) rfl rfl, by simp⟩
  simp only [A27, R27]
  simp [c48, hm, sto]
  have hv := p59 (hs := ⟨h1, hs.nh + 1, hs.nt, hs.tok, hs.mp⟩) (st := (0 : Nat)) hx hm (cb64 l.length hs.nh) (by simp only [h1b]; congr) (by simp)
  rw [run64, Nat.zero_add] at hv
  refine At.hc hv ?_ ?_
  · rintro v hs2 ⟨hv, ho⟩
    injection hv with hv; subst hv
    have hle : (flatL l).length ≤ 823543 := Nat.le_trans (List.length_filter_le _ _) (perms_len m2)
    have ho' : hs2.heap hs.nh = some [.int .i64 (IntKind.i64.wrap ((flatL l).length : Int))] := ho
    rw [wrapc hle] at ho'
    have ld := load_one ho'
    simp [ld, allV, hm]
  · rintro v hs2 ⟨hv, _⟩; cases hv
end Go.Proofs.YtedpcenghofpoaaDoor
set_option linter.unusedVariables false
namespace Go.Proofs.YtedpcenghofpoaaDoor
open Go Fw

def pvt (o : List Int) : Nat → Option Nat
  | 0 => none
  | i + 1 => if gI o (i + 1) < gI o i then pvt o i else some i
def kfd (o : List Int) (p : Int) : Nat → Nat
  | 0 => 0
  | k + 1 => if gI o (k + 1) < p then kfd o p k else k + 1
def swp (o : List Int) (i k : Nat) : List Int := (o.set i (gI o k)).set k (gI o i)
def rvs : Nat → List Int → Nat → Nat → List Int
  | 0, o, _, _ => o
  | f + 1, o, a, b => if a < b then rvs f (swp o a b) (a + 1) (b - 1) else o
def nxt (o : List Int) : Option (List Int) := (pvt o (o.length - 1)).map fun i => rvs o.length (swp o i (kfd o (gI o i) (o.length - 1))) (i + 1) (o.length - 1)
def chE : List (List Int) → Option (List Int) → Bool
  | [], _ => false
  | [o], e => nxt o == e
  | o :: o' :: r, e => nxt o == some o' && chE (o' :: r) e
theorem chE_at : ∀ {P : List (List Int)}, chE P none = true → ∀ t (h : t < P.length), nxt P[t] = P[t + 1]?
  | [], h, t, ht => by simp at ht
  | [o], h, t, ht => by
    have : t = 0 := by simp at ht; omega
    subst this
    simpa [chE] using h
  | o :: o' :: r, h, t, ht => by
    simp only [chE, Bool.and_eq_true, beq_iff_eq] at h
    cases t with
    | zero => simpa using h.1
    | succ t => simpa using chE_at h.2 t (by simpa using ht)
theorem chE_app : ∀ {a b : List (List Int)} {e : Option (List Int)}, chE a b.head? = true → chE b e = true → chE (a ++ b) e = true
  | [], b, e, h, _ => by simp [chE] at h
  | [o], [], e, _, h => by simp [chE] at h
  | [o], q :: b, e, h, h2 => by
    simp [chE] at h
    simp [chE, h, h2]
  | o :: o' :: r, b, e, h, h2 => by
    simp only [chE, Bool.and_eq_true] at h
    have := chE_app h.2 h2
    simp only [List.cons_append] at this
    simp only [List.cons_append, chE, Bool.and_eq_true]
    exact ⟨h.1, this⟩
set_option maxRecDepth 100000
theorem ch7_0 : chE (extL 7 6 [0]) (extL 7 6 [1]).head? = true := by decide +kernel
theorem ch7_1 : chE (extL 7 6 [1]) (extL 7 6 [2]).head? = true := by decide +kernel
theorem ch7_2 : chE (extL 7 6 [2]) (extL 7 6 [3]).head? = true := by decide +kernel
theorem ch7_3 : chE (extL 7 6 [3]) (extL 7 6 [4]).head? = true := by decide +kernel
theorem ch7_4 : chE (extL 7 6 [4]) (extL 7 6 [5]).head? = true := by decide +kernel
theorem ch7_5 : chE (extL 7 6 [5]) (extL 7 6 [6]).head? = true := by decide +kernel
theorem ch7_6 : chE (extL 7 6 [6]) none = true := by decide +kernel
theorem extT_0 (n m : Nat) (i : Nat) : extT n m [] (i + 1) = extT n m [] i ++ extL n m [(i : Int)] := by
  rw [extT_succ, if_neg (by simp)]
  rfl
theorem head_app {a b : List (List Int)} {e : Option (List Int)} (h : chE a e = true) : (a ++ b).head? = a.head? := by
  cases a with
  | nil => simp [chE] at h
  | cons x a => rfl
theorem perms7 : permsL 7 = extL 7 6 [0] ++ (extL 7 6 [1] ++ (extL 7 6 [2] ++ (extL 7 6 [3] ++ (extL 7 6 [4] ++ (extL 7 6 [5] ++ extL 7 6 [6]))))) := by
  show extT 7 6 [] 7 = _
  rw [extT_0, extT_0, extT_0, extT_0, extT_0, extT_0, extT_0]
  have : extT 7 6 [] 0 = [] := rfl
  rw [this]
  simp only [List.nil_append, List.append_assoc]
  rfl
theorem ch7 : chE (permsL 7) none = true := by
  rw [perms7]
  refine chE_app ?_ (chE_app ?_ (chE_app ?_ (chE_app ?_ (chE_app ?_ (chE_app ch7_5 ch7_6)))))
  · rw [head_app ch7_1]; exact ch7_0
  · rw [head_app ch7_2]; exact ch7_1
  · rw [head_app ch7_3]; exact ch7_2
  · rw [head_app ch7_4]; exact ch7_3
  · rw [head_app ch7_5]; exact ch7_4
theorem ch_perms : ∀ n, n ≤ 7 → 1 ≤ n → chE (permsL n) none = true
  | 0, _, h => by omega
  | 1, _, _ => by decide +kernel
  | 2, _, _ => by decide +kernel
  | 3, _, _ => by decide +kernel
  | 4, _, _ => by decide +kernel
  | 5, _, _ => by decide +kernel
  | 6, _, _ => by decide +kernel
  | 7, _, _ => ch7
  | n + 8, h, _ => by omega
theorem perms_head : ∀ n, n ≤ 7 → 1 ≤ n → (permsL n)[0]? = some ((List.range n).map Int.ofNat)
  | 0, _, h => by omega
  | 1, _, _ => by decide +kernel
  | 2, _, _ => by decide +kernel
  | 3, _, _ => by decide +kernel
  | 4, _, _ => by decide +kernel
  | 5, _, _ => by decide +kernel
  | 6, _, _ => by decide +kernel
  | 7, _, _ => by decide +kernel
  | n + 8, h, _ => by omega
theorem extL_ok (n : Nat) : ∀ (m : Nat) (o : List Int), (∀ a ∈ o, 0 ≤ a ∧ a < n) → o.Nodup → ∀ q ∈ extL n m o, (∀ a ∈ q, 0 ≤ a ∧ a < n) ∧ q.Nodup
  | 0, o, h1, h2, q, hq => by simp [extL] at hq; subst hq; exact ⟨h1, h2⟩
  | m + 1, o, h1, h2, q, hq => by
    unfold extL at hq
    obtain ⟨k, hk, hq⟩ := List.mem_flatMap.1 hq
    have hk := List.mem_range.1 hk
    split at hq
    · cases hq
    · rename_i hm
      refine extL_ok n m _ (fun a ha => ?_) ?_ q hq
      · rcases List.mem_append.1 ha with h | h
        · exact h1 a h
        · have := List.mem_singleton.1 h; omega
      · rw [List.nodup_append]
        exact ⟨h2, by simp, fun a ha b hb e => hm (by rw [List.mem_singleton.1 hb] at e; rw [← e]; exact ha)⟩
theorem perms_ok {n : Nat} {o : List Int} (h : o ∈ permsL n) : o.length = n ∧ (∀ a ∈ o, 0 ≤ a ∧ a < n) ∧ o.Nodup := by
  have h1 := extL_len n n [] o h
  have h2 := extL_ok n n [] (by simp) (by simp) o h
  exact ⟨by simpa using h1, h2⟩
theorem swp_len (o : List Int) (i k : Nat) : (swp o i k).length = o.length := by simp [swp]
end Go.Proofs.YtedpcenghofpoaaDoor
set_option linter.unusedVariables false
set_option linter.unusedSimpArgs false
namespace Go.Proofs.YtedpcenghofpoaaDoor
open Go Fw

def slV (o : List Int) : AV := .sl 1 (ints o) .shared
def ordsV (l : List Int) : AV := outV 1 ((flatL l).map slV)
theorem plainL_slV (os : List (List Int)) : plainL (os.map slV) = true := by
  induction os with
  | nil => rfl
  | cons a os ih =>
    simp only [List.map_cons, plainL, ih, Bool.and_true]
    exact plain_ints a
theorem ordsV_plain (l : List Int) : (ordsV l).plain = true := by
  unfold ordsV outV
  split
  · rfl
  · simp only [AV.plain, plainL_slV]
theorem ints_set {o : List Int} {k : Nat} (v : Int) : (ints o).set k (.int .i64 v) = ints (o.set k v) := by unfold ints; rw [List.map_set]
theorem gI_set {o : List Int} {k j : Nat} {v : Int} (hk : k < o.length) : gI (o.set k v) j = if j = k then v else gI o j := by
  unfold gI
  rw [List.getD_eq_getElem?_getD, List.getD_eq_getElem?_getD]
  by_cases h : j = k
  · subst h; rw [if_pos rfl, List.getElem?_set_self hk]; rfl
  · rw [if_neg h, List.getElem?_set_ne (Ne.symm h)]
theorem filter_take_succ {α : Type} {P : List α} {t : Nat} (h : t < P.length) (f : α → Bool) : (P.take (t + 1)).filter f = (P.take t).filter f ++ (if f P[t] = true then [P[t]] else []) := by
  rw [take_snoc h, List.filter_append]
  congr 1
  by_cases hf : f P[t] = true
  · rw [if_pos hf, List.filter_cons_of_pos hf]; rfl
  · rw [if_neg hf, List.filter_cons_of_neg hf]; rfl
/-- an order in memory -/
theorem osl_ix {q n k : Nat} {i : Nat} (h : i < n) {kk : IntKind} : aidxS 1 (.osl false 1 q n k) (.int kk (i : Int)) = some (.ref q i) := by simp [aidxS, h]
theorem ld_ord {hp : Nat → Option (List AV)} {q : Nat} {o : List Int} (h : hp q = some (ints o)) {i : Nat} (hi : i < o.length) : aload hp false 1 (.ref q i) = some (.int .i64 (gI o i)) := ldc h (by rw [ints_get hi, gI_of hi])
theorem st_ord {hp : Nat → Option (List AV)} {q : Nat} {o : List Int} (h : hp q = some (ints o)) {i : Nat} (hi : i < o.length) (v : Int) : ∃ h1, astore hp 1 (.ref q i) (.int .i64 v) = some h1 ∧ h1 q = some (ints (o.set i v)) ∧ ∀ j, j ≠ q → h1 j = hp j :=
  ⟨_, store_cell h (by rw [ints_len]; exact hi) rfl, by rw [if_pos rfl, ints_set], fun j hj => if_neg hj⟩
theorem pvt_some {o : List Int} {i : Nat} : ∀ {j : Nat}, pvt o j = some i → i + 1 ≤ j ∧ ¬ gI o (i + 1) < gI o i
  | 0, h => by cases h
  | j + 1, h => by
    unfold pvt at h
    split at h
    · have := pvt_some h
      exact ⟨by omega, this.2⟩
    · rename_i hh
      injection h with h; subst h
      exact ⟨by omega, hh⟩
set_option maxHeartbeats 1000000 in
theorem p65 {x : AV} {l : List Int} (hx : asI x = some l) (hm : meas l = 0) : PCall Tryd.prog 65 [x] (ordsV l) := by
  obtain ⟨C, hC, c58', hne⟩ := ctx_fam C8ok 58 (fun z : {z : AV × (Nat → Int) // asI z.1 = some (hL l.length z.2)} => [x, z.1.1]) (fun z => .bool (fitB l z.1.2)) (fun z => p58 hx hm z.2) (fun z w e => by
    have e1 : z.1.1 = w.1.1 := by simpa using e
    have h1 := z.2
    rw [e1, w.2] at h1
    injection h1 with h1
    congr 1
    refine fitB_cong fun k hk => ?_
    have : gI (hL l.length w.1.2) k = gI (hL l.length z.1.2) k := by rw [h1]
    rw [gI_hL hk, gI_hL hk] at this
    exact this.symm)
  have c58 : ∀ {z : AV} {h : Nat → Int}, asI z = some (hL l.length h) → C 58 [x, z] = some (.bool (fitB l h)) := fun {z h} hz => c58' ⟨(z, h), hz⟩
  refine PCall.of hC ok65 (by simp) (ordsV_plain l) fun hs hb => ?_
  obtain ⟨m1, m2, m3, m4⟩ := meas_0 hm
  have hall := chE_at (ch_perms l.length m2 m1)
  have hhd := perms_head l.length m2 m1
  have hok : ∀ t (h : t < (permsL l.length).length), (permsL l.length)[t].length = l.length ∧ (∀ a ∈ (permsL l.length)[t], 0 ≤ a ∧ a < l.length) ∧ (permsL l.length)[t].Nodup := fun t h => perms_ok (List.getElem_mem h)
  have hfl : flatL l = (permsL l.length).filter fun o => fitB l (hO o) := rfl
  have hP := perms_len m2
  unfold ordsV
  rw [hfl]
  generalize permsL l.length = P at hall hhd hok hP ⊢
  simp only [A65, R65]
  simp
  refine At.loop (fun (i : Nat) s => i ≤ l.length ∧ s.env 0 = x ∧ s.env 4 = .int .i64 (i : Int) ∧ OslI 0 s.hs (s.env 3) ((List.range i).map Int.ofNat)) (fun i => l.length - i) 0 ?_ ?_
  · simp
    exact .inl ⟨rfl, rfl⟩
  rintro N i s hN ⟨hi, e0, e4, ho⟩
  simp [e0, e4, alen_of hx]
  refine At.dec (fun hlt => ?_) (fun hlt => ?_)
  · have hi' : i < l.length := by omega
    obtain ⟨y, hs', a1, a2, a3, a4⟩ := ho.add (by omega) (by simp; omega) (i : Int)
    have w1 := wrap_nat1 (show i < _ by omega)
    simp [e4, astoAll, sto_in, cel_in, a1, w1]
    refine hN (i + 1) _ (by omega) ⟨by omega, ?_⟩
    simp [e0]
    rw [List.range_succ, List.map_append]
    exact a2
  · have hi2 : i = l.length := by omega
    subst hi2
    rcases ho with ⟨_, h0⟩ | ⟨q, kk, e3, _, hq, hhq, _, _⟩
    · have := congrArg List.length h0
      rw [List.length_map, List.length_range] at this
      simp only [List.length_nil] at this
      omega
    rw [show ((List.range l.length).map Int.ofNat).length = l.length by simp] at e3
    have hP0 : 0 < P.length := by
      rcases Nat.eq_zero_or_pos P.length with h | h
      · rw [List.getElem?_eq_none (show P.length ≤ 0 by omega)] at hhd; cases hhd
      · exact h
    simp
    refine At.loop (fun (t : Nat) s => ∃ ht : t < P.length, s.env 0 = x ∧ s.env 3 = .osl false 1 q l.length kk ∧ q < s.hs.nh ∧ s.hs.heap q = some (ints P[t]) ∧ Outs 1 s.hs (s.env 5) (((P.take t).filter fun o => fitB l (hO o)).map slV)) (fun t => P.length - t) 0 ?_ ?_
    · refine ⟨hP0, ?_⟩
      simp [e0, e3, hq]
      rw [List.getElem?_eq_getElem hP0] at hhd
      injection hhd with hhd
      exact ⟨by rw [hhd]; exact hhq, .nil⟩
    rintro N2 t s hN2 ⟨ht, e0, e3, hq, hhq, ho⟩
    obtain ⟨hol, hor, hod⟩ := hok t ht
    have hnx := hall t ht
    have hft := filter_take_succ ht (fun o => fitB l (hO o))
    simp only [At.awp_block]
    rw [At.awp_seq]
    refine At.cut (fun s1 => s1.env 0 = x ∧ s1.env 3 = .osl false 1 q l.length kk ∧ q < s1.hs.nh ∧ s1.hs.heap q = some (ints P[t]) ∧ Outs 1 s1.hs (s1.env 5) (((P.take (t + 1)).filter fun o => fitB l (hO o)).map slV)) ?_ ?_
    · have hrd : RdI s.hs.nh s.hs.heap (.osl false 1 q l.length kk) P[t] := ⟨by omega, .inr (.inl ⟨q, kk, by rw [hol], hq, hhq⟩)⟩
      simp [e0, e3]
      refine At.hc (p56 (hs := s.hs) hrd (Nat.le_refl _) (by omega) (by rw [hol]; exact hor) hod) ?_ ?_
      · rintro v hs2 ⟨hv, hs2e⟩
        injection hv with hv; subst hv
        rw [hol] at hs2e ⊢
        have hq2 : hs2.heap q = some (ints P[t]) := by rw [hs2e, HS.blk_old (by omega)]; exact hhq
        have hn2 : q < hs2.nh := by rw [hs2e]; simp; omega
        have ho2 : Outs 1 hs2 (s.env 5) (((P.take t).filter fun o => fitB l (hO o)).map slV) := ho.cong (by rw [hs2e]; rfl) (by rw [hs2e]; rfl)
        obtain ⟨c, hfz⟩ := frz_heights (hp := hs2.heap) (b := s.hs.nh) (L := hL l.length (hO P[t])) (n := l.length) (by rw [hs2e]; simp) (hL_len _ _)
        have hzi : asI (.sl 1 (ints (hL l.length (hO P[t]))) c) = some (hL l.length (hO P[t])) := asI_sl (by rw [hL_len]; omega)
        have k58 := c58 hzi
        have a58 : alcall C 58 hs2 [x, .msl false 1 s.hs.nh 0 l.length true] = some (.bool (fitB l (hO P[t]))) := by
          unfold alcall
          rw [show [x, AV.msl false 1 s.hs.nh 0 l.length true].map (frz hs2.heap 2) = [x, .sl 1 (ints (hL l.length (hO P[t]))) c] by rw [List.map_cons, List.map_cons, hfz, frz_asI hx]; rfl, k58]
          rfl
        rw [hft]
        clear hs2e
        have hcp : aappend 1 hs2 (.sl 1 [] .exact) (.osl false 1 q l.length kk) = some (.sl 1 (ints P[t]) (.own hs2.nt), { hs2 with nt := hs2.nt + 1, tok := fun t => if t = hs2.nt then true else hs2.tok t }) := by
          have hpe : aelemsH hs2.heap (.osl false 1 q l.length kk) = some (ints P[t]) := by simp only [aelemsH, hq2, Option.bind_some]; exact mcont_full (by rw [ints_len, hol])
          rw [append_eqH (xs := []) (p := .sl 1 [] .exact) rfl hpe rfl rfl (by simp [ints]; omega) (by simp), if_neg (by intro e; have := congrArg List.length e; rw [ints_len] at this; simp only [List.length_nil] at this; omega)]
          rfl
        cases hb : fitB l (hO P[t]) with
        | false =>
          rw [hb] at a58
          simp [a58]
          exact ⟨e0, e3, hn2, hq2, ho2⟩
        | true =>
          rw [hb] at a58
          have hap := append_outs (hs := { hs2 with nt := hs2.nt + 1, tok := fun t => if t = hs2.nt then true else hs2.tok t }) (q := .sl 1 [.sl 1 (ints P[t]) (.own hs2.nt)] .exact) (ys := [.sl 1 (ints P[t]) (.own hs2.nt)]) (ho2.keep (keepT_new hs2)) (asV_sl (by simp)) (by
            have := List.length_filter_le (fun o => fitB l (hO o)) (P.take t)
            rw [List.length_take] at this
            simp; omega)
          obtain ⟨y, hs', a1, a2, a3⟩ := hap
          have hslv : [AV.sl 1 (ints P[t]) (.own hs2.nt)].map AV.share = [slV P[t]] := by simp [slV]
          rw [hslv] at a2
          generalize hcs : ({ hs2 with nt := hs2.nt + 1, tok := fun t => if t = hs2.nt then true else hs2.tok t } : HS) = hs3 at hcp a1 a3
          have h3h : hs3.heap = hs2.heap := by rw [← hcs]
          have h3n : hs3.nh = hs2.nh := by rw [← hcs]
          generalize hio : ints P[t] = io at hcp a1
          simp [a58, e3, hcp, astoAll, sto_sl, cel_sl, a1]
          exact ⟨e0, by rw [a3.nh, h3n]; exact hn2, by rw [a3.heap, h3h, ← hio]; exact hq2, a2⟩
      · rintro v hs2 ⟨hv, _⟩; cases hv
    rintro s1 ⟨e0, e3, hq, hhq, ho⟩
    clear hor hod hft
    obtain ⟨o, hoe⟩ : ∃ o, P[t] = o := ⟨_, rfl⟩
    rw [hoe] at hol hnx hhq
    have hnxe : nxt o = (pvt o (l.length - 1)).map fun i => rvs l.length (swp o i (kfd o (gI o i) (l.length - 1))) (i + 1) (l.length - 1) := by unfold nxt; rw [hol]
    have w2 : IntKind.i64.wrap ((l.length : Int) - 2) = ((l.length - 1 : Nat) : Int) - 1 := by rw [wrap64 (by omega) (by omega)]; omega
    have wl1 : IntKind.i64.wrap ((l.length : Int) - 1) = ((l.length - 1 : Nat) : Int) := by rw [wrap64 (by omega) (by omega)]; omega
    have alo : alenK false (.osl false 1 q l.length kk) = some (.int .i64 (l.length : Int)) := rfl
    simp [e3, alo, w2]
    refine At.loop (fun (j : Nat) s => j ≤ l.length - 1 ∧ pvt o (l.length - 1) = pvt o j ∧ s.hs = s1.hs ∧ s.env 0 = x ∧ s.env 3 = .osl false 1 q l.length kk ∧ s.env 5 = s1.env 5 ∧ s.env 6 = .int .i64 ((j : Int) - 1)) (fun j => j) (l.length - 1) ?_ ?_
    · simp [e0, e3]
    rintro N4 j s hN4 ⟨hj, hpv, ehs, e0, e3, e5, e6⟩
    cases j with
    | zero =>
      have hnone : P[t + 1]? = none := by rw [← hnx, hnxe, hpv]; rfl
      have hlast : P.take (t + 1) = P := List.take_of_length_le (List.getElem?_eq_none_iff.1 hnone)
      rw [hlast] at ho
      have e6' : s.env 6 = .int .i64 (-1) := e6
      simp [e6', e5]
      have := ho.sh
      exact this
    | succ j =>
      have e6' : s.env 6 = .int .i64 (j : Int) := by rw [e6]; congr 1; omega
      have w1 := wrap_nat1 (show j < _ by omega)
      have ix1 := osl_ix (q := q) (k := kk) (n := l.length) (i := j) (by omega) (kk := .i64)
      have ix2 := osl_ix (q := q) (k := kk) (n := l.length) (i := j + 1) (by omega) (kk := .i64)
      have ld1 := ld_ord hhq (i := j) (by omega)
      have ld2 := ld_ord hhq (i := j + 1) (by omega)
      have hpj : pvt o (j + 1) = if gI o (j + 1) < gI o j then pvt o j else some j := rfl
      generalize hj1 : ((j + 1 : Nat) : Int) = j1 at w1 ix2
      by_cases hc : gI o (j + 1) < gI o j
      · rw [if_pos hc] at hpj
        have wd : IntKind.i64.wrap ((j : Int) - 1) = (j : Int) - 1 := wrap64 (by omega) (by omega)
        simp [ehs, e3, e6', w1, ix1, ix2, ld1, ld2, hc, wd]
        refine hN4 j _ (by omega) ⟨by omega, by rw [hpv, hpj], ?_⟩
        simp [ehs, e0, e3, e5]
      · rw [if_neg hc] at hpj
        have hsome : P[t + 1]? = some (rvs l.length (swp o j (kfd o (gI o j) (l.length - 1))) (j + 1) (l.length - 1)) := by rw [← hnx, hnxe, hpv, hpj]; rfl
        have hjn : ¬ (j : Int) < 0 := by omega
        simp [ehs, e3, e6', w1, ix1, ix2, ld1, ld2, hc, hjn, alo, wl1]
        refine At.loop (fun (k : Nat) s => j + 1 ≤ k ∧ k ≤ l.length - 1 ∧ kfd o (gI o j) (l.length - 1) = kfd o (gI o j) k ∧ s.hs = s1.hs ∧ s.env 0 = x ∧ s.env 3 = .osl false 1 q l.length kk ∧ s.env 5 = s1.env 5 ∧ s.env 6 = .int .i64 (j : Int) ∧ s.env 7 = .int .i64 (k : Int)) (fun k => k) (l.length - 1) ?_ ?_
        · simp [ehs, e0, e3, e5, e6']
          omega
        rintro N6 k s hN6 ⟨hk1, hk2, hkf, ehs, e0, e3, e5, e6, e7⟩
        have ix3 := osl_ix (q := q) (k := kk) (n := l.length) (i := k) (by omega) (kk := .i64)
        have ld3 := ld_ord hhq (i := k) (by omega)
        obtain ⟨k', rfl⟩ : ∃ k', k = k' + 1 := ⟨k - 1, by omega⟩
        have hkk : kfd o (gI o j) (k' + 1) = if gI o (k' + 1) < gI o j then kfd o (gI o j) k' else k' + 1 := rfl
        have wd : IntKind.i64.wrap (((k' + 1 : Nat) : Int) - 1) = (k' : Int) := by rw [wrap64 (by omega) (by omega)]; omega
        by_cases hc2 : gI o (k' + 1) < gI o j
        · rw [if_pos hc2] at hkk
          have hne : k' ≠ j := by rintro rfl; exact hc hc2
          generalize hk0 : ((k' + 1 : Nat) : Int) = k0 at ix3 e7 wd
          simp [ehs, e3, e6, e7, ix1, ix3, ld1, ld3, hc2, wd]
          refine hN6 k' _ (by omega) ⟨by omega, by omega, by rw [hkf, hkk], ?_⟩
          simp [ehs, e0, e3, e5, e6]
        · rw [if_neg hc2] at hkk
          rw [hkf, hkk] at hsome
          obtain ⟨h1, sto1, h1q, h1o⟩ := st_ord hhq (i := j) (by omega) (gI o (k' + 1))
          obtain ⟨h2, sto2, h2q, h2o⟩ := st_ord h1q (i := k' + 1) (by rw [List.length_set]; omega) (gI o j)
          have w1' := wrap_nat1 (show j < _ by omega)
          have hsw : (o.set j (gI o (k' + 1))).set (k' + 1) (gI o j) = swp o j (k' + 1) := rfl
          rw [hsw] at h2q
          have hswl : (swp o j (k' + 1)).length = l.length := by rw [swp_len, hol]
          generalize hk0 : ((k' + 1 : Nat) : Int) = k0 at ix3 e7 wd
          simp [ehs, e3, e6, e7, ix1, ix3, ld1, ld3, hc2, sto1, sto2, alo, w1', wl1]
          refine At.loop (fun (z : Nat × Nat × List Int × Nat) s => z.2.1 ≤ z.1 + z.2.2.2 ∧ z.2.1 < l.length ∧ z.2.2.1.length = l.length ∧ rvs l.length (swp o j (k' + 1)) (j + 1) (l.length - 1) = rvs z.2.2.2 z.2.2.1 z.1 z.2.1 ∧ s.env 0 = x ∧ s.env 3 = .osl false 1 q l.length kk ∧ q < s.hs.nh ∧ s.hs.heap q = some (ints z.2.2.1) ∧ Outs 1 s.hs (s.env 5) (((P.take (t + 1)).filter fun o => fitB l (hO o)).map slV) ∧ s.env 8 = .int .i64 (z.1 : Int) ∧ s.env 9 = .int .i64 (z.2.1 : Int)) (fun z => z.2.1) (j + 1, l.length - 1, swp o j (k' + 1), l.length) ?_ ?_
          · simp [hswl, e0, e3, e5, hq, h2q]
            exact ⟨by omega, by omega, ho.cong rfl rfl⟩
          rintro N8 ⟨a, b, o', f⟩ s hN8 ⟨hf, hb, hol', hrv, e0, e3, hq, hhq, ho, e8, e9⟩
          simp only at hf hb hol' hrv hhq e8 e9
          simp [e8, e9]
          refine At.dec (fun hlt3 => ?_) (fun hlt3 => ?_)
          · have hab : a < b := by omega
            obtain ⟨f, rfl⟩ : ∃ f', f = f' + 1 := ⟨f - 1, by omega⟩
            have hrs : rvs (f + 1) o' a b = rvs f (swp o' a b) (a + 1) (b - 1) := by show (if a < b then _ else _) = _; rw [if_pos hab]
            have ixa := osl_ix (q := q) (k := kk) (n := l.length) (i := a) (by omega) (kk := .i64)
            have ixb := osl_ix (q := q) (k := kk) (n := l.length) (i := b) (by omega) (kk := .i64)
            have lda := ld_ord hhq (i := a) (by omega)
            have ldb := ld_ord hhq (i := b) (by omega)
            obtain ⟨g1, sg1, g1q, g1o⟩ := st_ord hhq (i := a) (by omega) (gI o' b)
            obtain ⟨g2, sg2, g2q, g2o⟩ := st_ord g1q (i := b) (by rw [List.length_set]; omega) (gI o' a)
            have wa := wrap_nat1 (show a < _ by omega)
            have wb : IntKind.i64.wrap ((b : Int) - 1) = ((b - 1 : Nat) : Int) := by rw [wrap64 (by omega) (by omega)]; omega
            have hsw2 : (o'.set a (gI o' b)).set b (gI o' a) = swp o' a b := rfl
            rw [hsw2] at g2q
            simp [e3, e8, e9, ixa, ixb, lda, ldb, sg1, sg2, wa, wb]
            refine hN8 (a + 1, b - 1, swp o' a b, f) _ (by simp only; omega) ⟨by simp only; omega, by simp only; omega, by simp only; rw [swp_len, hol'], by simp only; rw [hrv, hrs], ?_⟩
            simp [e0, e3, hq, g2q]
            exact ho.cong rfl rfl
          · have hrs : rvs f o' a b = o' := by
              cases f with
              | zero => rfl
              | succ f => show (if a < b then _ else _) = _; rw [if_neg (by omega)]
            rw [hrv, hrs] at hsome
            obtain ⟨ht1, hte⟩ := List.getElem?_eq_some_iff.1 hsome
            simp
            refine hN2 (t + 1) _ (by omega) ⟨ht1, ?_⟩
            simp [e0, e3, hq, hte, hhq]
            exact ho
end Go.Proofs.YtedpcenghofpoaaDoor
set_option linter.unusedVariables false
set_option linter.unusedSimpArgs false
namespace Go.Proofs.YtedpcenghofpoaaDoor
open Go Fw

def fldsV (l : List Int) (f : List UInt8) : AV := outV 1 ((foldL l f).map slV)
theorem fldsV_plain (l : List Int) (f : List UInt8) : (fldsV l f).plain = true := by
  unfold fldsV outV
  split
  · rfl
  · simp only [AV.plain, plainL_slV]
theorem foldL_flat (l : List Int) (f : List UInt8) : foldL l f = (flatL l).filter fun o => decide (crsL (hO o) (l.length - 1) = f) := by
  unfold foldL flatL
  rw [List.filter_filter]
  congr 1
  funext o
  unfold isF
  rw [Bool.and_comm]
theorem flatL_mem {l : List Int} {o : List Int} (h : o ∈ flatL l) : o.length = l.length ∧ (∀ a ∈ o, 0 ≤ a ∧ a < l.length) ∧ o.Nodup := perms_ok (List.mem_filter.1 h).1
theorem flatL_len {l : List Int} (h : l.length ≤ 7) : (flatL l).length ≤ 823543 := Nat.le_trans (List.length_filter_le _ _) (perms_len h)
theorem p62 {x : AV} {l : List Int} (hx : asI x = some l) {f : List UInt8} (hm : meas l = 0) : PCall Tryd.prog 62 [.agg [x, .str (bs f)]] (fldsV l f) := by
  obtain ⟨C0', hC0, c65', hne0⟩ := ctx_pt C8ok 65 _ _ (p65 hx hm)
  obtain ⟨m1, m2, m3, m4⟩ := meas_0 hm
  obtain ⟨C, hC, c57', hne⟩ := ctx_fam hC0 57 (fun z : {z : AV × (Nat → Int) // asI z.1 = some (hL l.length z.2)} => [z.1.1]) (fun z => .str (bs (crsL z.1.2 (l.length - 1)))) (fun z => p57 z.2 m1 m2) (fun z w e => by
    have e1 : z.1.1 = w.1.1 := by simpa using e
    have h1 := z.2
    rw [e1, w.2] at h1
    injection h1 with h1
    have : crsL z.1.2 (l.length - 1) = crsL w.1.2 (l.length - 1) := crsL_cong fun k hk => by
      have : gI (hL l.length w.1.2) k = gI (hL l.length z.1.2) k := by rw [h1]
      rw [gI_hL (by omega), gI_hL (by omega)] at this
      exact this.symm
    rw [this])
  have c57 : ∀ {z : AV} {h : Nat → Int}, asI z = some (hL l.length h) → C 57 [z] = some (.str (bs (crsL h (l.length - 1)))) := fun {z h} hz => c57' ⟨(z, h), hz⟩
  have c65 : C 65 [x] = some (ordsV l) := by rw [hne 65 (by decide)]; exact c65'
  refine PCall.of hC ok62 (by simp) (fldsV_plain l f) fun hs hb => ?_
  have hmem : ∀ o ∈ flatL l, o.length = l.length ∧ (∀ a ∈ o, 0 ≤ a ∧ a < l.length) ∧ o.Nodup := fun o ho => flatL_mem ho
  have hlen := flatL_len m2
  unfold fldsV
  rw [foldL_flat]
  unfold ordsV at c65
  generalize flatL l = F at c65 hmem hlen ⊢
  have hav : asV 1 (outV 1 (F.map slV)) = some (F.map slV) := asV_outV (by simp; omega)
  have hal : alenK false (outV 1 (F.map slV)) = some (.int .i64 (F.length : Int)) := by rw [alen_out]; simp
  have hix : ∀ (i : Nat) (h : i < F.length), aidxS 1 (outV 1 (F.map slV)) (.int .i64 (i : Int)) = some (.ptr (slV F[i])) := fun i h => by
    rw [idxV hav (by simpa using h)]; simp
  generalize outV 1 (F.map slV) = all at c65 hal hix
  simp only [A62, R62]
  simp [asI_ld hx, c65]
  refine At.loop (fun (i : Nat) s => i ≤ F.length ∧ s.env 1 = .ptr (.agg [x, .str (bs f)]) ∧ s.env 3 = all ∧ s.env 5 = .int .i64 (i : Int) ∧ Outs 1 s.hs (s.env 4) (((F.take i).filter fun o => decide (crsL (hO o) (l.length - 1) = f)).map slV)) (fun i => F.length - i) 0 ?_ ?_
  · simp; exact .nil
  rintro N i s hN ⟨hi, e1, e3, e5, ho⟩
  simp [e3, e5, hal]
  refine At.dec (fun hlt => ?_) (fun hlt => ?_)
  · have hi' : i < F.length := by omega
    have hxi := hix i hi'
    have hft := filter_take_succ hi' (fun o => decide (crsL (hO o) (l.length - 1) = f))
    obtain ⟨hol, hor, hod⟩ := hmem F[i] (List.getElem_mem _)
    obtain ⟨o, hoe⟩ : ∃ o, F[i] = o := ⟨_, rfl⟩
    rw [hoe] at hxi hft hol hor hod
    have hso : asI (slV o) = some o := asI_sl (by omega)
    have w1 := wrap_nat1 (show i < _ by omega)
    have hsl : slV o = .sl 1 (ints o) .shared := rfl
    simp
    refine At.any_to (fun s1 => s1.env 1 = .ptr (.agg [x, .str (bs f)]) ∧ s1.env 3 = all ∧ s1.env 5 = .int .i64 (i : Int) ∧ Outs 1 s1.hs (s1.env 4) (((F.take i).filter fun o => decide (crsL (hO o) (l.length - 1) = f)).map slV) ∧ s1.env 23 = .bool (decide (crsL (hO o) (l.length - 1) = f))) ?_ ?_
    · refine At.any_q 0 endN_p rfl rfl rfl ?_
      simp [e3]
      refine At.any_q 1 endN_p rfl rfl rfl ?_
      simp [e5]
      refine At.any_q 2 endN_p rfl rfl rfl ?_
      simp [hxi]
      refine At.any_l 3 endN_p rfl rfl ⟨slV o, by simp⟩ ?_
      simp [asI_ld hso]
      refine At.any_q 6 endN_p rfl rfl rfl ?_
      simp [e1]
      refine At.any_l 7 endN_p rfl rfl ⟨.str (bs f), by simp⟩ ?_
      simp
      refine At.any_o 4 rfl rfl ?_
      simp
      refine At.hc (p56 (hs := s.hs) (RdI.of (n := s.hs.nh) hso) (Nat.le_refl _) (by omega) (by rw [hol]; exact hor) hod) ?_ ?_
      · rintro v hs2 ⟨hv, hs2e⟩
        injection hv with hv; subst hv
        rw [hol] at hs2e ⊢
        have ho2 : Outs 1 hs2 (s.env 4) (((F.take i).filter fun o => decide (crsL (hO o) (l.length - 1) = f)).map slV) := ho.cong (by rw [hs2e]; rfl) (by rw [hs2e]; rfl)
        obtain ⟨c, hfz⟩ := frz_heights (hp := hs2.heap) (b := s.hs.nh) (L := hL l.length (hO o)) (n := l.length) (by rw [hs2e]; simp) (hL_len _ _)
        have hzi : asI (.sl 1 (ints (hL l.length (hO o))) c) = some (hL l.length (hO o)) := asI_sl (by rw [hL_len]; omega)
        have k57 := c57 hzi
        have a57 : alcall C 57 hs2 [.msl false 1 s.hs.nh 0 l.length true] = some (.str (bs (crsL (hO o) (l.length - 1)))) := by
          unfold alcall
          rw [show [AV.msl false 1 s.hs.nh 0 l.length true].map (frz hs2.heap 2) = [.sl 1 (ints (hL l.length (hO o))) c] by rw [List.map_cons, hfz]; rfl, k57]
          rfl
        clear hs2e
        refine At.any_o 5 rfl rfl ?_
        simp [a57]
        refine At.any_o 8 rfl rfl ?_
        simp
        refine At.any_e rfl ?_
        simp [e1, e3, e5]
        exact At.of ho2
      · rintro v hs2 ⟨hv, _⟩; cases hv
    rintro s1 ⟨e1, e3, e5, ho, e23⟩
    by_cases hc : crsL (hO o) (l.length - 1) = f
    · have hap := append_outs (q := .sl 1 [slV o] .exact) (ys := [slV o]) ho (asV_sl (by simp)) (by
        have := List.length_filter_le (fun o => decide (crsL (hO o) (l.length - 1) = f)) (F.take i)
        rw [List.length_take] at this
        simp; omega)
      obtain ⟨y, hs', a1, a2, a3⟩ := hap
      rw [show [slV o].map AV.share = [slV o] by simp [slV]] at a2
      generalize hso2 : slV o = so at *
      have hst : so.sto = true := by rw [← hso2]; rfl
      have hce : so.cells = [so] := by rw [← hso2]; rfl
      simp [e23, hc, e3, e5, hxi, asI_ld hso, astoAll, hst, hce, a1, w1]
      refine hN (i + 1) _ (by omega) ⟨by omega, ?_⟩
      simp [e1, e3]
      rw [hft]
      simp [hc, hso2]
      exact a2
    · simp [e23, hc, e5, w1]
      refine hN (i + 1) _ (by omega) ⟨by omega, ?_⟩
      simp [e1, e3]
      rw [hft]
      simp [hc]
      exact ho
  · have : i = F.length := by omega
    subst this
    rw [List.take_length] at ho
    have := ho.sh
    simp
    exact this
theorem slV_out {o : List Int} (h : o ≠ []) : slV o = outV 1 (ints o) := by
  rw [outV_ne (by intro h'; exact h (by simpa [ints] using h'))]; rfl
theorem foldL_ne {l : List Int} {f : List UInt8} (h : 1 ≤ l.length) {o : List Int} (ho : o ∈ foldL l f) : o ≠ [] := perms_ne h o (List.mem_filter.1 ho).1
def SFo : AV → List Int → List UInt8 → Option AV := fun _ l f => if chk l f = 0 then some (fldsV l f) else none
def S65 : List AV → Option AV
  | [x] => match asI x with
    | some l => if meas l = 0 then some (ordsV l) else none
    | none => none
  | _ => none
theorem S65_ok : ∀ a r, S65 a = some r → PCall Tryd.prog 65 a r := by
  intro a r e
  unfold S65 at e
  split at e <;> (try (cases e; done))
  split at e <;> (try (cases e; done))
  rename_i l hl
  split at e <;> (try (cases e; done))
  rename_i h
  injection e with e; subst e
  exact p65 hl h
theorem SFo_ok : ∀ a r, SS SFo a = some r → PCall Tryd.prog 62 a r := SS_ok fun x l s r hx e => by
  simp only [SFo] at e
  split at e <;> (try (cases e; done))
  rename_i hc
  injection e with e; subst e
  exact p62 hx (chk_0 hc).1
def C9 : PCtx := (C8.add 62 (SS SFo)).add 65 S65
theorem C9ok : CtxOk Tryd.prog C9 := (C8ok.add SFo_ok).add S65_ok
theorem C9_62 : C9 62 = SS SFo := id rfl
theorem C9_65 : C9 65 = S65 := id rfl
theorem p24 {x : AV} {l : List Int} (hx : asI x = some l) (f : List UInt8) : PCall Tryd.prog 24 [.agg [x, .str (bs f)]] (ordV l f) := by
  refine PCall.of C9ok ok24 (by simp) (ordV_plain l f) fun hs hb => ?_
  have c20 : C9 20 [.agg [x, .str (bs f)]] = some (.int .i64 (chk l f)) := chk_i hx
  by_cases hc : chk l f = 0
  rotate_left
  · simp [A24, R24, c20, hc, ordV]
  obtain ⟨hm, hfl, _⟩ := chk_0 hc
  obtain ⟨m1, m2, m3, m4⟩ := meas_0 hm
  have c62 : C9 62 [.agg [x, .str (bs f)]] = some (fldsV l f) := by
    rw [C9_62, SS_i hx]
    simp [SFo, hc]
  have hne := fun o => foldL_ne (l := l) (f := f) m1 (o := o)
  have hlen : (foldL l f).length ≤ 823543 := Nat.le_trans (List.length_filter_le _ _) (perms_len m2)
  unfold fldsV at c62
  have hov : ordV l f = if foldL l f = [] then .tup [.nilsl, .int .i64 14] else .tup [outV 1 (ints ((foldL l f).head?.getD [])), .int .i64 0] := by unfold ordV; rw [if_neg (by simp [hc])]
  rw [hov]
  cases hf : foldL l f with
  | nil =>
    rw [hf] at c62
    have c62' : C9 62 [.agg [x, .str (bs f)]] = some .nilsl := c62
    simp [A24, R24, c20, hc, c62']
  | cons o F =>
    rw [hf] at c62 hne hlen
    have hav : asV 1 (outV 1 ((o :: F).map slV)) = some ((o :: F).map slV) := asV_outV (by simp; simp at hlen; omega)
    have hal : alenK false (outV 1 ((o :: F).map slV)) = some (.int .i64 ((F.length + 1 : Nat) : Int)) := by rw [alen_out]; simp
    have hix : aidxS 1 (outV 1 ((o :: F).map slV)) (.int .i64 0) = some (.ptr (slV o)) := by
      have := idxV hav (k := .i64) (i := 0) (by simp)
      simpa using this
    have hso : aload hs.heap false 1 (.ptr (slV o)) = some (slV o) := rfl
    have hsh : (slV o).share = outV 1 (ints o) := by rw [slV_out (hne o (by simp)), share_outV]
    have hn0 : ¬ ((F.length + 1 : Nat) : Int) = 0 := by omega
    generalize outV 1 ((o :: F).map slV) = all at c62 hal hix
    generalize ((F.length + 1 : Nat) : Int) = fl at hal hn0
    generalize slV o = so at hix hso hsh
    simp [A24, R24, c20, hc, c62, hal, hix, hso, hsh, hn0]
theorem p26 {x : AV} {l : List Int} (hx : asI x = some l) (f : List UInt8) : PCall Tryd.prog 26 [.agg [x, .str (bs f)]] (cntV l f) := by
  refine PCall.of C9ok ok26 (by simp) (cntV_plain l f) fun hs hb => ?_
  have c20 : C9 20 [.agg [x, .str (bs f)]] = some (.int .i64 (chk l f)) := chk_i hx
  by_cases hc : chk l f = 0
  rotate_left
  · simp [A26, R26, c20, hc, cntV]
  have c62 : C9 62 [.agg [x, .str (bs f)]] = some (fldsV l f) := by
    rw [C9_62, SS_i hx]
    simp [SFo, hc]
  have hal : alenK false (fldsV l f) = some (.int .i64 ((foldL l f).length : Int)) := by unfold fldsV; rw [alen_out]; simp
  simp [A26, R26, c20, hc, c62, hal, cntV]
theorem p28 {x : AV} {l : List Int} (hx : asI x = some l) : PCall Tryd.prog 28 [x] (allV l) := by
  refine PCall.of C9ok ok28 (by simp) (allV_plain l) fun hs hb => ?_
  have c50 : C9 50 [x] = some (.int .i64 (meas l)) := SI_i hx
  by_cases hm : meas l = 0
  rotate_left
  · simp [A28, R28, c50, hm, allV]
  have c65 : C9 65 [x] = some (ordsV l) := by
    rw [C9_65]
    simp [S65, hx, hm]
  have hal : alenK false (ordsV l) = some (.int .i64 ((flatL l).length : Int)) := by unfold ordsV; rw [alen_out]; simp
  simp [A28, R28, c50, hm, c65, hal, allV]
end Go.Proofs.YtedpcenghofpoaaDoor
