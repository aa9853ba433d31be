/-
  Missing rods: how many, and that they make the rack stiff. Own work.
  Freedom and Trim: the reference's, and the rack's. Own work.
  Trim. Own work.
  Trim, after the reference. Own work.
  What Trim takes reaches as far as all braces. Own work.
  The law of rods. Own work.
  Detours: the search. Own work.
  Detours: the search of a row. Own work.
  Detours: the search of a column, and both. Own work.
  Detour, the whole. Own work.
  Ways, twice, and the error of Detour after the reference. Own work.
  Ways of braces are accepted. Own work.
  The law of detours. Own work.
-/
import Derived.Test.YtecbbbocjmdfgaaG2
set_option linter.unusedVariables false
set_option linter.unusedSimpArgs false
namespace Go.Proofs.Ytecbbbocjmdfgaa
open Go Fw

abbrev rkL (R : Rk) (l : List Br) : Rk := ⟨R.r, R.c, l⟩
/-- what a step of Missing keeps -/
structure MisT (R : Rk) (p : List Br × List Br) : Prop where
  ok : OkR (rkL R p.1)
  rod : allRod p.1 = true
  app : p.1 = R.b ++ p.2
  cnt : (gmR (rkL R p.1)).length + p.2.length = (gmR R).length
  two : ∀ b ∈ p.2, okB R.r R.c b ∧ b.2.2 = 0
theorem MisT.step {R : Rk} {p : List Br × List Br} (h : MisT R p) {b : Br} (hb : okB R.r R.c b) (hk : b.2.2 = 0) :
    MisT R (misStep R b p) ∧ Rt (Ed (rkL R (misStep R b p).1)) b.1.toNat (R.r.toNat + b.2.1.toNat) ∧ (∀ x y, Rt (Ed (rkL R p.1)) x y → Rt (Ed (rkL R (misStep R b p).1)) x y) := by
  obtain ⟨h1, h2, h3, h4, h5⟩ := h
  have ha := gm_add (R := rkL R p.1) h1 h2 hb hk
  unfold misStep
  by_cases hm : misOk R b p.1 = true
  · rw [if_pos hm]
    exact ⟨⟨h1, h2, h3, h4, h5⟩, ((misOk_iff (R := R) h1 hb).1 hm).1, fun x y h => h⟩
  · rw [if_neg hm]
    rw [if_neg (show ¬ misOk (rkL R p.1) b (rkL R p.1).b = true from hm)] at ha
    refine ⟨⟨ok_add h1 hb, rod_add (R := rkL R p.1) h2 hk, by simp [h3], ?_, ?_⟩, ?_, ?_⟩
    · simp only [List.length_append, List.length_singleton]
      show (gmR (addR (rkL R p.1) b)).length + _ = _
      omega
    · intro x hx
      rcases List.mem_append.1 hx with hx | hx
      · exact h5 x hx
      · simp only [List.mem_singleton] at hx; subst hx; exact ⟨hb, hk⟩
    · exact .one (ed_add (R := rkL R p.1).2 (.inr (.inl ⟨by rw [hk]; decide, rfl, rfl⟩)))
    · exact fun x y h => h.mono fun _ _ e => ed_add (R := rkL R p.1).2 (.inl e)
theorem misC_T {R : Rk} (h : OkR R) (hr : allRod R.b = true) : ∀ {k : Nat}, (k : Int) ≤ R.c → MisT R (misC R k) ∧ ∀ j, j < k → Rt (Ed (rkL R (misC R k).1)) 0 (R.r.toNat + j)
  | 0, _ => ⟨⟨h, hr, by simp [misC], by simp [misC], by simp [misC]⟩, fun j hj => by omega⟩
  | k + 1, hk => by
    obtain ⟨h1, h2⟩ := misC_T h hr (k := k) (by omega)
    have hb : okB R.r R.c (0, (k : Int), 0) := by have := h.r1; unfold okB; simp; omega
    obtain ⟨q1, q2, q3⟩ := h1.step hb rfl
    refine ⟨q1, fun j hj => ?_⟩
    rcases Nat.lt_or_ge j k with h' | h'
    · exact q3 _ _ (h2 j h')
    · have : j = k := by omega
      subst this; exact q2
theorem misR_T {R : Rk} (h : OkR R) (hr : allRod R.b = true) {c : Nat} (hc : (c : Int) ≤ R.c) : ∀ {k : Nat}, (k : Int) ≤ R.r →
    MisT R (misR R c k) ∧ (∀ j, j < c → Rt (Ed (rkL R (misR R c k).1)) 0 (R.r.toNat + j)) ∧ ∀ i, i < k → Rt (Ed (rkL R (misR R c k).1)) i (R.r.toNat + 0)
  | 0, _ => ⟨(misC_T h hr hc).1, (misC_T h hr hc).2, fun j hj => by omega⟩
  | k + 1, hk => by
    obtain ⟨h1, h2, h3⟩ := misR_T h hr hc (k := k) (by omega)
    have hb : okB R.r R.c ((k : Int), 0, 0) := by have := h.c1; unfold okB; simp; omega
    obtain ⟨q1, q2, q3⟩ := h1.step hb rfl
    refine ⟨q1, fun j hj => q3 _ _ (h2 j hj), fun i hi => ?_⟩
    rcases Nat.lt_or_ge i k with h' | h'
    · exact q3 _ _ (h3 i h')
    · have : i = k := by omega
      subst this; exact q2
theorem one_of {R : Rk} (h : OkR R) : (gmR R).length = 1 ↔ ∀ k, k < nR R → Both R 0 k := by
  have hs := same_of h (-1) (R' := R) rfl rfl (fun x y => arrow_all)
  have hn := pos_n h
  unfold gmR
  rw [one_iff hs hn]
  exact ⟨fun ha k hk => (both_iff h hn hk).1 (ha k hk), fun ha k hk => (both_iff h hn hk).2 (ha k hk)⟩
/-- the rack with what was missing -/
def fulR (R : Rk) : Rk := rkL R (R.b ++ misL R)
theorem mis_all {R : Rk} (h : OkR R) (hr : allRod R.b = true) : (gmR R).length = (misL R).length + 1 ∧ OkR (fulR R) ∧ allRod (fulR R).b = true ∧ (gmR (fulR R)).length = 1 ∧ ∀ b ∈ misL R, okB R.r R.c b ∧ b.2.2 = 0 := by
  have h1 := h.r1
  have h2 := h.c1
  obtain ⟨q1, q2, q3⟩ := misR_T h hr (c := R.c.toNat) (by omega) (k := R.r.toNat) (by omega)
  have hf : fulR R = rkL R (misR R R.c.toNat R.r.toNat).1 := by rw [q1.app]; rfl
  have hone : (gmR (fulR R)).length = 1 := by
    rw [hf, one_of q1.ok]
    intro k hk
    rw [both_rod q1.rod]
    have hsy : ∀ {x y}, Rt (Ed (rkL R (misR R R.c.toNat R.r.toNat).1)) x y → Rt (Ed (rkL R (misR R R.c.toNat R.r.toNat).1)) y x := fun h => h.symm fun _ _ => Ed.symm q1.rod
    rcases Nat.lt_or_ge k R.r.toNat with hk' | hk'
    · exact (q3 0 (by omega)).trans (hsy (q3 k hk'))
    · have := q2 (k - R.r.toNat) (by simp only [nR] at hk; omega)
      rw [show R.r.toNat + (k - R.r.toNat) = k by omega] at this
      exact this
  refine ⟨?_, hf ▸ q1.ok, by rw [hf]; exact q1.rod, hone, q1.two⟩
  have := q1.cnt
  rw [← hf, hone] at this
  show _ = (misR R R.c.toNat R.r.toNat).2.length + 1
  omega
theorem rodE_iff {R : Rk} : rodE R = 0 ↔ chkR R = 0 ∧ allRod R.b = true := by
  unfold rodE
  by_cases h : chkR R = 0
  · rw [if_pos h]
    cases allRod R.b <;> simp [h]
  · rw [if_neg h]; simp [h]
theorem fd_eq {R : Rk} (h : rodE R = 0) : fdR R = ((gmR R).length : Int) - 1 := by
  obtain ⟨h1, h2⟩ := rodE_iff.1 h
  have := (mis_all (chkR_zero.1 h1).1 h2).1
  rw [fdR, if_pos h]
  omega
end Go.Proofs.Ytecbbbocjmdfgaa
set_option linter.unusedVariables false
set_option linter.unusedSimpArgs false
namespace Go.Proofs.Ytecbbbocjmdfgaa
open Go Fw

@[simp] theorem D16_20 : D16 20 = SGmR := id rfl
theorem rodP {l : List Br} {i : Nat} (h : i < l.length) : allRod (l.take (i + 1)) = (allRod (l.take i) && decide (l[i].2.2 = 0)) := by
  simp only [allRod, take_snoc h, List.all_append, List.all_cons, List.all_nil, Bool.and_true]
/-- the reference's freedom -/
theorem p28 {x : AV} {R : Rk} (hx : asR x = some R) : PCall Try.prog 28 [x] (fdV R) := by
  obtain ⟨v1, v2, v3, v4, v5, v6, v7, v8⟩ := RkV.of hx
  refine PCall.of D16ok ok28 (by simp) rfl fun hs' hb => ?_
  have hlen := (asB_inv v8).2.2
  obtain ⟨e0, he0⟩ : ∃ e0, e0 = chkR R := ⟨_, rfl⟩
  obtain ⟨g, hg, hgl⟩ : ∃ g, gmV R = .tup [g, .int .i64 e0] ∧ (e0 = 0 → alenK false g = some (.int .i64 ((gmR R).length : Int))) := by
    unfold gmV
    rw [he0]
    split
    · rename_i h; exact ⟨_, by rw [h], fun _ => by rw [alen_outV]; simp⟩
    · rename_i h; exact ⟨_, rfl, fun h' => absurd h' h⟩
  simp [A28, R28, v2, v3, SGmR_i hx, hg]
  refine At.loop (fun (i : Nat) s => i ≤ R.b.length ∧ s.env 1 = .ptr x ∧ s.env 4 = g ∧ s.env 5 = .int .i64 (if e0 = 0 then (if allRod (R.b.take i) = true then 0 else 10) else e0) ∧ s.env 6 = .int .i64 (i : Int)) (fun i => R.b.length - i) 0 ?_ ?_
  · simp [allRod]
  rintro N i s hN ⟨hi, e1, e4, e5, e6⟩
  simp [e1, e6, v6, v7, blen v8]
  refine At.dec (fun hlt => ?_) (fun hlt => ?_)
  · have hi' : i < R.b.length := by omega
    have f2 : ∀ b : Br, afaddr false 1 2 (.ptr (.agg [.int .i64 b.1, .int .i64 b.2.1, .int .i64 b.2.2])) = some (.ptr (.int .i64 b.2.2)) := fun _ => rfl
    have hrd := rodP hi'
    by_cases h0 : e0 = 0
    · cases ha : allRod (R.b.take i) with
      | true =>
        by_cases hk : R.b[i].2.2 = 0
        · simp [e1, e5, e6, h0, ha, v6, v7, bidx v8 hi', f2, hk]
          refine hN (i + 1) _ (by omega) ⟨by omega, ?_⟩
          simp [e1, e4, e5, h0, ha, hrd, hk, wrap_nat1 (show i < _ by omega)]
        · simp [e1, e5, e6, h0, ha, v6, v7, bidx v8 hi', f2, hk]
          refine hN (i + 1) _ (by omega) ⟨by omega, ?_⟩
          simp [e1, e4, e5, h0, ha, hrd, hk, wrap_nat1 (show i < _ by omega)]
      | false =>
        simp [e1, e5, e6, h0, ha]
        refine hN (i + 1) _ (by omega) ⟨by omega, ?_⟩
        simp [e1, e4, e5, h0, ha, hrd, wrap_nat1 (show i < _ by omega)]
    · simp [e1, e5, e6, h0]
      refine hN (i + 1) _ (by omega) ⟨by omega, ?_⟩
      simp [e1, e4, e5, h0, wrap_nat1 (show i < _ by omega)]
  · have hi' : i = R.b.length := by omega
    subst hi'
    rw [List.take_length] at e5
    have hro : (if e0 = 0 then (if allRod R.b = true then 0 else 10) else e0) = rodE R := by
      rw [he0]; unfold rodE
      by_cases h : chkR R = 0 <;> simp [h]
    rw [hro] at e5
    by_cases hr : rodE R = 0
    · have h0 : e0 = 0 := by rw [he0]; exact (rodE_iff.1 hr).1
      have hfd := fd_eq hr
      have hgl2 := gm_len (chkR_zero.1 (rodE_iff.1 hr).1).1
      have hnc : nc (bothM (rcR R)) (nR R) ≤ nR R := by
        unfold nc
        exact Nat.le_trans List.countP_le_length (by simp)
      have hok := (chkR_zero.1 (rodE_iff.1 hr).1).1
      have h6 := hok.r6
      have h7 := hok.c6
      have hw : IntKind.i64.wrap (((gmR R).length : Int) - 1) = ((gmR R).length : Int) - 1 := wrap64 (by omega) (by have hnn : nR R = R.r.toNat + R.c.toNat := rfl; omega)
      simp [e5, hr, e4, hgl h0, hw, fdV, hfd]
    · simp [e5, hr, fdV, fdR]
def SFre2 : List AV → Option AV := SFree
theorem c28 : ∀ a r, SFree a = some r → PCall Try.prog 28 a r := by
  intro a r h
  unfold SFree at h
  split at h <;> (try (cases h; done))
  obtain ⟨R, h1, rfl⟩ := optmap_some h
  exact p28 h1
def D17 : PCtx := D16.add 28 SFree
theorem D17ok : CtxOk Try.prog D17 := D16ok.add c28
@[simp] theorem D17_28 : D17 28 = SFree := id rfl
@[simp] theorem D17_27 : D17 27 = SFree := id rfl
@[simp] theorem D17_29 : D17 29 = SMiss := id rfl
@[simp] theorem D17_54 : D17 54 = SFrame := id rfl
@[simp] theorem D17_57 : D17 57 = STog := id rfl
@[simp] theorem D17_56 : D17 56 = SHas := id rfl
/-- a copy of a list of braces, and one more -/
theorem copyB {hs : HS} {y : AV} {L : List Br} (hy : asB y = some L) (hl : L.length ≤ 1000000) (b : Br) :
    ∃ y1 hs1 z hs2, aappend 3 hs (.sl 3 [] .exact) y = some (y1, hs1) ∧ aappend 3 hs1 y1 (.sl 3 [brA b] .exact) = some (z, hs2) ∧ asB z = some (L ++ [b]) ∧ z.cells = [z] ∧ z.sto = true ∧ SameMem hs hs2 ∧ (∀ {w : AV}, Fresh hs w → Fresh hs2 w) ∧ Fresh hs2 z ∧ (∀ {w : AV}, Fresh hs w → Apart z w) ∧ SameMem hs hs1 := by
  obtain ⟨h1, _, h3⟩ := asB_inv hy
  obtain ⟨y1, hs1, b1, b2, b3, b4, b5, b6, b7⟩ := append_fresh (sz := 3) (hs := hs) (x := .sl 3 [] .exact) (q := y) (l := []) (ys := brs L) trivial rfl rfl h1 (by simp; omega)
  obtain ⟨z, hs2, d1, d2, d3, d4, d5, d6, d7⟩ := append_fresh (sz := 3) (q := .sl 3 [brA b] .exact) (ys := [brA b]) b2 b3 b4 (asV_sl (by simp)) (by simp; omega)
  have hb : brs L ++ [brA b] = brs (L ++ [b]) := by simp [brs, brA]
  have hap : ∀ {w : AV}, Apart (.sl 3 [] .exact) w := fun k h => by simp [tk] at h
  refine ⟨y1, hs1, z, hs2, b1, d1, ?_, ?_, ?_, b6.trans d6, fun hw => ?_, d2, fun hw => ?_, b6⟩
  · rcases d5 with ⟨_, h⟩ | ⟨k, e⟩
    · cases h
    · rw [e]; simp only [List.nil_append]; rw [hb]; exact asB_sl (by simp; omega)
  · rcases d5 with ⟨_, h⟩ | ⟨k, e⟩
    · cases h
    · rw [e]; rfl
  · rcases d5 with ⟨_, h⟩ | ⟨k, e⟩
    · cases h
    · rw [e]; rfl
  · obtain ⟨c1, c2⟩ := b7 hw hap
    exact (d7 c1 c2).1
  · obtain ⟨c1, c2⟩ := b7 hw hap
    exact (d7 c1 c2).2
end Go.Proofs.Ytecbbbocjmdfgaa
set_option linter.unusedVariables false
set_option linter.unusedSimpArgs false
namespace Go.Proofs.Ytecbbbocjmdfgaa
open Go Fw

/-- the braces that are taken: their indices, and themselves -/
def trK (R : Rk) : Nat → List Int × List Br
  | 0 => ([], [])
  | i + 1 => if misOk R (R.b.getD i (0, 0, 0)) (trK R i).2 = true then trK R i else ((trK R i).1 ++ [(i : Int)], (trK R i).2 ++ [R.b.getD i (0, 0, 0)])
def trV (R : Rk) : AV := if rodE R = 0 then (if 0 < fdR R then .tup [.nilsl, .int .i64 22] else .tup [outV 1 (ints (trK R R.b.length).1), .int .i64 0]) else .tup [.nilsl, .int .i64 (rodE R)]
theorem trV_plain (R : Rk) : (trV R).plain = true := by
  unfold trV
  split
  · split
    · rfl
    · simp only [AV.plain, plainL, plain_outI, Bool.and_self]
  · rfl
structure TrI (R : Rk) (i : Nat) : Prop where
  ok : OkR (rkL R (trK R i).2)
  rod : allRod R.b = true → allRod (trK R i).2 = true
  l2 : (trK R i).2.length ≤ i
  l1 : (trK R i).1.length ≤ i
  mem : ∀ b ∈ (trK R i).2, b ∈ R.b
theorem getD_mem {R : Rk} {i : Nat} (hi : i < R.b.length) : R.b.getD i (0, 0, 0) ∈ R.b := by
  rw [List.getD_eq_getElem?_getD, List.getElem?_eq_getElem hi]
  exact List.getElem_mem hi
theorem trK_inv {R : Rk} (h : OkR R) : ∀ {i : Nat}, i ≤ R.b.length → TrI R i
  | 0, _ => ⟨⟨h.r1, h.r6, h.c1, h.c6, by simp [trK]⟩, by simp [trK, allRod], by simp [trK], by simp [trK], by simp [trK]⟩
  | i + 1, hi => by
    obtain ⟨h1, h2, h3, h4, h5⟩ := trK_inv h (i := i) (by omega)
    have hm := getD_mem (R := R) (i := i) (by omega)
    constructor
    · simp only [trK]; split
      · exact h1
      · exact ok_add h1 (h.b _ hm)
    · intro hr; simp only [trK]; split
      · exact h2 hr
      · exact rod_add (R := rkL R (trK R i).2) (h2 hr) (allRod_iff.1 hr _ hm)
    · simp only [trK]; split
      · omega
      · simp; omega
    · simp only [trK]; split
      · omega
      · simp; omega
    · simp only [trK]; split
      · exact h5
      · intro b hb
        rcases List.mem_append.1 hb with hb | hb
        · exact h5 b hb
        · simp only [List.mem_singleton] at hb; subst hb; exact hm
theorem trK_succ {R : Rk} {i : Nat} (hi : i < R.b.length) : trK R (i + 1) = if misOk R R.b[i] (trK R i).2 = true then trK R i else ((trK R i).1 ++ [(i : Int)], (trK R i).2 ++ [R.b[i]]) := by
  have : R.b.getD i (0, 0, 0) = R.b[i] := by rw [List.getD_eq_getElem?_getD, List.getElem?_eq_getElem hi]; rfl
  simp only [trK, this]
theorem asB_outs {hs : HS} {y : AV} {l : List Br} (h : Outs 3 hs y (brs l)) (hl : l.length < 4294967296) : asB y = some l := by
  obtain ⟨b, h1, h2⟩ := asR_inv (asR_outs (r := 0) (c := 0) h hl)
  injection h1 with h1
  injection h1 with _ h1
  injection h1 with _ h1
  injection h1 with h1 _
  rw [h1]; exact h2
/-- the rack's question: does a brace's row keep together with its column -/
theorem frame_q {R : Rk} {L : List Br} (hok : OkR (rkL R L)) {y : AV} (hy : asB y = some L) {b : Br} (hb : okB R.r R.c b) :
    ∃ V u, SFrame [.agg [.int .i64 R.r, .int .i64 R.c, y], .int .i64 (-1)] = some V ∧ STog [V, .int .i64 b.1] = some u ∧ SHas [u, .int .i64 (R.r + b.2.1)] = some (.bool (misOk R b L)) := by
  obtain ⟨k1, k2, k3, k4, k5, k6⟩ := hb
  have r1 := hok.r1
  have r6 := hok.r6
  have c1 := hok.c1
  have c6 := hok.c6
  simp only at r1 r6 c1 c6
  have hmr := asR_mk (r := R.r) (c := R.c) hy
  obtain ⟨ρ, hρ⟩ : ∃ ρ : Nat, b.1 = (ρ : Int) := ⟨b.1.toNat, by omega⟩
  obtain ⟨κ, hκ⟩ : ∃ κ : Nat, R.r + b.2.1 = (κ : Int) := ⟨(R.r + b.2.1).toNat, by omega⟩
  have hfr := SFrame_i hmr hok (-1)
  have hF := asF_frV (x := .agg [.int .i64 R.r, .int .i64 R.c, y]) hok (-1)
  have hlen : (frF (rkL R L) (-1)).arr.length = R.r.toNat + R.c.toNat := by simp only [frF, arrS_len]
  have hT := STog_i hF (i := ρ) (by rw [hlen]; omega)
  rw [hlen] at hT
  have htl := togS_lt (arr := (frF (rkL R L) (-1)).arr) (i := ρ) (k := R.r.toNat + R.c.toNat) (by omega)
  have hH := SHas_i htl (show κ < 16 by omega)
  have hmo : misOk R b L = (togS (frF (rkL R L) (-1)).arr ρ (R.r.toNat + R.c.toNat)).testBit κ := by
    unfold misOk
    rw [show b.1.toNat = ρ by omega, show R.r.toNat + b.2.1.toNat = κ by omega]
  refine ⟨_, _, hfr, by rw [hρ]; exact hT, ?_⟩
  rw [hκ, hmo]; exact hH
theorem p30 {x : AV} {R : Rk} (hx : asR x = some R) : PCall Try.prog 30 [x] (trV R) := by
  obtain ⟨v1, v2, v3, v4, v5, v6, v7, v8⟩ := RkV.of hx
  refine PCall.of D17ok ok30 (by simp) (trV_plain R) fun hs' hb => ?_
  by_cases hr : rodE R = 0
  rotate_left
  · simp [A30, R30, v2, v3, SFree_i hx, fdV, hr, trV]
  by_cases hf : 0 < fdR R
  · simp [A30, R30, v2, v3, SFree_i hx, fdV, hr, trV, hf]
  obtain ⟨hok, hlen⟩ := chkR_zero.1 (rodE_iff.1 hr).1
  have hres : trV R = .tup [outV 1 (ints (trK R R.b.length).1), .int .i64 0] := by rw [trV, if_pos hr, if_neg hf]
  rw [hres]
  simp [A30, R30, v2, v3, v4, v5, v6, v7, blen v8, SFree_i hx, fdV, hr, hf, afill, si, ci, sa, ca, setL, astore, env_none]
  generalize hm : hs'.nh = m
  refine At.loop (fun (i : Nat) s => i ≤ R.b.length ∧ s.env 1 = .ptr x ∧ s.env 7 = .ref m 0 ∧ s.env 28 = rb x ∧ s.env 29 = .int .i64 (R.b.length : Int) ∧ s.env 30 = .int .i64 (i : Int) ∧ m < s.hs.nh ∧
    Outs 1 s.hs (s.env 6) (ints (trK R i).1) ∧ ∃ y, s.hs.heap m = some [.int .i64 R.r, .int .i64 R.c, y] ∧ Outs 3 s.hs y (brs (trK R i).2) ∧ Apart y (s.env 6)) (fun i => R.b.length - i) 0 ?_ ?_
  · simp [trK, hm]
    exact ⟨.nil, .nil⟩
  rintro N i s hN ⟨hi, e1, e7, e28, e29, e30, hlt, ho, y, hy, hfy, hap⟩
  simp [e29, e30]
  refine At.dec (fun hlt2 => ?_) (fun hlt2 => ?_)
  · have hi' : i < R.b.length := by omega
    have hI := trK_inv hok (i := i) (by omega)
    have hay := asB_outs hfy (by have := hI.l2; omega)
    have hT := trK_succ hi'
    obtain ⟨b, hb⟩ : ∃ b, b = R.b[i] := ⟨_, rfl⟩
    rw [← hb] at hT
    have hbo : okB R.r R.c b := by rw [hb]; exact hok.b _ (List.getElem_mem hi')
    obtain ⟨k1, k2, k3, k4, k5, k6⟩ := hbo
    obtain ⟨V, u, q1, q2, q3⟩ := frame_q hI.ok hay (b := b) ⟨k1, k2, k3, k4, k5, k6⟩
    have r6 := hok.r6
    have c6 := hok.c6
    have hbi := bidx v8 hi' (k := .i64)
    rw [← hb] at hbi
    have hst : (brA b).sto = true := rfl
    have gl : ∀ h, aload h true 3 (.ptr (brA b)) = some (brA b) := fun _ => rfl
    have hbi' : aidxS 3 (rb x) (.int .i64 (i : Int)) = some (.ptr (brA b)) := hbi
    have hbc : (brA b).cells = [.int .i64 b.1, .int .i64 b.2.1, .int .i64 b.2.2] := rfl
    have hwk : IntKind.i64.wrap (R.r + b.2.1) = R.r + b.2.1 := wrap64 (by omega) (by omega)
    have ne1 : ¬ m = s.hs.nh := by omega
    have ne2 : ¬ s.hs.nh = m := by omega
    simp [e1, e7, e28, e30, hbi', gl, astore, hst, hbc, setL, env_none, la, ne1, ne2, hy, apart, q1, v4, fa, hwk, q2, q3]
    cases hmo : misOk R b (trK R i).2 with
    | true =>
      rw [hmo, if_pos rfl] at hT
      simp [e30]
      refine hN (i + 1) _ (by omega) ⟨by omega, ?_⟩
      simp [e1, e7, e28, e29, wrap_nat1 (show i < _ by omega), hT, ne1]
      exact ⟨by omega, ho.cong rfl rfl, y, hy, hfy.cong rfl rfl, hap⟩
    | false =>
      rw [hmo, if_neg (by simp)] at hT
      generalize hH1 : ({ heap := fun k => if k = s.hs.nh then some [.int .i64 b.1, .int .i64 b.2.1, .int .i64 b.2.2] else if k = s.hs.nh then some [.int .i64 0, .int .i64 0, .int .i64 0] else s.hs.heap k, nh := s.hs.nh + 1, nt := s.hs.nt, tok := s.hs.tok } : HS) = hs1
      have t1 : hs1.tok = s.hs.tok := by rw [← hH1]
      have t2 : hs1.nt = s.hs.nt := by rw [← hH1]
      have t3 : hs1.nh = s.hs.nh + 1 := by rw [← hH1]
      have t4 : ∀ i, i < s.hs.nh → hs1.heap i = s.hs.heap i := fun i hi => by rw [← hH1]; simp [show ¬ i = s.hs.nh by omega]
      have t5 : hs1.heap s.hs.nh = some [.int .i64 b.1, .int .i64 b.2.1, .int .i64 b.2.2] := by rw [← hH1]; simp
      obtain ⟨o2, hs2, b1, b2, b3, b4⟩ := add_apart (ho.cong t1 t2) (by have := hI.l1; omega) (i : Int)
      obtain ⟨c1, c2⟩ := b4 (hfy.cong t1 t2) hap.symm
      obtain ⟨y2, hs3, d1, d2, d3, d4⟩ := append_apart c1 (q := .sl 3 [.agg [.int .i64 b.1, .int .i64 b.2.1, .int .i64 b.2.2]] .exact) (ys := [.agg [.int .i64 b.1, .int .i64 b.2.1, .int .i64 b.2.2]]) (asV_sl (by simp)) (by have := hI.l2; simp; omega)
      obtain ⟨f1, f2⟩ := d4 b2 c2.symm
      obtain ⟨g1, g2, g3⟩ := out_cells d2
      have h1m : hs1.heap m = some [.int .i64 R.r, .int .i64 R.c, y] := by rw [t4 m hlt]; exact hy
      have h3m : hs3.heap m = some [.int .i64 R.r, .int .i64 R.c, y] := by rw [d3.heap, b3.heap]; exact h1m
      have h1n : hs1.heap s.hs.nh = some [.int .i64 b.1, .int .i64 b.2.1, .int .i64 b.2.2] := t5
      have h2n := h1n
      have h2m := h1m
      rw [← b3.heap] at h2n h2m
      simp [e7, astoAll, sa, ca, si, ci, fa, la, lpa, apart, h1m, h2m, h1n, h2n, b1, d1, astore, h3m, g1, g2, setL, env_none, e30]
      refine hN (i + 1) _ (by omega) ⟨by omega, ?_⟩
      simp [e1, e7, e28, e29, wrap_nat1 (show i < _ by omega), hT, env_none]
      refine ⟨by rw [d3.nh, b3.nh, t3]; omega, ?_, ?_, f2⟩
      · have := f1.cong (hs' := { heap := fun k => if k = m then some [.int .i64 R.r, .int .i64 R.c, y2] else hs3.heap k, nh := hs3.nh, nt := hs3.nt, tok := hs3.tok }) rfl rfl
        simpa [ints] using this
      · have := d2.cong (hs' := { heap := fun k => if k = m then some [.int .i64 R.r, .int .i64 R.c, y2] else hs3.heap k, nh := hs3.nh, nt := hs3.nt, tok := hs3.tok }) rfl rfl
        simpa [brs] using this
  · have : i = R.b.length := by omega
    subst this
    simp [ho.sh]
end Go.Proofs.Ytecbbbocjmdfgaa
set_option linter.unusedVariables false
set_option linter.unusedSimpArgs false
namespace Go.Proofs.Ytecbbbocjmdfgaa
open Go Fw

theorem rodE_of {R : Rk} {L : List Br} (h : OkR (rkL R L)) (hr : allRod L = true) (hl : L.length ≤ 24) : rodE (rkL R L) = 0 := rodE_iff.2 ⟨chkR_zero.2 ⟨h, hl⟩, hr⟩
theorem fd_less {R : Rk} {L : List Br} (h : OkR (rkL R L)) (hr : allRod L = true) (hl : L.length ≤ 23) {b : Br} (hb : okB R.r R.c b) (hk : b.2.2 = 0) : fdR (rkL R (L ++ [b])) < fdR (rkL R L) ↔ misOk R b L = false := by
  have h' := ok_add h hb
  have hr' := rod_add (R := rkL R L) hr hk
  rw [fd_eq (rodE_of h hr (by omega)), fd_eq (rodE_of (R := R) h' hr' (by simp; omega))]
  have := gm_add h hr hb hk
  rw [show misOk (rkL R L) b (rkL R L).b = misOk R b L from rfl] at this
  show ((gmR (addR (rkL R L) b)).length : Int) - 1 < _ ↔ _
  cases hm : misOk R b L with
  | true => rw [hm] at this; simp at this ⊢; omega
  | false => rw [hm] at this; simp at this ⊢; omega
theorem p31 {x : AV} {R : Rk} (hx : asR x = some R) : PCall Try.prog 31 [x] (trV R) := by
  obtain ⟨v1, v2, v3, v4, v5, v6, v7, v8⟩ := RkV.of hx
  refine PCall.of D17ok ok31 (by simp) (trV_plain R) fun hs' hb => ?_
  by_cases hr : rodE R = 0
  rotate_left
  · simp [A31, R31, v2, v3, SFree_i hx, fdV, hr, trV]
  by_cases hf : 0 < fdR R
  · simp [A31, R31, v2, v3, SFree_i hx, fdV, hr, trV, hf]
  obtain ⟨hok, hlen⟩ := chkR_zero.1 (rodE_iff.1 hr).1
  have hrod := (rodE_iff.1 hr).2
  have hres : trV R = .tup [outV 1 (ints (trK R R.b.length).1), .int .i64 0] := by rw [trV, if_pos hr, if_neg hf]
  rw [hres]
  simp [A31, R31, v2, v3, v4, v5, v6, v7, blen v8, SFree_i hx, fdV, hr, hf, afill, si, ci, sa, ca, setL, astore, env_none]
  generalize hm : hs'.nh = m
  refine At.loop (fun (i : Nat) s => i ≤ R.b.length ∧ s.env 1 = .ptr x ∧ s.env 7 = .ref m 0 ∧ s.env 8 = .int .i64 (i : Int) ∧ m < s.hs.nh ∧
    Outs 1 s.hs (s.env 6) (ints (trK R i).1) ∧ ∃ y, s.hs.heap m = some [.int .i64 R.r, .int .i64 R.c, y] ∧ y.cells = [y] ∧ y.sto = true ∧ asB y = some (trK R i).2) (fun i => R.b.length - i) 0 ?_ ?_
  · simp [trK, hm]
    exact .nil
  rintro N i s hN ⟨hi, e1, e7, e8, hlt, ho, y, hy, hyc, hys, hay⟩
  simp [e1, e8, v6, v7, blen v8]
  refine At.dec (fun hlt2 => ?_) (fun hlt2 => ?_)
  · have hi' : i < R.b.length := by omega
    have hI := trK_inv hok (i := i) (by omega)
    have hT := trK_succ hi'
    obtain ⟨b, hb⟩ : ∃ b, b = R.b[i] := ⟨_, rfl⟩
    rw [← hb] at hT
    have hbo : okB R.r R.c b := by rw [hb]; exact hok.b _ (List.getElem_mem hi')
    have hbk : b.2.2 = 0 := by rw [hb]; exact allRod_iff.1 hrod _ (List.getElem_mem hi')
    have hbi := bidx v8 hi' (k := .i64)
    rw [← hb] at hbi
    have hst : (brA b).sto = true := rfl
    have gl : ∀ h, aload h true 3 (.ptr (brA b)) = some (brA b) := fun _ => rfl
    have hbi' : aidxS 3 (rb x) (.int .i64 (i : Int)) = some (.ptr (brA b)) := hbi
    have hbl : (brA b).cells.length = 3 := rfl
    have ne1 : ¬ m = s.hs.nh := by omega
    have ne2 : ¬ s.hs.nh = m := by omega
    have hfs := fd_less hI.ok (hI.rod hrod) (by have := hI.l2; omega) hbo hbk
    have hr1 := rodE_of hI.ok (hI.rod hrod) (by have := hI.l2; omega)
    have hr2 := rodE_of (R := R) (L := (trK R i).2 ++ [b]) (ok_add hI.ok hbo) (rod_add (R := rkL R (trK R i).2) (hI.rod hrod) hbk) (by have := hI.l2; simp; omega)
    generalize hH1 : ({ heap := fun k => if k = s.hs.nh then some [.int .i64 R.r, .int .i64 R.c, y] else if k = s.hs.nh then some [.int .i64 0, .int .i64 0, .nilsl] else s.hs.heap k, nh := s.hs.nh + 1, nt := s.hs.nt, tok := s.hs.tok } : HS) = hs1
    have t1 : hs1.tok = s.hs.tok := by rw [← hH1]
    have t2 : hs1.nt = s.hs.nt := by rw [← hH1]
    have t3 : hs1.nh = s.hs.nh + 1 := by rw [← hH1]
    have t4 : hs1.heap m = some [.int .i64 R.r, .int .i64 R.c, y] := by rw [← hH1]; simp [ne1, hy]
    have t5 : hs1.heap s.hs.nh = some [.int .i64 R.r, .int .i64 R.c, y] := by rw [← hH1]; simp
    obtain ⟨y1, hs2, z, hs3, a1, a2, a3, a4, a5, a6, a7, a8, a9⟩ := copyB (hs := hs1) hay (by have := hI.l2; omega) b
    have u1 : hs3.heap s.hs.nh = some [.int .i64 R.r, .int .i64 R.c, y] := by rw [a6.heap]; exact t5
    have u2 : hs3.heap m = some [.int .i64 R.r, .int .i64 R.c, y] := by rw [a6.heap]; exact t4
    have hz := asR_mk (r := R.r) (c := R.c) a3
    have hyR := asR_mk (r := R.r) (c := R.c) hay
    have hS1 := SFree_i hyR
    have hS2 := SFree_i hz
    have hAB : hs2.heap = hs1.heap ∨ True := .inr trivial
    simp [e1, e7, e8, v6, v7, la, hy, apart, sa, ca, hys, hyc, astore, setL, env_none, astoAll]
    rw [hH1]
    simp [e1, e7, e8, v6, v7, la, lpa, fa, t4, t5, a1, a2, apart, hbi', gl, astoAll, hst, hbl, a4, a5, astore, u1, u2, setL, env_none, ne1, ne2, hS1, hS2, fdV]
    refine At.dec (fun hc => ?_) (fun hc => ?_)
    · have hmo := hfs.1 hc
      rw [hmo, if_neg (by simp)] at hT
      generalize hH2 : ({ heap := fun k => if k = s.hs.nh then some [.int .i64 R.r, .int .i64 R.c, z] else hs3.heap k, nh := hs3.nh, nt := hs3.nt, tok := hs3.tok } : HS) = hs4
      have w1 : hs4.tok = hs3.tok := by rw [← hH2]
      have w2 : hs4.nt = hs3.nt := by rw [← hH2]
      have w3 : hs4.nh = s.hs.nh + 1 := by rw [← hH2]; show hs3.nh = _; rw [a6.nh, t3]
      have w4 : hs4.heap m = some [.int .i64 R.r, .int .i64 R.c, y] := by rw [← hH2]; simp [ne1, u2]
      have w5 : hs4.heap s.hs.nh = some [.int .i64 R.r, .int .i64 R.c, z] := by rw [← hH2]; simp
      have ho3 : Outs 1 hs3 (s.env 6) (ints (trK R i).1) := ⟨a7 (ho.cong t1 t2).fresh, ho.sh⟩
      obtain ⟨o2, hs5, b1, b2, b3⟩ := (ho3.cong w1 w2).add1 (by have := hI.l1; omega) (i : Int)
      have x1 : hs5.heap m = some [.int .i64 R.r, .int .i64 R.c, y] := by rw [b3.heap]; exact w4
      have x2 : hs5.heap s.hs.nh = some [.int .i64 R.r, .int .i64 R.c, z] := by rw [b3.heap]; exact w5
      simp [e7, e8, astoAll, si, ci, sa, ca, a4, a5, b1, la, x1, x2, w5, apart, astore, setL, env_none]
      refine hN (i + 1) _ (by omega) ⟨by omega, ?_⟩
      simp [e1, e7, wrap_nat1 (show i < _ by omega), hT, env_none]
      refine ⟨by rw [b3.nh, w3]; omega, ?_, a4, a5, a3⟩
      have := b2.cong (hs' := { heap := fun k => if k = m then some [.int .i64 R.r, .int .i64 R.c, z] else hs5.heap k, nh := hs5.nh, nt := hs5.nt, tok := hs5.tok }) rfl rfl
      simpa [ints] using this
    · have hmo : misOk R b (trK R i).2 = true := by
        cases hmm : misOk R b (trK R i).2 with
        | true => rfl
        | false => exact absurd (hfs.2 hmm) hc
      rw [hmo, if_pos rfl] at hT
      simp [e8]
      refine hN (i + 1) _ (by omega) ⟨by omega, ?_⟩
      simp [e1, e7, wrap_nat1 (show i < _ by omega), hT, env_none, ne1]
      refine ⟨by rw [a6.nh, t3]; omega, ⟨a7 (ho.cong t1 t2).fresh, ho.sh⟩, y, u2, hyc, hys, hay⟩
  · have : i = R.b.length := by omega
    subst this
    simp [ho.sh]
end Go.Proofs.Ytecbbbocjmdfgaa
set_option linter.unusedVariables false
set_option linter.unusedSimpArgs false
namespace Go.Proofs.Ytecbbbocjmdfgaa
open Go Fw

theorem okb_of {R : Rk} (h : OkR R) {i : Nat} (hi : i < R.b.length) : okB R.r R.c R.b[i] := h.b _ (List.getElem_mem hi)
theorem ok_take {R : Rk} (h : OkR R) (i : Nat) : OkR (rkL R (R.b.take i)) := ⟨h.r1, h.r6, h.c1, h.c6, fun b hb => h.b b (List.mem_of_mem_take hb)⟩
theorem rod_take {R : Rk} (h : allRod R.b = true) (i : Nat) : allRod (R.b.take i) = true := by
  rw [allRod_iff] at *
  exact fun b hb => h b (List.mem_of_mem_take hb)
theorem trK_rt {R : Rk} (h : OkR R) (hr : allRod R.b = true) : ∀ {i : Nat}, i ≤ R.b.length → ∀ x y, Rt (Ed (rkL R (trK R i).2)) x y ↔ Rt (Ed (rkL R (R.b.take i))) x y
  | 0, _ => by simp [trK]
  | i + 1, hi => by
    have ih := trK_rt h hr (i := i) (by omega)
    have hi' : i < R.b.length := hi
    have hI := trK_inv h (i := i) (by omega)
    have hk : R.b[i].2.2 = 0 := allRod_iff.1 hr _ (List.getElem_mem hi')
    intro x y
    rw [trK_succ hi', take_snoc hi']
    have e2 : ∀ x y, Rt (Ed (rkL R (R.b.take i ++ [R.b[i]]))) x y ↔ _ := fun x y => rt_add (R := rkL R (R.b.take i)) hk
    by_cases hm : misOk R R.b[i] (trK R i).2 = true
    · rw [if_pos hm, ih, e2]
      have hab := (ih _ _).1 ((misOk_iff hI.ok (okb_of h hi')).1 hm).1
      have hba := (ih _ _).1 ((misOk_iff hI.ok (okb_of h hi')).1 hm).2
      exact ⟨.inl, fun h => by
        rcases h with h | ⟨h, h2⟩ | ⟨h, h2⟩
        · exact h
        · exact (h.trans hab).trans h2
        · exact (h.trans hba).trans h2⟩
    · rw [if_neg hm, e2]
      have e1 : Rt (Ed (rkL R ((trK R i).2 ++ [R.b[i]]))) x y ↔ _ := rt_add (R := rkL R (trK R i).2) hk
      rw [e1]
      simp only [ih]
theorem gm_none {R : Rk} (h : OkR (rkL R [])) : (gmR (rkL R [])).length = nR R := by
  rw [gm_len h]
  show nc _ (nR R) = nR R
  unfold nc
  have hz : ∀ x y, Rt (Ed (rkL R [])) x y → x = y := by
    intro x y k
    induction k with
    | refl => rfl
    | tail _ e _ => obtain ⟨b, hb, _⟩ := e; cases hb
  have : (List.range (nR R)).countP (fun i => !(List.range i).any fun j => bothM (rcR (rkL R [])) j i) = (List.range (nR R)).length := by
    rw [List.countP_eq_length]
    intro i hi
    have hi : i < nR R := by simpa using hi
    rw [rep_iff]
    intro j hj
    cases hb : bothM (rcR (rkL R [])) j i with
    | false => rfl
    | true =>
      have := hz _ _ ((both_iff h (x := j) (y := i) (Nat.lt_trans hj hi) hi).1 hb).1
      omega
  simpa using this
theorem trK_cnt {R : Rk} (h : OkR R) (hr : allRod R.b = true) : ∀ {i : Nat}, i ≤ R.b.length → (gmR (rkL R (trK R i).2)).length + (trK R i).2.length = nR R
  | 0, _ => by
    have := gm_none (R := R) ⟨h.r1, h.r6, h.c1, h.c6, by simp⟩
    simpa [trK] using this
  | i + 1, hi => by
    have ih := trK_cnt h hr (i := i) (by omega)
    have hi' : i < R.b.length := hi
    have hI := trK_inv h (i := i) (by omega)
    have hk : R.b[i].2.2 = 0 := allRod_iff.1 hr _ (List.getElem_mem hi')
    have ha := gm_add (R := rkL R (trK R i).2) hI.ok (hI.rod hr) (okb_of h hi') hk
    rw [trK_succ hi']
    by_cases hm : misOk R R.b[i] (trK R i).2 = true
    · rw [if_pos hm]; exact ih
    · rw [if_neg hm]
      rw [show misOk (rkL R (trK R i).2) R.b[i] (rkL R (trK R i).2).b = misOk R R.b[i] (trK R i).2 from rfl, if_neg hm] at ha
      have : (gmR (rkL R ((trK R i).2 ++ [R.b[i]]))).length = (gmR (addR (rkL R (trK R i).2) R.b[i])).length := rfl
      simp only [List.length_append, List.length_singleton]
      omega
theorem gm_pos {R : Rk} (h : OkR R) : 1 ≤ (gmR R).length := by
  have hn := pos_n h
  have h1 : (grpM (rcR R) (nR R) R.r.toNat 1).2.length = 1 := by simp [grpM]
  have h2 := grpM_mono (M := rcR R) (n := nR R) (r := R.r.toNat) (i := 1) (j := nR R) hn
  show 1 ≤ (grpM (rcR R) (nR R) R.r.toNat (nR R)).2.length
  omega
/-- what is taken is at most one less than rows and columns -/
theorem trK_few {R : Rk} (h : OkR R) (hr : allRod R.b = true) {i : Nat} (hi : i ≤ R.b.length) : (trK R i).2.length ≤ 11 := by
  have h1 := trK_cnt h hr hi
  have h2 := gm_pos (trK_inv h hi).ok
  have h3 := h.r6
  have h4 := h.c6
  have hn : nR R = R.r.toNat + R.c.toNat := rfl
  omega
theorem gm_same {R R' : Rk} (h : OkR R) (h' : OkR R') (hn : nR R = nR R') (hrt : ∀ x y, Rt (Ed R) x y ↔ Rt (Ed R') x y) : (gmR R).length = (gmR R').length := by
  rw [gm_len h, gm_len h', ← hn]
  refine nc_congr fun x y hx hy => ?_
  rw [Bool.eq_iff_iff, both_iff h hx hy, both_iff h' (by omega) (by omega), Both, Both, hrt, hrt]
theorem trK_gm {R : Rk} (h : OkR R) (hr : allRod R.b = true) : (gmR (rkL R (trK R R.b.length).2)).length = (gmR R).length := by
  refine gm_same (trK_inv h (Nat.le_refl _)).ok h rfl fun x y => ?_
  rw [trK_rt h hr (Nat.le_refl _), List.take_length]
theorem gm_less {R : Rk} {L : List Br} (h : OkR (rkL R L)) (hr : allRod L = true) {b : Br} (hb : okB R.r R.c b) (hk : b.2.2 = 0) : (gmR (rkL R (L ++ [b]))).length < (gmR (rkL R L)).length ↔ misOk R b L = false := by
  have := gm_add h hr hb hk
  rw [show misOk (rkL R L) b (rkL R L).b = misOk R b L from rfl] at this
  show (gmR (addR (rkL R L) b)).length < _ ↔ _
  cases hm : misOk R b L with
  | true => rw [hm] at this; simp at this ⊢; omega
  | false => rw [hm] at this; simp at this ⊢; omega
end Go.Proofs.Ytecbbbocjmdfgaa
set_option linter.unusedVariables false
set_option linter.unusedSimpArgs false
namespace Go.Proofs.Ytecbbbocjmdfgaa
open Go Fw

def STr : List AV → Option AV
  | [x] => (asR x).map trV
  | _ => none
theorem STr_i {x : AV} {R : Rk} (hx : asR x = some R) : STr [x] = some (trV R) := by simp [STr, hx]
theorem c30 : ∀ a r, STr a = some r → PCall Try.prog 30 a r := by
  intro a r h
  unfold STr at h
  split at h <;> (try (cases h; done))
  obtain ⟨R, h1, rfl⟩ := optmap_some h
  exact p30 h1
theorem c31 : ∀ a r, STr a = some r → PCall Try.prog 31 a r := by
  intro a r h
  unfold STr at h
  split at h <;> (try (cases h; done))
  obtain ⟨R, h1, rfl⟩ := optmap_some h
  exact p31 h1
def D18 : PCtx := ((D17.add 15 SWk).add 30 STr).add 31 STr
theorem D18ok : CtxOk Try.prog D18 := ((D17ok.add (c15 p15)).add c30).add c31
@[simp] theorem D18_15 : D18 15 = SWk := id rfl
@[simp] theorem D18_30 : D18 30 = STr := id rfl
@[simp] theorem D18_31 : D18 31 = STr := id rfl
@[simp] theorem D18_28 : D18 28 = SFree := id rfl
@[simp] theorem D18_27 : D18 27 = SFree := id rfl
@[simp] theorem D18_29 : D18 29 = SMiss := id rfl
@[simp] theorem D18_24 : D18 24 = SNum := id rfl
@[simp] theorem D18_20 : D18 20 = SGmR := id rfl
@[simp] theorem D18_18 : D18 18 = SSm := id rfl

theorem trV_form (R : Rk) : ∃ x e l, trV R = .tup [x, .int .i64 e] ∧ asI x = some l := by
  by_cases h : rodE R = 0
  · obtain ⟨hok, hl⟩ := chkR_zero.1 (rodE_iff.1 h).1
    by_cases hf : 0 < fdR R
    · exact ⟨.nilsl, 22, [], by rw [trV, if_pos h, if_pos hf], rfl⟩
    · refine ⟨_, 0, _, by rw [trV, if_pos h, if_neg hf], asI_outV ?_⟩
      have := (trK_inv hok (i := R.b.length) (Nat.le_refl _)).l1
      omega
  · exact ⟨.nilsl, rodE R, [], by rw [trV, if_neg h], rfl⟩
theorem miV_form (R : Rk) : ∃ z, miV R = .tup [z, .int .i64 (rodE R)] ∧ alenK false z = some (.int .i64 (fdR R)) ∧ (rodE R = 0 → z = outV 3 (brs (misL R))) := by
  by_cases h : rodE R = 0
  · refine ⟨outV 3 (brs (misL R)), by rw [miV, if_pos h, h], ?_, fun _ => rfl⟩
    rw [alen_outB, fdR, if_pos h]; simp
  · exact ⟨.nilsl, by rw [miV, if_neg h], by rw [fdR, if_neg h]; rfl, fun h' => absurd h' h⟩
theorem p4 {x : AV} {R : Rk} (hx : asR x = some R) (hl60 : R.b.length ≤ 60) : PCall Try.prog 4 [x] (.bool true) := by
  obtain ⟨v1, v2, v3, v4, v5, v6, v7, v8⟩ := RkV.of hx
  refine PCall.of D18ok ok4 (by simp) rfl fun hs' hb => ?_
  obtain ⟨tx, te, tl, htr, htl⟩ := trV_form R
  obtain ⟨z, hmi, hzl, hz⟩ := miV_form R
  simp [A4, R4, v2, v3, v6, v7, blen v8]
  refine At.dec (fun h => ?_) (fun h => ?_)
  · omega
  simp [v3]
  refine At.hc (p16 hx (by omega) _) ?_ ?_
  rotate_left
  · rintro v hs2 ⟨y, hv, _⟩; cases hv
  rintro v hs2 ⟨y, hv, ho, hext⟩
  injection hv with hv; subst hv
  have hg := asR_outs (r := R.r) (c := R.c) ho (by omega)
  obtain ⟨c1, c2, c3⟩ := out_cells ho
  simp [v3, c1, c2, astore, sa, ca, setL, env_none, la, apart, SFree_i hx, SFree_i hg, SMiss_i hx, STr_i hx, STr_i hg, fdV, htr, hmi, SNum_i htl htl, hzl]
  refine At.decn (fun hr => ?_) (fun hr => ?_)
  rotate_left
  · simp
  have hr : rodE R = 0 := hr
  obtain ⟨hok, hlen⟩ : OkR R ∧ R.b.length ≤ 24 := chkR_zero.1 (rodE_iff.1 hr).1
  have hrod : allRod R.b = true := (rodE_iff.1 hr).2
  obtain ⟨m1, m2, m3, m4, m5⟩ := mis_all hok hrod
  have hM := misR_inv hok (c := R.c.toNat) (by have := hok.c1; omega) (k := R.r.toNat) (by have := hok.r1; omega)
  have hr6 := hok.r6
  have hc6 := hok.c6
  have hMl : (misL R).length ≤ 12 := by have := hM.l2; show (misR R R.c.toNat R.r.toNat).2.length ≤ 12; omega
  have hzM : asB z = some (misL R) := by rw [hz hr]; exact asB_outV (by omega)
  generalize hMM : misL R = M at *
  have hfu : fulR R = rkL R (R.b ++ M) := by rw [fulR, hMM]
  generalize hm : hs2.nh = m
  simp
  refine At.loop (fun (k : Nat) s => k ≤ M.length ∧ s.env 3 = .ref m 0 ∧ s.env 8 = z ∧ s.env 14 = .int .i64 (k : Int) ∧ m < s.hs.nh ∧ ∃ y, s.hs.heap m = some [.int .i64 R.r, .int .i64 R.c, y] ∧ Outs 3 s.hs y (brs (R.b ++ M.take k))) (fun k => M.length - k) 0 ?_ ?_
  · simp [hm]
    have := ho.cong (hs' := { heap := fun k => if k = m then some [.int .i64 R.r, .int .i64 R.c, y] else if k = m then some [.int .i64 0, .int .i64 0, .nilsl] else hs2.heap k, nh := m + 1, nt := hs2.nt, tok := hs2.tok }) rfl rfl
    simpa using this
  rintro N k s hN ⟨hk, e3, e8, e14, hlt, y2, hy2, ho2⟩
  simp [e8, e14, blen hzM]
  refine At.dec (fun hlt2 => ?_) (fun hlt2 => ?_)
  · have hk' : k < M.length := by omega
    have hbi := bidx hzM hk' (k := .i64)
    obtain ⟨hbo, hbk⟩ := m5 M[k] (List.getElem_mem hk')
    have f2 : ∀ b : Br, afaddr false 1 2 (.ptr (.agg [.int .i64 b.1, .int .i64 b.2.1, .int .i64 b.2.2])) = some (.ptr (.int .i64 b.2.2)) := fun _ => rfl
    obtain ⟨y3, hs3, b1, b2, b3⟩ := append_outs ho2 (q := .sl 3 [.agg [.int .i64 M[k].1, .int .i64 M[k].2.1, .int .i64 M[k].2.2]] .exact) (ys := [.agg [.int .i64 M[k].1, .int .i64 M[k].2.1, .int .i64 M[k].2.2]]) (asV_sl (by simp)) (by simp; omega)
    obtain ⟨d1, d2, d3⟩ := out_cells b2
    rw [List.map_cons, List.map_nil, share_br] at b2
    have he : brs (R.b ++ M.take k) ++ [.agg [.int .i64 M[k].1, .int .i64 M[k].2.1, .int .i64 M[k].2.2]] = brs (R.b ++ M.take (k + 1)) := by rw [take_snoc hk', ← List.append_assoc, brs, brs, List.map_append (l₁ := R.b ++ M.take k)]; rfl
    rw [he] at b2
    simp [e3, e8, e14, hbi, f2, hbk]
    rw [hbk] at b1
    simp [e3, e8, e14, hbi, f2, hbk, fa, la, lpa, hy2, apart, astoAll, sa, ca, b1, astore, b3.heap, d1, d2, setL, env_none]
    refine hN (k + 1) _ (by omega) ⟨by omega, ?_⟩
    simp [e3, e8, wrap_nat1 (show k < _ by omega), env_none]
    refine ⟨by rw [b3.nh]; exact hlt, ?_⟩
    have := b2.cong (hs' := { heap := fun k => if k = m then some [.int .i64 R.r, .int .i64 R.c, y3] else s.hs.heap k, nh := hs3.nh, nt := hs3.nt, tok := hs3.tok }) rfl rfl
    simpa [brs] using this
  have hkM : k = M.length := by omega
  subst hkM
  rw [List.take_length] at ho2
  have hy2B := asB_outs ho2 (by simp; omega)
  generalize hL : R.b ++ M = L at *
  rw [hfu] at m2 m3 m4
  have hLl : L.length ≤ 36 := by rw [← hL]; simp; omega
  simp [e3, la, lpa, fa, hy2, apart, afill, si, ci, sa, ca, setL, astore, env_none]
  generalize hq : s.hs.nh = q
  have nqm : ¬ m = q := by omega
  have nqm2 : ¬ q = m := by omega
  refine At.loop (fun (i : Nat) s => i ≤ L.length ∧ s.env 3 = .ref m 0 ∧ s.env 15 = .ref q 0 ∧ s.env 16 = .int .i64 (i : Int) ∧ q < s.hs.nh ∧ s.hs.heap m = some [.int .i64 R.r, .int .i64 R.c, y2] ∧ ∃ y, s.hs.heap q = some [.int .i64 R.r, .int .i64 R.c, y] ∧ asB y = some (trK (rkL R L) i).2) (fun i => L.length - i) 0 ?_ ?_
  · simp [e3, hq, nqm, hy2, trK]
  rintro N i s hN ⟨hi, e3, e15, e16, hlt2, hhm, y, hy, hay⟩
  simp [e3, e16, fa, la, lpa, hhm, apart, blen hy2B]
  refine At.dec (fun hlt3 => ?_) (fun hlt3 => ?_)
  · have hi' : i < L.length := by omega
    have hI := trK_inv m2 (i := i) (by show i ≤ L.length; omega)
    have hT := trK_succ (R := rkL R L) (i := i) hi'
    have hfew := trK_few m2 m3 (i := i) (by show i ≤ L.length; omega)
    obtain ⟨b, hb⟩ : ∃ b, b = L[i] := ⟨_, rfl⟩
    have hT' : trK (rkL R L) (i + 1) = if misOk R b (trK (rkL R L) i).2 = true then trK (rkL R L) i else ((trK (rkL R L) i).1 ++ [(i : Int)], (trK (rkL R L) i).2 ++ [b]) := by rw [hb]; exact hT
    have hbo : okB R.r R.c b := by rw [hb]; exact m2.b _ (List.getElem_mem hi')
    have hbk : b.2.2 = 0 := by rw [hb]; exact allRod_iff.1 m3 _ (List.getElem_mem hi')
    have hbi := bidx hy2B hi' (k := .i64)
    rw [← hb] at hbi
    have hst : (brA b).sto = true := rfl
    have gl : ∀ h, aload h true 3 (.ptr (brA b)) = some (brA b) := fun _ => rfl
    have hbi' : aidxS 3 y2 (.int .i64 (i : Int)) = some (.ptr (brA b)) := hbi
    have hbl : (brA b).cells.length = 3 := rfl
    have nm : ¬ m = s.hs.nh := by omega
    have nm2 : ¬ s.hs.nh = m := by omega
    have nq : ¬ q = s.hs.nh := by omega
    have nq2 : ¬ s.hs.nh = q := by omega
    obtain ⟨hyc, hys⟩ := asB_cells hay
    generalize hD : trK (rkL R L) i = D at *
    generalize hH1 : ({ heap := fun k => if k = s.hs.nh then some [.int .i64 R.r, .int .i64 R.c, y] else if k = s.hs.nh then some [.int .i64 0, .int .i64 0, .nilsl] else s.hs.heap k, nh := s.hs.nh + 1, nt := s.hs.nt, tok := s.hs.tok } : HS) = hs1
    have t3 : hs1.nh = s.hs.nh + 1 := by rw [← hH1]
    have t4 : hs1.heap q = some [.int .i64 R.r, .int .i64 R.c, y] := by rw [← hH1]; simp [nq, hy]
    have t5 : hs1.heap s.hs.nh = some [.int .i64 R.r, .int .i64 R.c, y] := by rw [← hH1]; simp
    have t6 : hs1.heap m = some [.int .i64 R.r, .int .i64 R.c, y2] := by rw [← hH1]; simp [nm, hhm]
    have hokD : OkR (rkL R D.2) := by have := hI.ok; rw [hD] at this; exact this
    have hrodD : allRod D.2 = true := by have := hI.rod m3; rw [hD] at this; exact this
    obtain ⟨y1, hs2', z2, hs3, a1, a2, a3, a4, a5, a6, a7, a8, a9, a10⟩ := copyB (hs := hs1) hay (by omega) b
    have u1 : hs3.heap s.hs.nh = some [.int .i64 R.r, .int .i64 R.c, y] := by rw [a6.heap]; exact t5
    have u2 : hs3.heap q = some [.int .i64 R.r, .int .i64 R.c, y] := by rw [a6.heap]; exact t4
    have u3 : hs3.heap m = some [.int .i64 R.r, .int .i64 R.c, y2] := by rw [a6.heap]; exact t6
    have hz2 := asR_mk (r := R.r) (c := R.c) a3
    have hyR := asR_mk (r := R.r) (c := R.c) hay
    have hS1 := SGmR_i hyR
    have hS2 := SGmR_i hz2
    have hg1 : gmV (rkL R D.2) = .tup [outV 2 (grs (gmR (rkL R D.2))), .int .i64 0] := by rw [gmV, if_pos (chkR_zero.2 ⟨hokD, by show D.2.length ≤ 24; omega⟩)]
    have hg2 : gmV (rkL R (D.2 ++ [b])) = .tup [outV 2 (grs (gmR (rkL R (D.2 ++ [b])))), .int .i64 0] := by rw [gmV, if_pos (chkR_zero.2 ⟨ok_add hokD hbo, by show (D.2 ++ [b]).length ≤ 24; simp; omega⟩)]
    rw [hg1] at hS1
    rw [hg2] at hS2
    have hgl := gm_less hokD hrodD hbo hbk
    simp [e3, e15, e16, la, hy, apart, sa, ca, hys, hyc, astore, setL, env_none, astoAll, nm, nq]
    rw [hH1]
    have hlz : ∀ h, aload h false 1 (.ptr y2) = some y2 := by
      intro h
      rcases (asB_inv hy2B).2.1 with ⟨e, _⟩ | ⟨c, e⟩ <;> rw [e] <;> rfl
    simp [e3, e15, e16, la, lpa, fa, t4, t5, t6, a1, a2, a10.heap, apart, hlz, hbi', gl, astoAll, hst, hbl, a4, a5, astore, u1, u2, u3, setL, env_none, nm, nm2, nq, nq2, hS1, hS2, alen_outV]
    refine At.dec (fun hc => ?_) (fun hc => ?_)
    · rw [hgl.1 hc, if_neg (by simp)] at hT'
      simp [e15, e16, la, apart, u2, sa, ca, a4, a5, astore, setL, env_none, nq]
      refine hN (i + 1) _ (by omega) ⟨by omega, ?_⟩
      simp [e3, e15, wrap_nat1 (show i < _ by omega), hT', env_none, nqm, nm, u3]
      exact ⟨by rw [a6.nh, t3]; omega, a3⟩
    · have hmo : misOk R b D.2 = true := by
        cases hmm : misOk R b D.2 with
        | true => rfl
        | false => exact absurd (hgl.2 hmm) hc
      rw [hmo, if_pos rfl] at hT'
      simp [e16]
      refine hN (i + 1) _ (by omega) ⟨by omega, ?_⟩
      simp [e3, e15, wrap_nat1 (show i < _ by omega), hT', env_none, nq, nm, u3, u2]
      exact ⟨by rw [a6.nh, t3]; omega, hay⟩
  · have hiL : i = L.length := by omega
    subst hiL
    have hI := trK_inv m2 (i := L.length) (Nat.le_refl _)
    have hfew := trK_few m2 m3 (i := L.length) (Nat.le_refl _)
    have hgm := trK_gm m2 m3
    rw [m4] at hgm
    have hyR := asR_mk (r := R.r) (c := R.c) hay
    have hS := SSm_i hyR
    have hsm : smV (rkL R (trK (rkL R L) L.length).2) = .tup [.bool true, .int .i64 0] := by
      have hgm' : (gmR (rkL R (trK (rkL R L) L.length).2)).length = 1 := hgm
      rw [smV, if_pos (chkR_zero.2 ⟨hI.ok, by show (trK (rkL R L) L.length).2.length ≤ 24; omega⟩), hgm']; rfl
    rw [hsm] at hS
    simp [e15, la, hy, apart, hS]
theorem p4l {r c : Int} {l : List Br} (hl : 60 < l.length) : PCall Try.prog 4 [.agg [.int .i64 r, .int .i64 c, .sl 3 (brs l) .shared]] (.bool true) := by
  refine PCall.of D18ok ok4 (by simp) rfl fun hs' hb => ?_
  have e1 : (AV.agg [.int .i64 r, .int .i64 c, .sl 3 (brs l) .shared]).sto = true := rfl
  have e2 : afaddr false 1 2 (.ptr (.agg [.int .i64 r, .int .i64 c, .sl 3 (brs l) .shared])) = some (.ptr (.sl 3 (brs l) .shared)) := rfl
  have e3 : ∀ h, aload h false 1 (.ptr (.sl 3 (brs l) .shared)) = some (.sl 3 (brs l) .shared) := fun _ => rfl
  simp [A4, R4, e1, e2, e3]
  refine At.dec (fun h => ?_) (fun h => ?_)
  · simp
  · omega
theorem rods_typed (xs : List AV) (h : Typed [TRk] xs) : PCall Try.prog 4 xs (.bool true) := by
  obtain ⟨x, rfl, hx⟩ := h.one
  rcases rack_typed hx with ⟨R, hR, hl⟩ | ⟨r, c, l, rfl, hl⟩
  · exact p4 hR hl
  · exact p4l hl
end Go.Proofs.Ytecbbbocjmdfgaa
set_option linter.unusedVariables false
set_option linter.unusedSimpArgs false
namespace Go.Proofs.Ytecbbbocjmdfgaa
open Go Fw

/-- ways of braces, other than one, from a row on: where they end, and what they have passed -/
inductive Pth (R : Rk) (br a0 : Nat) : List Int → Bool → Nat → List Nat → List Nat → Prop
  | nil : Pth R br a0 [] true a0 [a0] []
  | col {W : List Int} {a : Nat} {ps qs : List Nat} {i : Nat} (h : Pth R br a0 W true a ps qs) (hi : i < R.b.length) (hne : i ≠ br) (ha : R.b[i].1.toNat = a) (hn : R.b[i].2.1.toNat ∉ qs) : Pth R br a0 (W ++ [(i : Int)]) false R.b[i].2.1.toNat ps (R.b[i].2.1.toNat :: qs)
  | row {W : List Int} {c : Nat} {ps qs : List Nat} {i : Nat} (h : Pth R br a0 W false c ps qs) (hi : i < R.b.length) (hne : i ≠ br) (hc : R.b[i].2.1.toNat = c) (hn : R.b[i].1.toNat ∉ ps) : Pth R br a0 (W ++ [(i : Int)]) true R.b[i].1.toNat (R.b[i].1.toNat :: ps) qs
/-- an adjacent row and column -/
def Adj (R : Rk) (br a c : Nat) : Prop := ∃ i, ∃ h : i < R.b.length, i ≠ br ∧ R.b[i].1.toNat = a ∧ R.b[i].2.1.toNat = c
structure PthI (R : Rk) (W : List Int) (inRow : Bool) (cur : Nat) (ps qs : List Nat) : Prop where
  len : W.length + 1 = ps.length + qs.length
  pn : ps.Nodup
  qn : qs.Nodup
  pl : ∀ r ∈ ps, r < R.r.toNat
  ql : ∀ c ∈ qs, c < R.c.toNat
  ne : inRow = false → W ≠ []
  mem : if inRow = true then cur ∈ ps else cur ∈ qs
theorem Pth.inv {R : Rk} (h : OkR R) {br a0 : Nat} (ha : a0 < R.r.toNat) {W : List Int} {b : Bool} {cur : Nat} {ps qs : List Nat} (k : Pth R br a0 W b cur ps qs) : PthI R W b cur ps qs := by
  induction k with
  | nil => exact ⟨rfl, by simp, by simp, by simpa using ha, by simp, by simp, by simp⟩
  | col k hi hne hr hn ih =>
    obtain ⟨h1, h2, h3, h4, h5, h6⟩ := ih
    obtain ⟨k1, k2, k3, k4, _⟩ := h.b _ (List.getElem_mem hi)
    refine ⟨by simp; omega, h2, List.nodup_cons.2 ⟨hn, h3⟩, h4, fun c hc => ?_, by simp, by simp⟩
    rcases List.mem_cons.1 hc with rfl | hc
    · omega
    · exact h5 c hc
  | row k hi hne hr hn ih =>
    obtain ⟨h1, h2, h3, h4, h5, h6⟩ := ih
    obtain ⟨k1, k2, k3, k4, _⟩ := h.b _ (List.getElem_mem hi)
    refine ⟨by simp; omega, List.nodup_cons.2 ⟨hn, h2⟩, h3, fun c hc => ?_, h5, by simp, by simp⟩
    rcases List.mem_cons.1 hc with rfl | hc
    · omega
    · exact h4 c hc
theorem PthI.short {R : Rk} (h : OkR R) {W : List Int} {b : Bool} {cur : Nat} {ps qs : List Nat} (k : PthI R W b cur ps qs) : W.length ≤ 11 := by
  have h1 := nodup_le k.pn k.pl
  have h2 := nodup_le k.qn k.ql
  have h3 := k.len
  have h4 := h.r6
  have h5 := h.c6
  omega
/-- the search's memory -/
structure DM (x : AV) (brace to : Int) (q : Nat) (hs : HS) (T rs cs : Nat → Bool) : Prop where
  o : hs.heap q = some [.int .i64 to]
  t : hs.heap (q + 1) = some (rowL 36 T)
  r : hs.heap (q + 2) = some (rowL 6 rs)
  c : hs.heap (q + 3) = some (rowL 6 cs)
  f : hs.heap (q + 4) = some [.fn (.func 65) [] [.ref (q + 2) 0, .ptr x, .ptr (.int .i64 brace), .ref (q + 1) 0, .ref (q + 3) 0, .ref (q + 5) 0]]
  g : hs.heap (q + 5) = some [.fn (.func 67) [] [.ref (q + 3) 0, .ref q 0, .ptr x, .ptr (.int .i64 brace), .ref (q + 2) 0, .ref (q + 4) 0]]
  lt : q + 5 < hs.nh
theorem DM.ext {x : AV} {brace to : Int} {q : Nat} {hs hs' : HS} {T rs cs : Nat → Bool} (h : DM x brace to q hs T rs cs) (he : ∀ i, i < hs.nh → hs'.heap i = hs.heap i) (hn : hs.nh ≤ hs'.nh) : DM x brace to q hs' T rs cs := by
  obtain ⟨h1, h2, h3, h4, h5, h6, h7⟩ := h
  exact ⟨by rw [he _ (by omega)]; exact h1, by rw [he _ (by omega)]; exact h2, by rw [he _ (by omega)]; exact h3, by rw [he _ (by omega)]; exact h4, by rw [he _ (by omega)]; exact h5, by rw [he _ (by omega)]; exact h6, by omega⟩
def mk1 (f : Nat → Bool) (k : Nat) : Nat → Bool := fun j => if j = k then true else f j
theorem DM.setT {x : AV} {brace to : Int} {q : Nat} {hs hs' : HS} {T rs cs : Nat → Bool} (h : DM x brace to q hs T rs cs) {k : Nat} (e1 : hs'.heap (q + 1) = some (rowL 36 (mk1 T k))) (he : ∀ i, i < hs.nh → i ≠ q + 1 → hs'.heap i = hs.heap i) (hn : hs.nh ≤ hs'.nh) : DM x brace to q hs' (mk1 T k) rs cs := by
  obtain ⟨h1, h2, h3, h4, h5, h6, h7⟩ := h
  exact ⟨by rw [he _ (by omega) (by omega)]; exact h1, e1, by rw [he _ (by omega) (by omega)]; exact h3, by rw [he _ (by omega) (by omega)]; exact h4, by rw [he _ (by omega) (by omega)]; exact h5, by rw [he _ (by omega) (by omega)]; exact h6, by omega⟩
theorem DM.setR {x : AV} {brace to : Int} {q : Nat} {hs hs' : HS} {T rs cs : Nat → Bool} (h : DM x brace to q hs T rs cs) {k : Nat} (e1 : hs'.heap (q + 2) = some (rowL 6 (mk1 rs k))) (he : ∀ i, i < hs.nh → i ≠ q + 2 → hs'.heap i = hs.heap i) (hn : hs.nh ≤ hs'.nh) : DM x brace to q hs' T (mk1 rs k) cs := by
  obtain ⟨h1, h2, h3, h4, h5, h6, h7⟩ := h
  exact ⟨by rw [he _ (by omega) (by omega)]; exact h1, by rw [he _ (by omega) (by omega)]; exact h2, e1, by rw [he _ (by omega) (by omega)]; exact h4, by rw [he _ (by omega) (by omega)]; exact h5, by rw [he _ (by omega) (by omega)]; exact h6, by omega⟩
theorem DM.setC {x : AV} {brace to : Int} {q : Nat} {hs hs' : HS} {T rs cs : Nat → Bool} (h : DM x brace to q hs T rs cs) {k : Nat} (e1 : hs'.heap (q + 3) = some (rowL 6 (mk1 cs k))) (he : ∀ i, i < hs.nh → i ≠ q + 3 → hs'.heap i = hs.heap i) (hn : hs.nh ≤ hs'.nh) : DM x brace to q hs' T rs (mk1 cs k) := by
  obtain ⟨h1, h2, h3, h4, h5, h6, h7⟩ := h
  exact ⟨by rw [he _ (by omega) (by omega)]; exact h1, by rw [he _ (by omega) (by omega)]; exact h2, by rw [he _ (by omega) (by omega)]; exact h3, e1, by rw [he _ (by omega) (by omega)]; exact h5, by rw [he _ (by omega) (by omega)]; exact h6, by omega⟩
/-- how many rows and columns are not visited -/
def unv (rs cs : Nat → Bool) : Nat := (List.range 6).countP (fun i => !rs i) + (List.range 6).countP (fun i => !cs i)
theorem countP_le_of {p q : Nat → Bool} (h : ∀ i, q i = true → p i = true) (n : Nat) : (List.range n).countP q ≤ (List.range n).countP p := List.countP_mono_left fun i _ hi => h i hi
theorem unv_mono {rs cs rs' cs' : Nat → Bool} (h1 : ∀ r, rs r = true → rs' r = true) (h2 : ∀ c, cs c = true → cs' c = true) : unv rs' cs' ≤ unv rs cs := by
  have := countP_le_of (p := fun i => !rs i) (q := fun i => !rs' i) (fun i hi => by
    cases h : rs i with
    | false => rfl
    | true => rw [h1 i h] at hi; cases hi) 6
  have := countP_le_of (p := fun i => !cs i) (q := fun i => !cs' i) (fun i hi => by
    cases h : cs i with
    | false => rfl
    | true => rw [h2 i h] at hi; cases hi) 6
  unfold unv
  omega
theorem countP_mk1 {f : Nat → Bool} {k n : Nat} (hk : k < n) (hf : f k = false) : (List.range n).countP (fun i => !f i) = (List.range n).countP (fun i => !mk1 f k i) + 1 :=
  countP_one (m := k) (by simp [hf]) (by simp [mk1]) hk fun i _ hne => by simp [mk1, hne]
theorem unv_r {rs cs : Nat → Bool} {k : Nat} (hk : k < 6) (hf : rs k = false) : unv rs cs = unv (mk1 rs k) cs + 1 := by
  unfold unv; rw [countP_mk1 hk hf]; omega
theorem unv_c {rs cs : Nat → Bool} {k : Nat} (hk : k < 6) (hf : cs k = false) : unv rs cs = unv rs (mk1 cs k) + 1 := by
  unfold unv; rw [countP_mk1 hk hf]; omega
/-- what a search that finds nothing leaves -/
structure Clo (R : Rk) (br to : Nat) (rs cs : Nat → Bool) (T' rs' cs' : Nat → Bool) : Prop where
  mr : ∀ r, rs r = true → rs' r = true
  mc : ∀ c, cs c = true → cs' c = true
  c1 : ∀ r, rs' r = true → rs r = false → ∀ c, Adj R br r c → cs' c = true
  c2 : ∀ c, cs' c = true → cs c = false → ∀ r, Adj R br r c → rs' r = true
  to : cs to = false → cs' to = false
  tr : ∀ r c, c < 6 → T' (r * 6 + c) = true → cs' c = true
/-- memory that has grown, with what lies low as it was -/
structure Low (q : Nat) (hs hs' : HS) : Prop where
  nh : hs.nh ≤ hs'.nh
  heap : ∀ i, i < q → hs'.heap i = hs.heap i
theorem Low.refl (q : Nat) (hs : HS) : Low q hs hs := ⟨Nat.le_refl _, fun _ _ => rfl⟩
theorem Low.trans {q : Nat} {a b c : HS} (h : Low q a b) (k : Low q b c) : Low q a c := ⟨Nat.le_trans h.nh k.nh, fun i hi => (k.heap i hi).trans (h.heap i hi)⟩
/-- what a call of the search ends with -/
def DPost (R : Rk) (x : AV) (br a0 to q : Nat) (hs : HS) (rs cs : Nat → Bool) (mark : (Nat → Bool) → (Nat → Bool) → Prop) (e : AEnd) (hs' : HS) : Prop :=
  ∃ v, e = .ret v ∧ Low q hs hs' ∧ ((v = .nilsl ∧ ∃ T' rs' cs', DM x (br : Int) (to : Int) q hs' T' rs' cs' ∧ Clo R br to rs cs T' rs' cs' ∧ mark rs' cs') ∨
    ((∃ xs cp, v = .sl 1 xs cp) ∧ ∃ W ps qs, asI v = some W ∧ Pth R br a0 W false to ps qs))
def RowSpec (R : Rk) (x : AV) (br a0 to q n : Nat) : Prop := ∀ (hs : HS) (T rs cs : Nat → Bool) (a : Nat) (W : List Int) (y : AV) (ps qs : List Nat), DM x (br : Int) (to : Int) q hs T rs cs → a < R.r.toNat → rs a = false → unv rs cs ≤ n → asI y = some W → Pth R br a0 W true a ps qs →
  (∀ r ∈ ps, r = a ∨ rs r = true) → (∀ c ∈ qs, cs c = true) → (∀ r c, c < 6 → T (r * 6 + c) = true → cs c = true) →
  FCall Try.prog 65 [.int .i64 (a : Int), y, .ref (q + 2) 0, .ptr x, .ptr (.int .i64 (br : Int)), .ref (q + 1) 0, .ref (q + 3) 0, .ref (q + 5) 0] hs (DPost R x br a0 to q hs rs cs fun rs' _ => rs' a = true)
def ColSpec (R : Rk) (x : AV) (br a0 to q n : Nat) : Prop := ∀ (hs : HS) (T rs cs : Nat → Bool) (c : Nat) (W : List Int) (y : AV) (ps qs : List Nat), DM x (br : Int) (to : Int) q hs T rs cs → c < R.c.toNat → cs c = false → unv rs cs ≤ n → asI y = some W → Pth R br a0 W false c ps qs →
  (∀ r ∈ ps, rs r = true) → (∀ c' ∈ qs, c' = c ∨ cs c' = true) → (∀ r c', c' < 6 → T (r * 6 + c') = true → c' = c ∨ cs c' = true) →
  FCall Try.prog 67 [.int .i64 (c : Int), y, .ref (q + 3) 0, .ref q 0, .ptr x, .ptr (.int .i64 (br : Int)), .ref (q + 2) 0, .ref (q + 4) 0] hs (DPost R x br a0 to q hs rs cs fun _ cs' => cs' c = true)
/-- slices.Clip -/
def SClip : List AV → Option AV
  | [y] => (asI y).bind fun l => some (clipV y)
  | _ => none
theorem SClip_i {y : AV} {l : List Int} (h : asI y = some l) : SClip [y] = some (clipV y) := by simp [SClip, h]
theorem c66 : ∀ a r, SClip a = some r → PCall Try.prog 66 a r := by
  intro a r h
  unfold SClip at h
  split at h <;> (try (cases h; done))
  obtain ⟨l, h1, h2⟩ := Option.bind_eq_some_iff.1 h
  injection h2 with h2; subst h2
  rename_i y
  refine PCall.of CtxOk.nil ok66 (by simp) ?_ fun hs' hb => ?_
  · rcases asI_inv h1 with ⟨rfl, rfl⟩ | ⟨c, rfl⟩
    · rfl
    · simp only [clipV, AV.plain]; exact plain_ints l
  · have h3 := slice_clip (asI_asV h1) (k := .i64)
    rw [ints_len] at h3
    rcases asI_inv h1 with ⟨rfl, rfl⟩ | ⟨c, rfl⟩
    · have e0 : aslice 1 .nilsl none (some (.int .i64 0)) (some (.int .i64 0)) = some .nilsl := rfl
      simp [A66, R66, e0]
      simp [clipV]
    · simp [A66, R66, h3, ints_len]
      simp [clipV]
def D19 : PCtx := D17.add 66 SClip
theorem D19ok : CtxOk Try.prog D19 := D17ok.add c66
@[simp] theorem D19_66 : D19 66 = SClip := id rfl
theorem clip_add {y : AV} {W : List Int} (h : asI y = some W) (hl : W.length ≤ 1000) (i : Int) (hs : HS) : ∃ z hs', aappend 1 hs (clipV y) (.sl 1 [.int .i64 i] .exact) = some (z, hs') ∧ asI z = some (W ++ [i]) ∧ SameMem hs hs' := by
  rcases asI_inv h with ⟨rfl, rfl⟩ | ⟨c, rfl⟩
  · obtain ⟨z, hs', h1, h2, h3⟩ := Outs.add1 (hs := hs) (x := .nilsl) (l := []) .nil (by simp) i
    refine ⟨z, hs', h1, ?_, h3⟩
    rcases h2.inv with ⟨_, h4⟩ | ⟨xs, k, rfl, _, h4, _⟩
    · simp [ints] at h4
    · have : xs = ints [i] := by
        cases xs with
        | nil => simp [ints] at h4
        | cons u us =>
          simp only [ints, List.map_cons, List.map_nil, List.nil_append, List.cons.injEq, List.map_eq_nil_iff] at h4
          obtain ⟨h4, rfl⟩ := h4
          cases u <;> simp only [AV.share] at h4 <;> first | (cases h4; done) | (rw [h4]; rfl)
      subst this; exact asI_sl (by simp)
  · obtain ⟨hs', q1, q2, q3, q4, q5⟩ := append_exact (sz := 1) (hs := hs) (xs := ints W) (q := .sl 1 [.int .i64 i] .exact) (ys := [.int .i64 i]) (asV_sl (by simp)) (by rw [ints_len]; simp; omega) (by simp)
    refine ⟨_, hs', q1, ?_, q3⟩
    have : ints W ++ [.int .i64 i] = ints (W ++ [i]) := by simp [ints]
    rw [this]; exact asI_sl (by simp; omega)
end Go.Proofs.Ytecbbbocjmdfgaa
set_option linter.unusedVariables false
set_option linter.unusedSimpArgs false
namespace Go.Proofs.Ytecbbbocjmdfgaa
open Go Fw

theorem idxA_row {i : Nat} {k : IntKind} {n : Nat} (h : n < 6) : aidxA 6 true 6 (.ref i 0) (.int k (n : Int)) = some (.ref i (n * 6)) := by
  simp [aidxA, afaddr]; omega
theorem idxA_cell {i o : Nat} {k : IntKind} {n : Nat} (h : n < 6) : aidxA 6 false 1 (.ref i o) (.int k (n : Int)) = some (.ref i (o + n)) := by
  simp [aidxA, afaddr]; omega
theorem store_row {hp : Nat → Option (List AV)} {i n o : Nat} {f : Nat → Bool} (h : hp i = some (rowL n f)) (ho : o < n) : astore hp 1 (.ref i o) (.bool true) = some (fun k => if k = i then some (rowL n (mk1 f o)) else hp k) := by
  rw [store_cell h (by simpa using ho) rfl, rowL_set]; rfl
theorem load_row {hp : Nat → Option (List AV)} {i n o : Nat} {f : Nat → Bool} (h : hp i = some (rowL n f)) (ho : o < n) : aload hp false 1 (.ref i o) = some (.bool (f o)) := by
  rw [load_cell h (by simpa using ho)]; simp
theorem mk1_mono {f : Nat → Bool} {k j : Nat} (h : f j = true) : mk1 f k j = true := by unfold mk1; split <;> simp_all
theorem mk1_same {f : Nat → Bool} {k : Nat} : mk1 f k k = true := by simp [mk1]
theorem mk1_ne {f : Nat → Bool} {k j : Nat} (h : j ≠ k) : mk1 f k j = f j := by simp [mk1, h]
theorem mk1_or {f : Nat → Bool} {k j : Nat} (h : mk1 f k j = true) : j = k ∨ f j = true := by
  unfold mk1 at h
  split at h
  · rename_i e; exact .inl e
  · exact .inr h
/-- the search of a row, before its brace i -/
structure RInv (R : Rk) (br to a i : Nat) (rs cs T1 rs1 cs1 : Nat → Bool) : Prop where
  mr : ∀ r, mk1 rs a r = true → rs1 r = true
  mc : ∀ c, cs c = true → cs1 c = true
  c1 : ∀ r, rs1 r = true → mk1 rs a r = false → ∀ c, Adj R br r c → cs1 c = true
  c2 : ∀ c, cs1 c = true → cs c = false → ∀ r, Adj R br r c → rs1 r = true
  c0 : ∀ j (h : j < R.b.length), j < i → j ≠ br → R.b[j].1.toNat = a → cs1 R.b[j].2.1.toNat = true
  to : cs to = false → cs1 to = false
  tr : ∀ r c, c < 6 → T1 (r * 6 + c) = true → cs1 c = true
theorem row_step {R : Rk} (hok : OkR R) {x : AV} (hx : asR x = some R) {br a0 to q n : Nat} (hbr : br < R.b.length) (hlen : R.b.length ≤ 24) (ha0 : a0 < R.r.toNat) (hto : to < R.c.toNat) (ih : ColSpec R x br a0 to q n) : RowSpec R x br a0 to q (n + 1) := by
  intro hs T rs cs a W y ps qs hD ha hra hu hy hp hps hqs hT
  obtain ⟨v1, v2, v3, v4, v5, v6, v7, v8⟩ := RkV.of hx
  have hr6 := hok.r6
  have hc6 := hok.c6
  have hI := hp.inv hok ha0
  have hWl := hI.short hok
  refine FCall.of_body D19ok ok65 (by simp) (At.i ?_)
  have ix := idxA_cell (i := q + 2) (o := 0) (k := .i64) (n := a) (by omega)
  have st1 := store_row hD.r (o := a) (by omega)
  simp only [Nat.zero_add] at ix
  simp [A65, R65, ix, st1, v6, v7, blen v8]
  have hu1 : unv (mk1 rs a) cs ≤ n := by have := unv_r (cs := cs) (k := a) (by omega) hra; omega
  have hDm : DM x (br : Int) (to : Int) q ⟨fun k => if k = q + 2 then some (rowL 6 (mk1 rs a)) else hs.heap k, hs.nh, hs.nt, hs.tok⟩ T (mk1 rs a) cs := hD.setR (by simp) (fun i hi hne => by simp [hne]) (Nat.le_refl _)
  refine At.loop (fun (i : Nat) s => i ≤ R.b.length ∧ s.env 0 = .int .i64 (a : Int) ∧ s.env 1 = y ∧ s.env 3 = .ptr x ∧ s.env 4 = .ptr (.int .i64 (br : Int)) ∧ s.env 5 = .ref (q + 1) 0 ∧ s.env 6 = .ref (q + 3) 0 ∧ s.env 7 = .ref (q + 5) 0 ∧ s.env 17 = rb x ∧ s.env 18 = .int .i64 (R.b.length : Int) ∧ s.env 19 = .int .i64 (i : Int) ∧ Low q hs s.hs ∧
    ∃ T1 rs1 cs1, DM x (br : Int) (to : Int) q s.hs T1 rs1 cs1 ∧ RInv R br to a i rs cs T1 rs1 cs1) (fun i => R.b.length - i) 0 ?_ ?_
  · simp
    exact ⟨⟨Nat.le_refl _, fun i hi => by simp [show ¬ i = q + 2 by omega]⟩, T, mk1 rs a, cs, hDm, fun r h => h, fun c h => h, fun r h1 h2 => (by rw [h1] at h2; cases h2), fun c h1 h2 => (by rw [h1] at h2; cases h2), fun j h h0 => (by omega), fun h => h, hT⟩
  rintro N i s hN ⟨hi, e0, e1, e3, e4, e5, e6, e7, e17, e18, e19, hnh, T1, rs1, cs1, hD1, hR⟩
  simp [e18, e19]
  refine At.dec (fun hlt => ?_) (fun hlt => ?_)
  rotate_left
  · -- all braces were looked at
    have hie : i = R.b.length := by omega
    subst hie
    simp
    refine At.of ⟨.nilsl, rfl, hnh, .inl ⟨rfl, T1, rs1, cs1, hD1, ⟨fun r h => hR.mr r (mk1_mono h), hR.mc, fun r h1 h2 c hadj => ?_, hR.c2, hR.to, hR.tr⟩, hR.mr a mk1_same⟩⟩
    by_cases hra' : r = a
    · subst hra'
      obtain ⟨j, hj, hjb, h3, h4⟩ := hadj
      have := hR.c0 j hj hj hjb h3
      rw [h4] at this; exact this
    · exact hR.c1 r h1 (by rw [mk1_ne hra']; exact h2) c hadj
  have hi' : i < R.b.length := by omega
  obtain ⟨b, hb⟩ : ∃ b, b = R.b[i] := ⟨_, rfl⟩
  obtain ⟨k1, k2, k3, k4, k5, k6⟩ : okB R.r R.c b := by rw [hb]; exact hok.b _ (List.getElem_mem hi')
  obtain ⟨ρ, hρ⟩ : ∃ ρ : Nat, b.1 = (ρ : Int) := ⟨b.1.toNat, by omega⟩
  obtain ⟨κ, hκ⟩ : ∃ κ : Nat, b.2.1 = (κ : Int) := ⟨b.2.1.toNat, by omega⟩
  have hρn : R.b[i].1.toNat = ρ := by rw [← hb, hρ]; simp
  have hκn : R.b[i].2.1.toNat = κ := by rw [← hb, hκ]; simp
  have hbi := bidx v8 hi' (k := .i64)
  rw [← hb] at hbi
  have hbi' : aidxS 3 (rb x) (.int .i64 (i : Int)) = some (.ptr (brA b)) := hbi
  have gl : ∀ h, aload h true 3 (.ptr (brA b)) = some (brA b) := fun _ => rfl
  have hst : (brA b).sto = true := rfl
  have hbc : (brA b).cells = [.int .i64 (ρ : Int), .int .i64 (κ : Int), .int .i64 b.2.2] := by rw [← hρ, ← hκ]; rfl
  -- with the brace in memory
  generalize hH1 : ({ heap := fun k => if k = s.hs.nh then some [.int .i64 (ρ : Int), .int .i64 (κ : Int), .int .i64 b.2.2] else if k = s.hs.nh then some [.int .i64 0, .int .i64 0, .int .i64 0] else s.hs.heap k, nh := s.hs.nh + 1, nt := s.hs.nt, tok := s.hs.tok } : HS) = hs1
  have t3 : hs1.nh = s.hs.nh + 1 := by rw [← hH1]
  have t4 : ∀ i, i < s.hs.nh → hs1.heap i = s.hs.heap i := fun i hi => by rw [← hH1]; simp [show ¬ i = s.hs.nh by omega]
  have t5 : hs1.heap s.hs.nh = some [.int .i64 (ρ : Int), .int .i64 (κ : Int), .int .i64 b.2.2] := by rw [← hH1]; simp
  have hD2 := hD1.ext (hs' := hs1) t4 (by omega)
  have hq5 := hD1.lt
  have hlow1 : Low q hs hs1 := hnh.trans ⟨by omega, fun i hi => t4 i (by omega)⟩
  simp [e0, e4, e17, e19, hbi', gl, astore, hst, hbc, setL, env_none]
  rw [hH1]
  -- what goes on to the next brace
  have next : (i ≠ br → ρ = a → cs1 κ = true) → RInv R br to a (i + 1) rs cs T1 rs1 cs1 := fun h => ⟨hR.mr, hR.mc, hR.c1, hR.c2, fun j hj hji hjb hja => by
    by_cases hje : j = i
    · subst hje
      rw [hκn]; exact h hjb (by rw [← hρn]; exact hja)
    · exact hR.c0 j hj (by omega) hjb hja, hR.to, hR.tr⟩
  have ld := load_ptr_int (hp := hs1.heap) (k := .i64) (v := (br : Int))
  by_cases hib : i = br
  · subst hib
    simp [e0, e19]
    refine hN (i + 1) _ (by omega) ⟨by omega, ?_⟩
    simp [e0, e1, e3, e4, e5, e6, e7, e17, e18, wrap_nat1 (show i < _ by omega)]
    exact ⟨hlow1, T1, rs1, cs1, hD2, next (fun h => absurd rfl h)⟩
  have hib' : ¬ ((i : Int) = (br : Int)) := by omega
  by_cases hra' : ρ = a
  rotate_left
  · have : ¬ ((ρ : Int) = (a : Int)) := by omega
    simp [e0, e19, hib', la, t5, apart, this, fa]
    refine hN (i + 1) _ (by omega) ⟨by omega, ?_⟩
    simp [e0, e1, e3, e4, e5, e6, e7, e17, e18, wrap_nat1 (show i < _ by omega)]
    exact ⟨hlow1, T1, rs1, cs1, hD2, next (fun _ h => absurd h hra')⟩
  subst hra'
  have i1 := idxA_row (i := q + 1) (k := .i64) (n := ρ) (by omega)
  have i2 := idxA_cell (i := q + 1) (o := ρ * 6) (k := .i64) (n := κ) (by omega)
  have l1 := load_row hD2.t (o := ρ * 6 + κ) (by omega)
  have i3 := idxA_cell (i := q + 3) (o := 0) (k := .i64) (n := κ) (by omega)
  simp only [Nat.zero_add] at i3
  have l3 := load_row hD2.c (o := κ) (by omega)
  cases hTc : T1 (ρ * 6 + κ) with
  | true =>
    rw [hTc] at l1
    simp [e0, e5, e19, hib', la, t5, apart, fa, i1, i2, l1]
    refine hN (i + 1) _ (by omega) ⟨by omega, ?_⟩
    simp [e0, e1, e3, e4, e5, e6, e7, e17, e18, wrap_nat1 (show i < _ by omega)]
    exact ⟨hlow1, T1, rs1, cs1, hD2, next (fun _ _ => hR.tr ρ κ (by omega) hTc)⟩
  | false =>
  rw [hTc] at l1
  cases hcc : cs1 κ with
  | true =>
    rw [hcc] at l3
    simp [e0, e5, e6, e19, hib', la, t5, apart, fa, i1, i2, i3, l1, l3]
    refine hN (i + 1) _ (by omega) ⟨by omega, ?_⟩
    simp [e0, e1, e3, e4, e5, e6, e7, e17, e18, wrap_nat1 (show i < _ by omega)]
    exact ⟨hlow1, T1, rs1, cs1, hD2, next (fun _ _ => hcc)⟩
  | false =>
  rw [hcc] at l3
  simp [e0, e5, e6, e19, hib', la, t5, apart, fa, i1, i2, i3, l1, l3]
  have st2 := store_row hD2.t (o := ρ * 6 + κ) (by omega)
  generalize hH2 : ({ heap := fun k => if k = q + 1 then some (rowL 36 (mk1 T1 (ρ * 6 + κ))) else hs1.heap k, nh := hs1.nh, nt := hs1.nt, tok := hs1.tok } : HS) = hs2
  have w1 : hs2.heap (q + 1) = some (rowL 36 (mk1 T1 (ρ * 6 + κ))) := by rw [← hH2]; simp
  have w2 : ∀ i, i ≠ q + 1 → hs2.heap i = hs1.heap i := fun i hi => by rw [← hH2]; simp [hi]
  have w3 : hs2.nh = hs1.nh := by rw [← hH2]
  have hD3 := hD2.setT (hs' := hs2) w1 (fun i _ hi => w2 i hi) (by omega)
  have w5 : hs2.heap s.hs.nh = some [.int .i64 (ρ : Int), .int .i64 (κ : Int), .int .i64 b.2.2] := by rw [w2 _ (by omega)]; exact t5
  obtain ⟨z, hs3, a1, a2, a3⟩ := clip_add hy (by omega) (i : Int) hs2
  have hD4 := hD3.ext (hs' := hs3) (fun i _ => by rw [a3.heap]) (by rw [a3.nh]; omega)
  have hlow2 : Low q hs hs3 := hlow1.trans ⟨by rw [a3.nh, w3]; exact Nat.le_refl _, fun i hi => by rw [a3.heap, w2 i (by omega)]⟩
  have lg := load_one hD3.g
  have hhp : (fun k => if k = q + 1 then some (rowL 36 (mk1 T1 (ρ * 6 + κ))) else hs1.heap k) = hs2.heap := by rw [← hH2]
  simp [st2]
  rw [hH2, hhp]
  simp [e1, e7, lg, la, w5, apart, fa, SClip_i hy, astoAll, si, ci, a1]
  -- the column
  have hpc : Pth R br a0 (W ++ [(i : Int)]) false κ ps (κ :: qs) := by
    have := hp.col hi' hib (by rw [hρn]) (by
      rw [hκn]
      intro hm
      have := hR.mc κ (hqs κ hm)
      rw [hcc] at this; cases this)
    rw [hκn] at this; exact this
  have hu2 : unv rs1 cs1 ≤ n := Nat.le_trans (unv_mono (fun r h => hR.mr r h) hR.mc) hu1
  have hadj : Adj R br ρ κ := ⟨i, hi', hib, hρn, hκn⟩
  refine At.hc (R := DPost R x br a0 to q hs3 rs1 cs1 fun _ cs' => cs' κ = true) ?_ ?_ ?_
  refine ih hs3 _ rs1 cs1 κ _ z ps (κ :: qs) hD4 (by omega) hcc hu2 a2 hpc ?_ ?_ ?_
  · intro r hr
    rcases hps r hr with rfl | hr
    · exact hR.mr _ mk1_same
    · exact hR.mr _ (mk1_mono hr)
  · intro c hc
    rcases List.mem_cons.1 hc with rfl | hc
    · exact .inl rfl
    · exact .inr (hR.mc _ (hqs c hc))
  · intro r c hc6 hT1
    rcases mk1_or hT1 with h | h
    · exact .inl (by omega)
    · exact .inr (hR.tr r c hc6 h)
  · rintro v hs4 ⟨v', hv, hnh4, hcase⟩
    injection hv with hv; subst hv
    rcases hcase with ⟨rfl, T2, rs2, cs2, hD5, hC, hmark⟩ | ⟨⟨xs, cp, rfl⟩, W', ps', qs', hW', hP'⟩
    · simp [e19]
      refine hN (i + 1) _ (by omega) ⟨by omega, ?_⟩
      simp [e0, e1, e3, e4, e5, e6, e7, e17, e18, wrap_nat1 (show i < _ by omega)]
      refine ⟨hlow2.trans hnh4, T2, rs2, cs2, hD5, ⟨fun r h => hC.mr r (hR.mr r h), fun c h => hC.mc c (hR.mc c h), fun r h1 h2 c hadj => ?_, fun c h1 h2 r hadj => ?_, fun j hj hji hjb hja => ?_, fun h => hC.to (hR.to h), hC.tr⟩⟩
      · cases hr1 : rs1 r with
        | true => exact hC.mc c (hR.c1 r hr1 h2 c hadj)
        | false => exact hC.c1 r h1 hr1 c hadj
      · cases hc1 : cs1 c with
        | true => exact hC.mr r (hR.c2 c hc1 h2 r hadj)
        | false => exact hC.c2 c h1 hc1 r hadj
      · by_cases hje : j = i
        · subst hje
          rw [hκn]; exact hmark
        · exact hC.mc _ (hR.c0 j hj (by omega) hjb hja)
    · simp
      refine At.of ⟨_, rfl, hlow2.trans hnh4, .inr ⟨⟨xs, cp, rfl⟩, W', ps', qs', hW', hP'⟩⟩
  · rintro v hs4 ⟨v', hv, _⟩; cases hv
end Go.Proofs.Ytecbbbocjmdfgaa
set_option linter.unusedVariables false
set_option linter.unusedSimpArgs false
namespace Go.Proofs.Ytecbbbocjmdfgaa
open Go Fw

/-- the search of a column, before its brace i -/
structure CInv (R : Rk) (br to c i : Nat) (rs cs T1 rs1 cs1 : Nat → Bool) : Prop where
  mr : ∀ r, rs r = true → rs1 r = true
  mc : ∀ k, mk1 cs c k = true → cs1 k = true
  c1 : ∀ r, rs1 r = true → rs r = false → ∀ k, Adj R br r k → cs1 k = true
  c2 : ∀ k, cs1 k = true → mk1 cs c k = false → ∀ r, Adj R br r k → rs1 r = true
  c0 : ∀ j (h : j < R.b.length), j < i → j ≠ br → R.b[j].2.1.toNat = c → rs1 R.b[j].1.toNat = true
  to : mk1 cs c to = false → cs1 to = false
  tr : ∀ r k, k < 6 → T1 (r * 6 + k) = true → cs1 k = true
theorem col_step {R : Rk} (hok : OkR R) {x : AV} (hx : asR x = some R) {br a0 to q n : Nat} (hbr : br < R.b.length) (hlen : R.b.length ≤ 24) (ha0 : a0 < R.r.toNat) (hto : to < R.c.toNat) (ih : RowSpec R x br a0 to q n) : ColSpec R x br a0 to q (n + 1) := by
  intro hs T rs cs c W y ps qs hD hc hcc0 hu hy hp hps hqs hT
  obtain ⟨v1, v2, v3, v4, v5, v6, v7, v8⟩ := RkV.of hx
  have hr6 := hok.r6
  have hc6 := hok.c6
  have hI := hp.inv hok ha0
  have hWl := hI.short hok
  refine FCall.of_body D19ok ok67 (by simp) (At.i ?_)
  have ix := idxA_cell (i := q + 3) (o := 0) (k := .i64) (n := c) (by omega)
  have st1 := store_row hD.c (o := c) (by omega)
  simp only [Nat.zero_add] at ix
  have lo := load_one hD.o
  have hDm : DM x (br : Int) (to : Int) q ⟨fun k => if k = q + 3 then some (rowL 6 (mk1 cs c)) else hs.heap k, hs.nh, hs.nt, hs.tok⟩ T rs (mk1 cs c) := hD.setC (by simp) (fun i hi hne => by simp [hne]) (Nat.le_refl _)
  have lo' := load_one hDm.o
  simp only at lo'
  simp [A67, R67, ix, st1, v6, v7, blen v8, lo']
  have hyv : ∃ xs cp, y = .sl 1 xs cp := by
    rcases asI_inv hy with ⟨_, h⟩ | ⟨cp, h⟩
    · exact absurd h (hI.ne rfl)
    · exact ⟨_, cp, h⟩
  refine At.dec (fun hct => ?_) (fun hct => ?_)
  · have : c = to := by omega
    subst this
    simp
    exact At.of ⟨y, rfl, ⟨Nat.le_refl _, fun i hi => by simp [show ¬ i = q + 3 by omega]⟩, .inr ⟨hyv, W, ps, qs, hy, hp⟩⟩
  have hct' : c ≠ to := by omega
  simp [v6, v7, blen v8]
  have hu1 : unv rs (mk1 cs c) ≤ n := by have := unv_c (rs := rs) (k := c) (by omega) hcc0; omega
  refine At.loop (fun (i : Nat) s => i ≤ R.b.length ∧ s.env 0 = .int .i64 (c : Int) ∧ s.env 1 = y ∧ s.env 4 = .ptr x ∧ s.env 5 = .ptr (.int .i64 (br : Int)) ∧ s.env 6 = .ref (q + 2) 0 ∧ s.env 7 = .ref (q + 4) 0 ∧ s.env 21 = rb x ∧ s.env 22 = .int .i64 (R.b.length : Int) ∧ s.env 23 = .int .i64 (i : Int) ∧ Low q hs s.hs ∧
    ∃ T1 rs1 cs1, DM x (br : Int) (to : Int) q s.hs T1 rs1 cs1 ∧ CInv R br to c i rs cs T1 rs1 cs1) (fun i => R.b.length - i) 0 ?_ ?_
  · simp
    refine ⟨⟨Nat.le_refl _, fun i hi => by simp [show ¬ i = q + 3 by omega]⟩, T, rs, mk1 cs c, hDm, fun r h => h, fun c h => h, fun r h1 h2 => (by rw [h1] at h2; cases h2), fun c h1 h2 => (by rw [h1] at h2; cases h2), fun j h h0 => (by omega), fun h => h, fun r k hk h => ?_⟩
    rcases hT r k hk h with rfl | h
    · exact mk1_same
    · exact mk1_mono h
  rintro N i s hN ⟨hi, e0, e1, e4, e5, e6, e7, e21, e22, e23, hnh, T1, rs1, cs1, hD1, hR⟩
  simp [e22, e23]
  refine At.dec (fun hlt => ?_) (fun hlt => ?_)
  rotate_left
  · have hie : i = R.b.length := by omega
    subst hie
    simp
    refine At.of ⟨.nilsl, rfl, hnh, .inl ⟨rfl, T1, rs1, cs1, hD1, ⟨hR.mr, fun k h => hR.mc k (mk1_mono h), hR.c1, fun k h1 h2 r hadj => ?_, fun h => hR.to (by rw [mk1_ne (Ne.symm hct')]; exact h), hR.tr⟩, hR.mc c mk1_same⟩⟩
    by_cases hkc : k = c
    · subst hkc
      obtain ⟨j, hj, hjb, h3, h4⟩ := hadj
      have := hR.c0 j hj hj hjb h4
      rw [h3] at this; exact this
    · exact hR.c2 k h1 (by rw [mk1_ne hkc]; exact h2) r hadj
  have hi' : i < R.b.length := by omega
  obtain ⟨b, hb⟩ : ∃ b, b = R.b[i] := ⟨_, rfl⟩
  obtain ⟨k1, k2, k3, k4, k5, k6⟩ : okB R.r R.c b := by rw [hb]; exact hok.b _ (List.getElem_mem hi')
  obtain ⟨ρ, hρ⟩ : ∃ ρ : Nat, b.1 = (ρ : Int) := ⟨b.1.toNat, by omega⟩
  obtain ⟨κ, hκ⟩ : ∃ κ : Nat, b.2.1 = (κ : Int) := ⟨b.2.1.toNat, by omega⟩
  have hρn : R.b[i].1.toNat = ρ := by rw [← hb, hρ]; simp
  have hκn : R.b[i].2.1.toNat = κ := by rw [← hb, hκ]; simp
  have hbi := bidx v8 hi' (k := .i64)
  rw [← hb] at hbi
  have hbi' : aidxS 3 (rb x) (.int .i64 (i : Int)) = some (.ptr (brA b)) := hbi
  have gl : ∀ h, aload h true 3 (.ptr (brA b)) = some (brA b) := fun _ => rfl
  have hst : (brA b).sto = true := rfl
  have hbc : (brA b).cells = [.int .i64 (ρ : Int), .int .i64 (κ : Int), .int .i64 b.2.2] := by rw [← hρ, ← hκ]; rfl
  generalize hH1 : ({ heap := fun k => if k = s.hs.nh then some [.int .i64 (ρ : Int), .int .i64 (κ : Int), .int .i64 b.2.2] else if k = s.hs.nh then some [.int .i64 0, .int .i64 0, .int .i64 0] else s.hs.heap k, nh := s.hs.nh + 1, nt := s.hs.nt, tok := s.hs.tok } : HS) = hs1
  have t3 : hs1.nh = s.hs.nh + 1 := by rw [← hH1]
  have t4 : ∀ i, i < s.hs.nh → hs1.heap i = s.hs.heap i := fun i hi => by rw [← hH1]; simp [show ¬ i = s.hs.nh by omega]
  have t5 : hs1.heap s.hs.nh = some [.int .i64 (ρ : Int), .int .i64 (κ : Int), .int .i64 b.2.2] := by rw [← hH1]; simp
  have hD2 := hD1.ext (hs' := hs1) t4 (by omega)
  have hq5 := hD1.lt
  have hlow1 : Low q hs hs1 := hnh.trans ⟨by omega, fun i hi => t4 i (by omega)⟩
  simp [e0, e5, e21, e23, hbi', gl, astore, hst, hbc, setL, env_none]
  rw [hH1]
  have next : (i ≠ br → κ = c → rs1 ρ = true) → CInv R br to c (i + 1) rs cs T1 rs1 cs1 := fun h => ⟨hR.mr, hR.mc, hR.c1, hR.c2, fun j hj hji hjb hja => by
    by_cases hje : j = i
    · subst hje
      rw [hρn]; exact h hjb (by rw [← hκn]; exact hja)
    · exact hR.c0 j hj (by omega) hjb hja, hR.to, hR.tr⟩
  by_cases hib : i = br
  · subst hib
    simp [e0, e23]
    refine hN (i + 1) _ (by omega) ⟨by omega, ?_⟩
    simp [e0, e1, e4, e5, e6, e7, e21, e22, wrap_nat1 (show i < _ by omega)]
    exact ⟨hlow1, T1, rs1, cs1, hD2, next (fun h => absurd rfl h)⟩
  have hib' : ¬ ((i : Int) = (br : Int)) := by omega
  by_cases hkc : κ = c
  rotate_left
  · have : ¬ ((κ : Int) = (c : Int)) := by omega
    simp [e0, e23, hib', la, t5, apart, this, fa]
    refine hN (i + 1) _ (by omega) ⟨by omega, ?_⟩
    simp [e0, e1, e4, e5, e6, e7, e21, e22, wrap_nat1 (show i < _ by omega)]
    exact ⟨hlow1, T1, rs1, cs1, hD2, next (fun _ h => absurd h hkc)⟩
  subst hkc
  have i3 := idxA_cell (i := q + 2) (o := 0) (k := .i64) (n := ρ) (by omega)
  simp only [Nat.zero_add] at i3
  have l3 := load_row hD2.r (o := ρ) (by omega)
  cases hrr : rs1 ρ with
  | true =>
    rw [hrr] at l3
    simp [e0, e6, e23, hib', la, t5, apart, fa, i3, l3]
    refine hN (i + 1) _ (by omega) ⟨by omega, ?_⟩
    simp [e0, e1, e4, e5, e6, e7, e21, e22, wrap_nat1 (show i < _ by omega)]
    exact ⟨hlow1, T1, rs1, cs1, hD2, next (fun _ _ => hrr)⟩
  | false =>
  rw [hrr] at l3
  obtain ⟨z, hs3, a1, a2, a3⟩ := clip_add hy (by omega) (i : Int) hs1
  have hD4 := hD2.ext (hs' := hs3) (fun i _ => by rw [a3.heap]) (by rw [a3.nh]; omega)
  have hlow2 : Low q hs hs3 := hlow1.trans ⟨by rw [a3.nh]; exact Nat.le_refl _, fun i hi => by rw [a3.heap]⟩
  have lg := load_one hD2.f
  simp [e0, e1, e6, e7, e23, hib', la, t5, apart, fa, i3, l3, lg, SClip_i hy, astoAll, si, ci, a1]
  have hpc : Pth R br a0 (W ++ [(i : Int)]) true ρ (ρ :: ps) qs := by
    have := hp.row hi' hib (by rw [hκn]) (by
      rw [hρn]
      intro hm
      have := hR.mr ρ (hps ρ hm)
      rw [hrr] at this; cases this)
    rw [hρn] at this; exact this
  have hu2 : unv rs1 cs1 ≤ n := Nat.le_trans (unv_mono hR.mr (fun c h => hR.mc c h)) hu1
  refine At.hc (R := DPost R x br a0 to q hs3 rs1 cs1 fun rs' _ => rs' ρ = true) ?_ ?_ ?_
  refine ih hs3 T1 rs1 cs1 ρ _ z (ρ :: ps) qs hD4 (by omega) hrr hu2 a2 hpc ?_ ?_ hR.tr
  · intro r hr
    rcases List.mem_cons.1 hr with rfl | hr
    · exact .inl rfl
    · exact .inr (hR.mr _ (hps r hr))
  · intro k hk
    rcases hqs k hk with rfl | hk
    · exact hR.mc _ mk1_same
    · exact hR.mc _ (mk1_mono hk)
  · rintro v hs4 ⟨v', hv, hnh4, hcase⟩
    injection hv with hv; subst hv
    rcases hcase with ⟨rfl, T2, rs2, cs2, hD5, hC, hmark⟩ | ⟨⟨xs, cp, rfl⟩, W', ps', qs', hW', hP'⟩
    · simp [e23]
      refine hN (i + 1) _ (by omega) ⟨by omega, ?_⟩
      simp [e0, e1, e4, e5, e6, e7, e21, e22, wrap_nat1 (show i < _ by omega)]
      refine ⟨hlow2.trans hnh4, T2, rs2, cs2, hD5, ⟨fun r h => hC.mr r (hR.mr r h), fun c h => hC.mc c (hR.mc c h), fun r h1 h2 c hadj => ?_, fun c h1 h2 r hadj => ?_, fun j hj hji hjb hja => ?_, fun h => hC.to (hR.to h), hC.tr⟩⟩
      · cases hr1 : rs1 r with
        | true => exact hC.mc c (hR.c1 r hr1 h2 c hadj)
        | false => exact hC.c1 r h1 hr1 c hadj
      · cases hc1 : cs1 c with
        | true => exact hC.mr r (hR.c2 c hc1 h2 r hadj)
        | false => exact hC.c2 c h1 hc1 r hadj
      · by_cases hje : j = i
        · subst hje
          rw [hρn]; exact hmark
        · exact hC.mr _ (hR.c0 j hj (by omega) hjb hja)
    · simp
      refine At.of ⟨_, rfl, hlow2.trans hnh4, .inr ⟨⟨xs, cp, rfl⟩, W', ps', qs', hW', hP'⟩⟩
  · rintro v hs4 ⟨v', hv, _⟩; cases hv
theorem search {R : Rk} (hok : OkR R) {x : AV} (hx : asR x = some R) {br a0 to q : Nat} (hbr : br < R.b.length) (hlen : R.b.length ≤ 24) (ha0 : a0 < R.r.toNat) (hto : to < R.c.toNat) : ∀ n, RowSpec R x br a0 to q n ∧ ColSpec R x br a0 to q n
  | 0 => by
    have h6 := hok.r6
    have h7 := hok.c6
    constructor
    · intro hs T rs cs a W y ps qs hD ha hra hu
      have := unv_r (cs := cs) (k := a) (by omega) hra
      omega
    · intro hs T rs cs c W y ps qs hD hc hcc hu
      have := unv_c (rs := rs) (k := c) (by omega) hcc
      omega
  | n + 1 => ⟨row_step hok hx hbr hlen ha0 hto (search hok hx hbr hlen ha0 hto n).2, col_step hok hx hbr hlen ha0 hto (search hok hx hbr hlen ha0 hto n).1⟩
end Go.Proofs.Ytecbbbocjmdfgaa
set_option linter.unusedVariables false
set_option linter.unusedSimpArgs false
namespace Go.Proofs.Ytecbbbocjmdfgaa
open Go Fw

abbrev woR (R : Rk) (br : Nat) : Rk := rkL R (wo R.b br)
theorem ed_wo {R : Rk} {br : Nat} (hbr : br < R.b.length) {x y : Nat} : Ed (woR R br) x y ↔ ∃ j, ∃ h : j < R.b.length, j ≠ br ∧ edge R.r.toNat R.b[j] x y := by
  have := arrow_wo (r := R.r.toNat) (bs := R.b) (i := br) hbr (x := x) (y := y)
  unfold Ed
  rw [show (woR R br).r = R.r from rfl, show (woR R br).b = wo R.b br from rfl, this]
  unfold arrow
  constructor
  · rintro ⟨j, h, h1, h2, h3⟩; exact ⟨j, h, by omega, h3⟩
  · rintro ⟨j, h, h1, h3⟩; exact ⟨j, h, h, by omega, h3⟩
theorem pth_rt {R : Rk} (hrod : allRod R.b = true) {br a0 : Nat} (hbr : br < R.b.length) {W : List Int} {b : Bool} {cur : Nat} {ps qs : List Nat} (h : Pth R br a0 W b cur ps qs) : Rt (Ed (woR R br)) a0 (if b = true then cur else R.r.toNat + cur) := by
  induction h with
  | nil => exact .refl _
  | col h hi hne ha hn ih =>
    simp only [if_true] at ih
    simp only [Bool.false_eq_true, if_false]
    refine .tail ih ((ed_wo hbr).2 ⟨_, hi, hne, .inl ⟨?_, ha.symm, rfl⟩⟩)
    rw [allRod_iff.1 hrod _ (List.getElem_mem hi)]; decide
  | row h hi hne hc hn ih =>
    simp only [Bool.false_eq_true, if_false] at ih
    simp only [if_true]
    refine .tail ih ((ed_wo hbr).2 ⟨_, hi, hne, .inr ⟨?_, by rw [hc], rfl⟩⟩)
    rw [allRod_iff.1 hrod _ (List.getElem_mem hi)]; decide
theorem clo_rt {R : Rk} (hok : OkR R) {br a0 to : Nat} (hbr : br < R.b.length) (ha0 : a0 < R.r.toNat) {T' rs' cs' : Nat → Bool} (h : Clo R br to (fun _ => false) (fun _ => false) T' rs' cs') (hm : rs' a0 = true) : ¬ Rt (Ed (woR R br)) a0 (R.r.toNat + to) := by
  intro k
  have := k.closed (S := fun z => (z < R.r.toNat ∧ rs' z = true) ∨ (R.r.toNat ≤ z ∧ cs' (z - R.r.toNat) = true)) (fun x y e hS => ?_) (.inl ⟨ha0, hm⟩)
  · rcases this with ⟨h1, _⟩ | ⟨_, h2⟩
    · omega
    · rw [Nat.add_sub_cancel_left, h.to rfl] at h2; cases h2
  · obtain ⟨j, hj, hne, he⟩ := (ed_wo hbr).1 e
    obtain ⟨k1, k2, k3, k4, _⟩ := hok.b _ (List.getElem_mem hj)
    rcases he with ⟨_, rfl, rfl⟩ | ⟨_, rfl, rfl⟩
    · refine .inr ⟨by omega, ?_⟩
      rw [Nat.add_sub_cancel_left]
      rcases hS with ⟨_, hS⟩ | ⟨hS, _⟩
      · exact h.c1 _ hS rfl _ ⟨j, hj, hne, rfl, rfl⟩
      · omega
    · refine .inl ⟨by omega, ?_⟩
      rcases hS with ⟨hS, _⟩ | ⟨_, hS⟩
      · omega
      · rw [Nat.add_sub_cancel_left] at hS
        exact h.c2 _ hS rfl _ ⟨j, hj, hne, rfl, rfl⟩
/-- what Detour returns -/
def DetR (R : Rk) (br : Int) (w : AV) (e : Int) : Prop :=
  (rodE R ≠ 0 ∧ w = .nilsl ∧ e = rodE R) ∨ (rodE R = 0 ∧ ¬ (0 ≤ br ∧ br < R.b.length) ∧ w = .nilsl ∧ e = 5) ∨
  (rodE R = 0 ∧ ∃ k, ∃ h : k < R.b.length, br = (k : Int) ∧
    ((w = .nilsl ∧ e = 14 ∧ ¬ Rt (Ed (woR R k)) R.b[k].1.toNat (R.r.toNat + R.b[k].2.1.toNat)) ∨
     (e = 0 ∧ (∃ xs cp, w = .sl 1 xs cp) ∧ ∃ W ps qs, asI w = some W ∧ Pth R k R.b[k].1.toNat W false R.b[k].2.1.toNat ps qs)))
@[simp] theorem D17_62 : D17 62 = SRod := id rfl
@[simp] theorem D17_60 : D17 60 = SBtw := id rfl
theorem rep_row {n : Nat} : rowL n (fun _ => false) = List.replicate n (.bool false) := rowL_0.symm
theorem p32 {x : AV} {R : Rk} (hx : asR x = some R) (hl : R.b.length < 4294967296) {n : Int} (hs : HS) : FCall Try.prog 32 [x, .int .i64 n] hs fun e hs' => ∃ w er, e = .ret (.tup [w, .int .i64 er]) ∧ DetR R n w er ∧ HsExt hs hs' := by
  obtain ⟨v1, v2, v3, v4, v5, v6, v7, v8⟩ := RkV.of hx
  refine FCall.of_body D17ok ok32 (by simp) (At.i ?_)
  have hsn : (AV.int .i64 n).sto = true := rfl
  by_cases hr : rodE R = 0
  rotate_left
  · simp [A32, R32, v2, v3, hsn, SRod_i hx, hr]
    exact At.of ⟨_, _, ⟨rfl, rfl⟩, .inl ⟨hr, rfl, rfl⟩, .refl _⟩
  obtain ⟨hok, hlen⟩ : OkR R ∧ R.b.length ≤ 24 := chkR_zero.1 (rodE_iff.1 hr).1
  have hrod := (rodE_iff.1 hr).2
  have hw : IntKind.i64.wrap ((R.b.length : Int) - 1) = (R.b.length : Int) - 1 := wrap64 (by omega) (by omega)
  simp [A32, R32, v2, v3, v6, v7, hsn, SRod_i hx, hr, blen v8, hw, SBtw]
  by_cases hin : 0 ≤ n ∧ n ≤ (R.b.length : Int) - 1
  rotate_left
  · have hbt : btw 0 n ((R.b.length : Int) - 1) = false := by
      unfold btw
      rw [Bool.and_eq_false_iff]
      by_cases h0 : 0 ≤ n
      · exact .inr (by simp; omega)
      · exact .inl (by simp; omega)
    simp [hbt]
    exact At.of ⟨_, _, ⟨rfl, rfl⟩, .inr (.inl ⟨hr, by omega, rfl, rfl⟩), .refl _⟩
  have hbt : btw 0 n ((R.b.length : Int) - 1) = true := by unfold btw; simp; omega
  obtain ⟨k, rfl⟩ : ∃ k : Nat, n = (k : Int) := ⟨n.toNat, by omega⟩
  have hk : k < R.b.length := by omega
  obtain ⟨b, hb⟩ : ∃ b, b = R.b[k] := ⟨_, rfl⟩
  obtain ⟨k1, k2, k3, k4, k5, k6⟩ : okB R.r R.c b := by rw [hb]; exact hok.b _ (List.getElem_mem hk)
  obtain ⟨ρ, hρ⟩ : ∃ ρ : Nat, b.1 = (ρ : Int) := ⟨b.1.toNat, by omega⟩
  obtain ⟨κ, hκ⟩ : ∃ κ : Nat, b.2.1 = (κ : Int) := ⟨b.2.1.toNat, by omega⟩
  have hρn : R.b[k].1.toNat = ρ := by rw [← hb, hρ]; simp
  have hκn : R.b[k].2.1.toNat = κ := by rw [← hb, hκ]; simp
  have hbi := bidx v8 hk (k := .i64)
  rw [← hb, hρ, hκ] at hbi
  have f0 : afaddr false 1 0 (.ptr (.agg [.int .i64 (ρ : Int), .int .i64 (κ : Int), .int .i64 b.2.2])) = some (.ptr (.int .i64 (ρ : Int))) := rfl
  have f1 : afaddr false 1 1 (.ptr (.agg [.int .i64 (ρ : Int), .int .i64 (κ : Int), .int .i64 b.2.2])) = some (.ptr (.int .i64 (κ : Int))) := rfl
  have fns : ∀ (f : Fn) (a c : List AV), (AV.fn f a c).sto = true ∧ (AV.fn f a c).cells = [.fn f a c] := fun _ _ _ => ⟨rfl, rfl⟩
  generalize hq : hs.nh = q
  have sN := fun (f : Fn) (a c : List AV) => (fns f a c).1
  have cN := fun (f : Fn) (a c : List AV) => (fns f a c).2
  simp [hbt, v6, v7, hbi, f0, f1, hq, astore, si, ci, sN, cN, setL, env_none, la, apart]
  have hsr := (search hok hx (br := k) (a0 := ρ) (to := κ) (q := q) hk hlen (by omega) (by omega) 12).1
  unfold RowSpec at hsr
  refine At.hc (hsr _ (fun _ => false) (fun _ => false) (fun _ => false) ρ [] .nilsl [ρ] [] ?_ (by omega) rfl (by decide) rfl .nil (by simp) (by simp) (by simp)) ?_ ?_
  · have n1 : ¬ q = q + 1 := by omega
    have n2 : ¬ q = q + 1 + 1 := by omega
    have n3 : ¬ q = q + 1 + 1 + 1 := by omega
    have n4 : ¬ q = q + 1 + 1 + 1 + 1 := by omega
    have n5 : ¬ q = q + 1 + 1 + 1 + 1 + 1 := by omega
    constructor
    · simp [n1, n2, n3, n4, n5]
    · simp; rfl
    · simp; rfl
    · simp; rfl
    · simp
    · simp
    · simp
  · rintro v hs2 ⟨v', hv, hlow, hcase⟩
    injection hv with hv; subst hv
    have hext : HsExt hs hs2 := by
      refine ⟨?_, fun i hi => ?_⟩
      · have := hlow.nh
        simp at this
        omega
      · rw [hlow.heap i (by omega)]
        simp [show ¬ i = q by omega, show ¬ i = q + 1 by omega, show ¬ i = q + 1 + 1 by omega, show ¬ i = q + 1 + 1 + 1 by omega, show ¬ i = q + 1 + 1 + 1 + 1 by omega, show ¬ i = q + 1 + 1 + 1 + 1 + 1 by omega]
    rcases hcase with ⟨rfl, T2, rs2, cs2, hD5, hC, hmark⟩ | ⟨⟨xs, cp, rfl⟩, W', ps', qs', hW', hP'⟩
    · simp
      refine At.of ⟨_, _, ⟨rfl, rfl⟩, .inr (.inr ⟨hr, k, hk, rfl, .inl ⟨rfl, rfl, ?_⟩⟩), hext⟩
      rw [hρn, hκn]
      exact clo_rt hok hk (by omega) hC hmark
    · simp
      refine At.of ⟨_, _, ⟨rfl, rfl⟩, .inr (.inr ⟨hr, k, hk, rfl, .inr ⟨rfl, ⟨xs, cp, rfl⟩, W', ps', qs', hW', ?_⟩⟩), hext⟩
      rw [hρn, hκn]; exact hP'
  · rintro v hs2 ⟨v', hv, _⟩; cases hv
end Go.Proofs.Ytecbbbocjmdfgaa
set_option linter.unusedVariables false
set_option linter.unusedSimpArgs false
namespace Go.Proofs.Ytecbbbocjmdfgaa
open Go Fw

@[simp] theorem D18_58 : D18 58 = SReach := id rfl
@[simp] theorem D18_59 : D18 59 = SWo := id rfl
@[simp] theorem D18_60 : D18 60 = SBtw := id rfl
@[simp] theorem D18_61 : D18 61 = SIs := id rfl
theorem pow6 {m i : Nat} (hm : m ≤ 6) (hi : i ≤ 5) : m ^ i ≤ 7776 := Nat.le_trans (Nat.pow_le_pow_left hm i) (Nat.le_trans (Nat.pow_le_pow_right (by decide) hi) (by decide))
def pm (a i b j : Nat) : Nat := a ^ i * b ^ j
theorem pm_s1 {a i b : Nat} : (pm a i b 0 : Int) * (a : Int) = (pm a (i + 1) b 0 : Int) := by
  rw [← Int.natCast_mul]; simp only [pm, Nat.pow_zero, Nat.mul_one, Nat.pow_succ]
theorem pm_s2 {a i b j : Nat} : (pm a i b j : Int) * (b : Int) = (pm a i b (j + 1) : Int) := by
  rw [← Int.natCast_mul]; simp only [pm, Nat.pow_succ, Nat.mul_assoc]
theorem pm_le {a i b j : Nat} (ha : a ≤ 6) (hb : b ≤ 6) (hi : i ≤ 5) (hj : j ≤ 5) : (pm a i b j : Int) ≤ 60466176 := by
  have := Nat.mul_le_mul (pow6 ha hi) (pow6 hb hj)
  unfold pm
  omega
theorem pm_w {a i b j : Nat} (ha : a ≤ 6) (hb : b ≤ 6) (hi : i ≤ 5) (hj : j ≤ 5) : IntKind.i64.wrap (pm a i b j : Int) = (pm a i b j : Int) := by
  have := pm_le ha hb hi hj
  exact wrap64 (by omega) (by omega)
theorem pm_00 {a b : Nat} : (pm a 0 b 0 : Int) = 1 := by simp [pm]
def wyV (m n : Int) : AV := if (btw 1 m 6 && btw 1 n 6) = true then .tup [.int .i64 (pm m.toNat (n.toNat - 1) n.toNat (m.toNat - 1) : Int), .int .i64 0] else .tup [.int .i64 0, .int .i64 4]
theorem p34 (m n : Int) : PCall Try.prog 34 [.int .i64 m, .int .i64 n] (wyV m n) := by
  refine PCall.of D18ok ok34 (by simp) (by unfold wyV; split <;> rfl) fun hs' hb => ?_
  cases h1 : btw 1 m 6 with
  | false => simp [A34, R34, SBtw, h1, wyV]
  | true =>
  cases h2 : btw 1 n 6 with
  | false => simp [A34, R34, SBtw, h1, h2, wyV]
  | true =>
  have hres : wyV m n = .tup [.int .i64 (pm m.toNat (n.toNat - 1) n.toNat (m.toNat - 1) : Int), .int .i64 0] := by rw [wyV, h1, h2]; rfl
  rw [hres]
  have e1 : 1 ≤ m ∧ m ≤ 6 := by simpa [btw] using h1
  have e2 : 1 ≤ n ∧ n ≤ 6 := by simpa [btw] using h2
  obtain ⟨a, rfl⟩ : ∃ a : Nat, m = (a : Int) := ⟨m.toNat, by omega⟩
  obtain ⟨b, rfl⟩ : ∃ b : Nat, n = (b : Int) := ⟨n.toNat, by omega⟩
  have w1 : IntKind.i64.wrap ((b : Int) - 1) = ((b - 1 : Nat) : Int) := by rw [wrap64 (by omega) (by omega)]; omega
  have w2 : IntKind.i64.wrap ((a : Int) - 1) = ((a - 1 : Nat) : Int) := by rw [wrap64 (by omega) (by omega)]; omega
  simp only [Int.toNat_natCast]
  simp [A34, R34, SBtw, h1, h2, w1]
  refine At.loop (fun (i : Nat) s => i ≤ b - 1 ∧ s.env 0 = .int .i64 (a : Int) ∧ s.env 1 = .int .i64 (b : Int) ∧ s.env 16 = .int .i64 ((b - 1 : Nat) : Int) ∧ s.env 17 = .int .i64 (i : Int) ∧ s.env 6 = .int .i64 (pm a i b 0 : Int)) (fun i => b - 1 - i) 0 (by simp [pm_00]) ?_
  rintro N i s hN ⟨hi, g0, g1, g16, g17, g6⟩
  simp [g16, g17]
  refine At.dec (fun hlt => ?_) (fun hlt => ?_)
  · have hw : IntKind.i64.wrap ((pm a i b 0 : Int) * (a : Int)) = (pm a (i + 1) b 0 : Int) := by rw [pm_s1, pm_w (by omega) (by omega) (by omega) (by omega)]
    simp [g0, g6, g17, hw]
    refine hN (i + 1) _ (by omega) ⟨by omega, ?_⟩
    simp [g0, g1, g16, wrap_nat1 (show i < _ by omega)]
  · have : i = b - 1 := by omega
    subst this
    simp [g0, w2]
    refine At.loop (fun (i : Nat) s => i ≤ a - 1 ∧ s.env 1 = .int .i64 (b : Int) ∧ s.env 24 = .int .i64 ((a - 1 : Nat) : Int) ∧ s.env 25 = .int .i64 (i : Int) ∧ s.env 6 = .int .i64 (pm a (b - 1) b i : Int)) (fun i => a - 1 - i) 0 (by simp [g1, g6]) ?_
    rintro N2 i s2 hN2 ⟨hi, f1, f24, f25, f6⟩
    simp [f24, f25]
    refine At.dec (fun hlt2 => ?_) (fun hlt2 => ?_)
    · have hw : IntKind.i64.wrap ((pm a (b - 1) b i : Int) * (b : Int)) = (pm a (b - 1) b (i + 1) : Int) := by rw [pm_s2, pm_w (by omega) (by omega) (by omega) (by omega)]
      simp [f1, f6, f25, hw]
      refine hN2 (i + 1) _ (by omega) ⟨by omega, ?_⟩
      simp [f1, f24, wrap_nat1 (show i < _ by omega)]
    · have : i = a - 1 := by omega
      subst this
      simp [f6]
theorem p35 (m n : Int) : PCall Try.prog 35 [.int .i64 m, .int .i64 n] (wyV m n) := by
  refine PCall.of D18ok ok35 (by simp) (by unfold wyV; split <;> rfl) fun hs' hb => ?_
  cases h1 : btw 1 m 6 with
  | false => simp [A35, R35, SIs, h1, wyV]
  | true =>
  cases h2 : btw 1 n 6 with
  | false => simp [A35, R35, SIs, h1, h2, wyV]
  | true =>
  have hres : wyV m n = .tup [.int .i64 (pm m.toNat (n.toNat - 1) n.toNat (m.toNat - 1) : Int), .int .i64 0] := by rw [wyV, h1, h2]; rfl
  rw [hres]
  have e1 : 1 ≤ m ∧ m ≤ 6 := by simpa [btw] using h1
  have e2 : 1 ≤ n ∧ n ≤ 6 := by simpa [btw] using h2
  obtain ⟨a, rfl⟩ : ∃ a : Nat, m = (a : Int) := ⟨m.toNat, by omega⟩
  obtain ⟨b, rfl⟩ : ∃ b : Nat, n = (b : Int) := ⟨n.toNat, by omega⟩
  simp only [Int.toNat_natCast]
  simp [A35, R35, SIs, h1, h2]
  refine At.loop (fun (i : Nat) s => i ≤ b - 1 ∧ s.env 0 = .int .i64 (a : Int) ∧ s.env 1 = .int .i64 (b : Int) ∧ s.env 7 = .int .i64 ((i + 1 : Nat) : Int) ∧ s.env 6 = .int .i64 (pm a i b 0 : Int)) (fun i => b - 1 - i) 0 (by simp [pm_00]) ?_
  rintro N i s hN ⟨hi, g0, g1, g7, g6⟩
  simp [g1, g7]
  refine At.dec (fun hlt => ?_) (fun hlt => ?_)
  · have hw : IntKind.i64.wrap ((pm a i b 0 : Int) * (a : Int)) = (pm a (i + 1) b 0 : Int) := by rw [pm_s1, pm_w (by omega) (by omega) (by omega) (by omega)]
    have hw2 : IntKind.i64.wrap ((i : Int) + 1 + 1) = ((i + 1 + 1 : Nat) : Int) := by rw [wrap64 (by omega) (by omega)]; omega
    simp [g0, g6, g7, hw, hw2]
    refine hN (i + 1) _ (by omega) ⟨by omega, ?_⟩
    simp [g0, g1]
  · have : i = b - 1 := by omega
    subst this
    simp
    refine At.loop (fun (i : Nat) s => i ≤ a - 1 ∧ s.env 0 = .int .i64 (a : Int) ∧ s.env 1 = .int .i64 (b : Int) ∧ s.env 8 = .int .i64 ((i + 1 : Nat) : Int) ∧ s.env 6 = .int .i64 (pm a (b - 1) b i : Int)) (fun i => a - 1 - i) 0 (by simp [g0, g1, g6]) ?_
    rintro N2 i s2 hN2 ⟨hi, f0, f1, f8, f6⟩
    simp [f0, f8]
    refine At.dec (fun hlt2 => ?_) (fun hlt2 => ?_)
    · have hw : IntKind.i64.wrap ((pm a (b - 1) b i : Int) * (b : Int)) = (pm a (b - 1) b (i + 1) : Int) := by rw [pm_s2, pm_w (by omega) (by omega) (by omega) (by omega)]
      have hw2 : IntKind.i64.wrap ((i : Int) + 1 + 1) = ((i + 1 + 1 : Nat) : Int) := by rw [wrap64 (by omega) (by omega)]; omega
      simp [f1, f6, f8, hw, hw2]
      refine hN2 (i + 1) _ (by omega) ⟨by omega, ?_⟩
      simp [f0, f1]
    · have : i = a - 1 := by omega
      subst this
      simp [f6]
/-- the error of a detour, after the reference -/
def arR (R : Rk) (n : Int) : Int := if rodE R = 0 then (if 0 ≤ n ∧ n ≤ (R.b.length : Int) - 1 then (if rcR (woR R n.toNat) (R.b.getD n.toNat (0, 0, 0)).1.toNat (R.r.toNat + (R.b.getD n.toNat (0, 0, 0)).2.1.toNat) = true then 0 else 14) else 5) else rodE R
theorem p33 {x : AV} {R : Rk} (hx : asR x = some R) (n : Int) : PCall Try.prog 33 [x, .int .i64 n] (.int .i64 (arR R n)) := by
  obtain ⟨v1, v2, v3, v4, v5, v6, v7, v8⟩ := RkV.of hx
  refine PCall.of D18ok ok33 (by simp) rfl fun hs' hb => ?_
  have hl := (asB_inv v8).2.2
  by_cases hr : rodE R = 0
  rotate_left
  · simp [A33, R33, v2, v3, SFree_i hx, fdV, hr, arR]
  obtain ⟨hok, hlen⟩ : OkR R ∧ R.b.length ≤ 24 := chkR_zero.1 (rodE_iff.1 hr).1
  have hw : IntKind.i64.wrap ((R.b.length : Int) - 1) = (R.b.length : Int) - 1 := wrap64 (by omega) (by omega)
  simp [A33, R33, v2, v3, v6, v7, SFree_i hx, fdV, hr, blen v8, hw, SIs]
  by_cases hin : 0 ≤ n ∧ n ≤ (R.b.length : Int) - 1
  rotate_left
  · have hbt : btw 0 n ((R.b.length : Int) - 1) = false := by
      unfold btw
      rw [Bool.and_eq_false_iff]
      by_cases h0 : 0 ≤ n
      · exact .inr (by simp; omega)
      · exact .inl (by simp; omega)
    simp [hbt, arR, hr, hin]
  have hbt : btw 0 n ((R.b.length : Int) - 1) = true := by unfold btw; simp; omega
  obtain ⟨k, rfl⟩ : ∃ k : Nat, n = (k : Int) := ⟨n.toNat, by omega⟩
  have hk : k < R.b.length := by omega
  obtain ⟨b, hb⟩ : ∃ b, b = R.b[k] := ⟨_, rfl⟩
  have hgd : R.b.getD k (0, 0, 0) = b := by rw [List.getD_eq_getElem?_getD, List.getElem?_eq_getElem hk, hb]; rfl
  obtain ⟨k1, k2, k3, k4, k5, k6⟩ : okB R.r R.c b := by rw [hb]; exact hok.b _ (List.getElem_mem hk)
  obtain ⟨ρ, hρ⟩ : ∃ ρ : Nat, b.1 = (ρ : Int) := ⟨b.1.toNat, by omega⟩
  obtain ⟨κ, hκ⟩ : ∃ κ : Nat, b.2.1 = (κ : Int) := ⟨b.2.1.toNat, by omega⟩
  have hbi := bidx v8 hk (k := .i64)
  rw [← hb, hρ, hκ] at hbi
  have gl : ∀ h, aload h true 3 (.ptr (.agg [.int .i64 (ρ : Int), .int .i64 (κ : Int), .int .i64 b.2.2])) = some (.agg [.int .i64 (ρ : Int), .int .i64 (κ : Int), .int .i64 b.2.2]) := fun _ => rfl
  have hwo := asR_wo (R := R) (i := k) hl
  have hokw := hok.wo k
  have hre : SReach [woV R k] = some (mxV (nR R) (rcR (woR R k))) := by
    simp only [SReach, hwo, Option.bind_some]
    rw [if_pos hokw]
  have hr6 := hok.r6
  have hc6 := hok.c6
  have hr1 := hok.r1
  have hnn : nR R = R.r.toNat + R.c.toNat := rfl
  have m1 := midx (n := nR R) (M := rcR (woR R k)) (k := .i64) (a := ρ) (by omega)
  obtain ⟨τ, hτ⟩ : ∃ τ : Nat, τ = R.r.toNat + κ := ⟨_, rfl⟩
  have hsum : IntKind.i64.wrap (R.r + (κ : Int)) = (τ : Int) := by rw [wrap64 (by omega) (by omega)]; omega
  have m2 := ridx (n := nR R) (f := rcR (woR R k) ρ) (cp := .exact) (k := .i64) (a := τ) (by omega)
  have hld : ∀ h (xs : List AV), aload h false 1 (.ptr (.sl 1 xs .exact)) = some (.sl 1 xs .exact) := fun _ _ => rfl
  have hres : arR R (k : Int) = if rcR (woR R k) ρ (R.r.toNat + κ) = true then 0 else 14 := by
    rw [arR, if_pos hr, if_pos (by omega), Int.toNat_natCast, hgd, hρ, hκ]; rfl
  rw [← hτ] at hres
  rw [hres]
  simp [hbt, v3, v4, v6, v7, hbi, gl, astore, sa, ca, setL, env_none, SWo_i hx hk (by omega), hre, la, apart, fa, m1, hsum, hld, m2]
  cases hrc : rcR (woR R k) ρ τ <;> simp
end Go.Proofs.Ytecbbbocjmdfgaa
set_option linter.unusedVariables false
set_option linter.unusedSimpArgs false
namespace Go.Proofs.Ytecbbbocjmdfgaa
open Go Fw

theorem Pth.last {R : Rk} {br a0 : Nat} {W : List Int} {b : Bool} {c : Nat} {ps qs : List Nat} (h : Pth R br a0 W b c ps qs) :
    (W = [] ∧ b = true ∧ c = a0 ∧ ps = [a0] ∧ qs = []) ∨
    (∃ W' a qs' i, ∃ hi : i < R.b.length, W = W' ++ [(i : Int)] ∧ b = false ∧ c = R.b[i].2.1.toNat ∧ qs = R.b[i].2.1.toNat :: qs' ∧ Pth R br a0 W' true a ps qs' ∧ i ≠ br ∧ R.b[i].1.toNat = a ∧ R.b[i].2.1.toNat ∉ qs') ∨
    (∃ W' a ps' i, ∃ hi : i < R.b.length, W = W' ++ [(i : Int)] ∧ b = true ∧ c = R.b[i].1.toNat ∧ ps = R.b[i].1.toNat :: ps' ∧ Pth R br a0 W' false a ps' qs ∧ i ≠ br ∧ R.b[i].2.1.toNat = a ∧ R.b[i].1.toNat ∉ ps') := by
  cases h with
  | nil => exact .inl ⟨rfl, rfl, rfl, rfl, rfl⟩
  | col h hi hne ha hn => exact .inr (.inl ⟨_, _, _, _, hi, rfl, rfl, rfl, rfl, h, hne, ha, hn⟩)
  | row h hi hne hc hn => exact .inr (.inr ⟨_, _, _, _, hi, rfl, rfl, rfl, rfl, h, hne, hc, hn⟩)
theorem snoc_inj {W W' : List Int} {i j : Int} (h : W ++ [i] = W' ++ [j]) : W = W' ∧ i = j := by
  have := List.append_inj' h rfl
  exact ⟨this.1, by simpa using this.2⟩
theorem Pth.det {R : Rk} {br a0 : Nat} : ∀ (n : Nat) {W : List Int}, W.length = n → ∀ {b b' : Bool} {c c' : Nat} {ps qs ps' qs' : List Nat}, Pth R br a0 W b c ps qs → Pth R br a0 W b' c' ps' qs' → b = b' ∧ c = c' ∧ ps = ps' ∧ qs = qs'
  | 0, W, hW, b, b', c, c', ps, qs, ps', qs', h, k => by
    have : W = [] := List.length_eq_zero_iff.1 hW
    subst this
    rcases h.last with ⟨_, rfl, rfl, rfl, rfl⟩ | ⟨W', a, q, i, hi, e, _⟩ | ⟨W', a, q, i, hi, e, _⟩
    · rcases k.last with ⟨_, rfl, rfl, rfl, rfl⟩ | ⟨W', a, q, i, hi, e, _⟩ | ⟨W', a, q, i, hi, e, _⟩
      · exact ⟨rfl, rfl, rfl, rfl⟩
      · simp at e
      · simp at e
    · simp at e
    · simp at e
  | n + 1, W, hW, b, b', c, c', ps, qs, ps', qs', h, k => by
    rcases h.last with ⟨e, _⟩ | ⟨W1, a, q, i, hi, e, rfl, rfl, rfl, h1, h2, h3, h4⟩ | ⟨W1, a, q, i, hi, e, rfl, rfl, rfl, h1, h2, h3, h4⟩
    · subst e; simp at hW
    · rcases k.last with ⟨e', _⟩ | ⟨W2, a2, q2, i2, hi2, e', rfl, rfl, rfl, k1, k2, k3, k4⟩ | ⟨W2, a2, q2, i2, hi2, e', rfl, rfl, rfl, k1, k2, k3, k4⟩
      · subst e'; simp at hW
      · subst e
        obtain ⟨rfl, e2⟩ := snoc_inj e'
        have : i = i2 := by omega
        subst this
        obtain ⟨_, _, h5, h6⟩ := Pth.det n (by simpa using hW) h1 k1
        exact ⟨rfl, rfl, h5, by rw [h6]⟩
      · subst e
        obtain ⟨rfl, e2⟩ := snoc_inj e'
        obtain ⟨h5, _⟩ := Pth.det n (by simpa using hW) h1 k1
        cases h5
    · rcases k.last with ⟨e', _⟩ | ⟨W2, a2, q2, i2, hi2, e', rfl, rfl, rfl, k1, k2, k3, k4⟩ | ⟨W2, a2, q2, i2, hi2, e', rfl, rfl, rfl, k1, k2, k3, k4⟩
      · subst e'; simp at hW
      · subst e
        obtain ⟨rfl, e2⟩ := snoc_inj e'
        obtain ⟨h5, _⟩ := Pth.det n (by simpa using hW) h1 k1
        cases h5
      · subst e
        obtain ⟨rfl, e2⟩ := snoc_inj e'
        have : i = i2 := by omega
        subst this
        obtain ⟨_, _, h5, h6⟩ := Pth.det n (by simpa using hW) h1 k1
        exact ⟨rfl, rfl, by rw [h5], h6⟩
theorem Pth.take {R : Rk} {br a0 : Nat} {W : List Int} {b : Bool} {c : Nat} {ps qs : List Nat} (h : Pth R br a0 W b c ps qs) : ∀ k, k ≤ W.length → ∃ b c ps qs, Pth R br a0 (W.take k) b c ps qs := by
  induction h with
  | nil => intro k hk; exact ⟨_, _, _, _, by simpa using Pth.nil⟩
  | @col W a ps qs i h hi hne ha hn ih =>
    intro k hk
    rcases Nat.lt_or_ge W.length k with h' | h'
    · have : k = (W ++ [(i : Int)]).length := by simp at hk ⊢; omega
      rw [this, List.take_length]
      exact ⟨_, _, _, _, .col h hi hne ha hn⟩
    · rw [List.take_append_of_le_length h']; exact ih k h'
  | @row W a ps qs i h hi hne ha hn ih =>
    intro k hk
    rcases Nat.lt_or_ge W.length k with h' | h'
    · have : k = (W ++ [(i : Int)]).length := by simp at hk ⊢; omega
      rw [this, List.take_length]
      exact ⟨_, _, _, _, .row h hi hne ha hn⟩
    · rw [List.take_append_of_le_length h']; exact ih k h'
/-- the step after a beginning -/
theorem Pth.next {R : Rk} {br a0 : Nat} {W : List Int} {b : Bool} {c : Nat} {ps qs : List Nat} (h : Pth R br a0 W b c ps qs) {k : Nat} (hk : k < W.length) {b1 : Bool} {c1 : Nat} {p1 q1 : List Nat} (h1 : Pth R br a0 (W.take k) b1 c1 p1 q1) :
    ∃ i, ∃ hi : i < R.b.length, W[k] = (i : Int) ∧ i ≠ br ∧
      ((b1 = true ∧ R.b[i].1.toNat = c1 ∧ R.b[i].2.1.toNat ∉ q1 ∧ Pth R br a0 (W.take (k + 1)) false R.b[i].2.1.toNat p1 (R.b[i].2.1.toNat :: q1)) ∨
       (b1 = false ∧ R.b[i].2.1.toNat = c1 ∧ R.b[i].1.toNat ∉ p1 ∧ Pth R br a0 (W.take (k + 1)) true R.b[i].1.toNat (R.b[i].1.toNat :: p1) q1)) := by
  obtain ⟨b2, c2, p2, q2, h2⟩ := h.take (k + 1) hk
  rw [take_snoc hk] at h2
  rcases h2.last with ⟨e, _⟩ | ⟨W1, a, q, i, hi, e, rfl, rfl, rfl, h3, h4, h5, h6⟩ | ⟨W1, a, q, i, hi, e, rfl, rfl, rfl, h3, h4, h5, h6⟩
  · exact absurd e (List.append_ne_nil_of_right_ne_nil _ (by simp))
  · obtain ⟨rfl, e2⟩ := snoc_inj e
    obtain ⟨rfl, rfl, rfl, rfl⟩ := Pth.det _ rfl h1 h3
    exact ⟨i, hi, e2, h4, .inl ⟨rfl, h5, h6, by rw [take_snoc hk]; exact h2⟩⟩
  · obtain ⟨rfl, e2⟩ := snoc_inj e
    obtain ⟨rfl, rfl, rfl, rfl⟩ := Pth.det _ rfl h1 h3
    exact ⟨i, hi, e2, h4, .inr ⟨rfl, h5, h6, by rw [take_snoc hk]; exact h2⟩⟩
/-- both rows of marks -/
structure PM (r c : Nat) (s : AS) (f g : Nat → Bool) (u v : Nat) : Prop where
  e7 : s.env 7 = .msl false 1 u 0 r true
  e8 : s.env 8 = .msl false 1 v 0 c true
  hu : s.hs.heap u = some (rowL r f)
  hv : s.hs.heap v = some (rowL c g)
  ne : u ≠ v
  ult : u < s.hs.nh
  vlt : v < s.hs.nh
structure P0 (x w : AV) (br rn cn : Nat) (s : AS) : Prop where
  e1 : s.env 1 = .int .i64 (br : Int)
  e2 : s.env 2 = w
  e3 : s.env 3 = .ptr x
  ex : ∃ u v, PM rn cn s (fun _ => false) (fun _ => false) u v
structure PI (R : Rk) (x w : AV) (W : List Int) (br a0 rn cn u v k : Nat) (s : AS) : Prop where
  le : k ≤ W.length
  e1 : s.env 1 = .int .i64 (br : Int)
  e2 : s.env 2 = w
  e3 : s.env 3 = .ptr x
  e12 : s.env 12 = .int .i64 (k : Int)
  ex : ∃ (b1 : Bool) (c1 : Nat) (p1 q1 : List Nat) (row col : Nat) (f g : Nat → Bool), Pth R br a0 (W.take k) b1 c1 p1 q1 ∧ s.env 10 = .bool b1 ∧ s.env 9 = .int .i64 (row : Int) ∧ s.env 11 = .int .i64 (col : Int) ∧ (if b1 = true then row = c1 else col = c1) ∧ PM rn cn s f g u v ∧ (∀ r, f r = true ↔ r ∈ p1) ∧ (∀ c, g c = true ↔ c ∈ q1)
theorem p36 {x w : AV} {R : Rk} (hx : asR x = some R) (hok : OkR R) (hlen : R.b.length ≤ 60) {br : Nat} (hbr : br < R.b.length) {W : List Int} (hw : asI w = some W) {ps qs : List Nat} (hP : Pth R br R.b[br].1.toNat W false R.b[br].2.1.toNat ps qs) : PCall Try.prog 36 [x, .int .i64 (br : Int), w] (.bool true) := by
  obtain ⟨v1, v2, v3, v4, v5, v6, v7, v8⟩ := RkV.of hx
  refine PCall.of D18ok ok36 (by simp) rfl fun hs' hb => ?_
  have hr6 := hok.r6
  have hc6 := hok.c6
  have hr1 := hok.r1
  have hc1 := hok.c1
  obtain ⟨b, hbb⟩ : ∃ b, b = R.b[br] := ⟨_, rfl⟩
  obtain ⟨k1, k2, k3, k4, k5, k6⟩ : okB R.r R.c b := by rw [hbb]; exact hok.b _ (List.getElem_mem hbr)
  obtain ⟨ρ, hρ⟩ : ∃ ρ : Nat, b.1 = (ρ : Int) := ⟨b.1.toNat, by omega⟩
  obtain ⟨κ, hκ⟩ : ∃ κ : Nat, b.2.1 = (κ : Int) := ⟨b.2.1.toNat, by omega⟩
  rw [← hbb, hρ, hκ, Int.toNat_natCast, Int.toNat_natCast] at hP
  have hI := hP.inv hok (by omega)
  have hWl := hI.short hok
  have hW0 : W ≠ [] := hI.ne rfl
  have hW1 : 0 < W.length := List.length_pos_iff.2 hW0
  obtain ⟨rn, hrn⟩ : ∃ rn : Nat, R.r = (rn : Int) := ⟨R.r.toNat, by omega⟩
  obtain ⟨cn, hcn⟩ : ∃ cn : Nat, R.c = (cn : Int) := ⟨R.c.toNat, by omega⟩
  have hW1' : ¬ ((W.length : Int) = 0) := by omega
  simp [A36, R36, v2, alen_of hw, hW0]
  refine At.any_to (P0 x w br rn cn) ?_ ?_
  · have hmk := fun hs : HS => amake_eq (z := .bool false) (hs := hs) (k1 := .i64) (k2 := .i64) (n := rn) (by omega)
    have hmk2 := fun hs : HS => amake_eq (z := .bool false) (hs := hs) (k1 := .i64) (k2 := .i64) (n := cn) (by omega)
    rw [← hrn] at hmk
    rw [← hcn] at hmk2
    refine At.any_q 0 endN_p rfl rfl rfl ?_
    simp [v4]
    refine At.any_l 1 endN_p rfl rfl ⟨_, rfl⟩ ?_
    simp
    refine At.any_q 3 endN_p rfl rfl rfl ?_
    simp [v5]
    refine At.any_l 4 endN_p rfl rfl ⟨_, rfl⟩ ?_
    simp
    refine At.any_2 2 5 rfl rfl rfl ?_ ?_
    · simp [hmk]
      refine At.any_q 6 endN_p rfl rfl rfl ?_
      simp
      refine At.any_o 5 rfl rfl ?_
      simp [hmk2]
      refine At.any_o 7 rfl rfl ?_
      simp
      refine At.any_e rfl ?_
      simp
      refine At.of ⟨by simp, by simp, by simp, hs'.nh, hs'.nh + 1, ⟨by simp, by simp, ?_, ?_, by omega, ?_, ?_⟩⟩
      · simp [HS.blk, ← rowL_0]
      · simp [HS.blk, ← rowL_0]
      · simp; omega
      · simp
    · simp [hmk2]
      refine At.any_o 2 rfl rfl ?_
      simp [hmk]
      refine At.any_q 6 endN_p rfl rfl rfl ?_
      simp
      refine At.any_o 7 rfl rfl ?_
      simp
      refine At.any_e rfl ?_
      simp
      refine At.of ⟨by simp, by simp, by simp, hs'.nh + 1, hs'.nh, ⟨by simp, by simp, ?_, ?_, by omega, ?_, ?_⟩⟩
      · simp [HS.blk, ← rowL_0]
      · simp [HS.blk, ← rowL_0]
      · simp
      · simp; omega
  rintro s0 ⟨e1, e2, e3, u, v, hM⟩
  have hbi := bidx v8 hbr (k := .i64)
  rw [← hbb, hρ, hκ] at hbi
  have f0 : ∀ (a b c : AV), afaddr false 1 0 (.ptr (.agg [a, b, c])) = some (.ptr a) := fun _ _ _ => by simp
  obtain ⟨e7, e8, hu, hv, hne, hul, hvl⟩ := hM
  have st0 := store_row hu (o := ρ) (by omega)
  simp [e1, e2, e3, v6, v7, hbi, f0, e7, aidx_msln (show ρ < rn by omega), st0]
  have hwl1 : IntKind.i64.wrap ((R.b.length : Int) - 1) = (R.b.length : Int) - 1 := wrap64 (by omega) (by omega)
  refine At.loop (fun (k : Nat) s => PI R x w W br ρ rn cn u v k s) (fun k => W.length - k) 0 ?_ ?_
  · refine ⟨by omega, by simp [e1], by simp [e2], by simp [e3], by simp, ⟨true, ρ, [ρ], [], ρ, 0, mk1 (fun _ => false) ρ, fun _ => false, by simpa using Pth.nil, by simp, by simp, by simp, by simp, ⟨by simp [e7], by simp [e8], by simp, by simp [hv, Ne.symm hne], hne, by simpa using hul, by simpa using hvl⟩, ?_, by simp⟩⟩
    intro r; simp [mk1]
  rintro N k s hN ⟨hk, g1, g2, g3, g12, b1, c1, p1, q1, row, col, f, g, hPk, g10, g9, g11, hcur, hM, hf, hg⟩
  obtain ⟨m7, m8, mu, mv, _, mul, mvl⟩ := hM
  simp [g2, g12, alen_of hw]
  refine At.dec (fun hlt => ?_) (fun hlt => ?_)
  rotate_left
  · have hkW : k = W.length := by omega
    subst hkW
    rw [List.take_length] at hPk
    obtain ⟨rfl, rfl, _, _⟩ := Pth.det _ rfl hP hPk
    simp only [Bool.false_eq_true, if_false] at hcur
    have f1 : ∀ (a b c : AV), afaddr false 1 1 (.ptr (.agg [a, b, c])) = some (.ptr b) := fun _ _ _ => by simp
    simp [g10, g11, g3, v6, v7, g1, hbi, f1, hcur]
  have hlt' : k < W.length := by omega
  obtain ⟨i, hi, hWk, hib, hcase⟩ := hP.next hlt' hPk
  have hib' : ¬ ((i : Int) = (br : Int)) := by omega
  obtain ⟨b2, hb2⟩ : ∃ b2, b2 = R.b[i] := ⟨_, rfl⟩
  obtain ⟨j1, j2, j3, j4, j5, j6⟩ : okB R.r R.c b2 := by rw [hb2]; exact hok.b _ (List.getElem_mem hi)
  obtain ⟨ρ2, hρ2⟩ : ∃ ρ2 : Nat, b2.1 = (ρ2 : Int) := ⟨b2.1.toNat, by omega⟩
  obtain ⟨κ2, hκ2⟩ : ∃ κ2 : Nat, b2.2.1 = (κ2 : Int) := ⟨b2.2.1.toNat, by omega⟩
  rw [← hb2, hρ2, hκ2, Int.toNat_natCast, Int.toNat_natCast] at hcase
  have hbi2 := bidx v8 hi (k := .i64)
  rw [← hb2, hρ2, hκ2] at hbi2
  have wi := aidx_nat hw hlt' (k := .i64)
  rw [hWk] at wi
  have hbt : btw 0 (i : Int) ((R.b.length : Int) - 1) = true := by unfold btw; simp; omega
  have gl : ∀ h, aload h true 3 (.ptr (.agg [.int .i64 (ρ2 : Int), .int .i64 (κ2 : Int), .int .i64 b2.2.2])) = some (.agg [.int .i64 (ρ2 : Int), .int .i64 (κ2 : Int), .int .i64 b2.2.2]) := fun _ => rfl
  have nu : ¬ u = s.hs.nh := by omega
  have nv : ¬ v = s.hs.nh := by omega
  have nu2 : ¬ s.hs.nh = u := by omega
  have nv2 : ¬ s.hs.nh = v := by omega
  simp [g2, g12, wi, g3, v6, v7, blen v8, hwl1, SIs, hbt, g1, hib', hbi2, gl, astore, sa, ca, setL, env_none, g10]
  generalize hH1 : ({ heap := fun k => if k = s.hs.nh then some [.int .i64 (ρ2 : Int), .int .i64 (κ2 : Int), .int .i64 b2.2.2] else if k = s.hs.nh then some [.int .i64 0, .int .i64 0, .int .i64 0] else s.hs.heap k, nh := s.hs.nh + 1, nt := s.hs.nt, tok := s.hs.tok } : HS) = hs1
  have t3 : hs1.nh = s.hs.nh + 1 := by rw [← hH1]
  have t5 : hs1.heap s.hs.nh = some [.int .i64 (ρ2 : Int), .int .i64 (κ2 : Int), .int .i64 b2.2.2] := by rw [← hH1]; simp
  have tu : hs1.heap u = some (rowL rn f) := by rw [← hH1]; simp [nu, mu]
  have tv : hs1.heap v = some (rowL cn g) := by rw [← hH1]; simp [nv, mv]
  rcases hcase with ⟨rfl, hc1e, hnq, hPn⟩ | ⟨rfl, hc1e, hnp, hPn⟩
  · simp only [if_true] at hcur
    subst hcur
    subst hc1e
    have hgk : g κ2 = false := by
      cases h : g κ2 with
      | false => rfl
      | true => exact absurd ((hg κ2).1 h) hnq
    have lv := load_row tv (o := κ2) (by omega)
    rw [hgk] at lv
    have sv := store_row tv (o := κ2) (by omega)
    simp [la, t5, apart, fa, g9, m8, aidx_msln (show κ2 < cn by omega), lv, sv, g10, g12]
    refine hN (k + 1) _ (by omega) ⟨by omega, by simp [g1], by simp [g2], by simp [g3], by simp [wrap_nat1 (show k < _ by omega)], ⟨false, κ2, p1, κ2 :: q1, ρ2, κ2, f, mk1 g κ2, hPn, by simp, by simp [g9], by simp, by simp, ⟨by simp [m7], by simp [m8], by simp [tu, hne], by simp, hne, by simp; omega, by simp; omega⟩, hf, ?_⟩⟩
    intro c
    constructor
    · intro h
      rcases mk1_or h with rfl | h
      · simp
      · exact List.mem_cons_of_mem _ ((hg c).1 h)
    · intro h
      rcases List.mem_cons.1 h with rfl | h
      · exact mk1_same
      · exact mk1_mono ((hg c).2 h)
  · simp only [Bool.false_eq_true, if_false] at hcur
    subst hcur
    subst hc1e
    have hfk : f ρ2 = false := by
      cases h : f ρ2 with
      | false => rfl
      | true => exact absurd ((hf ρ2).1 h) hnp
    have lu := load_row tu (o := ρ2) (by omega)
    rw [hfk] at lu
    have su := store_row tu (o := ρ2) (by omega)
    simp [la, t5, apart, fa, g11, m7, aidx_msln (show ρ2 < rn by omega), lu, su, g10, g12]
    refine hN (k + 1) _ (by omega) ⟨by omega, by simp [g1], by simp [g2], by simp [g3], by simp [wrap_nat1 (show k < _ by omega)], ⟨true, ρ2, ρ2 :: p1, q1, ρ2, κ2, mk1 f ρ2, g, hPn, by simp, by simp, by simp [g11], by simp, ⟨by simp [m7], by simp [m8], by simp, by simp [tv, Ne.symm hne], hne, by simp; omega, by simp; omega⟩, ?_, hg⟩⟩
    intro r
    constructor
    · intro h
      rcases mk1_or h with rfl | h
      · simp
      · exact List.mem_cons_of_mem _ ((hf r).1 h)
    · intro h
      rcases List.mem_cons.1 h with rfl | h
      · exact mk1_same
      · exact mk1_mono ((hf r).2 h)
end Go.Proofs.Ytecbbbocjmdfgaa
set_option linter.unusedVariables false
set_option linter.unusedSimpArgs false
namespace Go.Proofs.Ytecbbbocjmdfgaa
open Go Fw

def SAr : List AV → Option AV
  | [x, .int .i64 n] => (asR x).map fun R => .int .i64 (arR R n)
  | _ => none
theorem c33 : ∀ a r, SAr a = some r → PCall Try.prog 33 a r := by
  intro a r h
  unfold SAr at h
  split at h <;> (try (cases h; done))
  obtain ⟨R, h1, rfl⟩ := optmap_some h
  exact p33 h1 _
def SWy : List AV → Option AV
  | [.int .i64 m, .int .i64 n] => some (wyV m n)
  | _ => none
theorem c34 : ∀ a r, SWy a = some r → PCall Try.prog 34 a r := by
  intro a r h
  unfold SWy at h
  split at h <;> (try (cases h; done))
  injection h with h; subst h
  exact p34 _ _
theorem c35 : ∀ a r, SWy a = some r → PCall Try.prog 35 a r := by
  intro a r h
  unfold SWy at h
  split at h <;> (try (cases h; done))
  injection h with h; subst h
  exact p35 _ _
def PsOk (x w : AV) (n : Int) : Prop := ∃ R, ∃ br : Nat, ∃ h : br < R.b.length, ∃ W ps qs, asR x = some R ∧ OkR R ∧ R.b.length ≤ 60 ∧ n = (br : Int) ∧ asI w = some W ∧ Pth R br R.b[br].1.toNat W false R.b[br].2.1.toNat ps qs
open Classical in
noncomputable def SPs : List AV → Option AV
  | [x, .int .i64 n, w] => if PsOk x w n then some (.bool true) else none
  | _ => none
theorem SPs_i {x w : AV} {n : Int} (h : PsOk x w n) : SPs [x, .int .i64 n, w] = some (.bool true) := by simp [SPs, h]
theorem c36 : ∀ a r, SPs a = some r → PCall Try.prog 36 a r := by
  intro a r h
  unfold SPs at h
  split at h <;> (try (cases h; done))
  split at h <;> (try (cases h; done))
  rename_i hp
  injection h with h; subst h
  obtain ⟨R, br, hbr, W, ps, qs, h1, h2, h3, rfl, h4, h5⟩ := hp
  exact p36 h1 h2 h3 hbr h4 h5
noncomputable def D20 : PCtx := ((((D18.add 33 SAr).add 34 SWy).add 35 SWy).add 36 SPs)
theorem D20ok : CtxOk Try.prog D20 := (((D18ok.add c33).add c34).add c35).add c36
theorem D20_15 : D20 15 = SWk := id rfl
theorem D20_33 : D20 33 = SAr := id rfl
theorem D20_34 : D20 34 = SWy := id rfl
theorem D20_35 : D20 35 = SWy := id rfl
theorem D20_36 : D20 36 = SPs := id rfl
theorem wyV_form (m n : Int) : ∃ a e, wyV m n = .tup [.int .i64 a, .int .i64 e] := by
  unfold wyV
  split
  · exact ⟨_, _, rfl⟩
  · exact ⟨_, _, rfl⟩
theorem p5 {x : AV} {R : Rk} (hx : asR x = some R) (hl60 : R.b.length ≤ 60) (n m k : Int) : PCall Try.prog 5 [x, .int .i64 n, .int .i64 m, .int .i64 k] (.bool true) := by
  obtain ⟨v1, v2, v3, v4, v5, v6, v7, v8⟩ := RkV.of hx
  refine PCall.of D20ok ok5 (by simp) rfl fun hs' hb => ?_
  simp [A5, R5, v2, v3, v6, v7, blen v8]
  refine At.dec (fun h => ?_) (fun h => ?_)
  · omega
  simp [v3]
  refine At.hc (p16 hx (by omega) _) ?_ ?_
  rotate_left
  · rintro v hs2 ⟨y, hv, _⟩; cases hv
  rintro v hs2 ⟨y, hv, ho, hext⟩
  injection hv with hv; subst hv
  have hg := asR_outs (r := R.r) (c := R.c) ho (by omega)
  obtain ⟨c1, c2, c3⟩ := out_cells ho
  simp [v3, c1, c2, astore, sa, ca, setL, env_none]
  generalize hq : hs2.nh = q
  refine At.hc (p32 hx (by omega) (n := n) _) ?_ ?_
  rotate_left
  · rintro v hs3 ⟨w, er, hv, _⟩; cases hv
  rintro v hs3 ⟨w, er, hv, hdet, hext3⟩
  injection hv with hv; subst hv
  have h3 : hs3.heap q = some [.int .i64 R.r, .int .i64 R.c, y] := by
    rw [hext3.heap q (by simp)]; simp
  obtain ⟨wa, we, hwy⟩ := wyV_form m k
  have hS : SAr [.agg [.int .i64 R.r, .int .i64 R.c, y], .int .i64 n] = some (.int .i64 (arR R n)) := by simp [SAr, hg]
  have hSW : SWy [.int .i64 m, .int .i64 k] = some (.tup [.int .i64 wa, .int .i64 we]) := by simp [SWy, hwy]
  have key : arR R n = er ∧ ((er ≠ 0 ∧ w = .nilsl) ∨ (er = 0 ∧ ∃ W, asI w = some W ∧ W.length ≤ 11 ∧ PsOk (.agg [.int .i64 R.r, .int .i64 R.c, y]) w n)) := by
    rcases hdet with ⟨h1, h2, h3⟩ | ⟨h1, h2, h3, h4⟩ | ⟨h1, j, hj, rfl, hc⟩
    · exact ⟨by rw [arR, if_neg h1, h3], .inl ⟨by rw [h3]; exact h1, h2⟩⟩
    · exact ⟨by rw [arR, if_pos h1, if_neg (by omega), h4], .inl ⟨by rw [h4]; decide, h3⟩⟩
    · obtain ⟨hok, hlen⟩ : OkR R ∧ R.b.length ≤ 24 := chkR_zero.1 (rodE_iff.1 h1).1
      have hrod := (rodE_iff.1 h1).2
      have hgd : R.b.getD j (0, 0, 0) = R.b[j] := by rw [List.getD_eq_getElem?_getD, List.getElem?_eq_getElem hj]; rfl
      obtain ⟨k1, k2, k3, k4, _⟩ := hok.b _ (List.getElem_mem hj)
      have hrc := rc_iff (hok.wo j) (x := R.b[j].1.toNat) (y := R.r.toNat + R.b[j].2.1.toNat) (by show _ < R.r.toNat + R.c.toNat; omega)
      rcases hc with ⟨h2, h3, h4⟩ | ⟨h2, ⟨xs, cp, h3⟩, W, ps, qs, h4, h5⟩
      · refine ⟨?_, .inl ⟨by rw [h3]; decide, h2⟩⟩
        rw [arR, if_pos h1, if_pos (by omega), Int.toNat_natCast, hgd, if_neg (fun h => h4 (hrc.1 h)), h3]
      · refine ⟨?_, .inr ⟨h2, W, h4, ?_, R, j, hj, W, ps, qs, hg, hok, by omega, rfl, h4, h5⟩⟩
        · have := pth_rt hrod hj h5
          simp only [Bool.false_eq_true, if_false] at this
          rw [arR, if_pos h1, if_pos (by omega), Int.toNat_natCast, hgd, if_pos (hrc.2 this), h2]
        · exact (h5.inv hok (by omega)).short hok
  obtain ⟨hae, hcase⟩ := key
  rw [hae] at hS
  rcases hcase with ⟨h0, rfl⟩ | ⟨rfl, W, hW, hWl, hps⟩
  · simp [la, h3, apart, D20_33, D20_34, D20_35, D20_15, hS, hSW, h0]
  · have hle : (W.length : Int) ≤ 12 := by omega
    simp [la, h3, apart, D20_33, D20_34, D20_35, D20_36, D20_15, hS, hSW, alen_of hW, hle, SPs_i hps]
theorem p5l {r c : Int} {l : List Br} (hl : 60 < l.length) (n m k : Int) : PCall Try.prog 5 [.agg [.int .i64 r, .int .i64 c, .sl 3 (brs l) .shared], .int .i64 n, .int .i64 m, .int .i64 k] (.bool true) := by
  refine PCall.of D20ok ok5 (by simp) rfl fun hs' hb => ?_
  have e1 : (AV.agg [.int .i64 r, .int .i64 c, .sl 3 (brs l) .shared]).sto = true := rfl
  have e2 : afaddr false 1 2 (.ptr (.agg [.int .i64 r, .int .i64 c, .sl 3 (brs l) .shared])) = some (.ptr (.sl 3 (brs l) .shared)) := rfl
  have e3 : ∀ h, aload h false 1 (.ptr (.sl 3 (brs l) .shared)) = some (.sl 3 (brs l) .shared) := fun _ => rfl
  simp [A5, R5, e1, e2, e3]
  refine At.dec (fun h => ?_) (fun h => ?_)
  · simp [D20_15]
  · omega
theorem detours_typed (xs : List AV) (h : Typed [TRk, .int .i64, .int .i64, .int .i64] xs) : PCall Try.prog 5 xs (.bool true) := by
  obtain ⟨x, y, z, w, rfl, hx, hy, hz, hw⟩ := h.four
  obtain ⟨n, rfl, _⟩ := shv_int hy
  obtain ⟨m, rfl, _⟩ := shv_int hz
  obtain ⟨k, rfl, _⟩ := shv_int hw
  rcases rack_typed hx with ⟨R, hR, hl⟩ | ⟨r, c, l, rfl, hl⟩
  · exact p5 hR hl n m k
  · exact p5l hl n m k
end Go.Proofs.Ytecbbbocjmdfgaa
