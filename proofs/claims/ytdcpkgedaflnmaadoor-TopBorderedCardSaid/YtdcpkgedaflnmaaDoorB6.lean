/-
  The walk of TopBordered. Own work.
  TopBordered over all arguments of its types, and what the laid variable holds. Own work.
-/
import Derived.Test.YtdcpkgedaflnmaaDoorB5
import Derived.Test.YtdcpkgedaflnmaaDoorB3
import Derived.Test.YtdcpkgedaflnmaaDoorFx5
import Derived.Test.YtdcpkgedaflnmaaDoorRows
import Derived.Lay
import Derived.Deep.Slices
set_option linter.unusedVariables false
set_option linter.unusedSimpArgs false
namespace Go.Proofs.YtdcpkgedaflnmaaDoor.Bt
open Go Fw Rp Xs

theorem ctxB {x : AV} {es : List Int} (hx : Se.IsU8 x es) (hml : es.length ≤ maxLen) : ∃ C, CtxOk Tryd.prog C ∧ ∃ z : Nat, ∃ Q W : List Int, ∃ a b c d e : Int, ∃ v u : AV, asI v = some (rulL es) ∧ 2 ≤ (rulL es).length ∧ (rulL es).length ≤ 5 ∧ (rulL es).getD ((rulL es).length - 1) 0 = (z : Int) ∧ z ≤ 22 ∧
    C 6 [x, .int .i64 7, .int .i64 22] = some v ∧ C 8 [v, .int .i64 ((z : Int) + 1)] = some u ∧ C 7 [u] = some (.tup [.sl 1 (ints (Q ++ [(z : Int), (z : Int) + 1])) .shared, .int .i64 0]) ∧ C 9 [v] = some (.tup [.agg [.int .i64 a, .int .i64 b], .agg [.int .i64 c, .int .i64 d], .int .i64 e]) ∧
    (∃ y, C 10 [v] = some (.tup [y, .int .i64 0]) ∧ asI y = some W) ∧ C 11 [] = some (.bool true) ∧ (e = 5 → Q = []) ∧ (∀ p ∈ Q ++ [(z : Int)], p ∈ W) ∧ Q.length ≤ 30 ∧ W.length ≤ 1000 := by
  obtain ⟨z, hr⟩ := rul_ok hx.2
  obtain ⟨L, hL⟩ : ∃ L, L = rulL es := ⟨_, rfl⟩
  have h6 := p6 hx hml
  rw [← hL] at hr h6 ⊢
  have h5 := hr.five
  have hv : asI (outV 1 (ints L)) = some L := asI_outV (by omega)
  obtain ⟨v, hv0⟩ : ∃ v, v = outV 1 (ints L) := ⟨_, rfl⟩
  rw [← hv0] at h6 hv
  have h22 := hr.le
  have hB := bd_isB (L := L) (n := z + 1) (by omega) (by omega)
  have h8 := p8 hv (n := z + 1) (by omega)
  have h7 := p7 hB
  have h9 := p17 hv
  have h10 := p19 hv
  have hchk : chkE L = 0 := chkE_zero.2 hr.ok
  rw [twiR, if_pos hchk] at h9
  rw [diR, if_pos hchk] at h10
  rw [per_all hr] at h7
  rw [outV_ne (by simp [ints])] at h7
  obtain ⟨V, hV⟩ : ∃ V, V = tw (dsN L) (resF L.length 0) := ⟨_, rfl⟩
  have hclr : twE V = 5 → perK (bdL L (z + 1)) z = [] := fun he => perK_clear hr (by
    rw [← hV]
    unfold twE at he
    cases V with
    | none => rfl
    | some V => simp at he)
  rw [← hV] at h9
  obtain ⟨a, b, h1⟩ := one_len V
  obtain ⟨c, d, h2⟩ := two_len V
  rw [twR, h1, h2] at h9
  have hwl : (wiL L true).length ≤ 1000 := by
    unfold wiL
    rw [List.length_map, len_z hr]
    refine Nat.le_trans (List.length_filter_le _ _) ?_
    simp
    omega
  have hql : (perK (bdL L (z + 1)) z).length ≤ 30 := Nat.le_trans (perK_len _ _) (by omega)
  have hin := fun p hp => per_wi hr (x := p) hp
  obtain ⟨C1, hC1, k6, _⟩ := ctx_pt CtxOk.nil 6 _ _ h6
  obtain ⟨C2, hC2, k8, n2⟩ := ctx_pt hC1 8 _ _ h8
  obtain ⟨C3, hC3, k7, n3⟩ := ctx_pt hC2 7 _ _ h7
  obtain ⟨C4, hC4, k9, n4⟩ := ctx_pt hC3 9 _ _ h9
  obtain ⟨C5, hC5, k10, n5⟩ := ctx_pt hC4 10 _ _ h10
  obtain ⟨C, hC, k11, n6⟩ := ctx_pt hC5 11 _ _ Bw.p11
  have ez : ((z + 1 : Nat) : Int) = (z : Int) + 1 := by omega
  rw [ez] at k8 k7
  refine ⟨C, hC, z, perK (bdL L (z + 1)) z, wiL L true, a, b, c, d, twE V, v, .str (bs (bdL L (z + 1))), hv, hr.two, h5, hr.ls, h22, ?_, ?_, ?_, ?_, ⟨_, ?_, asI_outV (by omega)⟩, k11, hclr, hin, hql, hwl⟩
  · rw [n6 6 (by decide), n5 6 (by decide), n4 6 (by decide), n3 6 (by decide), n2 6 (by decide)]; exact k6
  · rw [n6 8 (by decide), n5 8 (by decide), n4 8 (by decide), n3 8 (by decide)]; exact k8
  · rw [n6 7 (by decide), n5 7 (by decide), n4 7 (by decide)]; exact k7
  · rw [n6 9 (by decide), n5 9 (by decide)]; exact k9
  · rw [n6 10 (by decide)]; exact k10
theorem p3 {x : AV} {es : List Int} (hx : Se.IsU8 x es) (hml : es.length ≤ maxLen) : PCall Tryd.prog 3 [x] (.bool true) := by
  obtain ⟨C, hC, z, Q, W, a, b, c, d, e, v, u, hv, l2, l5, lz, h22, k6, k8, k7, k9, ⟨y, k10, hy⟩, k11, hclr, hin, hql, hwl⟩ := ctxB hx hml
  obtain ⟨P, hP⟩ : ∃ P, P = Q ++ [(z : Int), (z : Int) + 1] := ⟨_, rfl⟩
  rw [← hP] at k7
  obtain ⟨X, hX⟩ : ∃ X, X = AV.sl 1 (ints P) .shared := ⟨_, rfl⟩
  rw [← hX] at k7
  obtain ⟨L, hL⟩ : ∃ L, L = rulL es := ⟨_, rfl⟩
  rw [← hL] at hv l2 l5 lz
  have hlv := alen_of hv
  have hly := alen_of hy
  have w1 : IntKind.i64.wrap ((L.length : Int) - 1) = ((L.length - 1 : Nat) : Int) := by rw [wrap64 (by omega) (by omega)]; omega
  have hil := aidx_nat hv (i := L.length - 1) (by omega) (k := .i64)
  rw [show L[L.length - 1] = (z : Int) by rw [← getD_of (by omega)]; exact lz] at hil
  have wz : IntKind.i64.wrap ((z : Int) + 1) = (z : Int) + 1 := wrap64 (by omega) (by omega)
  have stA : ∀ (hp : Nat → Option (List AV)) (i : Nat) (a b : Int), hp i = some [.int .i64 0, .int .i64 0] → astore hp 2 (.ref i 0) (.agg [.int .i64 a, .int .i64 b]) = some fun k => if k = i then some [.int .i64 a, .int .i64 b] else hp k :=
    fun hp i a b h => sto_agg (xs := [.int .i64 a, .int .i64 b]) h rfl rfl rfl rfl
  have hXi : asI X = some P := by rw [hX]; exact asI_sl (by rw [hP]; simp; omega)
  have hPl : P.length = Q.length + 2 := by rw [hP]; simp
  have hlX := alen_of hXi
  have hi1 := aidx_nat hXi (i := Q.length + 1) (by omega) (k := .i64)
  have hi2 := aidx_nat hXi (i := Q.length) (by omega) (k := .i64)
  have hp1 : P[Q.length + 1]'(by omega) = (z : Int) + 1 := by simp [hP]
  have hp2 : P[Q.length]'(by omega) = (z : Int) := by simp [hP]
  rw [hp1] at hi1
  rw [hp2] at hi2
  obtain ⟨M, hM⟩ : ∃ M : Int, M = (P.length : Int) := ⟨_, rfl⟩
  obtain ⟨M1, hM1⟩ : ∃ M : Int, M = ((Q.length + 1 : Nat) : Int) := ⟨_, rfl⟩
  obtain ⟨M2, hM2⟩ : ∃ M : Int, M = (Q.length : Int) := ⟨_, rfl⟩
  have wM1 : IntKind.i64.wrap (M - 1) = M1 := by rw [wrap64 (by omega) (by omega)]; omega
  have wM2 : IntKind.i64.wrap (M - 2) = M2 := by rw [wrap64 (by omega) (by omega)]; omega
  have hMl : ¬ M < 2 := by omega
  have hMe : e = 5 → M = 2 := fun he => by rw [hclr he] at hPl; simp at hPl; omega
  rw [← hM] at hlX
  rw [← hM1] at hi1
  rw [← hM2] at hi2
  have wz1 : IntKind.i64.wrap (z : Int) = (z : Int) := wrap64 (by omega) (by omega)
  refine PCall.of hC ok3 (by simp) rfl fun hs hb => ?_
  simp only [A3, R3]
  rw [At.awp_seq]
  simp [-At.awp_seq]
  rw [At.awp_seq]
  simp [k6, -At.awp_seq]
  rw [At.awp_seq]
  simp [hlv, w1, hil, wz, -At.awp_seq]
  rw [At.awp_seq]
  simp [k8, k7, -At.awp_seq]
  rw [At.awp_seq]
  refine At.cut (fun s => s.env 3 = v ∧ s.env 4 = .int .i64 ((z : Int) + 1) ∧ s.env 5 = X ∧ s.env 6 = .int .i64 0 ∧ s.env 9 = .int .i64 e) ?_ ?_
  · simp [k9]
    rw [stA _ _ a b (by simp)]
    simp
    rw [stA _ _ c d (by simp)]
    simp
  rintro s ⟨e3, e4, e5, e6, e9⟩
  show At _
  rw [At.awp_seq]
  simp [e3, k10, -At.awp_seq]
  rw [At.awp_seq]
  refine At.cut (fun s' => s'.env 4 = .int .i64 ((z : Int) + 1) ∧ s'.env 5 = X ∧ s'.env 9 = .int .i64 e ∧ s'.env 10 = y) ?_ ?_
  · simp [e3, e4, e5, e6, e9, hlX, hMl, wM1, wM2, hi1, hi2, wz1]
  clear e3 e4 e5 e6 e9 s
  rintro s ⟨e4, e5, e9, e10⟩
  show At _
  rw [At.awp_seq]
  refine At.cut (fun s' => s'.env 5 = X ∧ s'.env 10 = y) ?_ ?_
  · by_cases he : e = 5
    · have hM0 := hMe he
      subst he
      simp [e4, e5, e9, e10, hlX, hM0]
    · simp [e4, e5, e9, e10, hlX, he]
  clear e4 e5 e9 e10 s
  rintro s ⟨e5, e10⟩
  show At _
  obtain ⟨D, hD⟩ : ∃ D, D = Q ++ [(z : Int)] := ⟨_, rfl⟩
  rw [← hD] at hin
  have hDl : D.length = Q.length + 1 := by rw [hD]; simp
  obtain ⟨Y, hY⟩ : ∃ Y, Y = AV.sl 1 (ints D) .shared := ⟨_, rfl⟩
  have hYi : asI Y = some D := by rw [hY]; exact asI_sl (by omega)
  have hlY := alen_of hYi
  have hsl : aslice 1 X none (some (.int .i64 M1)) none = some Y := by
    have hPD : P.take (Q.length + 1) = D := by
      rw [hP, hD, show [(z : Int), (z : Int) + 1] = [(z : Int)] ++ [(z : Int) + 1] from rfl, ← List.append_assoc]
      exact List.take_left' (by simp)
    have h1 : 0 ≤ M1 := by omega
    have h2 : M1 ≤ ((ints P).length : Int) := by simp [ints]; omega
    have h3 : M1.toNat = Q.length + 1 := by omega
    rw [hX, hY]
    simp only [aslice, aidx, asliceL, if_true]
    rw [if_pos ⟨h1, h2⟩, h3]
    congr 2
    rw [← hPD]
    simp [ints, List.map_take]
  rw [show (D.length : Int) = M1 by omega] at hlY
  rw [At.awp_seq]
  refine At.cut (fun s' => True) ?_ ?_
  · simp [e5, e10, hlX, wM1, hsl, hlY]
    refine At.loop (fun (i : Nat) s => i ≤ D.length ∧ s.env 10 = y ∧ s.env 87 = Y ∧ s.env 88 = .int .i64 M1 ∧ s.env 89 = .int .i64 (i : Int)) (fun i => D.length - i) 0 ?_ ?_
    · simp [e10]
    rintro N i s hN ⟨hi, e10, e87, e88, e89⟩
    by_cases hlt : i < D.length
    · have hlt' : (i : Int) < M1 := by omega
      have wi := wrap_nat1 (show i < _ by omega)
      have hix := aidx_nat hYi (i := i) hlt (k := .i64)
      have hmem := hin D[i] (List.getElem_mem _)
      obtain ⟨d0, hd0⟩ : ∃ d, d = D[i] := ⟨_, rfl⟩
      rw [← hd0] at hix hmem
      simp [e10, e87, e88, e89, hlt', hix, hly]
      refine At.loop (fun (j : Nat) s => j ≤ W.length ∧ s.env 10 = y ∧ s.env 87 = Y ∧ s.env 88 = .int .i64 M1 ∧ s.env 89 = .int .i64 (i : Int) ∧ s.env 13 = .int .i64 d0 ∧ s.env 93 = y ∧ s.env 94 = .int .i64 (W.length : Int) ∧ s.env 95 = .int .i64 (j : Int) ∧
        s.env 14 = .bool (decide (d0 ∈ W.take j))) (fun j => W.length - j) 0 ?_ ?_
      · simp [e10, e87, e88, e89]
      rintro N2 j s hN2 ⟨hj, e10, e87, e88, e89, e13, e93, e94, e95, e14⟩
      by_cases hjl : j < W.length
      · have hjl' : (j : Int) < (W.length : Int) := by omega
        have wj := wrap_nat1 (show j < _ by omega)
        have hjx := aidx_nat hy (i := j) hjl (k := .i64)
        have hmm := mem_take_succ hjl (x := d0)
        obtain ⟨w0, hw0⟩ : ∃ w, w = W[j] := ⟨_, rfl⟩
        rw [← hw0] at hjx hmm
        by_cases hm : d0 ∈ W.take j
        · rw [decide_eq_true hm] at e14
          have e : decide (d0 ∈ W.take (j + 1)) = true := decide_eq_true (hmm.2 (.inl hm))
          simp [e93, e94, e95, hjl', hjx, e14, wj]
          exact hN2 (j + 1) _ (by omega) ⟨hjl, by simp [e10], by simp [e87], by simp [e88], by simp [e89], by simp [e13], by simp [e93], by simp [e94], by simp [wj], by rw [e]; simp⟩
        · rw [decide_eq_false hm] at e14
          by_cases hw : d0 = w0
          · have e : decide (d0 ∈ W.take (j + 1)) = true := decide_eq_true (hmm.2 (.inr hw))
            simp [e93, e94, e95, hjl', hjx, e14, e13, hw, wj]
            exact hN2 (j + 1) _ (by omega) ⟨hjl, by simp [e10], by simp [e87], by simp [e88], by simp [e89], by simp [e13], by simp [e93], by simp [e94], by simp [wj], by rw [e]; simp⟩
          · have e : decide (d0 ∈ W.take (j + 1)) = false := decide_eq_false fun h => (hmm.1 h).elim hm hw
            simp [e93, e94, e95, hjl', hjx, e14, e13, hw, wj]
            exact hN2 (j + 1) _ (by omega) ⟨hjl, by simp [e10], by simp [e87], by simp [e88], by simp [e89], by simp [e13], by simp [e93], by simp [e94], by simp [wj], by rw [e]; simp⟩
      · obtain rfl : j = W.length := by omega
        rw [List.take_length, decide_eq_true hmem] at e14
        simp [e94, e95, e14, e89, wi]
        exact hN (i + 1) _ (by omega) ⟨by omega, by simp [e10], by simp [e87], by simp [e88], by simp [wi]⟩
    · have hlt' : ¬ (i : Int) < M1 := by omega
      simp [e88, e89, hlt']
  rintro s _
  show At _
  simp [k11]
end Go.Proofs.YtdcpkgedaflnmaaDoor.Bt
set_option linter.unusedVariables false
set_option linter.unusedSimpArgs false
namespace Go.Proofs.YtdcpkgedaflnmaaDoor
open Go.ChangeShapes Go.WideShapes Go.ChangeAt Go.RowKit Go.Deep Fw

def laidC : List (String × DataW Unit) := [("tusche/mark.count", Rows.laid_tusche_mark_count)]
theorem bordered_typed (xs : List AV) (h : Typed [.sl (.int .u8)] xs) : PCall Tryd.prog 3 xs (.bool true) := by
  obtain ⟨a, rfl, ha⟩ := h.one
  obtain ⟨l, h1, h2, h3⟩ := shv_intsK ha
  have hx : Se.IsU8 a l := ⟨h1, fun a ha => u8_bd (h3 a ha)⟩
  exact Bt.p3 hx h2
theorem laid_read : Rows.laid_tusche_mark_count (H := Unit) = .slice (cntN.map fun n => .lit (.int .i64 n)) [] := rfl
theorem laid_glob (w : World) (h : laidMetH Tryd.prog laidC w) : GX (cm0 w) := by
  rw [MakeChecks.laidMetH_plain _ _ _ (by kernel_rfl)] at h
  obtain ⟨ps, hl, _, _⟩ := h
  obtain ⟨g, t, cs, fuel, p, q, h1, h2, h3, h4, _⟩ := hl
  obtain rfl : g = 0 := Option.some.inj (h1.symm.trans (show Tryd.prog.globalNamed "tusche/mark.count" = some 0 by kernel_rfl))
  obtain rfl : t = 23 := Option.some.inj (h2.symm.trans (show (Tryd.prog.globals[0]?).map (·.type) = some 23 by kernel_rfl))
  have hu : Tryd.prog.underlying 23 = some (.slice 3) := by kernel_rfl
  have hu3 : Tryd.prog.underlying 3 = some (.int .i64) := by kernel_rfl
  have hc : Tryd.prog.cellsOf 3 = 1 := by kernel_rfl
  rw [laid_read] at h4
  rcases open_slice1 hu hc h4 with ⟨_, hx⟩ | ⟨a, len, cap, m, n, V, D, Pl, hcs, hb, hlc, hcm, hm, hx, hel⟩
  · cases hx
  injection hx with hx1 hx2
  injection hx1 with hx1 hx3
  have hlen : len = 16 := by
    have := congrArg List.length hx1
    simpa [cntN] using this.symm
  subst hlen
  have hmc : 16 ≤ m := by rw [hm, if_pos rfl]; exact hlc
  obtain ⟨b, o, sp⟩ := a
  have hsp : sp = none := by
    obtain ⟨g1, _⟩ := hel 0 (by omega)
    cases sp with
    | none => rfl
    | some sp =>
      exfalso
      unfold World.cell? at g1
      split at g1
      · simp [Addr.add] at g1
      · cases g1
  subst hsp
  have hcl : ∀ (b o : Nat) (v : Value), w.cell? ⟨b, o, none⟩ = some v → (cm0 w).cl b o = .imm v := fun b o v e => by simp only [cm0, e]
  refine ⟨b, o, cap, hlc, hcl _ _ _ ?_, fun j k hj => hcl _ _ _ ?_⟩
  · have h0 : Tryd.prog.globalNamed "tusche/mark.count" = some 0 := by kernel_rfl
    unfold World.var? at h3
    rw [h0, Option.bind_some] at h3
    split at h3 <;> (try (cases h3; done))
    rename_i cs' _ _ hh
    have h3 := Option.some.inj h3
    subst h3
    unfold World.cell?
    simp only [hh]
    have : cs'[0]? = cs'.toList[0]? := by simp
    rw [if_neg (by simp), this, hcs]
    rfl
  · have hj16 : j < 16 := by
      have := (List.getElem?_eq_some_iff.1 hj).1
      simpa [cntN] using this
    obtain ⟨g1, g2⟩ := hel j (by omega)
    obtain ⟨k', e1, _, e2, _⟩ := trod_int hu3 g2
    have := congrArg (fun l => l[j]?) hx1
    simp only [List.getElem?_map, hj, Option.map_some, List.getElem?_range hj16] at this
    have this := Option.some.inj this
    rw [e2] at this
    have this := DataW.lit.inj this
    have this := (Lit.int.inj this).2
    subst this
    have e1 := (List.cons.inj e1).1
    rw [e1, add_plain] at g1
    exact g1
end Go.Proofs.YtdcpkgedaflnmaaDoor
