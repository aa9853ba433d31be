/-
  The walk of TopLayered. Own work.
  A folded strip as a layout: whatever the arguments. Own work.
-/
import Derived.Test.YtdcpkgedaflnmaaGreatDoorH5
import Derived.Test.YtdcpkgedaflnmaaGreatDoorC4
import Derived.Test.YtdcpkgedaflnmaaGreatDoorFx4
import Derived.Test.YtdcpkgedaflnmaaGreatDoorFx5
set_option linter.unusedVariables false
set_option linter.unusedSimpArgs false
namespace Go.Proofs.YtdcpkgedaflnmaaGreatDoor.Ly
open Go Fw Fo Cq

theorem wid_of {l : List Int} (h3 : ∀ a ∈ l, 1 ≤ a ∧ a ≤ 3) (h1 : 1 ≤ l.length) (h2 : l.length ≤ 5) : hiM l l.length - loM l l.length = ((wid l : Nat) : Int) ∧ 1 ≤ wid l ∧ wid l ≤ 12 := by
  have := wide h3 h1 h2
  unfold wid
  omega
theorem lbl_x {l : List Int} (h3 : ∀ a ∈ l, 1 ≤ a ∧ a ≤ 3) {j : Nat} (h : j < l.length) (y : Nat) : ((lbl l y (j : Int)).x : Int) = lo l j - loM l l.length ∧ ((lbl l y (j : Int)).w : Int) = hi l j - lo l j := by
  have := seg h3 h
  simp only [lbl, Int.toNat_natCast]
  omega
theorem bnds_get (l : List Int) {n i : Nat} (h : i < n) : (bnds l n)[i]'(by rw [bnds_len]; exact h) = .agg [.int .i64 (lo l i), .int .i64 (hi l i)] := by
  simp [bnds, bnd, lo, hi]
theorem plnS_succ {n : Nat} (h : 1 ≤ n) : plnS (n + 1) = plnS n ++ [(false, n)] := by
  obtain ⟨m, rfl⟩ : ∃ m, n = m + 1 := ⟨n - 1, by omega⟩
  simp [plnS, List.range_succ]
/-- a number or a truth value -/
def Sc (a : AV) : Prop := (∃ k n, a = .int k n) ∨ ∃ b, a = .bool b
theorem sh_sc {x a : AV} (ha : Sc a) (h : x.share = a) : x = a := by
  rcases ha with ⟨k, n, rfl⟩ | ⟨b, rfl⟩ <;> cases x <;> simp [AV.share] at h ⊢ <;> exact h
theorem sh_scL : ∀ {xs l : List AV}, (∀ a ∈ l, Sc a) → xs.map AV.share = l → xs = l
  | [], l, _, h => by simpa using h
  | x :: xs, [], _, h => by simp at h
  | x :: xs, a :: l, ha, h => by
    simp only [List.map_cons, List.cons.injEq] at h
    rw [sh_sc (ha a (by simp)) h.1, sh_scL (fun b hb => ha b (by simp [hb])) h.2]
def ScA (a : AV) : Prop := ∃ ys, a = .agg ys ∧ ∀ b ∈ ys, Sc b
theorem sh_scA {x a : AV} (ha : ScA a) (h : x.share = a) : x = a := by
  obtain ⟨ys, rfl, hs⟩ := ha
  cases x <;> simp [AV.share] at h ⊢
  rw [shareL_map] at h
  exact sh_scL hs h
theorem sh_scAL : ∀ {xs l : List AV}, (∀ a ∈ l, ScA a) → xs.map AV.share = l → xs = l
  | [], l, _, h => by simpa using h
  | x :: xs, [], _, h => by simp at h
  | x :: xs, a :: l, ha, h => by
    simp only [List.map_cons, List.cons.injEq] at h
    rw [sh_scA (ha a (by simp)) h.1, sh_scAL (fun b hb => ha b (by simp [hb])) h.2]
theorem outs_asV {sz : Nat} {hs : HS} {x : AV} {l : List AV} (h : Outs sz hs x l) (hl : l.length < 4294967296) (ha : ∀ a ∈ l, ScA a) : asV sz x = some l := by
  rcases h.inv with ⟨rfl, rfl⟩ | ⟨xs, k, rfl, h1, h2, h3⟩
  · rfl
  · rw [sh_scAL ha h2]
    exact asV_sl hl
theorem p7 {x : AV} {es : List Int} (hx : Se.IsU8 x es) {g : Nat} (hg : g < 256) : PCall Tryz.prog 7 [x, .int .u8 (g : Int)] (.bool true) := by
  have h3 := lenL_bd hx.2 (n := 5)
  have h5 : (lenL es 5).length ≤ 5 := by rw [lenL_len]; omega
  obtain ⟨C, hC, k25, kk⟩ := ctxY h3 h5 (folL_len g _) (folL_mv g _)
  refine PCall.of hC ok7 (by simp) rfl fun hs hb => ?_
  have hal := hx.len
  have hxs : x.sto = true := by rcases hx.1 with ⟨rfl, _⟩ | rfl <;> rfl
  simp only [A7, R7]
  rw [At.awp_seq]
  simp [hxs, -At.awp_seq]
  rw [At.awp_seq]
  simp [-At.awp_seq]
  rw [At.awp_seq]
  refine At.cut (fun s => s.env 0 = x ∧ s.env 5 = .ref hs.nh 0 ∧ hs.nh < s.hs.nh ∧ ∃ y, s.hs.heap hs.nh = some [y, .str (bs (folL g ((lenL es 5).length - 1)))] ∧ Outs 1 s.hs y (ints (lenL es 5))) ?_ ?_
  · simp
    refine At.loop (fun (i : Nat) s => i ≤ es.length ∧ i ≤ 5 ∧ s.env 0 = x ∧ s.env 1 = .int .u8 (g : Int) ∧ s.env 5 = .ref hs.nh 0 ∧ s.env 6 = .int .i64 (i : Int) ∧ hs.nh < s.hs.nh ∧
      ∃ y, s.hs.heap hs.nh = some [y, .str (bs (folL g (i - 1)))] ∧ Outs 1 s.hs y (ints (lenL es i))) (fun i => es.length - i) 0 ?_ ?_
    · simp
      exact ⟨_, ⟨rfl, rfl⟩, .nil⟩
    rintro N i s hN ⟨hi, hi5, e0, e1, e5, e6, hnh, y, hb1, ho⟩
    by_cases hlt : i < es.length ∧ i < 5
    · obtain ⟨h1, h2⟩ := hlt
      have hix := hx.get h1
      have hbd := hx.2 (Se.gI es i) (by rw [Se.gI_of h1]; exact List.getElem_mem _)
      have ld0 : aload s.hs.heap false 1 (.ref hs.nh 0) = some y := ldc hb1 rfl
      have wc : IntKind.i64.wrap (Se.gI es i) = Se.gI es i := wrap8 hbd.1 hbd.2
      have wl : IntKind.i64.wrap (1 + (Se.gI es i).tmod 3) = len3 (Se.gI es i) := by
        have := len3_bd hbd.1
        unfold len3 at this ⊢
        exact wrap64 (by omega) (by omega)
      obtain ⟨y2, hs', a1, a2, a3⟩ := ho.add1 (by rw [lenL_len]; omega) (len3 (Se.gI es i))
      have hn' : hs.nh < hs'.nh := by rw [a3.nh]; exact hnh
      have hst : y2.sto = true ∧ y2.cells = [y2] ∧ y2.leaf = true := by
        obtain ⟨xs, hxs⟩ := Fo.aappend_own a1
        subst hxs
        exact ⟨rfl, rfl, rfl⟩
      have hb1' : hs'.heap hs.nh = some [y, .str (bs (folL g (i - 1)))] := by rw [a3.heap]; exact hb1
      have st := store_cell (v := y2) (o := 0) hb1' (by simp) hst.2.2
      have htk : lenL es (i + 1) = lenL es i ++ [len3 (Se.gI es i)] := by unfold lenL; rw [take_snoc h1, List.map_append, Se.gI_of h1]; rfl
      have w1 := wrap_nat1 (show i < _ by omega)
      have hi5' : (i : Int) < 5 := by omega
      have hie : (i : Int) < (es.length : Int) := by omega
      simp only [List.set_cons_zero] at st
      simp [e0, e1, e5, e6, hal, h1, h2, hi5', hie, fa, ld0, hix, wc, wl, astoAll, a1, st, w1]
      have hcg := a2.cong (hs' := ⟨fun k => if k = hs.nh then some [y2, .str (bs (folL g (i - 1)))] else hs'.heap k, hs'.nh, hs'.nt, hs'.tok, hs'.mp⟩) rfl rfl
      have hg2 : g / 2 ^ i < 256 := Nat.lt_of_le_of_lt (Nat.div_le_self _ _) hg
      by_cases h0 : 0 < i
      · have s8 : abin 0 .shr (.int .u8 (g : Int)) (.int .i64 (i : Int)) = some (.int .u8 ((g / 2 ^ i : Nat) : Int)) := Se.shr8 (by omega)
        have a8 : abin 0 .and (.int .u8 ((g / 2 ^ i : Nat) : Int)) (.int .u8 1) = some (.int .u8 ((g / 2 ^ i % 2 : Nat) : Int)) := and8 hg2
        generalize hq : g / 2 ^ i = q at s8 a8 hg2
        have hm := Nat.mod_lt q (show 0 < 2 by decide)
        have m1 : ∀ h : HS, amem (.ssl true false) h [.str (bs [109, 118]), .int .u8 ((q % 2 : Nat) : Int)] = some (.str (bs (([109, 118] : List UInt8).drop (q % 2))), h) := fun h => ssl_l (by simp; omega)
        have m2 : ∀ h : HS, amem (.ssl false true) h [.str (bs (([109, 118] : List UInt8).drop (q % 2))), .int .i64 1] = some (.str (bs [fol g i]), h) := fun h => by
          have := ssl_h (hs := h) (l := ([109, 118] : List UInt8).drop (q % 2)) (k := .i64) (i := 1) (by simp; omega)
          rw [← hq, fol_cut] at this
          rw [← hq]
          exact this
        generalize hr : q % 2 = r at *
        generalize hH : (fun k => if k = hs.nh then some [y2, AV.str (bs (folL g (i - 1)))] else hs'.heap k) = H at *
        have hH1 : H hs.nh = some [y2, .str (bs (folL g (i - 1)))] := by rw [← hH]; simp
        have ld5 : aload H false 1 (.ref hs.nh 1) = some (.str (bs (folL g (i - 1)))) := ldc hH1 rfl
        have st5 := store_cell (v := .str (bs (folL g i))) (o := 1) hH1 (by simp) rfl
        simp only [List.set_cons_succ, List.set_cons_zero] at st5
        have ad : abin 0 .add (.str (bs (folL g (i - 1)))) (.str (bs [fol g i])) = some (.str (bs (folL g i))) := by
          obtain ⟨j, rfl⟩ : ∃ j, i = j + 1 := ⟨i - 1, by omega⟩
          rw [folL_succ]
          exact abin_sadd (by rw [Nat.add_sub_cancel, folL_len]; simp; omega)
        simp [h0, e1, e5, e6, s8, a8, m1, m2, fa, ld5, ad, st5, astoAll, w1]
        refine hN (i + 1) _ (by omega) ⟨by omega, by omega, ?_⟩
        simp [e0, e1, e5, hn']
        rw [htk]
        exact a2.cong (hs' := ⟨fun k => if k = hs.nh then some [y2, .str (bs (folL g i))] else H k, hs'.nh, hs'.nt, hs'.tok, hs'.mp⟩) rfl rfl
      · have : i = 0 := by omega
        subst this
        simp [e0, e1, e5, e6, astoAll, w1]
        refine hN 1 _ (by omega) ⟨by omega, by omega, ?_⟩
        simp [e0, e1, e5, hn']
        rw [← htk] at hcg
        exact ⟨wrap64 (by omega) (by omega), hcg⟩
    · have hts : lenL es i = lenL es 5 := by
        by_cases h : i = 5
        · rw [h]
        · unfold lenL; rw [List.take_of_length_le (by omega), List.take_of_length_le (by omega)]
      have hle : (lenL es 5).length = i := by rw [← hts, lenL_len]; omega
      rw [hts] at ho
      by_cases hl1 : i < es.length
      · have hl2 : ¬ i < 5 := fun h => hlt ⟨hl1, h⟩
        simp [e0, e5, e6, hal, hl1, hl2, show ¬ (i : Int) < 5 by omega, show (i : Int) < (es.length : Int) by omega]
        rw [hle]
        exact ⟨hnh, y, hb1, ho⟩
      · simp [e0, e5, e6, hal, hl1, show ¬ (i : Int) < (es.length : Int) by omega]
        rw [hle]
        exact ⟨hnh, y, hb1, ho⟩
  rintro s ⟨e0, e5, hnh, y, hb1, ho⟩
  generalize lenL es 5 = l at *
  generalize folL g (l.length - 1) = f at *
  have hy : asI y = some l := ho.asI (by omega)
  have hlen := alen_of hy
  have ld0 : aload s.hs.heap false 1 (.ref hs.nh 0) = some y := ldc hb1 rfl
  have ld2 : aload s.hs.heap true 2 (.ref hs.nh 0) = some (stA y f) := ld_agg hb1 rfl
  by_cases h1 : 1 ≤ l.length
  rotate_left
  · have hz : l.length = 0 := by omega
    simp [e5, fa, ld0, hlen, hz, k25]
  obtain ⟨k26, k27⟩ := kk h1
  have hnz : ¬ l.length = 0 := by omega
  have hV := asV_outV (sz := 2) (l := bnds l l.length) (by rw [bnds_len]; omega)
  have hVl := lenV hV
  rw [bnds_len] at hVl
  rcases k27 with k27 | ⟨o, A⟩
  · have a1 := (k27 y hy).1
    have a2 := (k27 y hy).2
    have a3 := k26 y hy
    generalize outV 2 (bnds l l.length) = P at *
    generalize stA y f = S at *
    simp [e5, fa, ld0, ld2, hlen, hnz, a1, a2, a3, hVl, k25]
  have hol := A.ord.len
  have hO := asI_outV (l := o) (by omega)
  have hOl := alen_of hO
  rw [hol] at hOl
  have a1 := A.k27 y hy
  have a3 := k26 y hy
  have a4 := A.k29 y hy
  obtain ⟨w1, w2, w3⟩ := wid_of h3 h1 h5
  have pIdx : ∀ i : Nat, i < l.length → aidxS 2 (outV 2 (bnds l l.length)) (.int .i64 (i : Int)) = some (.ptr (.agg [.int .i64 (lo l i), .int .i64 (hi l i)])) := fun i hi => by
    have := idxV hV (k := .i64) (i := i) (by rw [bnds_len]; exact hi)
    rw [bnds_get l hi] at this
    exact this
  have oIdx : ∀ i : Nat, (h : i < o.length) → aidxS 1 (outV 1 (ints o)) (.int .i64 (i : Int)) = some (.ptr (.int .i64 o[i])) := fun i h => aidx_nat hO h
  generalize outV 2 (bnds l l.length) = P at *
  generalize outV 1 (ints o) = O at *
  simp [e5, fa, ld0, ld2, hlen, hnz, a1, a3, hVl]
  refine At.loop (fun (i : Nat) s => i ≤ l.length ∧ s.env 5 = .ref hs.nh 0 ∧ s.env 7 = .int .i64 (l.length : Int) ∧ s.env 8 = P ∧ s.env 10 = O ∧ s.env 112 = P ∧ s.env 113 = .int .i64 (l.length : Int) ∧ s.env 114 = .int .i64 (i : Int) ∧
    s.env 14 = .int .i64 (loM l i) ∧ s.env 15 = .int .i64 (hiM l i) ∧ s.hs.heap hs.nh = some [y, .str (bs f)] ∧ hs.nh < s.hs.nh) (fun i => l.length - i) 0 ?_ ?_
  · simp [hVl, hb1, hnh, e5, loM, hiM]
  rintro N i s hN ⟨hib, e5, e7, e8, e10, e112, e113, e114, e14, e15, hb, hnh⟩
  by_cases hlt : i < l.length
  · have hlt' : (i : Int) < (l.length : Int) := by omega
    have wr1 := wrap_nat1 (show i < _ by omega)
    have st := store_pair (hp := fun k => if k = s.hs.nh then some [AV.int .i64 0, .int .i64 0] else s.hs.heap k) (i := s.hs.nh) (u := .int .i64 0) (v := .int .i64 0) (by simp) (k1 := .i64) (k2 := .i64) (a := lo l i) (b := hi l i)
    have l0 : aload (fun k => if k = s.hs.nh then some [AV.int .i64 (lo l i), .int .i64 (hi l i)] else if k = s.hs.nh then some [.int .i64 0, .int .i64 0] else s.hs.heap k) false 1 (.ref s.hs.nh 0) = some (.int .i64 (lo l i)) := ldc (ys := [.int .i64 (lo l i), .int .i64 (hi l i)]) (by simp) rfl
    have l1 : aload (fun k => if k = s.hs.nh then some [AV.int .i64 (lo l i), .int .i64 (hi l i)] else if k = s.hs.nh then some [.int .i64 0, .int .i64 0] else s.hs.heap k) false 1 (.ref s.hs.nh 1) = some (.int .i64 (hi l i)) := ldc (ys := [.int .i64 (lo l i), .int .i64 (hi l i)]) (by simp) rfl
    have m0 : (if loM l i ≤ lo l i then loM l i else lo l i) = loM l (i + 1) := by simp only [loM]; omega
    have m1 : (if hiM l i ≤ hi l i then hi l i else hiM l i) = hiM l (i + 1) := by simp only [hiM]; omega
    simp [e112, e113, e114, hlt, hlt', pIdx i hlt, st, l0, l1, fa, e14, e15, wr1, m0, m1]
    refine hN (i + 1) _ (by omega) ⟨by omega, ?_⟩
    simp [e5, e7, e8, e10, e112, e113, hb, show ¬ hs.nh = s.hs.nh by omega]
    omega
  have hil : i = l.length := by omega
  subst hil
  clear hN
  obtain ⟨q, hqd⟩ : ∃ q, q = s.hs.nh := ⟨_, rfl⟩
  have hq : ¬ hs.nh = s.hs.nh := by omega
  have hwr : IntKind.i64.wrap (hiM l l.length - loM l l.length) = ((wid l : Nat) : Int) := by rw [w1]; exact wrap_nat (by omega)
  have aF : afill [.int .i64 0, .int .i64 0, .nilsl] [(0, 1, .int .i64 ((wid l : Nat) : Int)), (1, 1, .int .i64 (l.length : Int))] = some [.int .i64 ((wid l : Nat) : Int), .int .i64 (l.length : Int), .nilsl] := by simp [afill, AV.sto, AV.cells, setL]
  have st3 : astore (fun k => if k = s.hs.nh then some [AV.int .i64 0, .int .i64 0, .nilsl] else s.hs.heap k) 3 (.ref s.hs.nh 0) (.agg [.int .i64 ((wid l : Nat) : Int), .int .i64 (l.length : Int), .nilsl]) = some _ := Fw.sto_agg (ys := [.int .i64 0, .int .i64 0, .nilsl]) (xs := [.int .i64 ((wid l : Nat) : Int), .int .i64 (l.length : Int), .nilsl]) (by simp) rfl rfl rfl rfl
  have ld3 : aload (fun k => if k = s.hs.nh then some [AV.int .i64 ((wid l : Nat) : Int), .int .i64 (l.length : Int), .nilsl] else if k = s.hs.nh then some [AV.int .i64 0, .int .i64 0, .nilsl] else s.hs.heap k) true 2 (.ref hs.nh 0) = some (stA y f) := ld_agg (ys := [y, .str (bs f)]) (by simp [hq, hb]) rfl
  have lf0 : aload (fun k => if k = s.hs.nh then some [AV.int .i64 ((wid l : Nat) : Int), .int .i64 (l.length : Int), .nilsl] else if k = s.hs.nh then some [AV.int .i64 0, .int .i64 0, .nilsl] else s.hs.heap k) false 1 (.ref s.hs.nh 0) = some (.int .i64 ((wid l : Nat) : Int)) := ldc (ys := [.int .i64 ((wid l : Nat) : Int), .int .i64 (l.length : Int), .nilsl]) (by simp) rfl
  generalize hwd : wid l = wd at *
  simp [e112, e113, e114, e5, e7, e8, e10, e14, e15, hwr, aF, st3, ld3, lf0, a4, hOl, fa, show ¬ (wd : Int) < 1 by omega, show ¬ (12 : Int) < (wd : Int) by omega]
  refine At.loop (fun (i : Nat) s' => i ≤ l.length ∧ s'.env 7 = .int .i64 (l.length : Int) ∧ s'.env 8 = P ∧ s'.env 14 = .int .i64 (loM l l.length) ∧ s'.env 18 = .ref q 0 ∧ s'.env 152 = O ∧ s'.env 153 = .int .i64 (l.length : Int) ∧ s'.env 154 = .int .i64 (i : Int) ∧ q < s'.hs.nh ∧
    ∃ L V, s'.env 19 = V ∧ s'.hs.heap q = some [.int .i64 (wd : Int), .int .i64 (l.length : Int), L] ∧ Outs 4 s'.hs L ((labF l 0 (o.take i)).map lA) ∧ Outs 2 s'.hs V ((plnS i).map cA) ∧ Apart L V) (fun i => l.length - i) 0 ?_ ?_
  · simp [e7, e8, e10, e14, hOl, hqd]
    exact ⟨.nil, .nil⟩
  rintro N i t hN ⟨hib, e7, e8, e14, e18, e152, e153, e154, hqt, L, V, e19, hb, hL, hVv, hap⟩
  by_cases hlt : i < l.length
  · have hio : i < o.length := by omega
    obtain ⟨j, hj, ej⟩ := IsOrd.bd A.ord o[i] (List.getElem_mem _)
    have hoi := oIdx i hio
    rw [ej] at hoi
    have hpj := pIdx j hj
    obtain ⟨x1, x2⟩ := lbl_x h3 hj i
    have sg := seg h3 hj
    have hwide := wide h3 h1 h5
    have s1 : IntKind.i64.wrap (lo l j - loM l l.length) = ((lbl l i (j : Int)).x : Int) := by rw [← x1]; exact wrap64 (by omega) (by omega)
    have s2 : IntKind.i64.wrap (hi l j - lo l j) = ((lbl l i (j : Int)).w : Int) := by rw [← x2]; exact wrap64 (by omega) (by omega)
    have aG : afill [.int .i64 0, .int .i64 0, .int .i64 0, .int .i64 0] [(0, 1, .int .i64 ((lbl l i (j : Int)).x : Int)), (1, 1, .int .i64 (i : Int)), (2, 1, .int .i64 ((lbl l i (j : Int)).w : Int)), (3, 1, .int .i64 1)] = some (lC (lbl l i (j : Int))) := by
      simp [afill, AV.sto, AV.cells, setL, lC, lbl]
    have f0 : afaddr false 1 0 (.ptr (.agg [.int .i64 (lo l j), .int .i64 (hi l j)])) = some (.ptr (.int .i64 (lo l j))) := rfl
    have f1 : afaddr false 1 1 (.ptr (.agg [.int .i64 (lo l j), .int .i64 (hi l j)])) = some (.ptr (.int .i64 (hi l j))) := rfl
    have ldL : aload t.hs.heap false 1 (.ref q 2) = some L := ldc hb rfl
    obtain ⟨y', h1', b1, b2, b3, b4⟩ := append_apart hL (q := .sl 4 [.agg (lC (lbl l i (j : Int)))] .exact) (ys := [.agg (lC (lbl l i (j : Int)))]) (asV_sl (by simp)) (by rw [List.length_map, labF_len]; simp; omega)
    obtain ⟨b5, b6⟩ := b4 hVv hap
    have hb' : h1'.heap q = some [.int .i64 (wd : Int), .int .i64 (l.length : Int), L] := by rw [b3.heap]; exact hb
    have hlf : y'.leaf = true := by rcases b2.inv with ⟨rfl, _⟩ | ⟨xs, k, rfl, _⟩ <;> rfl
    have st := store_cell (v := y') (o := 2) hb' (by simp) hlf
    simp only [List.set_cons_succ, List.set_cons_zero] at st
    have so : astoAll 4 [.agg (lC (lbl l i (j : Int)))] = true := rfl
    have wr1 := wrap_nat1 (show i < _ by omega)
    have hL' : Outs 4 h1' y' ((labF l 0 (o.take (i + 1))).map lA) := by
      rw [take_snoc hio, labF_snoc, ej, List.map_append, List.length_take, Nat.min_eq_left (by omega), Nat.zero_add]
      exact b2
    generalize lbl l i (j : Int) = lb at *
    simp [e152, e153, e154, e7, e8, e14, e18, hlt, show (i : Int) < (l.length : Int) by omega, hoi, hpj, show ¬ (j : Int) < 0 by omega, show ¬ (l.length : Int) ≤ (j : Int) by omega, fa, f0, f1, ldL, s1, s2, aG, so, b1, st]
    by_cases h0 : 0 < i
    · obtain ⟨V', h2', c1, c2, c3, c4⟩ := append_apart (hs := ⟨fun k => if k = q then some [AV.int .i64 (wd : Int), .int .i64 (l.length : Int), y'] else h1'.heap k, h1'.nh, h1'.nt, h1'.tok, h1'.mp⟩) (b5.cong rfl rfl) (q := .sl 2 [.agg [.bool false, .int .i64 (i : Int)]] .exact) (ys := [.agg [.bool false, .int .i64 (i : Int)]]) (asV_sl (by simp)) (by simp [plnS]; omega)
      obtain ⟨c5, c6⟩ := c4 (hL'.cong rfl rfl) b6.symm
      have aH : afill [.bool false, .int .i64 0] [(1, 1, .int .i64 (i : Int))] = some [.bool false, .int .i64 (i : Int)] := by simp [afill, AV.sto, AV.cells, setL]
      have so2 : astoAll 2 [.agg [.bool false, .int .i64 (i : Int)]] = true := rfl
      have hp1 : (plnS (i + 1)).map cA = (plnS i).map cA ++ [.agg [.bool false, .int .i64 (i : Int)]] := by rw [plnS_succ (by omega), List.map_append]; rfl
      simp [h0, show (0 : Int) < (i : Int) by omega, e19, aH, so2, c1, e154, wr1]
      refine hN (i + 1) _ (by omega) ⟨by omega, ?_⟩
      have n1 := b3.nh
      have n2 := c3.nh
      simp only at n2
      have hp2 := c3.heap
      simp [e7, e8, e14, e18, e152, e153, n2, n1, hqt, hp2]
      exact ⟨c5, by rw [hp1]; exact c2, c6.symm⟩
    · have : i = 0 := by omega
      subst this
      simp [h0, e19, e154, wr1]
      refine hN 1 _ (by omega) ⟨by omega, ?_⟩
      have n1 := b3.nh
      simp [e7, e8, e14, e18, e152, e153, e19, n1, hqt]
      exact ⟨wr1, hL'.cong rfl rfl, b5.cong rfl rfl, b6⟩
  have hil : i = l.length := by omega
  subst hil
  have hot : o.take l.length = o := List.take_of_length_le (by omega)
  rw [hot] at hL
  have hLl : (labF l 0 o).length = l.length := by rw [labF_len, hol]
  have iL : IsL L (labF l 0 o) := ⟨outs_asV hL (by rw [List.length_map]; omega) fun a ha => by
    obtain ⟨b, _, rfl⟩ := List.mem_map.1 ha
    exact ⟨_, rfl, fun c hc => by simp [lC] at hc; rcases hc with rfl | rfl | rfl | rfl <;> exact .inl ⟨_, _, rfl⟩⟩⟩
  have iV : asV 2 V = some ((plnS l.length).map cA) := outs_asV hVv (by simp [plnS]; omega) fun a ha => by
    obtain ⟨b, _, rfl⟩ := List.mem_map.1 ha
    exact ⟨_, rfl, fun c hc => by simp at hc; rcases hc with rfl | rfl; exact .inr ⟨_, rfl⟩; exact .inl ⟨_, _, rfl⟩⟩
  have d30 := A.k30 L iL
  have d31 := A.k31 L iL
  have d21 := A.k21 L V iL iV
  rw [hwd] at d30 d31 d21
  have ldq : ∀ hp : Nat → Option (List AV), hp q = some [.int .i64 (wd : Int), .int .i64 (l.length : Int), L] → aload hp true 3 (.ref q 0) = some (layV wd l.length L) := fun hp h => ld_agg h rfl
  simp [e152, e153, e154, e7, e8, e14, e18]
  clear hN
  refine At.loop (fun (i : Nat) s' => 1 ≤ i ∧ i ≤ l.length ∧ s'.env 7 = .int .i64 (l.length : Int) ∧ s'.env 8 = P ∧ s'.env 18 = .ref q 0 ∧ s'.env 19 = V ∧ s'.env 22 = .int .i64 (i : Int) ∧ q < s'.hs.nh ∧
    s'.hs.heap q = some [.int .i64 (wd : Int), .int .i64 (l.length : Int), L]) (fun i => l.length - i) 1 ?_ ?_
  · simp [e7, e8, e18, e19, hqt, hb]
    omega
  clear e7 e8 e18 e19 hqt hb e152 e153 e154 e14
  rintro N i u hN ⟨hi1, hib, e7, e8, e18, e19, e22, hqu, hb⟩
  by_cases hlt : i < l.length
  · obtain ⟨k, rfl⟩ : ∃ k, i = k + 1 := ⟨i - 1, by omega⟩
    have c1 := pIdx k (by omega)
    have c2 := pIdx (k + 1) hlt
    have cr := crease h3 (i := k + 1) (by omega) hlt
    rw [Nat.add_sub_cancel] at cr
    have wk : IntKind.i64.wrap (((k + 1 : Nat) : Int) - 1) = (k : Int) := by rw [show (((k + 1 : Nat) : Int) - 1) = (k : Int) by omega]; exact wrap_nat (by omega)
    generalize hkk : ((k + 1 : Nat) : Int) = K at *
    have hK : K < (l.length : Int) := by omega
    simp [e22, e7, hK]
    have z1 := store_pair (hp := fun j => if j = u.hs.nh + 1 then some [AV.int .i64 0, .int .i64 0] else if j = u.hs.nh then some [AV.int .i64 0, .int .i64 0] else u.hs.heap j) (i := u.hs.nh) (u := .int .i64 0) (v := .int .i64 0) (by simp) (k1 := .i64) (k2 := .i64) (a := lo l k) (b := hi l k)
    have z2 := store_pair (hp := fun j => if j = u.hs.nh then some [AV.int .i64 (lo l k), .int .i64 (hi l k)] else if j = u.hs.nh + 1 then some [AV.int .i64 0, .int .i64 0] else if j = u.hs.nh then some [AV.int .i64 0, .int .i64 0] else u.hs.heap j) (i := u.hs.nh + 1) (u := .int .i64 0) (v := .int .i64 0) (by simp) (k1 := .i64) (k2 := .i64) (a := lo l (k + 1)) (b := hi l (k + 1))
    have z3 := store_pair (hp := fun j => if j = u.hs.nh + 1 then some [AV.int .i64 0, .int .i64 0] else if j = u.hs.nh then some [AV.int .i64 0, .int .i64 0] else u.hs.heap j) (i := u.hs.nh + 1) (u := .int .i64 0) (v := .int .i64 0) (by simp) (k1 := .i64) (k2 := .i64) (a := lo l k) (b := hi l k)
    have z4 := store_pair (hp := fun j => if j = u.hs.nh + 1 then some [AV.int .i64 (lo l k), .int .i64 (hi l k)] else if j = u.hs.nh + 1 then some [AV.int .i64 0, .int .i64 0] else if j = u.hs.nh then some [AV.int .i64 0, .int .i64 0] else u.hs.heap j) (i := u.hs.nh) (u := .int .i64 0) (v := .int .i64 0) (by simp) (k1 := .i64) (k2 := .i64) (a := lo l (k + 1)) (b := hi l (k + 1))
    refine At.any_to (fun s' => s'.env 7 = .int .i64 (l.length : Int) ∧ s'.env 8 = P ∧ s'.env 18 = .ref q 0 ∧ s'.env 19 = V ∧ s'.env 22 = .int .i64 K ∧ q < s'.hs.nh ∧ s'.hs.heap q = some [.int .i64 (wd : Int), .int .i64 (l.length : Int), L] ∧
      ∃ a b, s'.env 23 = .ref a 0 ∧ s'.env 24 = .ref b 0 ∧ s'.hs.heap a = some [.int .i64 (lo l k), .int .i64 (hi l k)] ∧ s'.hs.heap b = some [.int .i64 (lo l (k + 1)), .int .i64 (hi l (k + 1))]) ?_ ?_
    · refine At.any_q 0 endN_p rfl rfl rfl ?_
      simp [e8]
      refine At.any_q 1 endN_p rfl rfl rfl ?_
      simp [e22]
      refine At.any_q 2 endN_p rfl rfl rfl ?_
      simp [wk]
      refine At.any_q 3 endN_p rfl rfl rfl ?_
      simp [c1]
      refine At.any_l 4 endN_p rfl rfl ⟨.agg [.int .i64 (lo l k), .int .i64 (hi l k)], by simp⟩ ?_
      simp
      refine At.any_q 5 endN_p rfl rfl rfl ?_
      simp [e8]
      refine At.any_q 6 endN_p rfl rfl rfl ?_
      simp [e22]
      refine At.any_q 7 endN_p rfl rfl rfl ?_
      simp [c2]
      refine At.any_l 8 endN_p rfl rfl ⟨.agg [.int .i64 (lo l (k + 1)), .int .i64 (hi l (k + 1))], by simp⟩ ?_
      simp
      refine At.any_2 9 10 rfl rfl rfl ?_ ?_
      · simp
        refine At.any_o 10 rfl rfl ?_
        simp
        refine At.any_o 11 rfl rfl ?_
        simp [z1]
        refine At.any_o 12 rfl rfl ?_
        simp [z2]
        refine At.any_e rfl ?_
        simp [e7, e8, e18, e19, e22, hb, show ¬ q = u.hs.nh by omega, show ¬ q = u.hs.nh + 1 by omega]
        exact At.of (by omega)
      · simp
        refine At.any_o 9 rfl rfl ?_
        simp
        refine At.any_o 11 rfl rfl ?_
        simp [z3]
        refine At.any_o 12 rfl rfl ?_
        simp [z4]
        refine At.any_e rfl ?_
        simp [e7, e8, e18, e19, e22, hb, show ¬ q = u.hs.nh by omega, show ¬ q = u.hs.nh + 1 by omega]
        exact At.of (by omega)
    clear z1 z2 z3 z4
    rintro v ⟨e7, e8, e18, e19, e22, hqv, hb, a, b, e23, e24, ha, hb2⟩
    have la1 : aload v.hs.heap false 1 (.ref a 1) = some (.int .i64 (hi l k)) := ldc ha rfl
    have la0 : aload v.hs.heap false 1 (.ref a 0) = some (.int .i64 (lo l k)) := ldc ha rfl
    have lb1 : aload v.hs.heap false 1 (.ref b 1) = some (.int .i64 (hi l (k + 1))) := ldc hb2 rfl
    have lb0 : aload v.hs.heap false 1 (.ref b 0) = some (.int .i64 (lo l (k + 1))) := ldc hb2 rfl
    have hrem : K.tmod 2 = (((k + 1) % 2 : Nat) : Int) := by rw [← hkk]; rfl
    have wr1 : IntKind.i64.wrap (K + 1) = ((k + 1 + 1 : Nat) : Int) := by rw [← hkk]; exact wrap_nat1 (by omega)
    have fin : ∀ v' : AS, v'.env 7 = .int .i64 (l.length : Int) ∧ v'.env 8 = P ∧ v'.env 18 = .ref q 0 ∧ v'.env 19 = V ∧ v'.env 22 = .int .i64 ((k + 1 + 1 : Nat) : Int) ∧ q < v'.hs.nh ∧ v'.hs.heap q = some [.int .i64 (wd : Int), .int .i64 (l.length : Int), L] → At (N v') := fun v' h => hN (k + 1 + 1) v' (by omega) ⟨by omega, by omega, h⟩
    have cs : (k + 1) % 2 = 0 ∨ (k + 1) % 2 = 1 := by omega
    rcases cs with c0 | c0
    · have h := cr.2 c0
      rw [c0] at hrem
      simp [e22, hrem, e23, e24, fa, la0, lb0, h, wr1]
      apply fin
      simp [e7, e8, e18, e19, hqv, hb]
    · have h := cr.1 c0
      rw [c0] at hrem
      simp [e22, hrem, e23, e24, fa, la1, lb1, h, wr1]
      apply fin
      simp [e7, e8, e18, e19, hqv, hb]
  have hil : i = l.length := by omega
  subst hil
  clear hN
  have dq := ldq u.hs.heap hb
  have nq : ¬ q = u.hs.nh := by omega
  have s25 : astore (fun i => if i = u.hs.nh then some [AV.int .i64 0, .int .i64 0, .int .i64 0, .int .i64 0] else u.hs.heap i) 4 (.ref u.hs.nh 0) pz = some _ := Fw.sto_agg (ys := [.int .i64 0, .int .i64 0, .int .i64 0, .int .i64 0]) (xs := [.int .i64 0, .int .i64 0, .int .i64 0, .int .i64 0]) (by simp) rfl rfl rfl rfl
  have dq2 := ldq (fun k => if k = u.hs.nh then some [AV.int .i64 0, .int .i64 0, .int .i64 0, .int .i64 0] else if k = u.hs.nh then some [AV.int .i64 0, .int .i64 0, .int .i64 0, .int .i64 0] else u.hs.heap k) (by simp [nq, hb])
  simp [e22, e7, e8, e18, e19, dq, d30, d31, d21, s25, dq2, k25]
end Go.Proofs.YtdcpkgedaflnmaaGreatDoor.Ly
set_option linter.unusedVariables false
set_option linter.unusedSimpArgs false
namespace Go.Proofs.YtdcpkgedaflnmaaGreatDoor
open Go Fw

theorem layered_typed (xs : List AV) (h : Typed [.sl (.int .u8), .int .u8] xs) : PCall Tryz.prog 7 xs (.bool true) := by
  obtain ⟨a, b, rfl, ha, hb⟩ := h.two
  obtain ⟨es, hes⟩ := Se.IsU8.of ha
  obtain ⟨m, hm, rfl⟩ := Se.u8_nat hb
  exact Ly.p7 hes hm
end Go.Proofs.YtdcpkgedaflnmaaGreatDoor
