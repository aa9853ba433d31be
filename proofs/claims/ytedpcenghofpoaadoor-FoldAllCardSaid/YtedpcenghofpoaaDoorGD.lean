/-
  All foldings, by creases; stamps: the law's contract. Own work.
-/
import Derived.Test.YtedpcenghofpoaaDoorGC
import Derived.Test.YtedpcenghofpoaaDoorC2
import Derived.Test.YtedpcenghofpoaaDoorFx5
set_option linter.unusedVariables false
set_option linter.unusedSimpArgs false
namespace Go.Proofs.YtedpcenghofpoaaDoor
open Go Fw

theorem cntV_0 {l : List Int} {f : List UInt8} (h : chk l f = 0) : cntV l f = .tup [.int .i64 (cnt l f : Int), .int .i64 0] := by unfold cntV cnt; rw [if_neg (by simp [h])]
theorem allV_0 {l : List Int} (h : meas l = 0) : allV l = .tup [.int .i64 ((flatL l).length : Int), .int .i64 0] := by unfold allV; rw [if_neg (by simp [h])]
theorem meas_take {l : List Int} (h : meas l = 0) {n : Nat} (h1 : 1 ≤ n) (hn : n ≤ l.length) : meas (l.take n) = 0 := by
  obtain ⟨m1, m2, m3, m4⟩ := meas_0 h
  have hs := sum_split l n
  have := sum_nonneg (l := l.drop n) fun x hx => m3 x (List.mem_of_mem_drop hx)
  exact meas_of (by rw [List.length_take]; omega) (by rw [List.length_take]; omega) (fun a ha => m3 a (List.mem_of_mem_take ha)) (by omega)
theorem mkF_fmv (g n : Nat) : fmv (mkF g n) = true := by
  unfold fmv mkF
  rw [List.all_eq_true]
  intro c hc
  obtain ⟨i, _, rfl⟩ := List.mem_map.1 hc
  split <;> rfl
theorem meas_eq {n : Nat} {a : Int} (h1 : 1 ≤ n) (hn : n ≤ 7) (ha : 1 ≤ a) (h5 : a ≤ 5) : meas (eqL n a) = 0 := by
  refine meas_of (by rw [eqL_len]; omega) (by rw [eqL_len]; omega) (fun b hb => ?_) ?_
  · have : b = a := List.eq_of_mem_replicate hb
    omega
  · have : ∀ n : Nat, (eqL n a).sum = n * a := by
      intro n
      induction n with
      | zero => simp [eqL]
      | succ n ih =>
        have : eqL (n + 1) a = a :: eqL n a := rfl
        rw [this, List.sum_cons, ih]
        push_cast
        rw [Int.add_mul]; omega
    rw [this]
    have : (n : Int) * a ≤ 7 * 5 := Int.mul_le_mul (by omega) h5 (by omega) (by omega)
    omega
theorem frzL_st {h : Nat → Option (List AV)} {n : Nat} {l : List UInt8} : frzL h n (.str (bs l)) = .str (bs l) := by cases n <;> rfl
/-- what stays through the law -/
structure DB (b q : Nat) (s : AS) (hs1 : HS) (n : Nat) : Prop where
  eh : s.hs = hs1
  e3 : s.env 3 = .ref b 0
  e4 : s.env 4 = .int .i64 (n : Int)
  e5 : s.env 5 = .msl false 1 q 0 n true
theorem stamp_ix {n : Nat} (h1 : 1 ≤ n) (h5 : n ≤ 5) : aidxS 1 (.sl 1 [.int .i64 1, .int .i64 2, .int .i64 6, .int .i64 16, .int .i64 50] .exact) (.int .i64 ((n - 1 : Nat) : Int)) = some (.ptr (.int .i64 (stamp n : Int))) := by
  rcases (by omega : n = 1 ∨ n = 2 ∨ n = 3 ∨ n = 4 ∨ n = 5) with rfl | rfl | rfl | rfl | rfl <;> rfl
theorem stamp_rm {n : Nat} (h1 : 1 ≤ n) (h5 : n ≤ 5) : abin 0 .rem (.int .i64 (stamp n : Int)) (.int .i64 (n : Int)) = some (.int .i64 0) := by
  rcases (by omega : n = 1 ∨ n = 2 ∨ n = 3 ∨ n = 4 ∨ n = 5) with rfl | rfl | rfl | rfl | rfl <;> rfl
set_option maxHeartbeats 1000000 in
theorem p11 {x : AV} {es : List Int} (hx : IsU8 x es) {g : Nat} (hg : g < 256) : PCall Tryd.prog 11 [.agg [x, .int .u8 (g : Int)]] (.bool true) := by
  have hck := chk_made es g hx.2
  have hli := lenV_i es
  obtain ⟨C, hC, h15, h43, h42, h44, h39, up⟩ := ctxL
  obtain ⟨hms, hfl, _⟩ := chk_0 hck
  obtain ⟨m1, m2, m3, m4⟩ := meas_0 hms
  have h5 : ∀ a ∈ mkL es, 1 ≤ a ∧ a ≤ 5 := by
    intro a ha
    unfold mkL at ha
    split at ha
    · simp at ha; omega
    · obtain ⟨b, hb, rfl⟩ := List.mem_map.1 ha
      exact len1_bd (hx.2 b (List.mem_of_mem_take hb)).1
  have hm1 := h39 hx hg
  unfold madeV at hm1
  have hal := alen_of hli
  have hld := asI_ld hli
  have hst := asI_sto hli
  have hcl := asI_cells hli
  have hxs : x.sto = true := by rcases hx.1 with ⟨rfl, _⟩ | rfl <;> rfl
  have hxc : x.cells = [x] := by rcases hx.1 with ⟨rfl, _⟩ | rfl <;> rfl
  generalize mkF g ((mkL es).length - 1) = f at *
  generalize lenV es = v at *
  generalize mkL es = l at *
  obtain ⟨n, hn, n1, n5⟩ : ∃ n : Nat, min l.length 5 = n ∧ 1 ≤ n ∧ n ≤ 5 := ⟨_, rfl, by omega, by omega⟩
  have hnl : n ≤ l.length := by omega
  refine PCall.of hC okB11 (by simp) rfl fun hs hb => ?_
  simp only [AB11, RB11]
  have ld0 : aload (fun i => if i = hs.nh then some [v, .str (bs f)] else if i = hs.nh then some [.nilsl, .str (bs [])] else hs.heap i) false 1 (.ref hs.nh 0) = some v := ldc (ys := [v, .str (bs f)]) (by simp) rfl
  have mnn : amin (.int .i64 (l.length : Int)) (.int .i64 5) = some (.int .i64 (n : Int)) := by
    show some (AV.int .i64 (min (l.length : Int) 5)) = _
    congr 2; omega
  rw [At.awp_seq]
  simp [hxs, -At.awp_seq]
  rw [At.awp_seq]
  simp [hm1, -At.awp_seq]
  rw [At.awp_seq]
  simp [fa, ld0, hal, mnn, -amin_int, -At.awp_seq]
  obtain ⟨hs0, hhs0⟩ : ∃ hs0 : HS, hs0 = ⟨fun k => if k = hs.nh then some [v, AV.str (bs f)] else if k = hs.nh then some [AV.nilsl, AV.str (bs [])] else hs.heap k, hs.nh + 1, hs.nt, hs.tok, hs.mp⟩ := ⟨_, rfl⟩
  have h3 : hs0.heap hs.nh = some [v, .str (bs f)] := by rw [hhs0]; simp
  have hnh : hs.nh < hs0.nh := by rw [hhs0]; exact Nat.lt_succ_self _
  have ha0 := h5 (gI l 0) (by rw [gI_of (by omega)]; exact List.getElem_mem _)
  have mk : amake false 1 [.int .i64 0] hs0 (.int .i64 (n : Int)) (.int .i64 (n : Int)) = some (.msl false 1 hs0.nh 0 n true, hs0.blk (List.replicate n (.int .i64 0))) := amake_eq (by omega)
  have hz : List.replicate n (.int .i64 0) = ints (hL n (fun j => if j < 0 then gI l 0 else 0)) := by
    apply List.ext_getElem?
    intro j
    simp only [ints, hL, List.getElem?_map, List.getElem?_range]
    by_cases hj : j < n <;> simp [hj]
  rw [hz] at mk
  rw [At.awp_seq]
  rw [← hhs0]
  simp [mk, -At.awp_seq]
  rw [At.awp_seq]
  refine At.cut (fun s => ∃ hs1, DB hs.nh hs0.nh s hs1 n ∧ hs1.heap hs.nh = some [v, .str (bs f)] ∧ hs1.heap hs0.nh = some (ints (eqL n (gI l 0)))) ?_ ?_
  · simp
    refine At.loop (fun (i : Nat) s => i ≤ n ∧ DB hs.nh hs0.nh s (hs0.blk (ints (hL n (fun j => if j < i then gI l 0 else 0)))) n ∧ s.env 29 = .int .i64 (n : Int) ∧ s.env 30 = .int .i64 (i : Int)) (fun i => n - i) 0 ?_ ?_
    · simp
      exact ⟨rfl, rfl, rfl, rfl⟩
    rintro N i s hN ⟨hi, ⟨eh, e3, e4, e5⟩, e29, e30⟩
    simp [e29, e30]
    refine At.dec (fun hlt => ?_) (fun hlt => ?_)
    · have ld3 : aload (hs0.blk (ints (hL n (fun j => if j < i then gI l 0 else 0)))).heap false 1 (.ref hs.nh 0) = some v := ldc (ys := [v, .str (bs f)]) (by rw [HS.blk_old (by omega)]; exact h3) rfl
      have hix := idx_g hli (i := 0) (by omega) (k := .i64)
      have ix : aidxS 1 (.msl false 1 hs0.nh 0 n true) (.int .i64 (i : Int)) = some (.ref hs0.nh i) := aidx_msln hlt
      have st : astore (hs0.blk (ints (hL n (fun j => if j < i then gI l 0 else 0)))).heap 1 (.ref hs0.nh i) (.int .i64 (gI l 0)) = some (fun k => if k = hs0.nh then some ((ints (hL n (fun j => if j < i then gI l 0 else 0))).set i (.int .i64 (gI l 0))) else (hs0.blk (ints (hL n (fun j => if j < i then gI l 0 else 0)))).heap k) := store_cell (by simp) (by rw [ints_len, hL_len]; exact hlt) rfl
      have hnew : (hL n fun j => if j = i then gI l 0 else if j < i then gI l 0 else 0) = hL n (fun j => if j < i + 1 then gI l 0 else 0) := by
        refine hL_cong fun k _ => ?_
        by_cases h1 : k = i
        · subst h1; simp
        · by_cases h2 : k < i
          · simp [h1, h2, show k < i + 1 by omega]
          · simp [h1, h2, show ¬ k < i + 1 by omega]
      rw [hL_set hlt] at st
      rw [hnew] at st
      have fin : ∀ st' : HS, st' = (hs0.blk (ints (hL n (fun j => if j < i then gI l 0 else 0)))).upd hs0.nh (ints (hL n (fun j => if j < i + 1 then gI l 0 else 0))) → st' = hs0.blk (ints (hL n (fun j => if j < i + 1 then gI l 0 else 0))) := fun st' e => by rw [e, HS.upd_blk]
      generalize hy2 : ints (hL n (fun j => if j < i + 1 then gI l 0 else 0)) = y2 at st fin
      have w1 := wrap_nat1 (show i < _ by omega)
      generalize hs0.blk (ints (hL n (fun j => if j < i then gI l 0 else 0))) = hb1 at *
      have hix : aidxS 1 v (.int .i64 0) = some (.ptr (.int .i64 (gI l 0))) := hix
      simp [eh, e3, e5, e29, e30, fa, ld3, hix, ix, st]
      refine hN (i + 1) _ (by omega) ⟨by omega, ?_⟩
      rw [hy2]
      refine ⟨⟨fin _ rfl, e3, e4, e5⟩, ?_⟩
      simp [e29, w1]
    · have : i = n := by omega
      subst this
      simp
      refine At.of ⟨_, ⟨eh, e3, e4, e5⟩, by rw [HS.blk_old (by omega)]; exact h3, ?_⟩
      have : hL i (fun j => if j < i then gI l 0 else 0) = eqL i (gI l 0) := by
        apply List.ext_getElem
        · rw [hL_len, eqL_len]
        · intro j h1 h2
          rw [hL_len] at h1
          simp [hL, eqL, h1]
      rw [this]
      simp
  rintro s ⟨hs1, ⟨eh, e3, e4, e5⟩, h3, hq⟩
  clear mk hz hnh hhs0 mnn ld0
  generalize hs0.nh = q at *
  obtain ⟨y, hys, hyi⟩ := sl_take hli (k := n) hnl
  have hl'l : (l.take n).length = n := by rw [List.length_take]; omega
  have hml' : meas (l.take n) = 0 := meas_take hms n1 hnl
  have hmel : meas (eqL n (gI l 0)) = 0 := meas_eq n1 (by omega) ha0.1 ha0.2
  have hckl : ∀ m, chk (l.take n) (mkF m (n - 1)) = 0 := fun m => chk_of hml' (by rw [mkF_len, hl'l]) (mkF_fmv _ _)
  have hcke : ∀ m, chk (eqL n (gI l 0)) (mkF m (n - 1)) = 0 := fun m => chk_of hmel (by rw [mkF_len, eqL_len]) (mkF_fmv _ _)
  have ld3 : aload hs1.heap false 1 (.ref hs.nh 0) = some v := ldc (ys := [v, .str (bs f)]) h3 rfl
  obtain ⟨c, hfz⟩ := frz_heights (hp := hs1.heap) (b := q) (L := eqL n (gI l 0)) (n := n) hq (eqL_len _ _)
  have hci : asI (.sl 1 (ints (eqL n (gI l 0))) c) = some (eqL n (gI l 0)) := asI_sl (by rw [eqL_len]; omega)
  have c25a : ∀ m (hs3 : HS), hs3 = hs1 → FCall Tryd.prog 25 [.agg [y, .str (bs (mkF m (n - 1)))]] hs3 fun e hs' => e = .ret (.tup [.int .i64 (cnt (l.take n) (mkF m (n - 1)) : Int), .int .i64 0]) ∧ hs' = hs1 := fun m hs3 e => by
    subst e
    have := (p25 hyi (mkF m (n - 1))).fcall hs3
    rwa [cntV_0 (hckl m)] at this
  have c25b : ∀ m (hs3 : HS), hs3 = hs1 → FCall Tryd.prog 25 [.agg [.msl false 1 q 0 n true, .str (bs (mkF m (n - 1)))]] hs3 fun e hs' => e = .ret (.tup [.int .i64 (cnt (eqL n (gI l 0)) (mkF m (n - 1)) : Int), .int .i64 0]) ∧ hs' = hs1 := fun m hs3 e => by
    subst e
    refine FCall.lent2 (n := 2) ?_
    rw [List.map_cons, List.map_nil, frz_agg, List.map_cons, List.map_cons, List.map_nil, ← frz_msl, hfz, frzL_st, ← cntV_0 (hcke m)]
    exact p25 hci _
  have c27a : ∀ (hs3 : HS), hs3 = hs1 → FCall Tryd.prog 27 [y] hs3 fun e hs' => e = .ret (.tup [.int .i64 ((flatL (l.take n)).length : Int), .int .i64 0]) ∧ hs' = hs1 := fun hs3 e => by
    subst e
    have := (p27 hyi).fcall hs3
    rwa [allV_0 hml'] at this
  have c27b : ∀ (hs3 : HS), hs3 = hs1 → FCall Tryd.prog 27 [.msl false 1 q 0 n true] hs3 fun e hs' => e = .ret (.tup [.int .i64 ((flatL (eqL n (gI l 0))).length : Int), .int .i64 0]) ∧ hs' = hs1 := fun hs3 e => by
    subst e
    refine FCall.lent2 (n := 2) ?_
    rw [List.map_cons, List.map_nil, hfz, ← allV_0 hmel]
    exact p27 hci
  have wn : IntKind.i64.wrap ((n : Int) - 1) = ((n - 1 : Nat) : Int) := by rw [wrap64 (by omega) (by omega)]; omega
  have sh := shl64 (kd := 0) (n := n - 1) (k := .i64) (by omega)
  have hpw : 2 ^ (n - 1) ≤ 16 := Nat.pow_le_pow_right (by omega) (show n - 1 ≤ 4 by omega)
  rw [At.awp_seq]
  simp [-At.awp_seq]
  rw [At.awp_seq]
  refine At.cut (fun s => DB hs.nh q s hs1 n ∧ s.env 7 = .int .i64 (cntS (l.take n) (n - 1) (2 ^ (n - 1)) : Int) ∧ s.env 8 = .int .i64 (cntS (eqL n (gI l 0)) (n - 1) (2 ^ (n - 1)) : Int)) ?_ ?_
  · simp
    refine At.loop (fun (m : Nat) s => m ≤ 2 ^ (n - 1) ∧ DB hs.nh q s hs1 n ∧ s.env 7 = .int .i64 (cntS (l.take n) (n - 1) m : Int) ∧ s.env 8 = .int .i64 (cntS (eqL n (gI l 0)) (n - 1) m : Int) ∧ s.env 9 = .int .i64 (m : Int)) (fun m => 2 ^ (n - 1) - m) 0 ?_ ?_
    · simp
      exact ⟨⟨eh, e3, e4, e5⟩, rfl, rfl⟩
    clear eh e3 e4 e5 s
    rintro N m s hN ⟨hm, ⟨eh, e3, e4, e5⟩, e7, e8, e9⟩
    have hcmp : decide ((m : Int) < ((2 ^ (n - 1) : Nat) : Int)) = decide (m < 2 ^ (n - 1)) := by rw [decide_eq_decide]; omega
    rw [At.awp_seq, At.awp_seq]
    generalize hk : n - 1 = k at *
    generalize hP : 2 ^ k = P at *
    simp [e4, e9, wn, sh, hcmp, -At.awp_seq]
    refine At.dec (fun hlt => ?_) (fun hlt => ?_)
    · simp [-At.awp_seq]
      rw [At.awp_seq]
      simp [-At.awp_seq]
      rw [At.awp_seq]
      simp [-At.awp_seq]
      rw [At.awp_seq]
      refine At.cut (fun s => DB hs.nh q s hs1 n ∧ s.env 7 = .int .i64 (cntS (l.take n) k m : Int) ∧ s.env 8 = .int .i64 (cntS (eqL n (gI l 0)) k m : Int) ∧ s.env 9 = .int .i64 (m : Int) ∧ s.env 10 = .str (bs (mkF m k))) ?_ ?_
      · simp [e4, wn]
        refine At.loop (fun (i : Nat) s => i ≤ k ∧ DB hs.nh q s hs1 n ∧ s.env 7 = .int .i64 (cntS (l.take n) k m : Int) ∧ s.env 8 = .int .i64 (cntS (eqL n (gI l 0)) k m : Int) ∧ s.env 9 = .int .i64 (m : Int) ∧ s.env 10 = .str (bs (mkF m i)) ∧ s.env 49 = .int .i64 (k : Int) ∧ s.env 50 = .int .i64 (i : Int)) (fun i => k - i) 0 ?_ ?_
        · simp [e7, e8, e9]
          exact ⟨⟨eh, e3, e4, e5⟩, rfl⟩
        clear eh e3 e4 e5 e7 e8 e9 s
        rintro N2 i s hN2 ⟨hi, ⟨eh, e3, e4, e5⟩, e7, e8, e9, e10, e49, e50⟩
        simp [e49, e50]
        refine At.dec (fun hlt2 => ?_) (fun hlt2 => ?_)
        · have sh := shr64 (kd := 0) (a := m) (n := i) (k := .i64) (by omega)
          have hdb : m / 2 ^ i < 4611686018427387904 := Nat.lt_of_le_of_lt (Nat.div_le_self _ _) (by omega)
          have an := and64 (kd := 0) (a := m / 2 ^ i) (b := 1) hdb (by omega)
          rw [Nat.and_one_is_mod] at an
          have w1 := wrap_nat1 (show i < _ by omega)
          have hsu := mkF_succ m i
          have hml := mkF_len m i
          obtain ⟨b, hbe, hbc⟩ : ∃ b : Nat, m / 2 ^ i % 2 = b ∧ (b = 0 ∨ b = 1) := ⟨_, rfl, by omega⟩
          have z1 : amem (.ssl true false) s.hs [.str (bs [109, 118]), .int .i64 (b : Int)] = some (.str (bs ([109, 118].drop b)), s.hs) := ssl_l (by rcases hbc with rfl | rfl <;> decide)
          have z2 : amem (.ssl false true) s.hs [.str (bs ([109, 118].drop b)), .int .i64 ((1 : Nat) : Int)] = some (.str (bs (([109, 118].drop b).take 1)), s.hs) := ssl_h (by rcases hbc with rfl | rfl <;> decide)
          have hc1 : ([109, 118].drop b).take 1 = [if m / 2 ^ i % 2 = 0 then (109 : UInt8) else 118] := by rw [hbe]; rcases hbc with rfl | rfl <;> rfl
          rw [hc1, ← hbe] at z2
          rw [← hbe] at z1
          have hadd : abin 0 .add (.str (bs (mkF m i))) (.str (bs [if m / 2 ^ i % 2 = 0 then (109 : UInt8) else 118])) = some (.str (bs (mkF m (i + 1)))) := by rw [hsu]; exact abin_sadd (by rw [hml]; simp; omega)
          generalize [if m / 2 ^ i % 2 = 0 then (109 : UInt8) else 118] = ch at z2 hadd
          generalize hdr : ([109, 118] : List UInt8).drop (m / 2 ^ i % 2) = dr at z1 z2
          generalize ((m / 2 ^ i % 2 : Nat) : Int) = bi at an z1
          generalize ((m / 2 ^ i : Nat) : Int) = gi at sh an
          have an' : abin 0 .and (.int .i64 gi) (.int .i64 1) = some (.int .i64 bi) := an
          have z2' : amem (.ssl false true) s.hs [.str (bs dr), .int .i64 1] = some (.str (bs ch), s.hs) := z2
          simp [e9, e10, e50, sh, an', z1, z2', hadd, w1]
          refine hN2 (i + 1) _ (by omega) ⟨by omega, ⟨eh, e3, e4, e5⟩, ?_⟩
          simp [e7, e8, e9, e49]
        · have : i = k := by omega
          subst this
          simp
          exact At.of ⟨⟨eh, e3, e4, e5⟩, e7, e8, e9, e10⟩
      clear eh e3 e4 e5 e7 e8 e9 s
      rintro s ⟨⟨eh, e3, e4, e5⟩, e7, e8, e9, e10⟩
      have bl1 : afill [.nilsl, .str (bs [])] [(0, 1, y), (1, 1, .str (bs (mkF m k)))] = some [y, .str (bs (mkF m k))] := by
        simp [afill, setL, asI_cells hyi, asI_sto hyi]; exact ⟨⟨rfl, rfl⟩, rfl⟩
      have bl2 : afill [.nilsl, .str (bs [])] [(0, 1, .msl false 1 q 0 n true), (1, 1, .str (bs (mkF m k)))] = some [.msl false 1 q 0 n true, .str (bs (mkF m k))] := rfl
      have k1 := cnt_le (l := l.take n) (by omega) (mkF m k)
      have k2 := cnt_le (l := eqL n (gI l 0)) (by rw [eqL_len]; omega) (mkF m k)
      have k3 : 1 ≤ cnt (eqL n (gI l 0)) (mkF m k) := by
        have := eqOk_of n1 n5
        unfold eqOk at this
        rw [Bool.and_eq_true, Bool.and_eq_true, List.all_eq_true, hk, hP] at this
        have := this.1.1 m (List.mem_range.2 hlt)
        unfold cnt
        rw [foldL_eq ha0.1]
        exact of_decide_eq_true this
      have s1 := cntS_le (l := l.take n) (by omega) k m
      have s2 := cntS_le (l := eqL n (gI l 0)) (by rw [eqL_len]; omega) k m
      have wa : IntKind.i64.wrap ((cntS (l.take n) k m : Int) + (cnt (l.take n) (mkF m k) : Int)) = (cntS (l.take n) k (m + 1) : Int) := by
        rw [wrap64 (by omega) (by omega), cntS_succ]; omega
      have wb : IntKind.i64.wrap ((cntS (eqL n (gI l 0)) k m : Int) + (cnt (eqL n (gI l 0)) (mkF m k) : Int)) = (cntS (eqL n (gI l 0)) k (m + 1) : Int) := by
        rw [wrap64 (by omega) (by omega), cntS_succ]; omega
      have d1 := c25a m
      have d2 := c25b m
      have g1 : (0 : Int) ≤ (cnt (l.take n) (mkF m k) : Int) ∧ (cnt (l.take n) (mkF m k) : Int) ≤ 120 := by omega
      have g2 : (1 : Int) ≤ (cnt (eqL n (gI l 0)) (mkF m k) : Int) ∧ (cnt (eqL n (gI l 0)) (mkF m k) : Int) ≤ 120 := by omega
      generalize (cnt (l.take n) (mkF m k) : Int) = i1 at wa d1 g1
      generalize (cnt (eqL n (gI l 0)) (mkF m k) : Int) = i2 at wb d2 g2
      rw [At.awp_seq]
      simp [e3, e4, e10, fa, eh, ld3, hys, bl1, -At.awp_seq]
      refine At.hc (d1 _ eh) ?_ ?_
      rotate_left
      · rintro v hs3 ⟨hv, _⟩; cases hv
      rintro v2 hs3 ⟨hv, rfl⟩
      injection hv with hv; subst hv
      simp [-At.awp_seq]
      rw [At.awp_seq]
      simp [e5, e10, bl2, -At.awp_seq]
      refine At.hc (d2 _ rfl) ?_ ?_
      rotate_left
      · rintro v hs3 ⟨hv, _⟩; cases hv
      rintro v2 hs3 ⟨hv, rfl⟩
      injection hv with hv; subst hv
      have f1 : ¬ i1 < 0 := by omega
      have f2 : ¬ i2 < 1 := by omega
      have f3 : ¬ 120 < i1 := by omega
      have f4 : ¬ 120 < i2 := by omega
      have w1 := wrap_nat1 (show m < _ by omega)
      simp [f1, f2, f3, f4, e7, e8, e9, wa, wb]
      refine hN (m + 1) _ (by omega) ⟨by omega, ⟨rfl, e3, e4, e5⟩, ?_⟩
      simp [w1]
    · have : m = P := by omega
      subst this
      simp
      exact At.of ⟨⟨eh, e3, e4, e5⟩, e7, e8⟩
  clear eh e3 e4 e5 s
  rintro s ⟨⟨eh, e3, e4, e5⟩, e7, e8⟩
  have t1 := all_sum (l := l.take n) (by omega)
  have t2 := all_sum (l := eqL n (gI l 0)) (by rw [eqL_len]; omega)
  rw [hl'l] at t1
  rw [eqL_len] at t2
  have t3 : (flatL (eqL n (gI l 0))).length = stamp n := by
    have := eqOk_of n1 n5
    unfold eqOk at this
    rw [Bool.and_eq_true, Bool.and_eq_true, decide_eq_true_eq] at this
    rw [flatL_eq ha0.1]; exact this.1.2
  rw [t1] at e7
  rw [t2, t3] at e8
  rw [t3] at c27b
  have hix := stamp_ix n1 n5
  have hrm := stamp_rm n1 n5
  generalize ((stamp n : Nat) : Int) = st at *
  generalize (((flatL (l.take n)).length : Nat) : Int) = fl at *
  generalize ((n - 1 : Nat) : Int) = nn at *
  rw [At.awp_seq]
  simp [e3, e4, fa, eh, ld3, hys, -At.awp_seq]
  refine At.hc (c27a _ eh) ?_ ?_
  rotate_left
  · rintro v hs3 ⟨hv, _⟩; cases hv
  rintro v2 hs3 ⟨hv, rfl⟩
  injection hv with hv; subst hv
  simp [-At.awp_seq]
  rw [At.awp_seq]
  simp [e5, -At.awp_seq]
  refine At.hc (c27b _ rfl) ?_ ?_
  rotate_left
  · rintro v hs3 ⟨hv, _⟩; cases hv
  rintro v2 hs3 ⟨hv, rfl⟩
  injection hv with hv; subst hv
  simp [e4, e7, e8, wn, astoAll, sto_in, cel_in, hix, hrm, h15, -abin_rem]
theorem all_typed (xs : List AV) (h : Typed [TMap] xs) : PCall Tryd.prog 11 xs (.bool true) := by
  obtain ⟨x, rfl, hx⟩ := h.one
  obtain ⟨y, es, g, rfl, h1, h2⟩ := map_typed hx
  exact p11 h1 h2
end Go.Proofs.YtedpcenghofpoaaDoor
