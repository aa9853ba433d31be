/-
  The law's own list of foldings: the walks. Own work.
-/
import Derived.Test.YtedpcenghofpoaaDoorGB
import Derived.Test.YtedpcenghofpoaaDoorGC
set_option linter.unusedVariables false
set_option linter.unusedSimpArgs false
namespace Go.Proofs.YtedpcenghofpoaaDoor
open Go Fw

/-- memory that has grown, but for one block -/
structure Gr1 (bl : Nat) (hs hs' : HS) : Prop where
  nh : hs.nh ≤ hs'.nh
  heap : ∀ i, i < hs.nh → i ≠ bl → hs'.heap i = hs.heap i
theorem Gr1.refl (bl : Nat) (hs : HS) : Gr1 bl hs hs := ⟨Nat.le_refl _, fun _ _ _ => rfl⟩
theorem Gr1.trans {bl : Nat} {a b c : HS} (h : Gr1 bl a b) (k : Gr1 bl b c) : Gr1 bl a c :=
  ⟨Nat.le_trans h.nh k.nh, fun i h1 h2 => (k.heap i (Nat.lt_of_lt_of_le h1 h.nh) h2).trans (h.heap i h1 h2)⟩
/-- a list that was made here -/
def Mine (z : AV) (o : List Int) : Prop := (z = .nilsl ∧ o = []) ∨ ∃ k, z = .sl 1 (ints o) (.own k)
theorem Mine.asI {z : AV} {o : List Int} (h : Mine z o) (hl : o.length < 4294967296) : Fw.asI z = some o := by
  rcases h with ⟨rfl, rfl⟩ | ⟨k, rfl⟩
  · rfl
  · exact asI_sl hl
theorem mine_add {z : AV} {o : List Int} (h : Mine z o) (hl : o.length ≤ 1000) (k : Int) (hs : HS) :
    ∃ y1 hs1 y hs2, aappend 1 hs (.sl 1 [] .exact) z = some (y1, hs1) ∧ aappend 1 hs1 y1 (.sl 1 [.int .i64 k] .exact) = some (y, hs2) ∧ Mine y (o ++ [k]) ∧ SameMem hs hs2 ∧ KeepT hs hs2 := by
  have hz := h.asI (by omega)
  by_cases ho : o = []
  · subst ho
    obtain ⟨e1, e2⟩ := elems_of (asI_asV hz)
    have a1 : aappend 1 hs (.sl 1 [] .exact) z = some (.sl 1 [] .exact, hs) := by
      rw [append_eq (xs := []) rfl e1 (by simp [aszOk]) e2 (by simp [ints]), if_pos (by rfl)]
    obtain ⟨hs', p1, p2, p3, p4, p5⟩ := append_exact (sz := 1) (hs := hs) (xs := []) (q := .sl 1 [.int .i64 k] .exact) (ys := [.int .i64 k]) (asV_sl (by simp)) (by simp) (by simp)
    exact ⟨_, _, _, _, a1, p1, .inr ⟨_, rfl⟩, p3, p4⟩
  · obtain ⟨y1, hs1, y, hs2, a1, a2, a3, a4, a5⟩ := copy_add (hs := hs) hz ho (by omega) k
    refine ⟨y1, hs1, y, hs2, a1, a2, ?_, a4, a5⟩
    rcases a3.inv with ⟨rfl, h2⟩ | ⟨xs, kk, rfl, h1, h2⟩
    · simp [ints] at h2
    · exact .inr ⟨kk, by rw [share_ints_inv h2.1]⟩
theorem p72 {x z : AV} {l o : List Int} {f : List UInt8} (hx : asI x = some l) (hc : chk l f = 0) (hz : Mine z o) (ho : IsOrd l.length o) {hs : HS} {bl : Nat} {Y : AV} {L : List (List Int)} (hY : hs.heap bl = some [Y]) (oY : Outs 1 hs Y (L.map slV)) (hLn : L.length ≤ 1000000) (hbl : bl < hs.nh) :
    FCall Tryd.prog 72 [z, .ptr (.agg [x, .str (bs f)]), .ref bl 0] hs fun e hs' => e = .ret (.tup []) ∧ Gr1 bl hs hs' ∧ ∃ Y', hs'.heap bl = some [Y'] ∧ Outs 1 hs' Y' ((if isF l f o = true then L ++ [o] else L).map slV) := by
  obtain ⟨C, hC, h15, h39, h41, up⟩ := ctxD hx hc
  obtain ⟨hm, hfl, hfv⟩ := chk_0 hc
  obtain ⟨m1, m2, m3, m4⟩ := meas_0 hm
  have hol := ho.len
  have hzi := hz.asI (by omega)
  have halz := alen_of hzi
  refine FCall.ofAt hC ok72 (by simp) ?_
  have mk : amake false 1 [.int .i64 0] hs (.int .i64 (o.length : Int)) (.int .i64 (o.length : Int)) = some (.msl false 1 hs.nh 0 o.length true, hs.blk (List.replicate o.length (.int .i64 0))) := amake_eq (by omega)
  have hzz : List.replicate o.length (.int .i64 0) = ints (hL o.length (hO (o.take 0))) := by
    apply List.ext_getElem?
    intro j
    simp only [ints, hL, List.getElem?_map, List.getElem?_range, List.take_zero]
    by_cases hj : j < o.length
    · simp [hj, hO]
    · simp [hj]
  rw [hzz] at mk
  have hsl : bl ≠ hs.nh := by omega
  simp only [A72, R72]
  rw [At.awp_seq]
  simp [halz, mk, -At.awp_seq]
  rw [At.awp_seq]
  refine At.cut (fun s => s.env 0 = z ∧ s.env 1 = .ptr (.agg [x, .str (bs f)]) ∧ s.env 2 = .ref bl 0 ∧ s.env 4 = .msl false 1 hs.nh 0 o.length true ∧ s.hs = hs.blk (ints (hL o.length (hO o)))) ?_ ?_
  · simp [halz]
    refine At.loop (fun (i : Nat) s => i ≤ o.length ∧ s.env 0 = z ∧ s.env 1 = .ptr (.agg [x, .str (bs f)]) ∧ s.env 2 = .ref bl 0 ∧ s.env 4 = .msl false 1 hs.nh 0 o.length true ∧ s.env 10 = z ∧ s.env 11 = .int .i64 (o.length : Int) ∧ s.env 12 = .int .i64 (i : Int) ∧ s.hs = hs.blk (ints (hL o.length (hO (o.take i))))) (fun i => o.length - i) 0 ?_ ?_
    · simp
    rintro N i s hN ⟨hi, e0, e1, e2, e4, e10, e11, e12, ehs⟩
    simp [e11, e12]
    refine At.dec (fun hlt => ?_) (fun hlt => ?_)
    · have hix := idx_g hzi hlt (k := .i64)
      obtain ⟨a, ha⟩ : ∃ a : Nat, gI o i = (a : Int) := ⟨(gI o i).toNat, by have := ho.rng (gI o i) (by rw [gI_of hlt]; exact List.getElem_mem _); omega⟩
      have har := ho.rng (gI o i) (by rw [gI_of hlt]; exact List.getElem_mem _)
      rw [ha] at hix har
      have hal2 : a < o.length := by omega
      have hnt : (a : Int) ∉ o.take i := by
        rw [← ha, gI_of hlt]
        intro hm
        obtain ⟨j, hj, e⟩ := List.mem_take_iff_getElem.1 hm
        have := (List.getElem_inj ho.nd).1 e
        omega
      have ix : aidxS 1 (.msl false 1 hs.nh 0 o.length true) (.int .i64 (a : Int)) = some (.ref hs.nh a) := aidx_msln hal2
      have st : astore (hs.blk (ints (hL o.length (hO (o.take i))))).heap 1 (.ref hs.nh a) (.int .i64 (i : Int)) = some (fun k => if k = hs.nh then some ((ints (hL o.length (hO (o.take i)))).set a (.int .i64 (i : Int))) else (hs.blk (ints (hL o.length (hO (o.take i))))).heap k) := store_cell (by simp) (by rw [ints_len, hL_len]; exact hal2) rfl
      have hnew : hL o.length (hO (o.take (i + 1))) = hL o.length fun j => if j = a then (i : Int) else hO (o.take i) j := by
        refine hL_cong fun k _ => ?_
        rw [take_snoc hlt, ← gI_of hlt, ha, hO_snoc hnt]
        simp [Nat.min_eq_left (Nat.le_of_lt hlt)]
      rw [hL_set hal2] at st
      rw [← hnew] at st
      have fin : ∀ st' : HS, st' = (hs.blk (ints (hL o.length (hO (o.take i))))).upd hs.nh (ints (hL o.length (hO (o.take (i + 1))))) → st' = hs.blk (ints (hL o.length (hO (o.take (i + 1))))) := fun st' e => by rw [e, HS.upd_blk]
      generalize hy2 : ints (hL o.length (hO (o.take (i + 1)))) = y2 at st fin
      have w1 := wrap_nat1 (show i < _ by omega)
      generalize hb : hs.blk (ints (hL o.length (hO (o.take i)))) = hb1 at *
      simp [ehs, e4, e10, e12, hix, ix, st]
      refine hN (i + 1) _ (by omega) ⟨by omega, ?_⟩
      rw [hy2]
      simp [e0, e1, e2, e4, e10, e11, w1]
      exact fin _ rfl
    · have : i = o.length := by omega
      subst this
      rw [List.take_length] at ehs
      simp
      exact At.of ⟨e0, e1, e2, e4, ehs⟩
  rintro s ⟨e0, e1, e2, e4, ehs⟩
  have hth : thB l f (gI (hL o.length (hO o))) = isF l f o := by
    have e : ∀ k, k < l.length → gI (hL o.length (hO o)) k = hO o k := fun k hk => gI_hL (by omega)
    rw [thB_eq hm hfl (fmv_or hfv), crsL_cong (n := l.length - 1) (fun k hk => e k (by omega)), fitB_cong e]
    unfold isF
    rw [Bool.and_comm]
  obtain ⟨c, hfz⟩ := frz_heights (hp := (hs.blk (ints (hL o.length (hO o)))).heap) (b := hs.nh) (L := hL o.length (hO o)) (n := o.length) (by simp) (hL_len _ _)
  have k41 := h41 (z := .sl 1 (ints (hL o.length (hO o))) c) (L := hL o.length (hO o)) (asI_sl (by rw [hL_len]; omega)) (by rw [hL_len]; exact hol)
  have a41 : alcall C 41 (hs.blk (ints (hL o.length (hO o)))) [.agg [x, .str (bs f)], .msl false 1 hs.nh 0 o.length true] = some (.bool !thB l f (gI (hL o.length (hO o)))) := by
    unfold alcall
    rw [show [AV.agg [x, .str (bs f)], AV.msl false 1 hs.nh 0 o.length true].map (frz (hs.blk (ints (hL o.length (hO o)))).heap 2) = [.agg [x, .str (bs f)], .sl 1 (ints (hL o.length (hO o))) c] by
      rw [List.map_cons, List.map_cons, hfz, frz_agg, List.map_cons, List.map_cons, frzL_asI hx, frzL_str]; rfl, k41]
    rfl
  rw [hth] at a41
  have hYb : (hs.blk (ints (hL o.length (hO o)))).heap bl = some [Y] := by rw [HS.blk_old (by omega)]; exact hY
  have oYb : Outs 1 (hs.blk (ints (hL o.length (hO o)))) Y (L.map slV) := oY.cong rfl rfl
  have hgr : Gr1 bl hs (hs.blk (ints (hL o.length (hO o)))) := ⟨by show hs.nh ≤ hs.nh + 1; omega, fun i h1 h2 => HS.blk_old (by omega)⟩
  clear k41 hfz hth mk hzz
  generalize hs.blk (ints (hL o.length (hO o))) = hs1 at *
  subst ehs
  have lY : aload s.hs.heap false 1 (.ref bl 0) = some Y := load_one hYb
  cases hF : isF l f o with
  | false =>
    rw [hF] at a41
    simp [e1, e4, a41]
    exact At.of ⟨hgr, Y, hYb, oYb⟩
  | true =>
    rw [hF] at a41
    have hown : ∃ k, z = .sl 1 (ints o) (.own k) := by
      rcases hz with ⟨_, h0⟩ | h
      · rw [h0] at hol; simp at hol; omega
      · exact h
    obtain ⟨kz, hkz⟩ := hown
    have hshz : z.share = slV o := by rw [hkz, share_sl, share_ints]; rfl
    have hq : asV 1 (.sl 1 [z] .exact) = some [z] := asV_sl (by rw [hkz]; simp)
    obtain ⟨Y', hs2, b1, b2, b3⟩ := append_outs oYb hq (by simp; omega)
    have hlf : Y'.leaf = true := by obtain ⟨xs, e⟩ := aappend_own b1; rw [e]; rfl
    have st := store_cell (v := Y') (o := 0) (show hs2.heap bl = some [Y] by rw [b3.heap]; exact hYb) (by simp) hlf
    simp only [List.set_cons_zero] at st
    have hzs := asI_sto hzi
    have hzc := asI_cells hzi
    simp [e0, e1, e2, e4, a41, lY, astoAll, hzs, hzc, b1, st]
    refine At.of ⟨⟨?_, fun i h1 h2 => ?_⟩, ?_⟩
    · show hs.nh ≤ hs2.nh
      rw [b3.nh]; exact hgr.nh
    · show (if i = bl then _ else hs2.heap i) = _
      rw [if_neg h2, b3.heap]; exact hgr.heap i h1 h2
    · rw [List.map_cons, List.map_nil, hshz] at b2
      exact b2.cong rfl rfl
/-- the closure that is handed each order -/
def E72 (x : AV) (f : List UInt8) (bl : Nat) : AV := .fn (.func 72) [] [.ptr (.agg [x, .str (bs f)]), .ref bl 0]
theorem extT_len {n m : Nat} {o : List Int} {i j : Nat} (h : i ≤ j) : (extT n m o i).length ≤ (extT n m o j).length := by
  induction j with
  | zero => have : i = 0 := by omega
            subst this; exact Nat.le_refl _
  | succ j ih =>
    by_cases e : i = j + 1
    · subst e; exact Nat.le_refl _
    · have := ih (by omega)
      rw [extT_succ, List.length_append]; omega
theorem p71 {x : AV} {l : List Int} {f : List UInt8} (hx : asI x = some l) (hc : chk l f = 0) {bl : Nat} :
    ∀ (m : Nat) (o : List Int) (z : AV) (hs : HS) (L : List (List Int)) (Y : AV), Mine z o → o.length + m = l.length → (∀ a ∈ o, 0 ≤ a ∧ a < l.length) → o.Nodup → hs.heap bl = some [Y] → Outs 1 hs Y (L.map slV) → bl < hs.nh → L.length + (extL l.length m o).length ≤ 900000 →
      FCall Tryd.prog 71 [.int .i64 (l.length : Int), z, E72 x f bl] hs fun e hs' => e = .ret (.tup []) ∧ Gr1 bl hs hs' ∧ ∃ Y', hs'.heap bl = some [Y'] ∧ Outs 1 hs' Y' ((L ++ (extL l.length m o).filter (isF l f)).map slV) := by
  obtain ⟨hm, hfl, hfv⟩ := chk_0 hc
  obtain ⟨m1, m2, m3, m4⟩ := meas_0 hm
  intro m
  induction m with
  | zero =>
    intro o z hs L Y hz hlen hr hd hY oY hbl hLn
    have hol : o.length = l.length := by omega
    have ho : IsOrd l.length o := isOrd_iff.2 (mem_perms.2 ⟨hol, hr, hd⟩)
    have halz := alen_of (hz.asI (by omega))
    rw [hol] at halz
    refine FCall.ofAt CtxOk.nil ok71 (by simp) ?_
    simp only [A71, R71]
    simp [halz, E72]
    refine At.hc (p72 hx hc hz ho hY oY (by omega) hbl) ?_ ?_
    rotate_left
    · rintro v hs3 ⟨hv, _⟩; cases hv
    rintro v hs2 ⟨hv, hg, Y', hY', oY'⟩
    injection hv with hv; subst hv
    simp
    have : (extL l.length 0 o).filter (isF l f) = if isF l f o = true then [o] else [] := by
      simp [extL, List.filter_cons]
    rw [this]
    refine At.of ⟨hg, Y', hY', ?_⟩
    split at oY' <;> rename_i h
    · rw [if_pos h]; simpa using oY'
    · rw [if_neg h]; simpa using oY'
  | succ m ih =>
    intro o z hs L Y hz hlen hr hd hY oY hbl hLn
    have hzi := hz.asI (by omega)
    have halz := alen_of hzi
    refine FCall.ofAt CtxOk.nil ok71 (by simp) ?_
    have hE : (E72 x f bl).sto = true := rfl
    have hneq : ¬ (o.length : Int) = (l.length : Int) := by omega
    generalize hEE : E72 x f bl = E at *
    simp only [A71, R71]
    rw [At.awp_seq, At.awp_seq]
    simp [halz, hneq, show ¬ o.length = l.length by omega, -At.awp_seq]
    rw [At.awp_seq]
    simp [-At.awp_seq]
    refine At.loop (fun (k : Nat) s => k ≤ l.length ∧ s.env 0 = .int .i64 (l.length : Int) ∧ s.env 1 = z ∧ s.env 2 = E ∧ s.env 6 = .int .i64 (k : Int) ∧ Gr1 bl hs s.hs ∧ ∃ Y', s.hs.heap bl = some [Y'] ∧ Outs 1 s.hs Y' ((L ++ (extT l.length m o k).filter (isF l f)).map slV)) (fun k => l.length - k) 0 ?_ ?_
    · simp [extT]
      exact ⟨.refl _ _, Y, hY, oY⟩
    rintro N k s hN ⟨hk, e0, e1, e2, e6, hg, Y', hY', oY'⟩
    rw [At.awp_seq, At.awp_seq]
    simp [e0, e6, -At.awp_seq]
    refine At.dec (fun hlt => ?_) (fun hlt => ?_)
    · generalize hsk : s.hs = hs1 at *
      simp [-At.awp_seq]
      rw [At.awp_seq]
      simp [-At.awp_seq]
      rw [At.awp_seq]
      simp [-At.awp_seq]
      rw [At.awp_seq]
      refine At.cut (fun s => s.env 0 = .int .i64 (l.length : Int) ∧ s.env 1 = z ∧ s.env 2 = E ∧ s.env 6 = .int .i64 (k : Int) ∧ s.hs = hs1 ∧ s.env 7 = .bool (decide ((k : Int) ∈ o))) ?_ ?_
      · simp [e1, halz]
        refine At.loop (fun (j : Nat) s => j ≤ o.length ∧ s.env 0 = .int .i64 (l.length : Int) ∧ s.env 1 = z ∧ s.env 2 = E ∧ s.env 6 = .int .i64 (k : Int) ∧ s.hs = hs1 ∧ s.env 7 = .bool (decide ((k : Int) ∈ o.take j)) ∧ s.env 22 = z ∧ s.env 23 = .int .i64 (o.length : Int) ∧ s.env 24 = .int .i64 (j : Int)) (fun j => o.length - j) 0 ?_ ?_
        · simp [e0, e1, e2, e6, hsk]
        clear e0 e1 e2 e6 hsk s
        rintro N2 j s hN2 ⟨hj, e0, e1, e2, e6, eh, e7, e22, e23, e24⟩
        simp [e23, e24]
        refine At.dec (fun hlt2 => ?_) (fun hlt2 => ?_)
        · have hix := idx_g hzi hlt2 (k := .i64)
          have w1 := wrap_nat1 (show j < _ by omega)
          have ht : o.take (j + 1) = o.take j ++ [gI o j] := by rw [take_snoc hlt2, gI_of hlt2]
          by_cases h1 : (k : Int) ∈ o.take j
          · have h2 : (k : Int) ∈ o.take (j + 1) := by rw [ht]; simp [h1]
            simp [e6, e7, e22, e24, hix, h1, w1]
            refine hN2 (j + 1) _ (by omega) ?_
            refine ⟨by omega, e0, e1, e2, e6, eh, ?_, e22, e23, ?_⟩
            · simp [h2]
            · simp
          · by_cases h3 : gI o j = (k : Int)
            · have h2 : (k : Int) ∈ o.take (j + 1) := by rw [ht]; simp [h3]
              simp [e6, e7, e22, e24, hix, h1, h3, w1]
              refine hN2 (j + 1) _ (by omega) ?_
              refine ⟨by omega, e0, e1, e2, e6, eh, ?_, e22, e23, ?_⟩
              · simp [h2]
              · simp
            · have h2 : ¬ (k : Int) ∈ o.take (j + 1) := by rw [ht]; simp [h1]; exact fun e => h3 e.symm
              simp [e6, e7, e22, e24, hix, h1, h3, w1]
              refine hN2 (j + 1) _ (by omega) ?_
              refine ⟨by omega, e0, e1, e2, e6, eh, ?_, e22, e23, ?_⟩
              · simp [h2]
              · simp
        · have : j = o.length := by omega
          subst this
          rw [List.take_length] at e7
          simp
          exact At.of ⟨e0, e1, e2, e6, eh, e7⟩
      clear e0 e1 e2 e6 hsk s
      rintro s ⟨e0, e1, e2, e6, eh, e7⟩
      have w1 := wrap_nat1 (show k < _ by omega)
      by_cases hin : (k : Int) ∈ o
      · have hE : extT l.length m o (k + 1) = extT l.length m o k := by rw [extT_succ, if_pos hin, List.append_nil]
        simp [e6, e7, hin, w1]
        refine hN (k + 1) _ (by omega) ?_
        refine ⟨by omega, e0, e1, e2, rfl, by show Gr1 bl hs s.hs; rw [eh]; exact hg, Y', by show s.hs.heap bl = _; rw [eh]; exact hY', ?_⟩
        rw [hE]
        show Outs 1 s.hs Y' _
        rw [eh]; exact oY'
      · have hE : extT l.length m o (k + 1) = extT l.length m o k ++ extL l.length m (o ++ [(k : Int)]) := by rw [extT_succ, if_neg hin]
        obtain ⟨y1, hs2, y, hs3, a1, a2, a3, a4, a5⟩ := mine_add hz (by omega) (k : Int) hs1
        have hlen2 : (extT l.length m o (k + 1)).length ≤ (extL l.length (m + 1) o).length := extT_len (n := l.length) (m := m) (o := o) (show k + 1 ≤ l.length by omega)
        rw [hE, List.length_append] at hlen2
        have hfl2 := List.length_filter_le (isF l f) (extT l.length m o k)
        have hcall := ih (o ++ [(k : Int)]) y hs3 (L ++ (extT l.length m o k).filter (isF l f)) Y' a3 (by rw [List.length_append]; simp; omega) (fun a ha => by
            rcases List.mem_append.1 ha with h | h
            · exact hr a h
            · simp at h; subst h; omega) (List.nodup_append.2 ⟨hd, by simp, fun a ha b hb e => by simp at hb; subst hb; subst e; exact hin ha⟩)
          (by rw [a4.heap]; exact hY') (oY'.keep a5) (by rw [a4.nh]; exact Nat.lt_of_lt_of_le hbl hg.nh) (by rw [List.length_append]; omega)
        subst eh
        simp [e0, e1, e2, e6, e7, hin, a1, astoAll, sto_in, cel_in, a2]
        refine At.hc hcall ?_ ?_
        rotate_left
        · rintro v hs4 ⟨hv, _⟩; cases hv
        rintro v hs4 ⟨hv, g4, Y4, hY4, oY4⟩
        injection hv with hv; subst hv
        simp [e6, w1]
        refine hN (k + 1) _ (by omega) ?_
        refine ⟨by omega, e0, e1, e2, rfl, hg.trans ⟨by rw [← a4.nh]; exact g4.nh, fun i h1 h2 => by rw [← a4.heap]; exact g4.heap i (by rw [a4.nh]; exact h1) h2⟩, Y4, hY4, ?_⟩
        rw [hE, List.filter_append, ← List.append_assoc]
        exact oY4
    · have : k = l.length := by omega
      subst this
      have hE : extL l.length (m + 1) o = extT l.length m o l.length := rfl
      rw [hE]
      rw [List.map_append] at oY'
      simp
      exact At.of ⟨hg, Y', hY', oY'⟩
/-- the law's own list of foldings -/
def lstV (l : List Int) (f : List UInt8) : AV := outV 1 ((foldL l f).map slV)
theorem lstV_plain (l : List Int) (f : List UInt8) : (lstV l f).plain = true := by
  unfold lstV outV
  split
  · rfl
  · simp only [AV.plain, plainL_slV]
theorem p40 {x : AV} {l : List Int} {f : List UInt8} (hx : asI x = some l) (hc : chk l f = 0) : PCall Tryd.prog 40 [.agg [x, .str (bs f)]] (lstV l f) := by
  obtain ⟨hm, hfl, hfv⟩ := chk_0 hc
  obtain ⟨m1, m2, m3, m4⟩ := meas_0 hm
  refine PCall.of CtxOk.nil ok40 (by simp) (lstV_plain l f) fun hs hb => ?_
  have hal := alen_of hx
  have hrun := p71 hx hc (bl := hs.nh) l.length [] .nilsl ⟨fun i => if i = hs.nh then some [.nilsl] else hs.heap i, hs.nh + 1, hs.nt, hs.tok, hs.mp⟩ [] .nilsl (.inl ⟨rfl, rfl⟩) (by simp) (by simp) (by simp) (by simp) .nil (by simp) (by
    have := perms_len m2
    unfold permsL at this
    simp; omega)
  unfold E72 at hrun
  simp only [A40, R40]
  simp [cel_agg, fa, asI_ld hx, asI_sto hx, hal]
  refine At.hc hrun ?_ ?_
  rotate_left
  · rintro v hs4 ⟨hv, _⟩; cases hv
  rintro v hs4 ⟨hv, g4, Y4, hY4, oY4⟩
  injection hv with hv; subst hv
  have lY : aload hs4.heap false 1 (.ref hs.nh 0) = some Y4 := load_one hY4
  simp [lY]
  exact oY4.sh
end Go.Proofs.YtedpcenghofpoaaDoor
