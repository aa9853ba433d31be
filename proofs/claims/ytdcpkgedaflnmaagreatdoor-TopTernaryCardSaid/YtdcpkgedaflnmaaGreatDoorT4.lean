/-
  The walk of TopTernary. Own work.
-/
import Derived.Test.YtdcpkgedaflnmaaGreatDoorT2
import Derived.Test.YtdcpkgedaflnmaaGreatDoorG5
set_option linter.unusedVariables false
set_option linter.unusedSimpArgs false
namespace Go.Proofs.YtdcpkgedaflnmaaGreatDoor.We
open Go Fw Se Sn

theorem lin3_len : (linT 3 1).length = 3 := by simp [linT]
theorem ctxE (h36 : PCall Tryz.prog 36 [] (.bool true)) {k N : Nat} (hk1 : 1 ≤ k) (hk : k ≤ 7) (hN : N < 3 ^ k) {X : AV} (hX : madV (linT 3 1) = X) {load : Int} (hload : load = (N : Int) - hf k) :
    ∃ C, CtxOk Tryz.prog C ∧ C 36 [] = some (.bool true) ∧ C 32 [.int .i64 3, .int .i64 1] = some (.tup [X, .int .i64 0]) ∧ C 22 [X, .int .i64 ((k + 1 : Nat) : Int), .int .i64 (N : Int)] = some (.tup [shR (codeG (linT 3 1) k N), .int .i64 0]) ∧ C 23 [X, shR (codeG (linT 3 1) k N)] = some (.tup [.int .i64 (N : Int), .int .i64 0]) ∧
      (∀ z, asI z = some (pw k 1) → C 33 [z, .int .i64 load] = some (.tup [outV 1 (ints (bal k N)), .int .i64 0]) ∧ C 33 [z, .int .i64 ((hf k : Int) + 1)] = some (.tup [.nilsl, .int .i64 14]) ∧ C 35 [z, outV 1 (ints (bal k N)), .int .i64 load] = some (.int .i64 0)) ∧
      (1 ≤ load → ∃ j : Nat, j ≤ k ∧ C 34 [.int .i64 load] = some (.tup [.int .i64 (j : Int), .int .i64 0])) := by
  have hg := pw_ok k (by omega) hk1
  have hT := lin31
  have hTi := lin_as (n := 3) (st := 1) (by decide)
  have hTl := lin3_len
  have h7 : hf k ≤ 1093 := hf_mono hk
  have hp := hf_pow k
  have h40 := Se.p40 (n := 3) (st := 1) (by decide) (by decide) (by decide) (by decide) (by decide)
  rw [hX] at h40 hTi
  have h22 := p22g hTi hT (L := k) (i := N) hk1 (by omega) (by rw [hTl]; exact hN) (by omega)
  have h23 := p23g hTi hT (z := shR (codeG (linT 3 1) k N)) (L := k) (i := N) (asI_sl (by rw [codeG_len]; omega)) hk1 (by omega) (by rw [hTl]; exact hN)
  have hA : layA (pw k 1) load = some (bal k N) := by rw [hload]; exact layA_bal hN
  have hsum : sumL (pw k 1) = (hf k : Int) := by rw [pw_sum, Int.one_mul]
  have hB : layA (pw k 1) ((hf k : Int) + 1) = none := layA_none (by rw [hsum]; omega)
  have hdot : dot (bal k N) (pw k 1) = load := by
    have := dot_pw (bal k N) 1
    rw [bal_len] at this
    rw [this, bal_vl k N hN, Int.one_mul, hload]
  obtain ⟨C1, hC1, k36, _⟩ := ctx_pt CtxOk.nil 36 _ _ h36
  obtain ⟨C2, hC2, k32, n2⟩ := ctx_pt hC1 32 _ _ h40
  obtain ⟨C3, hC3, k22, n3⟩ := ctx_pt hC2 22 _ _ h22
  obtain ⟨C4, hC4, k23, n4⟩ := ctx_pt hC3 23 _ _ h23
  obtain ⟨C5, hC5, k33, n5⟩ := ctx_fam hC4 33 (fun q : {z : AV // asI z = some (pw k 1)} × Bool => [q.1.1, .int .i64 (if q.2 then load else (hf k : Int) + 1)]) (fun q => layV (layA (pw k 1) (if q.2 then load else (hf k : Int) + 1))) (fun q => by
    refine p33 q.1.2 hg ?_ ?_ <;> split <;> omega) (by
    rintro ⟨⟨a, ha⟩, c⟩ ⟨⟨b, hb⟩, d⟩ e
    simp only [List.cons.injEq, AV.int.injEq, and_true, true_and] at e
    simp only
    rw [e.2])
  obtain ⟨C6, hC6, k35, n6⟩ := ctx_fam hC5 35 (fun q : {z : AV // asI z = some (pw k 1)} => [q.1, outV 1 (ints (bal k N)), .int .i64 load]) (fun q => .int .i64 0) (fun q => p35 q.2 hg (asI_outV (by rw [bal_len]; omega)) (by rw [bal_len, pw_len]) (bal_dig k N) hdot) (fun _ _ _ => rfl)
  have fin : ∀ C : PCtx, CtxOk Tryz.prog C → (∀ m, ¬ m = 34 → C m = C6 m) → (1 ≤ load → ∃ j : Nat, j ≤ k ∧ C 34 [.int .i64 load] = some (.tup [.int .i64 (j : Int), .int .i64 0])) → _ := fun C hC n7 h34 => (⟨C, hC, by rw [n7 36 (by decide), n6 36 (by decide), n5 36 (by decide), n4 36 (by decide), n3 36 (by decide), n2 36 (by decide)]; exact k36, by rw [n7 32 (by decide), n6 32 (by decide), n5 32 (by decide), n4 32 (by decide), n3 32 (by decide)]; exact k32, by rw [n7 22 (by decide), n6 22 (by decide), n5 22 (by decide), n4 22 (by decide)]; exact k22, by rw [n7 23 (by decide), n6 23 (by decide), n5 23 (by decide)]; exact k23, fun z hz => ⟨by
      have := k33 (⟨z, hz⟩, true)
      simp only [if_true] at this
      rw [hA] at this
      rw [n7 33 (by decide), n6 33 (by decide)]
      exact this, by
      have := k33 (⟨z, hz⟩, false)
      simp only [Bool.false_eq_true, if_false] at this
      rw [hB] at this
      rw [n7 33 (by decide), n6 33 (by decide)]
      exact this, by rw [n7 35 (by decide)]; exact k35 ⟨z, hz⟩⟩, h34⟩ : ∃ C, CtxOk Tryz.prog C ∧ C 36 [] = some (.bool true) ∧ C 32 [.int .i64 3, .int .i64 1] = some (.tup [X, .int .i64 0]) ∧ C 22 [X, .int .i64 ((k + 1 : Nat) : Int), .int .i64 (N : Int)] = some (.tup [shR (codeG (linT 3 1) k N), .int .i64 0]) ∧ C 23 [X, shR (codeG (linT 3 1) k N)] = some (.tup [.int .i64 (N : Int), .int .i64 0]) ∧
      (∀ z, asI z = some (pw k 1) → C 33 [z, .int .i64 load] = some (.tup [outV 1 (ints (bal k N)), .int .i64 0]) ∧ C 33 [z, .int .i64 ((hf k : Int) + 1)] = some (.tup [.nilsl, .int .i64 14]) ∧ C 35 [z, outV 1 (ints (bal k N)), .int .i64 load] = some (.int .i64 0)) ∧
      (1 ≤ load → ∃ j : Nat, j ≤ k ∧ C 34 [.int .i64 load] = some (.tup [.int .i64 (j : Int), .int .i64 0])))
  by_cases h1 : 1 ≤ load
  · obtain ⟨j, hj, h34⟩ := p34 hk h1 (by omega)
    obtain ⟨C, hC, k34, n7⟩ := ctx_pt hC6 34 _ _ h34
    exact fin C hC n7 fun _ => ⟨j, hj, k34⟩
  · exact fin C6 hC6 (fun _ _ => rfl) fun h => absurd h h1
theorem code_get {k N i : Nat} (hi : i < k) : gI (codeG (linT 3 1) k N) (k - 1 - i) = ((N / 3 ^ i % 3 : Nat) : Int) := by
  unfold codeG gI
  rw [List.getD_eq_getElem?_getD, List.getElem?_append_left (by rw [dgs_len]; omega), ← List.getD_eq_getElem?_getD, lin3_len]
  exact dgs_get hi
set_option maxHeartbeats 4000000 in
theorem p8 (h36 : PCall Tryz.prog 36 [] (.bool true)) {wt bw : Nat} (hwt : wt < 256) (hbw : bw < 65536) : PCall Tryz.prog 8 [.int .u8 (wt : Int), .int .u16 (bw : Int)] (.bool true) := by
  obtain ⟨k, hk⟩ : ∃ k, k = 1 + wt % 7 := ⟨_, rfl⟩
  have hk1 : 1 ≤ k := by omega
  have hk7 : k ≤ 7 := by omega
  obtain ⟨T, hT⟩ : ∃ T : Nat, T = 3 ^ k := ⟨_, rfl⟩
  have hTp : 0 < T := by rw [hT]; exact Nat.pow_pos (by decide)
  have hTb : T ≤ 2187 := by rw [hT]; exact Nat.pow_le_pow_right (by decide) (show k ≤ 7 from hk7)
  obtain ⟨N, hNe⟩ : ∃ N, N = bw % T := ⟨_, rfl⟩
  have hNT : N < T := by rw [hNe]; exact Nat.mod_lt _ hTp
  have hhp := hf_pow k
  rw [← hT] at hhp
  obtain ⟨load, hload⟩ : ∃ load : Int, load = (N : Int) - hf k := ⟨_, rfl⟩
  obtain ⟨X, hX⟩ : ∃ X, madV (linT 3 1) = X := ⟨_, rfl⟩
  obtain ⟨C, hC, k36, k32, k22, k23, k33, k34⟩ := ctxE h36 hk1 hk7 (N := N) (by rw [← hT]; exact hNT) hX hload
  have hcg := fun i (hi : i < k) => code_get (N := N) hi
  have hcl := codeG_len (linT 3 1) k N
  have hcI : asI (shR (codeG (linT 3 1) k N)) = some (codeG (linT 3 1) k N) := asI_sl (by rw [hcl]; omega)
  generalize codeG (linT 3 1) k N = cL at *
  generalize hcA : shR cL = cA at *
  have hbg := fun i (hi : i < k) => bal_get (k := k) (N := N) hi
  have hbl := bal_len k N
  have hbI := asI_outV (l := bal k N) (by rw [hbl]; omega)
  generalize bal k N = bL at *
  generalize outV 1 (ints bL) = bA at *
  have hcal := alen_of hcI
  have hbal := alen_of hbI
  rw [hcl] at hcal
  rw [hbl] at hbal
  obtain ⟨H, hH⟩ : ∃ H, H = hf k := ⟨_, rfl⟩
  rw [← hH] at hhp hload k33
  obtain ⟨k1, hk1'⟩ : ∃ k1, k1 = k + 1 := ⟨_, rfl⟩
  rw [← hk1'] at k22 hcal
  have w1 : IntKind.i64.wrap (wt : Int) = (wt : Int) := wrap64 (by omega) (by omega)
  have w2 : IntKind.i64.wrap (bw : Int) = (bw : Int) := wrap64 (by omega) (by omega)
  obtain ⟨m7, hm7⟩ : ∃ m7, m7 = wt % 7 := ⟨_, rfl⟩
  have t1 : (wt : Int).tmod 7 = (m7 : Int) := by rw [Int.tmod_eq_emod_of_nonneg (by omega), hm7]; exact (Int.natCast_emod wt 7).symm
  have w3 : IntKind.i64.wrap (1 + (m7 : Int)) = (k : Int) := by rw [show (1 : Int) + (m7 : Int) = (k : Int) by omega]; exact wrap64 (by omega) (by omega)
  have t2 : (bw : Int).tmod (T : Int) = (N : Int) := by rw [Int.tmod_eq_emod_of_nonneg (by omega), hNe]; exact (Int.natCast_emod bw T).symm
  have hT0 : ¬ (T : Int) = 0 := by omega
  have hT0' : ¬ T = 0 := by omega
  have w4 : IntKind.i64.wrap ((T : Int) - 1) = ((2 * H : Nat) : Int) := by rw [show (T : Int) - 1 = ((2 * H : Nat) : Int) by omega]; exact wrap64 (by omega) (by omega)
  obtain ⟨H2, hH2⟩ : ∃ H2, H2 = 2 * H := ⟨_, rfl⟩
  rw [← hH2] at w4
  have w5 : IntKind.i64.wrap ((H2 : Int).tdiv 2) = (H : Int) := by
    have : (H2 : Int).tdiv 2 = (H : Int) := by rw [Int.tdiv_eq_ediv_of_nonneg (by omega)]; omega
    rw [this]; exact wrap64 (by omega) (by omega)
  have w5' : IntKind.i64.wrap ((H2 : Int) / 2) = (H : Int) := by
    have : (H2 : Int) / 2 = (H : Int) := by omega
    rw [this]; exact wrap64 (by omega) (by omega)
  have w6 : IntKind.i64.wrap ((N : Int) - (H : Int)) = load := by rw [← hload]; exact wrap64 (by omega) (by omega)
  have w7 : IntKind.i64.wrap ((k : Int) + 1) = (k1 : Int) := by rw [show (k : Int) + 1 = (k1 : Int) by omega]; exact wrap64 (by omega) (by omega)
  have w8 : IntKind.i64.wrap (load + (H : Int)) = (N : Int) := by rw [show load + (H : Int) = (N : Int) by omega]; exact wrap64 (by omega) (by omega)
  have w9 : IntKind.i64.wrap ((H : Int) + 1) = (H : Int) + 1 := wrap64 (by omega) (by omega)
  refine PCall.of hC ok8 (by simp) rfl fun hs hb => ?_
  simp only [A8, R8]
  rw [At.awp_seq]
  simp [-At.awp_seq]
  rw [At.awp_seq]
  simp [w1, t1, w3, -At.awp_seq]
  rw [At.awp_seq]
  simp [-At.awp_seq]
  rw [At.awp_seq]
  simp [-At.awp_seq]
  rw [At.awp_seq]
  refine At.cut (fun s => s.env 1 = .int .u16 (bw : Int) ∧ s.env 5 = .int .i64 (k : Int) ∧ asI (s.env 6) = some (pw k 1) ∧ s.env 7 = .int .i64 (T : Int)) ?_ ?_
  · rw [At.awp_seq]
    simp [-At.awp_seq]
    refine At.loop (fun (i : Nat) s => i ≤ k ∧ s.env 1 = .int .u16 (bw : Int) ∧ s.env 5 = .int .i64 (k : Int) ∧ Outs 1 s.hs (s.env 6) (ints (pw i 1)) ∧ s.env 7 = .int .i64 ((3 ^ i : Nat) : Int) ∧ s.env 8 = .int .i64 (i : Int)) (fun i => k - i) 0 ?_ ?_
    · simp [pw]
      exact Outs.nil
    rintro N2 i s hN ⟨hi, e1, e5, e6, e7, e8⟩
    by_cases hlt : i < k
    · have hlt' : (i : Int) < (k : Int) := by omega
      have wi := wrap_nat1 (show i < _ by omega)
      have hpi : 3 ^ i ≤ 2187 := Nat.pow_le_pow_right (by decide) (show i ≤ 7 by omega)
      have hsn := pw_snoc i 1
      rw [Int.one_mul] at hsn
      have hps : 3 ^ (i + 1) = 3 ^ i * 3 := Nat.pow_succ ..
      obtain ⟨Z, hZ⟩ : ∃ Z : Nat, Z = 3 ^ i := ⟨_, rfl⟩
      have hZi : (3 : Int) ^ i = (Z : Int) := by rw [hZ]; norm_cast
      rw [hZi] at hsn
      rw [← hZ] at e7 hpi hps
      have wz : IntKind.i64.wrap ((Z : Int) * 3) = ((3 ^ (i + 1) : Nat) : Int) := by rw [hps, show (Z : Int) * 3 = ((Z * 3 : Nat) : Int) by omega]; exact wrap64 (by omega) (by omega)
      obtain ⟨Z2, hZ2⟩ : ∃ Z2 : Nat, Z2 = 3 ^ (i + 1) := ⟨_, rfl⟩
      rw [← hZ2] at wz
      obtain ⟨z, hz⟩ : ∃ z, s.env 6 = z := ⟨_, rfl⟩
      rw [hz] at e6
      have hpl := pw_len i 1
      obtain ⟨z2, hs2, a1, a2, a3⟩ := e6.add1 (by omega) (Z : Int)
      rw [← hsn] at a2
      have as1 : astoAll 1 [.int .i64 (Z : Int)] = true := rfl
      simp [e5, e7, e8, hz, hlt, hlt', as1, a1, wz, wi]
      exact hN (i + 1) _ (by omega) ⟨by omega, by simp [e1], by simp [e5], by simpa using a2, by simp [hZ2], by simp⟩
    · have hlt' : ¬ (i : Int) < (k : Int) := by omega
      have hie : i = k := by omega
      rw [hie] at e6 e7
      rw [← hT] at e7
      have := e6.asI (by rw [pw_len]; omega)
      simp [e1, e5, e7, e8, hlt, hlt']
      exact this
  rintro s ⟨e1, e5, e6, e7⟩
  obtain ⟨z, hz⟩ : ∃ z, s.env 6 = z := ⟨_, rfl⟩
  rw [hz] at e6
  obtain ⟨k33a, k33b, k35⟩ := k33 z e6
  rw [At.awp_seq]
  simp [e7, w4, w5, w5', -At.awp_seq]
  rw [At.awp_seq]
  simp [e1, e7, w2, hT0, hT0', t2, w6, -At.awp_seq]
  rw [At.awp_seq]
  simp [k32, -At.awp_seq]
  rw [At.awp_seq]
  simp [e5, w7, w8, k22, -At.awp_seq]
  rw [At.awp_seq]
  simp [hz, k33a, -At.awp_seq]
  rw [At.awp_seq, At.awp_seq]
  simp [e5, hcal, hbal, w7, -At.awp_seq]
  rw [At.awp_seq]
  refine At.cut (fun s => s.env 5 = .int .i64 (k : Int) ∧ s.env 6 = z ∧ s.env 9 = .int .i64 (H : Int) ∧ s.env 10 = .int .i64 load ∧ s.env 11 = X ∧ s.env 13 = cA ∧ s.env 15 = bA) ?_ ?_
  · rw [At.awp_seq]
    simp [-At.awp_seq]
    refine At.loop (fun (i : Nat) s => i ≤ k ∧ s.env 5 = .int .i64 (k : Int) ∧ s.env 6 = z ∧ s.env 9 = .int .i64 (H : Int) ∧ s.env 10 = .int .i64 load ∧ s.env 11 = X ∧ s.env 13 = cA ∧ s.env 15 = bA ∧ s.env 17 = .int .i64 (i : Int)) (fun i => k - i) 0 ?_ ?_
    · simp [e5, hz]
    rintro N2 i s hN ⟨hi, e5, e6, e9, e10, e11, e13, e15, e17⟩
    by_cases hlt : i < k
    · have hlt' : (i : Int) < (k : Int) := by omega
      have wi := wrap_nat1 (show i < _ by omega)
      have ib := idx_g hbI (k := .i64) (show i < bL.length by omega)
      have hgb : gI bL i = ((N / 3 ^ i % 3 : Nat) : Int) - 1 := hbg i hlt
      have hgc := hcg i hlt
      have ic := idx_g hcI (k := .i64) (show k - 1 - i < cL.length by omega)
      rw [hgc] at ic
      rw [hgb] at ib
      obtain ⟨v, hv⟩ : ∃ v : Nat, v = N / 3 ^ i % 3 := ⟨_, rfl⟩
      rw [← hv] at ib ic
      have hv3 : v < 3 := by rw [hv]; exact Nat.mod_lt _ (by decide)
      obtain ⟨u, hu⟩ : ∃ u, u = k - 1 - i := ⟨_, rfl⟩
      rw [← hu] at ic
      have wk1 : IntKind.i64.wrap ((k : Int) - 1) = (k : Int) - 1 := wrap64 (by omega) (by omega)
      have wk2 : IntKind.i64.wrap ((k : Int) - 1 - (i : Int)) = (u : Int) := by rw [show (k : Int) - 1 - (i : Int) = (u : Int) by omega]; exact wrap64 (by omega) (by omega)
      have wv : IntKind.i64.wrap ((v : Int) - 1) = (v : Int) - 1 := wrap64 (by omega) (by omega)
      simp [e5, e13, e15, e17, hlt, hlt', ib, ic, wk1, wk2, wv, wi]
      exact hN (i + 1) _ (by omega) ⟨by omega, by simp [e5], by simp [e6], by simp [e9], by simp [e10], by simp [e11], by simp [e13], by simp [e15], by simp⟩
    · have hlt' : ¬ (i : Int) < (k : Int) := by omega
      simp [e5, e6, e9, e10, e11, e13, e15, e17, hlt, hlt']
  rintro s ⟨e5, e6', e9, e10, e11, e13, e15⟩
  rw [At.awp_seq]
  simp [e11, e13, k23, -At.awp_seq]
  rw [At.awp_seq]
  simp [e6', e9, w9, k33b, -At.awp_seq]
  rw [At.awp_seq, At.awp_seq]
  simp [e9, e10, w6, -At.awp_seq]
  rw [At.awp_seq]
  refine At.cut (fun s => s.env 6 = z ∧ s.env 10 = .int .i64 load ∧ s.env 15 = bA) ?_ ?_
  · by_cases hl0 : 0 < load
    · obtain ⟨j, hj, k34⟩ := k34 (by omega)
      have hjk : ¬ (k : Int) < (j : Int) := by omega
      have hjk' : ¬ k < j := by omega
      simp [e5, e6', e10, e15, hl0, k34, hjk, hjk']
    · simp [e6', e10, e15, hl0]
  rintro s ⟨e6, e10, e15⟩
  simp [e6, e10, e15, k35, k36]
end Go.Proofs.YtdcpkgedaflnmaaGreatDoor.We
