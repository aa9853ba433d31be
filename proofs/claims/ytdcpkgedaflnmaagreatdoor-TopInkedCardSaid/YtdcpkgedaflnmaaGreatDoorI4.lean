/-
  The walk of TopInked. Own work.
  Stones printed again and again: whatever the arguments. Own work.
-/
import Derived.Test.YtdcpkgedaflnmaaGreatDoorI3
import Derived.Test.YtdcpkgedaflnmaaGreatDoorR4
set_option linter.unusedVariables false
set_option linter.unusedSimpArgs false
namespace Go.Proofs.YtdcpkgedaflnmaaGreatDoor.Ik
open Go Fw Se Rp

/-- the sequence of numbers -/
def rtK (bl : List Int) (L i : Nat) : List Int := (List.range i).map fun j => (((gI bl j).toNat % L : Nat) : Int)
theorem rtK_len (bl : List Int) (L i : Nat) : (rtK bl L i).length = i := by simp [rtK]
theorem rtK_succ (bl : List Int) (L i : Nat) : rtK bl L (i + 1) = rtK bl L i ++ [(((gI bl i).toNat % L : Nat) : Int)] := by simp [rtK, List.range_succ]
theorem rtK_bd {bl : List Int} {L i : Nat} (h : 1 ≤ L) : ∀ a ∈ rtK bl L i, 0 ≤ a ∧ a < L := fun a ha => by
  obtain ⟨j, _, rfl⟩ := List.mem_map.1 ha
  have := Nat.mod_lt (gI bl j).toNat (show 0 < L by omega)
  omega
theorem ctxT {x : AV} {D : List (List Int)} (hx : I6 x D) {ca : Nat} (hc : ca < 256) {K : Nat} (hK : 2 + ca % 4 = K) {z : AV} (hz : inksA K D = z) {M : List (List Int)} (hzM : asM z = some M) (g : PalK K M) :
    ∃ C, CtxOk Tryz.prog C ∧ C 13 [.int .u8 (ca : Int), x] = some (palA K z) ∧ (∀ (q : AV) (l : List Int), asI q = some l → (∀ a ∈ l, 0 ≤ a ∧ a < M.length) → l.length ≤ 12 → C 14 [palA K z, q] = some (.tup [outV 1 (ints (lsN (gvL M l 1))), .int .i64 0])) ∧
      (∀ b : List UInt8, IsB b → C 11 [.str (bs b)] = some (rootA b)) ∧ (∃ E, SetK K E ∧ (∀ i, i < M.length → prN (M.getD i []) E = E) ∧ C 15 [palA K z] = some (.tup [outV 1 (ints (lsN E)), .int .i64 0])) ∧ C 9 [] = some (.bool true) := by
  have h13 := p13 hx hc
  rw [hK, hz] at h13
  obtain ⟨E, hE1, hE2, h15⟩ := p15 hzM g
  obtain ⟨C1, hC1, k13, _⟩ := ctx_pt CtxOk.nil 13 _ _ h13
  obtain ⟨C2, hC2, k14, n2⟩ := ctx_fam hC1 14 (fun q : {q : AV × List Int // asI q.1 = some q.2 ∧ (∀ a ∈ q.2, 0 ≤ a ∧ a < M.length) ∧ q.2.length ≤ 12} => [palA K z, q.1.1]) (fun q => .tup [outV 1 (ints (lsN (gvL M q.1.2 1))), .int .i64 0]) (fun q => p14 hzM g q.2.1 q.2.2.1 q.2.2.2) (by
    rintro ⟨⟨a, la⟩, ha⟩ ⟨⟨b, lb⟩, hb⟩ e
    simp only [List.cons.injEq, and_true, true_and] at e
    subst e
    have := ha.1
    simp only at this
    rw [hb.1] at this
    injection this with this
    simp only at this
    simp only [this])
  obtain ⟨C3, hC3, k11, n3⟩ := ctx_fam hC2 11 (fun b : {b : List UInt8 // IsB b} => [.str (bs b.1)]) (fun b => rootA b.1) (fun b => p11 b.2) (by
    rintro ⟨a, ha⟩ ⟨b, hb⟩ e
    simp only [List.cons.injEq, AV.str.injEq, and_true] at e
    simp only
    rw [bs_inj.1 e])
  obtain ⟨C4, hC4, k15, n4⟩ := ctx_pt hC3 15 _ _ h15
  obtain ⟨C, hC, k9, n5⟩ := ctx_pt hC4 9 _ _ p9
  refine ⟨C, hC, ?_, fun q l a b d => ?_, fun b hb => ?_, ⟨E, hE1, hE2, ?_⟩, k9⟩
  · rw [n5 13 (by decide), n4 13 (by decide), n3 13 (by decide), n2 13 (by decide)]; exact k13
  · rw [n5 14 (by decide), n4 14 (by decide), n3 14 (by decide)]; exact k14 ⟨(q, l), a, b, d⟩
  · rw [n5 11 (by decide), n4 11 (by decide)]; exact k11 ⟨b, hb⟩
  · rw [n5 15 (by decide)]; exact k15
set_option maxHeartbeats 4000000 in
theorem p4 {x y : AV} {D : List (List Int)} {bl : List Int} (hx : I6 x D) (hy : IsU8 y bl) {ca : Nat} (hc : ca < 256) : PCall Tryz.prog 4 [.int .u8 (ca : Int), x, y] (.bool true) := by
  obtain ⟨K, hK⟩ : ∃ K, 2 + ca % 4 = K := ⟨_, rfl⟩
  have hK2 : 2 ≤ K := by omega
  have hK7 : K ≤ 7 := by omega
  obtain ⟨g, hM4⟩ := inks_pal hK2 hK7 D
  have hzM := inks_as hK7 D
  obtain ⟨z, hz⟩ : ∃ z, inksA K D = z := ⟨_, rfl⟩
  rw [hz] at hzM
  generalize inksP K D = M at *
  obtain ⟨C, hC, k13, k14, k11, ⟨E, hE1, hE2, k15⟩, k9⟩ := ctxT hx hc hK hz hzM g
  obtain ⟨R, hM⟩ := asM.isM hzM
  have hzl := hM.leaf
  have hzs := leaf_sto hzl
  have hzn := hM.len
  have hxs := hx.sto
  have hys : y.sto = true := by rcases hy.1 with ⟨rfl, _⟩ | rfl <;> rfl
  have hyl := hy.len
  have hm1 := g.m1
  have hM0 : ¬ (M.length : Int) = 0 := by omega
  have hM0' : ¬ M.length = 0 := by omega
  obtain ⟨n, hn⟩ : ∃ n, n = min bl.length 3 := ⟨_, rfl⟩
  obtain ⟨w, hw⟩ : ∃ w, w = (if n = 0 then [0] else rtK bl M.length n) := ⟨_, rfl⟩
  have hwb : ∀ a ∈ w, 0 ≤ a ∧ a < M.length := by
    rw [hw]
    split
    · intro a ha
      rw [List.mem_singleton.1 ha]
      omega
    · exact rtK_bd hm1
  have hw1 : 1 ≤ w.length ∧ w.length ≤ 3 := by
    rw [hw]
    split
    · simp
    · rw [rtK_len]; omega
  refine PCall.of hC ok4 (by simp) rfl fun hs hb => ?_
  obtain ⟨q, hq⟩ : ∃ q, hs.nh = q := ⟨_, rfl⟩
  obtain ⟨H1, hH1⟩ : ∃ H1 : Nat → Option (List AV), (fun i => if i = q then some [AV.int IntKind.i64 0, AV.nilsl] else hs.heap i) = H1 := ⟨_, rfl⟩
  have g1 : H1 q = some [.int .i64 0, .nilsl] := by rw [← hH1]; simp
  have s1 := Ik.st2 (a := .int .i64 (K : Int)) (b := z) g1 rfl hzl
  simp only [A4, R4]
  rw [At.awp_seq]
  simp [hxs, hys, -At.awp_seq]
  rw [At.awp_seq]
  simp [k13, hq, hH1, s1, -At.awp_seq]
  rw [At.awp_seq]
  simp [-At.awp_seq]
  rw [At.awp_seq]
  simp [-At.awp_seq]
  rw [At.awp_seq]
  refine At.cut (fun s => s.env 7 = .ref q 0 ∧ s.env 9 = .nilsl ∧ s.env 10 = .str (bs []) ∧ Outs 1 s.hs (s.env 8) (ints (rtK bl M.length n)) ∧ s.hs.heap q = some [.int .i64 (K : Int), z]) ?_ ?_
  · rw [At.awp_seq]
    simp [-At.awp_seq]
    refine At.loop (fun (i : Nat) s => i ≤ n ∧ s.env 2 = y ∧ s.env 7 = .ref q 0 ∧ s.env 9 = .nilsl ∧ s.env 10 = .str (bs []) ∧ s.env 11 = .int .i64 (i : Int) ∧ Outs 1 s.hs (s.env 8) (ints (rtK bl M.length i)) ∧ s.hs.heap q = some [.int .i64 (K : Int), z]) (fun i => n - i) 0 ?_ ?_
    · simp [rtK]
      exact Outs.nil
    rintro N i s hN ⟨hi, e2, e7, e9, e10, e11, ho, hh⟩
    have ld : aload s.hs.heap false 1 (.ref q 1) = some z := ldc hh rfl
    by_cases hin : i < n
    · have hl : i < bl.length := by omega
      have hl' : (i : Int) < (bl.length : Int) := by omega
      have h3 : i < 3 := by omega
      have h3' : (i : Int) < 3 := by omega
      have wi := wrap_nat1 (show i < _ by omega)
      have hix := hy.get hl
      have hbd := hy.2 (gI bl i) (by rw [gI_of hl]; exact List.getElem_mem _)
      obtain ⟨v, hv⟩ : ∃ v : Nat, gI bl i = (v : Int) := ⟨(gI bl i).toNat, by omega⟩
      rw [hv] at hix hbd
      obtain ⟨m, hm⟩ : ∃ m, m = v % M.length := ⟨_, rfl⟩
      have tm : (v : Int).tmod (M.length : Int) = (m : Int) := by rw [Int.tmod_eq_emod_of_nonneg (by omega), hm]; exact (Int.natCast_emod v M.length).symm
      have wv : IntKind.i64.wrap (v : Int) = (v : Int) := wrap64 (by omega) (by omega)
      have hrs := rtK_succ bl M.length i
      rw [hv, Int.toNat_natCast, ← hm] at hrs
      have as1 : astoAll 1 [.int .i64 (m : Int)] = true := rfl
      have hrl := rtK_len bl M.length i
      obtain ⟨o, hoe⟩ : ∃ o, s.env 8 = o := ⟨_, rfl⟩
      rw [hoe] at ho
      obtain ⟨o2, hs2, a1, a2, a3⟩ := ho.add1 (by omega) (m : Int)
      rw [← hrs] at a2
      simp [e2, e7, e11, hoe, hyl, hl, hl', h3, h3', hix, wv, afaddr, ld, hzn, hM0, hM0', tm, as1, a1, wi]
      exact hN (i + 1) _ (by omega) ⟨by omega, by simp [e2], by simp [e7], by simp [e9], by simp [e10], by simp, by simpa using a2, by simpa [a3.heap] using hh⟩
    · have hie : i = n := by omega
      rw [hie] at ho
      by_cases hl : i < bl.length
      · have hl' : (i : Int) < (bl.length : Int) := by omega
        have h3 : ¬ i < 3 := by omega
        have h3' : ¬ (i : Int) < 3 := by omega
        simp [e2, e7, e9, e10, e11, hyl, hl, hl', h3, h3']
        exact ⟨ho, hh⟩
      · have hl' : ¬ (i : Int) < (bl.length : Int) := by omega
        simp [e2, e7, e9, e10, e11, hyl, hl, hl']
        exact ⟨ho, hh⟩
  · rintro s ⟨e7, e9, e10, ho, hh⟩
    rw [At.awp_seq]
    refine At.cut (fun s => s.env 7 = .ref q 0 ∧ s.env 9 = .nilsl ∧ s.env 10 = .str (bs []) ∧ asI (s.env 8) = some w ∧ s.hs.heap q = some [.int .i64 (K : Int), z]) ?_ ?_
    · have hol := outs_len ho
      rw [ints_len, rtK_len] at hol
      have hoi := ho.asI (by rw [rtK_len]; omega)
      by_cases h0 : n = 0
      · have as1 : astoAll 1 [AV.int .i64 0] = true := rfl
        rw [h0] at hol
        simp [hol, as1, e7, e9, e10]
        refine ⟨?_, hh⟩
        rw [hw, if_pos h0]
        rfl
      · have h0' : ¬ (n : Int) = 0 := by omega
        simp [hol, h0, h0', e7, e9, e10]
        refine ⟨?_, hh⟩
        rw [hw, if_neg h0]
        exact hoi
    rintro s ⟨e7, e9, e10, e8, hh⟩
    rw [At.awp_seq]
    simp [-At.awp_seq]
    rw [At.awp_seq]
    refine At.cut (fun s => s.env 7 = .ref q 0 ∧ s.env 12 = .int .i64 (cn M w 4 : Int) ∧ s.hs.heap q = some [.int .i64 (K : Int), z]) ?_ ?_
    rotate_left
    · rintro s ⟨e7, e12, hh⟩
      have lda := Ik.ld2 hh
      have hce := cn_ever hwb hE1 hE2 4
      have hEl : (lsN E).length ≤ 7 := lsK_len E 7
      have hoi := asI_outV (l := lsN E) (by omega)
      have hol := alen_of hoi
      generalize (lsN E).length = eL at *
      generalize outV 1 (ints (lsN E)) = eO at *
      generalize cn M w 4 = c4 at *
      have hce' : (c4 : Int) ≤ (eL : Int) := by omega
      simp [e7, e12, lda, k15, hol, hce, hce', k9]
    rw [At.awp_seq]
    simp [-At.awp_seq]
    refine At.loop (fun (j : Nat) s => j ≤ 4 ∧ s.env 7 = .ref q 0 ∧ asI (s.env 8) = some w ∧ Outs 1 s.hs (s.env 9) (ints (rp w j)) ∧ s.env 10 = .str (bs (sw w j)) ∧ s.env 12 = .int .i64 (cn M w j : Int) ∧ s.env 13 = .bool (stl M w j) ∧ s.env 14 = .int .i64 ((j + 1 : Nat) : Int) ∧ s.hs.heap q = some [.int .i64 (K : Int), z]) (fun j => 4 - j) 0 ?_ ?_
    · simp [e7, e8, e9, e10, hh, cn_zero, stl, sw, rp]
      exact Outs.nil
    rintro N j s hN ⟨hj, e7, e8, e9, e10, e12, e13, e14, hh⟩
    by_cases hj4 : j < 4
    rotate_left
    · have hj5 : j = 4 := by omega
      have hk : ¬ j + 1 ≤ 4 := by omega
      have hk' : ¬ ((j + 1 : Nat) : Int) ≤ 4 := by omega
      rw [hj5] at e12
      obtain ⟨kk, hkk⟩ : ∃ kk, kk = j + 1 := ⟨_, rfl⟩
      rw [← hkk] at e14 hk hk'
      simp [e7, e12, e14, hk, hk']
      exact hh
    obtain ⟨k, hkk⟩ : ∃ k, k = j + 1 := ⟨_, rfl⟩
    rw [← hkk] at e14
    have hk4 : k ≤ 4 := by omega
    have hk4' : (k : Int) ≤ 4 := by omega
    have wk := wrap_nat1 (show k < _ by omega)
    have hkw : k * w.length ≤ 12 := Nat.mul_le_mul (show k ≤ 4 from hk4) hw1.2
    obtain ⟨o8, h8⟩ : ∃ o, s.env 8 = o := ⟨_, rfl⟩
    rw [h8] at e8
    have h8l := alen_of e8
    rw [At.awp_seq, At.awp_seq]
    simp [e14, hk4, hk4', -At.awp_seq]
    rw [At.awp_seq]
    refine At.cut (fun s => s.env 7 = .ref q 0 ∧ s.env 8 = o8 ∧ Outs 1 s.hs (s.env 9) (ints (rp w k)) ∧ s.env 10 = .str (bs (sw w k)) ∧ s.env 12 = .int .i64 (cn M w k : Int) ∧ s.env 13 = .bool (stl M w k) ∧ s.env 14 = .int .i64 (k : Int) ∧ s.hs.heap q = some [.int .i64 (K : Int), z]) ?_ ?_
    rotate_left
    · rintro s ⟨e7, e8', e9, e10, e12, e13, e14, hh⟩
      simp [e14, wk]
      rw [hkk] at e9 e10 e12 e13
      exact hN (j + 1) _ (by omega) ⟨by omega, by simp [e7], by simp [e8', e8], by simpa using e9, by simp [e10], by simp [e12], by simp [e13], by simp [hkk], hh⟩
    rw [At.awp_block, At.awp_seq]
    refine At.cut (fun s => s.env 7 = .ref q 0 ∧ s.env 8 = o8 ∧ Outs 1 s.hs (s.env 9) (ints (rp w k)) ∧ s.env 10 = .str (bs (sw w k)) ∧ s.env 12 = .int .i64 (cn M w j : Int) ∧ s.env 13 = .bool (stl M w j) ∧ s.env 14 = .int .i64 (k : Int) ∧ s.hs.heap q = some [.int .i64 (K : Int), z]) ?_ ?_
    · rw [At.awp_seq]
      simp [h8, h8l, -At.awp_seq]
      refine At.loop (fun (t : Nat) s => t ≤ w.length ∧ s.env 7 = .ref q 0 ∧ s.env 8 = o8 ∧ Outs 1 s.hs (s.env 9) (ints (rp w j ++ w.take t)) ∧ s.env 10 = .str (bs (sw w j ++ (w.take t).map lt4)) ∧ s.env 12 = .int .i64 (cn M w j : Int) ∧ s.env 13 = .bool (stl M w j) ∧ s.env 14 = .int .i64 (k : Int) ∧ s.env 57 = o8 ∧ s.env 58 = .int .i64 (w.length : Int) ∧ s.env 59 = .int .i64 (t : Int) ∧ s.hs.heap q = some [.int .i64 (K : Int), z]) (fun t => w.length - t) 0 ?_ ?_
      · simp [e7, h8, e10, e12, e13, e14, hh]
        exact e9
      rintro N2 t s hN2 ⟨ht, e7, e8', e9, e10, e12, e13, e14, e57, e58, e59, hh⟩
      by_cases htl : t < w.length
      · have htl' : (t : Int) < (w.length : Int) := by omega
        have wt := wrap_nat1 (show t < _ by omega)
        have hix := aidx_nat e8 (k := .i64) htl
        have hbd := hwb w[t] (List.getElem_mem htl)
        have htk : w.take (t + 1) = w.take t ++ [w[t]] := take_snoc htl
        obtain ⟨v, hv⟩ : ∃ v : Nat, w[t] = (v : Int) := ⟨(w[t]).toNat, by omega⟩
        rw [hv] at hix hbd htk
        have m1 : ∀ h : HS, amem (.ssl true false) h [.str (bs [97, 98, 99, 100]), .int .i64 (v : Int)] = some (.str (bs (([97, 98, 99, 100] : List UInt8).drop v)), h) := fun h => ssl_l (by simp; omega)
        have m2 : ∀ h : HS, amem (.ssl false true) h [.str (bs (([97, 98, 99, 100] : List UInt8).drop v)), .int .i64 1] = some (.str (bs [lt4 (v : Int)]), h) := fun h => by
          have := ssl_h (hs := h) (l := ([97, 98, 99, 100] : List UInt8).drop v) (k := .i64) (i := 1) (by simp; omega)
          rw [d1 (by simp; omega)] at this
          have e : ([97, 98, 99, 100] : List UInt8).getD v 0 = lt4 (v : Int) := by
            have : v = 0 ∨ v = 1 ∨ v = 2 ∨ v = 3 := by omega
            rcases this with h | h | h | h <;> rw [h] <;> decide
          rw [e] at this
          exact this
        have hs1 : (sw w j ++ (w.take t).map lt4).length ≤ 20 := by
          rw [List.length_append, sw_len, List.length_map, List.length_take]
          have := Nat.mul_le_mul (show j ≤ 3 by omega) hw1.2
          omega
        have ad : abin 0 .add (.str (bs (sw w j ++ (w.take t).map lt4))) (.str (bs [lt4 (v : Int)])) = some (.str (bs (sw w j ++ (w.take (t + 1)).map lt4))) := by
          rw [htk, List.map_append, ← List.append_assoc]
          exact abin_sadd (by simp only [List.length_cons, List.length_nil]; omega)
        have as1 : astoAll 1 [.int .i64 (v : Int)] = true := rfl
        obtain ⟨o, hoe⟩ : ∃ o, s.env 9 = o := ⟨_, rfl⟩
        rw [hoe] at e9
        have hl1 : (rp w j ++ w.take t).length ≤ 20 := by
          rw [List.length_append, rp_len, List.length_take]
          have := Nat.mul_le_mul (show j ≤ 3 by omega) hw1.2
          omega
        obtain ⟨o2, hs2, a1, a2, a3⟩ := e9.add1 (by omega) (v : Int)
        rw [List.append_assoc, ← htk] at a2
        generalize lt4 (v : Int) = L0 at *
        generalize hS1 : sw w j ++ (w.take t).map lt4 = S1 at *
        generalize hS2 : sw w j ++ (w.take (t + 1)).map lt4 = S2 at *
        simp [e7, e10, e57, e58, e59, hoe, htl, htl', hix, as1, a1, m1, m2, ad, wt]
        exact hN2 (t + 1) _ (by omega) ⟨by omega, by simp [e7], by simp [e8'], by simpa using a2, by simp [← hS2, List.map_take], by simp [e12], by simp [e13], by simp [e14], by simp [e57], by simp [e58], by simp, by simpa [a3.heap] using hh⟩
      · have htl' : ¬ (t : Int) < (w.length : Int) := by omega
        have hte : t = w.length := by omega
        rw [hte, List.take_length] at e9 e10
        have h1 : sw w j ++ w.map lt4 = sw w k := by rw [hkk]; simp [sw, rp_succ]
        rw [← rp_succ, ← hkk] at e9
        rw [h1] at e10
        simp [e7, e8', e10, e12, e13, e14, e58, e59, htl, htl']
        exact ⟨e9, hh⟩
    · rintro s ⟨e7, e8', e9, e10, e12, e13, e14, hh⟩
      have lda := Ik.ld2 hh
      have ldK : aload s.hs.heap false 1 (.ref q 0) = some (.int .i64 (K : Int)) := ldc hh rfl
      have hrl := rp_len w k
      have hoi := e9.asI (by omega)
      obtain ⟨o, hoe⟩ : ∃ o, s.env 9 = o := ⟨_, rfl⟩
      rw [hoe] at hoi e9
      have h14 := k14 o (rp w k) hoi (fun a ha => hwb a (rp_mem ha)) (by omega)
      have hcn : (lsN (gvL M (rp w k) 1)).length = cn M w k := rfl
      have hll := lsK_len (gvL M (rp w k) 1) 7
      have hli := asI_outV (l := lsN (gvL M (rp w k) 1)) (by unfold lsN; omega)
      have hlo := alen_of hli
      rw [hcn] at hlo
      generalize outV 1 (ints (lsN (gvL M (rp w k) 1))) = lO at *
      have hk1 : 1 ≤ k := by omega
      have h11 := k11 (sw w k) (sw_isB hk1 hw1.1 hkw fun a ha => by have := hwb a ha; omega)
      obtain ⟨bb, ex, hra, hex1, hex2⟩ := sw_root hk1 hw1.1 hkw
      rw [hra] at h11
      have hmono := cn_mono M w j
      have hstl := cn_stl g hwb j
      have hle := cn_le g hwb k
      have hst2 : stl M w k = (stl M w j || decide (cn M w k = cn M w j)) := by rw [hkk]; rfl
      rw [← hkk] at hmono hstl
      generalize sw w k = S at *
      generalize stl M w k = st2v at *
      generalize stl M w j = stj at *
      generalize cn M w k = c2 at *
      generalize cn M w j = c1 at *
      have q1 : ¬ (c2 : Int) < (c1 : Int) := by omega
      have q1' : ¬ c2 < c1 := by omega
      have q2 : ¬ (K : Int) < (c2 : Int) := by omega
      have q2' : ¬ K < c2 := by omega
      have q3 : ¬ (k : Int) = 0 := by omega
      have q3' : ¬ k = 0 := by omega
      have q4 : (ex : Int).tmod (k : Int) = 0 := by
        rw [Int.tmod_eq_emod_of_nonneg (by omega)]
        have := (Int.natCast_emod ex k).symm
        rw [this, hex1]; rfl
      have q5 : ¬ (ex : Int) < 1 := by omega
      have q5' : ¬ ex < 1 := by omega
      have q5'' : ¬ ex = 0 := by omega
      rw [At.awp_seq]
      simp [e7, hoe, lda, h14, -At.awp_seq]
      rw [At.awp_seq, At.awp_seq]
      cases stj with
      | true =>
        have hcc := hstl rfl
        subst hcc
        simp at hst2
        subst hst2
        simp [e7, e12, e13, hlo, afaddr, ldK, q1, q1', q2, q2', -At.awp_seq]
        simp [e7, e8', e10, e12, e13, e14, hoe, hlo, h11, q3, q3', q4, q5, q5', q5'']
        exact ⟨e9, hh⟩
      | false =>
        simp only [Bool.false_or] at hst2
        subst hst2
        simp [e7, e12, e13, hlo, afaddr, ldK, q1, q1', q2, q2', -At.awp_seq]
        simp [e7, e8', e10, e12, e13, e14, hoe, hlo, h11, q3, q3', q4, q5, q5', q5'']
        exact ⟨e9, by omega, hh⟩
end Go.Proofs.YtdcpkgedaflnmaaGreatDoor.Ik
set_option linter.unusedVariables false
set_option linter.unusedSimpArgs false
namespace Go.Proofs.YtdcpkgedaflnmaaGreatDoor
open Go Fw

theorem ar6 {x : AV} (h : ShV (.ar 6 (.int .u8)) x) : ∃ l : List Int, l.length = 6 ∧ (∀ a ∈ l, 0 ≤ a ∧ a ≤ 255) ∧ x = .agg (l.map (AV.int .u8)) := by
  obtain ⟨cs, rfl, hs⟩ := shv_agg (T := .ar 6 (.int .u8)) rfl h
  obtain ⟨ls, rfl, h2, h3⟩ : ∃ ls : List (List AV), cs = ls.flatten ∧ ls.length = 6 ∧ ∀ l ∈ ls, Sh (.int .u8) l := hs
  have : ∀ ls : List (List AV), (∀ l ∈ ls, Sh (.int .u8) l) → ∃ l : List Int, l.length = ls.length ∧ (∀ a ∈ l, 0 ≤ a ∧ a ≤ 255) ∧ ls.flatten = l.map (AV.int .u8) := by
    intro ls
    induction ls with
    | nil => intro _; exact ⟨[], rfl, fun a h => by simp at h, rfl⟩
    | cons p ls ih =>
      intro hp
      obtain ⟨l, g1, g2, g3⟩ := ih fun l hl => hp l (by simp [hl])
      obtain ⟨n, rfl, hn⟩ := sh_int (hp p (by simp))
      have hb := u8_bd hn
      exact ⟨n :: l, by simp [g1], fun a ha => by
        rcases List.mem_cons.1 ha with rfl | ha
        · exact hb
        · exact g2 a ha, by simp [g3]⟩
  obtain ⟨l, g1, g2, g3⟩ := this ls h3
  exact ⟨l, by rw [g1, h2], g2, by rw [g3]⟩
theorem i6_of {x : AV} (h : ShV (.sl (.ar 6 (.int .u8))) x) : ∃ D, Ik.I6 x D := by
  rcases shv_sl h with rfl | ⟨xs, rfl, h1, h2⟩
  · exact ⟨[], .inl ⟨rfl, rfl⟩, fun l h => by simp at h⟩
  · have : ∀ xs : List AV, (∀ y ∈ xs, ShV (.ar 6 (.int .u8)) y) → ∃ D : List (List Int), xs = D.map (fun l => .agg (l.map (AV.int .u8))) ∧ ∀ l ∈ D, l.length = 6 ∧ ∀ a ∈ l, 0 ≤ a ∧ a ≤ 255 := by
      intro xs
      induction xs with
      | nil => intro _; exact ⟨[], rfl, fun l h => by simp at h⟩
      | cons p xs ih =>
        intro hp
        obtain ⟨D, g1, g2⟩ := ih fun y hy => hp y (by simp [hy])
        obtain ⟨l, k1, k2, k3⟩ := ar6 (hp p (by simp))
        exact ⟨l :: D, by rw [k3, g1]; rfl, fun a ha => by
          rcases List.mem_cons.1 ha with rfl | ha
          · exact ⟨k1, k2⟩
          · exact g2 a ha⟩
    obtain ⟨D, rfl, hD⟩ := this xs h2
    exact ⟨D, .inr rfl, hD⟩
theorem inked_typed (xs : List AV) (h : Typed [.int .u8, .sl (.ar 6 (.int .u8)), .sl (.int .u8)] xs) : PCall Tryz.prog 4 xs (.bool true) := by
  obtain ⟨a, b, c, rfl, ha, hb, hc⟩ := h.three
  obtain ⟨ca, hca, rfl⟩ := Se.u8_nat ha
  obtain ⟨D, hD⟩ := i6_of hb
  obtain ⟨bl, hbl⟩ := Se.IsU8.of hc
  exact Ik.p4 hD hbl hca
end Go.Proofs.YtdcpkgedaflnmaaGreatDoor
