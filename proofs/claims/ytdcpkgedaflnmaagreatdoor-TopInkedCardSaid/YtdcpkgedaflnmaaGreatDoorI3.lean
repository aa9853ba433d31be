/-
  A palette by numbers. Own work.
  A palette by numbers: the walk. Own work.
  A sequence again and again: colours, and its border. Own work.
-/
import Derived.Test.YtdcpkgedaflnmaaGreatDoorI2
import Derived.Test.YtdcpkgedaflnmaaGreatDoorFx3
import Derived.Test.YtdcpkgedaflnmaaGreatDoorFx5
import Derived.Test.YtdcpkgedaflnmaaGreatDoorR3
set_option linter.unusedVariables false
set_option linter.unusedSimpArgs false
namespace Go.Proofs.YtdcpkgedaflnmaaGreatDoor.Ik
open Go Fw Se

/-- rows of six bytes -/
structure I6 (x : AV) (D : List (List Int)) : Prop where
  form : x = .nilsl ∧ D = [] ∨ x = .sl 6 (D.map fun l => .agg (l.map (AV.int .u8))) .shared
  ok : ∀ l ∈ D, l.length = 6 ∧ ∀ a ∈ l, 0 ≤ a ∧ a ≤ 255
theorem I6.sto {x : AV} {D : List (List Int)} (h : I6 x D) : x.sto = true := by rcases h.form with ⟨rfl, _⟩ | rfl <;> rfl
theorem I6.len {x : AV} {D : List (List Int)} (h : I6 x D) : alenK false x = some (.int .i64 D.length) := by
  rcases h.form with ⟨rfl, rfl⟩ | rfl
  · rfl
  · simp [alenK]
theorem I6.get {x : AV} {D : List (List Int)} (h : I6 x D) {i : Nat} (hi : i < D.length) : aidxS 6 x (.int .i64 (i : Int)) = some (.ptr (.agg ((D[i]).map (AV.int .u8)))) := by
  rcases h.form with ⟨rfl, rfl⟩ | rfl
  · simp at hi
  · simp [aidxS, hi]
theorem ia6 {l : List Int} (hl : l.length = 6) {c : Nat} (hc : c < 6) : aidxA 6 false 1 (.ptr (.agg (l.map (AV.int .u8)))) (.int .i64 (c : Int)) = some (.ptr (.int .u8 (gI l c))) := by
  have h1 : (AV.agg (l.map (AV.int .u8))).cells = l.map (AV.int .u8) := rfl
  have hc' : c < l.length := by omega
  have hcl : (c : Int) < 6 := by omega
  simp [aidxA, hcl, afaddr, h1, apart, gI_of hc', hc']
/-- a row of the palette -/
def rowP (K : Nat) (l : List Int) : List Int := (List.range K).map fun c => (((gI l c).toNat % K : Nat) : Int)
theorem rowP_len (K : Nat) (l : List Int) : (rowP K l).length = K := by simp [rowP]
theorem rowP_get {K : Nat} {l : List Int} {c : Nat} (h : c < (rowP K l).length) : (rowP K l)[c] = (((gI l c).toNat % K : Nat) : Int) := by simp [rowP]
theorem rowP_ink {K : Nat} (h : 1 ≤ K) (l : List Int) : InkK K (rowP K l) := ⟨rowP_len K l, fun a ha => by
  obtain ⟨c, _, rfl⟩ := List.mem_map.1 ha
  have := Nat.mod_lt (gI l c).toNat (show 0 < K by omega)
  omega⟩
def matP (K : Nat) (D : List (List Int)) (n : Nat) : List (List Int) := (List.range n).map fun i => rowP K (D.getD i [])
theorem matP_len (K : Nat) (D : List (List Int)) (n : Nat) : (matP K D n).length = n := by simp [matP]
theorem matP_succ (K : Nat) (D : List (List Int)) (n : Nat) : matP K D (n + 1) = matP K D n ++ [rowP K (D.getD n [])] := by simp [matP, List.range_succ]
/-- the inks of the palette -/
def inksP (K : Nat) (D : List (List Int)) : List (List Int) := if D.length = 0 then [List.replicate K 0] else matP K D (min D.length 4)
def inksA (K : Nat) (D : List (List Int)) : AV := if D.length = 0 then .sl 1 [.sl 1 (ints (List.replicate K 0)) .exact] .exact else .sl 1 ((matP K D (min D.length 4)).map shR) .shared
theorem inks_pal {K : Nat} (h2 : 2 ≤ K) (h7 : K ≤ 7) (D : List (List Int)) : PalK K (inksP K D) ∧ (inksP K D).length ≤ 4 := by
  unfold inksP
  split
  · refine ⟨⟨h2, h7, by simp, by simp, fun i hi => ?_⟩, by simp⟩
    have : i = 0 := by simp at hi; omega
    subst this
    exact ⟨by simp, fun a ha => by rw [List.getElem_cons_zero] at ha; rw [(List.mem_replicate.1 ha).2]; omega⟩
  · refine ⟨⟨h2, h7, by rw [matP_len]; omega, by rw [matP_len]; omega, fun i hi => ?_⟩, by rw [matP_len]; omega⟩
    have : (matP K D (min D.length 4))[i] = rowP K (D.getD i []) := by simp [matP]
    rw [this]
    exact rowP_ink (by omega) _
theorem mapM_sh : ∀ {M : List (List Int)}, (∀ r ∈ M, r.length ≤ 1000) → (M.map shR).mapM rowI = some M
  | [], _ => rfl
  | r :: M, h => by
    have h1 : rowI (shR r) = some r := rowI_of (asI_sl (by have := h r (by simp); omega))
    rw [List.map_cons, List.mapM_cons, h1, mapM_sh (fun r hr => h r (by simp [hr]))]
    rfl
theorem inks_as {K : Nat} (h7 : K ≤ 7) (D : List (List Int)) : asM (inksA K D) = some (inksP K D) := by
  unfold inksA inksP
  split
  · have h1 : rowI (.sl 1 (ints (List.replicate K 0)) .exact) = some (List.replicate K 0) := rowI_of (asI_sl (by simp; omega))
    show (if [AV.sl 1 (ints (List.replicate K 0)) .exact].length < 4294967296 then [AV.sl 1 (ints (List.replicate K 0)) .exact].mapM rowI else none) = _
    rw [if_pos (by simp), List.mapM_cons, h1]
    rfl
  · show (if ((matP K D (min D.length 4)).map shR).length < 4294967296 then ((matP K D (min D.length 4)).map shR).mapM rowI else none) = _
    rw [if_pos (by simp [matP_len]; omega), mapM_sh]
    intro r hr
    obtain ⟨i, _, rfl⟩ := List.mem_map.1 hr
    rw [rowP_len]; omega
theorem shR_plain (M : List (List Int)) : (AV.sl 1 (M.map shR) .shared).plain = true := madV_plain M
theorem inksA_plain (K : Nat) (D : List (List Int)) : (palA K (inksA K D)).plain = true := by
  have : (inksA K D).plain = true := by
    unfold inksA
    split
    · have := plain_ints (List.replicate K 0)
      exact madV_plain [List.replicate K 0]
    · exact shR_plain _
  simp [AV.plain, plainL, this]
end Go.Proofs.YtdcpkgedaflnmaaGreatDoor.Ik
set_option linter.unusedVariables false
set_option linter.unusedSimpArgs false
namespace Go.Proofs.YtdcpkgedaflnmaaGreatDoor.Ik
open Go Fw Se

theorem st2 {hp : Nat → Option (List AV)} {i : Nat} {u v a b : AV} (h : hp i = some [u, v]) (ha : a.leaf = true) (hb : b.leaf = true) : astore hp 2 (.ref i 0) (.agg [a, b]) = some (fun k => if k = i then some [a, b] else hp k) := by
  have h1 : (AV.agg [a, b]).sto = true := by cases a <;> cases b <;> first | rfl | (simp [AV.leaf] at ha) | (simp [AV.leaf] at hb)
  exact sto_agg h h1 rfl rfl rfl
theorem ld2 {hp : Nat → Option (List AV)} {i : Nat} {u v : AV} (h : hp i = some [u, v]) : aload hp true 2 (.ref i 0) = some (.agg [u, v]) := ld_agg h rfl
theorem outs_len {hs : HS} {y : AV} {l : List AV} (h : Outs 1 hs y l) : alenK false y = some (.int .i64 l.length) := by
  rcases h.inv with ⟨rfl, rfl⟩ | ⟨xs, k, rfl, _, h2, _⟩
  · rfl
  · have := congrArg List.length h2
    rw [List.length_map] at this
    simp [alenK, this]
theorem outs_leaf {hs : HS} {y : AV} {l : List AV} (h : Outs 1 hs y l) : y.leaf = true := by
  rcases h.inv with ⟨rfl, rfl⟩ | ⟨xs, k, rfl, _⟩ <;> rfl
set_option maxHeartbeats 2000000 in
theorem p13 {x : AV} {D : List (List Int)} (hx : I6 x D) {ca : Nat} (hc : ca < 256) : PCall Tryz.prog 13 [.int .u8 (ca : Int), x] (palA (2 + ca % 4) (inksA (2 + ca % 4) D)) := by
  have hxs := hx.sto
  have hal := hx.len
  obtain ⟨K, hK⟩ : ∃ K, K = 2 + ca % 4 := ⟨_, rfl⟩
  have hK5 : K ≤ 5 := by omega
  have hK2 : 2 ≤ K := by omega
  obtain ⟨r4, hr4⟩ : ∃ r4, r4 = ca % 4 := ⟨_, rfl⟩
  have t1 : (ca : Int).tmod 4 = (r4 : Int) := by rw [Int.tmod_eq_emod_of_nonneg (by omega), hr4]; exact (Int.natCast_emod ca 4).symm
  have w1 : IntKind.i64.wrap (2 + (r4 : Int)) = (K : Int) := by rw [show (2 : Int) + (r4 : Int) = (K : Int) by omega]; exact wrap64 (by omega) (by omega)
  have w2 : IntKind.i64.wrap (ca : Int) = (ca : Int) := wrap64 (by omega) (by omega)
  have hK0 : ¬ (K : Int) = 0 := by omega
  have hK0' : ¬ K = 0 := by omega
  rw [← hK]
  refine PCall.ofZ CtxOk.nil ok13 (by simp) (inksA_plain K D) fun hs hb => ?_
  have fl : afill [.int .i64 0, .nilsl] [(0, 1, .int .i64 (K : Int))] = some [.int .i64 (K : Int), .nilsl] := rfl
  obtain ⟨H1, hH1⟩ : ∃ H1 : Nat → Option (List AV), (fun i => if i = hs.nh + 1 then some [AV.int IntKind.i64 0, AV.nilsl] else if i = hs.nh then some [AV.int IntKind.i64 0, AV.nilsl] else hs.heap i) = H1 := ⟨_, rfl⟩
  have g5 : H1 (hs.nh + 1) = some [.int .i64 0, .nilsl] := by rw [← hH1]; simp
  have g4 : H1 hs.nh = some [.int .i64 0, .nilsl] := by rw [← hH1]; simp
  have s1 := st2 (a := .int .i64 (K : Int)) (b := .nilsl) g5 rfl rfl
  obtain ⟨n, hn⟩ : ∃ n, n = min D.length 4 := ⟨_, rfl⟩
  obtain ⟨q, hq⟩ : ∃ q, hs.nh = q := ⟨_, rfl⟩
  rw [hq] at hH1 g5 g4 s1
  simp only [A13, R13]
  rw [At.awp_seq]
  simp [hxs, -At.awp_seq]
  rw [hq, At.awp_seq]
  simp [hxs, w2, t1, w1, fl, hq, hH1, s1, -At.awp_seq]
  rw [At.awp_seq]
  refine At.cut (fun s => s.env 4 = .ref q 0 ∧ s.env 5 = .ref (q + 1) 0 ∧ q + 1 < s.hs.nh ∧ s.hs.heap q = some [.int .i64 0, .nilsl] ∧ ∃ y, s.hs.heap (q + 1) = some [.int .i64 (K : Int), y] ∧ Outs 1 s.hs y ((matP K D n).map shR)) ?_ ?_
  · rw [At.awp_seq]
    simp [-At.awp_seq]
    refine At.loop (fun (i : Nat) s => i ≤ n ∧ s.env 1 = x ∧ s.env 4 = .ref q 0 ∧ s.env 5 = .ref (q + 1) 0 ∧ s.env 6 = .int .i64 (i : Int) ∧ q + 1 < s.hs.nh ∧ s.hs.heap q = some [.int .i64 0, .nilsl] ∧ ∃ y, s.hs.heap (q + 1) = some [.int .i64 (K : Int), y] ∧ Outs 1 s.hs y ((matP K D i).map shR)) (fun i => n - i) 0 ?_ ?_
    · simp [g4, matP]
      exact Outs.nil
    rintro N i s hN ⟨hi, e1, e4, e5, e6, hnh, hq4, y, hq5, ho⟩
    by_cases hin : i < n
    · have hl : i < D.length := by omega
      have hl' : (i : Int) < (D.length : Int) := by omega
      have h4 : i < 4 := by omega
      have h4' : (i : Int) < 4 := by omega
      have wi := wrap_nat1 (show i < _ by omega)
      have hix := hx.get hl
      obtain ⟨hl6, hbd⟩ := hx.ok D[i] (List.getElem_mem hl)
      have hmi := matP_succ K D i
      have hgd : D.getD i [] = D[i] := by simp [hl]
      rw [hgd] at hmi
      generalize D[i] = l at *
      have hrl := rowP_len K l
      rw [At.awp_seq, At.awp_seq]
      simp [e1, e6, hal, hl, hl', h4, h4', -At.awp_seq]
      rw [At.awp_seq]
      refine At.cut (fun s => s.env 1 = x ∧ s.env 4 = .ref q 0 ∧ s.env 5 = .ref (q + 1) 0 ∧ s.env 6 = .int .i64 (i : Int) ∧ q + 1 < s.hs.nh ∧ s.hs.heap q = some [.int .i64 0, .nilsl] ∧ ∃ y, s.hs.heap (q + 1) = some [.int .i64 (K : Int), y] ∧ Outs 1 s.hs y ((matP K D (i + 1)).map shR)) ?_ ?_
      rotate_left
      · rintro s ⟨e1, e4, e5, e6, hnh, hq4, hy⟩
        simp [e6, wi]
        exact hN (i + 1) _ (by omega) ⟨by omega, by simp [e1], by simp [e4], by simp [e5], by simp, hnh, hq4, hy⟩
      rw [At.awp_block, At.awp_seq]
      simp [-At.awp_seq]
      rw [At.awp_seq]
      refine At.cut (fun s => s.env 1 = x ∧ s.env 4 = .ref q 0 ∧ s.env 5 = .ref (q + 1) 0 ∧ s.env 6 = .int .i64 (i : Int) ∧ q + 1 < s.hs.nh ∧ s.hs.heap q = some [.int .i64 0, .nilsl] ∧ s.hs.heap (q + 1) = some [.int .i64 (K : Int), y] ∧ Outs 1 s.hs y ((matP K D i).map shR) ∧ Apart (s.env 7) y ∧ Outs 1 s.hs (s.env 7) (ints (rowP K l))) ?_ ?_
      · rw [At.awp_seq]
        simp [-At.awp_seq]
        refine At.loop (fun (c : Nat) s => c ≤ K ∧ s.env 1 = x ∧ s.env 4 = .ref q 0 ∧ s.env 5 = .ref (q + 1) 0 ∧ s.env 6 = .int .i64 (i : Int) ∧ s.env 8 = .int .i64 (c : Int) ∧ q + 1 < s.hs.nh ∧ s.hs.heap q = some [.int .i64 0, .nilsl] ∧ s.hs.heap (q + 1) = some [.int .i64 (K : Int), y] ∧ Outs 1 s.hs y ((matP K D i).map shR) ∧ Apart (s.env 7) y ∧ Outs 1 s.hs (s.env 7) (ints ((rowP K l).take c))) (fun c => K - c) 0 ?_ ?_
        · simp [e1, e4, e5, e6, hnh, hq4, hq5, ho]
          exact Outs.nil
        rintro N2 c s hN2 ⟨hcK, e1, e4, e5, e6, e8, hnh, hq4, hq5, ho, hap, hro⟩
        have ldK : aload s.hs.heap false 1 (.ref (q + 1) 0) = some (.int .i64 (K : Int)) := ldc hq5 rfl
        by_cases hcl : c < K
        · have hcl' : (c : Int) < (K : Int) := by omega
          have wc := wrap_nat1 (show c < _ by omega)
          have ia := ia6 hl6 (c := c) (by omega)
          have hbc := hbd (gI l c) (by rw [gI_of (by omega)]; exact List.getElem_mem _)
          obtain ⟨v, hv⟩ : ∃ v : Nat, gI l c = (v : Int) := ⟨(gI l c).toNat, by omega⟩
          obtain ⟨m, hm⟩ : ∃ m, m = v % K := ⟨_, rfl⟩
          have tm : (v : Int).tmod (K : Int) = (m : Int) := by rw [Int.tmod_eq_emod_of_nonneg (by omega), hm]; exact (Int.natCast_emod v K).symm
          rw [hv] at ia hbc
          have wv : IntKind.i64.wrap (v : Int) = (v : Int) := wrap64 (by omega) (by omega)
          have htk : (rowP K l).take (c + 1) = (rowP K l).take c ++ [(m : Int)] := by
            rw [take_snoc (by rw [hrl]; exact hcl), rowP_get, hv, Int.toNat_natCast, ← hm]
          have as1 : astoAll 1 [.int .i64 (m : Int)] = true := rfl
          obtain ⟨z, hz⟩ : ∃ z, s.env 7 = z := ⟨_, rfl⟩
          rw [hz] at hap hro
          obtain ⟨z2, hs2, a1, a2, a3, a4⟩ := add_apart hro (by simp; omega) (m : Int)
          obtain ⟨ho2, hap2⟩ := a4 ho hap
          rw [← htk] at a2
          simp [e1, e5, e6, e8, hz, afaddr, ldK, hcl, hcl', hix, ia, wv, hK0, hK0', tm, as1, a1, wc]
          refine hN2 (c + 1) _ (by omega) ⟨by omega, by simp [e1], by simp [e4], by simp [e5], by simp [e6], by simp, ?_, ?_, ?_, ?_, ?_, ?_⟩
          · simpa [a3.nh] using hnh
          · simpa [a3.heap] using hq4
          · simpa [a3.heap] using hq5
          · simpa using ho2
          · simpa using hap2
          · simpa using a2
        · have hcl' : ¬ (c : Int) < (K : Int) := by omega
          have hcK : c = K := by omega
          rw [hcK, List.take_of_length_le (by rw [hrl]; exact Nat.le_refl _)] at hro
          simp [e1, e4, e5, e6, e8, afaddr, ldK, hcl, hcl']
          exact ⟨hnh, hq4, hq5, ho, hap, hro⟩
      · rintro s ⟨e1, e4, e5, e6, hnh, hq4, hq5, ho, hap, hro⟩
        have ld : aload s.hs.heap false 1 (.ref (q + 1) 1) = some y := ldc hq5 rfl
        obtain ⟨z, hz⟩ : ∃ z, s.env 7 = z := ⟨_, rfl⟩
        rw [hz] at hap hro
        have hzl := outs_leaf hro
        have hsh : z.share = shR (rowP K l) := by rw [hro.sh, outV_ne (by intro e; have := congrArg List.length e; rw [ints_len, hrl] at this; simp at this; omega)]; rfl
        have as1 : astoAll 1 [z] = true := by
          simp [astoAll, leaf_sto hzl, leaf_cells hzl]
        obtain ⟨y2, hs2, a1, a2, a3, _⟩ := append_apart ho (q := .sl 1 [z] .exact) (ys := [z]) (asV_sl (by simp)) (by simp [matP_len]; omega)
        have hml : (matP K D (i + 1)).map shR = (matP K D i).map shR ++ [z].map AV.share := by rw [hmi]; simp [hsh]
        rw [← hml] at a2
        have hq5' : hs2.heap (q + 1) = some [.int .i64 (K : Int), y] := by rw [a3.heap]; exact hq5
        have st := store_cell (v := y2) (o := 1) hq5' (by simp) (outs_leaf a2)
        simp only [List.set_cons_succ, List.set_cons_zero] at st
        simp [e1, e4, e5, e6, hz, afaddr, ld, as1, a1, st]
        refine ⟨by rw [a3.nh]; exact hnh, by rw [a3.heap]; exact hq4, ?_⟩
        exact a2.cong rfl rfl
    · have hie : i = n := by omega
      by_cases hl : i < D.length
      · have hl' : (i : Int) < (D.length : Int) := by omega
        have h4 : ¬ i < 4 := by omega
        have h4' : ¬ (i : Int) < 4 := by omega
        simp [e1, e4, e5, e6, hal, hl, hl', h4, h4']
        rw [hie] at ho
        exact ⟨hnh, hq4, y, hq5, ho⟩
      · have hl' : ¬ (i : Int) < (D.length : Int) := by omega
        simp [e1, e4, e5, e6, hal, hl, hl']
        rw [hie] at ho
        exact ⟨hnh, hq4, y, hq5, ho⟩
  · rintro s ⟨e4, e5, hnh, hq4, y, hq5, ho⟩
    have ld : aload s.hs.heap false 1 (.ref (q + 1) 1) = some y := ldc hq5 rfl
    have ldK : aload s.hs.heap false 1 (.ref (q + 1) 0) = some (.int .i64 (K : Int)) := ldc hq5 rfl
    have hyl := outs_len ho
    have hyf := outs_leaf ho
    rw [List.length_map, matP_len] at hyl
    by_cases h0 : D.length = 0
    · have hn0 : n = 0 := by omega
      have hy0 : y = .nilsl := by
        rcases ho.inv with ⟨h, _⟩ | ⟨_, _, _, _, _, h⟩
        · exact h
        · exact absurd (by rw [hn0]; rfl) h
      subst hy0
      have mk : amake false 1 [.int .i64 0] s.hs (.int .i64 (K : Int)) (.int .i64 (K : Int)) = some (.msl false 1 s.hs.nh 0 K true, s.hs.blk (List.replicate K (.int .i64 0))) := amake_eq (by omega)
      obtain ⟨H2, hH2⟩ : ∃ H2, s.hs.blk (List.replicate K (.int .i64 0)) = H2 := ⟨_, rfl⟩
      have b1 : H2.heap (q + 1) = some [.int .i64 (K : Int), .nilsl] := by rw [← hH2, HS.blk_old hnh]; exact hq5
      have b2 : H2.heap q = some [.int .i64 0, .nilsl] := by rw [← hH2, HS.blk_old (by omega)]; exact hq4
      have b3 : H2.heap s.hs.nh = some (List.replicate K (.int .i64 0)) := by rw [← hH2, HS.blk_new]
      rw [hH2] at mk
      have as1 : astoAll 1 [.msl false 1 s.hs.nh 0 K true] = true := rfl
      have st := store_cell (v := .sl 1 [.msl false 1 s.hs.nh 0 K true] .exact) (o := 1) b1 (by simp) rfl
      simp only [List.set_cons_succ, List.set_cons_zero] at st
      obtain ⟨H3, hH3⟩ : ∃ H3 : Nat → Option (List AV), (fun k => if k = q + 1 then some [AV.int IntKind.i64 (K : Int), AV.sl 1 [AV.msl false 1 s.hs.nh 0 K true] Cap.exact] else H2.heap k) = H3 := ⟨_, rfl⟩
      have c1 : H3 (q + 1) = some [.int .i64 (K : Int), .sl 1 [.msl false 1 s.hs.nh 0 K true] .exact] := by rw [← hH3]; simp
      have c2 : H3 q = some [.int .i64 0, .nilsl] := by rw [← hH3]; simp [b2]
      have c3 : H3 s.hs.nh = some (List.replicate K (.int .i64 0)) := by
        rw [← hH3]
        simp only
        rw [if_neg (by omega)]
        exact b3
      rw [hH3] at st
      have s4 := st2 (a := .int .i64 (K : Int)) (b := .sl 1 [.msl false 1 s.hs.nh 0 K true] .exact) c2 rfl rfl
      obtain ⟨H4, hH4⟩ : ∃ H4 : Nat → Option (List AV), (fun k => if k = q then some [AV.int IntKind.i64 (K : Int), AV.sl 1 [AV.msl false 1 s.hs.nh 0 K true] Cap.exact] else H3 k) = H4 := ⟨_, rfl⟩
      have d1 : H4 q = some [.int .i64 (K : Int), .sl 1 [.msl false 1 s.hs.nh 0 K true] .exact] := by rw [← hH4]; simp
      have d3 : H4 s.hs.nh = some (List.replicate K (.int .i64 0)) := by
        rw [← hH4]
        simp only
        rw [if_neg (by omega)]
        exact c3
      rw [hH4] at s4
      have lc := ld2 c1
      have l4 := ld2 d1
      have hIA : inksA K D = .sl 1 [.sl 1 (ints (List.replicate K 0)) .exact] .exact := if_pos h0
      simp [e4, e5, afaddr, ld, ldK, alenK, mk, as1, st, lc, s4, l4]
      rw [hIA, frzL_sls, share_sl]
      have hz : List.replicate K (AV.int .i64 0) = ints (List.replicate K 0) := by simp [ints]
      have e : frzC (frzL H4 1) (.msl false 1 s.hs.nh 0 K true) = .sl 1 (ints (List.replicate K 0)) .exact := by
        show frzL H4 1 (.msl false 1 s.hs.nh 0 K true) = _
        rw [frzL_msl d3 (mcont_full (by simp)), hz, map_frz_ints]
        rfl
      rw [List.map_cons, List.map_nil, e, List.map_cons, List.map_nil, share_sl, share_ints]
      rfl
    · have hn0 : ¬ n = 0 := by omega
      have hn0' : ¬ (n : Int) = 0 := by omega
      have lda := ld2 hq5
      have sta := st2 (a := .int .i64 (K : Int)) (b := y) hq4 rfl hyf
      obtain ⟨H4, hH4⟩ : ∃ H4 : Nat → Option (List AV), (fun k => if k = q then some [AV.int IntKind.i64 (K : Int), y] else s.hs.heap k) = H4 := ⟨_, rfl⟩
      have d1 : H4 q = some [.int .i64 (K : Int), y] := by rw [← hH4]; simp
      rw [hH4] at sta
      have l4 := ld2 d1
      have hIA : inksA K D = .sl 1 ((matP K D (min D.length 4)).map shR) .shared := if_neg h0
      simp [e4, e5, afaddr, ld, hyl, hn0, hn0', lda, sta, l4]
      rw [hIA, ← hn]
      rcases ho.inv with ⟨_, h2⟩ | ⟨xs, k', rfl, _, h2, _⟩
      · have := congrArg List.length h2
        rw [List.length_map, matP_len] at this
        exact absurd this hn0
      · rw [frzL_sls]
        have e : xs.map (frzC (frzL H4 1)) = xs := by
          refine (List.map_congr_left fun z hz => ?_).trans (List.map_id xs)
          have hzm : z.share ∈ (matP K D n).map shR := by rw [← h2]; exact List.mem_map.2 ⟨z, hz, rfl⟩
          obtain ⟨r, _, hr⟩ := List.mem_map.1 hzm
          have : ∃ c, z = .sl 1 (ints r) c := by
            cases z <;> simp [AV.share, shR] at hr
            rename_i sz zs c
            obtain ⟨rfl, hr2, _⟩ := hr
            rw [shareL_map] at hr2
            exact ⟨c, by rw [share_ints_inv hr2.symm]⟩
          obtain ⟨c, rfl⟩ := this
          exact frzC_noM (noM_ints _ _ _) rfl
        rw [e, share_sl, h2]
        rfl
end Go.Proofs.YtdcpkgedaflnmaaGreatDoor.Ik
set_option linter.unusedVariables false
set_option linter.unusedSimpArgs false
namespace Go.Proofs.YtdcpkgedaflnmaaGreatDoor.Ik
open Go Fw Se Rp

/-! the exponent of a repeated border -/
theorem bez : ∀ r < 13, ∀ m < 13, 1 ≤ r → 1 ≤ m → ∃ a < 13, ∃ b < 13, a * r = Nat.gcd r m + b * m := by decide +kernel
theorem exp_mod {l : List UInt8} {k m : Nat} (hk : 1 ≤ k) (hm : 1 ≤ m) (hl : l.length = k * m) (h12 : k * m ≤ 12) (hp : perB l m = true) : ∃ r : Nat, rootX l = (r : Int) ∧ 1 ≤ r ∧ (k * m / r) % k = 0 ∧ 1 ≤ k * m / r := by
  have hN : 1 ≤ k * m := Nat.mul_le_mul hk hm
  have hne : l ≠ [] := fun e => by rw [e] at hl; simp at hl; omega
  obtain ⟨r, hr, r1, r2, r3, r4, r5⟩ := rootX_spec hne
  rw [hl] at r2 r4 r5
  have hmN : m ≤ k * m := Nat.le_mul_of_pos_left m hk
  have hrd : r ∣ k * m := Nat.dvd_of_mod_eq_zero r4
  have hmd : m ∣ k * m := Nat.dvd_mul_left m k
  have e1 : r * (k * m / r) = l.length := by rw [hl]; exact Nat.mul_div_cancel' hrd
  have e2 : m * k = l.length := by rw [hl, Nat.mul_comm]
  have q1 : 1 ≤ k * m / r := Nat.div_pos r2 r1
  have c1 := (eqK_iff r1 e1).1 (by rw [eq_per r1 e1 q1]; exact r3)
  have c2 := (eqK_iff hm e2).1 (by rw [eq_per hm e2 hk]; exact hp)
  rw [hl] at c1 c2
  have hF : ∀ x : Nat, l[x % r]? = l[x % m]? := fun x => by
    have hy : x % (k * m) < k * m := Nat.mod_lt _ hN
    have h1 := c1 _ hy
    have h2 := c2 _ hy
    rw [Nat.mod_mod_of_dvd x hrd] at h1
    rw [Nat.mod_mod_of_dvd x hmd] at h2
    rw [← h1, ← h2]
  obtain ⟨a, _, b, _, hab⟩ := bez r (by omega) m (by omega) r1 hm
  obtain ⟨g, hg⟩ : ∃ g, g = Nat.gcd r m := ⟨_, rfl⟩
  rw [← hg] at hab
  have g1 : 1 ≤ g := by rw [hg]; exact Nat.gcd_pos_of_pos_left _ r1
  have gr : g ∣ r := by rw [hg]; exact Nat.gcd_dvd_left r m
  have gm : g ∣ m := by rw [hg]; exact Nat.gcd_dvd_right r m
  have hgr : g ≤ r := Nat.le_of_dvd r1 gr
  have hper : perB l g = true := (perB_iff (by rw [hl]; omega)).2 fun i hi => by
    rw [hl] at hi
    have h1 : l[i + g]? = l[(i + g) % m]? := c2 _ hi
    have h2 : (i + g) % m = (i + g + b * m) % m := (Nat.add_mul_mod_self_right _ _ _).symm
    have h3 : i + g + b * m = i + a * r := by rw [hab]; omega
    rw [h1, h2, h3, ← hF, Nat.add_mul_mod_self_right]
    exact (c1 i (by omega)).symm
  have hgeq : g = r := by
    rcases Nat.lt_or_ge g r with h | h
    · have := r5 g g1 h (Nat.mod_eq_zero_of_dvd (Nat.dvd_trans gr hrd))
      rw [hper] at this
      cases this
    · omega
  rw [hgeq] at gm
  refine ⟨r, hr, r1, ?_, q1⟩
  rw [Nat.mul_div_assoc k gm]
  exact Nat.mul_mod_right _ _
/-- a sequence some times -/
def rp (w : List Int) (k : Nat) : List Int := (List.replicate k w).flatten
theorem rp_len (w : List Int) : ∀ k, (rp w k).length = k * w.length
  | 0 => by simp [rp]
  | k + 1 => by simp [rp]
theorem rp_succ (w : List Int) (k : Nat) : rp w (k + 1) = rp w k ++ w := by simp [rp, List.replicate_succ']
theorem rp_succ' (w : List Int) (k : Nat) : rp w (k + 1) = w ++ rp w k := by simp [rp, List.replicate_succ]
theorem rp_mem {w : List Int} : ∀ {k : Nat} {a : Int}, a ∈ rp w k → a ∈ w
  | 0, a, h => by simp [rp] at h
  | k + 1, a, h => by
    rw [rp_succ, List.mem_append] at h
    exact h.elim (fun h => rp_mem h) id
def lt4 (a : Int) : UInt8 := UInt8.ofNat (97 + a.toNat)
def sw (w : List Int) (k : Nat) : List UInt8 := (rp w k).map lt4
theorem sw_len (w : List Int) (k : Nat) : (sw w k).length = k * w.length := by simp [sw, rp_len]
theorem sw_per {w : List Int} {k : Nat} (hk : 1 ≤ k) : perB (sw w k) w.length = true := by
  obtain ⟨j, rfl⟩ : ∃ j, k = j + 1 := ⟨k - 1, by omega⟩
  have h1 : sw w (j + 1) = sw w j ++ w.map lt4 := by simp [sw, rp_succ]
  have h2 : sw w (j + 1) = w.map lt4 ++ sw w j := by simp [sw, rp_succ']
  rw [perB_iff (by rw [sw_len]; exact Nat.le_mul_of_pos_left _ (by omega))]
  intro i hi
  have hlen : (sw w (j + 1)).length = (sw w j).length + w.length := by rw [h1]; simp
  rw [hlen] at hi
  have e1 : (sw w (j + 1))[i + w.length]? = (sw w j)[i]? := by
    rw [h2, List.getElem?_append_right (by simp)]
    simp
  have e2 : (sw w (j + 1))[i]? = (sw w j)[i]? := by
    rw [h1, List.getElem?_append_left (by omega)]
  rw [e1, e2]
theorem un {a : Nat} (h : a < 256) : (UInt8.ofNat a).toNat = a := by simp; omega
theorem sw_isB {w : List Int} {k : Nat} (hk : 1 ≤ k) (h1 : 1 ≤ w.length) (h12 : k * w.length ≤ 12) (hw : ∀ a ∈ w, 0 ≤ a ∧ a < 6) : IsB (sw w k) := ⟨fun e => by
  have := sw_len w k
  rw [e] at this
  have := Nat.mul_le_mul hk h1
  simp at *
  omega, by rw [sw_len]; omega, fun c hc => by
  obtain ⟨a, ha, rfl⟩ := List.mem_map.1 hc
  have := hw a (rp_mem ha)
  unfold lt4
  rw [un (by omega)]
  omega⟩
theorem sw_root {w : List Int} {k : Nat} (hk : 1 ≤ k) (h1 : 1 ≤ w.length) (h12 : k * w.length ≤ 12) : ∃ (b : ByteArray) (e : Nat), rootA (sw w k) = .tup [.str b, .int .i64 (e : Int), .int .i64 0] ∧ e % k = 0 ∧ 1 ≤ e := by
  obtain ⟨r, hr, r1, h3, h4⟩ := exp_mod hk h1 (sw_len w k) h12 (sw_per hk)
  have : ((k * w.length : Nat) : Int).tdiv (r : Int) = ((k * w.length / r : Nat) : Int) := by rw [Int.tdiv_eq_ediv_of_nonneg (by omega)]; exact (Int.natCast_ediv _ _).symm
  unfold rootA
  rw [hr, sw_len, this]
  exact ⟨_, k * w.length / r, rfl, h3, h4⟩
/-! more and more colours -/
def sub (s t : Nat) : Prop := ∀ b, s.testBit b = true → t.testBit b = true
theorem pr_mono {l : List Int} {s t : Nat} (h : sub s t) : sub (prN l s) (prN l t) := fun b hb => by
  rcases (prN_bit l s b).1 hb with h1 | ⟨c, h1, h2, h3⟩
  · exact (prN_bit l t b).2 (.inl (h b h1))
  · exact (prN_bit l t b).2 (.inr ⟨c, h1, h c h2, h3⟩)
theorem pr_sub (l : List Int) (s : Nat) : sub s (prN l s) := fun b hb => (prN_bit l s b).2 (.inl hb)
theorem gv_sub (M : List (List Int)) : ∀ (l : List Int) (s : Nat), sub s (gvL M l s)
  | [], s => fun _ h => h
  | a :: l, s => fun b hb => gv_sub M l _ b (pr_sub _ s b hb)
theorem gv_in {M : List (List Int)} {E : Nat} (hE : ∀ i, i < M.length → prN (M.getD i []) E = E) : ∀ {l : List Int} {s : Nat}, (∀ a ∈ l, 0 ≤ a ∧ a < M.length) → sub s E → sub (gvL M l s) E
  | [], s, _, h => h
  | a :: l, s, hl, h => by
    have ha := hl a (by simp)
    refine gv_in hE (l := l) (fun b hb => hl b (by simp [hb])) ?_
    have := pr_mono (l := M.getD a.toNat []) h
    rwa [hE a.toNat (by omega)] at this
theorem filt_le {p q : Nat → Bool} : ∀ {l : List Nat}, (∀ x ∈ l, p x = true → q x = true) → (l.filter p).length ≤ (l.filter q).length
  | [], _ => Nat.le_refl _
  | a :: l, h => by
    have ih := filt_le (p := p) (q := q) (l := l) fun x hx => h x (by simp [hx])
    have ha := h a (by simp)
    cases hp : p a with
    | true => simp [List.filter_cons, hp, ha hp]; omega
    | false =>
      cases hq : q a <;> simp [List.filter_cons, hp, hq] <;> omega
theorem filt_eq {p q : Nat → Bool} : ∀ {l : List Nat}, (∀ x ∈ l, p x = true → q x = true) → (l.filter p).length = (l.filter q).length → ∀ x ∈ l, p x = q x
  | [], _, _ => fun x hx => by simp at hx
  | a :: l, h, e => by
    have hle := filt_le (p := p) (q := q) (l := l) fun x hx => h x (by simp [hx])
    have ha := h a (by simp)
    have hpq : p a = q a ∧ (l.filter p).length = (l.filter q).length := by
      cases hp : p a with
      | true =>
        have hq := ha hp
        rw [hq]
        simp [List.filter_cons, hp, hq] at e
        exact ⟨rfl, e⟩
      | false =>
        cases hq : q a with
        | true => simp [List.filter_cons, hp, hq] at e; omega
        | false => simp [List.filter_cons, hp, hq] at e; exact ⟨rfl, e⟩
    intro x hx
    rcases List.mem_cons.1 hx with rfl | hx
    · exact hpq.1
    · exact filt_eq (fun x hx => h x (by simp [hx])) hpq.2 x hx
theorem ls_len (s : Nat) : (lsN s).length = ((List.range 7).filter s.testBit).length := by simp [lsN, lsK]
theorem ls_mono {s t : Nat} (h : sub s t) : (lsN s).length ≤ (lsN t).length := by
  rw [ls_len, ls_len]
  exact filt_le fun x _ hx => h x hx
theorem ls_eq {K s t : Nat} (hs : SetK K s) (ht : SetK K t) (hK : K ≤ 7) (h : sub s t) (e : (lsN s).length = (lsN t).length) : s = t := by
  rw [ls_len, ls_len] at e
  have := filt_eq (p := s.testBit) (q := t.testBit) (l := List.range 7) (fun x _ hx => h x hx) e
  apply Nat.eq_of_testBit_eq
  intro b
  by_cases hb : b < 7
  · exact this b (List.mem_range.2 hb)
  · have h1 : s.testBit b = false := by rw [← Bool.not_eq_true]; intro hh; have := hs.bd b hh; omega
    have h2 : t.testBit b = false := by rw [← Bool.not_eq_true]; intro hh; have := ht.bd b hh; omega
    rw [h1, h2]
theorem ls_le {K s : Nat} (hs : SetK K s) (hK : K ≤ 7) : (lsN s).length ≤ K := by
  rw [ls_len]
  have h1 := filt_le (p := s.testBit) (q := fun b => decide (b < K)) (l := List.range 7) fun x _ hx => by simpa using hs.bd x hx
  have h2 : ∀ K ≤ 7, ((List.range 7).filter fun b => decide (b < K)).length ≤ K := by decide
  have := h2 K hK
  omega
/-- the sets of the rounds, and their numbers -/
def sS (M : List (List Int)) (w : List Int) (k : Nat) : Nat := gvL M (rp w k) 1
def cn (M : List (List Int)) (w : List Int) (k : Nat) : Nat := (lsN (sS M w k)).length
theorem sS_succ (M : List (List Int)) (w : List Int) (k : Nat) : sS M w (k + 1) = gvL M w (sS M w k) := by
  unfold sS gvL
  rw [rp_succ, List.foldl_append]
def stl (M : List (List Int)) (w : List Int) : Nat → Bool
  | 0 => false
  | k + 1 => stl M w k || decide (cn M w (k + 1) = cn M w k)
theorem sS_set {K : Nat} {M : List (List Int)} (g : PalK K M) {w : List Int} (hw : ∀ a ∈ w, 0 ≤ a ∧ a < M.length) (k : Nat) : SetK K (sS M w k) := gvL_set g (fun a ha => hw a (rp_mem ha)) (paper (by have := g.k2; omega))
theorem stl_stop {K : Nat} {M : List (List Int)} (g : PalK K M) {w : List Int} (hw : ∀ a ∈ w, 0 ≤ a ∧ a < M.length) : ∀ k, stl M w k = true → sS M w (k + 1) = sS M w k
  | 0, h => by cases h
  | k + 1, h => by
    have he : sS M w (k + 1) = sS M w k := by
      simp only [stl, Bool.or_eq_true, decide_eq_true_eq] at h
      rcases h with h | h
      · exact stl_stop g hw k h
      · refine (ls_eq (sS_set g hw k) (sS_set g hw (k + 1)) g.k7 ?_ h.symm).symm
        rw [sS_succ]
        exact gv_sub M w _
    rw [sS_succ M w (k + 1), he, ← sS_succ, he]
theorem cn_mono (M : List (List Int)) (w : List Int) (k : Nat) : cn M w k ≤ cn M w (k + 1) := ls_mono (by rw [sS_succ]; exact gv_sub M w _)
theorem cn_zero (M : List (List Int)) (w : List Int) : cn M w 0 = 1 := show (lsN 1).length = 1 by decide
theorem cn_stl {K : Nat} {M : List (List Int)} (g : PalK K M) {w : List Int} (hw : ∀ a ∈ w, 0 ≤ a ∧ a < M.length) (k : Nat) (h : stl M w k = true) : cn M w (k + 1) = cn M w k := by
  unfold cn
  rw [stl_stop g hw k h]
theorem cn_le {K : Nat} {M : List (List Int)} (g : PalK K M) {w : List Int} (hw : ∀ a ∈ w, 0 ≤ a ∧ a < M.length) (k : Nat) : cn M w k ≤ K := ls_le (sS_set g hw k) g.k7
theorem cn_ever {K : Nat} {M : List (List Int)} {w : List Int} (hw : ∀ a ∈ w, 0 ≤ a ∧ a < M.length) {E : Nat} (h0 : SetK K E) (hE : ∀ i, i < M.length → prN (M.getD i []) E = E) (k : Nat) : cn M w k ≤ (lsN E).length := ls_mono (gv_in hE (fun a ha => hw a (rp_mem ha)) fun b hb => by
  have : b = 0 := by
    have := (paper (K := 1) (Nat.le_refl 1)).bd b hb
    omega
  rw [this]; exact h0.zero)
end Go.Proofs.YtdcpkgedaflnmaaGreatDoor.Ik
