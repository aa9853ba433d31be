/-
  The walk of TopCycled. Own work.
  A cycle of a digit as a border: whatever the arguments. Own work.
-/
import Derived.Test.YtdcpkgedaflnmaaGreatDoorS1
import Derived.Test.YtdcpkgedaflnmaaGreatDoorR4
import Derived.Test.YtdcpkgedaflnmaaGreatDoorG5
set_option linter.unusedVariables false
set_option linter.unusedSimpArgs false
namespace Go.Proofs.YtdcpkgedaflnmaaGreatDoor.Cy
open Go Fw Rp Se

theorem ctxC {x y : AV} {es ms : List Int} (hx : IsU8 x es) (hy : IsU8 y ms) {n : Nat} (h2 : 2 ≤ n) (h6 : n ≤ 6) {T : List (List Int)} (hT : tabT n es ms = T) {X : AV} (hX : madV T = X) (hTl : T.length = n) (g : GoodT T) (hTi : asM X = some T) {c : Nat → Nat} (hc : Cyc c n) {k : Nat} (k1 : 1 ≤ k) (k2 : k ≤ n) (k3 : c k = 0) (k4 : ∀ i, 1 ≤ i → i < k → c i ≠ 0) :
    ∃ C, CtxOk Tryz.prog C ∧ C 16 [.int .i64 (n : Int), x, y] = some X ∧ (∀ (z : AV) (l : List Int), asI z = some l → (∀ a ∈ l, 0 ≤ a ∧ a < T.length) → l.length ≤ 12 → C 17 [X, z] = some (.tup [.int .i64 (aft T l 0), .int .i64 0])) ∧
      (∀ b : List UInt8, IsB b → C 10 [.str (bs b)] = some (.tup [outV 1 (ints (perL b)), .int .i64 0])) ∧ C 11 [.str (bs (sC c (2 * k)))] = some (.tup [.str (bs (sC c k)), .int .i64 2, .int .i64 0]) ∧ C 18 [.str (bs (sC c 13))] = some (.tup [.str (bs (plainL (sC c 13))), .int .i64 0]) ∧ C 9 [] = some (.bool true) := by
  have h16 := p12 hx hy (n := n) (by omega) (by omega)
  rw [hT, hX] at h16
  have hB13 := sC_isB hc h6 (i := 13) (by decide) (by decide)
  have h11 := p11 (sC_isB hc h6 (i := 2 * k) (by omega) (by omega))
  rw [sC_root hc h6 k1 k3 k4] at h11
  obtain ⟨C1, hC1, k16, _⟩ := ctx_pt CtxOk.nil 16 _ _ h16
  obtain ⟨C2, hC2, k17, n2⟩ := ctx_fam hC1 17 (fun q : {q : AV × List Int // asI q.1 = some q.2 ∧ (∀ a ∈ q.2, 0 ≤ a ∧ a < T.length) ∧ q.2.length ≤ 12} => [X, q.1.1]) (fun q => .tup [.int .i64 (aft T q.1.2 0), .int .i64 0]) (fun q => p15 hTi g q.2.1 q.2.2.1 q.2.2.2) (by
    rintro ⟨⟨a, la⟩, ha⟩ ⟨⟨b, lb⟩, hb⟩ e
    simp only [List.cons.injEq, and_true, true_and] at e
    subst e
    have := ha.1
    simp only at this
    rw [hb.1] at this
    injection this with this
    simp only at this
    simp only [this])
  obtain ⟨C3, hC3, k10, n3⟩ := ctx_fam hC2 10 (fun b : {b : List UInt8 // IsB b} => [.str (bs b.1)]) (fun b => .tup [outV 1 (ints (perL b.1)), .int .i64 0]) (fun b => p10 b.2) (by
    rintro ⟨a, ha⟩ ⟨b, hb⟩ e
    simp only [List.cons.injEq, AV.str.injEq, and_true] at e
    simp only
    rw [bs_inj.1 e])
  obtain ⟨C4, hC4, k11, n4⟩ := ctx_pt hC3 11 _ _ h11
  obtain ⟨C5, hC5, k18, n5⟩ := ctx_pt hC4 18 _ _ (p18 hB13 (by rw [sC_len]; decide))
  obtain ⟨C, hC, k9, n6⟩ := ctx_pt hC5 9 _ _ p9
  refine ⟨C, hC, ?_, fun z l a b d => ?_, fun b hb => ?_, ?_, ?_, k9⟩
  · rw [n6 16 (by decide), n5 16 (by decide), n4 16 (by decide), n3 16 (by decide), n2 16 (by decide)]; exact k16
  · rw [n6 17 (by decide), n5 17 (by decide), n4 17 (by decide), n3 17 (by decide)]; exact k17 ⟨(z, l), a, b, d⟩
  · rw [n6 10 (by decide), n5 10 (by decide), n4 10 (by decide)]; exact k10 ⟨b, hb⟩
  · rw [n6 11 (by decide), n5 11 (by decide)]; exact k11
  · rw [n6 18 (by decide)]; exact k18
set_option maxHeartbeats 2000000 in
theorem p5 {x y : AV} {es ms : List Int} (hx : IsU8 x es) (hy : IsU8 y ms) {ba dg : Nat} (b1 : ba < 256) (b2 : dg < 256) : PCall Tryz.prog 5 [.int .u8 (ba : Int), x, y, .int .u8 (dg : Int)] (.bool true) := by
  obtain ⟨n, hn⟩ : ∃ n, n = 2 + ba % 5 := ⟨_, rfl⟩
  have hn2 : 2 ≤ n := by omega
  have hn6 : n ≤ 6 := by omega
  have g := tab_good hn2 (by omega) es ms
  have hTi := tab_as (n := n) (by omega) es ms
  have hTl := tabT_len n es ms
  obtain ⟨d, hd⟩ : ∃ d, d = dg % n := ⟨_, rfl⟩
  have hdn : d < n := by rw [hd]; exact Nat.mod_lt _ (by omega)
  obtain ⟨T, hT⟩ : ∃ T, tabT n es ms = T := ⟨_, rfl⟩
  rw [hT] at g hTi hTl
  obtain ⟨X, hX⟩ : ∃ X, madV T = X := ⟨_, rfl⟩
  rw [hX] at hTi
  have hc := st_cyc g (d := d) (by omega)
  have hst : ∀ i, aft T (List.replicate i (d : Int)) 0 = (st T d i : Int) := fun i => (st_bd g (d := d) (by omega) i).1
  rw [hTl] at hc
  generalize hcc : st T d = c at *
  obtain ⟨k, k1, k2, k3, k4⟩ := hc.ex
  obtain ⟨C, hC, k16, k17, k10, k11, k18, k9⟩ := ctxC hx hy hn2 hn6 hT hX hTl g hTi hc k1 k2 k3 k4
  have hxs : x.sto = true := by rcases hx.1 with ⟨rfl, _⟩ | rfl <;> rfl
  have hys : y.sto = true := by rcases hy.1 with ⟨rfl, _⟩ | rfl <;> rfl
  have t1 : (ba : Int).tmod 5 = ((ba % 5 : Nat) : Int) := by rw [Int.tmod_eq_emod_of_nonneg (by omega)]; exact (Int.natCast_emod ba 5).symm
  obtain ⟨m5, hm5⟩ : ∃ m5, m5 = ba % 5 := ⟨_, rfl⟩
  rw [← hm5] at t1
  have w1 : IntKind.i64.wrap (2 + (m5 : Int)) = (n : Int) := by rw [show (2 : Int) + (m5 : Int) = (n : Int) by omega]; exact wrap64 (by omega) (by omega)
  have w2 : IntKind.i64.wrap (ba : Int) = (ba : Int) := wrap64 (by omega) (by omega)
  have w3 : IntKind.i64.wrap (dg : Int) = (dg : Int) := wrap64 (by omega) (by omega)
  have t2 : (dg : Int).tmod (n : Int) = (d : Int) := by rw [Int.tmod_eq_emod_of_nonneg (by omega), hd]; exact (Int.natCast_emod dg n).symm
  have hn0 : ¬ (n : Int) = 0 := by omega
  have hn0' : ¬ n = 0 := by omega
  refine PCall.of hC ok5 (by simp) rfl fun hs hb => ?_
  simp only [A5, R5]
  rw [At.awp_seq]
  simp [hxs, hys, -At.awp_seq]
  rw [At.awp_seq]
  simp [w2, t1, w1, -At.awp_seq]
  rw [At.awp_seq]
  simp [k16, -At.awp_seq]
  rw [At.awp_seq]
  simp [w3, hn0, hn0', t2, -At.awp_seq]
  rw [At.awp_seq]
  simp [-At.awp_seq]
  rw [At.awp_seq]
  simp [-At.awp_seq]
  rw [At.awp_seq]
  simp [-At.awp_seq]
  rw [At.awp_seq]
  refine At.cut (fun s => s.env 9 = .int .i64 (n : Int) ∧ s.env 12 = .str (bs (sC c 13)) ∧ s.env 14 = .int .i64 (k : Int)) ?_ ?_
  · rw [At.awp_seq]
    simp [-At.awp_seq]
    refine At.loop (fun (i : Nat) s => i ≤ 13 ∧ s.env 9 = .int .i64 (n : Int) ∧ s.env 10 = X ∧ s.env 11 = .int .i64 (d : Int) ∧ s.env 12 = .str (bs (sC c i)) ∧ Outs 1 s.hs (s.env 13) (ints (List.replicate i (d : Int))) ∧ s.env 14 = .int .i64 ((if k < i then k else 0 : Nat) : Int) ∧ s.env 15 = .int .i64 (i : Int)) (fun i => 13 - i) 0 ?_ ?_
    · simp [sC]
      exact Outs.nil
    rintro N i s hN ⟨hi, e9, e10, e11, e12, e13, e14, e15⟩
    by_cases hlt : i ≤ 12
    rotate_left
    · have hlt' : ¬ (i : Int) ≤ 12 := by omega
      have hi13 : i = 13 := by omega
      rw [hi13] at e12 e14
      rw [if_pos (by omega)] at e14
      simp [e9, e12, e14, e15, hlt, hlt']
    have hlt' : (i : Int) ≤ 12 := by omega
    have wi := wrap_nat1 (show i < _ by omega)
    have hzI := e13.asI (by simp; omega)
    obtain ⟨z, hz⟩ : ∃ z, s.env 13 = z := ⟨_, rfl⟩
    rw [hz] at hzI e13
    have h17 := k17 z _ hzI (fun a ha => by rw [(List.mem_replicate.1 ha).2]; omega) (by simp; omega)
    rw [hst i] at h17
    have hcb := hc.bd i
    have hs12 := sC_succ c i
    have hsl := sC_len c i
    obtain ⟨v, hv⟩ : ∃ v, v = c i := ⟨_, rfl⟩
    rw [← hv] at h17 hcb hs12
    have q1 : ¬ (v : Int) < 0 := by omega
    have q2 : ¬ (n : Int) ≤ (v : Int) := by omega
    have q2' : ¬ n ≤ v := by omega
    have m1 : ∀ h : HS, amem (.ssl true false) h [.str (bs [97, 98, 99, 100, 101, 102]), .int .i64 (v : Int)] = some (.str (bs (([97, 98, 99, 100, 101, 102] : List UInt8).drop v)), h) := fun h => ssl_l (by simp; omega)
    have m2 : ∀ h : HS, amem (.ssl false true) h [.str (bs (([97, 98, 99, 100, 101, 102] : List UInt8).drop v)), .int .i64 1] = some (.str (bs [UInt8.ofNat (97 + v)]), h) := fun h => by
      have := ssl_h (hs := h) (l := ([97, 98, 99, 100, 101, 102] : List UInt8).drop v) (k := .i64) (i := 1) (by simp; omega)
      rw [d1 (by simp; omega)] at this
      have e : ([97, 98, 99, 100, 101, 102] : List UInt8).getD v 0 = UInt8.ofNat (97 + v) := by
        have : v = 0 ∨ v = 1 ∨ v = 2 ∨ v = 3 ∨ v = 4 ∨ v = 5 := by omega
        rcases this with h | h | h | h | h | h <;> rw [h] <;> decide
      rw [e] at this
      exact this
    have ad : abin 0 .add (.str (bs (sC c i))) (.str (bs [UInt8.ofNat (97 + v)])) = some (.str (bs (sC c (i + 1)))) := by rw [hs12]; exact abin_sadd (by rw [hsl]; simp; omega)
    generalize UInt8.ofNat (97 + v) = L0 at m2 ad
    obtain ⟨z2, hs', a1, a2, a3⟩ := e13.add1 (by simp; omega) (d : Int)
    rw [← List.replicate_succ'] at a2
    have fin : ∀ s' : AS, s'.env 9 = .int .i64 (n : Int) → s'.env 10 = X → s'.env 11 = .int .i64 (d : Int) → s'.env 12 = .str (bs (sC c (i + 1))) → s'.env 13 = z2 → s'.hs = hs' → s'.env 14 = .int .i64 ((if k < i + 1 then k else 0 : Nat) : Int) → s'.env 15 = .int .i64 ((i : Int) + 1) → At (N s') := fun s' g1 g2 g3 g4 g5 g6 g7 g8 => hN (i + 1) _ (by omega) ⟨by omega, g1, g2, g3, g4, by rw [g5, g6]; exact a2, g7, by rw [g8]; rfl⟩
    have as1 : astoAll 1 [.int .i64 (d : Int)] = true := rfl
    by_cases hik : i = k
    · have hv0 : v = 0 := by rw [hv, hik]; exact k3
      have h14 : (if k < i then k else 0) = 0 := if_neg (by omega)
      have h14' : (if k < i + 1 then k else 0) = i := by rw [if_pos (by omega), hik]
      have hi0 : (0 : Int) < (i : Int) := by omega
      have hi0' : 0 < i := by omega
      rw [h14] at e14
      rw [h14'] at fin
      have hvT : (v = 0) = True := eq_true hv0
      have hvT' : ((v : Int) = 0) = True := eq_true (by omega)
      simp [e9, e10, e11, e12, e14, e15, hz, hlt, hlt', h17, q1, q2, q2', m1, m2, ad, as1, a1, hvT, hvT', hi0, hi0', wi]
      exact fin _ (by simp [e9]) (by simp [e10]) (by simp [e11]) (by simp) (by simp) rfl (by simp) (by simp)
    · have hif : (if k < i + 1 then k else 0) = if k < i then k else 0 := by
        by_cases h : k < i
        · rw [if_pos h, if_pos (by omega)]
        · rw [if_neg h, if_neg (by omega)]
      rw [hif] at fin
      by_cases hi0' : i = 0
      · have hi0 : ¬ (0 : Int) < (i : Int) := by omega
        have hi1 : ¬ 0 < i := by omega
        generalize (if k < i then k else 0) = Z at *
        simp [e9, e10, e11, e12, e14, e15, hz, hlt, hlt', h17, q1, q2, q2', m1, m2, ad, as1, a1, hi0, hi1, wi]
        exact fin _ (by simp [e9]) (by simp [e10]) (by simp [e11]) (by simp) (by simp) rfl (by simp [e14]) (by simp [wi])
      · have hi0 : (0 : Int) < (i : Int) := by omega
        have hi1 : 0 < i := by omega
        by_cases hv0 : v = 0
        · have hki : k < i := by
            rcases Nat.lt_or_ge i k with h | h
            · exact absurd (hv ▸ hv0 : c i = 0) (k4 i (by omega) h)
            · omega
          rw [if_pos hki] at e14 fin
          have hvT : (v = 0) = True := eq_true hv0
          have hvT' : ((v : Int) = 0) = True := eq_true (by omega)
          have hk0 : ¬ k = 0 := by omega
          have hk0' : ¬ (k : Int) = 0 := by omega
          simp [e9, e10, e11, e12, e14, e15, hz, hlt, hlt', h17, q1, q2, q2', m1, m2, ad, as1, a1, hvT, hvT', hi0, hi1, hk0, hk0', wi]
          exact fin _ (by simp [e9]) (by simp [e10]) (by simp [e11]) (by simp) (by simp) rfl (by simp [e14]) (by simp [wi])
        · have hv0' : ¬ (v : Int) = 0 := by omega
          generalize (if k < i then k else 0) = Z at *
          simp [e9, e10, e11, e12, e14, e15, hz, hlt, hlt', h17, q1, q2, q2', m1, m2, ad, as1, a1, hv0, hv0', hi0, hi1, wi]
          exact fin _ (by simp [e9]) (by simp [e10]) (by simp [e11]) (by simp) (by simp) rfl (by simp [e14]) (by simp [wi])
  · rintro s ⟨e9, e12, e14⟩
    have hB13 := sC_isB hc hn6 (i := 13) (by decide) (by decide)
    obtain ⟨hP, hPe⟩ := plainL_is _ hB13
    have ka := k10 _ hB13
    have kb := k10 _ hP
    rw [hPe] at kb
    have hhd := sC_head hc hn6 (N := 13) k1 (by omega) k3 k4
    have hsl := sC_len c 13
    have hLl : (perL (sC c 13)).length ≤ 14 := by have := perK_len (sC c 13) ((sC c 13).length + 1); unfold perL; omega
    have s1 : ∀ h : HS, amem (.ssl false true) h [.str (bs (sC c 13)), .int .i64 ((2 * k : Nat) : Int)] = some (.str (bs (sC c (2 * k))), h) := fun h => by
      have := ssl_h (hs := h) (l := sC c 13) (k := .i64) (i := 2 * k) (by omega)
      rw [sC_take c (by omega)] at this
      exact this
    have s2 : ∀ h : HS, amem (.ssl false true) h [.str (bs (sC c 13)), .int .i64 (k : Int)] = some (.str (bs (sC c k)), h) := fun h => by
      have := ssl_h (hs := h) (l := sC c 13) (k := .i64) (i := k) (by omega)
      rw [sC_take c (by omega)] at this
      exact this
    generalize plainL (sC c 13) = pl at *
    generalize perL (sC c 13) = L at *
    generalize sC c 13 = l13 at *
    have hzI := asI_outV (l := L) (by omega)
    generalize outV 1 (ints L) = z at *
    have hL0 : 0 < L.length := by cases L with
      | nil => simp at hhd
      | cons a b => simp
    have hLk : L[0] = (k : Int) := by cases L with
      | nil => simp at hhd
      | cons a b => simpa using hhd
    have ix0 := aidx_nat hzI (k := .i64) hL0
    rw [hLk] at ix0
    have ix0' : aidxS 1 z (.int .i64 0) = some (.ptr (.int .i64 (k : Int))) := ix0
    obtain ⟨k2', hk2⟩ : ∃ k2', k2' = 2 * k := ⟨_, rfl⟩
    rw [← hk2] at s1 k11
    have wk : IntKind.i64.wrap (2 * (k : Int)) = (k2' : Int) := by rw [show (2 : Int) * (k : Int) = (k2' : Int) by omega]; exact wrap64 (by omega) (by omega)
    have c1 : ¬ (k : Int) < 1 := by omega
    have c2 : ¬ (n : Int) < (k : Int) := by omega
    have c2' : ¬ n < k := by omega
    have c1' : ¬ k < 1 := by omega
    have c3 : ¬ L.length = 0 := by omega
    have c3' : ¬ (L.length : Int) = 0 := by omega
    have c4 : ¬ k = 0 := by omega
    have c5 : ¬ L = [] := fun e => by rw [e] at hL0; simp at hL0
    rw [At.awp_seq]
    simp [e12, ka, -At.awp_seq]
    rw [At.awp_seq, At.awp_seq]
    simp [e9, e14, alen_of hzI, ix0', c1, c2, c1', c2', c3, c3', c4, c5, -At.awp_seq]
    rw [At.awp_seq]
    simp [e12, e14, wk, s1, k11, -At.awp_seq]
    rw [At.awp_seq]
    simp [e12, k18, -At.awp_seq]
    rw [At.awp_seq]
    simp [kb, -At.awp_seq]
    rw [At.awp_seq, At.awp_seq]
    simp [e12, e14, s2, alen_of hzI, -At.awp_seq]
    rw [At.awp_seq]
    refine At.cut (fun _ => True) ?_ ?_
    rotate_left
    · intro s _
      simp [k9]
    rw [At.awp_seq]
    simp [alen_of hzI, -At.awp_seq]
    refine At.loop (fun (i : Nat) s => i ≤ L.length ∧ s.env 18 = z ∧ s.env 25 = z ∧ s.env 157 = .int .i64 (L.length : Int) ∧ s.env 158 = .int .i64 (i : Int)) (fun i => L.length - i) 0 ?_ ?_
    · simp
    rintro N i s hN ⟨hi, e18, e25, e157, e158⟩
    by_cases hlt : i < L.length
    · have hlt' : (i : Int) < (L.length : Int) := by omega
      have ix := aidx_nat hzI (k := .i64) hlt
      have wi := wrap_nat1 (show i < _ by omega)
      simp [e18, e25, e157, e158, hlt, hlt', ix, wi]
      exact hN (i + 1) _ (by omega) ⟨by omega, by simp [e18], by simp [e25], by simp [e157], by simp⟩
    · have hlt' : ¬ (i : Int) < (L.length : Int) := by omega
      simp [e157, e158, hlt, hlt']
end Go.Proofs.YtdcpkgedaflnmaaGreatDoor.Cy
set_option linter.unusedVariables false
set_option linter.unusedSimpArgs false
namespace Go.Proofs.YtdcpkgedaflnmaaGreatDoor
open Go Fw

theorem cycled_typed (xs : List AV) (h : Typed [.int .u8, .sl (.int .u8), .sl (.int .u8), .int .u8] xs) : PCall Tryz.prog 5 xs (.bool true) := by
  obtain ⟨a, b, c, d, rfl, ha, hb, hc, hd⟩ := h.four
  obtain ⟨ba, hba, rfl⟩ := Se.u8_nat ha
  obtain ⟨es, hes⟩ := Se.IsU8.of hb
  obtain ⟨ms, hms⟩ := Se.IsU8.of hc
  obtain ⟨dg, hdg, rfl⟩ := Se.u8_nat hd
  exact Cy.p5 hes hms hba hdg
end Go.Proofs.YtdcpkgedaflnmaaGreatDoor
