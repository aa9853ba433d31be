/-
  Sets of colours as bits; what an ink adds. Own work.
  An ink of a palette, and what it adds to a set. Own work.
  A palette is checked; what a sequence gives. Own work.
  The colours that are ever given. Own work.
-/
import Derived.Test.YtdcpkgedaflnmaaGreatDoorC7
import Derived.Test.YtdcpkgedaflnmaaGreatDoorG5
import Derived.Test.YtdcpkgedaflnmaaGreatDoorFx4
set_option linter.unusedVariables false
set_option linter.unusedSimpArgs false
namespace Go.Proofs.YtdcpkgedaflnmaaGreatDoor.Ik
open Go Fw Se

/-! bits of a byte -/
theorem or8 {kd a b : Nat} (ha : a < 256) (hb : b < 256) : abin kd .or (.int .u8 (a : Int)) (.int .u8 (b : Int)) = some (.int .u8 ((a ||| b : Nat) : Int)) := by
  have hab : a ||| b < 256 := Nat.or_lt_two_pow (n := 8) ha hb
  have e : (BitVec.ofInt 8 (a : Int) ||| BitVec.ofInt 8 (b : Int)).toNat = a ||| b := by
    rw [bv8, bv8, BitVec.toNat_or, BitVec.toNat_ofNat, BitVec.toNat_ofNat, Nat.mod_eq_of_lt (by omega), Nat.mod_eq_of_lt (by omega)]
  show some (AV.int IntKind.u8 (IntKind.u8.wrap ((BitVec.ofInt 8 (a : Int) ||| BitVec.ofInt 8 (b : Int)).toNat : Int))) = _
  rw [e, wrapu8 hab]
theorem and8 {kd b : Nat} (hb : b < 256) : abin kd .and (.int .u8 (b : Int)) (.int .u8 1) = some (.int .u8 ((b % 2 : Nat) : Int)) := by
  have e : (BitVec.ofInt 8 (b : Int) &&& BitVec.ofInt 8 (1 : Int)).toNat = b % 2 := by
    rw [show (1 : Int) = ((1 : Nat) : Int) from rfl, bv8, bv8, BitVec.toNat_and, BitVec.toNat_ofNat, BitVec.toNat_ofNat, Nat.mod_eq_of_lt (by omega), Nat.mod_eq_of_lt (by omega), Nat.and_one_is_mod]
  show some (AV.int IntKind.u8 (IntKind.u8.wrap ((BitVec.ofInt 8 (b : Int) &&& BitVec.ofInt 8 (1 : Int)).toNat : Int))) = _
  rw [e, wrapu8 (by omega)]
theorem shl8 {kd c : Nat} (hc : c < 8) : abin kd .shl (.int .u8 1) (.int .i64 (c : Int)) = some (.int .u8 ((2 ^ c : Nat) : Int)) := by
  rw [abin_shl (by omega)]
  simp only [Int.toNat_natCast, IntKind.bits, Nat.min_eq_left (Nat.le_of_lt hc), Int.one_mul]
  rw [show ((2 : Int) ^ c) = ((2 ^ c : Nat) : Int) by norm_cast, wrapu8 (Nat.pow_lt_pow_right (by decide) hc)]
theorem tb (s c : Nat) : s.testBit c = decide (s / 2 ^ c % 2 = 1) := Nat.testBit_eq_decide_div_mod_eq
theorem p99 {s : Nat} (hs : s < 256) {c : Nat} (hc : c < 8) : PCall Tryz.prog 99 [.int .u8 (s : Int), .int .i64 (c : Int)] (.bool (s.testBit c)) := by
  have h1 : abin 0 .shr (.int .u8 (s : Int)) (.int .i64 (c : Int)) = some (.int .u8 ((s / 2 ^ c : Nat) : Int)) := shr8 hc
  obtain ⟨q, hq⟩ : ∃ q, q = s / 2 ^ c := ⟨_, rfl⟩
  have hq8 : q < 256 := by rw [hq]; exact Nat.lt_of_le_of_lt (Nat.div_le_self _ _) hs
  have e := tb s c
  rw [← hq] at h1 e
  have h2 : abin 0 .and (.int .u8 (q : Int)) (.int .u8 1) = some (.int .u8 ((q % 2 : Nat) : Int)) := and8 hq8
  obtain ⟨r, hr⟩ : ∃ r, r = q % 2 := ⟨_, rfl⟩
  rw [← hr] at h2 e
  rw [e]
  refine PCall.of CtxOk.nil ok99 (by simp) rfl fun hs hb => ?_
  simp [A99, R99, h1, h2]
  omega
/-- the colours of a set, up to one -/
def lsK (s k : Nat) : List Int := ((List.range k).filter s.testBit).map fun (c : Nat) => (c : Int)
def lsN (s : Nat) : List Int := lsK s 7
theorem lsK_succ (s k : Nat) : lsK s (k + 1) = if s.testBit k then lsK s k ++ [(k : Int)] else lsK s k := by
  unfold lsK
  rw [List.range_succ, List.filter_append, List.map_append]
  cases h : s.testBit k <;> simp [h]
theorem lsK_len (s k : Nat) : (lsK s k).length ≤ k := by
  unfold lsK
  rw [List.length_map]
  exact Nat.le_trans (List.length_filter_le _ _) (by simp)
theorem p45 {s : Nat} (hs : s < 256) : PCall Tryz.prog 45 [.int .u8 (s : Int)] (outV 1 (ints (lsN s))) := by
  refine PCall.of CtxOk.nil ok45 (by simp) (outI_plain _) fun hs0 hb => ?_
  simp [A45, R45]
  refine At.loop (fun (i : Nat) t => i ≤ 7 ∧ t.env 4 = .fn (.func 99) [.int .u8 (s : Int)] [] ∧ Outs 1 t.hs (t.env 3) (ints (lsK s i)) ∧ t.env 8 = .int .i64 (i : Int)) (fun i => 7 - i) 0 ?_ ?_
  · simp
    exact Outs.nil
  rintro N i t hN ⟨hi, e4, e3, e8⟩
  by_cases hlt : i < 7
  · have hlt' : (i : Int) < 7 := by omega
    have w1 := wrap_nat1 (show i < _ by omega)
    have h99 := p99 hs (c := i) (by omega)
    have hsc := lsK_succ s i
    have hle := lsK_len s i
    simp [e4, e8, hlt, hlt']
    refine At.hp h99 ?_
    cases hb : s.testBit i with
    | true =>
      rw [hb, if_pos rfl] at hsc
      obtain ⟨y, hs', a1, a2, a3⟩ := e3.add1 (by omega) (i : Int)
      rw [← hsc] at a2
      have as1 : astoAll 1 [.int .i64 (i : Int)] = true := rfl
      simp [as1, a1, e8, w1]
      exact hN (i + 1) _ (by omega) ⟨by omega, by simp [e4], by simpa using a2, by simp⟩
    | false =>
      rw [hb, if_neg (by simp)] at hsc
      simp [e8, w1]
      exact hN (i + 1) _ (by omega) ⟨by omega, by simp [e4], by simp [hsc]; exact e3, by simp⟩
  · have hlt' : ¬ (i : Int) < 7 := by omega
    have : i = 7 := by omega
    subst this
    simp [e8]
    exact e3.sh
/-! inks -/
def mx (l : List Int) : Int := l.foldl max (gI l 0)
def mn (l : List Int) : Int := l.foldl min (gI l 0)
end Go.Proofs.YtdcpkgedaflnmaaGreatDoor.Ik
set_option linter.unusedVariables false
set_option linter.unusedSimpArgs false
namespace Go.Proofs.YtdcpkgedaflnmaaGreatDoor.Ik
open Go Fw Se

theorem p101 (o c : Int) : PCall Tryz.prog 101 [.int .i64 o, .int .i64 c] (.int .i64 o) := by
  refine PCall.of CtxOk.nil ok101 (by simp) rfl fun hs hb => ?_
  simp [A101, R101]
theorem p199 {x : AV} {l : List Int} (hx : asI x = some l) {c : Nat} (hc : c < l.length) : PCall Tryz.prog 199 [x, .int .i64 (c : Int)] (.int .i64 (gI l c)) := by
  have h1 := idx_g hx (k := .i64) hc
  refine PCall.of CtxOk.nil ok199 (by simp) rfl fun hs hb => ?_
  simp [A199, R199, h1]
theorem mx_step {l : List Int} {i : Nat} (h : i < l.length) : (l.take (i + 1)).foldl max (gI l 0) = max ((l.take i).foldl max (gI l 0)) l[i] := by rw [take_snoc h, List.foldl_append]; rfl
theorem mn_step {l : List Int} {i : Nat} (h : i < l.length) : (l.take (i + 1)).foldl min (gI l 0) = min ((l.take i).foldl min (gI l 0)) l[i] := by rw [take_snoc h, List.foldl_append]; rfl
theorem mx_one {l : List Int} (h : 0 < l.length) : (l.take 1).foldl max (gI l 0) = gI l 0 := by
  have := mx_step (l := l) (i := 0) h
  rw [this, gI_of h]; simp
theorem mn_one {l : List Int} (h : 0 < l.length) : (l.take 1).foldl min (gI l 0) = gI l 0 := by
  have := mn_step (l := l) (i := 0) h
  rw [this, gI_of h]; simp
theorem mx_ge : ∀ (l : List Int) (a : Int), a ≤ l.foldl max a ∧ ∀ x ∈ l, x ≤ l.foldl max a
  | [], a => ⟨Int.le_refl _, fun x h => by simp at h⟩
  | y :: l, a => by
    obtain ⟨h1, h2⟩ := mx_ge l (max a y)
    simp only [List.foldl_cons]
    exact ⟨by omega, fun x hx => by
      rcases List.mem_cons.1 hx with rfl | hx
      · omega
      · exact h2 x hx⟩
theorem mn_le : ∀ (l : List Int) (a : Int), l.foldl min a ≤ a ∧ ∀ x ∈ l, l.foldl min a ≤ x
  | [], a => ⟨Int.le_refl _, fun x h => by simp at h⟩
  | y :: l, a => by
    obtain ⟨h1, h2⟩ := mn_le l (min a y)
    simp only [List.foldl_cons]
    exact ⟨by omega, fun x hx => by
      rcases List.mem_cons.1 hx with rfl | hx
      · omega
      · exact h2 x hx⟩
theorem all_eq {l : List Int} (h : mx l = mn l) : ∀ x ∈ l, x = gI l 0 := fun x hx => by
  have h1 := mx_ge l (gI l 0)
  have h2 := mn_le l (gI l 0)
  have := h1.2 x hx
  have := h2.2 x hx
  unfold mx mn at h
  omega
theorem p102 {x : AV} {l : List Int} (hx : asI x = some l) (h : 0 < l.length) : PCall Tryz.prog 102 [x] (.int .i64 (mx l)) := by
  have hl := asI_len hx
  have h0 := aidx_nat hx (k := .i64) h
  have h0' : aidxS 1 x (.int .i64 0) = some (.ptr (.int .i64 (gI l 0))) := by rw [gI_of h]; exact h0
  have c0 : ¬ (l.length : Int) < 1 := by omega
  have c0' : ¬ l.length = 0 := by omega
  have c0'' : ¬ l = [] := fun e => by rw [e] at h; simp at h
  refine PCall.of CtxOk.nil ok102 (by simp) rfl fun hs hb => ?_
  simp [A102, R102, alen_of hx, h0', c0, c0', c0'']
  refine At.loop (fun (i : Nat) t => 1 ≤ i ∧ i ≤ l.length ∧ t.env 0 = x ∧ t.env 3 = .int .i64 ((l.take i).foldl max (gI l 0)) ∧ t.env 4 = .int .i64 (i : Int)) (fun i => l.length - i) 1 ?_ ?_
  · simp [mx_one h]
    omega
  rintro N i t hN ⟨hi1, hi, e0, e3, e4⟩
  by_cases hlt : i < l.length
  · have hlt' : (i : Int) < (l.length : Int) := by omega
    have w1 := wrap_nat1 (show i < _ by omega)
    have ix := aidx_nat hx (k := .i64) hlt
    have hst := mx_step hlt
    have ha : amax (.int .i64 ((l.take i).foldl max (gI l 0))) (.int .i64 l[i]) = some (.int .i64 ((l.take (i + 1)).foldl max (gI l 0))) := by simp only [amax, if_true, hst]
    generalize hF : (l.take i).foldl max (gI l 0) = F at *
    generalize hG : (l.take (i + 1)).foldl max (gI l 0) = G at *
    simp [e0, e3, e4, alen_of hx, hlt, hlt', ix, ha, w1]
    exact hN (i + 1) _ (by omega) ⟨by omega, by omega, by simp [e0], by simp [hG], by simp⟩
  · have hlt' : ¬ (i : Int) < (l.length : Int) := by omega
    have : i = l.length := by omega
    rw [this, List.take_length] at e3
    simp [e0, e3, e4, alen_of hx, hlt, hlt', mx]
theorem p103 {x : AV} {l : List Int} (hx : asI x = some l) (h : 0 < l.length) : PCall Tryz.prog 103 [x] (.int .i64 (mn l)) := by
  have hl := asI_len hx
  have h0 := aidx_nat hx (k := .i64) h
  have h0' : aidxS 1 x (.int .i64 0) = some (.ptr (.int .i64 (gI l 0))) := by rw [gI_of h]; exact h0
  have c0 : ¬ (l.length : Int) < 1 := by omega
  have c0' : ¬ l.length = 0 := by omega
  have c0'' : ¬ l = [] := fun e => by rw [e] at h; simp at h
  refine PCall.of CtxOk.nil ok103 (by simp) rfl fun hs hb => ?_
  simp [A103, R103, alen_of hx, h0', c0, c0', c0'']
  refine At.loop (fun (i : Nat) t => 1 ≤ i ∧ i ≤ l.length ∧ t.env 0 = x ∧ t.env 3 = .int .i64 ((l.take i).foldl min (gI l 0)) ∧ t.env 4 = .int .i64 (i : Int)) (fun i => l.length - i) 1 ?_ ?_
  · simp [mn_one h]
    omega
  rintro N i t hN ⟨hi1, hi, e0, e3, e4⟩
  by_cases hlt : i < l.length
  · have hlt' : (i : Int) < (l.length : Int) := by omega
    have w1 := wrap_nat1 (show i < _ by omega)
    have ix := aidx_nat hx (k := .i64) hlt
    have hst := mn_step hlt
    have ha : amin (.int .i64 ((l.take i).foldl min (gI l 0))) (.int .i64 l[i]) = some (.int .i64 ((l.take (i + 1)).foldl min (gI l 0))) := by simp only [amin, if_true, hst]
    generalize hF : (l.take i).foldl min (gI l 0) = F at *
    generalize hG : (l.take (i + 1)).foldl min (gI l 0) = G at *
    simp [e0, e3, e4, alen_of hx, hlt, hlt', ix, ha, w1]
    exact hN (i + 1) _ (by omega) ⟨by omega, by omega, by simp [e0], by simp [hG], by simp⟩
  · have hlt' : ¬ (i : Int) < (l.length : Int) := by omega
    have : i = l.length := by omega
    rw [this, List.take_length] at e3
    simp [e0, e3, e4, alen_of hx, hlt, hlt', mn]
/-- an ink as a value behind the interface -/
def ifW (x : AV) (l : List Int) : AV := if mx l = mn l then .iface 166 (.int .i64 (gI l 0)) else .iface 169 x
theorem asI_plain_share {x : AV} {l : List Int} (h : asI x = some l) : x.share.plain = true := by
  rcases asI_inv h with ⟨rfl, _⟩ | ⟨c, rfl⟩
  · rfl
  · rw [share_sl, share_ints]
    cases c <;> exact plain_ints l
theorem ifW_plain {x : AV} {l : List Int} (h : asI x = some l) : (ifW x.share l).plain = true := by
  unfold ifW
  split
  · rfl
  · exact asI_plain_share h
theorem p48 {z : AV} {M : List (List Int)} (hz : asM z = some M) {i : Nat} (hi : i < M.length) (h0 : 0 < M[i].length) (K : Int) : ∃ x, asI x = some M[i] ∧ PCall Tryz.prog 48 [.agg [.int .i64 K, z], .int .i64 (i : Int)] (ifW x M[i]) := by
  obtain ⟨R, hM⟩ := asM.isM hz
  have hR := rowI_ne (hM.row i hi) h0
  have g1 := hM.get (k := .i64) hi
  have l1 := hM.ld hi
  generalize M[i] = l at *
  refine ⟨(R i).share, by rw [asI_share hR], ?_⟩
  obtain ⟨C1, hC1, k102, _⟩ := ctx_pt CtxOk.nil 102 _ _ (p102 hR h0)
  obtain ⟨C, hC, k103, n2⟩ := ctx_pt hC1 103 _ _ (p103 hR h0)
  have k102 : C 102 [R i] = some (.int .i64 (mx l)) := by rw [n2 102 (by decide)]; exact k102
  have ix0 : aidxS 1 (R i) (.int .i64 0) = some (.ptr (.int .i64 (gI l 0))) := by rw [gI_of h0]; exact aidx_nat hR (k := .i64) h0
  have hzs := leaf_sto hM.leaf
  have hRs := asI_sto hR
  refine PCall.of hC ok48 (by simp) (ifW_plain hR) fun hs hb => ?_
  have l0 := leaf_ld hM.leaf
  simp [A48, R48, l0, g1, l1, k102, k103]
  refine At.dec (fun h => ?_) (fun h => ?_)
  · simp [ix0, ifW, h]
  · simp [ifW, h, hRs]
/-- what is added, colour by colour -/
def prL (l : List Int) (cs : List Int) (s : Nat) : Nat := cs.foldl (fun o c => o ||| 2 ^ (gI l c.toNat).toNat) s
def prN (l : List Int) (s : Nat) : Nat := prL l (lsN s) s
theorem prL_bit (l : List Int) : ∀ (cs : List Int) (s b : Nat), (prL l cs s).testBit b = true ↔ s.testBit b = true ∨ ∃ c ∈ cs, (gI l c.toNat).toNat = b
  | [], s, b => by simp [prL]
  | c :: cs, s, b => by
    have h := prL_bit l cs (s ||| 2 ^ (gI l c.toNat).toNat) b
    unfold prL at h ⊢
    rw [List.foldl_cons, h, Nat.testBit_or, Nat.testBit_two_pow]
    simp [or_assoc]
theorem mem_lsN {s : Nat} {x : Int} : x ∈ lsN s ↔ ∃ c : Nat, x = (c : Int) ∧ c < 7 ∧ s.testBit c = true := by
  unfold lsN lsK
  simp only [List.mem_map, List.mem_filter, List.mem_range]
  constructor
  · rintro ⟨c, ⟨h1, h2⟩, rfl⟩
    exact ⟨c, rfl, h1, h2⟩
  · rintro ⟨c, rfl, h1, h2⟩
    exact ⟨c, ⟨h1, h2⟩, rfl⟩
theorem prN_bit (l : List Int) (s b : Nat) : (prN l s).testBit b = true ↔ s.testBit b = true ∨ ∃ c : Nat, c < 7 ∧ s.testBit c = true ∧ (gI l c).toNat = b := by
  unfold prN
  rw [prL_bit]
  constructor
  · rintro (h | ⟨x, hx, e⟩)
    · exact .inl h
    · obtain ⟨c, rfl, h1, h2⟩ := mem_lsN.1 hx
      exact .inr ⟨c, h1, h2, by simpa using e⟩
  · rintro (h | ⟨c, h1, h2, e⟩)
    · exact .inl h
    · exact .inr ⟨(c : Int), mem_lsN.2 ⟨c, rfl, h1, h2⟩, by simpa using e⟩
/-- a set of colours below a number, the paper's among them -/
structure SetK (K : Nat) (s : Nat) : Prop where
  zero : s.testBit 0 = true
  bd : ∀ b, s.testBit b = true → b < K
theorem SetK.lt {K s : Nat} (h : SetK K s) : s < 2 ^ K := Nat.lt_pow_two_of_testBit s fun i hi => by
  rw [← Bool.not_eq_true]
  intro hb
  have := h.bd i hb
  omega
/-- an ink of as many colours -/
structure InkK (K : Nat) (l : List Int) : Prop where
  len : l.length = K
  bd : ∀ a ∈ l, 0 ≤ a ∧ a < K
theorem InkK.at {K : Nat} {l : List Int} (h : InkK K l) {c : Nat} (hc : c < K) : 0 ≤ gI l c ∧ gI l c < K := by
  rw [gI_of (by rw [h.len]; exact hc)]
  exact h.bd _ (List.getElem_mem _)
theorem SetK.pr {K s : Nat} {l : List Int} (h : SetK K s) (hl : InkK K l) : SetK K (prN l s) := ⟨(prN_bit l s 0).2 (.inl h.zero), fun b hb => by
  rcases (prN_bit l s b).1 hb with h1 | ⟨c, _, h2, h3⟩
  · exact h.bd b h1
  · have := hl.at (h.bd c h2)
    omega⟩
theorem pr_const {K s : Nat} {l : List Int} (h : SetK K s) (hl : InkK K l) (hK : K ≤ 7) (he : mx l = mn l) : prN l s = s ||| 2 ^ (gI l 0).toNat := by
  have hall : ∀ c, c < K → gI l c = gI l 0 := fun c hc => by
    rw [gI_of (by rw [hl.len]; exact hc)]
    exact all_eq he _ (List.getElem_mem _)
  apply Nat.eq_of_testBit_eq
  intro b
  rw [Bool.eq_iff_iff, prN_bit, Nat.testBit_or, Nat.testBit_two_pow, Bool.or_eq_true, decide_eq_true_eq]
  constructor
  · rintro (h1 | ⟨c, _, h2, h3⟩)
    · exact .inl h1
    · rw [hall c (h.bd c h2)] at h3
      exact .inr h3
  · rintro (h1 | h3)
    · exact .inl h1
    · exact .inr ⟨0, by decide, h.zero, h3⟩
theorem iv_thin {v : AV} {args : List AV} {d : Option Nat} {K : AS → Prop} {Q : AEx → AS → Prop} {s : AS} : At (ivW Tryz.prog [.agg [.int .i64 166, .int .i64 101], .agg [.int .i64 169, .int .i64 199]] (.iface 169 v) args d K Q s) = At (hcW Tryz.prog 199 (v :: args) d K Q s) := rfl
theorem p47 {K s : Nat} (h : SetK K s) (hK : K ≤ 7) {x : AV} {l : List Int} (hx : asI x = some l) (hl : InkK K l) : PCall Tryz.prog 47 [.int .u8 (s : Int), ifW x l] (.int .u8 ((prN l s : Nat) : Int)) := by
  have hs : s < 256 := Nat.lt_of_lt_of_le h.lt (Nat.pow_le_pow_right (by decide) (show K ≤ 8 by omega))
  have h0 : 0 < K := h.bd 0 h.zero
  unfold ifW
  by_cases he : mx l = mn l
  · rw [if_pos he, pr_const h hl hK he]
    have hb := hl.at h0
    obtain ⟨o, ho⟩ : ∃ o : Nat, gI l 0 = (o : Int) := ⟨(gI l 0).toNat, by omega⟩
    rw [ho, Int.toNat_natCast]
    rw [ho] at hb
    have s1 : abin 0 .shl (.int .u8 1) (.int .i64 (o : Int)) = some (.int .u8 ((2 ^ o : Nat) : Int)) := shl8 (by omega)
    have hp : 2 ^ o < 256 := Nat.pow_lt_pow_right (by decide) (show o < 8 by omega)
    obtain ⟨u, hu⟩ : ∃ u, u = 2 ^ o := ⟨_, rfl⟩
    rw [← hu] at s1 hp ⊢
    have o1 : abin 0 .or (.int .u8 (s : Int)) (.int .u8 (u : Int)) = some (.int .u8 ((s ||| u : Nat) : Int)) := or8 hs hp
    generalize s ||| u = W at *
    obtain ⟨C, hC, k101, _⟩ := ctx_pt CtxOk.nil 101 _ _ (p101 (o : Int) 0)
    refine PCall.of hC ok47 (by simp) rfl fun hs hb => ?_
    have ta : atass 166 (.int .i64 0) (.iface 166 (.int .i64 (o : Int))) = some (.tup [.int .i64 (o : Int), .bool true]) := rfl
    have ta' : ∀ hh : HS, amem (.tass 166 (.int .i64 0)) hh [.iface 166 (.int .i64 (o : Int))] = some (.tup [.int .i64 (o : Int), .bool true], hh) := fun hh => rfl
    simp [A47, R47, ta', k101, s1, o1]
  · rw [if_neg he]
    obtain ⟨C, hC, k45, _⟩ := ctx_pt CtxOk.nil 45 _ _ (p45 hs)
    refine PCall.of hC ok47 (by simp) rfl fun hs0 hb => ?_
    have ta' : ∀ hh : HS, amem (.tass 166 (.int .i64 0)) hh [.iface 169 x] = some (.tup [.int .i64 0, .bool false], hh) := fun hh => rfl
    have hcs : ∀ c ∈ lsN s, ∃ k : Nat, c = (k : Int) ∧ k < K := fun c hc => by
      obtain ⟨k, e, _, h2⟩ := mem_lsN.1 hc
      exact ⟨k, e, h.bd k h2⟩
    have hln : (lsN s).length ≤ 7 := lsK_len s 7
    have hres : prN l s = prL l (lsN s) s := rfl
    rw [hres]
    generalize lsN s = cs at *
    have hzI := asI_outV (l := cs) (by omega)
    generalize outV 1 (ints cs) = z at *
    simp [A47, R47, ta', k45, alen_of hzI]
    refine At.loop (fun (i : Nat) t => i ≤ cs.length ∧ t.env 6 = .iface 169 x ∧ t.env 7 = .int .u8 ((prL l (cs.take i) s : Nat) : Int) ∧ t.env 13 = z ∧ t.env 14 = .int .i64 (cs.length : Int) ∧ t.env 15 = .int .i64 (i : Int)) (fun i => cs.length - i) 0 ?_ ?_
    · simp [prL]
    rintro N i t hN ⟨hi, e6, e7, e13, e14, e15⟩
    by_cases hlt : i < cs.length
    · have hlt' : (i : Int) < (cs.length : Int) := by omega
      have w1 := wrap_nat1 (show i < _ by omega)
      have ix := aidx_nat hzI (k := .i64) hlt
      obtain ⟨c, hc, hcK⟩ := hcs cs[i] (List.getElem_mem hlt)
      have hat := hl.at hcK
      obtain ⟨o, ho⟩ : ∃ o : Nat, gI l c = (o : Int) := ⟨(gI l c).toNat, by omega⟩
      have h199 := p199 hx (c := c) (by rw [hl.len]; exact hcK)
      rw [ho] at h199 hat
      have hst : prL l (cs.take (i + 1)) s = prL l (cs.take i) s ||| 2 ^ o := by
        unfold prL
        rw [take_snoc hlt, List.foldl_append, hc]
        simp [ho]
      have s1 : abin 0 .shl (.int .u8 1) (.int .i64 (o : Int)) = some (.int .u8 ((2 ^ o : Nat) : Int)) := shl8 (by omega)
      have hp : 2 ^ o < 256 := Nat.pow_lt_pow_right (by decide) (show o < 8 by omega)
      have hq : prL l (cs.take i) s < 256 := by
        refine Nat.lt_of_lt_of_le (Nat.lt_pow_two_of_testBit (n := 8) _ fun b hb => ?_) (by decide)
        rw [← Bool.not_eq_true]
        intro hbt
        rcases (prL_bit l _ s b).1 hbt with h1 | ⟨c', hc', h3⟩
        · have := h.bd b h1; omega
        · obtain ⟨k, rfl, hk⟩ := hcs c' (List.mem_of_mem_take hc')
          have := hl.at hk
          simp at h3
          omega
      obtain ⟨u, hu⟩ : ∃ u, u = 2 ^ o := ⟨_, rfl⟩
      rw [← hu] at s1 hp hst
      have o1 : abin 0 .or (.int .u8 ((prL l (cs.take i) s : Nat) : Int)) (.int .u8 (u : Int)) = some (.int .u8 ((prL l (cs.take (i + 1)) s : Nat) : Int)) := by rw [hst]; exact or8 hq hp
      rw [hc] at ix
      simp [e6, e7, e13, e14, e15, hlt, hlt', ix, iv_thin]
      refine At.hp h199 ?_
      simp [e7, e15, s1, o1, w1]
      exact hN (i + 1) _ (by omega) ⟨by omega, by simp [e6], by simp, by simp [e13], by simp [e14], by simp⟩
    · have hlt' : ¬ (i : Int) < (cs.length : Int) := by omega
      have : i = cs.length := by omega
      rw [this, List.take_length] at e7
      simp [e7, e14, e15, hlt, hlt']
end Go.Proofs.YtdcpkgedaflnmaaGreatDoor.Ik
set_option linter.unusedVariables false
set_option linter.unusedSimpArgs false
namespace Go.Proofs.YtdcpkgedaflnmaaGreatDoor.Ik
open Go Fw Se

theorem p98 (lo n hi : Int) : PCall Tryz.prog 98 [.int .i64 lo, .int .i64 n, .int .i64 hi] (.bool (btw lo n hi)) := by
  refine PCall.of CtxOk.nil ok98 (by simp) rfl fun hs hb => ?_
  simp [A98, R98]
  refine At.dec (fun h => ?_) (fun h => ?_) <;> simp [h, btw]
theorem SB98 : ∀ a r, SB a = some r → PCall Tryz.prog 98 a r := by
  intro a r e
  unfold SB at e
  split at e <;> (try (cases e; done))
  injection e with e; subst e; exact p98 _ _ _
def E2 : PCtx := PCtx.nil.add 98 SB
theorem E2ok : CtxOk Tryz.prog E2 := CtxOk.nil.add SB98
@[simp] theorem E2_98 : E2 98 = SB := id rfl
/-- a palette -/
structure PalK (K : Nat) (M : List (List Int)) : Prop where
  k2 : 2 ≤ K
  k7 : K ≤ 7
  m1 : 1 ≤ M.length
  m6 : M.length ≤ 6
  ink : ∀ (i : Nat) (h : i < M.length), InkK K M[i]
abbrev palA (K : Nat) (z : AV) : AV := .agg [.int .i64 (K : Int), z]
theorem p100 {K : Nat} {z : AV} (hz : z.leaf = true) (hK : K ≤ 7) {c : Int} (hc : 0 ≤ c ∧ c < K) (hs : HS) : FCall Tryz.prog 100 [.int .i64 c, .ptr (palA K z)] hs fun e hs' => e = .ret (.bool false) ∧ hs' = hs := by
  have w1 : IntKind.i64.wrap ((K : Int) - 1) = (K : Int) - 1 := wrap64 (by omega) (by omega)
  have b2 : btw 0 c ((K : Int) - 1) = true := btw_iff.2 ⟨hc.1, by omega⟩
  refine FCall.ofAt E2ok ok100 (by simp) ?_
  simp [A100, R100, w1, b2]
theorem p97 {K : Nat} {z : AV} {M : List (List Int)} (hz : asM z = some M) (hM6 : M.length ≤ 6) {c : Int} (hc : 0 ≤ c ∧ c < M.length) (hs : HS) : FCall Tryz.prog 97 [.int .i64 c, .ptr (palA K z)] hs fun e hs' => e = .ret (.bool false) ∧ hs' = hs := by
  obtain ⟨R, hM⟩ := asM.isM hz
  have w1 : IntKind.i64.wrap ((M.length : Int) - 1) = (M.length : Int) - 1 := wrap64 (by omega) (by omega)
  have b2 : btw 0 c ((M.length : Int) - 1) = true := btw_iff.2 ⟨hc.1, by omega⟩
  have l0 := leaf_ld hM.leaf
  refine FCall.ofAt E2ok ok97 (by simp) ?_
  simp [A97, R97, l0, hM.len, w1, b2]
theorem p46 {K : Nat} {z : AV} {M : List (List Int)} (hz : asM z = some M) (g : PalK K M) : PCall Tryz.prog 46 [palA K z] (.int .i64 0) := by
  obtain ⟨R, hM⟩ := asM.isM hz
  have l0 := leaf_ld hM.leaf
  have hzs := leaf_sto hM.leaf
  have b1 : btw 2 (K : Int) 7 = true := btw_iff.2 ⟨by have := g.k2; omega, by have := g.k7; omega⟩
  have c1 : ¬ (M.length : Int) = 0 := by have := g.m1; omega
  have c1' : ¬ M.length = 0 := by have := g.m1; omega
  have c1'' : ¬ M = [] := fun e => c1' (by rw [e]; rfl)
  have c2 : ¬ (6 : Int) < (M.length : Int) := by have := g.m6; omega
  have c2' : ¬ 6 < M.length := by have := g.m6; omega
  refine PCall.of E2ok ok46 (by simp) rfl fun hs hb => ?_
  simp [A46, R46, l0, hzs, hM.len, b1, c1, c1', c1'', c2, c2']
  refine At.loop (fun (i : Nat) t => i ≤ M.length ∧ t.env 1 = .ptr (palA K z) ∧ t.env 21 = z ∧ t.env 22 = .int .i64 (M.length : Int) ∧ t.env 23 = .int .i64 (i : Int)) (fun i => M.length - i) 0 ?_ ?_
  · simp
  rintro N i t hN ⟨hi, e1, e21, e22, e23⟩
  by_cases hlt : i < M.length
  · have hlt' : (i : Int) < (M.length : Int) := by omega
    have w1 := wrap_nat1 (show i < _ by have := g.m6; omega)
    have hk := g.ink i hlt
    have hR := rowI_ne (hM.row i hlt) (by have := hk.len; have := g.k2; omega)
    have g1 := hM.get (k := .i64) hlt
    have l1 := hM.ld hlt
    have al := alen_of hR
    rw [hk.len] at al
    have cb : Cbk (.fn (.func 100) [] [.ptr (palA K z)]) (ints M[i]) (fun _ => false) t.hs := by
      refine ⟨100, [], [.ptr (palA K z)], rfl, fun j hj => ?_⟩
      have hj' : j < M[i].length := by simpa [ints] using hj
      have e : (ints M[i])[j] = .int .i64 (M[i])[j] := by simp [ints]
      rw [e]
      exact p100 hM.leaf g.k7 (hk.bd _ (List.getElem_mem _)) t.hs
    simp [e1, e21, e22, e23, hlt, hlt', g1, l1, al]
    refine At.hc (p70 (Lst.of hR) cb) ?_ ?_
    rotate_left
    · rintro v hs' ⟨hv, _⟩; cases hv
    rintro v hs' ⟨hv, rfl⟩
    injection hv with hv; subst hv
    rw [any_none fun _ _ => rfl]
    simp [e23, w1]
    exact hN (i + 1) _ (by omega) ⟨by omega, by simp [e1], by simp [e21], by simp [e22], by simp⟩
  · have hlt' : ¬ (i : Int) < (M.length : Int) := by omega
    simp [e22, e23, hlt, hlt']
/-- what a sequence gives -/
def gvL (M : List (List Int)) (l : List Int) (s : Nat) : Nat := l.foldl (fun s i => prN (M.getD i.toNat []) s) s
theorem gvL_set {K : Nat} {M : List (List Int)} (g : PalK K M) : ∀ {l : List Int} {s : Nat}, (∀ a ∈ l, 0 ≤ a ∧ a < M.length) → SetK K s → SetK K (gvL M l s)
  | [], s, _, h => h
  | a :: l, s, hl, h => by
    have ha := hl a (by simp)
    have : a.toNat < M.length := by omega
    refine gvL_set g (l := l) (fun b hb => hl b (by simp [hb])) ?_
    simp only [List.getD_eq_getElem?_getD, List.getElem?_eq_getElem this, Option.getD_some]
    exact h.pr (g.ink _ this)
theorem p43 {K : Nat} {z : AV} {M : List (List Int)} (hz : asM z = some M) (g : PalK K M) {y : AV} {l : List Int} (hy : asI y = some l) (hl : ∀ a ∈ l, 0 ≤ a ∧ a < M.length) (h12 : l.length ≤ 12) : PCall Tryz.prog 43 [palA K z, y, .int .i64 12] (.int .i64 0) := by
  obtain ⟨R, hM⟩ := asM.isM hz
  obtain ⟨C, hC, k46, _⟩ := ctx_pt CtxOk.nil 46 _ _ (p46 hz g)
  have hzs := leaf_sto hM.leaf
  have hk : ¬ (12 : Int) < (l.length : Int) := by omega
  refine PCall.of hC ok43 (by simp) rfl fun hs hb => ?_
  have lp : ∀ hp, aload hp true 2 (.ptr (palA K z)) = some (palA K z) := fun hp => rfl
  simp [A43, R43, hzs, lp, k46, alen_of hy, hk]
  have cb : Cbk (.fn (.func 97) [] [.ptr (palA K z)]) (ints l) (fun _ => false) hs := by
    refine ⟨97, [], [.ptr (palA K z)], rfl, fun j hj => ?_⟩
    have hj' : j < l.length := by simpa [ints] using hj
    have e : (ints l)[j] = .int .i64 l[j] := by simp [ints]
    rw [e]
    exact p97 hz g.m6 (hl _ (List.getElem_mem _)) hs
  refine At.hc (p70 (Lst.of hy) cb) ?_ ?_
  rotate_left
  · rintro v hs' ⟨hv, _⟩; cases hv
  rintro v hs' ⟨hv, rfl⟩
  injection hv with hv; subst hv
  rw [any_none fun _ _ => rfl]
  simp
theorem pr_ifW {K s : Nat} (h : SetK K s) (hK : K ≤ 7) {x y : AV} {a b : List Int} (hx : asI x = some a) (hy : asI y = some b) (ha : InkK K a) (hb : InkK K b) (e : ifW x a = ifW y b) : prN a s = prN b s := by
  unfold ifW at e
  by_cases h1 : mx a = mn a
  · by_cases h2 : mx b = mn b
    · rw [if_pos h1, if_pos h2] at e
      injection e with _ e
      injection e with _ e
      rw [pr_const h ha hK h1, pr_const h hb hK h2, e]
    · rw [if_pos h1, if_neg h2] at e
      injection e with e _
      cases e
  · by_cases h2 : mx b = mn b
    · rw [if_neg h1, if_pos h2] at e
      injection e with e _
      cases e
    · rw [if_neg h1, if_neg h2] at e
      injection e with _ e
      subst e
      rw [hx] at hy
      injection hy with hy
      rw [hy]
theorem ctxI {K : Nat} {z : AV} {M : List (List Int)} (hz : asM z = some M) (g : PalK K M) {C0 : PCtx} (hC0 : CtxOk Tryz.prog C0) : ∃ C, CtxOk Tryz.prog C ∧ (∀ i : Nat, i < M.length → ∃ V : AV, C 48 [palA K z, .int .i64 (i : Int)] = some V ∧ ∀ s : Nat, SetK K s → C 47 [.int .u8 (s : Int), V] = some (.int .u8 ((prN (M.getD i []) s : Nat) : Int))) ∧ ∀ k, ¬ k = 48 → ¬ k = 47 → C k = C0 k := by
  have hx : ∀ i : {i : Nat // i < M.length}, ∃ x, asI x = some M[i.1] ∧ PCall Tryz.prog 48 [palA K z, .int .i64 (i.1 : Int)] (ifW x M[i.1]) := fun i => p48 hz i.2 (by have := (g.ink i.1 i.2).len; have := g.k2; omega) (K : Int)
  let X : {i : Nat // i < M.length} → AV := fun i => Classical.choose (hx i)
  have hX : ∀ i, asI (X i) = some M[i.1] ∧ PCall Tryz.prog 48 [palA K z, .int .i64 (i.1 : Int)] (ifW (X i) M[i.1]) := fun i => Classical.choose_spec (hx i)
  obtain ⟨C1, hC1, k48, n1⟩ := ctx_fam hC0 48 (fun i : {i : Nat // i < M.length} => [palA K z, .int .i64 (i.1 : Int)]) (fun i => ifW (X i) M[i.1]) (fun i => (hX i).2) (by
    rintro ⟨i, hi⟩ ⟨j, hj⟩ e
    simp only [List.cons.injEq, AV.int.injEq, and_true, true_and] at e
    have : i = j := by omega
    subst this
    rfl)
  obtain ⟨C, hC, k47, n2⟩ := ctx_fam hC1 47 (fun q : {s : Nat // SetK K s} × {i : Nat // i < M.length} => [.int .u8 (q.1.1 : Int), ifW (X q.2) (M[q.2.1]'q.2.2)]) (fun q => .int .u8 ((prN (M[q.2.1]'q.2.2) q.1.1 : Nat) : Int)) (fun q => p47 q.1.2 g.k7 (hX q.2).1 (g.ink q.2.1 q.2.2)) (by
    rintro ⟨⟨s, hs⟩, i⟩ ⟨⟨t, ht⟩, j⟩ e
    simp only [List.cons.injEq, AV.int.injEq, and_true, true_and] at e
    obtain ⟨e1, e2⟩ := e
    have : s = t := by omega
    subst this
    simp only
    rw [pr_ifW hs g.k7 (hX i).1 (hX j).1 (g.ink i.1 i.2) (g.ink j.1 j.2) e2])
  refine ⟨C, hC, fun i hi => ⟨ifW (X ⟨i, hi⟩) M[i], ?_, fun s hs => ?_⟩, fun k a b => by rw [n2 k b, n1 k a]⟩
  · rw [n2 48 (by decide)]; exact k48 ⟨i, hi⟩
  · have := k47 (⟨s, hs⟩, ⟨i, hi⟩)
    simp only [List.getD_eq_getElem?_getD, List.getElem?_eq_getElem hi, Option.getD_some]
    exact this
theorem paper {K : Nat} (h : 1 ≤ K) : SetK K 1 := ⟨rfl, fun b hb => by
  have : b = 0 := by
    have := hb
    rw [tb] at this
    simp only [decide_eq_true_eq] at this
    rcases Nat.eq_zero_or_pos b with h | h
    · exact h
    · have h2 : 2 ≤ 2 ^ b := by
        have := Nat.pow_le_pow_right (n := 2) (by decide) h
        simpa using this
      rw [Nat.div_eq_of_lt (by omega)] at this
      simp at this
  omega⟩
theorem gv_take {M : List (List Int)} {l : List Int} {i : Nat} (h : i < l.length) (s : Nat) : gvL M (l.take (i + 1)) s = prN (M.getD (l[i]).toNat []) (gvL M (l.take i) s) := by
  unfold gvL
  rw [take_snoc h, List.foldl_append]; rfl
theorem p44 {K : Nat} {z : AV} {M : List (List Int)} (hz : asM z = some M) (g : PalK K M) {y : AV} {l : List Int} (hy : asI y = some l) (hl : ∀ a ∈ l, 0 ≤ a ∧ a < M.length) (h12 : l.length ≤ 12) : PCall Tryz.prog 44 [palA K z, y] (.int .u8 ((gvL M l 1 : Nat) : Int)) := by
  obtain ⟨C, hC, kI, _⟩ := ctxI hz g CtxOk.nil
  obtain ⟨R, hM⟩ := asM.isM hz
  have hzs := leaf_sto hM.leaf
  refine PCall.of hC ok44 (by simp) rfl fun hs hb => ?_
  have lp : ∀ hp, aload hp true 2 (.ptr (palA K z)) = some (palA K z) := fun hp => rfl
  simp [A44, R44, hzs, alen_of hy]
  refine At.loop (fun (i : Nat) t => i ≤ l.length ∧ t.env 2 = .ptr (palA K z) ∧ t.env 5 = .int .u8 ((gvL M (l.take i) 1 : Nat) : Int) ∧ t.env 8 = y ∧ t.env 9 = .int .i64 (l.length : Int) ∧ t.env 10 = .int .i64 (i : Int)) (fun i => l.length - i) 0 ?_ ?_
  · simp [gvL]
  rintro N i t hN ⟨hi, e2, e5, e8, e9, e10⟩
  by_cases hlt : i < l.length
  · have hlt' : (i : Int) < (l.length : Int) := by omega
    have w1 := wrap_nat1 (show i < _ by omega)
    have ix := aidx_nat hy (k := .i64) hlt
    have hli := hl l[i] (List.getElem_mem hlt)
    obtain ⟨j, hj⟩ : ∃ j : Nat, l[i] = (j : Int) := ⟨(l[i]).toNat, by omega⟩
    obtain ⟨V, k48, k47⟩ := kI j (by omega)
    have hst := gvL_set g (l := l.take i) (fun a ha => hl a (List.mem_of_mem_take ha)) (paper (K := K) (by have := g.k2; omega))
    have hgt := gv_take (M := M) hlt 1
    rw [hj, Int.toNat_natCast] at hgt
    have k47 := k47 _ hst
    rw [← hgt] at k47
    rw [hj] at ix
    generalize gvL M (l.take i) 1 = S at *
    generalize hS2 : gvL M (l.take (i + 1)) 1 = S2 at *
    simp [e2, e5, e8, e9, e10, hlt, hlt', ix, lp, k48, k47, w1]
    exact hN (i + 1) _ (by omega) ⟨by omega, by simp [e2], by simp [hS2], by simp [e8], by simp [e9], by simp⟩
  · have hlt' : ¬ (i : Int) < (l.length : Int) := by omega
    have : i = l.length := by omega
    rw [this, List.take_length] at e5
    simp [e5, e9, e10, hlt, hlt']
theorem p14 {K : Nat} {z : AV} {M : List (List Int)} (hz : asM z = some M) (g : PalK K M) {y : AV} {l : List Int} (hy : asI y = some l) (hl : ∀ a ∈ l, 0 ≤ a ∧ a < M.length) (h12 : l.length ≤ 12) : PCall Tryz.prog 14 [palA K z, y] (.tup [outV 1 (ints (lsN (gvL M l 1))), .int .i64 0]) := by
  obtain ⟨R, hM⟩ := asM.isM hz
  have hzs := leaf_sto hM.leaf
  have hst := gvL_set g hl (paper (K := K) (by have := g.k2; omega))
  have hs8 : gvL M l 1 < 256 := Nat.lt_of_lt_of_le hst.lt (Nat.pow_le_pow_right (by decide) (show K ≤ 8 by have := g.k7; omega))
  obtain ⟨C1, hC1, k43, _⟩ := ctx_pt CtxOk.nil 43 _ _ (p43 hz g hy hl h12)
  obtain ⟨C2, hC2, k44, n2⟩ := ctx_pt hC1 44 _ _ (p44 hz g hy hl h12)
  obtain ⟨C, hC, k45, n3⟩ := ctx_pt hC2 45 _ _ (p45 hs8)
  have k43 : C 43 [palA K z, y, .int .i64 12] = some (.int .i64 0) := by rw [n3 43 (by decide), n2 43 (by decide)]; exact k43
  have k44 : C 44 [palA K z, y] = some (.int .u8 ((gvL M l 1 : Nat) : Int)) := by rw [n3 44 (by decide)]; exact k44
  generalize gvL M l 1 = S at *
  refine PCall.of hC ok14 (by simp) (by simp [AV.plain, plainL, outI_plain]) fun hs hb => ?_
  have lp : ∀ hp, aload hp true 2 (.ptr (palA K z)) = some (palA K z) := fun hp => rfl
  simp [A14, R14, hzs, lp, k43, k44, k45, outI_share]
end Go.Proofs.YtdcpkgedaflnmaaGreatDoor.Ik
set_option linter.unusedVariables false
set_option linter.unusedSimpArgs false
namespace Go.Proofs.YtdcpkgedaflnmaaGreatDoor.Ik
open Go Fw Se

/-- the numbers of the inks -/
def ixs (M : List (List Int)) : List Int := (List.range M.length).map fun (i : Nat) => (i : Int)
theorem ixs_len (M : List (List Int)) : (ixs M).length = M.length := by simp [ixs]
theorem ixs_get {M : List (List Int)} {i : Nat} (h : i < (ixs M).length) : (ixs M)[i] = (i : Int) := by simp [ixs]
theorem ixs_bd {M : List (List Int)} : ∀ a ∈ ixs M, 0 ≤ a ∧ a < M.length := fun a ha => by
  obtain ⟨i, hi, rfl⟩ := List.mem_map.1 ha
  have := List.mem_range.1 hi
  omega
theorem pr_ge (l : List Int) (s : Nat) : s ≤ prN l s := by
  unfold prN
  generalize lsN s = cs
  unfold prL
  induction cs generalizing s with
  | nil => exact Nat.le_refl _
  | cons c cs ih => exact Nat.le_trans Nat.left_le_or (ih _)
theorem gv_ge (M : List (List Int)) : ∀ (l : List Int) (s : Nat), s ≤ gvL M l s
  | [], s => Nat.le_refl _
  | a :: l, s => Nat.le_trans (pr_ge _ s) (gv_ge M l _)
theorem gv_fix {M : List (List Int)} : ∀ {l : List Int} {s : Nat}, gvL M l s = s → ∀ a ∈ l, prN (M.getD a.toNat []) s = s
  | [], s, h, a, ha => by simp at ha
  | b :: l, s, h, a, ha => by
    have h1 := pr_ge (M.getD b.toNat []) s
    have h2 := gv_ge M l (prN (M.getD b.toNat []) s)
    have h3 : gvL M (b :: l) s = gvL M l (prN (M.getD b.toNat []) s) := rfl
    have e : prN (M.getD b.toNat []) s = s := by omega
    rcases List.mem_cons.1 ha with rfl | ha
    · exact e
    · rw [h3, e] at h
      exact gv_fix h a ha
/-- sets round by round -/
def sq (M : List (List Int)) : Nat → Nat
  | 0 => 1
  | k + 1 => gvL M (ixs M) (sq M k)
theorem sq_set {K : Nat} {M : List (List Int)} (g : PalK K M) : ∀ k, SetK K (sq M k)
  | 0 => paper (by have := g.k2; omega)
  | k + 1 => gvL_set g ixs_bd (sq_set g k)
theorem sq_stop {K : Nat} {M : List (List Int)} (g : PalK K M) : ∃ k, sq M (k + 1) = sq M k ∧ ∀ j, j < k → ¬ sq M (j + 1) = sq M j := by
  have hex : ∃ k, sq M (k + 1) = sq M k := by
    refine Classical.byContradiction fun hno => ?_
    have hgt : ∀ k, k < sq M k := by
      intro k
      induction k with
      | zero => exact Nat.one_pos
      | succ k ih =>
        have h1 : sq M k ≤ sq M (k + 1) := gv_ge M _ _
        have h2 : ¬ sq M (k + 1) = sq M k := fun e => hno ⟨k, e⟩
        omega
    have h1 := hgt 256
    have h2 := (sq_set g 256).lt
    have h3 : 2 ^ K ≤ 2 ^ 7 := Nat.pow_le_pow_right (by decide) g.k7
    omega
  obtain ⟨k, h⟩ := hex
  induction k using Nat.strongRecOn with
  | ind k ih =>
    by_cases hh : ∃ j, j < k ∧ sq M (j + 1) = sq M j
    · obtain ⟨j, h1, h2⟩ := hh
      exact ih j h1 h2
    · exact ⟨k, h, fun j h1 h2 => hh ⟨j, h1, h2⟩⟩
set_option maxHeartbeats 1000000 in
theorem p15 {K : Nat} {z : AV} {M : List (List Int)} (hz : asM z = some M) (g : PalK K M) : ∃ E, SetK K E ∧ (∀ i, i < M.length → prN (M.getD i []) E = E) ∧ PCall Tryz.prog 15 [palA K z] (.tup [outV 1 (ints (lsN E)), .int .i64 0]) := by
  obtain ⟨k0, hk0, hk1⟩ := sq_stop g
  refine ⟨sq M k0, sq_set g k0, fun i hi => ?_, ?_⟩
  · have := gv_fix (M := M) (l := ixs M) (s := sq M k0) hk0 (i : Int) (List.mem_map.2 ⟨i, List.mem_range.2 hi, rfl⟩)
    simpa using this
  have hs8 : ∀ k, sq M k < 256 := fun k => Nat.lt_of_lt_of_le (sq_set g k).lt (Nat.pow_le_pow_right (by decide) (show K ≤ 8 by have := g.k7; omega))
  obtain ⟨C1, hC1, k46, _⟩ := ctx_pt CtxOk.nil 46 _ _ (p46 hz g)
  obtain ⟨C2, hC2, k45, n2⟩ := ctx_pt hC1 45 _ _ (p45 (hs8 k0))
  obtain ⟨C, hC, kI, n3⟩ := ctxI hz g hC2
  have k46 : C 46 [palA K z] = some (.int .i64 0) := by rw [n3 46 (by decide) (by decide), n2 46 (by decide)]; exact k46
  have k45 : C 45 [.int .u8 (sq M k0 : Int)] = some (outV 1 (ints (lsN (sq M k0)))) := by rw [n3 45 (by decide) (by decide)]; exact k45
  obtain ⟨R, hM⟩ := asM.isM hz
  have hzs := leaf_sto hM.leaf
  have l0 := leaf_ld hM.leaf
  have hm6 := g.m6
  refine PCall.of hC ok15 (by simp) (by simp [AV.plain, plainL, outI_plain]) fun hs hb => ?_
  have lp : ∀ hp, aload hp true 2 (.ptr (palA K z)) = some (palA K z) := fun hp => rfl
  simp only [A15, R15]
  rw [At.awp_seq]
  simp [hzs, -At.awp_seq]
  rw [At.awp_seq, At.awp_seq]
  simp [lp, k46, -At.awp_seq]
  rw [At.awp_seq]
  simp [-At.awp_seq]
  rw [At.awp_seq]
  simp [-At.awp_seq]
  rw [At.awp_seq]
  refine At.cut (fun s => s.env 5 = .int .u8 (sq M k0 : Int)) ?_ ?_
  rotate_left
  · intro s e5
    simp [e5, k45, outI_share]
  simp
  refine At.loop (fun (k : Nat) s => k ≤ k0 + 1 ∧ s.env 1 = .ptr (palA K z) ∧ s.env 5 = .int .u8 (sq M k : Int) ∧ s.env 6 = .int .u8 (if k = 0 then 0 else sq M (k - 1) : Nat)) (fun k => k0 + 1 - k) 0 ?_ ?_
  · simp [sq]
  rintro N k s hN ⟨hk, e1, e5, e6⟩
  by_cases hkk : k = k0 + 1
  · have he : sq M k = sq M k0 := by rw [hkk]; exact hk0
    rw [if_neg (by omega), show k - 1 = k0 by omega] at e6
    rw [he] at e5
    simp [e5, e6]
  have hne : ¬ sq M k = (if k = 0 then 0 else sq M (k - 1)) := by
    by_cases h0 : k = 0
    · rw [if_pos h0, h0]; exact Nat.one_ne_zero
    · rw [if_neg h0]
      have := hk1 (k - 1) (by omega)
      rwa [show k - 1 + 1 = k by omega] at this
  have hst := sq_set g k
  obtain ⟨P, hP⟩ : ∃ P, P = (if k = 0 then 0 else sq M (k - 1)) := ⟨_, rfl⟩
  rw [← hP] at e6 hne
  have hne' : ¬ (sq M k : Int) = (P : Int) := by omega
  have hnext : sq M (k + 1) = gvL M (ixs M) (sq M k) := rfl
  have fin : ∀ s' : AS, s'.env 1 = .ptr (palA K z) → s'.env 5 = .int .u8 (gvL M (ixs M) (sq M k) : Int) → s'.env 6 = .int .u8 (sq M k : Int) → At (N s') := fun s' g1 g5 g6 => hN (k + 1) s' (by omega) ⟨by omega, g1, by rw [hnext]; exact g5, by rw [if_neg (by omega), Nat.add_sub_cancel]; exact g6⟩
  generalize sq M k = S at *
  simp [e5, e6, hne, hne', e1, l0, hM.len]
  refine At.loop (fun (i : Nat) s => i ≤ M.length ∧ s.env 1 = .ptr (palA K z) ∧ s.env 5 = .int .u8 (gvL M ((ixs M).take i) S : Int) ∧ s.env 6 = .int .u8 (S : Int) ∧ s.env 19 = .int .i64 (M.length : Int) ∧ s.env 20 = .int .i64 (i : Int)) (fun i => M.length - i) 0 ?_ ?_
  · simp [gvL, e1, e5]
  rintro N2 i s hN2 ⟨hi, e1, e5, e6, e19, e20⟩
  by_cases hlt : i < M.length
  · have hlt' : (i : Int) < (M.length : Int) := by omega
    have w1 := wrap_nat1 (show i < _ by omega)
    obtain ⟨V, k48, k47⟩ := kI i hlt
    have hst2 := gvL_set g (l := (ixs M).take i) (fun a ha => ixs_bd a (List.mem_of_mem_take ha)) hst
    have hgt := gv_take (M := M) (l := ixs M) (i := i) (by rw [ixs_len]; exact hlt) S
    rw [ixs_get, Int.toNat_natCast] at hgt
    have k47 := k47 _ hst2
    rw [← hgt] at k47
    generalize gvL M ((ixs M).take i) S = T at *
    generalize hT2 : gvL M ((ixs M).take (i + 1)) S = T2 at *
    simp [e1, e5, e6, e19, e20, hlt, hlt', lp, k48, k47, w1]
    exact hN2 (i + 1) _ (by omega) ⟨by omega, by simp [e1], by simp [hT2], by simp [e6], by simp [e19], by simp⟩
  · have hlt' : ¬ (i : Int) < (M.length : Int) := by omega
    have : i = M.length := by omega
    rw [this, List.take_of_length_le (by rw [ixs_len]; exact Nat.le_refl _)] at e5
    simp [e19, e20, hlt, hlt']
    exact fin _ (by simp [e1]) (by simp [e5]) (by simp [e6])
end Go.Proofs.YtdcpkgedaflnmaaGreatDoor.Ik
