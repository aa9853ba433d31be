/-
  Chains as strips: the plain law. Own work.
  Chains as strips: the law's contract. Own work.
  Chains as strips: whatever the arguments. Own work.
-/
import Derived.Test.YtdcpkgedaflnmaaDoorGA
import Derived.Test.YtdcpkgedaflnmaaDoorG9
import Derived.Test.YtdcpkgedaflnmaaDoorFx5
import Derived.Test.YtdcpkgedaflnmaaDoorFx4
set_option linter.unusedVariables false
set_option linter.unusedSimpArgs false
namespace Go.Proofs.YtdcpkgedaflnmaaDoor
open Go Fw
open Se (gI)

theorem way_some {l : List Int} {n : Int} : ∀ {M m : Nat}, m < M → (n - l.getD m 0) ∈ l.take (m + 1) → (Tr.wayFrom l n M).isSome = true
  | 0, m, h, _ => by omega
  | M + 1, m, h, hm => by
    unfold Tr.wayFrom
    split
    · rfl
    · rename_i hc
      rcases Nat.lt_or_ge m M with h' | h'
      · exact way_some h' hm
      · have : m = M := by omega
        subst this
        exact absurd hm hc
theorem gr_chk {l : List Int} (h : Gr 7 l) : Tr.chk l = 0 := by
  have hp := h.pos
  have hl := h.len
  have hgd : ∀ i, l.getD i 0 = gI l i := fun i => rfl
  unfold Tr.chk
  rw [if_neg (by omega), if_neg (by omega)]
  have hs : firstE (Tr.scanAt l) l.length = 0 := firstE_zero fun k hk => by
    unfold Tr.scanAt
    have hb := h.bd _ (gI_mem hk)
    rw [hgd, if_pos (by simp [Tr.btw, hb])]
    rw [if_neg]
    rintro ⟨h0, hle⟩
    rw [hgd, Se.gI_of hk, Se.gI_of (show k - 1 < l.length by omega)] at hle
    have := List.pairwise_iff_getElem.1 h.sorted (k - 1) k (by omega) hk (by omega)
    omega
  rw [hs, if_neg (by simp), hgd, h.one, if_neg (by simp)]
  refine firstE_zero fun k hk => ?_
  unfold Tr.proofAt
  rw [if_pos]
  rcases Nat.eq_zero_or_pos k with h0 | h0
  · exact .inl h0
  · right
    obtain ⟨a, b, q1, q2, q3⟩ := h.sum k h0 hk
    have hb : b < (l.take k).length := by rw [List.length_take]; omega
    have ha : a < (l.take k).length := by rw [List.length_take]; omega
    have eb : (l.take k).getD b 0 = gI l b := by rw [List.getD_eq_getElem?_getD, List.getElem?_take, if_pos q2]; rfl
    have ea : (l.take k)[a] = gI l a := by rw [List.getElem_take, Se.gI_of (by omega)]
    refine way_some (m := b) hb ?_
    rw [hgd, eb, q3, show gI l a + gI l b - gI l b = gI l a by omega, ← ea]
    exact List.mem_take_iff_getElem.2 ⟨a, by omega, rfl⟩

/-! strips -/
theorem fgI (l : List Int) (i : Nat) : Fo.gI l i = gI l i := rfl
/-- steps so far, and what they leave -/
structure Rn (l : List Int) (f : List UInt8) (ss l2 : List Int) (f2 : List UInt8) : Prop where
  ck : Fo.chk l2 f2 = 0
  run : Fo.runS l f ss = (0, l2, f2)
  fla : Fo.Fla l f ↔ Fo.Fla l2 f2
theorem Rn.nil {l : List Int} {f : List UInt8} (hc : Fo.chk l f = 0) : Rn l f [] l f := ⟨hc, by unfold Fo.runS; rw [hc]; rfl, Iff.rfl⟩
theorem Rn.step {l l2 ss : List Int} {f f2 : List UInt8} (h : Rn l f ss l2 f2) {i : Nat} (hi : i < l2.length) (hcan : Fo.canB l2 f2 i = true) : Rn l f (ss ++ [(i : Int)]) (Fo.stepL l2 f2 i).1 (Fo.stepL l2 f2 i).2 := by
  obtain ⟨c1, c2⟩ := Fo.chk_step h.ck hi hcan
  refine ⟨c1, ?_, h.fla.trans (Fo.step_flat h.ck hi hcan)⟩
  rw [Fo.runS_snoc, h.run, if_pos rfl]; exact Fo.doR_of h.ck hi hcan
/-- what the law says of a strip that steps lead to one segment -/
structure Flt (l : List Int) (f : List UInt8) (ss : List Int) : Prop where
  ck : Fo.chk l f = 0
  ver : Fo.verE l f ss = 0
  ne : Fo.foldL l f ≠ []
  one : (Fo.redS l.length l f).2.1.length = 1
theorem Rn.flt {l l2 ss : List Int} {f f2 : List UInt8} (h : Rn l f ss l2 f2) (hc : Fo.chk l f = 0) (h1 : l2.length = 1) : Flt l f ss := by
  have hf : Fo.Fla l f := h.fla.2 (Fo.flat_one h1)
  have hne := (Fo.flat_iff hc).2 hf
  refine ⟨hc, ?_, hne, (Fo.red_one hc).2 hne⟩
  unfold Fo.verE
  rw [h.run, if_neg (by simp [h1])]
/-- ascending: the first segment is folded in -/
theorem can_fwd {l : List Int} {f : List UInt8} (h2 : 2 ≤ l.length) (hs : gI l 0 ≤ gI l 1) : Fo.canB l f 0 = true := by
  have e1 : decide (l.length = 1) = false := decide_eq_false (by omega)
  have e2 : decide (Fo.gI l (0 + 1) < Fo.gI l 0) = false := decide_eq_false (by show ¬ gI l 1 < gI l 0; omega)
  unfold Fo.canB
  rw [e1, e2]
  simp
theorem can_bwd {l : List Int} {f : List UInt8} (h2 : 2 ≤ l.length) (hs : gI l (l.length - 1) ≤ gI l (l.length - 2)) : Fo.canB l f (l.length - 1) = true := by
  have e0 : l.length - 1 - 1 = l.length - 2 := by omega
  have e1 : decide (l.length = 1) = false := decide_eq_false (by omega)
  have e2 : decide (Fo.gI l (l.length - 1 - 1) < Fo.gI l (l.length - 1)) = false := decide_eq_false (by show ¬ gI l (l.length - 1 - 1) < gI l (l.length - 1); rw [e0]; omega)
  have e3 : decide (l.length - 1 + 1 < l.length) = false := decide_eq_false (by omega)
  have e4 : decide (l.length - 1 + 1 = l.length) = true := decide_eq_true (by omega)
  unfold Fo.canB
  rw [e1, e2, e3, e4]
  simp
theorem gI_drop {l : List Int} {k i : Nat} : gI (l.drop k) i = gI l (k + i) := by simp [gI, List.getD, List.getElem?_drop]
theorem gI_take {l : List Int} {k i : Nat} (h : i < k) : gI (l.take k) i = gI l i := by simp [gI, List.getD, List.getElem?_take, h]
theorem run_fwd {l : List Int} {f : List UInt8} (hc : Fo.chk l f = 0) (hs : ∀ i, i + 1 < l.length → gI l i ≤ gI l (i + 1)) : ∀ k, k + 1 ≤ l.length → Rn l f (List.replicate k 0) (l.drop k) (f.drop k)
  | 0, _ => by simpa using Rn.nil hc
  | k + 1, h => by
    have ih := run_fwd hc hs k (by omega)
    have hl : (l.drop k).length = l.length - k := by simp
    have hcan := can_fwd (l := l.drop k) (f := f.drop k) (by omega) (by rw [gI_drop, gI_drop]; exact hs k (by omega))
    have := ih.step (i := 0) (by omega) hcan
    have e : Fo.stepL (l.drop k) (f.drop k) 0 = (l.drop (k + 1), f.drop (k + 1)) := by
      unfold Fo.stepL; rw [if_pos rfl, List.drop_drop, List.drop_drop]
    rw [e] at this
    have e2 : List.replicate (k + 1) (0 : Int) = List.replicate k 0 ++ [((0 : Nat) : Int)] := by rw [List.replicate_succ']; rfl
    rw [e2]; exact this
/-- the last places, one after the other -/
def bwd (n k : Nat) : List Int := (List.range k).map fun j => ((n - (j + 1) : Nat) : Int)
theorem bwd_succ (n k : Nat) : bwd n (k + 1) = bwd n k ++ [((n - (k + 1) : Nat) : Int)] := by simp [bwd, List.range_succ]
theorem run_bwd {l : List Int} {f : List UInt8} (hc : Fo.chk l f = 0) (hs : ∀ i, i + 1 < l.length → gI l (i + 1) ≤ gI l i) : ∀ k, k + 1 ≤ l.length → Rn l f (bwd l.length k) (l.take (l.length - k)) (f.take (l.length - 1 - k))
  | 0, _ => by
    have hf := (Fo.chk_0 hc).2.1
    rw [Nat.sub_zero, Nat.sub_zero, List.take_length, List.take_of_length_le (by omega)]
    exact Rn.nil hc
  | k + 1, h => by
    have ih := run_bwd hc hs k (by omega)
    have hl : (l.take (l.length - k)).length = l.length - k := by rw [List.length_take]; omega
    have hcan := can_bwd (l := l.take (l.length - k)) (f := f.take (l.length - 1 - k)) (by omega) (by
      rw [hl, gI_take (by omega), gI_take (by omega)]
      have := hs (l.length - k - 2) (by omega)
      rw [show l.length - k - 2 + 1 = l.length - k - 1 by omega] at this
      exact this)
    have := ih.step (by omega) hcan
    have e : Fo.stepL (l.take (l.length - k)) (f.take (l.length - 1 - k)) ((l.take (l.length - k)).length - 1) = (l.take (l.length - (k + 1)), f.take (l.length - 1 - (k + 1))) := by
      unfold Fo.stepL
      rw [if_neg (by omega), if_pos (by omega), hl, List.take_take, List.take_take, Nat.min_eq_left (by omega), Nat.min_eq_left (by omega)]
      congr 2 <;> omega
    rw [e, hl] at this
    rw [bwd_succ, show l.length - (k + 1) = l.length - k - 1 by omega] at *
    exact this
/-- creases by a number -/
def crF (g n : Nat) : List UInt8 := (List.range n).map fun j => if g / 2 ^ (j + 1) % 2 = 0 then 109 else 118
theorem crF_succ (g n : Nat) : crF g (n + 1) = crF g n ++ [if g / 2 ^ (n + 1) % 2 = 0 then 109 else 118] := by simp [crF, List.range_succ]
theorem crF_len (g n : Nat) : (crF g n).length = n := by simp [crF]
theorem sum_bd : ∀ {l : List Int} {b : Int}, (∀ a ∈ l, 1 ≤ a ∧ a ≤ b) → l.sum ≤ b * l.length
  | [], b, _ => by simp
  | a :: l, b, h => by
    have h1 := h a (by simp)
    have h2 := sum_bd (l := l) (b := b) fun c hc => h c (by simp [hc])
    rw [List.sum_cons, List.length_cons, Int.natCast_add, Int.mul_add]
    simp
    omega
theorem strip_chk {l : List Int} (h1 : 1 ≤ l.length) (h7 : l.length ≤ 7) (hb : ∀ a ∈ l, 1 ≤ a ∧ a ≤ 46) (g : Nat) : Fo.chk l (crF g (l.length - 1)) = 0 := by
  have hs := sum_bd hb
  have hm : Fo.meas l = 0 := by
    unfold Fo.meas
    rw [if_neg (by omega), if_neg (by omega), if_pos, if_neg (by omega)]
    refine List.all_eq_true.2 fun a ha => ?_
    have := hb a ha
    simp only [Fo.btw, Bool.and_eq_true, decide_eq_true_eq]
    omega
  have hv : Fo.fmv (crF g (l.length - 1)) = true := by
    refine List.all_eq_true.2 fun c hc => ?_
    simp only [crF, List.mem_map] at hc
    obtain ⟨j, _, rfl⟩ := hc
    split <;> rfl
  unfold Fo.chk
  rw [if_neg (by simp [hm]), if_pos ⟨crF_len _ _, hv⟩]
/-- the law's strip -/
def stL (l : List Int) (back : Bool) : List Int := if back = true then l.reverse else l
def stS (n : Nat) (back : Bool) (k : Nat) : List Int := if back = true then bwd n k else List.replicate k 0
theorem stL_len (l : List Int) (b : Bool) : (stL l b).length = l.length := by unfold stL; split <;> simp
theorem gI_rev {l : List Int} {i : Nat} (h : i < l.length) : gI l.reverse i = gI l (l.length - 1 - i) := by
  rw [Se.gI_of (by simpa using h), Se.gI_of (by omega), List.getElem_reverse]
theorem asc_get {l : List Int} (h : l.Pairwise (· < ·)) {i : Nat} (hi : i + 1 < l.length) : gI l i ≤ gI l (i + 1) := by
  rw [Se.gI_of (by omega), Se.gI_of hi]
  exact Int.le_of_lt (List.pairwise_iff_getElem.1 h i (i + 1) (by omega) hi (by omega))
theorem st_flt {l : List Int} (h : Gr 7 l) (b : Bool) (g : Nat) : Flt (stL l b) (crF g (l.length - 1)) (stS l.length b (l.length - 1)) := by
  have hp := h.pos
  have hl := h.len
  cases b with
  | false =>
    have hc := strip_chk hp hl h.bd g
    have := run_fwd hc (fun i hi => asc_get h.sorted hi) (l.length - 1) (by omega)
    exact this.flt hc (by rw [List.length_drop]; omega)
  | true =>
    have e : l.reverse.length = l.length := by simp
    have hc := strip_chk (l := l.reverse) (by omega) (by omega) (fun a ha => h.bd a (by simpa using ha)) g
    rw [e] at hc
    have := run_bwd hc (fun i hi => by
      rw [e] at hi
      rw [gI_rev (by omega), gI_rev (by omega)]
      have := asc_get h.sorted (i := l.length - 1 - (i + 1)) (by omega)
      rw [show l.length - 1 - (i + 1) + 1 = l.length - 1 - i by omega] at this
      exact this) (l.length - 1) (by omega)
    rw [e] at this
    exact this.flt hc (by rw [List.length_take]; omega)
/-- the end that can be folded in -/
def endP (n : Nat) (b : Bool) : Nat := if b = true then n - 1 else 0
theorem st_can {l : List Int} (h : Gr 7 l) (b : Bool) (f : List UInt8) : if l.length = 1 then Fo.canL (stL l b) f l.length = [] else ((endP l.length b : Nat) : Int) ∈ Fo.canL (stL l b) f l.length := by
  have hp := h.pos
  split
  · rename_i h1
    unfold Fo.canL
    rw [h1]
    have : Fo.canB (stL l b) f 0 = false := by
      unfold Fo.canB
      have : decide ((stL l b).length = 1) = true := by rw [stL_len]; simpa using h1
      rw [this]; rfl
    simp [List.range_succ, this]
  · rename_i h1
    unfold Fo.canL
    refine List.mem_map.2 ⟨endP l.length b, List.mem_filter.2 ⟨List.mem_range.2 (by unfold endP; split <;> omega), ?_⟩, rfl⟩
    cases b with
    | false =>
      exact can_fwd (by simp [stL]; omega) (by simpa [stL] using asc_get h.sorted (i := 0) (by omega))
    | true =>
      have e : l.reverse.length = l.length := by simp
      have := can_bwd (l := l.reverse) (f := f) (by omega) (by
        rw [e, gI_rev (by omega), gI_rev (by omega)]
        have := asc_get h.sorted (i := 0) (by omega)
        rw [show l.length - 1 - (l.length - 1) = 0 by omega, show l.length - 1 - (l.length - 2) = 1 by omega]
        exact this)
      rw [e] at this
      exact this
end Go.Proofs.YtdcpkgedaflnmaaDoor
set_option linter.unusedVariables false
set_option linter.unusedSimpArgs false
namespace Go.Proofs.YtdcpkgedaflnmaaDoor
open Go Fw
open Se (gI)

/-- the answers that the law reads -/
theorem ctx5 {x : AV} {ps : List (Nat × Nat)} (hx : IsP8 x ps) {L : List Int} {F : List UInt8} {ss : List Int} (h : Flt L F ss) (hg : Gr 7 (grw 7 ps)) (hl : L.length ≤ 7) :
    ∃ C : PCtx, CtxOk Tryd.prog C ∧ C 17 [x, .int .i64 7] = some (grV (grw 7 ps)) ∧ C 18 [grV (grw 7 ps)] = some (.int .i64 0) ∧ C 16 [] = some (.bool true) ∧
      C 20 [.agg [.sl 1 (ints L) .shared, .str (bs F)]] = some (Fo.cntV L F) ∧ C 21 [.agg [.sl 1 (ints L) .shared, .str (bs F)]] = some (Fo.canV L F) ∧ C 22 [.agg [.sl 1 (ints L) .shared, .str (bs F)]] = some (Fo.stkV L F) ∧
      ∀ y, asI y = some ss → C 23 [.agg [.sl 1 (ints L) .shared, .str (bs F)], y] = some (.int .i64 0) := by
  have hi : asI (.sl 1 (ints L) .shared) = some L := asI_sl (by omega)
  have hg2 : Gr 1000 (grw 7 ps) := ⟨hg.pos, by have := hg.len; omega, hg.one, hg.bd, hg.sorted, hg.sum⟩
  have h18 := Tr.p21 (grV_as hg2)
  rw [gr_chk hg] at h18
  obtain ⟨C1, hC1, k17, _⟩ := ctx_pt CtxOk.nil 17 _ _ (p17 hx (most := 7) (by decide) (by decide))
  obtain ⟨C2, hC2, k18, n2⟩ := ctx_pt hC1 18 _ _ h18
  obtain ⟨C3, hC3, k16, n3⟩ := ctx_pt hC2 16 _ _ Cw.p16
  obtain ⟨C4, hC4, k20, n4⟩ := ctx_pt hC3 20 _ _ (Fo.p25 hi F)
  obtain ⟨C5, hC5, k21, n5⟩ := ctx_pt hC4 21 _ _ (Fo.p30 hi F)
  obtain ⟨C6, hC6, k22, n6⟩ := ctx_pt hC5 22 _ _ (Fo.p37 hi F)
  obtain ⟨C, hC, k23, n7⟩ := ctx_fam hC6 23 (fun y : {y : AV // asI y = some ss} => [.agg [.sl 1 (ints L) .shared, .str (bs F)], y.1]) (fun _ => .int .i64 0) (fun y => by have := Fo.p34 hi F y.2; rwa [h.ver] at this) (fun _ _ _ => rfl)
  refine ⟨C, hC, ?_, ?_, ?_, ?_, ?_, ?_, fun y hy => k23 ⟨y, hy⟩⟩
  · rw [n7 17 (by decide), n6 17 (by decide), n5 17 (by decide), n4 17 (by decide), n3 17 (by decide), n2 17 (by decide)]; exact k17
  · rw [n7 18 (by decide), n6 18 (by decide), n5 18 (by decide), n4 18 (by decide), n3 18 (by decide)]; exact k18
  · rw [n7 16 (by decide), n6 16 (by decide), n5 16 (by decide), n4 16 (by decide)]; exact k16
  · rw [n7 20 (by decide), n6 20 (by decide), n5 20 (by decide)]; exact k20
  · rw [n7 21 (by decide), n6 21 (by decide)]; exact k21
  · rw [n7 22 (by decide)]; exact k22
/-- what stays through the loop that builds the strip -/
structure D5 (g : Nat) (b : Bool) (l : List Int) (b9 : Nat) (i : Nat) (y d : AV) (L S : List Int) (k : Nat) (s : AS) : Prop where
  e1 : s.env 1 = .int .u8 (g : Int)
  e2 : s.env 2 = .bool b
  e7 : s.env 7 = grV l
  e8 : s.env 8 = .int .i64 (l.length : Int)
  e9 : s.env 9 = .ref b9 0
  e10 : s.env 10 = d
  e30 : s.env 30 = grV l
  e31 : s.env 31 = .int .i64 (l.length : Int)
  e32 : s.env 32 = .int .i64 (i : Int)
  hb : s.hs.heap b9 = some [y, .str (bs (crF g k))]
  nh : b9 < s.hs.nh
  os : OsJ (b9 + 1) s.hs y L d S
def K5 (g : Nat) (b : Bool) (l : List Int) (b9 i : Nat) (d : AV) (L S : List Int) (k : Nat) (s : AS) : Prop := ∃ y, D5 g b l b9 i y d L S k s ∧ s.env 11 = .int .i64 (i : Int)
def J5 (g : Nat) (b : Bool) (l : List Int) (b9 : Nat) (s : AS) : Prop := ∃ y d, D5 g b l b9 l.length y d (stL l b) (stS l.length b (l.length - 1)) (l.length - 1) s
theorem stS_succ (n : Nat) (b : Bool) (k : Nat) : stS n b (k + 1) = stS n b k ++ [if b = true then ((n - (k + 1) : Nat) : Int) else 0] := by
  unfold stS
  cases b with
  | true => simp [bwd_succ]
  | false => simp [List.replicate_succ']
theorem take_set {L : List Int} {i : Nat} (h : i < L.length) (v : Int) : (L.take i ++ [v]).set i (gI L i) = L.take (i + 1) := by
  rw [List.set_append_right _ _ (by rw [List.length_take]; omega)]
  rw [take_snoc h, Se.gI_of h]
  congr 1
  have : i - (L.take i).length = 0 := by rw [List.length_take]; omega
  rw [this]; rfl
set_option maxHeartbeats 1000000 in
theorem p5 {x : AV} {ps : List (Nat × Nat)} (hx : IsP8 x ps) {g : Nat} (hg8 : g < 256) (b : Bool) : PCall Tryd.prog 5 [x, .int .u8 (g : Int), .bool b] (.bool true) := by
  have hg := grw_ok (most := 7) (by decide) ps
  have hfl := st_flt hg b g
  obtain ⟨C, hC, k17, k18, k16, k20, k21, k22, k23⟩ := ctx5 hx hfl hg (by rw [stL_len]; exact hg.len)
  have hcan := st_can hg b (crF g ((grw 7 ps).length - 1))
  generalize grw 7 ps = l at *
  have hp := hg.pos
  have hl7 := hg.len
  have hg2 : Gr 1000 l := ⟨hg.pos, by omega, hg.one, hg.bd, hg.sorted, hg.sum⟩
  have hwi := grV_as hg2
  have hwl := alen_of hwi
  refine PCall.of hC ok5 (by simp) rfl fun hs hb => ?_
  simp only [A5, R5]
  rw [At.awp_seq]
  simp [-At.awp_seq]
  rw [At.awp_seq]
  simp [k17, -At.awp_seq]
  rw [At.awp_seq]
  simp [hwl, -At.awp_seq]
  rw [At.awp_seq, At.awp_seq]
  simp [k18, -At.awp_seq]
  rw [At.awp_seq]
  simp [-At.awp_seq]
  rw [At.awp_seq]
  simp [-At.awp_seq]
  rw [At.awp_seq]
  refine At.cut (J5 g b l hs.nh) ?_ ?_
  · obtain ⟨b9, hb9⟩ : ∃ b9, b9 = hs.nh := ⟨_, rfl⟩
    rw [← hb9]
    simp [hwl]
    refine At.loop (fun (i : Nat) s => i ≤ l.length ∧ ∃ y d, D5 g b l b9 i y d ((stL l b).take i) (stS l.length b (i - 1)) (i - 1) s) (fun i => l.length - i) 0 ?_ ?_
    · refine ⟨by omega, .nilsl, .nilsl, ⟨?_, ?_, ?_, ?_, ?_, ?_, ?_, ?_, ?_, ?_, ?_, ?_⟩⟩ <;> simp [← hb9]
      · rfl
      · have : stS l.length b 0 = [] := by cases b <;> rfl
        rw [this]
        exact .nil
    rintro N i s hN ⟨hi, y, d, D⟩
    obtain ⟨e1, e2, e7, e8, e9, e10, e30, e31, e32, hb, nh, os⟩ := D
    rw [At.awp_seq]
    simp [e31, e32, -At.awp_seq]
    rw [At.awp_seq]
    simp [-At.awp_seq]
    refine At.dec (fun hlt => ?_) (fun hlt => ?_)
    rotate_left
    · have hil : i = l.length := by omega
      subst hil
      rw [List.take_of_length_le (by rw [stL_len]; exact Nat.le_refl _)] at os
      simp
      exact At.of ⟨y, d, e1, e2, e7, e8, e9, e10, e30, e31, e32, hb, nh, os⟩
    have hi' : i < l.length := by omega
    simp [-At.awp_seq]
    rw [At.awp_seq]
    simp [-At.awp_seq]
    rw [At.awp_seq]
    simp [-At.awp_seq]
    rw [At.awp_seq]
    refine At.cut (K5 g b l b9 i d ((stL l b).take i ++ [gI l i]) (stS l.length b (i - 1)) (i - 1)) ?_ ?_
    · obtain ⟨y1, hs1, a1, o1, yl, n1, q1⟩ := os.addx (by omega) (by rw [List.length_take]; omega) (gI l i)
      have hb1 : hs1.heap b9 = some [y, .str (bs (crF g (i - 1)))] := by rw [q1 b9 (by omega)]; exact hb
      have ld : aload s.hs.heap false 1 (.ref b9 0) = some y := ldc hb rfl
      have st := store_cell (v := y1) (o := 0) hb1 (by simp) yl
      have ix := Se.idx_g hwi (k := .i64) hi'
      simp only [List.set_cons_zero] at st
      simp [e9, e7, e32, fa, ld, ix, astoAll, a1, st]
      refine At.of ⟨y1, ⟨by simp [e1], by simp [e2], by simp [e7], by simp [e8], by simp [e9], by simp [e10], by simp [e30], by simp [e31], by simp [e32], by simp, by simp; omega, o1.cong rfl rfl (Nat.le_refl _) fun j h1 h2 => ?_⟩, by simp⟩
      show (if j = b9 then _ else _) = _
      rw [if_neg (by omega)]
    clear e1 e2 e7 e8 e9 e10 e30 e31 e32 hb nh os y s
    rintro s ⟨y, ⟨e1, e2, e7, e8, e9, e10, e30, e31, e32, hb, nh, os⟩, e11⟩
    rw [At.awp_seq]
    refine At.cut (K5 g b l b9 i d ((stL l b).take (i + 1)) (stS l.length b (i - 1)) (i - 1)) ?_ ?_
    · cases b with
      | false =>
        simp [e2]
        rw [show (stL l false).take i ++ [gI l i] = (stL l false).take (i + 1) by rw [take_snoc (by rw [stL_len]; exact hi')]; simp [stL, Se.gI_of hi']] at os
        exact At.of ⟨y, ⟨e1, e2, e7, e8, e9, e10, e30, e31, e32, hb, nh, os⟩, e11⟩
      | true =>
        have hL : i < (stL l true).length := by rw [stL_len]; exact hi'
        obtain ⟨q, q1, ix, st, o1⟩ := os.set (i := i) (by simp; omega) (gI (stL l true) i)
        rw [take_set hL] at o1 st
        have hgr : gI (stL l true) i = gI l (l.length - 1 - i) := by simp only [stL, if_true]; exact gI_rev hi'
        rw [hgr] at st
        obtain ⟨Z, hZ⟩ : ∃ Z, Z = ints ((stL l true).take (i + 1)) := ⟨_, rfl⟩
        rw [← hZ] at st o1
        have ld : aload s.hs.heap false 1 (.ref b9 0) = some y := ldc hb rfl
        have w1 : IntKind.i64.wrap ((l.length : Int) - 1) = ((l.length - 1 : Nat) : Int) := by rw [wrap64 (by omega) (by omega)]; omega
        have w2 : IntKind.i64.wrap (((l.length - 1 : Nat) : Int) - (i : Int)) = ((l.length - 1 - i : Nat) : Int) := by rw [wrap64 (by omega) (by omega)]; omega
        have ix2 := Se.idx_g hwi (k := .i64) (i := l.length - 1 - i) (by omega)
        have hb9q : ¬ b9 = q := by omega
        generalize ((l.length - 1 - i : Nat) : Int) = z1 at *
        generalize ((l.length - 1 : Nat) : Int) = z2 at *
        simp [e2, e9, e7, e8, e11, fa, ld, ix, w1, w2, ix2, st]
        refine At.of ⟨y, ⟨by simp [e1], by simp [e2], by simp [e7], by simp [e8], by simp [e9], by simp [e10], by simp [e30], by simp [e31], by simp [e32], ?_, by simpa using nh, ?_⟩, by simp [e11]⟩
        · simp [hb9q, hb]
        · exact o1
    clear e1 e2 e7 e8 e9 e10 e30 e31 e32 hb nh os y s e11
    rintro s ⟨y, ⟨e1, e2, e7, e8, e9, e10, e30, e31, e32, hb, nh, os⟩, e11⟩
    have w1 := wrap_nat1 (show i < _ by omega)
    by_cases h0 : i = 0
    · subst h0
      have w01 : IntKind.i64.wrap 1 = 1 := by decide
      simp [e11, e32, w01]
      refine hN 1 _ (by omega) ⟨by omega, y, d, ?_⟩
      exact ⟨by simp [e1], by simp [e2], by simp [e7], by simp [e8], by simp [e9], by simp [e10], by simp [e30], by simp [e31], by simp, hb, nh, os⟩
    have hpos : 0 < i := by omega
    have hpos' : (0 : Int) < (i : Int) := by omega
    rw [At.awp_seq]
    simp [e11, hpos, hpos', -At.awp_seq]
    rw [At.awp_seq]
    have hk : i - 1 + 1 = i := by omega
    have hcr : crF g i = crF g (i - 1) ++ [if g / 2 ^ i % 2 = 0 then 109 else 118] := by
      have := crF_succ g (i - 1)
      rw [hk] at this; exact this
    have hss : stS l.length b i = stS l.length b (i - 1) ++ [if b = true then ((l.length - i : Nat) : Int) else 0] := by
      have := stS_succ l.length b (i - 1)
      rw [hk] at this; exact this
    refine At.cut (K5 g b l b9 i d ((stL l b).take (i + 1)) (stS l.length b (i - 1)) i) ?_ ?_
    · have ld : aload s.hs.heap false 1 (.ref b9 1) = some (.str (bs (crF g (i - 1)))) := ldc hb rfl
      have s8 : abin 0 .shr (.int .u8 (g : Int)) (.int .i64 (i : Int)) = some (.int .u8 ((g / 2 ^ i : Nat) : Int)) := Se.shr8 (by omega)
      have hq : g / 2 ^ i < 256 := Nat.lt_of_le_of_lt (Nat.div_le_self _ _) hg8
      have a8 : abin 0 .and (.int .u8 ((g / 2 ^ i : Nat) : Int)) (.int .u8 1) = some (.int .u8 ((g / 2 ^ i % 2 : Nat) : Int)) := Se.and8 hq
      have hm2 := Nat.mod_lt (g / 2 ^ i) (show 0 < 2 by decide)
      have sl1 : ∀ hs : HS, amem (.ssl true false) hs [.str (bs [109, 118]), .int .u8 ((g / 2 ^ i % 2 : Nat) : Int)] = some (.str (bs (([109, 118] : List UInt8).drop (g / 2 ^ i % 2))), hs) := fun hs => ssl_l (by simp; omega)
      have sl2 : ∀ hs : HS, amem (.ssl false true) hs [.str (bs (([109, 118] : List UInt8).drop (g / 2 ^ i % 2))), .int .i64 1] = some (.str (bs [if g / 2 ^ i % 2 = 0 then 109 else 118]), hs) := fun hs => by
        have := ssl_h (hs := hs) (l := ([109, 118] : List UInt8).drop (g / 2 ^ i % 2)) (k := .i64) (i := 1) (by simp; omega)
        rcases (by omega : g / 2 ^ i % 2 = 0 ∨ g / 2 ^ i % 2 = 1) with h | h <;> rw [h] at this ⊢ <;> exact this
      have ad : abin 0 .add (.str (bs (crF g (i - 1)))) (.str (bs [if g / 2 ^ i % 2 = 0 then 109 else 118])) = some (.str (bs (crF g i))) := by
        rw [hcr]; exact abin_sadd (by rw [crF_len]; simp; omega)
      have st := store_cell (v := .str (bs (crF g i))) (o := 1) hb (by simp) rfl
      simp only [List.set_cons_succ, List.set_cons_zero] at st
      generalize ((g / 2 ^ i % 2 : Nat) : Int) = z1 at *
      generalize ((g / 2 ^ i : Nat) : Int) = z2 at *
      generalize bs (([109, 118] : List UInt8).drop (g / 2 ^ i % 2)) = z3 at *
      generalize bs [if g / 2 ^ i % 2 = 0 then (109 : UInt8) else 118] = z4 at *
      simp [e9, e1, e11, fa, ld, s8, a8, sl1, sl2, ad, st]
      refine At.of ⟨y, ⟨by simp [e1], by simp [e2], by simp [e7], by simp [e8], by simp [e9], by simp [e10], by simp [e30], by simp [e31], by simp [e32], by simp, by simpa using nh, os.cong rfl rfl (Nat.le_refl _) fun j h1 h2 => ?_⟩, by simp [e11]⟩
      show (if j = b9 then _ else _) = _
      rw [if_neg (by omega)]
    clear e1 e2 e7 e8 e9 e10 e30 e31 e32 hb nh os y s e11
    rintro s ⟨y, ⟨e1, e2, e7, e8, e9, e10, e30, e31, e32, hb, nh, os⟩, e11⟩
    obtain ⟨d2, hs2, a1, o1, sm⟩ := os.addd (by
      have : (stS l.length b (i - 1)).length = i - 1 := by unfold stS; split <;> simp [bwd]
      omega) (if b = true then ((l.length - i : Nat) : Int) else 0)
    rw [← hss] at o1
    have hb2 : hs2.heap b9 = some [y, .str (bs (crF g i))] := by rw [sm.heap]; exact hb
    have nh2 : b9 < hs2.nh := by rw [sm.nh]; exact nh
    have fin : ∀ s' : AS, s'.env 1 = .int .u8 (g : Int) → s'.env 2 = .bool b → s'.env 7 = grV l → s'.env 8 = .int .i64 (l.length : Int) → s'.env 9 = .ref b9 0 → s'.env 10 = d2 → s'.env 30 = grV l → s'.env 31 = .int .i64 (l.length : Int) → s'.env 32 = .int .i64 ((i + 1 : Nat) : Int) → s'.hs = hs2 → At (N s') := by
      intro s' q1 q2 q3 q4 q5 q6 q7 q8 q9 q10
      exact hN (i + 1) s' (by omega) ⟨by omega, y, d2, q1, q2, q3, q4, q5, q6, q7, q8, q9, by rw [q10]; exact hb2, by rw [q10]; exact nh2, by rw [q10]; exact o1⟩
    cases b with
    | false =>
      rw [if_neg (by simp)] at a1
      simp [e2, e10, astoAll, a1, e32, w1]
      exact fin _ (by simp [e1]) (by simp [e2]) (by simp [e7]) (by simp [e8]) (by simp [e9]) (by simp) (by simp [e30]) (by simp [e31]) (by simp) rfl
    | true =>
      rw [if_pos rfl] at a1
      have w2 : IntKind.i64.wrap ((l.length : Int) - (i : Int)) = ((l.length - i : Nat) : Int) := by rw [wrap64 (by omega) (by omega)]; omega
      generalize ((l.length - i : Nat) : Int) = z1 at *
      simp [e2, e10, e8, e11, w2, astoAll, a1, e32, w1]
      exact fin _ (by simp [e1]) (by simp [e2]) (by simp [e7]) (by simp [e8]) (by simp [e9]) (by simp) (by simp [e30]) (by simp [e31]) (by simp) rfl
  rintro s ⟨y, d, ⟨e1, e2, e7, e8, e9, e10, e30, e31, e32, hb9, nh, os⟩⟩
  have hLl := stL_len l b
  have hdi := os.d.asI (by
    have : (stS l.length b (l.length - 1)).length = l.length - 1 := by unfold stS; split <;> simp [bwd]
    omega)
  have k23 := k23 d hdi
  obtain ⟨q, k, rfl, q1, q2, hq⟩ : ∃ q k, y = .osl false 1 q (stL l b).length k ∧ hs.nh + 1 ≤ q ∧ q < s.hs.nh ∧ s.hs.heap q = some (ints (stL l b)) := by
    rcases os.x with ⟨_, h⟩ | ⟨q, k, h1, h2, h3, h4, _⟩
    · rw [h] at hLl; simp at hLl; omega
    · exact ⟨q, k, h1, h2, h3, h4⟩
  obtain ⟨L, hL⟩ : ∃ L, L = stL l b := ⟨_, rfl⟩
  obtain ⟨F, hF⟩ : ∃ F, F = crF g (l.length - 1) := ⟨_, rfl⟩
  rw [← hL, ← hF] at hfl hcan k20 k21 k22 k23
  rw [← hL] at hLl hq hb9
  rw [← hF] at hb9
  clear os
  have hqa : mq q L (.osl false 1 q L.length k) = .sl 1 (ints L) .shared := by simp [mq]
  have hma : mqA q L (.agg [.osl false 1 q L.length k, .str (bs F)]) = .agg [.sl 1 (ints L) .shared, .str (bs F)] := by simp [mqA, mq]
  have hord := Fo.p23 (x := .sl 1 (ints L) .shared) (l := L) (asI_sl (by omega)) F
  have hhead : ∃ o : List Int, o.length = l.length ∧ Fo.ordV L F = .tup [outV 1 (ints o), .int .i64 0] := by
    refine ⟨(Fo.foldL L F).head?.getD [], ?_, by unfold Fo.ordV; rw [if_neg (by simp [hfl.ck]), if_neg hfl.ne]⟩
    have hne := hfl.ne
    cases ho : Fo.foldL L F with
    | nil => exact absurd ho hne
    | cons a r =>
      have hm : a ∈ Fo.foldL L F := by rw [ho]; simp
      have := (Fo.mem_perms.1 (List.mem_filter.1 (show a ∈ (Fo.permsL L.length).filter (Fo.isF L F) from hm)).1).1
      simpa [hLl] using this
  obtain ⟨o, hol, hoe⟩ := hhead
  rw [hoe] at hord
  have hoi := alen_of (asI_outV (l := o) (by omega))
  generalize outV 1 (ints o) = vo at hord hoi
  have hcn : Fo.cntV L F = .tup [.int .i64 ((Fo.foldL L F).length : Int), .int .i64 0] := by unfold Fo.cntV; rw [if_neg (by simp [hfl.ck])]
  have hcl : 1 ≤ (Fo.foldL L F).length := List.length_pos_iff.2 hfl.ne
  have hcv : Fo.canV L F = .tup [outV 1 (ints (Fo.canL L F L.length)), .int .i64 0] := by unfold Fo.canV; rw [if_pos hfl.ck]
  have hsv : Fo.stkV L F = .tup [.agg [outV 1 (ints (Fo.redS L.length L F).2.1), .str (bs (Fo.redS L.length L F).2.2)], .int .i64 0] := by unfold Fo.stkV Fo.stV; rw [if_pos hfl.ck]
  have hone := hfl.one
  have hri := alen_of (asI_outV (l := (Fo.redS L.length L F).2.1) (by omega))
  rw [hone] at hri
  have hrl := Fo.outV_leaf (Fo.redS L.length L F).2.1
  generalize outV 1 (ints (Fo.redS L.length L F).2.1) = vr at hsv hri hrl
  generalize (Fo.redS L.length L F).2.2 = fr at hsv
  have hcanl := Fo.canL_len L F L.length
  rw [hLl] at hcv hcanl
  have hci := asI_outV (l := Fo.canL L F l.length) (by omega)
  have hcil := alen_of hci
  generalize Fo.canL L F l.length = c at *
  generalize outV 1 (ints c) = vc at *
  rw [hcn] at k20
  rw [hcv] at k21
  rw [hsv] at k22
  generalize (Fo.foldL L F).length = cn at *
  have hcall := FCall.meltA (args := [.agg [.osl false 1 q L.length k, .str (bs F)]]) (q := q) (l := L) (hs := s.hs) (by simp only [List.map_cons, List.map_nil, hma]; exact hord) hq
  have ld0 : aload s.hs.heap true 2 (.ref hs.nh 0) = some (.agg [.osl false 1 q L.length k, .str (bs F)]) := Fo.load_ref2 hb9
  have hm9 : (s.hs.melt q L).heap hs.nh = some [.sl 1 (ints L) .shared, .str (bs F)] := by
    simp only [HS.melt]
    rw [if_neg (by omega), hb9]
    simp [hqa, mq]
  have hmn : (s.hs.melt q L).nh = s.hs.nh := rfl
  rw [At.awp_seq]
  simp [e9, ld0, -At.awp_seq]
  refine At.hc hcall ?_ ?_
  rotate_left
  · rintro v hs' ⟨hv, _⟩; cases hv
  rintro v hs' ⟨hv, e'⟩
  injection hv with hv; subst hv
  rw [← e'] at hm9 hmn
  clear e' hcall ld0 hq hb9
  have hn9 : hs.nh < hs'.nh := by rw [hmn]; exact nh
  have ld1 : aload hs'.heap true 2 (.ref hs.nh 0) = some (.agg [.sl 1 (ints L) .shared, .str (bs F)]) := Fo.load_ref2 hm9
  have st := Fo.st2_of (hp := fun i => if i = hs'.nh then some [.nilsl, .str (bs [])] else hs'.heap i) (i := hs'.nh) (u := .nilsl) (v := .str (bs [])) (by simp) vr (.str (bs fr))
  simp [-At.awp_seq]
  rw [At.awp_seq]
  generalize ints L = iL at *
  simp [e9, ld1, k20, -At.awp_seq]
  rw [At.awp_seq]
  simp [e9, ld1, k21, -At.awp_seq]
  rw [At.awp_seq]
  simp [e9, ld1, k22, st, -At.awp_seq]
  obtain ⟨hs2, hhs2⟩ : ∃ hs2 : HS, hs2 = ⟨fun k => if k = hs'.nh then some [vr, .str (bs fr)] else if k = hs'.nh then some [.nilsl, .str (bs [])] else hs'.heap k, hs'.nh + 1, hs'.nt, hs'.tok, hs'.mp⟩ := ⟨_, rfl⟩
  have g18 : hs2.heap hs'.nh = some [vr, .str (bs fr)] := by rw [hhs2]; simp
  have g9 : hs2.heap hs.nh = some [.sl 1 iL .shared, .str (bs F)] := by rw [hhs2]; simp only; rw [if_neg (by omega), if_neg (by omega)]; exact hm9
  rw [← hhs2]
  clear hhs2 st ld1
  have ld2 : aload hs2.heap true 2 (.ref hs.nh 0) = some (.agg [.sl 1 iL .shared, .str (bs F)]) := Fo.load_ref2 g9
  have ld3 : aload hs2.heap false 1 (.ref hs'.nh 0) = some vr := ldc g18 rfl
  have c1 : (o.length : Int) = (l.length : Int) := by omega
  have c2 : ¬ (cn : Int) < 1 := by omega
  rw [At.awp_seq, At.awp_seq]
  simp [hoi, c1, e8, c2, fa, ld3, hri, e9, ld2, e10, k23, -At.awp_seq]
  rw [At.awp_seq, At.awp_seq]
  by_cases h1 : l.length = 1
  · rw [if_pos h1] at hcan
    subst hcan
    have hcil : alenK false vc = some (.int .i64 0) := hcil
    rw [h1] at e8
    have e8 : s.env 8 = .int .i64 1 := e8
    simp [e8, hcil, k16, -At.awp_seq]
    rw [At.awp_seq]
    simp [hcil, k16]
  rw [if_neg h1] at hcan
  have h1' : ¬ (l.length : Int) = 1 := by omega
  simp [e8, h1, h1', -At.awp_seq]
  rw [At.awp_seq]
  simp [-At.awp_seq]
  rw [At.awp_seq]
  refine At.cut (fun s => s.env 16 = vc ∧ s.env 20 = .int .i64 ((endP l.length b : Nat) : Int)) ?_ ?_
  · cases b with
    | false => simp [e2, endP]
    | true =>
      have w1 : IntKind.i64.wrap ((l.length : Int) - 1) = ((l.length - 1 : Nat) : Int) := by rw [wrap64 (by omega) (by omega)]; omega
      simp [e2, e8, w1, endP]
  clear e1 e2 e7 e8 e9 e10 e30 e31 e32
  rintro s2 ⟨e16, e20⟩
  generalize endP l.length b = ep at *
  simp [e16, hcil]
  refine At.loop (fun (i : Nat) s => i ≤ c.length ∧ (ep : Int) ∉ c.take i ∧ s.env 20 = .int .i64 (ep : Int) ∧ s.env 146 = vc ∧ s.env 147 = .int .i64 (c.length : Int) ∧ s.env 148 = .int .i64 (i : Int)) (fun i => c.length - i) 0 ?_ ?_
  · simp [e16, e20, hcil]
  rintro N i s hN ⟨hi, hni, e20, e146, e147, e148⟩
  simp [e147, e148]
  refine At.dec (fun hlt => ?_) (fun hlt => ?_)
  rotate_left
  · have : i = c.length := by omega
    subst this
    rw [List.take_length] at hni
    exact absurd hcan hni
  have hi' : i < c.length := by omega
  have ix := Se.idx_g hci (k := .i64) hi'
  by_cases he : gI c i = (ep : Int)
  · simp [e146, e148, e20, ix, he, k16]
  · simp [e146, e148, e20, ix, he]
    refine hN (i + 1) _ (by omega) ⟨by omega, ?_, ?_⟩
    · rw [mem_take_succ hi', not_or]
      exact ⟨hni, fun e => he (by rw [Se.gI_of hi']; exact e.symm)⟩
    · simp [e20, e146, e147, wrap_nat1 (show i < _ by omega)]
end Go.Proofs.YtdcpkgedaflnmaaDoor
set_option linter.unusedVariables false
set_option linter.unusedSimpArgs false
namespace Go.Proofs.YtdcpkgedaflnmaaDoor
open Go Fw

theorem u8n {n : Int} (h : (Lit.int .u8 n).wf = true) : ∃ k : Nat, k < 256 ∧ n = (k : Int) := by
  have := u8_bd h
  exact ⟨n.toNat, by omega, by omega⟩
theorem ar2 {x : AV} (h : ShV (.ar 2 (.int .u8)) x) : ∃ a b : Nat, a < 256 ∧ b < 256 ∧ x = .agg [.int .u8 (a : Int), .int .u8 (b : Int)] := by
  obtain ⟨cs, rfl, hs⟩ := shv_agg (T := .ar 2 (.int .u8)) rfl h
  obtain ⟨ls, h1, h2, h3⟩ : ∃ ls : List (List AV), cs = ls.flatten ∧ ls.length = 2 ∧ ∀ l ∈ ls, Sh (.int .u8) l := hs
  match ls, h2 with
  | [p, q], _ =>
    obtain ⟨a, rfl, ha⟩ := sh_int (h3 p (by simp))
    obtain ⟨b, rfl, hb⟩ := sh_int (h3 q (by simp))
    obtain ⟨m, h5, rfl⟩ := u8n ha
    obtain ⟨n, h6, rfl⟩ := u8n hb
    exact ⟨m, n, h5, h6, by rw [h1]; rfl⟩
theorem p8_of {x : AV} (h : ShV (.sl (.ar 2 (.int .u8))) x) : ∃ l, IsP8 x l := by
  rcases shv_sl h with rfl | ⟨xs, rfl, hl, hx⟩
  · exact ⟨[], .inl ⟨rfl, rfl⟩, by simp, by simp⟩
  · have key : ∀ xs : List AV, (∀ y ∈ xs, ShV (.ar 2 (.int .u8)) y) → ∃ l : List (Nat × Nat), xs = prU l ∧ ∀ p ∈ l, p.1 < 256 ∧ p.2 < 256 := by
      intro xs
      induction xs with
      | nil => exact fun _ => ⟨[], rfl, by simp⟩
      | cons y ys ih =>
        intro h
        obtain ⟨a, b, ha, hb, rfl⟩ := ar2 (h y (by simp))
        obtain ⟨l, rfl, hl⟩ := ih fun z hz => h z (by simp [hz])
        exact ⟨(a, b) :: l, rfl, fun p hp => by
          rcases List.mem_cons.1 hp with rfl | hp
          · exact ⟨ha, hb⟩
          · exact hl p hp⟩
    obtain ⟨l, rfl, hb⟩ := key xs hx
    refine ⟨l, .inr rfl, ?_, hb⟩
    unfold maxLen at hl
    simp [prU] at hl
    omega
theorem shv_bool {x : AV} (h : ShV .bool x) : ∃ b, x = .bool b := by
  obtain ⟨⟨b, hb⟩, h2⟩ := h
  exact ⟨b, by
    have h2 : x.cells = [x] := h2
    rw [h2] at hb
    simpa using hb⟩
theorem chained_typed (xs : List AV) (h : Typed [.sl (.ar 2 (.int .u8)), .int .u8, .bool] xs) : PCall Tryd.prog 5 xs (.bool true) := by
  obtain ⟨x, y, z, rfl, hx, hy, hz⟩ := h.three
  obtain ⟨ps, hps⟩ := p8_of hx
  obtain ⟨g, hg, rfl⟩ := Se.u8_nat hy
  obtain ⟨b, rfl⟩ := shv_bool hz
  exact p5 hps hg b
end Go.Proofs.YtdcpkgedaflnmaaDoor
