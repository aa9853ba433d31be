/-
  Two rows of numbers are equal: the library's own test. Own work.
  A border of two figures with the same periods. Own work.
  A border of two figures with the same periods: the walk. Own work.
  Cycles of a digit: the plain law. Own work.
-/
import Derived.Test.YtdcpkgedaflnmaaGreatDoorC6
import Derived.Test.YtdcpkgedaflnmaaGreatDoorFx4
import Derived.Test.YtdcpkgedaflnmaaGreatDoorR3
import Derived.Test.YtdcpkgedaflnmaaGreatDoorFx3
import Derived.Test.YtdcpkgedaflnmaaGreatDoorFx5
import Derived.Test.YtdcpkgedaflnmaaGreatDoorG5
set_option linter.unusedVariables false
set_option linter.unusedSimpArgs false
namespace Go.Proofs.YtdcpkgedaflnmaaGreatDoor.Cy
open Go Fw

theorem p52 {x y : AV} {a b : List Int} (hx : asI x = some a) (hy : asI y = some b) : PCall Tryz.prog 52 [x, y] (.bool (decide (a = b))) := by
  have lx := asI_len hx
  have ly := asI_len hy
  refine PCall.of CtxOk.nil ok52 (by simp) rfl fun hs hb => ?_
  simp only [A52, R52]
  rw [At.awp_seq]
  simp [-At.awp_seq]
  rw [At.awp_seq, At.awp_seq]
  simp [alen_of hx, alen_of hy, -At.awp_seq]
  refine At.decn ?_ ?_
  rotate_left
  · intro h
    have : ¬ a = b := fun e => h (by rw [e])
    simp [this]
  intro hl
  have hl' : a.length = b.length := by omega
  simp [alen_of hx, -At.awp_seq]
  rw [At.awp_seq, At.awp_seq]
  simp [alen_of hx, -At.awp_seq]
  refine At.loop (fun (i : Nat) s => i ≤ a.length ∧ a.take i = b.take i ∧ s.env 0 = x ∧ s.env 1 = y ∧ s.env 12 = .int .i64 (a.length : Int) ∧ s.env 13 = .int .i64 (i : Int)) (fun i => a.length - i) 0 ?_ ?_
  · simp
  rintro N i s hN ⟨hi, he, e0, e1, e12, e13⟩
  by_cases hlt : i < a.length
  · have hlt' : (i : Int) < (a.length : Int) := by omega
    have i1 := aidx_nat hx (k := .i64) hlt
    have hltb : i < b.length := by omega
    have i2 := aidx_nat hy (k := .i64) hltb
    have w1 := wrap_nat1 (show i < _ by omega)
    simp [e0, e1, e12, e13, hlt, hlt', i1, i2]
    refine At.decn ?_ ?_
    · intro h
      simp [e13, w1]
      exact hN (i + 1) _ (by omega) ⟨by omega, by rw [take_snoc hlt, take_snoc hltb, he, h], by simp [e0], by simp [e1], by simp [e12], by simp⟩
    · intro h
      have : ¬ a = b := fun e => by subst e; exact h rfl
      simp [this]
  · have hlt' : ¬ (i : Int) < (a.length : Int) := by omega
    have hin : i = a.length := by omega
    have hltb : ¬ i < b.length := by omega
    have hltb' : ¬ (i : Int) < (b.length : Int) := by omega
    have : a = b := by
      rw [hin, List.take_length, List.take_of_length_le (by omega)] at he
      exact he
    subst this
    simp [e12, e13, hlt, hlt']
end Go.Proofs.YtdcpkgedaflnmaaGreatDoor.Cy
set_option linter.unusedVariables false
set_option linter.unusedSimpArgs false
namespace Go.Proofs.YtdcpkgedaflnmaaGreatDoor.Cy
open Go Fw Rp

/-- the figures of a number -/
def bt (n x k : Nat) : Nat := 97 + x / 2 ^ (n - 1 - k) % 2
theorem bt_bd (n x k : Nat) : 97 ≤ bt n x k ∧ bt n x k ≤ 98 := by unfold bt; omega
def binL (n x : Nat) : List UInt8 := (List.range n).map fun k => UInt8.ofNat (bt n x k)
theorem binL_len (n x : Nat) : (binL n x).length = n := by simp [binL]
theorem u8n {a : Nat} (h : a < 256) : (UInt8.ofNat a).toNat = a := by simp; omega
theorem binL_isB {n : Nat} (h1 : 1 ≤ n) (h2 : n ≤ 24) (x : Nat) : IsB (binL n x) := ⟨fun e => by have := binL_len n x; rw [e] at this; simp at this; omega, by rw [binL_len]; exact h2, fun c hc => by
  obtain ⟨k, _, rfl⟩ := List.mem_map.1 hc
  have := bt_bd n x k
  rw [u8n (by omega)]
  omega⟩
/-- the border that is returned -/
def plainL (l : List UInt8) : List UInt8 := (((List.range (2 ^ l.length)).map (binL l.length)).find? fun b => decide (perL b = perL l)).getD l
theorem plainL_at {l : List UInt8} {x : Nat} (hx : x < 2 ^ l.length) (h : perL (binL l.length x) = perL l) (hl : ∀ y, y < x → ¬ perL (binL l.length y) = perL l) : plainL l = binL l.length x := by
  unfold plainL
  rw [List.find?_map]
  have : (List.range (2 ^ l.length)).find? ((fun b => decide (perL b = perL l)) ∘ binL l.length) = some x := List.find?_range_eq_some.2 ⟨by simp [h], List.mem_range.2 hx, fun y hy => by simp [hl y hy]⟩
  rw [this]; rfl
theorem plainL_none {l : List UInt8} (hl : ∀ y, y < 2 ^ l.length → ¬ perL (binL l.length y) = perL l) : plainL l = l := by
  unfold plainL
  have : ((List.range (2 ^ l.length)).map (binL l.length)).find? (fun b => decide (perL b = perL l)) = none := List.find?_eq_none.2 fun b hb => by
    obtain ⟨y, hy, rfl⟩ := List.mem_map.1 hb
    simpa using hl y (List.mem_range.1 hy)
  rw [this]; rfl
theorem plainL_is (l : List UInt8) (h : IsB l) : IsB (plainL l) ∧ perL (plainL l) = perL l := by
  by_cases hh : ∃ x, x < 2 ^ l.length ∧ perL (binL l.length x) = perL l
  · obtain ⟨x, hx, hp⟩ := hh
    have hex : ∃ b, ((List.range (2 ^ l.length)).map (binL l.length)).find? (fun b => decide (perL b = perL l)) = some b := by
      cases hf : ((List.range (2 ^ l.length)).map (binL l.length)).find? (fun b => decide (perL b = perL l)) with
      | some b => exact ⟨b, rfl⟩
      | none => exact absurd hp (by simpa using List.find?_eq_none.1 hf _ (List.mem_map.2 ⟨x, List.mem_range.2 hx, rfl⟩))
    obtain ⟨b, hb⟩ := hex
    have h1 := List.find?_some hb
    have h2 := List.mem_of_find?_eq_some hb
    obtain ⟨y, hy, rfl⟩ := List.mem_map.1 h2
    have e : plainL l = binL l.length y := by unfold plainL; rw [hb]; rfl
    rw [e]
    exact ⟨binL_isB (by have := List.length_pos_iff.2 h.ne; omega) h.le y, by simpa using h1⟩
  · rw [plainL_none fun y hy hp => hh ⟨y, hy, hp⟩]
    exact ⟨h, rfl⟩
/-- the row while it is filled -/
def bk (n x i : Nat) : List AV := (List.range n).map fun k => if k < n - i then .int .u8 0 else .int .u8 ((bt n x k : Nat) : Int)
theorem bk_len (n x i : Nat) : (bk n x i).length = n := by simp [bk]
theorem bk_zero (n x : Nat) : List.replicate n (AV.int .u8 0) = bk n x 0 := by
  apply List.ext_getElem?
  intro k
  unfold bk
  by_cases h : k < n
  · simp [List.getElem?_replicate, h]
  · rw [List.getElem?_eq_none (by simp; omega), List.getElem?_eq_none (by simp; omega)]
theorem bk_succ {n x i : Nat} (h : i < n) : (bk n x i).set (n - 1 - i) (.int .u8 ((bt n x (n - 1 - i) : Nat) : Int)) = bk n x (i + 1) := by
  apply List.ext_getElem?
  intro k
  rw [List.getElem?_set, bk_len]
  unfold bk
  by_cases hk : k < n
  · by_cases he : n - 1 - i = k
    · subst he
      rw [if_pos rfl, if_pos (by omega)]
      simp [hk]
      omega
    · rw [if_neg he]
      simp [hk]
      by_cases h1 : k < n - i
      · rw [if_pos h1, if_pos (by omega)]
      · rw [if_neg h1, if_neg (by omega)]
  · rw [List.getElem?_eq_none (by simp; omega), if_neg (by omega), List.getElem?_eq_none (by simp; omega)]
theorem nums8_map : ∀ l : List Int, nums8 (l.map (AV.int .u8)) = some l
  | [] => rfl
  | a :: l => by simp [nums8, nums8_map l]
theorem bk_str (n x : Nat) : (nums8 (bk n x n)).map (fun ns => AV.str (bs (b8 ns))) = some (.str (bs (binL n x))) := by
  have e : bk n x n = ((List.range n).map fun k => ((bt n x k : Nat) : Int)).map (AV.int .u8) := by
    unfold bk
    rw [List.map_map]
    refine List.map_congr_left fun k hk => ?_
    rw [if_neg (by omega)]
    rfl
  rw [e, nums8_map]
  simp only [Option.map_some, b8, List.map_map]
  congr 3
theorem and64 {kd q : Nat} : abin kd .and (.int .i64 (q : Int)) (.int .i64 1) = some (.int .i64 ((q % 2 : Nat) : Int)) := by
  have e : (BitVec.ofInt 64 (q : Int) &&& BitVec.ofInt 64 (1 : Int)).toNat = q % 2 := by
    rw [show (1 : Int) = ((1 : Nat) : Int) from rfl, show BitVec.ofInt 64 (q : Int) = BitVec.ofNat 64 q from BitVec.ofInt_natCast 64 q, show BitVec.ofInt 64 ((1 : Nat) : Int) = BitVec.ofNat 64 1 from BitVec.ofInt_natCast 64 1, BitVec.toNat_and, BitVec.toNat_ofNat, BitVec.toNat_ofNat, Nat.mod_eq_of_lt (show 1 < 2 ^ 64 by decide), Nat.and_one_is_mod]
    omega
  show some (AV.int IntKind.i64 (IntKind.i64.wrap ((BitVec.ofInt 64 (q : Int) &&& BitVec.ofInt 64 (1 : Int)).toNat : Int))) = _
  rw [e, wrap64 (by omega) (by omega)]
end Go.Proofs.YtdcpkgedaflnmaaGreatDoor.Cy
set_option linter.unusedVariables false
set_option linter.unusedSimpArgs false
namespace Go.Proofs.YtdcpkgedaflnmaaGreatDoor.Cy
open Go Fw Rp

theorem perL_le {l : List UInt8} (h : l.length ≤ 24) : (perL l).length < 4294967296 := by
  have := perK_len l (l.length + 1)
  unfold perL; omega
theorem ctxP {l : List UInt8} (h : IsB l) : ∃ C, CtxOk Tryz.prog C ∧ C 38 [.str (bs l)] = some (.int .i64 0) ∧ (∀ b : List UInt8, C 40 [.str (bs b)] = some (.fn (.func 91) [] [.ptr (.str (bs b))])) ∧
    (∀ b : List UInt8, IsB b → C 39 [.fn (.func 91) [] [.ptr (.str (bs b))]] = some (outV 1 (ints (perL b)))) ∧ ∀ b : List UInt8, IsB b → C 52 [outV 1 (ints (perL b)), outV 1 (ints (perL l))] = some (.bool (decide (perL b = perL l))) := by
  obtain ⟨C1, hC1, k38, _⟩ := ctx_pt CtxOk.nil 38 _ _ (p38 h)
  obtain ⟨C2, hC2, k40, n2⟩ := ctx_fam hC1 40 (fun b : List UInt8 => [.str (bs b)]) (fun b => .fn (.func 91) [] [.ptr (.str (bs b))]) (fun b => p40 (bs b)) (by
    intro a b e
    simp only [List.cons.injEq, AV.str.injEq, and_true] at e
    rw [bs_inj.1 e])
  obtain ⟨C3, hC3, k39, n3⟩ := ctx_fam hC2 39 (fun b : {b : List UInt8 // IsB b} => [.fn (.func 91) [] [.ptr (.str (bs b.1))]]) (fun b => outV 1 (ints (perL b.1))) (fun b => p39 b.2) (by
    rintro ⟨a, ha⟩ ⟨b, hb⟩ e
    simp only [List.cons.injEq, AV.fn.injEq, AV.ptr.injEq, AV.str.injEq, and_true, true_and] at e
    simp only
    rw [bs_inj.1 e])
  obtain ⟨C4, hC4, k52, n4⟩ := ctx_fam hC3 52 (fun b : {b : List UInt8 // IsB b} => [outV 1 (ints (perL b.1)), outV 1 (ints (perL l))]) (fun b => .bool (decide (perL b.1 = perL l))) (fun b => p52 (asI_outV (perL_le b.2.le)) (asI_outV (perL_le h.le))) (by
    rintro ⟨a, ha⟩ ⟨b, hb⟩ e
    simp only [List.cons.injEq, and_true] at e
    have h1 := asI_outV (perL_le ha.le)
    rw [e, asI_outV (perL_le hb.le)] at h1
    injection h1 with h1
    simp only [h1])
  exact ⟨C4, hC4, by rw [n4 38 (by decide), n3 38 (by decide), n2 38 (by decide)]; exact k38, fun b => by rw [n4 40 (by decide), n3 40 (by decide)]; exact k40 b, fun b hb => by rw [n4 39 (by decide)]; exact k39 ⟨b, hb⟩, fun b hb => k52 ⟨b, hb⟩⟩
set_option maxHeartbeats 2000000 in
theorem p18 {l : List UInt8} (h : IsB l) (h14 : l.length ≤ 14) : PCall Tryz.prog 18 [.str (bs l)] (.tup [.str (bs (plainL l)), .int .i64 0]) := by
  obtain ⟨C, hC, k38, k40, k39, k52⟩ := ctxP h
  have hlp := List.length_pos_iff.2 h.ne
  refine PCall.of hC ok18 (by simp) rfl fun hs hb => ?_
  have h14' : ¬ (14 : Int) < (l.length : Int) := by omega
  obtain ⟨n, hn⟩ : ∃ n, n = l.length := ⟨_, rfl⟩
  obtain ⟨M, hM⟩ : ∃ M, M = 2 ^ n := ⟨_, rfl⟩
  have hMb : M ≤ 16384 := by rw [hM]; exact Nat.pow_le_pow_right (by decide) (show n ≤ 14 by omega)
  have sl : abin 0 .shl (.int .i64 1) (.int .i64 (n : Int)) = some (.int .i64 (M : Int)) := by rw [hM]; exact shl64 (by omega)
  have k39l := k39 l h
  generalize hW : outV 1 (ints (perL l)) = W at *
  simp only [A18, R18]
  rw [At.awp_seq]
  simp [-At.awp_seq]
  rw [At.awp_seq]
  simp [k38, -At.awp_seq]
  rw [At.awp_seq]
  simp [h14']
  rw [← hn]
  simp [k40, k39l, sl, ← hn]
  refine At.loop (fun (x : Nat) s => x ≤ M ∧ s.env 0 = .str (bs l) ∧ s.env 5 = W ∧ s.env 24 = .int .i64 (M : Int) ∧ s.env 25 = .int .i64 (x : Int) ∧ ∀ y, y < x → ¬ perL (binL n y) = perL l) (fun x => M - x) 0 ?_ ?_
  · simp
  rintro N x s hN ⟨hx, e0, e5, e24, e25, hno⟩
  by_cases hlt : x < M
  rotate_left
  · have hlt' : ¬ (x : Int) < (M : Int) := by omega
    have hxM : x = M := by omega
    have hp : plainL l = l := plainL_none fun y hy => by rw [← hn]; exact hno y (by rw [hxM, hM, hn]; exact hy)
    simp [e0, e24, e25, hlt, hlt', hp]
  have hlt' : (x : Int) < (M : Int) := by omega
  have wx := wrap_nat1 (show x < _ by omega)
  obtain ⟨q, hq⟩ : ∃ q, q = s.hs.nh := ⟨_, rfl⟩
  have mk : amake false 1 [.int .u8 0] s.hs (.int .i64 (n : Int)) (.int .i64 (n : Int)) = some (.msl false 1 q 0 n true, s.hs.blk (bk n x 0)) := by rw [amake_eq (by omega), bk_zero n x, hq]
  have hb0 : (s.hs.blk (bk n x 0)).heap q = some (bk n x 0) := by rw [hq]; simp
  generalize hH : s.hs.blk (bk n x 0) = H at *
  rw [At.awp_seq]
  simp [e24, e25, hlt, hlt', -At.awp_seq]
  rw [At.awp_seq]
  simp [-At.awp_seq]
  rw [At.awp_seq, At.awp_block, At.awp_seq]
  simp [-At.awp_seq]
  rw [At.awp_seq]
  simp [e0, ← hn, mk, -At.awp_seq]
  rw [At.awp_seq]
  refine At.cut (fun s => s.env 0 = .str (bs l) ∧ s.env 5 = W ∧ s.env 7 = .msl false 1 q 0 n true ∧ s.env 24 = .int .i64 (M : Int) ∧ s.env 25 = .int .i64 (x : Int) ∧ s.hs.heap q = some (bk n x n)) ?_ ?_
  · rw [At.awp_seq]
    simp [-At.awp_seq]
    refine At.loop (fun (i : Nat) s => i ≤ n ∧ s.env 0 = .str (bs l) ∧ s.env 5 = W ∧ s.env 6 = .int .i64 (x : Int) ∧ s.env 7 = .msl false 1 q 0 n true ∧ s.env 24 = .int .i64 (M : Int) ∧ s.env 25 = .int .i64 (x : Int) ∧ s.env 32 = .int .i64 (n : Int) ∧ s.env 33 = .int .i64 (i : Int) ∧ s.hs.heap q = some (bk n x i)) (fun i => n - i) 0 ?_ ?_
    · simp [e0, e5, e24, e25, hb0]
    rintro N2 i s hN2 ⟨hi, e0, e5, e6, e7, e24, e25, e32, e33, hbq⟩
    by_cases hin : i < n
    · have hin' : (i : Int) < (n : Int) := by omega
      have wi := wrap_nat1 (show i < _ by omega)
      have w1 : IntKind.i64.wrap ((n : Int) - 1) = ((n - 1 : Nat) : Int) := by rw [show (n : Int) - 1 = ((n - 1 : Nat) : Int) by omega]; exact wrap64 (by omega) (by omega)
      obtain ⟨u, hu⟩ : ∃ u, u = n - 1 - i := ⟨_, rfl⟩
      have w2 : IntKind.i64.wrap (((n - 1 : Nat) : Int) - (i : Int)) = (u : Int) := by rw [show ((n - 1 : Nat) : Int) - (i : Int) = (u : Int) by omega]; exact wrap64 (by omega) (by omega)
      have hun : u < n := by omega
      have s1 : abin 0 .shr (.int .i64 (x : Int)) (.int .i64 (i : Int)) = some (.int .i64 ((x / 2 ^ i : Nat) : Int)) := shr64 (by omega)
      obtain ⟨z, hz⟩ : ∃ z, z = x / 2 ^ i := ⟨_, rfl⟩
      rw [← hz] at s1
      have a1 : abin 0 .and (.int .i64 (z : Int)) (.int .i64 1) = some (.int .i64 ((z % 2 : Nat) : Int)) := and64
      obtain ⟨v, hv⟩ : ∃ v, v = z % 2 := ⟨_, rfl⟩
      rw [← hv] at a1
      have hbt : bt n x u = 97 + v := by unfold bt; rw [show n - 1 - u = i by omega, ← hz, ← hv]
      have hv2 : v < 2 := by rw [hv]; exact Nat.mod_lt _ (by decide)
      have w3 : IntKind.i64.wrap (97 + (v : Int)) = ((97 + v : Nat) : Int) := by rw [show (97 : Int) + (v : Int) = ((97 + v : Nat) : Int) by omega]; exact wrap64 (by omega) (by omega)
      have w4 : IntKind.u8.wrap ((97 + v : Nat) : Int) = ((97 + v : Nat) : Int) := Se.wrapu8 (by omega)
      have st := store_cell (v := .int .u8 ((97 + v : Nat) : Int)) (o := u) hbq (by rw [bk_len]; exact hun) rfl
      rw [← hbt, hu, bk_succ hin, ← hu] at st
      rw [← hbt] at w3 w4
      generalize bt n x u = B at *
      generalize n - 1 = n1 at *
      simp [e6, e7, e32, e33, hin, hin', w1, w2, s1, a1, w3, w4, hun, st, wi]
      exact hN2 (i + 1) _ (by omega) ⟨by omega, by simp [e0], by simp [e5], by simp [e6], by simp [e7], by simp [e24], by simp [e25], by simp [e32], by simp, by simp⟩
    · have hin' : ¬ (i : Int) < (n : Int) := by omega
      have : i = n := by omega
      rw [this] at hbq
      simp [e0, e5, e7, e24, e25, e32, e33, hin, hin']
      exact hbq
  · rintro s ⟨e0, e5, e7, e24, e25, hbq⟩
    have hB : IsB (binL n x) := binL_isB (by omega) (by omega) x
    have b2 : amem .b2s s.hs [.msl false 1 q 0 n true] = some (.str (bs (binL n x)), s.hs) := by
      show (ab2s s.hs.heap (.msl false 1 q 0 n true)).map _ = _
      have : ab2s s.hs.heap (.msl false 1 q 0 n true) = (s.hs.heap q).bind fun ys => if 0 + n ≤ ys.length then (nums8 ((ys.drop 0).take n)).map fun ns => .str (bs (b8 ns)) else none := rfl
      rw [this, hbq, Option.bind_some, if_pos (by rw [bk_len]; omega), List.drop_zero, List.take_of_length_le (by rw [bk_len]; omega), bk_str]
      rfl
    have k39b := k39 _ hB
    have k52b := k52 _ hB
    simp [e0, e5, e7, b2, k40, k39b, k52b]
    refine At.dec (fun heq => ?_) (fun hne => ?_)
    · have hp : plainL l = binL n x := by rw [hn]; exact plainL_at (by rw [← hn, ← hM]; exact hlt) (by rw [← hn]; exact heq) fun y hy => by rw [← hn]; exact hno y hy
      simp [e0, e5, e7, b2, hp]
    · simp [e25, wx]
      refine hN (x + 1) _ (by omega) ⟨by omega, by simp [e0], by simp [e5], by simp [e24], by simp, fun y hy => ?_⟩
      rcases Nat.lt_or_ge y x with h' | h'
      · exact hno y h'
      · rw [show y = x by omega]; exact hne
end Go.Proofs.YtdcpkgedaflnmaaGreatDoor.Cy
set_option linter.unusedVariables false
set_option linter.unusedSimpArgs false
namespace Go.Proofs.YtdcpkgedaflnmaaGreatDoor.Cy
open Go Fw Rp Se

/-- states that follow each other -/
structure Cyc (c : Nat → Nat) (n : Nat) : Prop where
  zero : c 0 = 0
  bd : ∀ i, c i < n
  nxt : ∀ i j, c i = c j → c (i + 1) = c (j + 1)
  inj : ∀ i j, c (i + 1) = c (j + 1) → c i = c j
theorem Cyc.back {c : Nat → Nat} {n : Nat} (h : Cyc c n) : ∀ i d, c i = c (i + d) → c 0 = c d
  | 0, d, e => by rw [e, Nat.zero_add]
  | i + 1, d, e => h.back i d (h.inj _ _ (by rw [e, Nat.add_right_comm]))
theorem Cyc.per {c : Nat → Nat} {n : Nat} (h : Cyc c n) {k : Nat} (hk : c k = 0) : ∀ i, c (i + k) = c i
  | 0 => by rw [Nat.zero_add, hk, h.zero]
  | i + 1 => by rw [Nat.add_right_comm]; exact h.nxt _ _ (h.per hk i)
theorem Cyc.ex {c : Nat → Nat} {n : Nat} (h : Cyc c n) : ∃ k, 1 ≤ k ∧ k ≤ n ∧ c k = 0 ∧ ∀ i, 1 ≤ i → i < k → c i ≠ 0 := by
  have hex : ∃ k, 1 ≤ k ∧ k ≤ n ∧ c k = 0 := by
    refine Classical.byContradiction fun hno => ?_
    have hnd : ((List.range (n + 1)).map c).Nodup := by
      rw [List.nodup_iff_pairwise_ne, List.pairwise_map]
      refine List.Pairwise.imp_of_mem ?_ List.pairwise_lt_range
      intro a b ha hb hab e
      have hb' := List.mem_range.1 hb
      have := h.back a (b - a) (by rw [show a + (b - a) = b by omega]; exact e)
      rw [h.zero] at this
      exact hno ⟨b - a, by omega, by omega, this.symm⟩
    have := nodup_le (n := n) hnd (fun i hi => by obtain ⟨k, _, rfl⟩ := List.mem_map.1 hi; exact h.bd k)
    rw [List.length_map, List.length_range] at this
    omega
  obtain ⟨k, h1, h2, h3⟩ := hex
  induction k using Nat.strongRecOn with
  | ind k ih =>
    by_cases hh : ∃ i, 1 ≤ i ∧ i < k ∧ c i = 0
    · obtain ⟨i, a, b, e⟩ := hh
      exact ih i b a (by omega) e
    · exact ⟨k, h1, h2, h3, fun i a b e => hh ⟨i, a, b, e⟩⟩
/-- the border of the states -/
def sC (c : Nat → Nat) (i : Nat) : List UInt8 := (List.range i).map fun k => UInt8.ofNat (97 + c k)
theorem sC_len (c : Nat → Nat) (i : Nat) : (sC c i).length = i := by simp [sC]
theorem sC_succ (c : Nat → Nat) (i : Nat) : sC c (i + 1) = sC c i ++ [UInt8.ofNat (97 + c i)] := by simp [sC, List.range_succ]
theorem sC_take (c : Nat → Nat) {i N : Nat} (h : i ≤ N) : (sC c N).take i = sC c i := by
  unfold sC
  rw [← List.map_take, List.take_range, Nat.min_eq_left h]
theorem sC_get (c : Nat → Nat) {i N : Nat} (h : i < N) : (sC c N)[i]? = some (UInt8.ofNat (97 + c i)) := by
  unfold sC
  simp [h]
theorem sC_isB {c : Nat → Nat} {n : Nat} (h : Cyc c n) (hn : n ≤ 6) {i : Nat} (h1 : 1 ≤ i) (h2 : i ≤ 24) : IsB (sC c i) := ⟨fun e => by have := sC_len c i; rw [e] at this; simp at this; omega, by rw [sC_len]; exact h2, fun x hx => by
  obtain ⟨k, _, rfl⟩ := List.mem_map.1 hx
  have := h.bd k
  rw [u8n (by omega)]
  omega⟩
theorem lett_inj {a b : Nat} (ha : a < 6) (hb : b < 6) (e : UInt8.ofNat (97 + a) = UInt8.ofNat (97 + b)) : a = b := by
  have := congrArg UInt8.toNat e
  rw [u8n (by omega), u8n (by omega)] at this
  omega
theorem sC_per {c : Nat → Nat} {n : Nat} (h : Cyc c n) (hn : n ≤ 6) {N p : Nat} (hp : p ≤ N) : perB (sC c N) p = true ↔ ∀ i, i + p < N → c (i + p) = c i := by
  rw [perB_iff (by rw [sC_len]; exact hp), sC_len]
  constructor
  · intro hh i hi
    have := hh i hi
    rw [sC_get c hi, sC_get c (by omega)] at this
    injection this with this
    exact lett_inj (by have := h.bd (i + p); omega) (by have := h.bd i; omega) this
  · intro hh i hi
    rw [sC_get c hi, sC_get c (by omega), hh i hi]
theorem head_perL {l : List UInt8} {k : Nat} (h1 : 1 ≤ k) (h2 : k ≤ l.length) (hk : perB l k = true) (hl : ∀ p, 1 ≤ p → p < k → perB l p = false) : (perL l).head? = some (k : Int) := by
  unfold perL perK
  rw [List.head?_map, List.head?_filter]
  have : (List.range (l.length + 1)).find? (fun p => decide (1 ≤ p) && perB l p) = some k := List.find?_range_eq_some.2 ⟨by simp [h1, hk], List.mem_range.2 (by omega), fun y hy => by
    by_cases hy1 : 1 ≤ y
    · simp [hl y hy1 hy]
    · simp [hy1]⟩
  rw [this]; rfl
theorem sC_head {c : Nat → Nat} {n : Nat} (h : Cyc c n) (hn : n ≤ 6) {k N : Nat} (h1 : 1 ≤ k) (h2 : k < N) (hk : c k = 0) (hl : ∀ i, 1 ≤ i → i < k → c i ≠ 0) : (perL (sC c N)).head? = some (k : Int) := by
  refine head_perL h1 (by rw [sC_len]; omega) ((sC_per h hn (by omega)).2 fun i _ => h.per hk i) fun p hp1 hp2 => ?_
  rw [← Bool.not_eq_true]
  intro hb
  have := (sC_per h hn (by omega)).1 hb 0 (by omega)
  rw [Nat.zero_add, h.zero] at this
  exact hl p hp1 hp2 this
theorem sC_root {c : Nat → Nat} {n : Nat} (h : Cyc c n) (hn : n ≤ 6) {k : Nat} (h1 : 1 ≤ k) (hk : c k = 0) (hl : ∀ i, 1 ≤ i → i < k → c i ≠ 0) : rootA (sC c (2 * k)) = .tup [.str (bs (sC c k)), .int .i64 2, .int .i64 0] := by
  have hne : sC c (2 * k) ≠ [] := fun e => by have := sC_len c (2 * k); rw [e] at this; simp at this; omega
  obtain ⟨r, hr, r1, r2, r3, r4, r5⟩ := rootX_spec hne
  rw [sC_len] at r2 r4 r5
  have hrk : r = k := by
    rcases Nat.lt_trichotomy r k with hlt | heq | hgt
    · exfalso
      have := (sC_per h hn r2).1 r3 0 (by omega)
      rw [Nat.zero_add, h.zero] at this
      exact hl r r1 hlt this
    · exact heq
    · exfalso
      have := r5 k h1 hgt (by simp)
      rw [(sC_per h hn (by omega)).2 fun i _ => h.per hk i] at this
      cases this
  unfold rootA
  rw [hr, hrk, sC_len, Int.toNat_natCast, sC_take c (by omega)]
  have : (((2 * k : Nat) : Int)).tdiv (k : Int) = 2 := by
    rw [Int.tdiv_eq_ediv_of_nonneg (by omega)]
    rw [show ((2 * k : Nat) : Int) = 2 * (k : Int) by omega]
    exact Int.mul_ediv_cancel _ (by omega)
  rw [this]
/-- the state after copies of a digit -/
def st (m : List (List Int)) (d i : Nat) : Nat := (aft m (List.replicate i (d : Int)) 0).toNat
theorem rep_bd {m : List (List Int)} {d : Nat} (hd : d < m.length) (i : Nat) : ∀ a ∈ List.replicate i (d : Int), 0 ≤ a ∧ a < m.length := fun a ha => by
  rw [(List.mem_replicate.1 ha).2]; omega
theorem st_bd {m : List (List Int)} (g : GoodT m) {d : Nat} (hd : d < m.length) (i : Nat) : aft m (List.replicate i (d : Int)) 0 = (st m d i : Int) ∧ st m d i < m.length := by
  have := aft_bd g (l := List.replicate i (d : Int)) (s := 0) (rep_bd hd i) ⟨by omega, by have := g.n2; omega⟩
  unfold st
  omega
theorem st_succ {m : List (List Int)} (g : GoodT m) {d : Nat} (hd : d < m.length) (i : Nat) : (st m d (i + 1) : Int) = mI m (st m d i) d := by
  rw [← (st_bd g hd (i + 1)).1, List.replicate_succ', aft_app, (st_bd g hd i).1]
  simp [aft]
theorem st_cyc {m : List (List Int)} (g : GoodT m) {d : Nat} (hd : d < m.length) : Cyc (st m d) m.length := ⟨rfl, fun i => (st_bd g hd i).2, fun i j e => by
  have h1 := st_succ g hd i
  have h2 := st_succ g hd j
  rw [e, ← h2] at h1
  omega, fun i j e => by
  have h1 := st_succ g hd i
  have h2 := st_succ g hd j
  exact g.cin _ _ d (st_bd g hd i).2 (st_bd g hd j).2 hd (by rw [← h1, ← h2, e])⟩
end Go.Proofs.YtdcpkgedaflnmaaGreatDoor.Cy
