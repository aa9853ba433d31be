/-
  A law of this seat's translation, compacted, held against the loaded program by the kernel. Printed by wip/tools/Gex.lean.
  Places and lists that are foldings, against the reference: the law's contract. Own work.
-/
import Derived.Test.YtedpcenghofpoaaDoorC1
import Derived.Test.YtedpcenghofpoaaDoorG6
namespace Go.Proofs.YtedpcenghofpoaaDoor
open Go Fw
def A3 : ACode := .seq (.reg [⟨some 2, none, .boxi (.t 0)⟩, ⟨some 4, none, .mv (.c (.bool false))⟩])
  (.seq (.seq (.reg [⟨some 11, none, .load true 2 (.t 2)⟩, ⟨some 12, none, .pcall 14 [.t 11]⟩, ⟨some 13, none, .mv (.t 12)⟩, ⟨some 14, some (13, false), .mv (.t 1)⟩, ⟨some 15, some (13, false), .len false (.t 14)⟩, ⟨some 16, some (13, false), .bin 0 .gtr (.t 15) (.c (.int .i64 30))⟩, ⟨some 17, none, .pick (.t 13) (.c (.bool true)) (.t 16)⟩])
  (.cond (.t 17) (.seq (.reg [⟨some 18, none, .pcall 15 []⟩, ⟨some 4, none, .mv (.t 18)⟩])
  (.ret)) (.skip)))
  (.seq (.reg [⟨some 19, none, .load true 2 (.t 2)⟩, ⟨some 20, none, .pcall 16 [.t 19]⟩, ⟨some 5, none, .alloc [.nilsl, .str (bs [])]⟩, ⟨none, none, .store 2 (.t 5) (.t 20)⟩])
  (.seq (.reg [⟨some 22, none, .load true 2 (.t 2)⟩, ⟨some 23, none, .pcall 17 [.t 22]⟩, ⟨some 21, none, .mv (.t 23)⟩, ⟨some 24, none, .extract (.t 21) 0⟩, ⟨some 25, none, .extract (.t 21) 1⟩, ⟨some 6, none, .mv (.t 24)⟩, ⟨some 7, none, .mv (.t 25)⟩])
  (.seq (.reg [⟨some 27, none, .load true 2 (.t 5)⟩, ⟨some 28, none, .pcall 18 [.t 27]⟩, ⟨some 26, none, .mv (.t 28)⟩, ⟨some 29, none, .extract (.t 26) 0⟩, ⟨some 30, none, .extract (.t 26) 1⟩, ⟨some 8, none, .mv (.t 29)⟩, ⟨some 9, none, .mv (.t 30)⟩])
  (.seq (.seq (.regd [⟨some 31, none, .mv (.t 7)⟩, ⟨some 32, none, .mv (.t 9)⟩, ⟨some 33, none, .bin 0 .neq (.t 31) (.t 32)⟩, ⟨some 34, none, .mv (.t 33)⟩, ⟨some 35, some (34, false), .mv (.t 6)⟩, ⟨some 36, some (34, false), .len false (.t 35)⟩, ⟨some 37, some (34, false), .mv (.t 8)⟩, ⟨some 38, some (34, false), .len false (.t 37)⟩, ⟨some 39, some (34, false), .bin 0 .neq (.t 36) (.t 38)⟩, ⟨some 40, none, .pick (.t 34) (.c (.bool true)) (.t 39)⟩, ⟨some 41, none, .mv (.t 40)⟩, ⟨some 42, some (41, false), .load true 2 (.t 2)⟩, ⟨some 43, some (41, false), .pcall 19 [.t 42]⟩, ⟨some 44, some (41, false), .load true 2 (.t 5)⟩, ⟨some 45, some (41, false), .pcall 20 [.t 44]⟩, ⟨some 46, some (41, false), .bin 0 .neq (.t 43) (.t 45)⟩, ⟨some 47, none, .pick (.t 41) (.c (.bool true)) (.t 46)⟩, ⟨some 48, none, .mv (.t 47)⟩, ⟨some 49, some (48, false), .load true 2 (.t 2)⟩, ⟨some 50, some (48, false), .mv (.t 1)⟩, ⟨some 51, some (48, false), .pcall 21 [.t 49, .t 50]⟩, ⟨some 52, some (48, false), .load true 2 (.t 5)⟩, ⟨some 53, some (48, false), .mv (.t 1)⟩, ⟨some 54, some (48, false), .pcall 22 [.t 52, .t 53]⟩, ⟨some 55, some (48, false), .bin 0 .neq (.t 51) (.t 54)⟩, ⟨some 56, none, .pick (.t 48) (.c (.bool true)) (.t 55)⟩])
  (.cond (.t 56) (.seq (.reg [⟨some 4, none, .mv (.c (.bool false))⟩])
  (.ret)) (.skip)))
  (.seq (.seq (.reg [⟨some 10, none, .mv (.c (.int .i64 0))⟩])
  (.block 0 (.loop (.seq (.seq (.reg [⟨some 57, none, .mv (.t 10)⟩, ⟨some 58, none, .mv (.t 6)⟩, ⟨some 59, none, .len false (.t 58)⟩, ⟨some 60, none, .bin 0 .lss (.t 57) (.t 59)⟩])
  (.cond (.t 60) (.skip) (.exit 0)))
  (.seq (.block 1 (.seq (.regd [⟨some 63, none, .mv (.t 6)⟩, ⟨some 64, none, .mv (.t 10)⟩, ⟨some 65, none, .iaddrS 2 (.t 63) (.t 64)⟩, ⟨some 66, none, .load true 2 (.t 65)⟩, ⟨some 67, none, .mv (.t 8)⟩, ⟨some 68, none, .mv (.t 10)⟩, ⟨some 69, none, .iaddrS 2 (.t 67) (.t 68)⟩, ⟨some 70, none, .load true 2 (.t 69)⟩, ⟨some 71, none, .bin 12 .neq (.t 66) (.t 70)⟩])
  (.cond (.t 71) (.seq (.reg [⟨some 4, none, .mv (.c (.bool false))⟩])
  (.ret)) (.skip))))
  (.reg [⟨some 61, none, .mv (.t 10)⟩, ⟨some 62, none, .bin 0 .add (.t 61) (.c (.int .i64 1))⟩, ⟨some 10, none, .mv (.t 62)⟩]))))))
  (.seq (.reg [⟨some 72, none, .pcall 15 []⟩, ⟨some 4, none, .mv (.t 72)⟩])
  (.ret))))))))
def R3 : List ARes := [.t 4]
theorem ok3 : FnOk Tryd.prog 3 [] pureFns A3 R3 73 := ⟨⟨Tryd.f3, _, Tryd.func3, rfl, rfl, by kernel_rfl, by kernel_rfl⟩, by kernel_rfl⟩
end Go.Proofs.YtedpcenghofpoaaDoor
set_option linter.unusedVariables false
set_option linter.unusedSimpArgs false
namespace Go.Proofs.YtedpcenghofpoaaDoor
open Go Fw

theorem leaf_cells {x : AV} (h : x.leaf = true) : x.cells = [x] ∧ x.sto = true := by
  cases x <;> first | exact ⟨rfl, rfl⟩ | cases h
theorem p14 {y : AV} {n : Nat} (hn : alenK false y = some (.int .i64 (n : Int))) (hl : y.leaf = true) (f : List UInt8) : PCall Tryd.prog 14 [.agg [y, .str (bs f)]] (.bool (decide (30 < n) || decide (30 < f.length))) := by
  refine PCall.of CtxOk.nil ok14 (by simp) rfl fun hs hb => ?_
  have ld := leaf_ld hl
  obtain ⟨hc, hst⟩ := leaf_cells hl
  simp only [A14, R14]
  have hsl : alenK true (.str (bs f)) = some (.int .i64 (f.length : Int)) := by simp [alenK, bs_size]
  have e1 : decide ((30 : Int) < (n : Int)) = decide (30 < n) := by rw [Bool.eq_iff_iff]; simp only [decide_eq_true_eq]; omega
  have e2 : decide ((30 : Int) < (f.length : Int)) = decide (30 < f.length) := by rw [Bool.eq_iff_iff]; simp only [decide_eq_true_eq]; omega
  by_cases h1 : 30 < n
  · simp [hst, ld, hn, h1, show (30 : Int) < (n : Int) by omega]
  · by_cases h2 : 30 < f.length
    · simp [hst, ld, hn, h1, show ¬ (30 : Int) < (n : Int) by omega, hsl, h2, show (30 : Int) < (f.length : Int) by omega]
    · simp [hst, ld, hn, h1, show ¬ (30 : Int) < (n : Int) by omega, hsl, h2, show ¬ (30 : Int) < (f.length : Int) by omega]
theorem p16 {y : AV} (hl : y.leaf = true) (hp : (AV.agg [y.share, .str (bs [])]).plain = true) (f : List UInt8) : PCall Tryd.prog 16 [.agg [y, .str (bs f)]] (.agg [y.share, .str (bs f)]) := by
  refine PCall.of CtxOk.nil ok16 (by simp) (by simpa only [AV.plain, plainL] using hp) fun hs hb => ?_
  obtain ⟨hc, hst⟩ := leaf_cells hl
  have ld2 : aload (fun k => if k = hs.nh then some [y, .str (bs f)] else if k = hs.nh then some [.nilsl, .str (bs [])] else hs.heap k) true 2 (.ref hs.nh 0) = some (.agg [y, .str (bs f)]) := load_ref2 (by simp)
  simp only [A16, R16]
  simp [hst, aResult, aResL, aRes, ld2]
/-- a context for the laws over a strip -/
theorem ctxS {y : AV} {n : Nat} (hn : alenK false y = some (.int .i64 (n : Int))) (hl : y.leaf = true) (hsh : y.share = y) (hp : y.plain = true) (f : List UInt8) : ∃ C : PCtx, CtxOk Tryd.prog C ∧ C 15 [] = some (.bool true) ∧
    C 14 [.agg [y, .str (bs f)]] = some (.bool (decide (30 < n) || decide (30 < f.length))) ∧ C 16 [.agg [y, .str (bs f)]] = some (.agg [y, .str (bs f)]) ∧ ∀ g, ¬ g = 15 → ¬ g = 14 → ¬ g = 16 → C g = CA g := by
  obtain ⟨C1', hC1, h15, n1⟩ := ctx_pt CAok 15 _ _ p15
  obtain ⟨C2', hC2, h14, n2⟩ := ctx_pt hC1 14 _ _ (p14 hn hl f)
  obtain ⟨C, hC, h16, n3⟩ := ctx_pt hC2 16 _ _ (p16 hl (by rw [hsh]; simp only [AV.plain, plainL, hp]; rfl) f)
  rw [hsh] at h16
  exact ⟨C, hC, by rw [n3 15 (by decide), n2 15 (by decide)]; exact h15, by rw [n3 14 (by decide)]; exact h14, h16, fun g a b c => by rw [n3 g c, n2 g b, n1 g a]⟩
/-- a context for the laws over a strip that is too long -/
theorem ctxB {y : AV} {n : Nat} (hn : alenK false y = some (.int .i64 (n : Int))) (hl : y.leaf = true) (f : List UInt8) : ∃ C : PCtx, CtxOk Tryd.prog C ∧ C 15 [] = some (.bool true) ∧ C 14 [.agg [y, .str (bs f)]] = some (.bool (decide (30 < n) || decide (30 < f.length))) := by
  obtain ⟨C1', hC1, h15, n1⟩ := ctx_pt CAok 15 _ _ p15
  obtain ⟨C2', hC2, h14, n2⟩ := ctx_pt hC1 14 _ _ (p14 hn hl f)
  exact ⟨C2', hC2, by rw [n2 15 (by decide)]; exact h15, h14⟩
theorem p3_big {y o : AV} {n m : Nat} (hn : alenK false y = some (.int .i64 (n : Int))) (hl : y.leaf = true) (f : List UInt8) (hm : alenK false o = some (.int .i64 (m : Int))) (hbig : 30 < n ∨ 30 < f.length ∨ 30 < m) : PCall Tryd.prog 3 [.agg [y, .str (bs f)], o] (.bool true) := by
  obtain ⟨C, hC, h15, h14⟩ := ctxB hn hl f
  refine PCall.of hC ok3 (by simp) rfl fun hs hb => ?_
  obtain ⟨hc, hst⟩ := leaf_cells hl
  simp only [A3, R3]
  by_cases hb1 : 30 < n ∨ 30 < f.length
  · have : (decide (30 < n) || decide (30 < f.length)) = true := by rw [Bool.or_eq_true, decide_eq_true_eq, decide_eq_true_eq]; exact hb1
    rw [this] at h14
    simp [hst, h14, h15]
  · have : (decide (30 < n) || decide (30 < f.length)) = false := by rw [Bool.or_eq_false_iff, decide_eq_false_iff_not, decide_eq_false_iff_not]; omega
    rw [this] at h14
    simp [hst, h14, h15, hm, show (30 : Int) < (m : Int) by omega]
theorem p3 {y o : AV} {l os : List Int} (hy : asI y = some l) (hsh : y.share = y) (hp : y.plain = true) (f : List UInt8) (ho : asI o = some os) (h1 : l.length ≤ 30) (h2 : f.length ≤ 30) (h3 : os.length ≤ 30) : PCall Tryd.prog 3 [.agg [y, .str (bs f)], o] (.bool true) := by
  obtain ⟨C, hC, h15, h14, h16, up⟩ := ctxS (alen_of hy) (asI_leaf hy) hsh hp f
  have : (decide (30 < l.length) || decide (30 < f.length)) = false := by rw [Bool.or_eq_false_iff, decide_eq_false_iff_not, decide_eq_false_iff_not]; omega
  rw [this] at h14
  have up := fun g a b c => up g a b c
  have q17 : C 17 [.agg [y, .str (bs f)]] = some (plcV l f) := by rw [up 17 (by decide) (by decide) (by decide)]; exact CA_17 hy
  have q18 : C 18 [.agg [y, .str (bs f)]] = some (plcV l f) := by rw [up 18 (by decide) (by decide) (by decide)]; exact CA_18 hy
  have q19 : C 19 [.agg [y, .str (bs f)]] = some (.int .i64 (chk l f)) := by rw [up 19 (by decide) (by decide) (by decide)]; exact CA_19 hy
  have q20 : C 20 [.agg [y, .str (bs f)]] = some (.int .i64 (chk l f)) := by rw [up 20 (by decide) (by decide) (by decide)]; exact CA_20 hy
  have q21 : C 21 [.agg [y, .str (bs f)], o] = some (.int .i64 (liesR l f os)) := by rw [up 21 (by decide) (by decide) (by decide)]; exact CA_21 hy ho
  have q22 : C 22 [.agg [y, .str (bs f)], o] = some (.int .i64 (liesR l f os)) := by rw [up 22 (by decide) (by decide) (by decide)]; exact CA_22 hy ho
  obtain ⟨hc, hst⟩ := leaf_cells (asI_leaf hy)
  -- what Places returns
  obtain ⟨p, e, bl, hpv, hpl, hpi⟩ : ∃ p e, ∃ bl : List AV, plcV l f = .tup [p, .int .i64 e] ∧ alenK false p = some (.int .i64 (bl.length : Int)) ∧ bl.length ≤ 30 ∧ ∀ i (h : i < bl.length), ∃ a b : Int, aidxS 2 p (.int .i64 (i : Int)) = some (.ptr (.agg [.int .i64 a, .int .i64 b])) := by
    unfold plcV
    split
    · rename_i hck
      obtain ⟨m1, m2, _, _⟩ := meas_0 (chk_0 hck).1
      refine ⟨_, _, bnds l l.length, rfl, alen_out, by rw [bnds_len]; omega, fun i h => ⟨_, _, bnd_ix m2 (by rw [bnds_len] at h; exact h)⟩⟩
    · exact ⟨_, _, [], rfl, rfl, by simp, fun i h => by simp at h⟩
  rw [hpv] at q17 q18
  refine PCall.of hC ok3 (by simp) rfl fun hs hb => ?_
  have ld : ∀ b : AV, aload (fun k => if k = hs.nh then some [y, .str (bs f)] else if k = hs.nh then some [.nilsl, .str (bs [])] else hs.heap k) true 2 (.ref hs.nh 0) = some (.agg [y, .str (bs f)]) := fun _ => load_ref2 (by simp)
  simp only [A3, R3]
  simp [hst, h14, alen_of ho, show ¬ (30 : Int) < (os.length : Int) by omega, h16, q17, q18, hpl, q19, q20, q21, q22]
  refine At.loop (fun (i : Nat) s => i ≤ bl.length ∧ s.env 6 = p ∧ s.env 8 = p ∧ s.env 10 = .int .i64 (i : Int)) (fun i => bl.length - i) 0 ?_ ?_
  · simp
  rintro N i s hN ⟨hi, e6, e8, e10⟩
  simp [e6, e10, hpl]
  refine At.dec (fun hlt => ?_) (fun hlt => ?_)
  · have hi' : i < bl.length := by omega
    obtain ⟨a, b, hix⟩ := hpi.2 i hi'
    have w1 := wrap_nat1 (show i < _ by have := hpi.1; omega)
    simp [e6, e8, e10, hix, w1]
    refine hN (i + 1) _ (by omega) ⟨by omega, ?_⟩
    simp [e6, e8]
  · simp [h15]
/-- a list of numbers as an argument is plain -/
theorem ints_plain {x : AV} (h : ShV (.sl (.int .i64)) x) : x.plain = true := by
  obtain ⟨l, hl, _, _⟩ := shv_intsK h
  rcases hl with ⟨rfl, rfl⟩ | rfl
  · rfl
  · exact plain_ints l
theorem places_typed (xs : List AV) (h : Typed [TStr, .sl (.int .i64)] xs) : PCall Tryd.prog 3 xs (.bool true) := by
  obtain ⟨x, o, rfl, hx, ho⟩ := h.two
  obtain ⟨y, f, rfl, hy⟩ := str_typed hx
  obtain ⟨n, hn, hl, h1⟩ := ints_typed hy
  obtain ⟨m, hm, _, h2⟩ := ints_typed ho
  by_cases hf : 30 < f.length
  · exact p3_big hn hl f hm (.inr (.inl hf))
  rcases h1 with h1 | ⟨h1, hs1, l, hl1, hl2⟩
  · exact p3_big hn hl f hm (.inl h1)
  rcases h2 with h2 | ⟨h2, hs2, os, ho1, ho2⟩
  · exact p3_big hn hl f hm (.inr (.inr h2))
  exact p3 hl1 hs1 (ints_plain hy) f ho1 (by omega) (by omega) (by omega)
end Go.Proofs.YtedpcenghofpoaaDoor
