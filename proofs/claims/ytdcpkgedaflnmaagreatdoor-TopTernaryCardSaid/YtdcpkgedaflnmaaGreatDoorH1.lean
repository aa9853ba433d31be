/-
  Kinds of labels; the value of a size. Own work.
  The best choices for all sizes: plain. Own work.
  The table of choices: memory, a try, and the parts of the walk. Own work; the code is printed by Gex.lean and cut by a program of mine.
  The table of choices: the walk. Own work.
-/
import Derived.Test.YtdcpkgedaflnmaaGreatDoorC3
import Derived.Test.YtdcpkgedaflnmaaGreatDoorFx5
import Derived.Test.YtdcpkgedaflnmaaGreatDoorFx4
set_option linter.unusedVariables false
set_option linter.unusedSimpArgs false
namespace Go.Proofs.YtdcpkgedaflnmaaGreatDoor.Ct
open Go Fw

theorem p75 (a b c : Int) : PCall Tryz.prog 75 [.int .i64 a, .int .i64 b, .int .i64 c] (.bool (decide (a ≤ b) && decide (b ≤ c))) := by
  refine PCall.of CtxOk.nil ok75 (by simp) rfl fun hs hb => ?_
  simp [A75, R75]
  by_cases h : a ≤ b <;> simp [h]
/-- a kind: width, height, value -/
structure Kd where
  w : Nat
  h : Nat
  v : Nat
deriving DecidableEq
def kA (k : Kd) : AV := .agg [.int .i64 (k.w : Int), .int .i64 (k.h : Int), .int .i64 (k.v : Int)]
def Kd.ok (k : Kd) : Prop := 1 ≤ k.w ∧ k.w ≤ 12 ∧ 1 ≤ k.h ∧ k.h ≤ 12 ∧ k.v ≤ 1000
structure IsK (x : AV) (ks : List Kd) : Prop where
  asl : asV 3 x = some (ks.map kA)
  pos : ks ≠ []
  le : ks.length ≤ 6
  ok : ∀ k ∈ ks, k.ok
theorem IsK.len {x : AV} {ks : List Kd} (h : IsK x ks) : alenK false x = some (.int .i64 (ks.length : Int)) := by
  have := lenV h.asl
  simpa using this
theorem IsK.get {x : AV} {ks : List Kd} (h : IsK x ks) {i : Nat} (hi : i < ks.length) : aidxS 3 x (.int .i64 (i : Int)) = some (.ptr (kA ks[i])) := by
  have := idxV h.asl (k := .i64) (i := i) (by simpa using hi)
  simpa using this
theorem ld3 {hp : Nat → Option (List AV)} {k : Kd} : aload hp true 3 (.ptr (kA k)) = some (kA k) := rfl
abbrev SB : List AV → Option AV
  | [.int .i64 a, .int .i64 b, .int .i64 c] => some (.bool (decide (a ≤ b) && decide (b ≤ c)))
  | _ => none
theorem SB_ok (xs : List AV) (r : AV) (h : SB xs = some r) : PCall Tryz.prog 75 xs r := by
  unfold SB at h
  split at h
  · injection h with h; subst h; exact p75 _ _ _
  · cases h
def C0 : PCtx := PCtx.nil.add 75 SB
theorem C0ok : CtxOk Tryz.prog C0 := CtxOk.nil.add SB_ok
@[simp] theorem C0_75 : C0 75 = SB := id rfl
theorem p134 {k : Kd} (h : k.ok) : PCall Tryz.prog 134 [kA k] (.bool false) := by
  obtain ⟨h1, h2, h3, h4, h5⟩ := h
  refine PCall.of C0ok ok134 (by simp) rfl fun hs hb => ?_
  have e1 : (1 : Int) ≤ (k.w : Int) := by omega
  have e2 : (k.w : Int) ≤ 12 := by omega
  have e3 : (1 : Int) ≤ (k.h : Int) := by omega
  have e4 : (k.h : Int) ≤ 12 := by omega
  have e5 : (k.v : Int) ≤ 1000 := by omega
  have hsto : (AV.agg [.int .i64 (k.w : Int), .int .i64 (k.h : Int), .int .i64 (k.v : Int)]).sto = true := rfl
  simp [A134, R134, kA, e1, e2, e3, e4, e5, hsto]
theorem p154 {x : AV} {ks : List Kd} (hx : IsK x ks) : PCall Tryz.prog 154 [x, .fn (.func 134) [] []] (.int .i64 (-1)) := by
  have hl := hx.le
  refine PCall.of C0ok ok154 (by simp) rfl fun hs hb => ?_
  simp [A154, R154, hx.len]
  refine At.loop (fun (i : Nat) s => i ≤ ks.length ∧ s.env 0 = x ∧ s.env 1 = .fn (.func 134) [] [] ∧ s.env 7 = .int .i64 (ks.length : Int) ∧ s.env 8 = .int .i64 (i : Int)) (fun i => ks.length - i) 0 ?_ ?_
  · simp
  rintro N i s hN ⟨hi, e0, e1, e7, e8⟩
  simp [e7, e8]
  refine At.dec (fun hlt => ?_) (fun hlt => ?_)
  · have hi' : i < ks.length := by omega
    simp [e0, e1, e8, hx.get hi', ld3]
    refine At.hp (p134 (hx.ok _ (List.getElem_mem hi'))) ?_
    simp [e8]
    refine hN (i + 1) _ (by omega) ⟨by omega, ?_⟩
    simp [e0, e1, e7, wrap_nat1 (show i < _ by omega)]
  · simp
theorem p133 {x : AV} {ks : List Kd} (hx : IsK x ks) : PCall Tryz.prog 133 [x, .fn (.func 134) [] []] (.bool false) := by
  obtain ⟨C, hC, k1, _⟩ := ctx_pt CtxOk.nil 154 _ _ (p154 hx)
  refine PCall.of hC ok133 (by simp) rfl fun hs hb => ?_
  simp [A133, R133, k1]
theorem p93 {x : AV} {ks : List Kd} (hx : IsK x ks) : PCall Tryz.prog 93 [x] (.int .i64 0) := by
  obtain ⟨C, hC, k1, _⟩ := ctx_pt CtxOk.nil 133 _ _ (p133 hx)
  have hp : ¬ ks = [] := hx.pos
  have hl : ¬ 6 < ks.length := by have := hx.le; omega
  have hl' : ¬ (6 : Int) < (ks.length : Int) := by have := hx.le; omega
  refine PCall.of hC ok93 (by simp) rfl fun hs hb => ?_
  simp [A93, R93, k1, hx.len, hp, hl, hl']
theorem p41 {x : AV} {ks : List Kd} (hx : IsK x ks) {w h : Nat} (h1 : 1 ≤ w) (h2 : w ≤ 12) (h3 : 1 ≤ h) (h4 : h ≤ 12) : PCall Tryz.prog 41 [.int .i64 (w : Int), .int .i64 (h : Int), x] (.int .i64 0) := by
  obtain ⟨C, hC, k1, n1⟩ := ctx_pt C0ok 93 _ _ (p93 hx)
  have h75 : C 75 = SB := by rw [n1 75 (by decide)]; rfl
  have e1 : (1 : Int) ≤ (w : Int) := by omega
  have e2 : (w : Int) ≤ 12 := by omega
  have e3 : (1 : Int) ≤ (h : Int) := by omega
  have e4 : (h : Int) ≤ 12 := by omega
  refine PCall.of hC ok41 (by simp) rfl fun hs hb => ?_
  simp [A41, R41, k1, h75, e1, e2, e3, e4]
/-- the greatest value of a size; whether there is one -/
def valS (w h : Nat) (r : Nat × Bool) (k : Kd) : Nat × Bool := if k.w = w ∧ k.h = h then (max r.1 k.v, true) else r
def valK (w h : Nat) (ks : List Kd) : Nat × Bool := ks.foldl (valS w h) (0, false)
theorem valK_le {w h : Nat} : ∀ {ks : List Kd} {r : Nat × Bool}, (∀ k ∈ ks, k.v ≤ 1000) → r.1 ≤ 1000 → (ks.foldl (valS w h) r).1 ≤ 1000
  | [], r, _, hr => hr
  | k :: ks, r, hk, hr => by
    have := hk k (by simp)
    show (ks.foldl (valS w h) (valS w h r k)).1 ≤ 1000
    refine valK_le (ks := ks) (r := valS w h r k) (fun k' h' => hk k' (by simp [h'])) ?_
    simp only [valS]
    split
    · show max r.1 k.v ≤ 1000; omega
    · exact hr
theorem max64 {a b : Nat} : amax (.int .i64 (a : Int)) (.int .i64 (b : Int)) = some (.int .i64 ((max a b : Nat) : Int)) := by
  rw [amax_int]; congr 2; omega
theorem p94 {x : AV} {ks : List Kd} (hx : IsK x ks) (w h : Nat) : PCall Tryz.prog 94 [.int .i64 (w : Int), .int .i64 (h : Int), x] (.tup [.int .i64 ((valK w h ks).1 : Int), .bool (valK w h ks).2]) := by
  have hl := hx.le
  refine PCall.of CtxOk.nil ok94 (by simp) rfl fun hs hb => ?_
  simp [A94, R94, hx.len]
  refine At.loop (fun (i : Nat) s => i ≤ ks.length ∧ s.env 0 = .int .i64 (w : Int) ∧ s.env 1 = .int .i64 (h : Int) ∧ s.env 12 = x ∧ s.env 13 = .int .i64 (ks.length : Int) ∧ s.env 14 = .int .i64 (i : Int) ∧ s.env 8 = .int .i64 (((ks.take i).foldl (valS w h) (0, false)).1 : Int) ∧ s.env 9 = .bool ((ks.take i).foldl (valS w h) (0, false)).2) (fun i => ks.length - i) 0 ?_ ?_
  · simp
  rintro N i s hN ⟨hi, e0, e1, e12, e13, e14, e8, e9⟩
  simp [e13, e14]
  refine At.dec (fun hlt => ?_) (fun hlt => ?_)
  · have hi' : i < ks.length := by omega
    have hst : (ks.take (i + 1)).foldl (valS w h) (0, false) = valS w h ((ks.take i).foldl (valS w h) (0, false)) ks[i] := by
      rw [List.take_succ_eq_append_getElem hi', List.foldl_append]; rfl
    generalize (ks.take i).foldl (valS w h) (0, false) = r at *
    have hg := hx.get hi'
    have hld : ∀ hp, aload hp true 3 (.ptr (kA ks[i])) = some (kA ks[i]) := fun hp => rfl
    obtain ⟨r1, r2⟩ := r
    generalize ks[i] = k at *
    simp only at e8 e9
    have hm := max64 (a := r1) (b := k.v)
    simp only [kA] at hg hld
    have st : astore (fun i => if i = s.hs.nh then some [.int .i64 0, .int .i64 0, .int .i64 0] else s.hs.heap i) 3 (.ref s.hs.nh 0) (.agg [.int .i64 (k.w : Int), .int .i64 (k.h : Int), .int .i64 (k.v : Int)]) = some _ := sto_agg (ys := [.int .i64 0, .int .i64 0, .int .i64 0]) (by simp) rfl rfl rfl rfl
    simp [e0, e1, e8, e12, e14, hg, hld, st]
    have fin : ∀ r' : Nat × Bool, r' = valS w h (r1, r2) k → ∀ s' : AS, s'.env 0 = .int .i64 (w : Int) → s'.env 1 = .int .i64 (h : Int) → s'.env 12 = x → s'.env 13 = .int .i64 (ks.length : Int) → s'.env 14 = .int .i64 ((i : Int) + 1) → s'.env 8 = .int .i64 (r'.1 : Int) → s'.env 9 = .bool r'.2 → At (N s') := by
      rintro r' rfl s' f0 f1 f12 f13 f14 f8 f9
      exact hN (i + 1) _ (by omega) ⟨by omega, f0, f1, f12, f13, by simpa using f14, by rw [hst]; exact f8, by rw [hst]; exact f9⟩
    by_cases c1 : k.w = w
    · by_cases c2 : k.h = h
      · simp [c1, c2, e0, e1, e8, e14, hm, afaddr, aload, apart]
        refine fin (max r1 k.v, true) (by simp [valS, c1, c2]) _ ?_ ?_ ?_ ?_ ?_ ?_ ?_ <;> simp [e0, e1, e12, e13, wrap_nat1 (show i < _ by omega)]
      · have c2' : ¬ (k.h : Int) = (h : Int) := by omega
        simp [c1, c2, c2', e0, e1, e8, e14, hm, afaddr, aload, apart]
        refine fin (r1, r2) (by simp [valS, c1, c2]) _ ?_ ?_ ?_ ?_ ?_ ?_ ?_ <;> simp [e0, e1, e8, e9, e12, e13, wrap_nat1 (show i < _ by omega)]
    · have c1' : ¬ (k.w : Int) = (w : Int) := by omega
      simp [c1, c1', e0, e1, e8, e14, hm, afaddr, aload, apart]
      refine fin (r1, r2) (by simp [valS, c1]) _ ?_ ?_ ?_ ?_ ?_ ?_ ?_ <;> simp [e0, e1, e8, e9, e12, e13, wrap_nat1 (show i < _ by omega)]
  · have : i = ks.length := by omega
    subst this
    simp [e8, e9, valK]
end Go.Proofs.YtdcpkgedaflnmaaGreatDoor.Ct
set_option linter.unusedVariables false
set_option linter.unusedSimpArgs false
namespace Go.Proofs.YtdcpkgedaflnmaaGreatDoor.Ct
open Go Fw

/-- what is done with a piece: worth, labels, sold, cut up, where -/
structure Ch where
  wo : Nat
  la : Nat
  so : Bool
  up : Bool
  pl : Nat
deriving DecidableEq
def Ch.z : Ch := ⟨0, 0, false, false, 0⟩
def chC (c : Ch) : List AV := [.int .i64 (c.wo : Int), .int .i64 (c.la : Int), .bool c.so, .bool c.up, .int .i64 (c.pl : Int)]
theorem chC_len (c : Ch) : (chC c).length = 5 := rfl
theorem chC_sto (c : Ch) : (AV.agg (chC c)).sto = true := rfl
theorem chC_cells (c : Ch) : (AV.agg (chC c)).cells = chC c := rfl
def better (z o : Ch) : Bool := decide (o.wo < z.wo) || (decide (z.wo = o.wo) && decide (z.la < o.la))
def sumC (x y : Ch) (up : Bool) (p : Nat) : Ch := ⟨x.wo + y.wo, x.la + y.la, false, up, p⟩
def tryC (best x y : Ch) (up : Bool) (p : Nat) : Ch := if better (sumC x y up p) best = true then sumC x y up p else best
def acU (F : Nat → Nat → Ch) (a b : Nat) (c : Ch) : Nat → Ch
  | 0 => c
  | i + 1 => tryC (acU F a b c i) (F (i + 1) b) (F (a - (i + 1)) b) true (i + 1)
def acR (F : Nat → Nat → Ch) (a b : Nat) (c : Ch) : Nat → Ch
  | 0 => c
  | i + 1 => tryC (acR F a b c i) (F a (i + 1)) (F a (b - (i + 1))) false (i + 1)
def cell1 (v : Nat) : Ch := if 0 < v then ⟨v, 1, true, false, 0⟩ else Ch.z
def bestC (ks : List Kd) (F : Nat → Nat → Ch) (a b : Nat) : Ch := acR F a b (acU F a b (cell1 (valK a b ks).1) (a - 1)) (b - 1)
def gN (ks : List Kd) : Nat → Nat → Nat → Ch
  | 0, _, _ => Ch.z
  | n + 1, a, b => if a = 0 ∨ b = 0 then Ch.z else bestC ks (gN ks n) a b
def gT (ks : List Kd) (a b : Nat) : Ch := gN ks (a + b) a b
theorem acU_cong {F H : Nat → Nat → Ch} {a b : Nat} {c : Ch} : ∀ {i : Nat}, i < a → (∀ k, 1 ≤ k → k < a → F k b = H k b) → acU F a b c i = acU H a b c i
  | 0, _, _ => rfl
  | i + 1, hi, h => by rw [acU, acU, acU_cong (by omega) h, h (i + 1) (by omega) hi, h (a - (i + 1)) (by omega) (by omega)]
theorem acR_cong {F H : Nat → Nat → Ch} {a b : Nat} {c : Ch} : ∀ {i : Nat}, i < b → (∀ k, 1 ≤ k → k < b → F a k = H a k) → acR F a b c i = acR H a b c i
  | 0, _, _ => rfl
  | i + 1, hi, h => by rw [acR, acR, acR_cong (by omega) h, h (i + 1) (by omega) hi, h (b - (i + 1)) (by omega) (by omega)]
theorem bestC_cong {ks : List Kd} {F H : Nat → Nat → Ch} {a b : Nat} (ha : 1 ≤ a) (hb : 1 ≤ b) (h1 : ∀ k, 1 ≤ k → k < a → F k b = H k b) (h2 : ∀ k, 1 ≤ k → k < b → F a k = H a k) : bestC ks F a b = bestC ks H a b := by
  unfold bestC
  rw [acU_cong (by omega) h1, acR_cong (by omega) h2]
theorem gN_eq (ks : List Kd) : ∀ n a b, a + b ≤ n → gN ks n a b = gT ks a b := by
  intro n
  induction n using Nat.strongRecOn with
  | ind n ih =>
    intro a b h
    unfold gT
    match n, h with
    | 0, h =>
      obtain ⟨rfl, rfl⟩ : a = 0 ∧ b = 0 := by omega
      rfl
    | n + 1, h =>
      by_cases h0 : a = 0 ∨ b = 0
      · cases hs : a + b with
        | zero => simp [gN, h0]
        | succ m => simp [gN, h0]
      · have ha : 1 ≤ a := by omega
        have hb : 1 ≤ b := by omega
        obtain ⟨m, hm⟩ : ∃ m, a + b = m + 1 := ⟨a + b - 1, by omega⟩
        rw [hm, gN, gN, if_neg h0, if_neg h0]
        refine bestC_cong ha hb (fun k h1 h2 => ?_) (fun k h1 h2 => ?_)
        · rw [ih n (by omega) k b (by omega), ih m (by omega) k b (by omega)]
        · rw [ih n (by omega) a k (by omega), ih m (by omega) a k (by omega)]
theorem gT_eq (ks : List Kd) {a b : Nat} (ha : 1 ≤ a) (hb : 1 ≤ b) : gT ks a b = bestC ks (gT ks) a b := by
  obtain ⟨m, hm⟩ : ∃ m, a + b = m + 1 := ⟨a + b - 1, by omega⟩
  have : gT ks a b = gN ks (m + 1) a b := by unfold gT; rw [hm]
  rw [this, gN, if_neg (by omega)]
  exact bestC_cong ha hb (fun k h1 h2 => gN_eq ks m k b (by omega)) (fun k h1 h2 => gN_eq ks m a k (by omega))
theorem gT_zero (ks : List Kd) {a b : Nat} (h : a = 0 ∨ b = 0) : gT ks a b = Ch.z := by
  unfold gT
  cases hs : a + b with
  | zero => rfl
  | succ m => simp [gN, h]
/-- what a choice of a size keeps to -/
structure Bd (a b : Nat) (c : Ch) : Prop where
  wo : c.wo ≤ 1000 * (a * b)
  la : c.la ≤ a * b
  pl : c.pl ≤ a + b
theorem tryC_of {P : Ch → Prop} {best x y : Ch} {up : Bool} {p : Nat} (h1 : P best) (h2 : P (sumC x y up p)) : P (tryC best x y up p) := by
  unfold tryC
  split
  · exact h2
  · exact h1
theorem bd_sumU {a b i : Nat} {x y : Ch} (hi : i < a) (hx : Bd i b x) (hy : Bd (a - i) b y) : Bd a b (sumC x y true i) := by
  have e : i * b + (a - i) * b = a * b := by rw [← Nat.add_mul]; congr 1; omega
  have h1 := hx.wo
  have h2 := hy.wo
  have h3 := hx.la
  have h4 := hy.la
  exact ⟨show x.wo + y.wo ≤ _ by omega, show x.la + y.la ≤ _ by omega, show i ≤ _ by omega⟩
theorem bd_sumR {a b i : Nat} {x y : Ch} (hi : i < b) (hx : Bd a i x) (hy : Bd a (b - i) y) : Bd a b (sumC x y false i) := by
  have e : a * i + a * (b - i) = a * b := by rw [← Nat.mul_add]; congr 1; omega
  have h1 := hx.wo
  have h2 := hy.wo
  have h3 := hx.la
  have h4 := hy.la
  exact ⟨show x.wo + y.wo ≤ _ by omega, show x.la + y.la ≤ _ by omega, show i ≤ _ by omega⟩
theorem acU_of {F : Nat → Nat → Ch} {a b : Nat} {P : Ch → Prop} {c : Ch} (hc : P c) (h : ∀ k, 1 ≤ k → k < a → P (sumC (F k b) (F (a - k) b) true k)) : ∀ {i : Nat}, i < a → P (acU F a b c i)
  | 0, _ => hc
  | i + 1, hi => tryC_of (acU_of hc h (by omega)) (h (i + 1) (by omega) hi)
theorem acR_of {F : Nat → Nat → Ch} {a b : Nat} {P : Ch → Prop} {c : Ch} (hc : P c) (h : ∀ k, 1 ≤ k → k < b → P (sumC (F a k) (F a (b - k)) false k)) : ∀ {i : Nat}, i < b → P (acR F a b c i)
  | 0, _ => hc
  | i + 1, hi => tryC_of (acR_of hc h (by omega)) (h (i + 1) (by omega) hi)
theorem bd_cell {a b v : Nat} (ha : 1 ≤ a) (hb : 1 ≤ b) (hv : v ≤ 1000) : Bd a b (cell1 v) := by
  have : 1 ≤ a * b := Nat.mul_pos ha hb
  unfold cell1
  split
  · exact ⟨show v ≤ _ by omega, this, Nat.zero_le _⟩
  · exact ⟨Nat.zero_le _, Nat.zero_le _, Nat.zero_le _⟩
theorem gT_ind {ks : List Kd} {P : Nat → Nat → Ch → Prop} (h0 : ∀ a b, 1 ≤ a → 1 ≤ b → P a b (cell1 (valK a b ks).1)) (hU : ∀ a b i, 1 ≤ i → i < a → 1 ≤ b → P i b (gT ks i b) → P (a - i) b (gT ks (a - i) b) → P a b (sumC (gT ks i b) (gT ks (a - i) b) true i))
    (hR : ∀ a b i, 1 ≤ i → i < b → 1 ≤ a → P a i (gT ks a i) → P a (b - i) (gT ks a (b - i)) → P a b (sumC (gT ks a i) (gT ks a (b - i)) false i)) : ∀ n a b, a + b ≤ n → 1 ≤ a → 1 ≤ b → P a b (gT ks a b)
  | 0, a, b, h, ha, hb => by omega
  | n + 1, a, b, h, ha, hb => by
    rw [gT_eq ks ha hb]
    refine acR_of (acU_of (h0 a b ha hb) (fun k h1 h2 => ?_) (by omega)) (fun k h1 h2 => ?_) (by omega)
    · exact hU a b k h1 h2 hb (gT_ind h0 hU hR n k b (by omega) h1 hb) (gT_ind h0 hU hR n (a - k) b (by omega) (by omega) hb)
    · exact hR a b k h1 h2 ha (gT_ind h0 hU hR n a k (by omega) ha h1) (gT_ind h0 hU hR n a (b - k) (by omega) ha (by omega))
theorem gT_bd {ks : List Kd} (hk : ∀ k ∈ ks, k.v ≤ 1000) (a b : Nat) : Bd a b (gT ks a b) := by
  by_cases h0 : a = 0 ∨ b = 0
  · rw [gT_zero ks h0]; exact ⟨Nat.zero_le _, Nat.zero_le _, Nat.zero_le _⟩
  · exact gT_ind (P := Bd) (fun a b ha hb => bd_cell ha hb (valK_le hk (by simp))) (fun a b i h1 h2 h3 hx hy => bd_sumU h2 hx hy) (fun a b i h1 h2 h3 hx hy => bd_sumR h2 hx hy) (a + b) a b (Nat.le_refl _) (by omega) (by omega)
end Go.Proofs.YtdcpkgedaflnmaaGreatDoor.Ct
set_option linter.unusedVariables false
set_option linter.unusedSimpArgs false
namespace Go.Proofs.YtdcpkgedaflnmaaGreatDoor.Ct
open Go Fw

def z845 : List AV := ((List.range 169).map fun _ => chC Ch.z).flatten
def B42 : ACode := .seq (.reg [⟨some 28, none, .mv (.t 7)⟩, ⟨some 29, none, .mv (.t 8)⟩, ⟨some 30, none, .mv (.t 9)⟩, ⟨some 31, none, .nilchk (.t 28)⟩, ⟨some 32, none, .iaddrA 13 true 65 (.t 31) (.t 29)⟩, ⟨some 33, none, .iaddrA 13 true 5 (.t 32) (.t 30)⟩, ⟨some 10, none, .alloc [.nilptr]⟩, ⟨none, none, .store 1 (.t 10) (.t 33)⟩])
  (.seq (.seq (.reg [⟨some 35, none, .mv (.t 8)⟩, ⟨some 36, none, .mv (.t 9)⟩, ⟨some 37, none, .mv (.t 2)⟩, ⟨some 38, none, .pcall 94 [.t 35, .t 36, .t 37]⟩, ⟨some 34, none, .mv (.t 38)⟩, ⟨some 39, none, .extract (.t 34) 0⟩, ⟨some 40, none, .extract (.t 34) 1⟩, ⟨some 11, none, .mv (.t 39)⟩, ⟨some 12, none, .mv (.t 40)⟩])
  (.seq (.reg [⟨some 41, none, .mv (.t 11)⟩, ⟨some 42, none, .bin 0 .gtr (.t 41) (.c (.int .i64 0))⟩])
  (.cond (.t 42) (.reg [⟨some 43, none, .load false 1 (.t 10)⟩, ⟨some 44, none, .mv (.t 11)⟩, ⟨some 45, none, .build [.int .i64 0, .int .i64 0, .bool false, .bool false, .int .i64 0] [(0, 1, (.t 44)), (1, 1, (.c (.int .i64 1))), (2, 1, (.c (.bool true)))]⟩, ⟨some 46, none, .nilchk (.t 43)⟩, ⟨none, none, .store 5 (.t 46) (.t 45)⟩]) (.skip))))
  (.seq (.reg [⟨some 47, none, .mkfn (.func 95) [] [.t 10]⟩, ⟨some 13, none, .mv (.t 47)⟩])
  (.seq (.seq (.reg [⟨some 14, none, .mv (.c (.int .i64 1))⟩])
  (.block 4 (.loop (.seq (.seq (.reg [⟨some 48, none, .mv (.t 14)⟩, ⟨some 49, none, .mv (.t 8)⟩, ⟨some 50, none, .bin 0 .lss (.t 48) (.t 49)⟩])
  (.cond (.t 50) (.skip) (.exit 4)))
  (.seq (.block 5 (.regl [⟨some 53, none, .mv (.t 13)⟩, ⟨some 54, none, .mv (.t 7)⟩, ⟨some 55, none, .mv (.t 14)⟩, ⟨some 56, none, .mv (.t 9)⟩, ⟨some 57, none, .nilchk (.t 54)⟩, ⟨some 58, none, .iaddrA 13 true 65 (.t 57) (.t 55)⟩, ⟨some 59, none, .iaddrA 13 true 5 (.t 58) (.t 56)⟩, ⟨some 60, none, .load true 5 (.t 59)⟩, ⟨some 61, none, .mv (.t 7)⟩, ⟨some 62, none, .mv (.t 8)⟩, ⟨some 63, none, .mv (.t 14)⟩, ⟨some 64, none, .bin 0 .sub (.t 62) (.t 63)⟩, ⟨some 65, none, .mv (.t 9)⟩, ⟨some 66, none, .nilchk (.t 61)⟩, ⟨some 67, none, .iaddrA 13 true 65 (.t 66) (.t 64)⟩, ⟨some 68, none, .iaddrA 13 true 5 (.t 67) (.t 65)⟩, ⟨some 69, none, .load true 5 (.t 68)⟩, ⟨some 70, none, .mv (.t 14)⟩, ⟨some 71, none, .build [.bool false, .int .i64 0] [(0, 1, (.c (.bool true))), (1, 1, (.t 70))]⟩, ⟨some 72, none, .callv (.t 53) [.t 60, .t 69, .t 71]⟩]))
  (.reg [⟨some 51, none, .mv (.t 14)⟩, ⟨some 52, none, .bin 0 .add (.t 51) (.c (.int .i64 1))⟩, ⟨some 14, none, .mv (.t 52)⟩]))))))
  (.seq (.reg [⟨some 15, none, .mv (.c (.int .i64 1))⟩])
  (.block 6 (.loop (.seq (.seq (.reg [⟨some 73, none, .mv (.t 15)⟩, ⟨some 74, none, .mv (.t 9)⟩, ⟨some 75, none, .bin 0 .lss (.t 73) (.t 74)⟩])
  (.cond (.t 75) (.skip) (.exit 6)))
  (.seq (.block 7 (.regl [⟨some 78, none, .mv (.t 13)⟩, ⟨some 79, none, .mv (.t 7)⟩, ⟨some 80, none, .mv (.t 8)⟩, ⟨some 81, none, .mv (.t 15)⟩, ⟨some 82, none, .nilchk (.t 79)⟩, ⟨some 83, none, .iaddrA 13 true 65 (.t 82) (.t 80)⟩, ⟨some 84, none, .iaddrA 13 true 5 (.t 83) (.t 81)⟩, ⟨some 85, none, .load true 5 (.t 84)⟩, ⟨some 86, none, .mv (.t 7)⟩, ⟨some 87, none, .mv (.t 8)⟩, ⟨some 88, none, .mv (.t 9)⟩, ⟨some 89, none, .mv (.t 15)⟩, ⟨some 90, none, .bin 0 .sub (.t 88) (.t 89)⟩, ⟨some 91, none, .nilchk (.t 86)⟩, ⟨some 92, none, .iaddrA 13 true 65 (.t 91) (.t 87)⟩, ⟨some 93, none, .iaddrA 13 true 5 (.t 92) (.t 90)⟩, ⟨some 94, none, .load true 5 (.t 93)⟩, ⟨some 95, none, .mv (.t 15)⟩, ⟨some 96, none, .build [.bool false, .int .i64 0] [(0, 1, (.c (.bool false))), (1, 1, (.t 95))]⟩, ⟨some 97, none, .callv (.t 78) [.t 85, .t 94, .t 96]⟩]))
  (.reg [⟨some 76, none, .mv (.t 15)⟩, ⟨some 77, none, .bin 0 .add (.t 76) (.c (.int .i64 1))⟩, ⟨some 15, none, .mv (.t 77)⟩])))))))))
def L42 : ACode := .seq (.reg [⟨some 8, none, .mv (.c (.int .i64 1))⟩])
  (.block 0 (.loop (.seq (.seq (.reg [⟨some 18, none, .mv (.t 8)⟩, ⟨some 19, none, .mv (.t 0)⟩, ⟨some 20, none, .bin 0 .leq (.t 18) (.t 19)⟩])
  (.cond (.t 20) (.skip) (.exit 0)))
  (.seq (.block 1 (.seq (.reg [⟨some 9, none, .mv (.c (.int .i64 1))⟩])
  (.block 2 (.loop (.seq (.seq (.reg [⟨some 23, none, .mv (.t 9)⟩, ⟨some 24, none, .mv (.t 1)⟩, ⟨some 25, none, .bin 0 .leq (.t 23) (.t 24)⟩])
  (.cond (.t 25) (.skip) (.exit 2)))
  (.seq (.block 3 B42)
  (.reg [⟨some 26, none, .mv (.t 9)⟩, ⟨some 27, none, .bin 0 .add (.t 26) (.c (.int .i64 1))⟩, ⟨some 9, none, .mv (.t 27)⟩])))))))
  (.reg [⟨some 21, none, .mv (.t 8)⟩, ⟨some 22, none, .bin 0 .add (.t 21) (.c (.int .i64 1))⟩, ⟨some 8, none, .mv (.t 22)⟩])))))
def A42x : ACode := .seq (.reg [⟨some 6, none, .mv (.c (.nilptr))⟩])
  (.seq (.reg [⟨some 16, none, .build z845 []⟩, ⟨some 17, none, .boxm (.t 16)⟩, ⟨some 7, none, .mv (.t 17)⟩])
  (.seq L42
  (.seq (.reg [⟨some 98, none, .mv (.t 7)⟩, ⟨some 6, none, .mv (.t 98)⟩])
  (.ret))))
set_option maxRecDepth 100000 in
theorem A42_eq : A42 = A42x := by kernel_rfl
/-! the table in memory -/
def tab (T : Nat → Nat → Ch) : List AV := ent (fun k => chC (T (k / 13) (k % 13))) 169
def updT (T : Nat → Nat → Ch) (a b : Nat) (c : Ch) (a' b' : Nat) : Ch := if a' = a ∧ b' = b then c else T a' b'
theorem z845_eq : z845 = tab fun _ _ => Ch.z := rfl
theorem div13 {a b : Nat} (hb : b < 13) : (13 * a + b) / 13 = a ∧ (13 * a + b) % 13 = b := by omega
theorem tab_ld {hp : Nat → Option (List AV)} {q a b : Nat} {T : Nat → Nat → Ch} (h : hp q = some (tab T)) (ha : a < 13) (hb : b < 13) : aload hp true 5 (.ref q (5 * (13 * a + b))) = some (.agg (chC (T a b))) := by
  have := ent_ld (k := 13 * a + b) (fun k => chC_len _) h (by omega)
  rw [(div13 hb).1, (div13 hb).2] at this
  exact this
theorem tab_cell {hp : Nat → Option (List AV)} {q a b o : Nat} {T : Nat → Nat → Ch} (h : hp q = some (tab T)) (ha : a < 13) (hb : b < 13) (ho : o < 5) : aload hp false 1 (.ref q (5 * (13 * a + b) + o)) = (chC (T a b))[o]? := by
  have := ent_cell (k := 13 * a + b) (fun k => chC_len _) h (by omega) ho
  rw [(div13 hb).1, (div13 hb).2] at this
  exact this
theorem tab_upd (T : Nat → Nat → Ch) {a b : Nat} (hb : b < 13) (c : Ch) : ent (fun j => if j = 13 * a + b then chC c else chC (T (j / 13) (j % 13))) 169 = tab (updT T a b c) := by
  refine ent_cong fun k hk => ?_
  unfold updT
  by_cases h : k = 13 * a + b
  · rw [if_pos h, if_pos (by omega)]
  · rw [if_neg h, if_neg (by omega)]
theorem tab_sto {hp : Nat → Option (List AV)} {q a b : Nat} {T : Nat → Nat → Ch} (h : hp q = some (tab T)) (ha : a < 13) (hb : b < 13) (c : Ch) :
    astore hp 5 (.ref q (5 * (13 * a + b))) (.agg (chC c)) = some fun j => if j = q then some (tab (updT T a b c)) else hp j := by
  have := ent_sto (k := 13 * a + b) (fun k => chC_len _) h (by omega) (chC_sto c) (chC_cells c) (chC_len c)
  rw [tab_upd T hb c] at this
  exact this
theorem idx1 {q a : Nat} (ha : a < 13) : aidxA 13 true 65 (.ref q 0) (.int .i64 (a : Int)) = some (.ref q (a * 65)) := by
  simp [aidxA, afaddr, ha]; omega
theorem idx2 {q a b : Nat} (hb : b < 13) : aidxA 13 true 5 (.ref q (a * 65)) (.int .i64 (b : Int)) = some (.ref q (5 * (13 * a + b))) := by
  simp [aidxA, afaddr, hb]; omega
theorem fa0 (c : Ch) : afaddr false 1 0 (.ptr (.agg (chC c))) = some (.ptr (.int .i64 (c.wo : Int))) := rfl
theorem fa1 (c : Ch) : afaddr false 1 1 (.ptr (.agg (chC c))) = some (.ptr (.int .i64 (c.la : Int))) := rfl
theorem p96 (z o : Ch) : PCall Tryz.prog 96 [.agg (chC z), .agg (chC o)] (.bool (better z o)) := by
  have h1 := chC_sto z
  have h2 := chC_sto o
  refine PCall.of CtxOk.nil ok96 (by simp) rfl fun hs hb => ?_
  by_cases c1 : o.wo < z.wo
  · have c1' : (o.wo : Int) < (z.wo : Int) := by omega
    simp [A96, R96, h1, h2, fa0, fa1, better, c1, c1']
  · have c1' : ¬ (o.wo : Int) < (z.wo : Int) := by omega
    by_cases c2 : z.wo = o.wo
    · have c2' : (z.wo : Int) = (o.wo : Int) := by omega
      simp [A96, R96, h1, h2, fa0, fa1, better, c1, c1', c2, c2']
    · have c2' : ¬ (z.wo : Int) = (o.wo : Int) := by omega
      simp [A96, R96, h1, h2, fa0, fa1, better, c1, c1', c2, c2']
theorem ctx96 : ∃ C, CtxOk Tryz.prog C ∧ ∀ z o, C 96 [.agg (chC z), .agg (chC o)] = some (.bool (better z o)) := by
  obtain ⟨C, hC, k, _⟩ := ctx_fam CtxOk.nil 96 (fun q : Ch × Ch => [.agg (chC q.1), .agg (chC q.2)]) (fun q => .bool (better q.1 q.2)) (fun q => p96 q.1 q.2) (by
    rintro ⟨a, b⟩ ⟨c, d⟩ h
    have e : ∀ x y : Ch, chC x = chC y → x = y := by
      rintro ⟨a1, a2, a3, a4, a5⟩ ⟨b1, b2, b3, b4, b5⟩ h
      simp [chC] at h
      obtain ⟨g1, g2, g3, g4, g5⟩ := h
      rw [show a1 = b1 by omega, show a2 = b2 by omega, g3, g4, show a5 = b5 by omega]
    simp at h
    rw [e _ _ h.1, e _ _ h.2])
  exact ⟨C, hC, fun z o => k (z, o)⟩
/-- a try: the better one stays -/
theorem p95 {x y best : Ch} {up : Bool} {pl : Nat} {hs : HS} {p q a b : Nat} {T : Nat → Nat → Ch} (ha : a < 13) (hb : b < 13) (hp : hs.heap p = some [.ref q (5 * (13 * a + b))]) (hq : hs.heap q = some (tab T)) (hT : T a b = best) (hpn : p < hs.nh) (hqn : q < hs.nh) (hpq : p ≠ q)
    (w1 : x.wo + y.wo < 1000000) (w2 : x.la + y.la < 1000000) :
    FCall Tryz.prog 95 [.agg (chC x), .agg (chC y), .agg [.bool up, .int .i64 (pl : Int)], .ref p 0] hs fun e hs' => e = .ret (.tup []) ∧ hs'.heap q = some (tab (updT T a b (tryC best x y up pl))) ∧ hs.nh ≤ hs'.nh ∧ hs'.tok = hs.tok ∧ hs'.nt = hs.nt ∧ ∀ k, k < hs.nh → k ≠ q → hs'.heap k = hs.heap k := by
  obtain ⟨C, hC, k96⟩ := ctx96
  have h1 := chC_sto x
  have h2 := chC_sto y
  have h3 : (AV.agg [.bool up, .int .i64 (pl : Int)]).sto = true := rfl
  have e1 : IntKind.i64.wrap ((x.wo : Int) + (y.wo : Int)) = ((x.wo + y.wo : Nat) : Int) := by rw [wrap64 (by omega) (by omega)]; omega
  have e2 : IntKind.i64.wrap ((x.la : Int) + (y.la : Int)) = ((x.la + y.la : Nat) : Int) := by rw [wrap64 (by omega) (by omega)]; omega
  refine FCall.ofAt hC ok95 (by simp) ?_
  simp only [A95, R95]
  have hf : afill [.int .i64 0, .int .i64 0, .bool false, .bool false, .int .i64 0] [(0, 1, .int .i64 ((x.wo : Int) + (y.wo : Int))), (1, 1, .int .i64 ((x.la : Int) + (y.la : Int))), (3, 2, .agg [.bool up, .int .i64 (pl : Int)])] = some (chC (sumC x y up pl)) := by
    simp [chC, sumC]
    rfl
  have st : astore (fun i => if i = hs.nh then some [.int .i64 0, .int .i64 0, .bool false, .bool false, .int .i64 0] else hs.heap i) 5 (.ref hs.nh 0) (.agg (chC (sumC x y up pl))) = some _ := sto_agg (ys := [.int .i64 0, .int .i64 0, .bool false, .bool false, .int .i64 0]) (by simp) (chC_sto _) (chC_cells _) rfl rfl
  simp [h1, h2, h3, fa0, fa1, e1, e2, hf, st]
  generalize hz : sumC x y up pl = z at *
  generalize hh : (fun k => if k = hs.nh then some (chC z) else if k = hs.nh then some [.int .i64 0, .int .i64 0, .bool false, .bool false, .int .i64 0] else hs.heap k) = h' at *
  have g0 : h' hs.nh = some (chC z) := by rw [← hh]; simp
  have g1 : h' p = some [.ref q (5 * (13 * a + b))] := by rw [← hh]; simp [show ¬ p = hs.nh by omega, hp]
  have g2 : h' q = some (tab T) := by rw [← hh]; simp [show ¬ q = hs.nh by omega, hq]
  have g3 : ∀ k, k < hs.nh → h' k = hs.heap k := fun k hk => by rw [← hh]; simp [show ¬ k = hs.nh by omega]
  have l1 : aload h' true 5 (.ref hs.nh 0) = some (.agg (chC z)) := ld_agg g0 rfl
  have l2 : aload h' false 1 (.ref p 0) = some (.ref q (5 * (13 * a + b))) := ldc g1 rfl
  have l3 : aload h' true 5 (.ref q (5 * (13 * a + b))) = some (.agg (chC best)) := by rw [tab_ld g2 ha hb, hT]
  have l4 := tab_sto g2 ha hb z
  generalize 5 * (13 * a + b) = o at *
  simp [l1, l2, l3, anilchk, k96]
  cases hbt : better z best with
  | true =>
    have ht : tryC best x y up pl = z := by unfold tryC; rw [hz, hbt]; rfl
    simp [l1, l2, l3, l4, anilchk]
    exact At.of ⟨by rw [ht], fun k hk hkq => by rw [if_neg hkq]; exact g3 k hk⟩
  | false =>
    have ht : tryC best x y up pl = best := by unfold tryC; rw [hz, hbt]; rfl
    have hu : updT T a b best = T := by
      funext a' b'
      unfold updT
      split
      · rename_i h; rw [h.1, h.2, hT]
      · rfl
    simp
    rw [ht, hu]
    exact At.of ⟨g2, fun k hk hkq => g3 k hk⟩
end Go.Proofs.YtdcpkgedaflnmaaGreatDoor.Ct
set_option linter.unusedVariables false
set_option linter.unusedSimpArgs false
namespace Go.Proofs.YtdcpkgedaflnmaaGreatDoor.Ct
open Go Fw

theorem At.gen {K : AS → Prop} {s0 : AS} (J : AS → Prop) (h : J s0) (h2 : ∀ s, J s → At (K s)) : At (K s0) := h2 s0 h
/-- what stays in the walk -/
structure E42 (w h : Nat) (x : AV) (a b q : Nat) (hs0 : HS) (s : AS) : Prop where
  e0 : s.env 0 = .int .i64 (w : Int)
  e1 : s.env 1 = .int .i64 (h : Int)
  e2 : s.env 2 = x
  e7 : s.env 7 = .ref q 0
  e8 : s.env 8 = .int .i64 (a : Int)
  e9 : s.env 9 = .int .i64 (b : Int)
  nq : q < s.hs.nh
  q0 : hs0.nh ≤ q
  tk : s.hs.tok = hs0.tok
  nt : s.hs.nt = hs0.nt
  old : ∀ k, k < hs0.nh → s.hs.heap k = hs0.heap k
/-- that all choices are small -/
def SmT (T : Nat → Nat → Ch) : Prop := ∀ a b, (T a b).wo < 400000 ∧ (T a b).la < 400000
theorem updT_same (T : Nat → Nat → Ch) (a b : Nat) (c : Ch) : updT T a b c a b = c := by simp [updT]
theorem updT_upd (T : Nat → Nat → Ch) (a b : Nat) (c d : Ch) : updT (updT T a b c) a b d = updT T a b d := by
  funext a' b'
  unfold updT
  split <;> rfl
theorem updT_ne {T : Nat → Nat → Ch} {a b a' b' : Nat} {c : Ch} (h : ¬ (a' = a ∧ b' = b)) : updT T a b c a' b' = T a' b' := if_neg h
set_option maxHeartbeats 1000000 in
theorem cell42 {C : PCtx} {w h a b q : Nat} {x : AV} {ks : List Kd} {hs0 : HS} {T : Nat → Nat → Ch} {s : AS} (h94 : C 94 [.int .i64 (a : Int), .int .i64 (b : Int), x] = some (.tup [.int .i64 ((valK a b ks).1 : Int), .bool (valK a b ks).2]))
    (hv : (valK a b ks).1 ≤ 1000) (hT : SmT T) (ha1 : 1 ≤ a) (ha : a < 13) (hb1 : 1 ≤ b) (hb : b < 13) (E : E42 w h x a b q hs0 s) (hq : s.hs.heap q = some (tab T)) (h0 : T a b = Ch.z) :
    At (awp Tryz.prog C (.block 3 B42) (endN fun s => E42 w h x a b q hs0 s ∧ s.hs.heap q = some (tab (updT T a b (bestC ks T a b)))) s) := by
  have i1 := idx1 (q := q) ha
  have i2 := idx2 (q := q) (a := a) hb
  have hnq : ¬ q = s.hs.nh := by have := E.nq; omega
  have hvp : (0 < (valK a b ks).1) = ((0 : Int) < ((valK a b ks).1 : Int)) := by simp
  generalize hval : (valK a b ks).1 = v at *
  simp only [At.awp_block, B42]
  rw [At.awp_seq]
  have st : astore (fun i => if i = s.hs.nh then some [.nilptr] else s.hs.heap i) 1 (.ref s.hs.nh 0) (.ref q (5 * (13 * a + b))) = some _ := store_one (u := .nilptr) (by simp) rfl rfl
  generalize hoo : 5 * (13 * a + b) = o at *
  simp [E.e7, E.e8, E.e9, anilchk, i1, i2, st, -At.awp_seq]
  refine At.gen (fun s' => E42 w h x a b q hs0 s' ∧ s'.hs.heap q = some (tab T) ∧ s'.env 10 = .ref s.hs.nh 0 ∧ s'.hs.heap s.hs.nh = some [.ref q o] ∧ s.hs.nh < s'.hs.nh) ?_ ?_
  · refine ⟨⟨by simp [E.e0], by simp [E.e1], by simp [E.e2], by simp [E.e7], by simp [E.e8], by simp [E.e9], by have := E.nq; simp; omega, E.q0, E.tk, E.nt, fun k hk => ?_⟩, by simp [hnq, hq], by simp, by simp, by simp⟩
    have : ¬ k = s.hs.nh := by have := E.q0; have := E.nq; omega
    simp [this, E.old k hk]
  generalize s.hs.nh = p at hnq
  clear E hq st s
  rintro s ⟨E, hq, e10, hp, hpn⟩
  rw [At.awp_seq, At.awp_seq]
  simp [E.e2, E.e8, E.e9, h94, -At.awp_seq]
  refine At.cut (fun s => E42 w h x a b q hs0 s ∧ s.env 10 = .ref p 0 ∧ s.hs.heap p = some [.ref q o] ∧ p < s.hs.nh ∧ s.hs.heap q = some (tab (updT T a b (cell1 v)))) ?_ ?_
  · have l10 : aload s.hs.heap false 1 (.ref p 0) = some (.ref q o) := ldc hp rfl
    by_cases hv0 : 0 < v
    · have hv0' : (0 : Int) < (v : Int) := by omega
      have hf : afill [.int .i64 0, .int .i64 0, .bool false, .bool false, .int .i64 0] [(0, 1, .int .i64 (v : Int)), (1, 1, .int .i64 1), (2, 1, .bool true)] = some (chC ⟨v, 1, true, false, 0⟩) := rfl
      have l5 := tab_sto hq ha hb ⟨v, 1, true, false, 0⟩
      rw [hoo] at l5
      simp [hv0, hv0', e10, l10, hf, anilchk, l5]
      refine At.of ⟨⟨by simp [E.e0], by simp [E.e1], by simp [E.e2], by simp [E.e7], by simp [E.e8], by simp [E.e9], E.nq, E.q0, E.tk, E.nt, fun k hk => ?_⟩, by simp [Ne.symm hnq, hp], hpn, by simp [cell1, hv0]⟩
      have : ¬ k = q := by have := E.q0; omega
      simp [this, E.old k hk]
    · have hv0' : v = 0 := by omega
      subst hv0'
      simp
      refine At.of ⟨⟨by simp [E.e0], by simp [E.e1], by simp [E.e2], by simp [E.e7], by simp [E.e8], by simp [E.e9], E.nq, E.q0, E.tk, E.nt, E.old⟩, e10, hp, hpn, ?_⟩
      have : updT T a b (cell1 0) = T := by
        funext a' b'
        unfold updT
        split
        · rename_i h; rw [h.1, h.2, h0]; rfl
        · rfl
      rw [this]; exact hq
  clear E e10 hp hpn hq s
  rintro s ⟨E, e10, hp, hpn, hq⟩
  rw [At.awp_seq]
  simp [e10, -At.awp_seq]
  rw [At.awp_seq]
  refine At.cut (fun s => E42 w h x a b q hs0 s ∧ s.env 13 = .fn (.func 95) [] [.ref p 0] ∧ s.hs.heap p = some [.ref q o] ∧ p < s.hs.nh ∧ s.hs.heap q = some (tab (updT T a b (acU T a b (cell1 v) (a - 1))))) ?_ ?_
  · simp
    refine At.loop (fun (i : Nat) s => i + 1 ≤ a ∧ E42 w h x a b q hs0 s ∧ s.env 13 = .fn (.func 95) [] [.ref p 0] ∧ s.env 14 = .int .i64 ((i + 1 : Nat) : Int) ∧ s.hs.heap p = some [.ref q o] ∧ p < s.hs.nh ∧ s.hs.heap q = some (tab (updT T a b (acU T a b (cell1 v) i)))) (fun i => a - i) 0 ?_ ?_
    · exact ⟨by omega, ⟨by simp [E.e0], by simp [E.e1], by simp [E.e2], by simp [E.e7], by simp [E.e8], by simp [E.e9], E.nq, E.q0, E.tk, E.nt, E.old⟩, by simp, by simp, hp, hpn, hq⟩
    clear E e10 hp hpn hq s
    rintro N i s hN ⟨hi, E, e13, ev, hp, hpn, hq⟩
    obtain ⟨j1, hj1⟩ : ∃ j1 : Int, j1 = ((i + 1 : Nat) : Int) := ⟨_, rfl⟩
    rw [← hj1] at ev
    simp [ev, E.e8]
    refine At.dec (fun hlt => ?_) (fun hlt => ?_)
    · have hi' : i + 1 < a := by omega
      have wj : IntKind.i64.wrap (j1 + 1) = ((i + 1 + 1 : Nat) : Int) := by rw [hj1]; exact wrap_nat1 (by omega)
      have x1 : aidxA 13 true 65 (.ref q 0) (.int .i64 j1) = some (.ref q ((i + 1) * 65)) := by rw [hj1]; exact idx1 (by omega)
      have x2 := idx2 (q := q) (a := i + 1) hb
      have x3 := idx1 (q := q) (a := a - (i + 1)) (by omega)
      have x4 := idx2 (q := q) (a := a - (i + 1)) hb
      have l1 := tab_ld (a := i + 1) (b := b) hq (by omega) hb
      have l2 := tab_ld (a := a - (i + 1)) (b := b) hq (by omega) hb
      rw [updT_ne (by omega)] at l1 l2
      obtain ⟨s1, s2⟩ := hT (i + 1) b
      obtain ⟨s3, s4⟩ := hT (a - (i + 1)) b
      have ws : IntKind.i64.wrap ((a : Int) - j1) = ((a - (i + 1) : Nat) : Int) := by rw [hj1, wrap64 (by omega) (by omega)]; omega
      have hc := p95 (x := T (i + 1) b) (y := T (a - (i + 1)) b) (up := true) (pl := i + 1) ha hb (by rw [hoo]; exact hp) hq rfl hpn E.nq (Ne.symm hnq) (by omega) (by omega)
      rw [updT_same, updT_upd] at hc
      have hst : acU T a b (cell1 v) (i + 1) = tryC (acU T a b (cell1 v) i) (T (i + 1) b) (T (a - (i + 1)) b) true (i + 1) := rfl
      generalize ((a - (i + 1) : Nat) : Int) = j2 at *
      generalize 5 * (13 * (i + 1) + b) = o1 at *
      generalize 5 * (13 * (a - (i + 1)) + b) = o2 at *
      generalize T (i + 1) b = X at *
      generalize T (a - (i + 1)) b = Y at *
      simp [e13, ev, E.e7, E.e8, E.e9, anilchk, x1, x2, x3, x4, l1, l2, ws]
      have hf : afill [.bool false, .int .i64 0] [(0, 1, .bool true), (1, 1, .int .i64 j1)] = some [.bool true, .int .i64 ((i + 1 : Nat) : Int)] := by rw [hj1]; rfl
      simp [hf]
      refine At.hc hc ?_ ?_
      · rintro r hs' ⟨hr, g1, g2, g3, g4, g5⟩
        injection hr with hr; subst hr
        simp [ev, wj]
        refine hN (i + 1) _ (by omega) ⟨by omega, ⟨by simp [E.e0], by simp [E.e1], by simp [E.e2], by simp [E.e7], by simp [E.e8], by simp [E.e9], Nat.lt_of_lt_of_le E.nq g2, E.q0, by rw [← E.tk]; exact g3, by rw [← E.nt]; exact g4, fun k hk => ?_⟩, by simp [e13], by simp, ?_, Nat.lt_of_lt_of_le hpn g2, by rw [hst]; exact g1⟩
        · have := E.nq
          have := E.q0
          exact (g5 k (by omega) (by omega)).trans (E.old k hk)
        · exact (g5 p hpn (Ne.symm hnq)).trans hp
      · rintro r hs' ⟨hr, _⟩; cases hr
    · have : i = a - 1 := by omega
      subst this
      simp
      exact At.of ⟨⟨by simp [E.e0], by simp [E.e1], by simp [E.e2], by simp [E.e7], by simp [E.e8], by simp [E.e9], E.nq, E.q0, E.tk, E.nt, E.old⟩, e13, hp, hpn, hq⟩
  clear E e10 hp hpn hq s
  rintro s ⟨E, e13, hp, hpn, hq⟩
  simp
  refine At.loop (fun (i : Nat) s => i + 1 ≤ b ∧ E42 w h x a b q hs0 s ∧ s.env 13 = .fn (.func 95) [] [.ref p 0] ∧ s.env 15 = .int .i64 ((i + 1 : Nat) : Int) ∧ s.hs.heap p = some [.ref q o] ∧ p < s.hs.nh ∧ s.hs.heap q = some (tab (updT T a b (acR T a b (acU T a b (cell1 v) (a - 1)) i)))) (fun i => b - i) 0 ?_ ?_
  · exact ⟨by omega, ⟨by simp [E.e0], by simp [E.e1], by simp [E.e2], by simp [E.e7], by simp [E.e8], by simp [E.e9], E.nq, E.q0, E.tk, E.nt, E.old⟩, by simp [e13], by simp, hp, hpn, hq⟩
  clear E e13 hp hpn hq s
  rintro N i s hN ⟨hi, E, e13, ev, hp, hpn, hq⟩
  obtain ⟨j1, hj1⟩ : ∃ j1 : Int, j1 = ((i + 1 : Nat) : Int) := ⟨_, rfl⟩
  rw [← hj1] at ev
  simp [ev, E.e9]
  refine At.dec (fun hlt => ?_) (fun hlt => ?_)
  · have hi' : i + 1 < b := by omega
    have wj : IntKind.i64.wrap (j1 + 1) = ((i + 1 + 1 : Nat) : Int) := by rw [hj1]; exact wrap_nat1 (by omega)
    have x1 := idx1 (q := q) (a := a) ha
    have x2 : aidxA 13 true 5 (.ref q (a * 65)) (.int .i64 j1) = some (.ref q (5 * (13 * a + (i + 1)))) := by rw [hj1]; exact idx2 (by omega)
    have x3 := idx2 (q := q) (a := a) (b := b - (i + 1)) (by omega)
    have x4 := x3
    have l1 := tab_ld (a := a) (b := i + 1) hq ha (by omega)
    have l2 := tab_ld (a := a) (b := b - (i + 1)) hq ha (by omega)
    rw [updT_ne (by omega)] at l1 l2
    obtain ⟨s1, s2⟩ := hT a (i + 1)
    obtain ⟨s3, s4⟩ := hT a (b - (i + 1))
    have ws : IntKind.i64.wrap ((b : Int) - j1) = ((b - (i + 1) : Nat) : Int) := by rw [hj1, wrap64 (by omega) (by omega)]; omega
    have hc := p95 (x := T a (i + 1)) (y := T a (b - (i + 1))) (up := false) (pl := i + 1) ha hb (by rw [hoo]; exact hp) hq rfl hpn E.nq (Ne.symm hnq) (by omega) (by omega)
    rw [updT_same, updT_upd] at hc
    have hst : acR T a b (acU T a b (cell1 v) (a - 1)) (i + 1) = tryC (acR T a b (acU T a b (cell1 v) (a - 1)) i) (T a (i + 1)) (T a (b - (i + 1))) false (i + 1) := rfl
    generalize ((b - (i + 1) : Nat) : Int) = j2 at *
    generalize 5 * (13 * a + (i + 1)) = o1 at *
    generalize 5 * (13 * a + (b - (i + 1))) = o2 at *
    generalize T a (i + 1) = X at *
    generalize T a (b - (i + 1)) = Y at *
    simp [e13, ev, E.e7, E.e8, E.e9, anilchk, x1, x2, x3, x4, l1, l2, ws]
    have hf : afill [.bool false, .int .i64 0] [(0, 1, .bool false), (1, 1, .int .i64 j1)] = some [.bool false, .int .i64 ((i + 1 : Nat) : Int)] := by rw [hj1]; rfl
    simp [hf]
    refine At.hc hc ?_ ?_
    · rintro r hs' ⟨hr, g1, g2, g3, g4, g5⟩
      injection hr with hr; subst hr
      simp [ev, wj]
      refine hN (i + 1) _ (by omega) ⟨by omega, ⟨by simp [E.e0], by simp [E.e1], by simp [E.e2], by simp [E.e7], by simp [E.e8], by simp [E.e9], Nat.lt_of_lt_of_le E.nq g2, E.q0, by rw [← E.tk]; exact g3, by rw [← E.nt]; exact g4, fun k hk => ?_⟩, by simp [e13], by simp, ?_, Nat.lt_of_lt_of_le hpn g2, by rw [hst]; exact g1⟩
      · have := E.nq
        have := E.q0
        exact (g5 k (by omega) (by omega)).trans (E.old k hk)
      · exact (g5 p hpn (Ne.symm hnq)).trans hp
    · rintro r hs' ⟨hr, _⟩; cases hr
  · have : i = b - 1 := by omega
    subst this
    simp
    exact At.of ⟨⟨by simp [E.e0], by simp [E.e1], by simp [E.e2], by simp [E.e7], by simp [E.e8], by simp [E.e9], E.nq, E.q0, E.tk, E.nt, E.old⟩, by unfold bestC; rw [hval]; exact hq⟩
/-- what is there before the cell a, b -/
def Tst (ks : List Kd) (w h a b : Nat) (a' b' : Nat) : Ch := if (a' < a ∨ a' = a ∧ b' < b) ∧ 1 ≤ b' ∧ b' ≤ h ∧ a' ≤ w then gT ks a' b' else Ch.z
def resT (ks : List Kd) (w h : Nat) (a' b' : Nat) : Ch := if a' ≤ w ∧ b' ≤ h then gT ks a' b' else Ch.z
theorem smT {ks : List Kd} (hk : ∀ k ∈ ks, k.v ≤ 1000) {a b : Nat} (ha : a ≤ 12) (hb : b ≤ 12) : (gT ks a b).wo < 400000 ∧ (gT ks a b).la < 400000 := by
  have h := gT_bd hk a b
  have h1 : a * b ≤ 144 := Nat.mul_le_mul ha hb
  have := h.wo
  have := h.la
  omega
theorem Tst_sm {ks : List Kd} (hk : ∀ k ∈ ks, k.v ≤ 1000) {w h : Nat} (hw : w ≤ 12) (hh : h ≤ 12) (a b : Nat) : SmT (Tst ks w h a b) := by
  intro a' b'
  unfold Tst
  split
  · exact smT hk (by omega) (by omega)
  · exact ⟨by decide, by decide⟩
theorem Tst_step {ks : List Kd} {w h a b : Nat} (ha1 : 1 ≤ a) (ha : a ≤ w) (hb1 : 1 ≤ b) (hb : b ≤ h) : updT (Tst ks w h a b) a b (bestC ks (Tst ks w h a b) a b) = Tst ks w h a (b + 1) := by
  have e : bestC ks (Tst ks w h a b) a b = gT ks a b := by
    rw [gT_eq ks ha1 hb1]
    refine bestC_cong ha1 hb1 (fun k h1 h2 => ?_) (fun k h1 h2 => ?_)
    · exact if_pos ⟨.inl h2, hb1, hb, by omega⟩
    · exact if_pos ⟨.inr ⟨rfl, h2⟩, h1, by omega, ha⟩
  rw [e]
  funext a' b'
  unfold updT Tst
  by_cases h1 : a' = a ∧ b' = b
  · obtain ⟨rfl, rfl⟩ := h1
    rw [if_pos ⟨rfl, rfl⟩, if_pos ⟨.inr ⟨rfl, by omega⟩, hb1, hb, ha⟩]
  · rw [if_neg h1]
    by_cases h2 : (a' < a ∨ a' = a ∧ b' < b) ∧ 1 ≤ b' ∧ b' ≤ h ∧ a' ≤ w
    · rw [if_pos h2, if_pos (by omega)]
    · rw [if_neg h2, if_neg (by omega)]
theorem Tst_row (ks : List Kd) (w h a : Nat) : Tst ks w h a (h + 1) = Tst ks w h (a + 1) 1 := by
  funext a' b'
  unfold Tst
  by_cases h2 : (a' < a ∨ a' = a ∧ b' < h + 1) ∧ 1 ≤ b' ∧ b' ≤ h ∧ a' ≤ w
  · rw [if_pos h2, if_pos (by omega)]
  · rw [if_neg h2, if_neg (by omega)]
theorem Tst_res (ks : List Kd) (w h : Nat) : Tst ks w h (w + 1) 1 = resT ks w h := by
  funext a' b'
  unfold Tst resT
  by_cases h2 : a' ≤ w ∧ b' ≤ h
  · rw [if_pos h2]
    by_cases hb : 1 ≤ b'
    · rw [if_pos (by omega)]
    · rw [if_neg (by omega), gT_zero ks (by omega)]
  · rw [if_neg h2, if_neg (by omega)]
theorem Tst_one (ks : List Kd) (w h : Nat) : Tst ks w h 1 1 = fun _ _ => Ch.z := by
  funext a' b'
  unfold Tst
  split
  · exact gT_zero ks (by omega)
  · rfl
theorem Tst_z (ks : List Kd) (w h a b : Nat) : Tst ks w h a b a b = Ch.z := if_neg (by omega)
/-- what stays in the loops -/
structure M42 (w h : Nat) (x : AV) (q : Nat) (hs0 : HS) (s : AS) : Prop where
  e0 : s.env 0 = .int .i64 (w : Int)
  e1 : s.env 1 = .int .i64 (h : Int)
  e2 : s.env 2 = x
  e7 : s.env 7 = .ref q 0
  nq : q < s.hs.nh
  q0 : hs0.nh ≤ q
  tk : s.hs.tok = hs0.tok
  nt : s.hs.nt = hs0.nt
  old : ∀ k, k < hs0.nh → s.hs.heap k = hs0.heap k
theorem ctx94 {x : AV} {ks : List Kd} (hx : IsK x ks) : ∃ C, CtxOk Tryz.prog C ∧ ∀ a b : Nat, C 94 [.int .i64 (a : Int), .int .i64 (b : Int), x] = some (.tup [.int .i64 ((valK a b ks).1 : Int), .bool (valK a b ks).2]) := by
  obtain ⟨C, hC, k, _⟩ := ctx_fam CtxOk.nil 94 (fun q : Nat × Nat => [.int .i64 (q.1 : Int), .int .i64 (q.2 : Int), x]) (fun q => .tup [.int .i64 ((valK q.1 q.2 ks).1 : Int), .bool (valK q.1 q.2 ks).2]) (fun q => p94 hx q.1 q.2) (by
    rintro ⟨a, b⟩ ⟨c, d⟩ h
    simp only [List.cons.injEq, AV.int.injEq, and_true, true_and] at h
    rw [show a = c by omega, show b = d by omega])
  exact ⟨C, hC, fun a b => k (a, b)⟩
theorem z845_sto : (AV.agg z845).sto = true := by kernel_rfl
theorem z845_cells : (AV.agg z845).cells = z845 := by kernel_rfl
set_option maxHeartbeats 1000000 in
theorem p42 {x : AV} {ks : List Kd} (hx : IsK x ks) {w h : Nat} (hw : w ≤ 12) (hh : h ≤ 12) (hs : HS) :
    FCall Tryz.prog 42 [.int .i64 (w : Int), .int .i64 (h : Int), x] hs fun e hs' => e = .ret (.ref hs.nh 0) ∧ hs'.heap hs.nh = some (tab (resT ks w h)) ∧ hs.nh < hs'.nh ∧ hs'.tok = hs.tok ∧ hs'.nt = hs.nt ∧ ∀ k, k < hs.nh → hs'.heap k = hs.heap k := by
  obtain ⟨C, hC, k94⟩ := ctx94 hx
  have hv : ∀ k ∈ ks, k.v ≤ 1000 := fun k hk => (hx.ok k hk).2.2.2.2
  refine FCall.ofAt hC ok42 (by simp) ?_
  rw [A42_eq]
  simp only [A42x, R42]
  have hs1 := z845_sto
  have hs2 := z845_cells
  have hz := z845_eq
  generalize z845 = zz at hs1 hs2 hz ⊢
  rw [At.awp_seq]
  simp [-At.awp_seq]
  rw [At.awp_seq]
  simp [hs1, hs2, -At.awp_seq]
  rw [At.awp_seq]
  refine At.cut (fun s => M42 w h x hs.nh hs s ∧ s.hs.heap hs.nh = some (tab (resT ks w h))) ?_ ?_
  · simp only [L42]
    rw [At.awp_seq]
    simp [-At.awp_seq]
    refine At.loop (fun (a : Nat) s => 1 ≤ a ∧ a ≤ w + 1 ∧ M42 w h x hs.nh hs s ∧ s.env 8 = .int .i64 (a : Int) ∧ s.hs.heap hs.nh = some (tab (Tst ks w h a 1))) (fun a => w + 1 - a) 1 ?_ ?_
    · refine ⟨by omega, by omega, ⟨by simp, by simp, by simp, by simp, by simp, Nat.le_refl _, rfl, rfl, fun k hk => ?_⟩, by simp, by simp [Tst_one, hz]⟩
      simp [show ¬ k = hs.nh by omega]
    rintro N a s hN ⟨ha1, ha, M, e8, hq⟩
    rw [At.awp_seq, At.awp_seq]
    simp [M.e0, e8, -At.awp_seq]
    refine At.dec (fun hlt => ?_) (fun hlt => ?_)
    rotate_left
    · have : a = w + 1 := by omega
      subst this
      rw [Tst_res] at hq
      simp
      exact At.of ⟨⟨by simp [M.e0], by simp [M.e1], by simp [M.e2], by simp [M.e7], M.nq, M.q0, M.tk, M.nt, M.old⟩, hq⟩
    have haw : a ≤ w := by omega
    simp [-At.awp_seq]
    rw [At.awp_seq]
    refine At.cut (fun s => M42 w h x hs.nh hs s ∧ s.env 8 = .int .i64 (a : Int) ∧ s.hs.heap hs.nh = some (tab (Tst ks w h a (h + 1)))) ?_ ?_
    · simp only [At.awp_block]
      rw [At.awp_seq]
      simp [-At.awp_seq]
      refine At.loop (fun (b : Nat) s => 1 ≤ b ∧ b ≤ h + 1 ∧ M42 w h x hs.nh hs s ∧ s.env 8 = .int .i64 (a : Int) ∧ s.env 9 = .int .i64 (b : Int) ∧ s.hs.heap hs.nh = some (tab (Tst ks w h a b))) (fun b => h + 1 - b) 1 ?_ ?_
      · exact ⟨by omega, by omega, ⟨by simp [M.e0], by simp [M.e1], by simp [M.e2], by simp [M.e7], M.nq, M.q0, M.tk, M.nt, M.old⟩, by simp [e8], by simp, hq⟩
      clear M e8 hq hN s
      rintro N b s hN ⟨hb1, hb, M, e8, e9, hq⟩
      rw [At.awp_seq, At.awp_seq]
      simp [M.e1, e9, -At.awp_seq]
      refine At.dec (fun hlt2 => ?_) (fun hlt2 => ?_)
      rotate_left
      · have : b = h + 1 := by omega
        subst this
        simp
        exact At.of ⟨⟨by simp [M.e0], by simp [M.e1], by simp [M.e2], by simp [M.e7], M.nq, M.q0, M.tk, M.nt, M.old⟩, e8, hq⟩
      have hbh : b ≤ h := by omega
      simp [-At.awp_seq]
      rw [At.awp_seq]
      refine At.cut (fun s => E42 w h x a b hs.nh hs s ∧ s.hs.heap hs.nh = some (tab (updT (Tst ks w h a b) a b (bestC ks (Tst ks w h a b) a b)))) ?_ ?_
      · refine cell42 (k94 a b) (valK_le hv (by simp)) (Tst_sm hv hw hh a b) ha1 (by omega) hb1 (by omega) ⟨by simp [M.e0], by simp [M.e1], by simp [M.e2], by simp [M.e7], by simp [e8], by simp [e9], M.nq, M.q0, M.tk, M.nt, M.old⟩ hq (Tst_z ks w h a b)
      clear M e8 e9 hq s
      rintro s ⟨E, hq⟩
      rw [Tst_step ha1 haw hb1 hbh] at hq
      simp [E.e9]
      exact hN (b + 1) _ (by omega) ⟨by omega, by omega, ⟨by simp [E.e0], by simp [E.e1], by simp [E.e2], by simp [E.e7], E.nq, E.q0, E.tk, E.nt, E.old⟩, by simp [E.e8], by simp [wrap_nat1 (show b < _ by omega)], hq⟩
    clear M e8 hq s
    rintro s ⟨M, e8, hq⟩
    rw [Tst_row] at hq
    simp [e8]
    exact hN (a + 1) _ (by omega) ⟨by omega, by omega, ⟨by simp [M.e0], by simp [M.e1], by simp [M.e2], by simp [M.e7], M.nq, M.q0, M.tk, M.nt, M.old⟩, by simp [wrap_nat1 (show a < _ by omega)], hq⟩
  rintro s ⟨M, hq⟩
  simp [M.e7]
  exact At.of ⟨hq, M.nq, M.tk, M.nt, M.old⟩
end Go.Proofs.YtdcpkgedaflnmaaGreatDoor.Ct
