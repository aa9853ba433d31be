/-
  Tables: small functions, and that a table has no number twice in a row or in a column. Own work.
  Tables: checks. Own work.
  Tables: states after digits. Own work.
  Small numbers as arguments; rows that are made. Own work.
  Tables by numbers. Own work.
  Tables that are computed. Own work.
-/
import Derived.Test.YtdcpkgedaflnmaaGreatDoorC1
import Derived.Test.YtdcpkgedaflnmaaGreatDoorG1
import Derived.Test.YtdcpkgedaflnmaaGreatDoorFx4
set_option linter.unusedVariables false
set_option linter.unusedSimpArgs false
namespace Go.Proofs.YtdcpkgedaflnmaaGreatDoor.Se
open Go Fw

def btw (lo n hi : Int) : Bool := decide (lo ≤ n) && decide (n ≤ hi)
theorem p72 (lo n hi : Int) : PCall Tryz.prog 58 [.int .i64 lo, .int .i64 n, .int .i64 hi] (.bool (btw lo n hi)) := by
  refine PCall.of CtxOk.nil ok72 (by simp) rfl fun hs hb => ?_
  simp [A72, R72]
  refine At.dec (fun h => ?_) (fun h => ?_) <;> simp [h, btw]
theorem btw_iff {a b c : Int} : btw a b c = true ↔ a ≤ b ∧ b ≤ c := by simp [btw]
def SB : List AV → Option AV
  | [.int .i64 a, .int .i64 b, .int .i64 c] => some (.bool (btw a b c))
  | _ => none
theorem SB_ok : ∀ a r, SB a = some r → PCall Tryz.prog 58 a r := by
  intro a r e
  unfold SB at e
  split at e <;> (try (cases e; done))
  injection e with e; subst e; exact p72 _ _ _
@[simp] theorem SB_i {a b c : Int} : SB [.int .i64 a, .int .i64 b, .int .i64 c] = some (.bool (btw a b c)) := id rfl
def E1 : PCtx := PCtx.nil.add 58 SB
theorem E1ok : CtxOk Tryz.prog E1 := CtxOk.nil.add SB_ok
@[simp] theorem E1_72 : E1 58 = SB := id rfl
/-! matrices by places -/
def mI (m : List (List Int)) (s d : Nat) : Int := (m.getD s []).getD d 0
theorem mI_of {m : List (List Int)} {s d : Nat} (hs : s < m.length) (hd : d < m[s].length) : mI m s d = (m[s])[d] := by simp [mI, hs, hd]
structure GoodT (m : List (List Int)) : Prop where
  n2 : 2 ≤ m.length
  n10 : m.length ≤ 10
  row : ∀ (s : Nat) (h : s < m.length), m[s].length = m.length
  ent : ∀ s d, s < m.length → d < m.length → 0 ≤ mI m s d ∧ mI m s d < m.length
  rin : ∀ s d d', s < m.length → d < m.length → d' < m.length → mI m s d = mI m s d' → d = d'
  cin : ∀ s s' d, s < m.length → s' < m.length → d < m.length → mI m s d = mI m s' d → s = s'
theorem row_get {x : AV} {m : List (List Int)} {R : Nat → AV} (h : IsM x m R) {s d : Nat} (hs : s < m.length) (hd : d < m[s].length) {k : IntKind} : aidxS 1 (R s) (.int k (d : Int)) = some (.ptr (.int .i64 (mI m s d))) := by
  rw [mI_of hs hd]
  exact aidx_nat (rowI_ne (h.row s hs) (by omega)) hd
theorem aA {len b k : Nat} {K : IntKind} (h : k < len) : aidxA len false 1 (.ref b 0) (.int K (k : Int)) = some (.ref b k) := by
  simp [aidxA, afaddr, h]
/-- flags: whatever is not among the numbers is not set -/
def Flg (ys : List AV) (f : Nat → Int) (d : Nat) : Prop := ys.length = 10 ∧ ∀ (k : Nat) (h : k < ys.length), (∀ j, j < d → f j ≠ (k : Int)) → ys[k] = .bool false
theorem Flg.set {ys : List AV} {f : Nat → Int} {d k : Nat} (h : Flg ys f d) (hk : f d = (k : Int)) : Flg (ys.set k (.bool true)) f (d + 1) := by
  refine ⟨by rw [List.length_set]; exact h.1, fun i hi hn => ?_⟩
  have hik : i ≠ k := by
    intro e; subst e
    exact hn d (by omega) hk
  rw [List.getElem_set, if_neg (fun e => hik e.symm)]
  exact h.2 i (by simpa using hi) fun j hj => hn j (by omega)
def f10 : List AV := [.bool false, .bool false, .bool false, .bool false, .bool false, .bool false, .bool false, .bool false, .bool false, .bool false]
theorem Flg.new (f : Nat → Int) : Flg f10 f 0 := by
  refine ⟨rfl, fun k hk _ => ?_⟩
  have : k < 10 := hk
  match k, this with
  | 0, _ => rfl
  | 1, _ => rfl
  | 2, _ => rfl
  | 3, _ => rfl
  | 4, _ => rfl
  | 5, _ => rfl
  | 6, _ => rfl
  | 7, _ => rfl
  | 8, _ => rfl
  | 9, _ => rfl
theorem p99 {x : AV} {m : List (List Int)} (hx : asM x = some m) (g : GoodT m) : PCall Tryz.prog 114 [x] (.bool false) := by
  obtain ⟨R, hM⟩ := asM.isM hx
  have hn := g.n10
  have hlen := hM.len
  refine PCall.of CtxOk.nil ok99 (by simp) rfl fun hs hb => ?_
  simp [A99, R99, hlen]
  refine At.loop (fun (s : Nat) t => s ≤ m.length ∧ t.env 0 = x ∧ t.env 3 = .bool false ∧ t.env 10 = x ∧ t.env 11 = .int .i64 (m.length : Int) ∧ t.env 12 = .int .i64 (s : Int)) (fun s => m.length - s) 0 ?_ ?_
  · simp [hlen]
  rintro N s t hN ⟨hs1, e0, e3, e10, e11, e12⟩
  simp [e11, e12]
  refine At.dec (fun hlt => ?_) (fun hlt => ?_)
  rotate_left
  · simp [e3]
  have hsl : s < m.length := by omega
  simp [e0, e12, hlen]
  rw [show [AV.bool false, .bool false, .bool false, .bool false, .bool false, .bool false, .bool false, .bool false, .bool false, .bool false] = f10 from rfl]
  refine At.loop (fun (d : Nat) u => d ≤ m.length ∧ u.env 0 = x ∧ u.env 3 = .bool false ∧ u.env 10 = x ∧ u.env 11 = .int .i64 (m.length : Int) ∧ u.env 12 = .int .i64 (s : Int) ∧ u.env 4 = .int .i64 (s : Int) ∧ u.env 5 = .ref t.hs.nh 0 ∧ u.env 6 = .ref (t.hs.nh + 1) 0 ∧
    u.env 15 = x ∧ u.env 16 = .int .i64 (m.length : Int) ∧ u.env 17 = .int .i64 (d : Int) ∧ (∃ ys, u.hs.heap t.hs.nh = some ys ∧ Flg ys (fun j => mI m s j) d) ∧ ∃ ys, u.hs.heap (t.hs.nh + 1) = some ys ∧ Flg ys (fun j => mI m j s) d) (fun d => m.length - d) 0 ?_ ?_
  · simp [e0, e3, e10, e11, e12, hlen, Flg.new]
  rintro N2 d u hN2 ⟨hd1, e0, e3, e10, e11, e12, e4, e5, e6, e15, e16, e17, ⟨ys, hy, fy⟩, ⟨zs, hz, fz⟩⟩
  simp [e16, e17]
  refine At.dec (fun hlt2 => ?_) (fun hlt2 => ?_)
  rotate_left
  · simp [e12]
    refine hN (s + 1) _ (by omega) ⟨by omega, ?_⟩
    simp [e0, e3, e10, e11, wrap_nat1 (show s < _ by omega)]
  have hdl : d < m.length := by omega
  have g1 := hM.get (k := .i64) hsl
  have g2 := hM.get (k := .i64) hdl
  have l1 := hM.ld hsl
  have l2 := hM.ld hdl
  have r1 := row_get hM (k := .i64) hsl (d := d) (by rw [g.row s hsl]; exact hdl)
  have r2 := row_get hM (k := .i64) hdl (d := s) (by rw [g.row d hdl]; exact hsl)
  obtain ⟨a1, a2⟩ := g.ent s d hsl hdl
  obtain ⟨b1, b2⟩ := g.ent d s hdl hsl
  obtain ⟨a, ha⟩ : ∃ a : Nat, mI m s d = (a : Int) := ⟨(mI m s d).toNat, by omega⟩
  obtain ⟨b, hb⟩ : ∃ b : Nat, mI m d s = (b : Int) := ⟨(mI m d s).toNat, by omega⟩
  have ha10 : a < 10 := by omega
  have hb10 : b < 10 := by omega
  have ya : ys[a]'(by have := fy.1; omega) = .bool false := fy.2 a (by have := fy.1; omega) fun j hj e => by
    have := g.rin s j d hsl (by omega) hdl (e.trans ha.symm)
    omega
  have zb : zs[b]'(by have := fz.1; omega) = .bool false := fz.2 b (by have := fz.1; omega) fun j hj e => by
    have := g.cin j d s (by omega) hdl hsl (e.trans hb.symm)
    omega
  have ld1 : aload u.hs.heap false 1 (.ref t.hs.nh a) = some (.bool false) := by rw [load_cell hy (by have := fy.1; omega), ya]
  have ld2 : aload u.hs.heap false 1 (.ref (t.hs.nh + 1) b) = some (.bool false) := by rw [load_cell hz (by have := fz.1; omega), zb]
  have x1 : aidxA 10 false 1 (.ref t.hs.nh 0) (.int .i64 (a : Int)) = some (.ref t.hs.nh a) := aA ha10
  have x2 : aidxA 10 false 1 (.ref (t.hs.nh + 1) 0) (.int .i64 (b : Int)) = some (.ref (t.hs.nh + 1) b) := aA hb10
  have st1 := store_cell (v := .bool true) (o := a) hy (by have := fy.1; omega) rfl
  have hz' : (fun k => if k = t.hs.nh then some (ys.set a (.bool true)) else u.hs.heap k) (t.hs.nh + 1) = some zs := by simp [hz]
  have st2 := store_cell (hp := fun k => if k = t.hs.nh then some (ys.set a (.bool true)) else u.hs.heap k) (ys := zs) (v := .bool true) (o := b) hz' (by have := fz.1; omega) rfl
  rw [ha] at r1
  rw [hb] at r2
  simp [e0, e4, e5, e6, e17, g1, g2, l1, l2, r1, r2, x1, x2, ld1, ld2, st1, st2]
  refine hN2 (d + 1) _ (by omega) ⟨by omega, ?_⟩
  simp [e0, e3, e4, e5, e6, e10, e11, e12, e15, e16, wrap_nat1 (show d < _ by omega)]
  exact ⟨fy.set ha, fz.set hb⟩
end Go.Proofs.YtdcpkgedaflnmaaGreatDoor.Se
set_option linter.unusedVariables false
set_option linter.unusedSimpArgs false
namespace Go.Proofs.YtdcpkgedaflnmaaGreatDoor.Se
open Go Fw

/-- the first place with a property, or -1 -/
def fstF (f : Nat → Bool) : Nat → Nat → Int
  | 0, _ => -1
  | n + 1, i => if f i = true then (i : Int) else fstF f n (i + 1)
theorem fstF_any (f : Nat → Bool) : ∀ (n i : Nat), decide (0 ≤ fstF f n i) = (List.range' i n).any f
  | 0, i => by simp [fstF]
  | n + 1, i => by
    rw [List.range'_succ, List.any_cons, fstF]
    split
    · rename_i h; simp [h]
    · rename_i h
      have h' : f i = false := by cases hf : f i <;> simp_all
      rw [h', Bool.false_or]
      exact fstF_any f n (i + 1)
/-- what is called with each element -/
def Cbk (E : AV) (xs : List AV) (f : Nat → Bool) (hs : HS) : Prop :=
  ∃ g a1 a2, E = .fn (.func g) a1 a2 ∧ ∀ (i : Nat) (h : i < xs.length), FCall Tryz.prog g (a1 ++ [xs[i]] ++ a2) hs fun e hs' => e = .ret (.bool (f i)) ∧ hs' = hs
/-- a list of values that stay -/
structure Lst (z : AV) (xs : List AV) : Prop where
  lt : xs.length < 4294967296
  len : alenK false z = some (.int .i64 (xs.length : Int))
  idx : ∀ (i : Nat) (h : i < xs.length), aidxS 1 z (.int .i64 (i : Int)) = some (.ptr xs[i])
  ld : ∀ (i : Nat) (h : i < xs.length) (hp : Nat → Option (List AV)), aload hp false 1 (.ptr xs[i]) = some xs[i]
theorem Lst.of {z : AV} {l : List Int} (h : asI z = some l) : Lst z (ints l) := by
  have e : (ints l).length = l.length := by simp [ints]
  refine ⟨by rw [e]; exact asI_len h, by rw [e]; exact alen_of h, fun i hi => ?_, fun i hi hp => ?_⟩
  · have := aidx_nat h (k := .i64) (i := i) (by omega)
    simpa [ints] using this
  · simp [ints]
theorem Lst.ofM {z : AV} {m : List (List Int)} {R : Nat → AV} (h : IsM z m R) : Lst z ((List.range m.length).map R) := by
  refine ⟨by simpa using h.lt, by simpa using h.len, fun i hi => ?_, fun i hi hp => ?_⟩
  · have hi' : i < m.length := by simpa using hi
    simpa using h.get (k := .i64) hi'
  · have hi' : i < m.length := by simpa using hi
    simpa using h.ld hi' hp
theorem i100 {z E : AV} {xs : List AV} {f : Nat → Bool} {hs : HS} (hz : Lst z xs) (hE : Cbk E xs f hs) :
    At (awp Tryz.prog PCtx.nil A100 (finQ R100 fun e hs' => e = .ret (.int .i64 (fstF f xs.length 0)) ∧ hs' = hs) ⟨argEnv [z, E], hs⟩) := by
  obtain ⟨g, a1, a2, rfl, hcb⟩ := hE
  have hl := hz.lt
  simp [A100, R100, hz.len]
  refine At.loop (fun (i : Nat) s => i ≤ xs.length ∧ s.hs = hs ∧ fstF f xs.length 0 = fstF f (xs.length - i) i ∧ s.env 0 = z ∧ s.env 1 = .fn (.func g) a1 a2 ∧ s.env 7 = .int .i64 (xs.length : Int) ∧ s.env 8 = .int .i64 (i : Int)) (fun i => xs.length - i) 0 ?_ ?_
  · simp
  rintro N i s hN ⟨hi, hh, hfst, e0, e1, e7, e8⟩
  simp [e7, e8]
  refine At.dec (fun hlt => ?_) (fun hlt => ?_)
  rotate_left
  · have : i = xs.length := by omega
    subst this
    simp [hfst, fstF]
    exact At.of hh
  have hi' : i < xs.length := by omega
  have hc := hcb i hi'
  rw [← hh] at hc
  rw [show xs.length - i = (xs.length - (i + 1)) + 1 by omega, fstF] at hfst
  simp [e0, e1, e8, hz.idx i hi', hz.ld i hi']
  simp only [List.append_assoc, List.cons_append, List.nil_append] at hc
  refine At.hc hc ?_ ?_
  · rintro v hs' ⟨hv, rfl⟩
    injection hv with hv; subst hv
    cases hf : f i with
    | true =>
      rw [hf, if_pos rfl] at hfst
      simp [e8, hfst]
      exact At.of hh
    | false =>
      rw [hf, if_neg (by simp)] at hfst
      simp [e8]
      refine hN (i + 1) _ (by omega) ⟨by omega, hh, hfst, ?_⟩
      simp [e0, e1, e7, wrap_nat1 (show i < _ by omega)]
  · rintro v hs' ⟨hv, _⟩
    cases hv
theorem p100 {z E : AV} {xs : List AV} {f : Nat → Bool} {hs : HS} (hz : Lst z xs) (hE : Cbk E xs f hs) : FCall Tryz.prog 125 [z, E] hs fun e hs' => e = .ret (.int .i64 (fstF f xs.length 0)) ∧ hs' = hs :=
  FCall.ofAt CtxOk.nil ok100 (by simp) (i100 hz hE)
theorem p122 {z E : AV} {xs : List AV} {f : Nat → Bool} {hs : HS} (hz : Lst z xs) (hE : Cbk E xs f hs) : FCall Tryz.prog 137 [z, E] hs fun e hs' => e = .ret (.int .i64 (fstF f xs.length 0)) ∧ hs' = hs :=
  FCall.ofAt CtxOk.nil ok122 (by simp) (i100 hz hE)
theorem p70 {z E : AV} {xs : List AV} {f : Nat → Bool} {hs : HS} (hz : Lst z xs) (hE : Cbk E xs f hs) : FCall Tryz.prog 84 [z, E] hs fun e hs' => e = .ret (.bool ((List.range' 0 xs.length).any f)) ∧ hs' = hs := by
  refine FCall.ofAt CtxOk.nil ok70 (by simp) ?_
  simp [A70, R70]
  refine At.hc (p100 hz hE) ?_ ?_
  · rintro v hs' ⟨hv, rfl⟩
    injection hv with hv; subst hv
    simp [fstF_any]
  · rintro v hs' ⟨hv, _⟩; cases hv
theorem p96 {z E : AV} {xs : List AV} {f : Nat → Bool} {hs : HS} (hz : Lst z xs) (hE : Cbk E xs f hs) : FCall Tryz.prog 110 [z, E] hs fun e hs' => e = .ret (.bool ((List.range' 0 xs.length).any f)) ∧ hs' = hs := by
  refine FCall.ofAt CtxOk.nil ok96 (by simp) ?_
  simp [A96, R96]
  refine At.hc (p122 hz hE) ?_ ?_
  · rintro v hs' ⟨hv, rfl⟩
    injection hv with hv; subst hv
    simp [fstF_any]
  · rintro v hs' ⟨hv, _⟩; cases hv
theorem any_none {n : Nat} {f : Nat → Bool} (h : ∀ i, i < n → f i = false) : (List.range' 0 n).any f = false := by
  rw [List.any_eq_false]
  intro i hi
  have := List.mem_range'_1.1 hi
  simp [h i (by omega)]
theorem catL_mem {ls : Nat → List Int} : ∀ {n : Nat} {a : Int}, a ∈ Fo.catL ls n → ∃ i, i < n ∧ a ∈ ls i
  | 0, a, h => by simp [Fo.catL] at h
  | n + 1, a, h => by
    simp only [Fo.catL, List.mem_append] at h
    rcases h with h | h
    · obtain ⟨i, hi, hm⟩ := catL_mem h
      exact ⟨i, by omega, hm⟩
    · exact ⟨n, by omega, h⟩
theorem catL_len {ls : Nat → List Int} {b : Nat} : ∀ {n : Nat}, (∀ i, i < n → (ls i).length ≤ b) → (Fo.catL ls n).length ≤ b * n
  | 0, _ => by simp [Fo.catL]
  | n + 1, h => by
    simp only [Fo.catL, List.length_append]
    have h1 := catL_len (n := n) fun i hi => h i (by omega)
    have h2 := h n (by omega)
    rw [Nat.mul_succ]; omega
theorem mem_row {m : List (List Int)} {i : Nat} (h : i < m.length) {a : Int} (ha : a ∈ m[i]) : ∃ d, d < m[i].length ∧ a = mI m i d := by
  obtain ⟨d, hd, rfl⟩ := List.getElem_of_mem ha
  exact ⟨d, hd, (mI_of h hd).symm⟩
theorem p69 {x : AV} {m : List (List Int)} (hx : asM x = some m) (g : GoodT m) : PCall Tryz.prog 57 [x] (.int .i64 0) := by
  obtain ⟨R, hM⟩ := asM.isM hx
  have hn2 := g.n2
  have hn := g.n10
  have hlen := hM.len
  have hf := hM.form
  have hmne : m ≠ [] := by intro e; rw [e] at hn2; simp at hn2
  obtain ⟨c, hxe⟩ : ∃ c, x = .sl 1 ((List.range m.length).map R) c := by
    rcases hf with ⟨_, h⟩ | h
    · exact absurd h hmne
    · exact h
  obtain ⟨C, hC, h99, hne⟩ := ctx_pt E1ok 114 [x] _ (p99 hx g)
  have h72 : C 58 = SB := by rw [hne 58 (by decide)]; rfl
  have b1 : btw 2 (m.length : Int) 10 = true := btw_iff.2 ⟨by omega, by omega⟩
  refine PCall.of hC ok69 (by simp) rfl fun hs hb => ?_
  have st : astore (fun i => if i = hs.nh then some [AV.int .i64 0] else hs.heap i) 1 (.ref hs.nh 0) (.int .i64 (m.length : Int)) = some (fun k => if k = hs.nh then some [.int .i64 (m.length : Int)] else if k = hs.nh then some [.int .i64 0] else hs.heap k) := store_cell (ys := [.int .i64 0]) (o := 0) (by simp) (by simp) rfl
  simp only [A69, R69]
  rw [At.awp_seq]
  simp [-At.awp_seq]
  rw [At.awp_seq]
  simp [hlen, st, -At.awp_seq]
  obtain ⟨hs1, hhs1⟩ : ∃ hs1 : HS, hs1 = ⟨fun k => if k = hs.nh then some [.int .i64 (m.length : Int)] else if k = hs.nh then some [.int .i64 0] else hs.heap k, hs.nh + 1, hs.nt, hs.tok, hs.mp⟩ := ⟨_, rfl⟩
  have g3 : hs1.heap hs.nh = some [.int .i64 (m.length : Int)] := by rw [hhs1]; simp
  rw [← hhs1]
  clear hhs1 st
  have ld : aload hs1.heap false 1 (.ref hs.nh 0) = some (.int .i64 (m.length : Int)) := ldc g3 rfl
  have cb1 : Cbk (.fn (.func 111) [] [.ref hs.nh 0]) ((List.range m.length).map R) (fun _ => false) hs1 := by
    refine ⟨111, [], [.ref hs.nh 0], rfl, fun i hi => ?_⟩
    have hi' : i < m.length := by simpa using hi
    refine FCall.ofAt CtxOk.nil ok97 (by simp) ?_
    have hrl : alenK false (R i) = some (.int .i64 (m.length : Int)) := by rw [hM.rlen hi', g.row i hi']
    simp [A97, R97, ld, hrl]
  have h1 := p96 (Lst.ofM hM) cb1
  simp [ld, h72, b1]
  refine At.hc h1 ?_ ?_
  rotate_left
  · rintro v hs' ⟨hv, _⟩; cases hv
  rintro v hs' ⟨hv, e'⟩
  subst hs'
  injection hv with hv; subst hv
  have a1 : (List.range' 0 ((List.range m.length).map R).length).any (fun _ => false) = false := any_none fun _ _ => rfl
  rw [a1]
  simp
  have hr : ∀ (i : Nat) (h : i < ((List.range m.length).map R).length), RdI hs1.nh hs1.heap ((List.range m.length).map R)[i] (m.getD i []) := fun i hi => by
    have hi' : i < m.length := by simpa using hi
    have := rowI_ne (hM.row i hi') (by rw [g.row i hi']; omega)
    have e : m.getD i [] = m[i] := by simp [hi']
    rw [e]
    simpa using RdI.of this
  have hrow : ∀ i, i < m.length → (m.getD i []).length = m.length := fun i hi => by simp [hi, g.row i hi]
  have hcl : ∀ i, i ≤ ((List.range m.length).map R).length → (Fo.catL (fun i => m.getD i []) i).length ≤ 1000000 := fun i hi => by
    have hi' : i ≤ m.length := by simpa using hi
    have := catL_len (ls := fun i => m.getD i []) (b := 10) (n := i) fun k hk => by have := hrow k (by omega); omega
    omega
  refine At.hc (Fo.p68 (n := hs1.nh) (hs := hs1) (x := x) (c := c) (.inr hxe) hr hcl (by simp; omega)) ?_ ?_
  rotate_left
  · rintro v hs' ⟨y, hv, _⟩; cases hv
  rintro v hs2 ⟨y, hv, ho, hsm⟩
  injection hv with hv; subst hv
  have hy := ho.asI (by have := hcl _ (Nat.le_refl _); omega)
  have g4 : hs2.heap hs.nh = some [.int .i64 (m.length : Int)] := by rw [hsm.heap]; exact g3
  have ld2 : aload hs2.heap false 1 (.ref hs.nh 0) = some (.int .i64 (m.length : Int)) := ldc g4 rfl
  have w1 : IntKind.i64.wrap ((m.length : Int) - 1) = (m.length : Int) - 1 := wrap64 (by omega) (by omega)
  generalize hLL : Fo.catL (fun i => m.getD i []) ((List.range m.length).map R).length = L at hy
  have hL : ∀ a ∈ L, 0 ≤ a ∧ a < m.length := fun a ha => by
    rw [← hLL] at ha
    obtain ⟨i, hi, hm⟩ := catL_mem ha
    have hi' : i < m.length := by simpa using hi
    have e : m.getD i [] = m[i] := by simp [hi']
    rw [e] at hm
    obtain ⟨d, hd, rfl⟩ := mem_row hi' hm
    exact g.ent i d hi' (by rw [← g.row i hi']; exact hd)
  have cb2 : Cbk (.fn (.func 113) [] [.ref hs.nh 0]) (ints L) (fun _ => false) hs2 := by
    refine ⟨113, [], [.ref hs.nh 0], rfl, fun i hi => ?_⟩
    have hi' : i < L.length := by simpa [ints] using hi
    have e : (ints L)[i] = .int .i64 L[i] := by simp [ints]
    rw [e]
    obtain ⟨q1, q2⟩ := hL L[i] (List.getElem_mem _)
    have b2 : btw 0 L[i] ((m.length : Int) - 1) = true := btw_iff.2 ⟨q1, by omega⟩
    refine FCall.ofAt E1ok ok98 (by simp) ?_
    simp [A98, R98, ld2, w1, b2]
  simp
  refine At.hc (p70 (Lst.of hy) cb2) ?_ ?_
  rotate_left
  · rintro v hs' ⟨hv, _⟩; cases hv
  rintro v hs' ⟨hv, e'⟩
  subst hs'
  injection hv with hv; subst hv
  rw [any_none fun _ _ => rfl]
  simp [h99]
end Go.Proofs.YtdcpkgedaflnmaaGreatDoor.Se
set_option linter.unusedVariables false
set_option linter.unusedSimpArgs false
namespace Go.Proofs.YtdcpkgedaflnmaaGreatDoor.Se
open Go Fw

/-- the state after digits, from a state on -/
def aft (m : List (List Int)) : List Int → Int → Int
  | [], s => s
  | d :: l, s => aft m l (mI m s.toNat d.toNat)
theorem aft_app (m : List (List Int)) : ∀ (a b : List Int) (s : Int), aft m (a ++ b) s = aft m b (aft m a s)
  | [], _, _ => rfl
  | d :: a, b, s => aft_app m a b _
theorem aft_bd {m : List (List Int)} (g : GoodT m) : ∀ {l : List Int} {s : Int}, (∀ a ∈ l, 0 ≤ a ∧ a < m.length) → 0 ≤ s ∧ s < m.length → 0 ≤ aft m l s ∧ aft m l s < m.length
  | [], s, _, hs => hs
  | d :: l, s, hl, hs => by
    have := hl d (by simp)
    exact aft_bd (l := l) (s := mI m s.toNat d.toNat) g (fun a ha => hl a (by simp [ha])) (g.ent s.toNat d.toNat (by omega) (by omega))
theorem p74 {x : AV} {m : List (List Int)} (hx : asM x = some m) (g : GoodT m) {s d : Int} (h1 : 0 ≤ s ∧ s < m.length) (h2 : 0 ≤ d ∧ d < m.length) : PCall Tryz.prog 105 [.int .i64 s, .int .i64 d, .ptr x] (.int .i64 (mI m s.toNat d.toNat)) := by
  obtain ⟨R, hM⟩ := asM.isM hx
  obtain ⟨a, rfl⟩ : ∃ a : Nat, s = (a : Int) := ⟨s.toNat, by omega⟩
  obtain ⟨b, rfl⟩ : ∃ b : Nat, d = (b : Int) := ⟨d.toNat, by omega⟩
  have ha : a < m.length := by omega
  have hb : b < m.length := by omega
  have g1 := hM.get (k := .i64) ha
  have l0 := leaf_ld hM.leaf
  have l1 := hM.ld ha
  have r1 := row_get hM (k := .i64) ha (d := b) (by rw [g.row a ha]; exact hb)
  refine PCall.of CtxOk.nil ok74 (by simp) rfl fun hs hb => ?_
  simp [A74, R74, l0, g1, l1, r1]
theorem p73 {x : AV} {m : List (List Int)} (hx : asM x = some m) (g : GoodT m) {z : AV} {l : List Int} (hz : asI z = some l) (hl : ∀ a ∈ l, 0 ≤ a ∧ a < m.length) {s : Int} (hs : 0 ≤ s ∧ s < m.length) :
    PCall Tryz.prog 60 [.int .i64 s, z, .fn (.func 105) [] [.ptr x]] (.int .i64 (aft m l s)) := by
  have hll := asI_len hz
  refine PCall.of CtxOk.nil ok73 (by simp) rfl fun hs0 hb => ?_
  simp [A73, R73, alen_of hz]
  refine At.loop (fun (i : Nat) t => i ≤ l.length ∧ t.env 0 = .int .i64 (aft m (l.take i) s) ∧ t.env 2 = .fn (.func 105) [] [.ptr x] ∧ t.env 9 = z ∧ t.env 10 = .int .i64 (l.length : Int) ∧ t.env 11 = .int .i64 (i : Int)) (fun i => l.length - i) 0 ?_ ?_
  · simp [aft]
  rintro N i t hN ⟨hi, e0, e2, e9, e10, e11⟩
  simp [e10, e11]
  refine At.dec (fun hlt => ?_) (fun hlt => ?_)
  rotate_left
  · have : i = l.length := by omega
    subst this
    simp [e0]
  have hi' : i < l.length := by omega
  have hb1 := aft_bd g (l := l.take i) (s := s) (fun a ha => hl a (List.mem_of_mem_take ha)) hs
  have hc := p74 hx g hb1 (hl l[i] (List.getElem_mem hi'))
  have hs2 : aft m (l.take (i + 1)) s = mI m (aft m (l.take i) s).toNat l[i].toNat := by rw [take_snoc hi', aft_app]; rfl
  rw [← hs2] at hc
  simp [e0, e2, e9, e11, aidx_nat hz hi']
  refine At.hp hc ?_
  simp [e11]
  refine hN (i + 1) _ (by omega) ⟨by omega, ?_⟩
  simp [e2, e9, e10, wrap_nat1 (show i < _ by omega)]
theorem p39 {x : AV} {m : List (List Int)} (hx : asM x = some m) (g : GoodT m) {z : AV} {l : List Int} (hz : asI z = some l) (hl : ∀ a ∈ l, 0 ≤ a ∧ a < m.length) {s : Int} (hs : 0 ≤ s ∧ s < m.length) :
    PCall Tryz.prog 51 [x, .int .i64 s, z] (.int .i64 (aft m l s)) := by
  obtain ⟨R, hM⟩ := asM.isM hx
  have hxs := leaf_sto hM.leaf
  obtain ⟨C, hC, h73, _⟩ := ctx_pt CtxOk.nil 60 _ _ (p73 hx g hz hl hs)
  refine PCall.of hC ok39 (by simp) rfl fun hs0 hb => ?_
  simp [A39, R39, hxs, h73]
theorem p71 {x : AV} {m : List (List Int)} (hx : asM x = some m) {d : Int} (hd : 0 ≤ d ∧ d < m.length) (hs : HS) : FCall Tryz.prog 104 [.int .i64 d, .ptr x] hs fun e hs' => e = .ret (.bool false) ∧ hs' = hs := by
  obtain ⟨R, hM⟩ := asM.isM hx
  have hl := hM.lt
  have l0 := leaf_ld hM.leaf
  have w1 : IntKind.i64.wrap ((m.length : Int) - 1) = (m.length : Int) - 1 := wrap64 (by omega) (by omega)
  have b2 : btw 0 d ((m.length : Int) - 1) = true := btw_iff.2 ⟨hd.1, by omega⟩
  refine FCall.ofAt E1ok ok71 (by simp) ?_
  simp [A71, R71, l0, hM.len, w1, b2]
theorem p38 {x : AV} {m : List (List Int)} (hx : asM x = some m) (g : GoodT m) {z : AV} {l : List Int} (hz : asI z = some l) (hl : ∀ a ∈ l, 0 ≤ a ∧ a < m.length) (h12 : l.length ≤ 12) : PCall Tryz.prog 50 [x, z] (.int .i64 0) := by
  obtain ⟨R, hM⟩ := asM.isM hx
  have l0 := leaf_ld hM.leaf
  have hxs := leaf_sto hM.leaf
  obtain ⟨C, hC, h69, _⟩ := ctx_pt CtxOk.nil 57 _ _ (p69 hx g)
  have hk : ¬ (12 : Int) < (l.length : Int) := by omega
  refine PCall.of hC ok38 (by simp) rfl fun hs hb => ?_
  simp [A38, R38, hxs, l0, h69, alen_of hz, hk]
  have cb : Cbk (.fn (.func 104) [] [.ptr x]) (ints l) (fun _ => false) hs := by
    refine ⟨104, [], [.ptr x], rfl, fun i hi => ?_⟩
    have hi' : i < l.length := by simpa [ints] using hi
    have e : (ints l)[i] = .int .i64 l[i] := by simp [ints]
    rw [e]
    exact p71 hx (hl _ (List.getElem_mem _)) hs
  refine At.hc (p70 (Lst.of hz) cb) ?_ ?_
  rotate_left
  · rintro v hs' ⟨hv, _⟩; cases hv
  rintro v hs' ⟨hv, rfl⟩
  injection hv with hv; subst hv
  rw [any_none fun _ _ => rfl]
  simp
theorem p15 {x : AV} {m : List (List Int)} (hx : asM x = some m) (g : GoodT m) {z : AV} {l : List Int} (hz : asI z = some l) (hl : ∀ a ∈ l, 0 ≤ a ∧ a < m.length) (h12 : l.length ≤ 12) : PCall Tryz.prog 17 [x, z] (.tup [.int .i64 (aft m l 0), .int .i64 0]) := by
  have hn := g.n2
  obtain ⟨C1, hC1, h38, _⟩ := ctx_pt CtxOk.nil 50 _ _ (p38 hx g hz hl h12)
  obtain ⟨C, hC, h39, n1⟩ := ctx_pt hC1 51 _ _ (p39 hx g hz hl (s := 0) ⟨by omega, by omega⟩)
  have h38 : C 50 [x, z] = some (.int .i64 0) := by rw [n1 50 (by decide)]; exact h38
  refine PCall.of hC ok15 (by simp) rfl fun hs hb => ?_
  simp [A15, R15, h38, h39]
end Go.Proofs.YtdcpkgedaflnmaaGreatDoor.Se
set_option linter.unusedVariables false
set_option linter.unusedSimpArgs false
namespace Go.Proofs.YtdcpkgedaflnmaaGreatDoor.Se
open Go Fw

def gI (l : List Int) (i : Nat) : Int := l.getD i 0
theorem gI_of {l : List Int} {i : Nat} (h : i < l.length) : gI l i = l[i] := by simp [gI, h]
theorem idx_g {x : AV} {l : List Int} (h : asI x = some l) {k : IntKind} {i : Nat} (hi : i < l.length) : aidxS 1 x (.int k (i : Int)) = some (.ptr (.int .i64 (gI l i))) := by rw [gI_of hi]; exact aidx_nat h hi
def IsU8 (x : AV) (l : List Int) : Prop := (x = .nilsl ∧ l = [] ∨ x = .sl 1 (l.map (AV.int .u8)) .shared) ∧ ∀ a ∈ l, 0 ≤ a ∧ a ≤ 255
theorem IsU8.of {x : AV} (h : ShV (.sl (.int .u8)) x) : ∃ l, IsU8 x l := by
  obtain ⟨l, h1, h2, h3⟩ := shv_intsK h
  exact ⟨l, h1, fun a ha => u8_bd (h3 a ha)⟩
theorem IsU8.len {x : AV} {l : List Int} (h : IsU8 x l) : alenK false x = some (.int .i64 l.length) := by
  rcases h.1 with ⟨rfl, rfl⟩ | rfl
  · rfl
  · simp [alenK]
theorem IsU8.get {x : AV} {l : List Int} (h : IsU8 x l) {i : Nat} (hi : i < l.length) : aidxS 1 x (.int .i64 (i : Int)) = some (.ptr (.int .u8 (gI l i))) := by
  rcases h.1 with ⟨rfl, rfl⟩ | rfl
  · simp at hi
  · simp [aidxS, hi, gI_of hi]
theorem IsU8.leaf {x : AV} {l : List Int} (h : IsU8 x l) : x.leaf = true := by
  rcases h.1 with ⟨rfl, rfl⟩ | rfl <;> rfl
/-- a small number, as a Nat -/
theorem u8_nat {x : AV} (h : ShV (.int .u8) x) : ∃ n : Nat, n < 256 ∧ x = .int .u8 (n : Int) := by
  obtain ⟨n, rfl, h2⟩ := shv_int h
  have := u8_bd h2
  exact ⟨n.toNat, by omega, by congr 1; omega⟩
/-! a made matrix -/
def shR (l : List Int) : AV := .sl 1 (ints l) .shared
def madV (M : List (List Int)) : AV := .sl 1 (M.map shR) .exact
theorem madV_as {M : List (List Int)} (h : M.length ≤ 1000) (hr : ∀ r ∈ M, r.length ≤ 1000) : asM (madV M) = some M := by
  have e : madV M = .sl 1 ((List.range M.length).map fun i => shR (M.getD i [])) .exact := by
    unfold madV
    congr 1
    apply List.ext_getElem
    · simp
    · intro i h1 h2
      have h3 : i < M.length := by simpa using h1
      simp [List.getD, h3]
  have : IsM (madV M) M (fun i => shR (M.getD i [])) := by
    rw [e]
    refine isM_sl (by omega) fun i hi => ?_
    have := hr _ (List.getElem_mem hi)
    rw [List.getD_eq_getElem?_getD, List.getElem?_eq_getElem hi]
    exact rowI_of (asI_sl (by simp only [Option.getD_some]; omega))
  exact this.asM
theorem madV_plain (M : List (List Int)) : (madV M).plain = true := by
  have : ∀ M : List (List Int), plainL (M.map shR) = true := by
    intro M
    induction M with
    | nil => rfl
    | cons a M ih => simp only [List.map_cons, plainL, Bool.and_eq_true]; exact ⟨plain_ints a, ih⟩
  exact this M
/-! lists that are copied by two appends -/
def OwnE (n0 : Nat) (hs : HS) (x : AV) (l : List Int) : Prop := x = .sl 1 (ints l) .exact ∨ ∃ k, x = .sl 1 (ints l) (.own k) ∧ hs.tok k = true ∧ k < hs.nt ∧ n0 ≤ k
structure Kp (n0 : Nat) (hs hs' : HS) : Prop where
  nt : hs.nt ≤ hs'.nt
  tok : ∀ k, k < n0 → hs.tok k = true → hs'.tok k = true
  mem : SameMem hs hs'
theorem Kp.refl (n0 : Nat) (hs : HS) : Kp n0 hs hs := ⟨Nat.le_refl _, fun _ _ h => h, .refl _⟩
theorem Kp.trans {n0 : Nat} {a b c : HS} (h : Kp n0 a b) (k : Kp n0 b c) : Kp n0 a c := ⟨Nat.le_trans h.nt k.nt, fun i hi ht => k.tok i hi (h.tok i hi ht), h.mem.trans k.mem⟩
theorem OwnE.add {n0 : Nat} {hs : HS} {x q : AV} {l m : List Int} (h : OwnE n0 hs x l) (hq : asI q = some m) (hn : n0 ≤ hs.nt) (hl : l.length + m.length ≤ 1000000) : ∃ y hs', aappend 1 hs x q = some (y, hs') ∧ OwnE n0 hs' y (l ++ m) ∧ Kp n0 hs hs' := by
  obtain ⟨e1, e2⟩ := elems_of (asI_asV hq)
  have ei : ints l ++ ints m = ints (l ++ m) := by simp [ints]
  have hl' : (ints l).length + (ints m).length ≤ 1073741824 := by simp [ints]; omega
  rcases h with rfl | ⟨k, rfl, h1, h2, h3⟩
  · rw [append_eq (xs := ints l) rfl e1 (by simp [aszOk]) e2 hl']
    split
    · rename_i hy
      have : m = [] := by simpa [ints] using hy
      subst this
      exact ⟨_, _, rfl, by rw [List.append_nil]; exact .inl rfl, .refl _ _⟩
    · refine ⟨_, _, rfl, .inr ⟨hs.nt, by rw [ei], by simp, by simp, hn⟩, ⟨by simp, fun j hj ht => by simp [ht], ⟨rfl, rfl⟩⟩⟩
  · rw [append_eq (xs := ints l) rfl e1 (by simp [aszOk]) e2 hl']
    split
    · rename_i hy
      have : m = [] := by simpa [ints] using hy
      subst this
      exact ⟨_, _, rfl, by rw [List.append_nil]; exact .inr ⟨k, rfl, h1, h2, h3⟩, .refl _ _⟩
    · simp only [appP, h1, if_true]
      refine ⟨_, _, rfl, .inr ⟨hs.nt, by rw [ei], by simp, by simp, hn⟩, ⟨by simp, fun j hj ht => ?_, ⟨rfl, rfl⟩⟩⟩
      have : ¬ j = k := by omega
      simp [ht, this]
theorem OwnE.asI {n0 : Nat} {hs : HS} {x : AV} {l : List Int} (h : OwnE n0 hs x l) (hl : l.length < 4294967296) : Fw.asI x = some l := by
  rcases h with rfl | ⟨k, rfl, _⟩ <;> exact asI_sl hl
/-- a list without one of its places -/
theorem two_app {hs : HS} {x : AV} {l : List Int} (hx : asI x = some l) {i : Nat} (hi : i < l.length) (hl : l.length ≤ 1000) : ∃ y1 hs1 y hs2, aappend 1 hs (.sl 1 [] .exact) (takeV i x) = some (y1, hs1) ∧ aappend 1 hs1 y1 (dropV (i + 1) x) = some (y, hs2) ∧
    asI y = some (l.take i ++ l.drop (i + 1)) ∧ SameMem hs hs2 ∧ KeepT hs hs2 := by
  have ht := asI_take hx i
  have hd := asI_drop hx (i + 1)
  have h0 : OwnE hs.nt hs (.sl 1 [] .exact) [] := .inl rfl
  obtain ⟨y1, hs1, a1, a2, a3⟩ := h0.add ht (Nat.le_refl _) (by simp; omega)
  obtain ⟨y, hs2, b1, b2, b3⟩ := a2.add hd a3.nt (by simp; omega)
  have hk := a3.trans b3
  exact ⟨y1, hs1, y, hs2, a1, b1, b2.asI (by simp; omega), hk.mem, ⟨hk.nt, hk.tok⟩⟩
end Go.Proofs.YtdcpkgedaflnmaaGreatDoor.Se
set_option linter.unusedVariables false
set_option linter.unusedSimpArgs false
namespace Go.Proofs.YtdcpkgedaflnmaaGreatDoor.Se
open Go Fw

/-- the place that a number tells -/
def idxE (es : List Int) (k len : Nat) : Nat := if k < es.length then (gI es k).toNat % len else 0
def trn (es : List Int) : Nat → List Int → Nat → List Int
  | 0, _, _ => []
  | n + 1, l, k => gI l (idxE es k l.length) :: trn es n (l.take (idxE es k l.length) ++ l.drop (idxE es k l.length + 1)) (k + 1)
def rng (n : Nat) : List Int := (List.range n).map Int.ofNat
theorem rng_len (n : Nat) : (rng n).length = n := by simp [rng]
theorem rng_succ (n : Nat) : rng (n + 1) = rng n ++ [(n : Int)] := by simp [rng, List.range_succ]
theorem idxE_lt {es : List Int} {k len : Nat} (h : 0 < len) : idxE es k len < len := by
  unfold idxE
  split
  · exact Nat.mod_lt _ h
  · exact h
def turn (n : Nat) (es : List Int) : List Int := trn es n (rng n) 0
theorem plainI (l : List Int) : (outV 1 (ints l)).plain = true := by
  cases l with
  | nil => rfl
  | cons a l => exact plain_ints (a :: l)
theorem p34 {x : AV} {es : List Int} (hx : IsU8 x es) {n : Nat} (hn : n ≤ 100) : PCall Tryz.prog 49 [.int .i64 (n : Int), x] (outV 1 (ints (turn n es))) := by
  refine PCall.of CtxOk.nil ok34 (by simp) (plainI _) fun hs hb => ?_
  simp only [A34, R34]
  rw [At.awp_seq]
  simp [-At.awp_seq]
  rw [At.awp_seq]
  simp [-At.awp_seq]
  rw [At.awp_seq]
  refine At.cut (fun s => s.env 1 = x ∧ s.env 6 = .nilsl ∧ asI (s.env 5) = some (rng n)) ?_ ?_
  · simp
    refine At.loop (fun (i : Nat) s => i ≤ n ∧ s.env 0 = .int .i64 (n : Int) ∧ s.env 1 = x ∧ s.env 6 = .nilsl ∧ s.env 7 = .int .i64 (i : Int) ∧ Outs 1 s.hs (s.env 5) (ints (rng i))) (fun i => n - i) 0 ?_ ?_
    · simp
      exact .nil
    rintro N i s hN ⟨hi, e0, e1, e6, e7, ho⟩
    simp [e0, e7]
    refine At.dec (fun hlt => ?_) (fun hlt => ?_)
    · obtain ⟨y, hs', a1, a2, a3⟩ := ho.add1 (by rw [rng_len]; omega) (i : Int)
      simp [e7, astoAll, a1]
      refine hN (i + 1) _ (by omega) ⟨by omega, ?_⟩
      simp [e0, e1, e6, wrap_nat1 (show i < _ by omega), rng_succ]
      simpa [ints] using a2
    · have : i = n := by omega
      subst this
      simp
      exact At.of ⟨e1, e6, ho.asI (by rw [rng_len]; omega)⟩
  rintro s ⟨e1, e6, h5⟩
  simp
  refine At.loop (fun (q : Nat × List Int × List Int) s => q.2.1.length + q.1 = n ∧ q.2.2.length = q.1 ∧ turn n es = q.2.2 ++ trn es q.2.1.length q.2.1 q.1 ∧ s.env 1 = x ∧ s.env 8 = .int .i64 (q.1 : Int) ∧ asI (s.env 5) = some q.2.1 ∧ Outs 1 s.hs (s.env 6) (ints q.2.2)) (fun q => q.2.1.length) (0, rng n, []) ?_ ?_
  · simp [rng_len, turn, e1, e6, h5]
    exact .nil
  clear e1 e6 h5 s
  rintro N ⟨k, l, done⟩ s hN ⟨hk, hd, ht, e1, e8, h5, ho⟩
  simp only at hk hd ht e8 h5 ho hN
  simp [alen_of h5]
  by_cases hl : l = []
  · subst hl
    simp [trn] at ht
    simp [ht, ho.sh]
  have hl0 : 0 < l.length := List.length_pos_iff.2 hl
  have hi := idxE_lt (es := es) (k := k) hl0
  have hr : l.length = (l.length - 1) + 1 := by omega
  rw [hr, trn] at ht
  simp [hl0, hl, -At.awp_seq]
  rw [At.awp_seq]
  simp [-At.awp_seq]
  rw [At.awp_seq]
  simp [-At.awp_seq]
  rw [At.awp_seq]
  refine At.cut (fun s => s.env 1 = x ∧ s.env 8 = .int .i64 (k : Int) ∧ asI (s.env 5) = some l ∧ Outs 1 s.hs (s.env 6) (ints done) ∧ s.env 9 = .int .i64 (idxE es k l.length : Int)) ?_ ?_
  · simp [e1, e8, hx.len]
    refine At.dec (fun hlt => ?_) (fun hlt => ?_)
    · have hk' : k < es.length := by omega
      have hb := hx.2 (gI es k) (by rw [gI_of hk']; exact List.getElem_mem _)
      obtain ⟨t, ht2⟩ : ∃ t : Nat, gI es k = (t : Int) := ⟨(gI es k).toNat, by omega⟩
      have hg := hx.get hk'
      rw [ht2] at hg hb
      have hix : idxE es k l.length = t % l.length := by unfold idxE; rw [if_pos hk', ht2]; simp
      have r9 : abin 0 .rem (.int .i64 (t : Int)) (.int .i64 (l.length : Int)) = some (.int .i64 ((t % l.length : Nat) : Int)) := rem64 hl0
      have wt : IntKind.i64.wrap (t : Int) = (t : Int) := wrap64 (by omega) (by omega)
      rw [hix]
      generalize ((t % l.length : Nat) : Int) = tj at *
      simp [e1, e8, hg, wt, alen_of h5, r9, -abin_rem]
      exact At.of ⟨h5, ho⟩
    · have hk' : ¬ k < es.length := by omega
      have hix : idxE es k l.length = 0 := by unfold idxE; rw [if_neg hk']
      rw [hix]
      simp
      exact At.of ⟨e1, e8, h5, ho⟩
  clear e1 e8 h5 ho s
  rintro s ⟨e1, e8, h5, ho, e9⟩
  generalize idxE es k l.length = i at *
  obtain ⟨y, hs', a1, a2, a3⟩ := ho.add1 (by omega) (gI l i)
  obtain ⟨y1, hs1, y2, hs2, b1, b2, b3, b4, b5⟩ := two_app (hs := hs') h5 hi (by omega)
  have st : aslice 1 (s.env 5) none (some (.int .i64 (i : Int))) none = some (takeV i (s.env 5)) := slice_take (asI_asV h5) (by rw [ints_len]; omega)
  have sd : aslice 1 (s.env 5) (some (.int .i64 ((i + 1 : Nat) : Int))) none none = some (dropV (i + 1) (s.env 5)) := slice_drop (asI_asV h5) (by rw [ints_len]; omega)
  have w1 := wrap_nat1 (show i < _ by omega)
  have ix := idx_g h5 (k := .i64) hi
  have wk := wrap_nat1 (show k < _ by omega)
  generalize ((i + 1 : Nat) : Int) = i1 at *
  simp [e9, ix, astoAll, a1, st, sd, w1, b1, b2, e8, wk]
  refine hN (k + 1, l.take i ++ l.drop (i + 1), done ++ [gI l i]) _ (by simp; omega) ⟨by simp; omega, by simp [hd], ?_, ?_⟩
  · rw [ht]
    simp only [List.append_assoc, List.cons_append, List.nil_append]
    rw [show (l.take i ++ l.drop (i + 1)).length = l.length - 1 by simp; omega]
  · simp [e1, b3]
    have := a2.keep b5
    simpa [ints] using this
theorem IsU8.inj {x : AV} {a b : List Int} (h : IsU8 x a) (k : IsU8 x b) : a = b := by
  rcases h.1 with ⟨rfl, rfl⟩ | rfl
  · rcases k.1 with ⟨_, rfl⟩ | e
    · rfl
    · cases e
  · rcases k.1 with ⟨e, _⟩ | e
    · cases e
    · injection e with e1 e2 e3
      have : ∀ {a b : List Int}, a.map (AV.int .u8) = b.map (AV.int .u8) → a = b := by
        intro a
        induction a with
        | nil => intro b h; cases b with | nil => rfl | cons c b => simp at h
        | cons c a ih =>
          intro b h
          cases b with
          | nil => simp at h
          | cons d b => simp at h; rw [h.1, ih (by simpa using h.2)]
      exact this e2
end Go.Proofs.YtdcpkgedaflnmaaGreatDoor.Se
set_option linter.unusedVariables false
set_option linter.unusedSimpArgs false
namespace Go.Proofs.YtdcpkgedaflnmaaGreatDoor.Se
open Go Fw

theorem p75 (a b : Nat) : PCall Tryz.prog 79 [.int .i64 (a : Int), .int .i64 (b : Int)] (.int .i64 (Nat.gcd a b : Int)) := by
  refine PCall.of CtxOk.nil ok75 (by simp) rfl fun hs hb => ?_
  simp [A75, R75]
  refine At.loop (fun (q : Nat × Nat) s => Nat.gcd a b = Nat.gcd q.1 q.2 ∧ s.env 0 = .int .i64 (q.1 : Int) ∧ s.env 1 = .int .i64 (q.2 : Int)) (fun q => q.2) (a, b) ?_ ?_
  · simp
  rintro N ⟨c, d⟩ s hN ⟨hg, e0, e1⟩
  simp only at hg e0 e1 hN
  simp [e1]
  refine At.dec (fun hlt => ?_) (fun hlt => ?_)
  · have hd : 0 < d := by omega
    have r9 : abin 0 .rem (.int .i64 (c : Int)) (.int .i64 (d : Int)) = some (.int .i64 ((c % d : Nat) : Int)) := rem64 hd
    have hm := Nat.mod_lt c hd
    have hgc : Nat.gcd a b = Nat.gcd d (c % d) := by rw [hg, Nat.gcd_comm c d, Nat.gcd_rec d c, Nat.gcd_comm]
    obtain ⟨w, hw⟩ : ∃ w : Int, w = ((c % d : Nat) : Int) := ⟨_, rfl⟩
    rw [← hw] at r9
    simp [e0, e1, r9, -abin_rem]
    refine hN (d, c % d) _ (by simpa using hm) ⟨hgc, ?_⟩
    simp [hw]
  · have : d = 0 := by omega
    subst this
    simp [e0, hg]
/-- the numbers of a computed table -/
def linR (b st s : Nat) : List Int := (List.range b).map fun d => ((st * s + d) % b : Nat)
def linT (b st : Nat) : List (List Int) := (List.range b).map (linR b st)
theorem linR_len (b st s : Nat) : (linR b st s).length = b := by simp [linR]
theorem linT_len (b st : Nat) : (linT b st).length = b := by simp [linT]
set_option maxHeartbeats 1000000 in
theorem p40 {n st : Nat} (h1 : 2 ≤ n) (hn : n ≤ 10) (hs1 : 1 ≤ st) (hs2 : st < n) (hg : Nat.gcd n st = 1) : PCall Tryz.prog 32 [.int .i64 (n : Int), .int .i64 (st : Int)] (.tup [madV (linT n st), .int .i64 0]) := by
  obtain ⟨C, hC, h75, hne⟩ := ctx_pt E1ok 79 _ _ (p75 n st)
  rw [hg] at h75
  have h72 : C 58 = SB := by rw [hne 58 (by decide)]; rfl
  have b1 : btw 2 (n : Int) 10 = true := btw_iff.2 ⟨by omega, by omega⟩
  have b2 : btw 1 (st : Int) ((n : Int) - 1) = true := btw_iff.2 ⟨by omega, by omega⟩
  have w1 : IntKind.i64.wrap ((n : Int) - 1) = (n : Int) - 1 := wrap64 (by omega) (by omega)
  have hmk : ∀ hs : HS, amake false 1 [.nilsl] hs (.int .i64 (n : Int)) (.int .i64 (n : Int)) = some (.msl false 1 hs.nh 0 n true, hs.blk (List.replicate n .nilsl)) := fun hs => amake_eq (by omega)
  refine PCall.ofZ hC ok40 (by simp) (by simp [AV.plain, plainL, madV_plain]) fun hs hb => ?_
  generalize hq : hs.nh = q at hmk
  simp [A40, R40, h75, h72, b1, b2, w1, hmk, hq]
  refine At.loop (fun (i : Nat) s => i ≤ n ∧ s.env 0 = .int .i64 (n : Int) ∧ s.env 1 = .int .i64 (st : Int) ∧ s.env 6 = .msl false 1 q 0 n true ∧ s.env 28 = .int .i64 (n : Int) ∧ s.env 29 = .int .i64 (i : Int) ∧
    ∃ cs, s.hs.heap q = some cs ∧ cs.length = n ∧ (∀ j (h : j < cs.length), j < i → ∃ k, cs[j] = .sl 1 (ints (linR n st j)) (.own k)) ∧ (∀ j (h : j < cs.length), i ≤ j → cs[j] = .nilsl)) (fun i => n - i) 0 ?_ ?_
  · exact ⟨by omega, by simp, by simp, by simp, by simp, by simp, List.replicate n .nilsl, by simp [← hq], by simp, fun j h hj => by omega, fun j h _ => by simp⟩
  rintro N i s hN ⟨hi, e0, e1, e6, e28, e29, cs, hh, hl, hd, hz⟩
  simp [e28, e29]
  refine At.dec (fun hlt => ?_) (fun hlt => ?_)
  · have hi' : i < n := by omega
    simp [e0, e29]
    refine At.loop (fun (k : Nat) s => k ≤ n ∧ s.env 0 = .int .i64 (n : Int) ∧ s.env 1 = .int .i64 (st : Int) ∧ s.env 6 = .msl false 1 q 0 n true ∧ s.env 28 = .int .i64 (n : Int) ∧ s.env 29 = .int .i64 (i : Int) ∧ s.env 7 = .int .i64 (i : Int) ∧ s.env 32 = .int .i64 (n : Int) ∧ s.env 33 = .int .i64 (k : Int) ∧
      ∃ cs, ∃ hl : cs.length = n, s.hs.heap q = some cs ∧ (∀ j (h : j < cs.length), j < i → ∃ k, cs[j] = .sl 1 (ints (linR n st j)) (.own k)) ∧ Outs 1 s.hs (cs[i]'(by omega)) (ints ((linR n st i).take k)) ∧ (∀ j (h : j < cs.length), i < j → cs[j] = .nilsl)) (fun k => n - k) 0 ?_ ?_
    · exact ⟨by omega, by simp [e0], by simp [e1], by simp [e6], by simp [e28], by simp [e29], by simp, by simp, by simp, cs, hl, by simp [hh], hd, by rw [hz i (by omega) (Nat.le_refl _)]; exact .nil, fun j h hj => hz j h (by omega)⟩
    rintro N2 k s2 hN2 ⟨hk, f0, f1, f6, f28, f29, f7, f32, f33, cs2, gl, gh, gd, go, gz⟩
    simp [f32, f33]
    refine At.dec (fun hlt2 => ?_) (fun hlt2 => ?_)
    · have hk' : k < n := by omega
      have hi2 : i < cs2.length := by omega
      have x1 : aidxS 1 (.msl false 1 q 0 n true) (.int .i64 (i : Int)) = some (.ref q i) := aidx_msln hi'
      have ld : aload s2.hs.heap false 1 (.ref q i) = some cs2[i] := load_cell gh hi2
      have hmul : st * i ≤ 100 := Nat.mul_le_mul (show st ≤ 10 by omega) (show i ≤ 10 by omega)
      have wm : IntKind.i64.wrap ((st : Int) * (i : Int)) = ((st * i : Nat) : Int) := by rw [← Int.natCast_mul]; exact wrap_nat (by omega)
      have wa : IntKind.i64.wrap (((st * i : Nat) : Int) + (k : Int)) = ((st * i + k : Nat) : Int) := by rw [wrap64 (by omega) (by omega)]; omega
      have r9 : abin 0 .rem (.int .i64 ((st * i + k : Nat) : Int)) (.int .i64 (n : Int)) = some (.int .i64 (((st * i + k) % n : Nat) : Int)) := rem64 (by omega)
      have hrl : ((linR n st i).take k).length ≤ 1000000 := by rw [List.length_take, linR_len]; omega
      obtain ⟨y, hs', ap, o2, sm⟩ := go.add1 hrl (((st * i + k) % n : Nat) : Int)
      have hnx : (linR n st i).take k ++ [(((st * i + k) % n : Nat) : Int)] = (linR n st i).take (k + 1) := by
        rw [take_snoc (by rw [linR_len]; omega)]
        congr 1
        simp [linR]
      rw [hnx] at o2
      have yl : y.leaf = true := by
        rcases o2.inv with ⟨rfl, _⟩ | ⟨xs, k', rfl, _⟩ <;> rfl
      have stt : astore hs'.heap 1 (.ref q i) y = _ := store_cell (by rw [sm.heap]; exact gh) hi2 yl
      generalize (((st * i + k) % n : Nat) : Int) = g2 at *
      generalize ((st * i + k : Nat) : Int) = g3 at *
      generalize ((st * i : Nat) : Int) = g4 at *
      simp [f0, f1, f6, f7, f33, x1, ld, wm, wa, r9, astoAll, ap, stt, -abin_rem]
      refine hN2 (k + 1) _ (by omega) ⟨by omega, by simp [f0], by simp [f1], by simp [f6], by simp [f28], by simp [f29], by simp [f7], by simp [f32], by simp [wrap_nat1 (show k < _ by omega)], cs2.set i y, by rw [List.length_set]; exact gl, by simp, fun j h hj => ?_, ?_, fun j h hj => ?_⟩
      · rw [List.length_set] at h
        rw [List.getElem_set_ne (by omega)]; exact gd j h hj
      · rw [List.getElem_set_self]
        exact o2.cong rfl rfl
      · rw [List.length_set] at h
        rw [List.getElem_set_ne (by omega)]; exact gz j h hj
    · have hk' : k = n := by omega
      simp [f29]
      refine hN (i + 1) _ (by omega) ⟨by omega, by simp [f0], by simp [f1], by simp [f6], by simp [f28], by simp [wrap_nat1 (show i < _ by omega)], cs2, by simp [gh], gl, fun j h hj => ?_, fun j h hj => gz j h (by omega)⟩
      by_cases hji : j = i
      · subst hji
        rw [hk', List.take_of_length_le (by rw [linR_len]; exact Nat.le_refl _)] at go
        rcases go.inv with ⟨_, h2⟩ | ⟨xs, k', h1, _, h3, _⟩
        · have := congrArg List.length h2
          rw [ints_len, linR_len, List.length_nil] at this
          omega
        · exact ⟨k', by rw [h1, share_ints_inv h3]⟩
      · exact gd j h (by omega)
  · have hi' : i = n := by omega
    subst hi'
    simp [e6]
    have hfr : (frzL s.hs.heap 2 (.msl false 1 q 0 i true)).share = madV (linT i st) := by
      rw [frzL_msl hh (mcont_full hl)]
      simp only [if_true, share_sl, madV, capshare_e, List.map_map]
      congr 1
      apply List.ext_getElem
      · simp [hl, linT_len]
      · intro j h1 h2
        have h3 : j < cs.length := by simpa using h1
        obtain ⟨k, hk⟩ := hd j h3 (by omega)
        have : frzC (frzL s.hs.heap 1) (.sl 1 (ints (linR i st j)) (.own k)) = .sl 1 (ints (linR i st j)) (.own k) := frzC_noM (noM_ints _ _ _) rfl
        simp [hk, this, linT, shR]
    simpa using hfr
/-! which tables are good -/
theorem mI_map {n : Nat} {f : Nat → List Int} {s : Nat} (hs : s < n) (d : Nat) : mI ((List.range n).map f) s d = gI (f s) d := by
  simp [mI, gI, List.getD, hs]
theorem gI_map {n : Nat} {f : Nat → Int} {d : Nat} (hd : d < n) : gI ((List.range n).map f) d = f d := by
  simp [gI, List.getD, hd]
theorem good_of {n : Nat} {f : Nat → Nat → Int} (h2 : 2 ≤ n) (h10 : n ≤ 10) (he : ∀ s d, s < n → d < n → 0 ≤ f s d ∧ f s d < n) (hr : ∀ s d d', s < n → d < n → d' < n → f s d = f s d' → d = d') (hc : ∀ s s' d, s < n → s' < n → d < n → f s d = f s' d → s = s') :
    GoodT ((List.range n).map fun s => (List.range n).map (f s)) := by
  have hm : ∀ s d, s < n → d < n → mI ((List.range n).map fun s => (List.range n).map (f s)) s d = f s d := fun s d hs hd => by rw [mI_map hs, gI_map hd]
  have hl : ((List.range n).map fun s => (List.range n).map (f s)).length = n := by simp
  refine ⟨by rw [hl]; exact h2, by rw [hl]; exact h10, fun s h => by simp, fun s d hs hd => ?_, fun s d d' hs hd hd' e => ?_, fun s s' d hs hs' hd e => ?_⟩
  · rw [hl] at hs hd ⊢
    rw [hm s d hs hd]; exact he s d hs hd
  · rw [hl] at hs hd hd'
    rw [hm s d hs hd, hm s d' hs hd'] at e
    exact hr s d d' hs hd hd' e
  · rw [hl] at hs hs' hd
    rw [hm s d hs hd, hm s' d hs' hd] at e
    exact hc s s' d hs hs' hd e
theorem lin52 : GoodT (linT 5 2) := by
  refine good_of (f := fun s d => (((2 * s + d) % 5 : Nat) : Int)) (by decide) (by decide) ?_ ?_ ?_
  · intro s d hs hd; omega
  · intro s d d' hs hd hd' e; omega
  · intro s s' d hs hs' hd e; omega
theorem lin31 : GoodT (linT 3 1) := by
  refine good_of (f := fun s d => (((1 * s + d) % 3 : Nat) : Int)) (by decide) (by decide) ?_ ?_ ?_
  · intro s d hs hd; omega
  · intro s d d' hs hd hd' e; omega
  · intro s s' d hs hs' hd e; omega
theorem lin_as {n st : Nat} (h10 : n ≤ 10) : asM (madV (linT n st)) = some (linT n st) := by
  refine madV_as (by rw [linT_len]; omega) fun r hr => ?_
  simp only [linT, List.mem_map] at hr
  obtain ⟨s, _, rfl⟩ := hr
  rw [linR_len]; omega
end Go.Proofs.YtdcpkgedaflnmaaGreatDoor.Se
