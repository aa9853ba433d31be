/-
  The first rule whose beginnings are all accepted: theory, and the walk with its jumps. Own work; the code's parts are printed from the code.
  The first rule whose beginnings are all accepted: the walk. Own work.
  Rules that grow: what is accepted, and the reference's search. Own work.
  Shortest rules: theory, and the search with bits. Own work.
  A shortest rule of four crosses. Own work.
-/
import Derived.Test.YtdcpkgedaflnmaaDoorX2
import Derived.Test.YtdcpkgedaflnmaaDoorFx4
set_option linter.unusedVariables false
set_option linter.unusedSimpArgs false
namespace Go.Proofs.YtdcpkgedaflnmaaDoor.Xs
open Go Fw

def A63k : ACode := .seq (.block 0 (.loop (.seq (.seq (.reg [⟨some 29, none, .mv (.t 7)⟩, ⟨some 30, none, .mv (.t 7)⟩, ⟨some 31, none, .len false (.t 30)⟩, ⟨some 32, none, .bin 0 .sub (.t 31) (.c (.int .i64 1))⟩, ⟨some 33, none, .iaddrS 1 (.t 29) (.t 32)⟩, ⟨some 34, none, .load false 1 (.t 33)⟩, ⟨some 35, none, .mv (.t 1)⟩, ⟨some 36, none, .bin 0 .leq (.t 34) (.t 35)⟩])
  (.cond (.t 36) (.skip) (.exit 0)))
  (.block 1 (.seq (.seq (.reg [⟨some 37, none, .mv (.t 2)⟩, ⟨some 38, none, .mv (.t 7)⟩, ⟨some 39, none, .callv (.t 37) [.t 38]⟩])
  (.cond (.t 39) (.goto 0) (.skip)))
  (.reg [⟨some 40, none, .mv (.t 7)⟩, ⟨some 41, none, .mv (.t 7)⟩, ⟨some 42, none, .len false (.t 41)⟩, ⟨some 43, none, .bin 0 .sub (.t 42) (.c (.int .i64 1))⟩, ⟨some 44, none, .iaddrS 1 (.t 40) (.t 43)⟩, ⟨some 45, none, .load false 1 (.t 44)⟩, ⟨some 46, none, .bin 0 .add (.t 45) (.c (.int .i64 1))⟩, ⟨some 47, none, .iaddrS 1 (.t 40) (.t 43)⟩, ⟨none, none, .store 1 (.t 47) (.t 46)⟩]))))))
  (.seq (.reg [⟨some 48, none, .mv (.t 7)⟩, ⟨some 49, none, .mv (.t 7)⟩, ⟨some 50, none, .len false (.t 49)⟩, ⟨some 51, none, .bin 0 .sub (.t 50) (.c (.int .i64 1))⟩, ⟨some 52, none, .slice 1 (.t 48) none (some (.t 51)) none⟩, ⟨some 7, none, .mv (.t 52)⟩])
  (.seq (.seq (.reg [⟨some 53, none, .mv (.t 7)⟩, ⟨some 54, none, .len false (.t 53)⟩, ⟨some 55, none, .bin 0 .eql (.t 54) (.c (.int .i64 1))⟩])
  (.cond (.t 55) (.seq (.reg [⟨some 6, none, .mv (.c (.nilsl))⟩])
  (.ret)) (.skip)))
  (.seq (.reg [⟨some 56, none, .mv (.t 7)⟩, ⟨some 57, none, .mv (.t 7)⟩, ⟨some 58, none, .len false (.t 57)⟩, ⟨some 59, none, .bin 0 .sub (.t 58) (.c (.int .i64 1))⟩, ⟨some 60, none, .iaddrS 1 (.t 56) (.t 59)⟩, ⟨some 61, none, .load false 1 (.t 60)⟩, ⟨some 62, none, .bin 0 .add (.t 61) (.c (.int .i64 1))⟩, ⟨some 63, none, .iaddrS 1 (.t 56) (.t 59)⟩, ⟨none, none, .store 1 (.t 63) (.t 62)⟩])
  (.goto 1))))
def A63m : ACode := .seq (.seq (.reg [⟨some 9, none, .mv (.t 7)⟩, ⟨some 10, none, .len false (.t 9)⟩, ⟨some 11, none, .mv (.t 0)⟩, ⟨some 12, none, .bin 0 .eql (.t 10) (.t 11)⟩])
  (.cond (.t 12) (.seq (.reg [⟨some 13, none, .mv (.t 7)⟩, ⟨some 6, none, .mv (.t 13)⟩])
  (.ret)) (.skip)))
  (.seq (.regd [⟨some 14, none, .mv (.t 7)⟩, ⟨some 15, none, .mv (.t 7)⟩, ⟨some 16, none, .len false (.t 15)⟩, ⟨some 17, none, .mv (.t 7)⟩, ⟨some 18, none, .len false (.t 17)⟩, ⟨some 19, none, .slice 1 (.t 14) none (some (.t 16)) (some (.t 18))⟩, ⟨some 20, none, .mv (.t 7)⟩, ⟨some 21, none, .mv (.t 7)⟩, ⟨some 22, none, .len false (.t 21)⟩, ⟨some 23, none, .bin 0 .sub (.t 22) (.c (.int .i64 1))⟩, ⟨some 24, none, .iaddrS 1 (.t 20) (.t 23)⟩, ⟨some 25, none, .load false 1 (.t 24)⟩, ⟨some 26, none, .bin 0 .add (.t 25) (.c (.int .i64 1))⟩, ⟨some 27, none, .buildSl 1 [.t 26]⟩, ⟨some 28, none, .mem (.appx 1) [.t 19, .t 27]⟩, ⟨some 7, none, .mv (.t 28)⟩])
  (.seq (.label 1)
  A63k))
theorem A63_eq : A63 = .seq (.reg [⟨some 6, none, .mv (.c (.nilsl))⟩])
  (.jump (.seq (.reg [⟨some 8, none, .buildSl 1 [.c (.int .i64 0)]⟩, ⟨some 7, none, .mv (.t 8)⟩])
  (.seq (.label 0)
  A63m)) 0 (.seq (.skip)
  A63m) 1 (.seq (.skip)
  A63k)) := rfl
/-- the numbers from a to last -/
def cand (a last : Int) : List Int := (List.range (last + 1 - a).toNat).map fun (i : Nat) => a + (i : Int)
theorem cand_c {a last : Int} (h : a ≤ last) : cand a last = a :: cand (a + 1) last := by
  unfold cand
  rw [show (last + 1 - a).toNat = (last + 1 - (a + 1)).toNat + 1 by omega, List.range_succ_eq_map, List.map_cons, List.map_map]
  congr 1
  · simp
  · apply List.map_congr_left
    intro i _
    simp; omega
theorem cand_n {a last : Int} (h : last < a) : cand a last = [] := by
  unfold cand
  rw [show (last + 1 - a).toNat = 0 by omega]; rfl
def lastN (l : List Int) : Int := l.reverse.headD 0
theorem lastN_snoc (l : List Int) (p : Int) : lastN (l ++ [p]) = p := by simp [lastN]
/-- the first extension by r numbers of which all beginnings are accepted -/
def ext (acc : List Int → Bool) (last : Int) : Nat → List Int → Option (List Int)
  | 0, l => some l
  | r + 1, l => (cand (lastN l + 1) last).findSome? fun q => if acc (l ++ [q]) = true then ext acc last r (l ++ [q]) else none
def tryF (acc : List Int → Bool) (last : Int) (r : Nat) (l : List Int) (p : Int) : Option (List Int) := (cand p last).findSome? fun q => if acc (l ++ [q]) = true then ext acc last r (l ++ [q]) else none
theorem ext_s {acc : List Int → Bool} {last : Int} {r : Nat} {l : List Int} : ext acc last (r + 1) l = tryF acc last r l (lastN l + 1) := rfl
theorem tryF_c {acc : List Int → Bool} {last : Int} {r : Nat} {l : List Int} {p : Int} (h : p ≤ last) : tryF acc last r l p = if acc (l ++ [p]) = true then (ext acc last r (l ++ [p])).or (tryF acc last r l (p + 1)) else tryF acc last r l (p + 1) := by
  unfold tryF
  rw [cand_c h, List.findSome?_cons]
  by_cases ha : acc (l ++ [p]) = true
  · rw [if_pos ha, if_pos ha]
    cases ext acc last r (l ++ [p]) <;> rfl
  · rw [if_neg ha, if_neg ha]
theorem tryF_n {acc : List Int → Bool} {last : Int} {r : Nat} {l : List Int} {p : Int} (h : last < p) : tryF acc last r l p = none := by
  unfold tryF; rw [cand_n h]; rfl
/-- what is found after the last number was given up (the list turned around) -/
def backR (acc : List Int → Bool) (last : Int) (cr : Nat) : List Int → Option (List Int)
  | [] => none
  | p :: rest => if rest = [] then none else (tryF acc last (cr - (rest.length + 1)) rest.reverse (p + 1)).or (backR acc last cr rest)
def lookR (acc : List Int → Bool) (last : Int) (cr : Nat) (p : Int) (rest : List Int) : Option (List Int) := (tryF acc last (cr - (rest.length + 1)) rest.reverse p).or (backR acc last cr rest)
def moreR (acc : List Int → Bool) (last : Int) (cr : Nat) (p : Int) (rest : List Int) : Option (List Int) := (ext acc last (cr - (rest.length + 1)) (rest.reverse ++ [p])).or (backR acc last cr (p :: rest))
theorem moreR_0 {acc : List Int → Bool} {last : Int} {cr : Nat} : moreR acc last cr 0 [] = ext acc last (cr - 1) [0] := by
  unfold moreR
  simp [backR]
theorem moreR_full {acc : List Int → Bool} {last : Int} {cr : Nat} {p : Int} {rest : List Int} (h : rest.length + 1 = cr) : moreR acc last cr p rest = some (rest.reverse ++ [p]) := by
  unfold moreR
  rw [h, Nat.sub_self]; rfl
theorem moreR_look {acc : List Int → Bool} {last : Int} {cr : Nat} {p : Int} {rest : List Int} (h : rest.length + 1 < cr) : moreR acc last cr p rest = lookR acc last cr (p + 1) (p :: rest) := by
  unfold moreR lookR
  rw [show cr - (rest.length + 1) = (cr - ((p :: rest).length + 1)) + 1 by simp only [List.length_cons]; omega, ext_s, lastN_snoc, List.reverse_cons]
theorem lookR_acc {acc : List Int → Bool} {last : Int} {cr : Nat} {p : Int} {rest : List Int} (h : p ≤ last) (hne : rest ≠ []) (ha : acc (rest.reverse ++ [p]) = true) : lookR acc last cr p rest = moreR acc last cr p rest := by
  unfold lookR moreR
  rw [tryF_c h, if_pos ha, backR, if_neg hne, Option.or_assoc]
theorem lookR_next {acc : List Int → Bool} {last : Int} {cr : Nat} {p : Int} {rest : List Int} (h : p ≤ last) (ha : ¬ acc (rest.reverse ++ [p]) = true) : lookR acc last cr p rest = lookR acc last cr (p + 1) rest := by
  unfold lookR
  rw [tryF_c h, if_neg ha]
theorem lookR_none {acc : List Int → Bool} {last : Int} {cr : Nat} {p q : Int} (h : last < p) : lookR acc last cr p [q] = none := by
  unfold lookR
  rw [tryF_n h]
  simp [backR]
theorem lookR_pop {acc : List Int → Bool} {last : Int} {cr : Nat} {p q : Int} {r2 : List Int} (h : last < p) (hne : r2 ≠ []) : lookR acc last cr p (q :: r2) = lookR acc last cr (q + 1) r2 := by
  unfold lookR
  rw [tryF_n h, Option.none_or, backR, if_neg hne]
/-! a number that every jump lowers -/
def VV (last : Int) : List Int → Nat
  | [] => 0
  | p :: rest => if rest = [] then 0 else VV last rest * (last + 3).toNat + (last + 2 - p).toNat
def WW (last : Int) (cr : Nat) (p : Int) (rest : List Int) : Nat := (VV last (p :: rest) + 1) * (last + 3).toNat ^ (cr - (rest.length + 1))
theorem WW_inc {last : Int} {cr : Nat} {p : Int} {rest : List Int} (h : p ≤ last + 1) (hl : -2 ≤ last) (hne : rest ≠ []) : WW last cr (p + 1) rest < WW last cr p rest := by
  unfold WW
  refine Nat.mul_lt_mul_of_pos_right ?_ (Nat.pow_pos (by omega))
  simp only [VV, if_neg hne]
  omega
theorem WW_push {last : Int} {cr : Nat} {p : Int} {rest : List Int} (h0 : 0 ≤ p) (hl : 0 ≤ last) (hlt : rest.length + 1 < cr) : WW last cr (p + 1) (p :: rest) < WW last cr p rest := by
  unfold WW
  rw [show cr - (rest.length + 1) = (cr - ((p :: rest).length + 1)) + 1 by simp only [List.length_cons]; omega, Nat.pow_succ, Nat.mul_comm (_ ^ _), ← Nat.mul_assoc]
  refine Nat.mul_lt_mul_of_pos_right ?_ (Nat.pow_pos (by omega))
  have e : VV last ((p + 1) :: p :: rest) = VV last (p :: rest) * (last + 3).toNat + (last + 2 - (p + 1)).toNat := by simp only [VV, if_neg (List.cons_ne_nil p rest)]
  rw [e, Nat.add_mul]
  omega
theorem WW_pop {last : Int} {cr : Nat} {p q : Int} {r2 : List Int} (hl : -2 ≤ last) (hq : q ≤ last + 1) (hne : r2 ≠ []) (hlt : r2.length + 2 ≤ cr) : WW last cr (q + 1) r2 < WW last cr p (q :: r2) := by
  unfold WW
  rw [show cr - (r2.length + 1) = (cr - ((q :: r2).length + 1)) + 1 by simp only [List.length_cons]; omega, Nat.pow_succ, Nat.mul_comm (_ ^ _), ← Nat.mul_assoc]
  refine Nat.mul_lt_mul_of_pos_right ?_ (Nat.pow_pos (by omega))
  have e : VV last (p :: q :: r2) = VV last (q :: r2) * (last + 3).toNat + (last + 2 - p).toNat := by rw [VV, if_neg (List.cons_ne_nil q r2)]
  have e2 : VV last (q :: r2) = VV last r2 * (last + 3).toNat + (last + 2 - q).toNat := by rw [VV, if_neg hne]
  have e3 : VV last ((q + 1) :: r2) = VV last r2 * (last + 3).toNat + (last + 2 - (q + 1)).toNat := by rw [VV, if_neg hne]
  rw [e, e3]
  have : VV last r2 * (last + 3).toNat + (last + 2 - (q + 1)).toNat + 1 ≤ VV last (q :: r2) := by rw [e2]; omega
  have := Nat.mul_le_mul_right (last + 3).toNat this
  omega
/-- what accept is asked of -/
structure VA (cr : Nat) (last : Int) (L : List Int) : Prop where
  two : 2 ≤ L.length
  le : L.length ≤ cr
  bd : ∀ n ∈ L, 0 ≤ n ∧ n ≤ last
  asc : L.Pairwise (· < ·)
structure VS (cr : Nat) (last : Int) (p : Int) (rest : List Int) : Prop where
  le : rest.length + 1 ≤ cr
  bd : ∀ n ∈ rest, 0 ≤ n ∧ n ≤ last
  p0 : 0 ≤ p
  p1 : p ≤ last + 1
  asc : (p :: rest).Pairwise (· > ·)
theorem VS.va {cr : Nat} {last p : Int} {rest : List Int} (h : VS cr last p rest) (hp : p ≤ last) (hne : rest ≠ []) : VA cr last (rest.reverse ++ [p]) := by
  have h1 := List.length_pos_iff.2 hne
  refine ⟨by simp; omega, by have := h.le; simp; omega, fun n hn => ?_, ?_⟩
  · rcases List.mem_append.1 hn with hn | hn
    · exact h.bd n (List.mem_reverse.1 hn)
    · rw [List.mem_singleton.1 hn]; exact ⟨h.p0, hp⟩
  · rw [← List.reverse_cons, List.pairwise_reverse]
    exact h.asc.imp fun h => h
theorem VS.push {cr : Nat} {last p : Int} {rest : List Int} (h : VS cr last p rest) (hp : p ≤ last) (hlt : rest.length + 1 < cr) : VS cr last (p + 1) (p :: rest) := by
  refine ⟨by simp only [List.length_cons]; omega, fun n hn => ?_, by have := h.p0; omega, by omega, ?_⟩
  · rcases List.mem_cons.1 hn with rfl | hn
    · exact ⟨h.p0, hp⟩
    · exact h.bd n hn
  · refine List.pairwise_cons.2 ⟨fun n hn => ?_, h.asc⟩
    rcases List.mem_cons.1 hn with rfl | hn
    · omega
    · have := (List.pairwise_cons.1 h.asc).1 n hn; omega
theorem VS.inc {cr : Nat} {last p : Int} {rest : List Int} (h : VS cr last p rest) (hp : p ≤ last) : VS cr last (p + 1) rest := by
  refine ⟨h.le, h.bd, by have := h.p0; omega, by omega, ?_⟩
  obtain ⟨h1, h2⟩ := List.pairwise_cons.1 h.asc
  exact List.pairwise_cons.2 ⟨fun n hn => by have := h1 n hn; omega, h2⟩
theorem VS.pop {cr : Nat} {last p q : Int} {r2 : List Int} (h : VS cr last p (q :: r2)) : VS cr last (q + 1) r2 := by
  have hq := h.bd q (by simp)
  have := h.le
  simp only [List.length_cons] at this
  refine ⟨by omega, fun n hn => h.bd n (by simp [hn]), by omega, by omega, ?_⟩
  obtain ⟨h1, h2⟩ := List.pairwise_cons.1 (List.pairwise_cons.1 h.asc).2
  exact List.pairwise_cons.2 ⟨fun n hn => by have := h1 n hn; omega, h2⟩
theorem mcont_take {K : List Int} {m : Nat} (h : m ≤ K.length) : mcont false 1 0 m (ints K) = some (ints (K.take m)) := by
  unfold mcont
  rw [if_pos ⟨by simp [ints]; omega, .inr rfl⟩]
  congr 1
  refine List.ext_getElem (by simp [ints]; omega) fun i h1 h2 => ?_
  have hi : i < K.length := by simp [ints] at h2; omega
  simp [ints, List.getD, hi]
theorem frz_take {hp : Nat → Option (List AV)} {b : Nat} {K : List Int} {m : Nat} {ex : Bool} (hb : hp b = some (ints K)) (h : m ≤ K.length) : frz hp 2 (.msl false 1 b 0 m ex) = .sl 1 (ints (K.take m)) (if ex = true then .exact else .shared) := by
  rw [frz_msl, frzL_msl hb (mcont_take h), map_frz_ints]
def fsV : Option (List Int) → AV
  | none => .nilsl
  | some l => .sl 1 (ints l) .shared
theorem fsV_plain (o : Option (List Int)) : (fsV o).plain = true := by
  cases o with
  | none => rfl
  | some l => exact plain_ints l
theorem take_mid {rest R : List Int} {p : Int} : (rest.reverse ++ p :: R).take (rest.length + 1) = rest.reverse ++ [p] := by
  have e : rest.reverse ++ p :: R = (rest.reverse ++ [p]) ++ R := by simp
  rw [e, show rest.length + 1 = (rest.reverse ++ [p]).length by simp, List.take_left']
  rfl
/-- where the list lies -/
def Rep7 (p : Int) (rest : List Int) (s : AS) : Prop :=
  (s.env 7 = .sl 1 [.int .i64 0] .exact ∧ p = 0 ∧ rest = []) ∨ ∃ b R, s.env 7 = .msl false 1 b 0 (rest.length + 1) false ∧ s.hs.heap b = some (ints (rest.reverse ++ p :: R)) ∧ b < s.hs.nh
structure FI (cr : Nat) (last : Int) (acc : List Int → Bool) (f : FuncId) (xs ys : List AV) (res : Option (List Int)) (x : Bool × Int × List Int) (s : AS) : Prop where
  e0 : s.env 0 = .int .i64 (cr : Int)
  e1 : s.env 1 = .int .i64 last
  e2 : s.env 2 = .fn (.func f) xs ys
  vs : VS cr last x.2.1 x.2.2
  mo : x.1 = true → x.2.1 ≤ last ∧ moreR acc last cr x.2.1 x.2.2 = res
  lo : x.1 = false → x.2.2 ≠ [] ∧ lookR acc last cr x.2.1 x.2.2 = res
  rep : Rep7 x.2.1 x.2.2 s
def muF (last : Int) (cr : Nat) (x : Bool × Int × List Int) : Nat := 2 * WW last cr x.2.1 x.2.2 + (if x.1 = true then 0 else 1)
section
variable {C : PCtx} (hC : CtxOk Tryd.prog C) {cr : Nat} {last : Int} {acc : List Int → Bool} {f : FuncId} {xs ys : List AV} {res : Option (List Int)} (hcr : cr ≤ 1000) (hl0 : 0 ≤ last) (hl1 : last ≤ 1000)
  (hxs : ∀ h : Nat → Option (List AV), xs.map (frz h 2) = xs) (hys : ∀ h : Nat → Option (List AV), ys.map (frz h 2) = ys)
  (hacc : ∀ (L : List Int), VA cr last L → PCall Tryd.prog f (xs ++ [.sl 1 (ints L) .shared] ++ ys) (.bool (acc L)))
include hcr hl0 hl1 hxs hys hacc
theorem look63 {G : Nat → AS → Prop} {p : Int} {rest : List Int} {s : AS} (hG : ∀ y s', muF last cr y < muF last cr (false, p, rest) → FI cr last acc f xs ys res y s' → At (G (if y.1 = true then 0 else 1) s'))
    (hI : FI cr last acc f xs ys res (false, p, rest) s) : At (awp Tryd.prog C A63k (gotoQ G (finQ [.t 6] fun e hs' => ReadsZ 2 (fsV res) e hs')) s) := by
  simp [A63k]
  have hne0 := (hI.lo rfl).1
  simp only at hne0
  refine At.loop (fun (p' : Int) s => p ≤ p' ∧ FI cr last acc f xs ys res (false, p', rest) s ∧ WW last cr p' rest ≤ WW last cr p rest) (fun p' => (last + 1 - p').toNat) p ?_ ?_
  · exact ⟨Int.le_refl _, hI, Nat.le_refl _⟩
  rintro N p' s hN ⟨hpp, ⟨e0, e1, e2, vs, mo, lo, rep⟩, hW⟩
  simp only at vs lo rep
  obtain ⟨hne, hres⟩ := lo trivial
  rcases rep with ⟨_, _, h⟩ | ⟨b, R, e7, hb, hbl⟩
  · exact absurd h hne
  obtain ⟨m, hm⟩ : ∃ m, m = rest.length + 1 := ⟨_, rfl⟩
  rw [← hm] at e7
  have hlen0 := List.length_pos_iff.2 hne
  have hml : rest.length < m := by omega
  have hwm : IntKind.i64.wrap ((m : Int) - 1) = (rest.length : Int) := by have := vs.le; rw [wrap64 (by omega) (by omega)]; omega
  have hkl : rest.length < (ints (rest.reverse ++ p' :: R)).length := by simp [ints]
  have hld : aload s.hs.heap false 1 (.ref b rest.length) = some (.int .i64 p') := by
    rw [load_cell hb hkl]
    simp [ints]
  have hp0 := vs.p0
  simp [e1, e7, hwm, hml, hld]
  refine At.dec (fun hle => ?_) (fun hle => ?_)
  · have hfz : ([AV.msl false 1 b 0 m false]).map (frz s.hs.heap 2) = [.sl 1 (ints (rest.reverse ++ [p'])) .shared] := by
      simp only [List.map_cons, List.map_nil]
      rw [frz_take hb (by simp; omega), hm, take_mid]
      rfl
    have hcall := PCall.lent (hs := s.hs) (args := xs ++ [.msl false 1 b 0 m false] ++ ys) (r := .bool (acc (rest.reverse ++ [p']))) (by
      rw [List.map_append, List.map_append, hxs, hys, hfz]
      exact hacc _ (vs.va hle hne)) rfl
    simp [e2, e7]
    refine At.hc (R := fun e hs' => e = .ret (.bool (acc (rest.reverse ++ [p']))) ∧ hs' = s.hs) (by simpa using hcall) ?_ (fun v hs' h => by cases h.1)
    rintro v hs2 ⟨hv, rfl⟩
    injection hv with hv; subst hv
    cases ha : acc (rest.reverse ++ [p']) with
    | true =>
      simp
      refine hG (true, p', rest) _ ?_ ⟨by simp [e0], by simp [e1], by simp [e2], vs, fun _ => ⟨hle, by rw [← lookR_acc hle hne ha]; exact hres⟩, fun h => (by cases h), .inr ⟨b, R, by simp [e7, hm], by simpa using hb, by simpa using hbl⟩⟩
      unfold muF
      simp only [if_true, Bool.false_eq_true, if_false]
      omega
    | false =>
      have hws : IntKind.i64.wrap (p' + 1) = p' + 1 := wrap64 (by omega) (by omega)
      have hst : astore s.hs.heap 1 (.ref b rest.length) (.int .i64 (p' + 1)) = some (fun k => if k = b then some (ints (rest.reverse ++ (p' + 1) :: R)) else s.hs.heap k) := by
        rw [store_cell hb hkl rfl]
        have : (ints (rest.reverse ++ p' :: R)).set rest.length (.int .i64 (p' + 1)) = ints (rest.reverse ++ (p' + 1) :: R) := by
          simp [ints, List.set_append]
        rw [this]
      simp [e7, hwm, hml, hld, hws, hst]
      have hwi := WW_inc (cr := cr) (rest := rest) (p := p') (last := last) (by omega) (by omega) hne
      refine hN (p' + 1) _ (by omega) ⟨by omega, ⟨by simp [e0], by simp [e1], by simp [e2], vs.inc hle, fun h => (by cases h), fun _ => ⟨hne, by rw [← lookR_next hle (by rw [ha]; simp)]; exact hres⟩, .inr ⟨b, R, by simp [e7, hm], by simp, by simpa using hbl⟩⟩, by omega⟩
  · have hsl : aslice 1 (.msl false 1 b 0 m false) none (some (.int .i64 (rest.length : Int))) none = some (.msl false 1 b 0 rest.length false) := by
      simp only [aslice, aidx, if_true, amslice]
      rw [if_pos ⟨by omega, by omega⟩]
      simp only [amsub, Int.toNat_natCast]
      rw [if_neg (by omega)]
      simp
    simp [e7, hwm, hsl]
    have hle' : last < p' := by omega
    match rest, hne, hres, hb, vs, hsl, hm, hlen0, hW, hml, hwm with
    | [q], _, hres, hb, vs, _, _, _, _, _, _ =>
      rw [lookR_none hle'] at hres
      simp [← hres, fsV]
    | q :: q2 :: r2, _, hres, hb, vs, _, _, _, hW, hml, hwm =>
      rw [lookR_pop hle' (by simp)] at hres
      have hq := vs.bd q (by simp)
      have hle3 := vs.le
      simp only [List.length_cons] at hle3
      have hn1 : ¬ ((q :: q2 :: r2).length = 1) := by simp
      obtain ⟨n, hn⟩ : ∃ n, n = (q2 :: r2).length := ⟨_, rfl⟩
      have hnn : (q :: q2 :: r2).length = n + 1 := by rw [hn]; rfl
      have hn0 : n ≠ 0 := by rw [hn]; simp
      have hnr : n = r2.length + 1 := by rw [hn]; rfl
      rw [hnn] at hn1 ⊢
      have hbK : s.hs.heap b = some (ints ((q2 :: r2).reverse ++ q :: (p' :: R))) := by
        rw [hb]; simp
      have hkl2 : n < (ints ((q2 :: r2).reverse ++ q :: (p' :: R))).length := by rw [hn]; simp [ints]
      have hld2 : aload s.hs.heap false 1 (.ref b n) = some (.int .i64 q) := by
        rw [load_cell hbK hkl2]
        subst hn
        simp [ints]
      have hwn : IntKind.i64.wrap (((n + 1 : Nat) : Int) - 1) = (n : Int) := by rw [wrap64 (by omega) (by omega)]; omega
      have hws : IntKind.i64.wrap (q + 1) = q + 1 := wrap64 (by omega) (by omega)
      have hst : astore s.hs.heap 1 (.ref b n) (.int .i64 (q + 1)) = some (fun k => if k = b then some (ints ((q2 :: r2).reverse ++ (q + 1) :: (p' :: R))) else s.hs.heap k) := by
        rw [store_cell hbK hkl2 rfl]
        have : (ints ((q2 :: r2).reverse ++ q :: (p' :: R))).set n (.int .i64 (q + 1)) = ints ((q2 :: r2).reverse ++ (q + 1) :: (p' :: R)) := by
          subst hn
          simp [ints, List.set_append]
        rw [this]
      have hn1' : ¬ (((n + 1 : Nat) : Int) = 1) := by omega
      have hlt5 : n < n + 1 := by omega
      generalize hN1 : n + 1 = N1 at *
      simp [hn1', hn1, hwn, hlt5, hld2, hws, hst]
      refine hG (false, q + 1, q2 :: r2) _ ?_ ⟨by simp [e0], by simp [e1], by simp [e2], vs.pop, fun h => (by cases h), fun _ => ⟨by simp, hres⟩, .inr ⟨b, p' :: R, by simp [← hN1, hn], by simp, by simpa using hbl⟩⟩
      have := WW_pop (cr := cr) (p := p') (q := q) (r2 := q2 :: r2) (last := last) (by omega) (by omega) (by simp) (by simp only [List.length_cons]; omega)
      unfold muF
      simp only [Bool.false_eq_true, if_false]
      omega
end
end Go.Proofs.YtdcpkgedaflnmaaDoor.Xs
set_option linter.unusedVariables false
set_option linter.unusedSimpArgs false
namespace Go.Proofs.YtdcpkgedaflnmaaDoor.Xs
open Go Fw

theorem flat_ints (l : List Int) : flat (ints l) = ints l := by
  induction l with
  | nil => rfl
  | cons a l ih => simp only [ints, List.map_cons, flat, ci] at ih ⊢; rw [ih]; rfl
theorem appm_ints {hs : HS} {P : AV} {l : List Int} {q : Int} (h1 : aelemsH hs.heap P = some (ints l)) (h2 : exactA P = true) (h3 : aszOk 1 P = true) (hl : l.length ≤ 1000) :
    ∃ hs', amem (.appx 1) hs [P, .sl 1 [.int .i64 q] .exact] = some (.msl false 1 hs.nh 0 (l.length + 1) false, hs') ∧ hs'.nh = hs.nh + 1 ∧ hs'.heap hs.nh = some (ints (l ++ [q])) := by
  have e : aelemsH hs.heap (.sl 1 [.int .i64 q] .exact) = some [.int .i64 q] := rfl
  have k1 : appmOk hs P = true := by cases P <;> first | exact h2 | (cases h2; done)
  simp only [amem, aappm, h1, e]
  rw [if_pos ⟨k1, h3, by simp [aszOk], by simp [ints]; omega⟩, if_neg (by simp)]
  have e2 : flat (ints l ++ [AV.int .i64 q]) = ints (l ++ [q]) := by
    rw [← flat_ints (l ++ [q])]; simp [ints]
  rw [e2]
  refine ⟨{ hs with heap := fun i => if i = hs.nh then some (ints (l ++ [q])) else kilH hs.heap P i, nh := hs.nh + 1, nt := hs.nt + 1, tok := fun t => if t = hs.nt then true else kilT hs.tok P t }, ?_, rfl, by simp⟩
  simp [loseT, agOf, ints]
section
variable {C : PCtx} (hC : CtxOk Tryd.prog C) {cr : Nat} {last : Int} {acc : List Int → Bool} {f : FuncId} {xs ys : List AV} {res : Option (List Int)} (hcr : cr ≤ 1000) (hl0 : 0 ≤ last) (hl1 : last ≤ 1000)
  (hxs : ∀ h : Nat → Option (List AV), xs.map (frz h 2) = xs) (hys : ∀ h : Nat → Option (List AV), ys.map (frz h 2) = ys)
  (hacc : ∀ (L : List Int), VA cr last L → PCall Tryd.prog f (xs ++ [.sl 1 (ints L) .shared] ++ ys) (.bool (acc L)))
include hcr hl0 hl1 hxs hys hacc
theorem more63 (hcr2 : 2 ≤ cr) {G : Nat → AS → Prop} {p : Int} {rest : List Int} {s : AS} (hG : ∀ y s', muF last cr y < muF last cr (true, p, rest) → FI cr last acc f xs ys res y s' → At (G (if y.1 = true then 0 else 1) s'))
    (hI : FI cr last acc f xs ys res (true, p, rest) s) : At (awp Tryd.prog C A63m (gotoQ G (finQ [.t 6] fun e hs' => ReadsZ 2 (fsV res) e hs')) s) := by
  obtain ⟨e0, e1, e2, vs, mo, lo, rep⟩ := hI
  simp only at vs rep
  obtain ⟨hle, hres⟩ := mo rfl
  simp only at hle hres
  have hp0 := vs.p0
  have hvl := vs.le
  have hws : IntKind.i64.wrap (p + 1) = p + 1 := wrap64 (by omega) (by omega)
  have push : rest.length + 1 < cr → ∀ s' : AS, s'.env 0 = .int .i64 (cr : Int) → s'.env 1 = .int .i64 last → s'.env 2 = .fn (.func f) xs ys → (∃ b, s'.env 7 = .msl false 1 b 0 (rest.length + 1 + 1) false ∧ s'.hs.heap b = some (ints ((rest.reverse ++ [p]) ++ [p + 1])) ∧ b < s'.hs.nh) →
      At (awp Tryd.prog C A63k (gotoQ G (finQ [.t 6] fun e hs' => ReadsZ 2 (fsV res) e hs')) s') := by
    intro hlt s' a0 a1 a2 ⟨b, a7, hb, hbl⟩
    have hw := WW_push (cr := cr) (p := p) (rest := rest) (last := last) hp0 hl0 hlt
    refine look63 (p := p + 1) (rest := p :: rest) hcr hl0 hl1 hxs hys hacc (fun y s2 hy hF => hG y s2 ?_ hF) ⟨a0, a1, a2, vs.push hle hlt, fun h => (by cases h), fun _ => ⟨by simp, by rw [← moreR_look hlt]; exact hres⟩, .inr ⟨b, [], by simpa using a7, by simpa using hb, hbl⟩⟩
    unfold muF at hy ⊢
    simp only [Bool.false_eq_true, if_false, if_true] at hy ⊢
    omega
  have hb1 : astoAll 1 [AV.int .i64 (p + 1)] = true := by simp [astoAll]
  rcases rep with ⟨e7, hp, hr⟩ | ⟨b, R, e7, hb, hbl⟩
  · subst hp; subst hr
    have hc1 : ¬ ((1 : Int) = (cr : Int)) := by omega
    have hc1' : ¬ (cr = 1) := by omega
    have hsl : aslice 1 (.sl 1 [.int .i64 0] .exact) none (some (.int .i64 1)) (some (.int .i64 1)) = some (.sl 1 [.int .i64 0] .exact) := by
      simp [aslice, aidx, asliceL]
    have hix : aidxS 1 (.sl 1 [.int .i64 0] .exact) (.int .i64 0) = some (.ptr (.int .i64 0)) := rfl
    have hw0 : IntKind.i64.wrap 0 = 0 := by decide
    have hw1 : IntKind.i64.wrap 1 = 1 := by decide
    have hb2 : astoAll 1 [AV.int .i64 1] = true := by simp [astoAll]
    obtain ⟨h9, hap, hap1, hap2⟩ := appm_ints (hs := s.hs) (P := .sl 1 [.int .i64 0] .exact) (l := [0]) (q := 1) rfl rfl (by simp [aszOk]) (by simp)
    simp [A63m, e0, e7, hc1, hc1', hsl, hix, hw0, hw1, hb2, hap]
    refine push (by simp; omega) _ (by simp [e0]) (by simp [e1]) (by simp [e2]) ⟨s.hs.nh, by simp, by simp [hap2], by simp [hap1]⟩
  · obtain ⟨m, hm⟩ : ∃ m, m = rest.length + 1 := ⟨_, rfl⟩
    rw [← hm] at e7
    have hml : rest.length < m := by omega
    have hwm : IntKind.i64.wrap ((m : Int) - 1) = (rest.length : Int) := by rw [wrap64 (by omega) (by omega)]; omega
    have hkl : rest.length < (ints (rest.reverse ++ p :: R)).length := by simp [ints]
    have hld : aload s.hs.heap false 1 (.ref b rest.length) = some (.int .i64 p) := by
      rw [load_cell hb hkl]
      simp [ints]
    by_cases hfull : m = cr
    · have hc : ((m : Int) = (cr : Int)) := by omega
      rw [moreR_full (by omega)] at hres
      simp [A63m, e0, e7, hfull, hc]
      rw [← hfull, hm]
      have := frz_take (ex := false) hb (m := rest.length + 1) (by simp)
      rw [take_mid] at this
      rw [frz_msl] at this
      rw [this, ← hres]
      rw [share_sl, share_ints]
      rfl
    · have hc : ¬ ((m : Int) = (cr : Int)) := by omega
      have hsl : aslice 1 (.msl false 1 b 0 m false) none (some (.int .i64 (m : Int))) (some (.int .i64 (m : Int))) = some (.msl false 1 b 0 m true) := by
        simp only [aslice, aidx, if_true, amslice]
        rw [if_pos ⟨by omega, by omega, trivial⟩]
        simp only [amsub, Int.toNat_natCast]
        rw [if_neg (by omega)]
        simp
      have hel : aelemsH s.hs.heap (.msl false 1 b 0 m true) = some (ints (rest.reverse ++ [p])) := by
        simp only [aelemsH, hb, Option.bind_some]
        rw [hm, mcont_take (by simp), take_mid]
      obtain ⟨h9, hap, hap1, hap2⟩ := appm_ints (hs := s.hs) (P := .msl false 1 b 0 m true) (l := rest.reverse ++ [p]) (q := p + 1) hel rfl (by simp [aszOk]) (by simp; omega)
      simp [A63m, e0, e7, hfull, hc, hsl, hwm, hml, hld, hws, hb1, hap]
      refine push (by omega) _ (by simp [e0]) (by simp [e1]) (by simp [e2]) ⟨s.hs.nh, by simp, by simp [hap2], by simp [hap1]⟩
end
theorem p63 {cr : Nat} {last : Int} {acc : List Int → Bool} {f : FuncId} {xs ys : List AV} (hcr2 : 2 ≤ cr) (hcr : cr ≤ 1000) (hl0 : 0 ≤ last) (hl1 : last ≤ 1000)
    (hxs : ∀ h : Nat → Option (List AV), xs.map (frz h 2) = xs) (hys : ∀ h : Nat → Option (List AV), ys.map (frz h 2) = ys)
    (hacc : ∀ (L : List Int), VA cr last L → PCall Tryd.prog f (xs ++ [.sl 1 (ints L) .shared] ++ ys) (.bool (acc L))) :
    PCall Tryd.prog 60 [.int .i64 (cr : Int), .int .i64 last, .fn (.func f) xs ys] (fsV (ext acc last (cr - 1) [0])) := by
  refine PCall.ofZ D2ok ok63 (by simp) (fsV_plain _) fun hs' hb => ?_
  rw [A63_eq]
  simp
  have hvs : VS cr last 0 [] := ⟨by simp; omega, by simp, by omega, by omega, by simp⟩
  have hFI : ∀ s : AS, s.env 0 = .int .i64 (cr : Int) → s.env 1 = .int .i64 last → s.env 2 = .fn (.func f) xs ys → s.env 7 = .sl 1 [.int .i64 0] .exact → FI cr last acc f xs ys (ext acc last (cr - 1) [0]) (true, 0, []) s :=
    fun s a0 a1 a2 a7 => ⟨a0, a1, a2, hvs, fun _ => ⟨hl0, moreR_0⟩, fun h => (by cases h), .inl ⟨a7, rfl, rfl⟩⟩
  refine At.jump (FI cr last acc f xs ys (ext acc last (cr - 1) [0])) (fun x => x.1) (muF last cr) (muF last cr (true, 0, [])) (.inl (by decide)) ?_ ?_
  · intro G hG
    simp [astoAll, si]
    exact more63 hcr hl0 hl1 hxs hys hacc hcr2 hG (hFI _ (by simp) (by simp) (by simp) (by simp))
  · rintro G ⟨m, p, rest⟩ s hG hI
    cases m with
    | true =>
      simp
      exact more63 hcr hl0 hl1 hxs hys hacc hcr2 hG hI
    | false =>
      simp
      exact look63 hcr hl0 hl1 hxs hys hacc hG hI
end Go.Proofs.YtdcpkgedaflnmaaDoor.Xs
set_option linter.unusedVariables false
set_option linter.unusedSimpArgs false
namespace Go.Proofs.YtdcpkgedaflnmaaDoor.Xs
open Go Fw

def idxP (P : Int → Bool) (l : List Int) : Int := match l.findIdx? P with | some i => i | none => -1
theorem idxP_ge {P : Int → Bool} {l : List Int} : decide (0 ≤ idxP P l) = l.any P := by
  unfold idxP
  cases h : l.findIdx? P with
  | some i =>
    obtain ⟨h1, h2, _⟩ := List.findIdx?_eq_some_iff_getElem.1 h
    have : l.any P = true := List.any_eq_true.2 ⟨l[i], List.getElem_mem _, h2⟩
    simp [this]
  | none =>
    have : l.any P = false := by
      rw [List.any_eq_false]
      intro n hn
      have := List.findIdx?_eq_none_iff.1 h n hn
      simpa using this
    simp [this]
theorem q88 {x : AV} {l : List Int} (hx : asI x = some l) {f : FuncId} {ys : List AV} {P : Int → Bool} {hs : HS} (hf : ∀ n ∈ l, FCall Tryd.prog f (.int .i64 n :: ys) hs fun e hs' => e = .ret (.bool (P n)) ∧ hs' = hs) :
    FCall Tryd.prog 100 [x, .fn (.func f) [] ys] hs fun e hs' => e = .ret (.int .i64 (idxP P l)) ∧ hs' = hs := by
  have hl := asI_len hx
  refine FCall.of_body D2ok ok88 (by simp) (At.i ?_)
  simp [A88, R88, alen_of hx]
  refine At.loop (fun (i : Nat) s => i ≤ l.length ∧ s.env 0 = x ∧ s.env 1 = .fn (.func f) [] ys ∧ s.env 7 = .int .i64 (l.length : Int) ∧ s.env 8 = .int .i64 (i : Int) ∧ s.hs = hs ∧ ∀ j (h : j < l.length), j < i → P l[j] = false) (fun i => l.length - i) 0 ?_ ?_
  · simp
  rintro N i s hN ⟨hi, e0, e1, e7, e8, eh, hno⟩
  simp [e7, e8]
  refine At.dec (fun hlt => ?_) (fun hlt => ?_)
  · have hi' : i < l.length := by omega
    simp [e0, e1, e8, aidx_nat hx hi']
    refine At.hc (R := fun e hs' => e = .ret (.bool (P l[i])) ∧ hs' = hs) (by simpa [eh] using hf l[i] (List.getElem_mem _)) ?_ (fun v hs' h => by cases h.1)
    rintro v hs2 ⟨hv, rfl⟩
    injection hv with hv; subst hv
    cases hP : P l[i] with
    | true =>
      have : idxP P l = (i : Int) := by
        unfold idxP
        have : l.findIdx? P = some i := List.findIdx?_eq_some_iff_getElem.2 ⟨hi', hP, fun j hj => by simpa using hno j (by omega) hj⟩
        rw [this]
      simp [this]
    | false =>
      simp [e8]
      refine hN (i + 1) _ (by omega) ⟨by omega, by simp [e0], by simp [e1], by simp [e7], by simp [wrap_nat1 (show i < _ by omega)], by simp, fun j h hj => ?_⟩
      by_cases hji : j = i
      · subst hji; exact hP
      · exact hno j h (by omega)
  · have : idxP P l = -1 := by
      unfold idxP
      have : l.findIdx? P = none := List.findIdx?_eq_none_iff.2 fun n hn => by
        obtain ⟨j, hj, rfl⟩ := List.getElem_of_mem hn
        simpa using hno j hj (by omega)
      rw [this]
    simp [this, eh]
theorem q83 {x : AV} {l : List Int} (hx : asI x = some l) {f : FuncId} {ys : List AV} {P : Int → Bool} {hs : HS} (hf : ∀ n ∈ l, FCall Tryd.prog f (.int .i64 n :: ys) hs fun e hs' => e = .ret (.bool (P n)) ∧ hs' = hs) :
    FCall Tryd.prog 70 [x, .fn (.func f) [] ys] hs fun e hs' => e = .ret (.bool (l.any P)) ∧ hs' = hs := by
  refine FCall.of_body D2ok ok83 (by simp) (At.i ?_)
  simp only [← idxP_ge]
  simp [A83, R83]
  refine At.hc (q88 hx hf) ?_ (fun v hs' h => by cases h.1)
  rintro v hs2 ⟨hv, rfl⟩
  injection hv with hv; subst hv
  simp
/-- that a rule is clear that is so without its last cross -/
def grA (L : List Int) : Bool := !(L.dropLast.any fun p => measB L.dropLast (lastN L - p))
theorem grA_snoc (l : List Int) (q : Int) : grA (l ++ [q]) = !(l.any fun p => measB l (q - p)) := by
  unfold grA
  rw [List.dropLast_concat, lastN_snoc]
theorem snoc_of {L : List Int} (h : L ≠ []) : ∃ l q, L = l ++ [q] := ⟨L.dropLast, L.getLast h, (List.dropLast_concat_getLast h).symm⟩
theorem q84 {y z : AV} {l : List Int} {q p : Int} (hy : asI y = some (l ++ [q])) (hz : asI z = some l) {r0 r1 : Nat} {hs : HS} (h1 : hs.heap r1 = some (blF 61 fun n => measB l (n : Int))) (h0 : hs.heap r0 = some [z])
    (hp : 0 ≤ p) (hlt : p < q) (hq : q ≤ 60) : FCall Tryd.prog 87 [.int .i64 p, .ref r1 0, .ptr y, .ref r0 0] hs fun e hs' => e = .ret (.bool (measB l (q - p))) ∧ hs' = hs := by
  obtain ⟨d, hd⟩ : ∃ d : Nat, q - p = (d : Int) := ⟨(q - p).toNat, by omega⟩
  have hix : aidxS 1 y (.int .i64 (l.length : Int)) = some (.ptr (.int .i64 q)) := by
    have := aidx_nat hy (i := l.length) (by simp) (k := .i64)
    simpa using this
  have hw : IntKind.i64.wrap (q - p) = (d : Int) := by rw [wrap64 (by omega) (by omega), hd]
  have hld0 : aload hs.heap false 1 (.ref r0 0) = some z := by rw [la, h0]; rfl
  refine FCall.of_body D2ok ok84 (by simp) (At.i ?_)
  simp [A84, R84, asI_ld hy, hld0, alen_of hz, hix, hw, bl_ix (show d < 61 by omega), bl_ld h1 (show d < 61 by omega)]
  exact At.of (by rw [hd])
theorem p64 {y : AV} {L : List Int} {cr : Nat} {last : Int} (hy : asI y = some L) (hA : VA cr last L) (hcr : cr ≤ 60) (hl : last ≤ 60) : PCall Tryd.prog 61 [y] (.bool (grA L)) := by
  obtain ⟨l, q, rfl⟩ := snoc_of (L := L) (fun h => by have := hA.two; rw [h] at this; simp at this)
  have h2 := hA.two
  have hle := hA.le
  simp only [List.length_append, List.length_cons, List.length_nil] at h2 hle
  obtain ⟨n, hn⟩ : ∃ n, n = l.length := ⟨_, rfl⟩
  have hlx : alenK false y = some (.int .i64 ((n + 1 : Nat) : Int)) := by rw [alen_of hy]; simp [hn]
  have hasc := List.pairwise_append.1 hA.asc
  have hRl : Rl l := ⟨by omega, fun m hm => by have := hA.bd m (by simp [hm]); omega, hasc.1⟩
  have hwn : IntKind.i64.wrap (n : Int) = (n : Int) := wrap_nat (by omega)
  have ts := slice_take (asI_asV hy) (n := n) (by simp [ints, hn]) (k := .i64)
  have hz : asI (takeV n y) = some l := by
    have := asI_take hy n
    rw [hn, List.take_left'] at this
    · rw [hn]; exact this
    · rfl
  generalize takeV n y = z at *
  obtain ⟨C, hC, k76⟩ : ∃ C, CtxOk Tryd.prog C ∧ C 57 [z] = some (.agg (blF 61 fun n => measB l (n : Int))) := ⟨_, CtxOk.nil.pt (p76 hz hRl), by simp⟩
  refine PCall.of hC ok64 (by simp) rfl fun hs' hb => ?_
  have b0 : blF 61 (fun _ => false) = List.replicate 61 (.bool false) := rfl
  generalize hr : hs'.nh = r
  have hne : ¬ r = r + 1 := by omega
  have hst0 : ∀ hp : Nat → Option (List AV), astore (fun i => if i = r then some [.nilsl] else hp i) 1 (.ref r 0) z = some (fun k => if k = r then some [z] else if k = r then some [.nilsl] else hp k) := fun hp => by
    have := store_cell (hp := fun i => if i = r then some [.nilsl] else hp i) (i := r) (o := 0) (ys := [.nilsl]) (v := z) (by simp) (by simp) (by
      rcases asI_inv hz with ⟨h, _⟩ | ⟨c, h⟩ <;> rw [h] <;> rfl)
    simpa using this
  have hst : ∀ hp : Nat → Option (List AV), astore (fun i => if i = r + 1 then some (blF 61 fun _ => false) else hp i) 61 (.ref (r + 1) 0) (.agg (blF 61 fun n => measB l (n : Int))) = some (fun k => if k = r + 1 then some (blF 61 fun n => measB l (n : Int)) else if k = r + 1 then some (blF 61 fun _ => false) else hp k) := fun hp => bl_st (f := fun _ => false) (by simp)
  simp only [A64, R64, ← b0]
  simp [asI_sto hy, asI_ld hy, hlx, hwn, ts, hr, hst0, la, apart, k76, hst, hne]
  refine At.hc (q83 hz (P := fun p => measB l (q - p)) fun p hp => ?_) ?_ (fun v hs' h => by cases h.1)
  · have hbp := hRl.bd p hp
    have hbq := hA.bd q (by simp)
    have hlt : p < q := hasc.2.2 p hp q (by simp)
    exact q84 hy hz (by simp) (by simp [hne]) hbp.1 hlt (by omega)
  rintro v hs2 ⟨hv, rfl⟩
  injection hv with hv; subst hv
  rw [grA_snoc]
  simp
end Go.Proofs.YtdcpkgedaflnmaaDoor.Xs
set_option linter.unusedVariables false
set_option linter.unusedSimpArgs false
namespace Go.Proofs.YtdcpkgedaflnmaaDoor.Xs
open Go Fw

def lpB (rec : Nat → Nat → Nat → Option (List Nat)) (pos dist p : Nat) : Nat → Nat → Option (List Nat)
  | 0, _ => none
  | k + 1, s =>
    if (pos <<< s) &&& dist = 0 then
      match rec ((pos <<< s) ||| 1) (dist ||| (pos <<< s)) (p + s) with
      | some L => some L
      | none => lpB rec pos dist p k (s + 1)
    else lpB rec pos dist p k (s + 1)
def goB (last : Nat) : Nat → Nat → Nat → Nat → Option (List Nat)
  | 0, _, _, p => some [p]
  | r + 1, pos, dist, p => (lpB (goB last r) pos dist p (last - p) 1).map (p :: ·)
structure BI (l : List Int) (pos dist p : Nat) : Prop where
  hp : ∀ i, pos.testBit i = true ↔ i ≤ p ∧ (((p - i : Nat) : Int)) ∈ l
  hd : ∀ d, dist.testBit d = true ↔ measB l (d : Int) = true
  bd : ∀ n ∈ l, 0 ≤ n ∧ n ≤ (p : Int)
  asc : l.Pairwise (· < ·)
  last : lastN l = (p : Int)
theorem measB_iff {l : List Int} {d : Int} : measB l d = true ↔ ∃ i j, ∃ (h1 : i < j) (h2 : j < l.length), l[j] - l[i] = d := by
  unfold measB
  rw [List.any_eq_true]
  constructor
  · rintro ⟨p, hp, e⟩
    obtain ⟨h1, h2⟩ := mem_resF.1 hp
    refine ⟨p.1, p.2, h1, h2, ?_⟩
    have : dsN l p = d := by simpa using e
    rw [dsN, getD_of h2, getD_of (by omega)] at this
    exact this
  · rintro ⟨i, j, h1, h2, e⟩
    refine ⟨(i, j), mem_resF.2 ⟨h1, h2⟩, ?_⟩
    rw [decide_eq_true_eq, dsN, getD_of h2, getD_of (by omega)]
    exact e
theorem measB_snoc {l : List Int} {q d : Int} : measB (l ++ [q]) d = true ↔ measB l d = true ∨ ∃ a ∈ l, q - a = d := by
  rw [measB_iff, measB_iff]
  constructor
  · rintro ⟨i, j, h1, h2, e⟩
    simp only [List.length_append, List.length_cons, List.length_nil] at h2
    by_cases hj : j < l.length
    · left
      refine ⟨i, j, h1, hj, ?_⟩
      rw [List.getElem_append_left hj, List.getElem_append_left (by omega)] at e
      exact e
    · right
      have hj' : j = l.length := by omega
      subst hj'
      refine ⟨l[i], List.getElem_mem _, ?_⟩
      rw [List.getElem_append_left h1] at e
      simpa using e
  · rintro (⟨i, j, h1, h2, e⟩ | ⟨a, ha, e⟩)
    · refine ⟨i, j, h1, by simp; omega, ?_⟩
      rw [List.getElem_append_left h2, List.getElem_append_left (by omega)]
      exact e
    · obtain ⟨i, hi, rfl⟩ := List.getElem_of_mem ha
      refine ⟨i, l.length, hi, by simp, ?_⟩
      rw [List.getElem_append_left hi]
      simpa using e
theorem BI.shift {l : List Int} {pos dist p : Nat} (h : BI l pos dist p) {s : Nat} (hs : 1 ≤ s) (j : Nat) : (pos <<< s).testBit j = true ↔ ∃ a ∈ l, ((p + s : Nat) : Int) - a = (j : Int) := by
  rw [Nat.testBit_shiftLeft]
  simp only [Bool.and_eq_true, decide_eq_true_eq]
  constructor
  · rintro ⟨h1, h2⟩
    obtain ⟨h3, h4⟩ := (h.hp _).1 h2
    exact ⟨_, h4, by omega⟩
  · rintro ⟨a, ha, e⟩
    have hb := h.bd a ha
    refine ⟨by omega, (h.hp _).2 ⟨by omega, ?_⟩⟩
    have : ((p - (j - s) : Nat) : Int) = a := by omega
    rw [this]; exact ha
theorem BI.acc {l : List Int} {pos dist p : Nat} (h : BI l pos dist p) {s : Nat} (hs : 1 ≤ s) : ((pos <<< s) &&& dist = 0) ↔ grA (l ++ [((p + s : Nat) : Int)]) = true := by
  rw [grA_snoc]
  simp only [Bool.not_eq_true', List.any_eq_false]
  constructor
  · intro h0 a ha hm
    have hb := h.bd a ha
    obtain ⟨j, hj⟩ : ∃ j : Nat, ((p + s : Nat) : Int) - a = (j : Int) := ⟨p + s - a.toNat, by omega⟩
    rw [hj] at hm
    have : ((pos <<< s) &&& dist).testBit j = true := by
      rw [Nat.testBit_and, (h.shift hs j).2 ⟨a, ha, hj⟩, (h.hd j).2 hm]; rfl
    rw [h0] at this
    simp at this
  · intro hno
    apply Nat.eq_of_testBit_eq
    intro j
    rw [Nat.zero_testBit, Nat.testBit_and]
    cases h1 : (pos <<< s).testBit j with
    | false => rfl
    | true =>
      obtain ⟨a, ha, e⟩ := (h.shift hs j).1 h1
      cases h2 : dist.testBit j with
      | false => rfl
      | true =>
        have := (h.hd j).1 h2
        rw [← e] at this
        exact absurd this (hno a ha)
theorem BI.next {l : List Int} {pos dist p : Nat} (h : BI l pos dist p) {s : Nat} (hs : 1 ≤ s) : BI (l ++ [((p + s : Nat) : Int)]) ((pos <<< s) ||| 1) (dist ||| (pos <<< s)) (p + s) := by
  refine ⟨fun i => ?_, fun d => ?_, fun n hn => ?_, ?_, lastN_snoc _ _⟩
  · rw [Nat.testBit_or, Bool.or_eq_true]
    constructor
    · rintro (h1 | h1)
      · obtain ⟨a, ha, e⟩ := (h.shift hs i).1 h1
        have hb := h.bd a ha
        refine ⟨by omega, List.mem_append_left _ ?_⟩
        have : ((p + s - i : Nat) : Int) = a := by omega
        rw [this]; exact ha
      · have : i = 0 := by
          rw [Nat.testBit_one_eq_true_iff_self_eq_zero] at h1
          exact h1
        subst this
        exact ⟨by omega, by simp⟩
    · rintro ⟨h1, h2⟩
      rcases List.mem_append.1 h2 with h2 | h2
      · left
        exact (h.shift hs i).2 ⟨_, h2, by omega⟩
      · right
        have := List.mem_singleton.1 h2
        have : i = 0 := by omega
        subst this; rfl
  · rw [Nat.testBit_or, Bool.or_eq_true, measB_snoc, h.hd, h.shift hs]
  · rcases List.mem_append.1 hn with hn | hn
    · have := h.bd n hn; omega
    · rw [List.mem_singleton.1 hn]; omega
  · refine List.pairwise_append.2 ⟨h.asc, by simp, fun a ha b hb => ?_⟩
    rw [List.mem_singleton.1 hb]
    have := h.bd a ha; omega
theorem goB_eq {last : Nat} : ∀ (r : Nat) {l : List Int} {pos dist p : Nat}, BI (l ++ [(p : Int)]) pos dist p → ext grA (last : Int) r (l ++ [(p : Int)]) = (goB last r pos dist p).map fun t => l ++ t.map fun (n : Nat) => (n : Int)
  | 0, l, pos, dist, p, h => by simp [ext, goB]
  | r + 1, l, pos, dist, p, h => by
    have key : ∀ k s, 1 ≤ s → k + s = last - p + 1 ∨ k = 0 ∧ last < p + s → tryF grA (last : Int) r (l ++ [(p : Int)]) ((p + s : Nat) : Int) = (lpB (goB last r) pos dist p k s).map fun t => (l ++ [(p : Int)]) ++ t.map fun (n : Nat) => (n : Int) := by
      intro k
      induction k with
      | zero =>
        intro s hs hk
        rw [tryF_n (by omega)]; rfl
      | succ k ih =>
        intro s hs hk
        have hkl : p + s ≤ last := by omega
        have hn := ih (s + 1) (by omega) (by omega)
        rw [tryF_c (by omega)]
        rw [show ((p + s : Nat) : Int) + 1 = ((p + (s + 1) : Nat) : Int) by omega, hn]
        simp only [lpB]
        by_cases ha : (pos <<< s) &&& dist = 0
        · rw [if_pos ((h.acc hs).1 ha), if_pos ha, goB_eq r (h.next hs)]
          cases goB last r ((pos <<< s) ||| 1) (dist ||| (pos <<< s)) (p + s) with
          | none => simp
          | some L => simp
        · rw [if_neg (fun e => ha ((h.acc hs).2 e)), if_neg ha]
    have h1 := key (last - p) 1 (by omega) (by omega)
    rw [ext_s, h.last, show (p : Int) + 1 = ((p + 1 : Nat) : Int) by omega, h1]
    simp only [goB, Option.map_map]
    congr 1
    funext t
    simp
theorem bi_0 : BI ([] ++ [((0 : Nat) : Int)]) 1 0 0 := by
  refine ⟨fun i => ?_, fun d => ?_, ?_, ?_, rfl⟩
  · rw [Nat.testBit_one_eq_true_iff_self_eq_zero]
    constructor
    · rintro rfl; simp
    · rintro ⟨h, _⟩; omega
  · rw [Nat.zero_testBit]
    constructor
    · intro h; cases h
    · intro h
      obtain ⟨i, j, h1, h2, _⟩ := measB_iff.1 h
      simp at h2; omega
  · intro n hn
    simp at hn; omega
  · simp
theorem ext_goB (last r : Nat) : ext grA (last : Int) r [0] = (goB last r 1 0 0).map fun t => t.map fun (n : Nat) => (n : Int) := by
  have := goB_eq (last := last) r (l := []) (p := 0) bi_0
  simpa using this
theorem v4b : goB 6 3 1 0 0 = some [0, 1, 4, 6] := by decide +kernel
end Go.Proofs.YtdcpkgedaflnmaaDoor.Xs
set_option linter.unusedVariables false
set_option linter.unusedSimpArgs false
namespace Go.Proofs.YtdcpkgedaflnmaaDoor.Xs
open Go Fw

theorem f63g {cr : Nat} {last : Int} (h1 : 2 ≤ cr) (h2 : cr ≤ 60) (h3 : 0 ≤ last) (h4 : last ≤ 60) : PCall Tryd.prog 60 [.int .i64 (cr : Int), .int .i64 last, .fn (.func 61) [] []] (fsV (ext grA last (cr - 1) [0])) :=
  p63 (acc := grA) (f := 61) (xs := []) (ys := []) h1 (by omega) h3 (by omega) (fun _ => rfl) (fun _ => rfl) fun L hA => by simpa using p64 (y := .sl 1 (ints L) .shared) (asI_sl (by have := hA.le; omega)) hA h2 h4
theorem p32 : PCall Tryd.prog 32 [.int .i64 4] (.tup [.sl 1 (ints [0, 1, 4, 6]) .shared, .int .i64 0]) := by
  have h63 := f63g (cr := 4) (last := 6) (by decide) (by decide) (by decide) (by decide)
  have e : ext grA (6 : Int) 3 [0] = some [0, 1, 4, 6] := by
    have := ext_goB 6 3
    rw [v4b] at this
    exact this
  rw [show 4 - 1 = 3 from rfl, e] at h63
  obtain ⟨C1, hC1, k60, _⟩ := ctx_pt CtxOk.nil 60 _ _ h63
  obtain ⟨C, hC, k59, n2⟩ := ctx_pt hC1 59 _ _ (p54 CtxOk.nil 2 4 7)
  have k60 : C 60 [.int .i64 4, .int .i64 6, .fn (.func 61) [] []] = some (fsV (some [0, 1, 4, 6])) := by rw [n2 60 (by decide)]; exact k60
  have k59 : C 59 [.int .i64 2, .int .i64 4, .int .i64 7] = some (.bool true) := k59
  simp only [fsV] at k60
  refine PCall.of hC ok32 (by simp) (by simp [AV.plain, plainL, ints]) fun hs' hbb => ?_
  have w1 : IntKind.i64.wrap ((IntKind.i64.wrap (4 * IntKind.i64.wrap 3)).tdiv 2) = 6 := by decide
  simp [A32, R32, k59, w1, k60]
  refine At.loop (fun (_ : Unit) s => s.env 5 = .sl 1 (ints [0, 1, 4, 6]) .shared) (fun _ => 0) () ?_ ?_
  · simp [ints]
  rintro N _ s hN e5
  simp [e5, ints]
end Go.Proofs.YtdcpkgedaflnmaaDoor.Xs
