/-
  HoursLeast: one pair of places, walked. Own work.
  HoursLeast: the search, walked. Own work.
-/
import Derived.Test.YtokgpcdbpkginaaG17
set_option linter.unusedVariables false
set_option linter.unusedSimpArgs false
namespace Go.Proofs.Ytokgpcdbpkginaa
open Go Fw

def T31 : ACode := .reg [⟨some 83, none, .mv (.t 8)⟩, ⟨some 84, none, .load false 1 (.t 3)⟩, ⟨some 85, none, .load true 6 (.t 11)⟩, ⟨some 86, none, .callv (.t 84) [.t 85]⟩, ⟨some 87, none, .bin 0 .add (.c (.int .i64 1)) (.t 86)⟩, ⟨some 88, none, .min (.t 83) (.t 87)⟩, ⟨some 8, none, .mv (.t 88)⟩]
def B31 : ACode := (.block 3 (.seq (.seq (.reg [⟨some 31, none, .mv (.t 9)⟩, ⟨some 32, none, .mv (.t 10)⟩, ⟨some 33, none, .bin 0 .eql (.t 31) (.t 32)⟩, ⟨some 34, none, .mv (.t 33)⟩, ⟨some 35, some (34, false), .mv (.t 9)⟩, ⟨some 36, some (34, false), .bin 0 .geq (.t 35) (.c (.int .i64 0))⟩, ⟨some 37, some (34, false), .mv (.t 36)⟩, ⟨some 38, some (37, true), .mv (.t 9)⟩, ⟨some 39, some (37, true), .iaddrA 6 false 1 (.t 4) (.t 38)⟩, ⟨some 40, some (37, true), .load false 1 (.t 39)⟩, ⟨some 41, some (37, true), .bin 0 .eql (.t 40) (.c (.int .i64 0))⟩, ⟨some 42, some (34, false), .pick (.t 37) (.t 41) (.c (.bool false))⟩, ⟨some 43, none, .pick (.t 34) (.c (.bool true)) (.t 42)⟩, ⟨some 44, none, .mv (.t 43)⟩, ⟨some 45, some (44, false), .mv (.t 10)⟩, ⟨some 46, some (44, false), .bin 0 .geq (.t 45) (.c (.int .i64 0))⟩, ⟨some 47, some (44, false), .mv (.t 46)⟩, ⟨some 48, some (47, true), .mv (.t 10)⟩, ⟨some 49, some (47, true), .bin 0 .add (.c (.int .i64 3)) (.t 48)⟩, ⟨some 50, some (47, true), .iaddrA 6 false 1 (.t 4) (.t 49)⟩, ⟨some 51, some (47, true), .load false 1 (.t 50)⟩, ⟨some 52, some (47, true), .bin 0 .eql (.t 51) (.c (.int .i64 0))⟩, ⟨some 53, some (44, false), .pick (.t 47) (.t 52) (.c (.bool false))⟩, ⟨some 54, none, .pick (.t 44) (.c (.bool true)) (.t 53)⟩, ⟨some 55, none, .mv (.t 54)⟩, ⟨some 56, some (55, false), .mv (.t 9)⟩, ⟨some 57, some (55, false), .bin 0 .geq (.t 56) (.c (.int .i64 0))⟩, ⟨some 58, some (55, false), .mv (.t 57)⟩, ⟨some 59, some (58, true), .mv (.t 10)⟩, ⟨some 60, some (58, true), .bin 0 .geq (.t 59) (.c (.int .i64 0))⟩, ⟨some 61, some (55, false), .pick (.t 58) (.t 60) (.c (.bool false))⟩, ⟨some 62, some (55, false), .mv (.t 61)⟩, ⟨some 63, some (62, true), .load false 1 (.t 2)⟩, ⟨some 64, some (62, true), .bin 0 .lss (.t 63) (.c (.int .i64 2))⟩, ⟨some 65, some (55, false), .pick (.t 62) (.t 64) (.c (.bool false))⟩, ⟨some 66, none, .pick (.t 55) (.c (.bool true)) (.t 65)⟩])
  (.cond (.t 66) (.exit 3) (.skip)))
  (.seq (.reg [⟨some 67, none, .load true 6 (.t 4)⟩, ⟨some 11, none, .alloc [.int .i64 0, .int .i64 0, .int .i64 0, .int .i64 0, .int .i64 0, .int .i64 0]⟩, ⟨none, none, .store 6 (.t 11) (.t 67)⟩])
  (.seq (.seq (.reg [⟨some 68, none, .mv (.t 9)⟩, ⟨some 69, none, .bin 0 .geq (.t 68) (.c (.int .i64 0))⟩])
  (.cond (.t 69) (.reg [⟨some 70, none, .mv (.t 9)⟩, ⟨some 71, none, .iaddrA 6 false 1 (.t 11) (.t 70)⟩, ⟨some 72, none, .load false 1 (.t 71)⟩, ⟨some 73, none, .bin 0 .sub (.t 72) (.c (.int .i64 1))⟩, ⟨some 74, none, .iaddrA 6 false 1 (.t 11) (.t 70)⟩, ⟨none, none, .store 1 (.t 74) (.t 73)⟩]) (.skip)))
  (.seq (.seq (.reg [⟨some 75, none, .mv (.t 10)⟩, ⟨some 76, none, .bin 0 .geq (.t 75) (.c (.int .i64 0))⟩])
  (.cond (.t 76) (.reg [⟨some 77, none, .mv (.t 10)⟩, ⟨some 78, none, .bin 0 .add (.c (.int .i64 3)) (.t 77)⟩, ⟨some 79, none, .iaddrA 6 false 1 (.t 11) (.t 78)⟩, ⟨some 80, none, .load false 1 (.t 79)⟩, ⟨some 81, none, .bin 0 .sub (.t 80) (.c (.int .i64 1))⟩, ⟨some 82, none, .iaddrA 6 false 1 (.t 11) (.t 78)⟩, ⟨none, none, .store 1 (.t 82) (.t 81)⟩]) (.skip)))
  T31)))))
def A31x : ACode := .seq (.reg [⟨some 4, none, .boxi (.t 0)⟩, ⟨some 5, none, .mv (.c (.int .i64 0))⟩])
  (.seq (.seq (.reg [⟨some 12, none, .load true 6 (.t 4)⟩, ⟨some 13, none, .build [.int .i64 0, .int .i64 0, .int .i64 0, .int .i64 0, .int .i64 0, .int .i64 0] []⟩, ⟨some 14, none, .bin 16 .eql (.t 12) (.t 13)⟩])
  (.cond (.t 14) (.seq (.reg [⟨some 5, none, .mv (.c (.int .i64 0))⟩])
  (.ret)) (.skip)))
  (.seq (.seq (.reg [⟨some 16, none, .load false 1 (.t 1)⟩, ⟨some 17, none, .load true 6 (.t 4)⟩, ⟨some 18, none, .mem (.look 16 true (.int .i64 0)) [.t 16, .t 17]⟩, ⟨some 15, none, .mv (.t 18)⟩, ⟨some 19, none, .extract (.t 15) 0⟩, ⟨some 20, none, .extract (.t 15) 1⟩, ⟨some 6, none, .mv (.t 19)⟩, ⟨some 7, none, .mv (.t 20)⟩])
  (.seq (.reg [⟨some 21, none, .mv (.t 7)⟩])
  (.cond (.t 21) (.seq (.reg [⟨some 22, none, .mv (.t 6)⟩, ⟨some 5, none, .mv (.t 22)⟩])
  (.ret)) (.skip))))
  (.seq (.reg [⟨some 8, none, .mv (.c (.int .i64 1000))⟩])
  (.seq (.seq (.reg [⟨some 9, none, .mv (.c (.int .i64 (-1)))⟩])
  (.block 0 (.loop (.seq (.seq (.reg [⟨some 23, none, .mv (.t 9)⟩, ⟨some 24, none, .bin 0 .lss (.t 23) (.c (.int .i64 3))⟩])
  (.cond (.t 24) (.skip) (.exit 0)))
  (.seq (.block 1 (.seq (.reg [⟨some 10, none, .mv (.c (.int .i64 (-1)))⟩])
  (.block 2 (.loop (.seq (.seq (.reg [⟨some 27, none, .mv (.t 10)⟩, ⟨some 28, none, .bin 0 .lss (.t 27) (.c (.int .i64 3))⟩])
  (.cond (.t 28) (.skip) (.exit 2)))
  (.seq B31
  (.reg [⟨some 29, none, .mv (.t 10)⟩, ⟨some 30, none, .bin 0 .add (.t 29) (.c (.int .i64 1))⟩, ⟨some 10, none, .mv (.t 30)⟩])))))))
  (.reg [⟨some 25, none, .mv (.t 9)⟩, ⟨some 26, none, .bin 0 .add (.t 25) (.c (.int .i64 1))⟩, ⟨some 9, none, .mv (.t 26)⟩]))))))
  (.seq (.reg [⟨some 89, none, .load false 1 (.t 1)⟩, ⟨some 90, none, .load true 6 (.t 4)⟩, ⟨some 91, none, .mv (.t 8)⟩, ⟨none, none, .mem (.mupd 16) [.t 89, .t 90, .t 91]⟩])
  (.seq (.reg [⟨some 92, none, .mv (.t 8)⟩, ⟨some 5, none, .mv (.t 92)⟩])
  (.ret)))))))
theorem A31_eq : A31 = A31x := rfl
def i6 (v : Nat → Nat) : List AV := (List.range 6).map fun t => .int .i64 (v t : Int)
def agg6 (v : Nat → Nat) : AV := .agg (i6 v)
theorem i6_len (v : Nat → Nat) : (i6 v).length = 6 := by simp [i6]
theorem i6_get {v : Nat → Nat} {t : Nat} (h : t < (i6 v).length) : (i6 v)[t] = .int .i64 (v t : Int) := by simp [i6]
theorem i6_cong {v w : Nat → Nat} (h : ∀ t, t < 6 → v t = w t) : i6 v = i6 w := by
  unfold i6
  apply List.map_congr_left
  intro t ht
  rw [h t (List.mem_range.1 ht)]
def de (v : Nat → Nat) (a t : Nat) : Nat := if t = a then v t - 1 else v t
theorem i6_set (v : Nat → Nat) {a : Nat} : (i6 v).set a (.int .i64 ((v a - 1 : Nat) : Int)) = i6 (de v a) := by
  apply List.ext_getElem
  · simp [i6_len]
  · intro t h1 h2
    rw [List.getElem_set, i6_get, i6_get]
    unfold de
    by_cases e : a = t
    · subst e; rw [if_pos rfl, if_pos rfl]
    · rw [if_neg e, if_neg (Ne.symm e)]
theorem ld6 {hp : Nat → Option (List AV)} {c : Nat} {v : Nat → Nat} (h : hp c = some (i6 v)) : aload hp true 6 (.ref c 0) = some (agg6 v) := by
  simp only [aload, h, Option.bind_some, apart, if_true, i6_len, Nat.zero_add, Nat.le_refl, List.drop_zero]
  rw [List.take_of_length_le (by rw [i6_len]; exact Nat.le_refl _)]; rfl
theorem lp6 (v : Nat → Nat) (hp : Nat → Option (List AV)) : aload hp true 6 (.ptr (agg6 v)) = some (agg6 v) := by
  simp only [aload, agg6, AV.cells, apart, if_true, i6_len, Nat.zero_add, Nat.le_refl, List.drop_zero]
  rw [List.take_of_length_le (by rw [i6_len]; exact Nat.le_refl _)]
theorem st6 {hp : Nat → Option (List AV)} {c : Nat} {ys : List AV} {v : Nat → Nat} (h : hp c = some ys) (hl : ys.length = 6) : astore hp 6 (.ref c 0) (agg6 v) = some (fun k => if k = c then some (i6 v) else hp k) := by
  have hc : (agg6 v).cells = i6 v := rfl
  simp only [astore, h, Option.bind_some, hc, i6_len, hl, Nat.zero_add, Nat.le_refl, and_true]
  rw [if_pos (show (agg6 v).sto = true from rfl)]
  congr 1
  funext k
  split
  · congr 1
    match ys, hl with
    | [y0, y1, y2, y3, y4, y5], _ => simp [i6, setL, List.range_succ]
  · rfl
theorem ix6 {c t : Nat} (h : t < 6) : aidxA 6 false 1 (.ref c 0) (.int .i64 (t : Int)) = some (.ref c t) := by
  simp only [aidxA, show (0 : Int) ≤ (t : Int) by omega, show (t : Int) < ((6 : Nat) : Int) by omega, and_self, if_true, Int.toNat_natCast, Nat.mul_one, afaddr, Nat.zero_add]
theorem ip6 {v : Nat → Nat} {t : Nat} (h : t < 6) : aidxA 6 false 1 (.ptr (agg6 v)) (.int .i64 (t : Int)) = some (.ptr (.int .i64 (v t : Int))) := by
  have h2 : (i6 v)[t]? = some (.int .i64 (v t : Int)) := by rw [List.getElem?_eq_getElem (by rw [i6_len]; exact h), i6_get]
  simp only [aidxA, show (0 : Int) ≤ (t : Int) by omega, show (t : Int) < ((6 : Nat) : Int) by omega, and_self, if_true, Int.toNat_natCast, Nat.mul_one, afaddr, agg6, AV.cells, apart, Bool.false_eq_true, if_false, h2, Option.map_some]
/-- what memory tells while the search runs -/
structure MI (hs : HS) (kq sq fq km S : Nat) : Prop where
  k : hs.heap kq = some [.mp km]
  s : hs.heap sq = some [.int .i64 (S : Int)]
  f : hs.heap fq = some [.fn (.func 31) [] [.ref kq 0, .ref sq 0, .ref fq 0]]
  m : ∃ ps, hs.mp km = some ps ∧ ∀ e ∈ ps, ∃ w : Nat → Nat, e = (agg6 w, .int .i64 (g6 S w : Int))
  lk : kq < hs.nh
  ls : sq < hs.nh
  lf : fq < hs.nh
  lm : km < hs.nh
theorem MI.up {hs hs' : HS} {kq sq fq km S : Nat} (h : MI hs kq sq fq km S) (hh : ∀ j, j < hs.nh → hs'.heap j = hs.heap j) (hm : hs'.mp = hs.mp) (hn : hs.nh ≤ hs'.nh) : MI hs' kq sq fq km S :=
  ⟨by rw [hh _ h.lk]; exact h.k, by rw [hh _ h.ls]; exact h.s, by rw [hh _ h.lf]; exact h.f, by rw [hm]; exact h.m, Nat.lt_of_lt_of_le h.lk hn, Nat.lt_of_lt_of_le h.ls hn, Nat.lt_of_lt_of_le h.lf hn, Nat.lt_of_lt_of_le h.lm hn⟩
def sum6 (v : Nat → Nat) : Nat := v 0 + v 1 + v 2 + v 3 + v 4 + v 5
theorem g6_bd {s : Nat} {v : Nat → Nat} (hs : 1 ≤ s ∧ s ≤ 5) (hv : ∀ t, t < 6 → v t < 3) : g6 s v ≤ 100 := by
  have h0 := hv 0 (by omega)
  have h1 := hv 1 (by omega)
  have h2 := hv 2 (by omega)
  have h3 := hv 3 (by omega)
  have h4 := hv 4 (by omega)
  have h5 := hv 5 (by omega)
  have := Nat.div_le_self (v 0 + v 1 + v 2 + v 3 + v 4 + v 5 + s - 1) s
  unfold g6
  omega
theorem acc_bd (s : Nat) (v : Nat → Nat) : ∀ k, acc s v k ≤ 1000
  | 0 => Nat.le_refl _
  | k + 1 => by
    have := acc_bd s v k
    rw [acc]; split <;> omega
theorem acc_s {s : Nat} {v : Nat → Nat} {i j : Nat} (hj : j < 4) : acc s v (4 * i + j + 1) = if okN s v i j = true then min (acc s v (4 * i + j)) (1 + g6 s (nxN v i j)) else acc s v (4 * i + j) := by
  rw [acc, show (4 * i + j) / 4 = i by omega, show (4 * i + j) % 4 = j by omega]
def xI (i : Nat) : Int := (i : Int) - 1
def Ans (kq sq fq km S : Nat) (v : Nat → Nat) : Prop := ∀ hs, MI hs kq sq fq km S → FCall Try.prog 31 [agg6 v, .ref kq 0, .ref sq 0, .ref fq 0] hs fun e hs' => e = .ret (.int .i64 (g6 S v : Int)) ∧ MI hs' kq sq fq km S
/-- what a pair keeps -/
structure Kq (kq sq fq km S : Nat) (v : Nat → Nat) (i j : Nat) (s : AS) : Prop where
  e1 : s.env 1 = .ref kq 0
  e2 : s.env 2 = .ref sq 0
  e3 : s.env 3 = .ref fq 0
  e4 : s.env 4 = .ptr (agg6 v)
  e9 : s.env 9 = .int .i64 (xI i)
  e10 : s.env 10 = .int .i64 (xI j)
  mi : MI s.hs kq sq fq km S
theorem nx_lt {v : Nat → Nat} (hv : ∀ t, t < 6 → v t < 3) (i j : Nat) : ∀ t, t < 6 → nxN v i j t < 3 := fun t ht => by
  have := hv t ht
  unfold nxN; omega
theorem nx_x {v : Nat → Nat} {a t : Nat} : nxN v (a + 1) 0 t = de v a t := by
  unfold nxN de
  by_cases e : t = a
  · simp [e]
  · simp [e]
theorem nx_y {v : Nat → Nat} {b t : Nat} : nxN v 0 (b + 1) t = de v (3 + b) t := by
  unfold nxN de
  by_cases e : t = 3 + b
  · simp [e]
  · simp [e]
theorem nx_xy {v : Nat → Nat} {a b t : Nat} (ha : a < 3) : nxN v (a + 1) (b + 1) t = de (de v a) (3 + b) t := by
  unfold nxN de
  by_cases e : t = a
  · subst e
    have : ¬ t = 3 + b := by omega
    simp [this]
  · by_cases e2 : t = 3 + b
    · subst e2
      have : ¬ 3 + b = a := by omega
      simp [this]
    · simp [e, e2]
theorem sum_de {v : Nat → Nat} {a : Nat} (ha : a < 6) (h : v a ≠ 0) : sum6 (de v a) < sum6 v := by
  have : a = 0 ∨ a = 1 ∨ a = 2 ∨ a = 3 ∨ a = 4 ∨ a = 5 := by omega
  rcases this with rfl | rfl | rfl | rfl | rfl | rfl <;> simp [sum6, de] <;> omega
theorem sum6_cong {v w : Nat → Nat} (h : ∀ t, t < 6 → v t = w t) : sum6 v = sum6 w := by
  unfold sum6
  rw [h 0 (by omega), h 1 (by omega), h 2 (by omega), h 3 (by omega), h 4 (by omega), h 5 (by omega)]
theorem de_le (v : Nat → Nat) (a t : Nat) : de v a t ≤ v t := by unfold de; split <;> omega
theorem pairB {E : PCtx} {Q : AEx → AS → Prop} {kq sq fq km S : Nat} (hS : 1 ≤ S ∧ S ≤ 5) {v : Nat → Nat} (hv : ∀ t, t < 6 → v t < 3) (ih : ∀ w : Nat → Nat, (∀ t, t < 6 → w t < 3) → sum6 w < sum6 v → Ans kq sq fq km S w)
    {i j : Nat} (hi : i < 4) (hj : j < 4) {s : AS} (K : Kq kq sq fq km S v i j s) (e8 : s.env 8 = .int .i64 (acc S v (4 * i + j) : Int))
    (next : ∀ s' : AS, Kq kq sq fq km S v i j s' → s'.env 8 = .int .i64 (acc S v (4 * i + j + 1) : Int) → At (Q .normal s')) : At (awp Try.prog E B31 Q s) := by
  have hacc := acc_s (s := S) (v := v) (i := i) hj
  have habd := acc_bd S v (4 * i + j)
  have skip : okN S v i j = false → ∀ s' : AS, Kq kq sq fq km S v i j s' → s'.env 8 = .int .i64 (acc S v (4 * i + j) : Int) → At (Q .normal s') := fun hno s' K' e8' => next s' K' (by rw [hacc, if_neg (by simp [hno])]; exact e8')
  -- the call
  have step : ∀ (s' : AS) (c : Nat) (w : Nat → Nat), okN S v i j = true → (∀ t, t < 6 → nxN v i j t = w t) → sum6 w < sum6 v → Kq kq sq fq km S v i j s' → s'.env 8 = .int .i64 (acc S v (4 * i + j) : Int) → s'.env 11 = .ref c 0 → s'.hs.heap c = some (i6 w) →
      At (awp Try.prog E T31 (blkQ 3 Q) s') := by
    intro s' c w hok hw hlt K' e8' e11 hc
    have hw3 : ∀ t, t < 6 → w t < 3 := fun t ht => by rw [← hw t ht]; exact nx_lt hv i j t ht
    have hg : g6 S (nxN v i j) = g6 S w := g6_cong hw
    have hgb := g6_bd hS hw3
    rw [if_pos hok, hg] at hacc
    simp only [T31]
    simp [K'.e3, load_one K'.mi.f, e8', e11, ld6 hc]
    refine At.hc (ih w hw3 hlt _ K'.mi) ?_ (fun _ _ h => by cases h.1)
    rintro r hs2 ⟨hr, hm⟩
    injection hr with hr; subst hr
    have w1 : IntKind.i64.wrap (1 + (g6 S w : Int)) = 1 + (g6 S w : Int) := wrap64 (by omega) (by omega)
    have hmin : (if (acc S v (4 * i + j) : Int) ≤ 1 + (g6 S w : Int) then (acc S v (4 * i + j) : Int) else 1 + (g6 S w : Int)) = ((acc S v (4 * i + j + 1) : Nat) : Int) := by rw [hacc]; split <;> omega
    simp [w1, hmin]
    refine next _ ⟨by simp [K'.e1], by simp [K'.e2], by simp [K'.e3], by simp [K'.e4], by simp [K'.e9], by simp [K'.e10], by simpa using hm⟩ (by simp)
  have x0 : xI 0 = -1 := rfl
  have xs : ∀ a : Nat, xI (a + 1) = (a : Int) := fun a => by unfold xI; omega
  obtain ⟨e1, e2, e3, e4, e9, e10, mi⟩ := K
  simp only [B31]
  have w3 : ∀ b : Nat, b < 3 → IntKind.i64.wrap (3 + (b : Int)) = 3 + (b : Int) := fun b hb => wrap64 (by omega) (by omega)
  have ip3 : ∀ b : Nat, b < 3 → aidxA 6 false 1 (.ptr (agg6 v)) (.int .i64 (3 + (b : Int))) = some (.ptr (.int .i64 (v (3 + b) : Int))) := fun b hb => by
    have := ip6 (v := v) (t := 3 + b) (by omega)
    rw [Int.natCast_add] at this; exact this
  have ix3 : ∀ c b : Nat, b < 3 → aidxA 6 false 1 (.ref c 0) (.int .i64 (3 + (b : Int))) = some (.ref c (3 + b)) := fun c b hb => by
    have := ix6 (c := c) (t := 3 + b) (by omega)
    rw [Int.natCast_add] at this; exact this
  have zl : ([AV.int .i64 0, .int .i64 0, .int .i64 0, .int .i64 0, .int .i64 0, .int .i64 0] : List AV).length = 6 := rfl
  have lpi : ∀ (n : Int) hp, aload hp false 1 (.ptr (.int .i64 n)) = some (.int .i64 n) := fun n hp => rfl
  by_cases hij : i = j
  · subst hij
    simp [e9, e10]
    exact skip (by simp [okN]) _ ⟨by simp [e1], by simp [e2], by simp [e3], by simp [e4], by simp [e9], by simp [e10], by simpa using mi⟩ (by simp [e8])
  have hxne : ¬ xI i = xI j := by unfold xI; omega
  have stx : ∀ (hp : Nat → Option (List AV)) (c : Nat) (w : Nat → Nat) (t : Nat), hp c = some (i6 w) → t < 6 → w t ≠ 0 → w t < 3 → aload hp false 1 (.ref c t) = some (.int .i64 (w t : Int)) ∧ IntKind.i64.wrap ((w t : Int) - 1) = ((w t - 1 : Nat) : Int) ∧ astore hp 1 (.ref c t) (.int .i64 ((w t - 1 : Nat) : Int)) = some (fun k => if k = c then some (i6 (de w t)) else hp k) := fun hp c w t h ht hn h3 => by
    have hl : t < (i6 w).length := by rw [i6_len]; exact ht
    refine ⟨by rw [load_cell h hl, i6_get], ?_, by rw [store_cell h hl rfl, i6_set]⟩
    rw [wrap64 (by omega) (by omega)]; omega
  have s0c := st6 (hp := fun k => if k = s.hs.nh then some [AV.int .i64 0, .int .i64 0, .int .i64 0, .int .i64 0, .int .i64 0, .int .i64 0] else s.hs.heap k) (c := s.hs.nh) (v := v) (by simp; rfl) rfl
  have mup : ∀ (hp : Nat → Option (List AV)), (∀ k, k ≠ s.hs.nh → hp k = s.hs.heap k) → MI ⟨hp, s.hs.nh + 1, s.hs.nt, s.hs.tok, s.hs.mp⟩ kq sq fq km S := fun hp h => mi.up (fun j hj => h j (by omega)) rfl (by simp)
  rcases i with _ | a
  · rcases j with _ | b
    · exact absurd rfl hij
    · rw [x0] at e9 hxne
      rw [xs] at e10 hxne
      have hb3 : b < 3 := by omega
      have hv3 := hv (3 + b) (by omega)
      by_cases hy : v (3 + b) = 0
      · simp [e4, e9, e10, hxne, w3 b hb3, ip3 b hb3, lpi, hy]
        exact skip (by simp [okN, hy]) _ ⟨by simp [e1], by simp [e2], by simp [e3], by simp [e4], by simp [e9, x0], by simp [e10, xs], by simpa using mi⟩ (by simp [e8])
      · obtain ⟨q1, q2, q3⟩ := stx (fun k => if k = s.hs.nh then some (i6 v) else if k = s.hs.nh then some [AV.int .i64 0, .int .i64 0, .int .i64 0, .int .i64 0, .int .i64 0, .int .i64 0] else s.hs.heap k) s.hs.nh v (3 + b) (by simp) (by omega) hy hv3
        generalize hz : i6 (de v (3 + b)) = z at *
        generalize hvb : v (3 + b) = vb at *
        simp [e4, e9, e10, hxne, w3 b hb3, ip3 b hb3, lpi, hvb, hy, lp6, s0c, ix3, hb3, q1, q2, q3]
        refine step _ s.hs.nh (de v (3 + b)) (by simp [okN]; omega) (fun t _ => nx_y) (sum_de (by omega) (by omega)) ⟨by simp [e1], by simp [e2], by simp [e3], by simp [e4], by simp [e9, x0], by simp [e10, xs], ?_⟩ (by simp [e8]) (by simp) (by simp [hz])
        refine mup _ fun k hk => ?_
        simp [hk]
  · have ha3 : a < 3 := by omega
    have hva := hv a (by omega)
    rw [xs] at e9 hxne
    by_cases hx : v a = 0
    · simp [e4, e9, e10, hxne, ip6 (v := v) (show a < 6 by omega), lpi, hx]
      exact skip (by simp [okN, hx]) _ ⟨by simp [e1], by simp [e2], by simp [e3], by simp [e4], by simp [e9, xs], by simp [e10], by simpa using mi⟩ (by simp [e8])
    have ipa := ip6 (v := v) (t := a) (by omega)
    have ixa : ∀ c, aidxA 6 false 1 (.ref c 0) (.int .i64 (a : Int)) = some (.ref c a) := fun c => ix6 (by omega)
    obtain ⟨q1, q2, q3⟩ := stx (fun k => if k = s.hs.nh then some (i6 v) else if k = s.hs.nh then some [AV.int .i64 0, .int .i64 0, .int .i64 0, .int .i64 0, .int .i64 0, .int .i64 0] else s.hs.heap k) s.hs.nh v a (by simp) (by omega) hx hva
    rcases j with _ | b
    · rw [x0] at e10 hxne
      generalize hz : i6 (de v a) = z at *
      generalize hvb : v a = va at *
      simp [e4, e9, e10, hxne, ipa, lpi, hx, lp6, s0c, ixa, q1, q2, q3]
      refine step _ s.hs.nh (de v a) (by simp [okN]; omega) (fun t _ => nx_x) (sum_de (by omega) (by omega)) ⟨by simp [e1], by simp [e2], by simp [e3], by simp [e4], by simp [e9, xs], by simp [e10, x0], ?_⟩ (by simp [e8]) (by simp) (by simp [hz])
      refine mup _ fun k hk => ?_
      simp [hk]
    · have hb3 : b < 3 := by omega
      have hv3 := hv (3 + b) (by omega)
      rw [xs] at e10 hxne
      by_cases hy : v (3 + b) = 0
      · simp [e4, e9, e10, hxne, ipa, lpi, hx, w3 b hb3, ip3 b hb3, hy]
        exact skip (by simp [okN, hy]) _ ⟨by simp [e1], by simp [e2], by simp [e3], by simp [e4], by simp [e9, xs], by simp [e10, xs], by simpa using mi⟩ (by simp [e8])
      by_cases h2 : S < 2
      · have h2i : (S : Int) < 2 := by omega
        simp [e2, e4, e9, e10, hxne, ipa, lpi, hx, w3 b hb3, ip3 b hb3, hy, load_one mi.s, h2, h2i]
        exact skip (by simp [okN]; omega) _ ⟨by simp [e1], by simp [e2], by simp [e3], by simp [e4], by simp [e9, xs], by simp [e10, xs], by simpa using mi⟩ (by simp [e8])
      · have h2i : ¬ (S : Int) < 2 := by omega
        have hde : de v a (3 + b) = v (3 + b) := by unfold de; rw [if_neg (by omega)]
        obtain ⟨r1, r2, r3⟩ := stx (fun k => if k = s.hs.nh then some (i6 (de v a)) else if k = s.hs.nh then some (i6 v) else if k = s.hs.nh then some [AV.int .i64 0, .int .i64 0, .int .i64 0, .int .i64 0, .int .i64 0, .int .i64 0] else s.hs.heap k) s.hs.nh (de v a) (3 + b) (by simp) (by omega) (by omega) (by omega)
        have hlt : sum6 (de (de v a) (3 + b)) < sum6 v := Nat.lt_trans (sum_de (by omega) (by omega)) (sum_de (by omega) hx)
        rw [hde] at r1 r2 r3
        generalize hz : i6 (de v a) = z at *
        generalize hz2 : i6 (de (de v a) (3 + b)) = z2 at *
        have hok : okN S v (a + 1) (b + 1) = true := by simp [okN, hx, hy]; omega
        generalize v a = va at *
        generalize hvb : v (3 + b) = vb at *
        simp [hvb, e2, e4, e9, e10, hxne, ipa, lpi, hx, w3 b hb3, ip3 b hb3, hy, load_one mi.s, h2, h2i, lp6, s0c, ixa, ix3, hb3, q1, q2, q3, r1, r2, r3]
        refine step _ s.hs.nh (de (de v a) (3 + b)) hok (fun t _ => nx_xy ha3) hlt ⟨by simp [e1], by simp [e2], by simp [e3], by simp [e4], by simp [e9, xs], by simp [e10, xs], ?_⟩ (by simp [e8]) (by simp) (by simp [hz2])
        refine mup _ fun k hk => ?_
        simp [hk]
end Go.Proofs.Ytokgpcdbpkginaa
set_option linter.unusedVariables false
set_option linter.unusedSimpArgs false
namespace Go.Proofs.Ytokgpcdbpkginaa
open Go Fw

theorem aeq_ints6 : ∀ (l m : List Nat), l.length = m.length → aeqInts (l.map fun (n : Nat) => AV.int .i64 (n : Int)) (m.map fun (n : Nat) => AV.int .i64 (n : Int)) = some (decide (l = m))
  | [], [], _ => rfl
  | [], b :: m, h => by simp at h
  | a :: l, [], h => by simp at h
  | a :: l, b :: m, h => by
    have ih := aeq_ints6 l m (by simpa using h)
    simp only [List.map_cons, aeqInts, if_true, ih, Option.map_some]
    congr 1
    rw [Bool.eq_iff_iff]
    simp [Int.natCast_inj]
def l6 (v : Nat → Nat) : List Nat := (List.range 6).map v
theorem i6_l (v : Nat → Nat) : i6 v = (l6 v).map fun (n : Nat) => AV.int .i64 (n : Int) := by simp [i6, l6]
theorem l6_eq {v w : Nat → Nat} : l6 v = l6 w ↔ ∀ t, t < 6 → v t = w t := by
  constructor
  · intro h t ht
    have := congrArg (fun l => l[t]?) h
    simpa [l6, ht] using this
  · intro h
    unfold l6
    apply List.map_congr_left
    intro t ht
    exact h t (List.mem_range.1 ht)
theorem key6 (v w : Nat → Nat) : akeq 16 (agg6 v) (agg6 w) = some (decide (l6 v = l6 w)) := by
  have e := aeq_ints6 (l6 v) (l6 w) (by simp [l6])
  rw [← i6_l, ← i6_l] at e
  simp only [akeq, agg6, i6_len, if_true]
  exact e
theorem akey6 (v : Nat → Nat) : akey 16 (agg6 v) = true := by
  have e := aeq_ints6 (l6 v) (l6 v) rfl
  rw [← i6_l] at e
  simp only [akey, agg6, i6_len, e]; rfl
theorem look6 {S : Nat} {v : Nat → Nat} : ∀ {ps : List (AV × AV)} {i : Nat}, (∀ e ∈ ps, ∃ w : Nat → Nat, e = (agg6 w, .int .i64 (g6 S w : Int))) → alook 16 (agg6 v) ps i = some none ∨ ∃ j, alook 16 (agg6 v) ps i = some (some (j, .int .i64 (g6 S v : Int)))
  | [], i, _ => .inl rfl
  | p :: ps, i, h => by
    obtain ⟨w, rfl⟩ := h p (by simp)
    simp only [alook, key6]
    by_cases e : l6 v = l6 w
    · rw [decide_eq_true e]
      refine .inr ⟨i, ?_⟩
      simp only
      rw [g6_cong (l6_eq.1 e)]
    · rw [decide_eq_false e]
      exact look6 fun e he => h e (by simp [he])
theorem zero6 (v : Nat → Nat) : abin 16 .eql (agg6 v) (.agg [.int .i64 0, .int .i64 0, .int .i64 0, .int .i64 0, .int .i64 0, .int .i64 0]) = some (.bool (z6 v)) := by
  have e := aeq_ints6 (l6 v) [0, 0, 0, 0, 0, 0] (by simp [l6])
  rw [← i6_l] at e
  have hz : decide (l6 v = [0, 0, 0, 0, 0, 0]) = z6 v := by
    rw [Bool.eq_iff_iff]
    simp [l6, z6, List.range_succ, and_assoc]
  rw [hz] at e
  simp only [abin, aeq, agg6, i6_len, if_true]
  simp only [List.map_cons, List.map_nil] at e
  simp
  exact e
theorem ans6 {kq sq fq km S : Nat} (hS : 1 ≤ S ∧ S ≤ 5) : ∀ n (v : Nat → Nat), sum6 v = n → (∀ t, t < 6 → v t < 3) → Ans kq sq fq km S v := by
  intro n
  induction n using Nat.strongRecOn with
  | ind n IH =>
  intro v hn hv hs M
  have ih : ∀ w : Nat → Nat, (∀ t, t < 6 → w t < 3) → sum6 w < sum6 v → Ans kq sq fq km S w := fun w hw hlt => IH (sum6 w) (by omega) w rfl hw
  refine FCall.ofAt D0ok ok31 (by simp) ?_
  have stg : (agg6 v).sto = true := rfl
  rw [A31_eq]
  cases hz : z6 v with
  | true =>
    have h0 := least_zero hS hv hz
    simp [A31x, R31, stg, lp6, fill_none, zero6, hz, h0]
    exact At.of (by simpa using M)
  | false =>
  obtain ⟨ps, hm, hps⟩ := M.m
  rcases look6 (S := S) (v := v) (i := 0) hps with hl | ⟨j, hl⟩
  rotate_left
  · have hlk : amem (.look 16 true (.int .i64 0)) hs [.mp km, agg6 v] = some (.tup [.int .i64 (g6 S v : Int), .bool true], hs) := by
      simp only [amem, amlook, aments, hm, akey6, hl, Option.map_some, if_true]
    simp [A31x, R31, stg, lp6, fill_none, zero6, hz, load_one M.k, hlk]
    exact At.of (by simpa using M)
  have hlk : amem (.look 16 true (.int .i64 0)) hs [.mp km, agg6 v] = some (.tup [.int .i64 0, .bool false], hs) := by
    simp only [amem, amlook, aments, hm, akey6, hl, Option.map_some, if_true]
  simp [A31x, R31, stg, lp6, fill_none, zero6, hz, load_one M.k, hlk]
  refine At.loop (fun (i : Nat) s => i ≤ 4 ∧ s.env 1 = .ref kq 0 ∧ s.env 2 = .ref sq 0 ∧ s.env 3 = .ref fq 0 ∧ s.env 4 = .ptr (agg6 v) ∧ s.env 8 = .int .i64 (acc S v (4 * i) : Int) ∧ s.env 9 = .int .i64 (xI i) ∧ MI s.hs kq sq fq km S) (fun i => 4 - i) 0 ?_ ?_
  · exact ⟨by omega, by simp, by simp, by simp, by simp, by simp [acc], by simp [xI], by simpa using M⟩
  rintro N i s hN ⟨hi, e1, e2, e3, e4, e8, e9, mi⟩
  have wI : ∀ i : Nat, i ≤ 4 → IntKind.i64.wrap (xI i + 1) = xI (i + 1) := fun i hi => by
    unfold xI; rw [wrap64 (by omega) (by omega)]; omega
  simp [e9]
  refine At.dec (fun hlt => ?_) (fun hlt => ?_)
  · have hi' : i < 4 := by unfold xI at hlt; omega
    simp
    refine At.loop (fun (j : Nat) s => j ≤ 4 ∧ Kq kq sq fq km S v i j s ∧ s.env 8 = .int .i64 (acc S v (4 * i + j) : Int)) (fun j => 4 - j) 0 ?_ ?_
    · exact ⟨by omega, ⟨by simp [e1], by simp [e2], by simp [e3], by simp [e4], by simp [e9], by simp [xI], by simpa using mi⟩, by simp [e8]⟩
    clear e1 e2 e3 e4 e8 e9 mi
    rintro N2 j s hN2 ⟨hj, K, e8⟩
    simp [K.e10]
    refine At.dec (fun hlt2 => ?_) (fun hlt2 => ?_)
    · have hj' : j < 4 := by unfold xI at hlt2; omega
      simp
      refine pairB hS hv ih hi' hj' (s := _) ⟨by simp [K.e1], by simp [K.e2], by simp [K.e3], by simp [K.e4], by simp [K.e9], by simp [K.e10], by simpa using K.mi⟩ (by simp [e8]) ?_
      intro s' K' e8'
      simp [K'.e10, wI j (by omega)]
      exact hN2 (j + 1) _ (by omega) ⟨by omega, ⟨by simp [K'.e1], by simp [K'.e2], by simp [K'.e3], by simp [K'.e4], by simp [K'.e9], by simp, by simpa using K'.mi⟩, by simp [e8', Nat.add_assoc]⟩
    · have hj' : j = 4 := by unfold xI at hlt2; omega
      subst hj'
      simp [K.e9, wI i (by omega)]
      exact hN (i + 1) _ (by omega) ⟨by omega, by simp [K.e1], by simp [K.e2], by simp [K.e3], by simp [K.e4], by simp [e8, Nat.mul_add], by simp, by simpa using K.mi⟩
  · have hi' : i = 4 := by unfold xI at hlt; omega
    subst hi'
    rw [show 4 * 4 = 16 from rfl, least_acc hS hv hz] at e8
    obtain ⟨ps2, hm2, hps2⟩ := mi.m
    have hput : ∃ ps3, amput 16 (agg6 v) (.int .i64 (g6 S v : Int)) ps2 = some ps3 ∧ ∀ e ∈ ps3, ∃ w : Nat → Nat, e = (agg6 w, .int .i64 (g6 S w : Int)) := by
      rcases look6 (S := S) (v := v) (i := 0) hps2 with hl | ⟨j, hl⟩
      · refine ⟨_, by unfold amput; rw [hl], fun e he => ?_⟩
        rcases List.mem_append.1 he with he | he
        · exact hps2 e he
        · rw [List.mem_singleton] at he; exact ⟨v, he⟩
      · refine ⟨_, by unfold amput; rw [hl], fun e he => ?_⟩
        rcases List.mem_or_eq_of_mem_set he with he | he
        · exact hps2 e he
        · exact ⟨v, he⟩
    obtain ⟨ps3, hp3, hps3⟩ := hput
    have hup : amem (.mupd 16) s.hs [.mp km, agg6 v, .int .i64 (g6 S v : Int)] = some (.undef, { s.hs with mp := fun j => if j = km then some ps3 else s.hs.mp j }) := by
      simp only [amem, amupd, hm2, akey6, si, Bool.and_self, hp3, Option.map_some]
    simp [e1, e4, e8, load_one mi.k, lp6, hup]
    refine At.of ⟨mi.k, mi.s, mi.f, ⟨ps3, by simp, hps3⟩, mi.lk, mi.ls, mi.lf, mi.lm⟩
end Go.Proofs.Ytokgpcdbpkginaa
