/-
  Periods by value; the examples of the chapters 3, 7 and 8. Own work.
  Periods, equal pieces, and the root: the plain law. Own work.
-/
import Derived.Test.YtdcpkgedaflnmaaGreatDoorR2
import Derived.Test.YtdcpkgedaflnmaaGreatDoorC5
import Derived.Test.YtdcpkgedaflnmaaGreatDoorI1
import Derived.Test.YtdcpkgedaflnmaaGreatDoorH2
import Derived.Test.YtdcpkgedaflnmaaGreatDoorH4
set_option linter.unusedVariables false
set_option linter.unusedSimpArgs false
namespace Go.Proofs.YtdcpkgedaflnmaaGreatDoor.Rp
open Go Fw

theorem p40 (b : ByteArray) : PCall Tryz.prog 40 [.str b] (.fn (.func 91) [] [.ptr (.str b)]) := by
  refine PCall.of CtxOk.nil ok40 (by simp) rfl fun hs hb => ?_
  simp [A40, R40, show (AV.str b).sto = true from rfl, show (AV.fn (Fn.func 91) [] [(AV.str b).ptr]).share = AV.fn (Fn.func 91) [] [(AV.str b).ptr] from rfl]
theorem p10 {l : List UInt8} (h : IsB l) : PCall Tryz.prog 10 [.str (bs l)] (.tup [outV 1 (ints (perL l)), .int .i64 0]) := by
  obtain ⟨C1, hC1, k38, _⟩ := ctx_pt CtxOk.nil 38 _ _ (p38 h)
  obtain ⟨C2, hC2, k40, n2⟩ := ctx_pt hC1 40 _ _ (p40 (bs l))
  obtain ⟨C, hC, k39, n3⟩ := ctx_pt hC2 39 _ _ (p39 h)
  have k38 : C 38 [.str (bs l)] = some (.int .i64 0) := by rw [n3 38 (by decide), n2 38 (by decide)]; exact k38
  have k40 : C 40 [.str (bs l)] = some (.fn (.func 91) [] [.ptr (.str (bs l))]) := by rw [n3 40 (by decide)]; exact k40
  refine PCall.of hC ok10 (by simp) (by simp [AV.plain, plainL, outI_plain]) fun hs hb => ?_
  simp [A10, R10, k38, k39, k40]
theorem p37 : PCall Tryz.prog 37 [] (.bool true) := by
  have hst : Sn.zD (Se.linT 5 2) (Se.aft (Se.linT 5 2) [1, 2] 0).toNat = 2 := by decide
  have h59 := Sn.p59 (Se.lin_as (n := 5) (st := 2) (by decide)) Se.lin52 (z := .sl 1 [.int .i64 1, .int .i64 2] .exact) (l := [1, 2]) (asI_sl (l := [1, 2]) (by decide)) (by decide) (by decide)
  rw [hst] at h59
  have h40 := Se.p40 (n := 5) (st := 2) (by decide) (by decide) (by decide) (by decide) (by decide)
  have hv : ∃ xs, Se.madV (Se.linT 5 2) = .sl 1 xs .exact ∧ xs.length = 5 := ⟨_, rfl, by decide⟩
  obtain ⟨xs, hv, hx⟩ := hv
  rw [hv] at h59 h40
  obtain ⟨sz, ys, c, hy, h89⟩ := Ik.few
  obtain ⟨C1, hC1, k32, _⟩ := ctx_pt CtxOk.nil 32 _ _ h40
  obtain ⟨C2, hC2, k59, n2⟩ := ctx_pt hC1 59 _ _ h59
  obtain ⟨C, hC, k89, n3⟩ := ctx_pt hC2 89 _ _ h89
  have k32 : C 32 [.int .i64 5, .int .i64 2] = some (.tup [.sl 1 xs .exact, .int .i64 0]) := by rw [n3 32 (by decide), n2 32 (by decide)]; exact k32
  have k59 : C 59 [.sl 1 xs .exact, .sl 1 [.int .i64 1, .int .i64 2] .exact] = some (.tup [.int .i64 2, .int .i64 0]) := by rw [n3 59 (by decide)]; exact k59
  have a1 : astoAll 1 (ints [1, 1, 3, 3, 4]) = true := rfl
  have fl : afill [.int .i64 0, .nilsl] [(0, 1, .int .i64 5), (1, 1, .sl 1 Ik.inkA .exact)] = some [.int .i64 5, .sl 1 Ik.inkA .exact] := by
    simp [afill, setL, AV.sto, AV.cells]
  refine PCall.of hC ok37 (by simp) rfl fun hs hb => ?_
  simp [A37, R37, k32, k59, hx, astoAll]
  simp [Ik.inkA, ints] at k89 fl
  simp [fl, k89, hy, astoAll]
theorem ab_isB : IsB [97, 98, 97, 98] := ⟨by simp, by simp, by decide⟩
theorem p9 : PCall Tryz.prog 9 [] (.bool true) := by
  have h11 := p11 ab_isB
  have e : rootA [97, 98, 97, 98] = .tup [.str (bs [97, 98]), .int .i64 2, .int .i64 0] := by
    have : rootX [97, 98, 97, 98] = 2 := by decide
    unfold rootA
    rw [this]
    rfl
  rw [e] at h11
  obtain ⟨C1, hC1, k11, _⟩ := ctx_pt CtxOk.nil 11 _ _ h11
  obtain ⟨C2, hC2, k25, n2⟩ := ctx_pt hC1 25 _ _ Ct.p25
  obtain ⟨C, hC, k37, n3⟩ := ctx_pt hC2 37 _ _ p37
  have k11 : C 11 [.str (bs [97, 98, 97, 98])] = some (.tup [.str (bs [97, 98]), .int .i64 2, .int .i64 0]) := by rw [n3 11 (by decide), n2 11 (by decide)]; exact k11
  have k25 : C 25 [] = some (.bool true) := by rw [n3 25 (by decide)]; exact k25
  refine PCall.of hC ok9 (by simp) rfl fun hs hb => ?_
  simp [A9, R9, k11, k25, k37]
end Go.Proofs.YtdcpkgedaflnmaaGreatDoor.Rp
set_option linter.unusedVariables false
set_option linter.unusedSimpArgs false
namespace Go.Proofs.YtdcpkgedaflnmaaGreatDoor.Rp
open Go Fw Se

/-- the figure that is added -/
def nxt (l : List UInt8) (n : Nat) : UInt8 := if 100 ≤ n ∧ 0 < l.length then l.getD (n % l.length) 0 else ([97, 98, 99] : List UInt8).getD (n % 3) 0
/-- the border of numbers -/
def strL (es : List Int) : Nat → List UInt8
  | 0 => []
  | i + 1 => strL es i ++ [nxt (strL es i) (gI es i).toNat]
theorem strL_len (es : List Int) : ∀ i, (strL es i).length = i
  | 0 => rfl
  | i + 1 => by simp [strL, strL_len es i]
theorem nxt_az {l : List UInt8} (h : ∀ c ∈ l, 97 ≤ c.toNat ∧ c.toNat ≤ 122) (n : Nat) : 97 ≤ (nxt l n).toNat ∧ (nxt l n).toNat ≤ 122 := by
  unfold nxt
  split
  · rename_i hc
    have hlt : n % l.length < l.length := Nat.mod_lt _ hc.2
    rw [List.getD_eq_getElem?_getD, List.getElem?_eq_getElem hlt, Option.getD_some]
    exact h _ (List.getElem_mem _)
  · have hlt : n % 3 = 0 ∨ n % 3 = 1 ∨ n % 3 = 2 := by omega
    rcases hlt with e | e | e <;> rw [e] <;> decide
theorem strL_az (es : List Int) : ∀ i, ∀ c ∈ strL es i, 97 ≤ c.toNat ∧ c.toNat ≤ 122
  | 0, c, h => by simp [strL] at h
  | i + 1, c, h => by
    simp only [strL, List.mem_append, List.mem_singleton] at h
    rcases h with h | rfl
    · exact strL_az es i c h
    · exact nxt_az (strL_az es i) _
theorem strL_isB (es : List Int) {i : Nat} (h1 : 1 ≤ i) (h2 : i ≤ 24) : IsB (strL es i) := ⟨fun e => by have := strL_len es i; rw [e] at this; simp at this; omega, by rw [strL_len]; exact h2, strL_az es i⟩

/-! periods -/
theorem perB_iff {l : List UInt8} {p : Nat} (hp : p ≤ l.length) : perB l p = true ↔ ∀ i, i + p < l.length → l[i + p]? = l[i]? := by
  unfold perB pf
  simp only [List.length_drop, Bool.and_eq_true, decide_eq_true_eq]
  constructor
  · rintro ⟨_, h⟩ i hi
    have := congrArg (fun l : List UInt8 => l[i]?) h
    simp only [List.getElem?_take, List.getElem?_drop] at this
    rw [if_pos (by omega)] at this
    rw [this, Nat.add_comm]
  · intro h
    refine ⟨by omega, ?_⟩
    apply List.ext_getElem?
    intro i
    simp only [List.getElem?_take, List.getElem?_drop]
    by_cases hi : i + p < l.length
    · rw [if_pos (by omega), ← h i hi, Nat.add_comm]
    · rw [if_neg (by omega), List.getElem?_eq_none (by omega)]
/-- as many pieces as were compared are the first one -/
def eqK (l : List UInt8) (p j : Nat) : Bool := (List.range j).all fun k => decide ((l.drop (p * (k + 1))).take p = l.take p)
theorem eqK_succ (l : List UInt8) (p j : Nat) : eqK l p (j + 1) = (eqK l p j && decide ((l.drop (p * (j + 1))).take p = l.take p)) := by
  unfold eqK
  rw [List.range_succ, List.all_append]
  simp
theorem eqK_iff {l : List UInt8} {p m : Nat} (hp : 1 ≤ p) (hm : p * m = l.length) : eqK l p (m - 1) = true ↔ ∀ i, i < l.length → l[i]? = l[i % p]? := by
  unfold eqK
  simp only [List.all_eq_true, List.mem_range, decide_eq_true_eq]
  constructor
  · intro h i hi
    rcases Nat.eq_zero_or_pos (i / p) with h0 | h0
    · have : i < p := by
        rcases Nat.lt_or_ge i p with h' | h'
        · exact h'
        · have := Nat.div_pos h' hp; omega
      rw [Nat.mod_eq_of_lt this]
    · have hk : i / p < m := Nat.div_lt_of_lt_mul (by omega)
      have := congrArg (fun l : List UInt8 => l[i % p]?) (h (i / p - 1) (by omega))
      have hmp := Nat.mod_lt i (show 0 < p by omega)
      simp only [List.getElem?_take, List.getElem?_drop] at this
      rw [if_pos hmp, if_pos hmp, show i / p - 1 + 1 = i / p by omega, Nat.div_add_mod] at this
      exact this
  · intro h k hk
    apply List.ext_getElem?
    intro i
    simp only [List.getElem?_take, List.getElem?_drop]
    by_cases hi : i < p
    · rw [if_pos hi, if_pos hi]
      have hlt : p * (k + 1) + i < l.length := by
        have : p * (k + 2) ≤ p * m := Nat.mul_le_mul_left _ (by omega)
        rw [Nat.mul_succ] at this
        have e : p * (k + 1) = p * k + p := Nat.mul_succ _ _
        have e2 : p * (k + 1) + p = p * (k + 1 + 1) := (Nat.mul_succ _ _).symm
        omega
      rw [h _ hlt, Nat.mul_add_mod, Nat.mod_eq_of_lt hi]
    · rw [if_neg hi, if_neg hi]
theorem eq_per {l : List UInt8} {p m : Nat} (hp : 1 ≤ p) (hm : p * m = l.length) (h1 : 1 ≤ m) : eqK l p (m - 1) = perB l p := by
  have hle : p ≤ l.length := by rw [← hm]; exact Nat.le_mul_of_pos_right _ h1
  rw [Bool.eq_iff_iff, eqK_iff hp hm, perB_iff hle]
  constructor
  · intro h i hi
    rw [h _ hi, h i (by omega), Nat.add_mod_right]
  · intro h i
    induction i using Nat.strongRecOn with
    | ind i ih =>
      intro hi
      rcases Nat.lt_or_ge i p with h' | h'
      · rw [Nat.mod_eq_of_lt h']
      · have := h (i - p) (by omega)
        rw [show i - p + p = i by omega] at this
        rw [this, ih (i - p) (by omega) (by omega), show i % p = (i - p) % p from Nat.mod_eq_sub_mod h']
/-! the root -/
theorem rootX_spec {l : List UInt8} (h : l ≠ []) : ∃ r : Nat, rootX l = (r : Int) ∧ 1 ≤ r ∧ r ≤ l.length ∧ perB l r = true ∧ l.length % r = 0 ∧ ∀ p, 1 ≤ p → p < r → l.length % p = 0 → perB l p = false := by
  have hlp := List.length_pos_iff.2 h
  let f : Nat → Bool := fun p => (decide (1 ≤ p) && perB l p) && decide (l.length % p = 0)
  have e1 : (perL l).find? (fun x => decide ((l.length : Int).tmod x = 0)) = ((List.range (l.length + 1)).find? f).map fun (p : Nat) => Int.ofNat p := by
    unfold perL perK
    rw [List.find?_map, List.find?_filter]
    congr 1
    congr 1
    funext p
    simp only [f, Function.comp]
    congr 1
    rw [Bool.eq_iff_iff]
    simp only [decide_eq_true_eq]
    rw [show Int.ofNat p = (p : Int) from rfl, Int.tmod_eq_emod_of_nonneg (by omega)]
    simp only [Bool.and_eq_true, decide_eq_true_eq]
    have : ((l.length : Int) % (p : Int) = 0) ↔ l.length % p = 0 := by rw [← Int.natCast_emod]; omega
    rw [this]
  have hex : f l.length = true := by
    simp only [f, Nat.mod_self, decide_true, Bool.and_true, Bool.and_eq_true, decide_eq_true_eq]
    refine ⟨hlp, (perB_iff (Nat.le_refl _)).2 fun i hi => by omega⟩
  cases hf : (List.range (l.length + 1)).find? f with
  | none =>
    have := List.find?_eq_none.1 hf l.length (List.mem_range.2 (by omega))
    exact absurd hex this
  | some r =>
    obtain ⟨g1, g2, g3⟩ := List.find?_range_eq_some.1 hf
    simp only [f, Bool.and_eq_true, decide_eq_true_eq] at g1
    refine ⟨r, ?_, g1.1.1, by have := List.mem_range.1 g2; omega, g1.1.2, g1.2, fun p hp1 hp2 hp3 => ?_⟩
    · unfold rootX
      rw [e1, hf]
      rfl
    · have := g3 p hp2
      simp only [f, hp1, hp3, decide_true, Bool.true_and, Bool.and_true, Bool.not_eq_true'] at this
      exact this
theorem mem_perL {l : List UInt8} {p : Nat} (h1 : 1 ≤ p) (h2 : p ≤ l.length) : (p : Int) ∈ perL l ↔ perB l p = true := by
  unfold perL perK
  simp only [List.mem_map, List.mem_filter, List.mem_range, Bool.and_eq_true, decide_eq_true_eq]
  constructor
  · rintro ⟨q, ⟨_, _, h⟩, e⟩
    have : q = p := by have : (q : Int) = (p : Int) := e; omega
    rw [← this]; exact h
  · intro h
    exact ⟨p, ⟨by omega, h1, h⟩, rfl⟩
theorem perL_nodup (l : List UInt8) : (perL l).Nodup := by
  unfold perL perK
  rw [List.nodup_iff_pairwise_ne, List.pairwise_map]
  refine (List.Pairwise.filter _ (List.nodup_iff_pairwise_ne.1 List.nodup_range)).imp fun {a b} h e => h ?_
  have : (a : Int) = (b : Int) := e
  omega
/-! a set of numbers -/
def setM (L : List Int) : List (AV × AV) := L.map fun p => (.int .i64 p, .bool true)
theorem alook_set (x : Int) : ∀ (L : List Int) (k : Nat), ∃ r, alook 0 (.int .i64 x) (setM L) k = some r ∧ ((x ∉ L ∧ r = none) ∨ (x ∈ L ∧ ∃ i, r = some (i, .bool true)))
  | [], k => ⟨none, rfl, .inl ⟨by simp, rfl⟩⟩
  | y :: L, k => by
    have he : akeq 0 (.int .i64 x) (.int .i64 y) = some (decide (x = y)) := by simp [akeq]
    by_cases h : x = y
    · refine ⟨some (k, .bool true), ?_, .inr ⟨by simp [h], k, rfl⟩⟩
      subst h
      have he : akeq 0 (.int .i64 x) (.int .i64 x) = some true := by simp [akeq]
      simp only [setM, List.map_cons, alook, he]
    · obtain ⟨r, h1, h2⟩ := alook_set x L (k + 1)
      refine ⟨r, ?_, ?_⟩
      · simp only [setM, List.map_cons, alook, he, h, decide_false]
        exact h1
      · rcases h2 with ⟨h2, h3⟩ | ⟨h2, h3⟩
        · exact .inl ⟨by simp [h, h2], h3⟩
        · exact .inr ⟨by simp [h2], h3⟩
theorem look_set {L : List Int} {x : Int} {mp : Nat → Option (List (AV × AV))} {q : Nat} (h : mp q = some (setM L)) : amlook 0 false (.bool false) mp (.mp q) (.int .i64 x) = some (.bool (decide (x ∈ L))) := by
  obtain ⟨r, h1, h2⟩ := alook_set x L 0
  have hk : akey 0 (.int .i64 x) = true := rfl
  unfold amlook
  simp only [aments, h, hk, h1]
  rcases h2 with ⟨h2, rfl⟩ | ⟨h2, i, rfl⟩ <;> simp [h2]
theorem upd_set {L : List Int} {x : Int} {hs : HS} {q : Nat} (h : hs.mp q = some (setM L)) (hx : x ∉ L) : amupd 0 hs (.mp q) (.int .i64 x) (.bool true) = some { hs with mp := fun j => if j = q then some (setM (L ++ [x])) else hs.mp j } := by
  obtain ⟨r, h1, h2⟩ := alook_set x L 0
  have hr : r = none := by
    rcases h2 with ⟨_, h2⟩ | ⟨h2, _⟩
    · exact h2
    · exact absurd h2 hx
  subst hr
  unfold amupd
  simp only [h, show (akey 0 (.int .i64 x) && (AV.bool true).sto) = true from rfl]
  unfold amput
  rw [h1]
  simp [setM]
end Go.Proofs.YtdcpkgedaflnmaaGreatDoor.Rp
