/-
  A border with figures at the crosses of a rule: what it repeats after. The plain law. Own work.
  ruled, border, and the periods of a border: the walks. Own work.
  ruled: a rule by numbers. The plain law and the walk. Own work.
-/
import Derived.Test.YtdcpkgedaflnmaaDoorX3
import Derived.Test.YtdcpkgedaflnmaaDoorR1
import Derived.Test.YtdcpkgedaflnmaaDoorB4
import Derived.Test.YtdcpkgedaflnmaaDoorG5
import Derived.Test.YtdcpkgedaflnmaaDoorFx4
import Derived.Test.YtdcpkgedaflnmaaDoorFx3
set_option linter.unusedVariables false
set_option linter.unusedSimpArgs false
namespace Go.Proofs.YtdcpkgedaflnmaaDoor.Xs
open Go Fw
theorem foldS_st2 (num : Pr → Int) (p : Pr) : ∀ ps : List Pr, foldS (st2 num p) none ps = (ps.find? fun q => decide (p ≠ q ∧ num p = num q)).map fun q => (p, q)
  | [] => rfl
  | q :: ps => by
    by_cases h : p ≠ q ∧ num p = num q
    · rw [List.find?_cons_of_pos (by simpa using h)]
      simp [foldS, st2, h]
    · rw [List.find?_cons_of_neg (by simpa using h), ← foldS_st2 num p ps]
      have : st2 num p none q = (none, true) := by simp only [st2]; rw [if_neg h]; rfl
      simp [foldS, this]
theorem foldS_st1 (num : Pr → Int) (ps : List Pr) : ∀ qs : List Pr, foldS (st1 num ps) none qs = qs.findSome? fun p => (ps.find? fun q => decide (p ≠ q ∧ num p = num q)).map fun q => (p, q)
  | [] => rfl
  | p :: qs => by
    rw [List.findSome?_cons, ← foldS_st2]
    cases h : foldS (st2 num p) none ps with
    | none =>
      have : st1 num ps none p = (none, true) := by simp [st1, h]
      simp [foldS, this, foldS_st1 num ps qs]
    | some v =>
      have : st1 num ps none p = (some v, false) := by simp [st1, h]
      simp [foldS, this]
theorem tw_eq (num : Pr → Int) (ps : List Pr) : tw num ps = ps.findSome? fun p => (ps.find? fun q => decide (p ≠ q ∧ num p = num q)).map fun q => (p, q) := foldS_st1 num ps ps
theorem tw_none {num : Pr → Int} {ps : List Pr} : tw num ps = none ↔ ∀ p ∈ ps, ∀ q ∈ ps, p ≠ q → num p ≠ num q := by
  rw [tw_eq, List.findSome?_eq_none_iff]
  simp only [Option.map_eq_none_iff, List.find?_eq_none, decide_eq_true_eq, not_and]
end Go.Proofs.YtdcpkgedaflnmaaDoor.Xs
namespace Go.Proofs.YtdcpkgedaflnmaaDoor.Bt
open Go Fw Rp Xs

theorem perB_iff {l : List UInt8} {p : Nat} (hp : p ≤ l.length) : perB l p = true ↔ ∀ i, i + p < l.length → l[i + p]? = l[i]? := by
  unfold perB pf
  simp only [List.length_drop, Bool.and_eq_true, decide_eq_true_eq]
  constructor
  · rintro ⟨_, h⟩ i hi
    have := congrArg (fun l : List UInt8 => l[i]?) h
    simp only [List.getElem?_take, List.getElem?_drop] at this
    rw [if_pos (by omega)] at this
    rw [this, Nat.add_comm]
  · intro h
    refine ⟨by omega, ?_⟩
    apply List.ext_getElem?
    intro i
    simp only [List.getElem?_take, List.getElem?_drop]
    by_cases hi : i + p < l.length
    · rw [if_pos (by omega), ← h i hi, Nat.add_comm]
    · rw [if_neg (by omega), List.getElem?_eq_none (by omega)]
/-- a rule from 0 to z -/
structure IsR (L : List Int) (z : Nat) : Prop where
  two : 2 ≤ L.length
  five : L.length ≤ 5
  asc : L.Pairwise (· < ·)
  hd : L.getD 0 0 = 0
  ls : L.getD (L.length - 1) 0 = (z : Int)
  le : z ≤ 22
theorem IsR.lt {L : List Int} {z : Nat} (h : IsR L z) {i j : Nat} (hij : i < j) (hj : j < L.length) : L.getD i 0 < L.getD j 0 := by
  rw [getD_of (by omega), getD_of hj]
  exact List.pairwise_iff_getElem.1 h.asc i j (by omega) hj hij
theorem IsR.z1 {L : List Int} {z : Nat} (h : IsR L z) : 1 ≤ z := by
  have := h.lt (i := 0) (j := L.length - 1) (by have := h.two; omega) (by have := h.two; omega)
  rw [h.hd, h.ls] at this
  omega
theorem IsR.at {L : List Int} {z : Nat} (h : IsR L z) {x : Int} (hx : x ∈ L) : ∃ j, j < L.length ∧ L.getD j 0 = x := by
  obtain ⟨j, hj, e⟩ := List.mem_iff_getElem.1 hx
  exact ⟨j, hj, by rw [getD_of hj]; exact e⟩
theorem IsR.bd {L : List Int} {z : Nat} (h : IsR L z) {x : Int} (hx : x ∈ L) : 0 ≤ x ∧ x ≤ z := by
  obtain ⟨j, hj, e⟩ := h.at hx
  have h2 := h.two
  constructor
  · rcases Nat.eq_zero_or_pos j with rfl | hp
    · rw [← e, h.hd]; omega
    · have := h.lt hp hj; rw [h.hd, e] at this; omega
  · rcases Nat.lt_or_ge j (L.length - 1) with hp | hp
    · have := h.lt hp (by omega); rw [h.ls, e] at this; omega
    · rw [← e, show j = L.length - 1 by omega, h.ls]; omega
theorem IsR.ok {L : List Int} {z : Nat} (h : IsR L z) : OkL L := ⟨h.two, by have := h.five; omega, fun n hn => by have := h.bd hn; have := h.le; omega, h.asc⟩
theorem IsR.m0 {L : List Int} {z : Nat} (h : IsR L z) : (0 : Int) ∈ L := by
  have h2 := h.two
  have := h.hd
  rw [getD_of (by omega)] at this
  rw [← this]
  exact List.getElem_mem _
theorem IsR.mz {L : List Int} {z : Nat} (h : IsR L z) : (z : Int) ∈ L := by
  have h2 := h.two
  have := h.ls
  rw [getD_of (by omega)] at this
  rw [← this]
  exact List.getElem_mem _
/-- the figure at a place -/
def fig (L : List Int) (p : Nat) : UInt8 := if (p : Int) ∈ L then 98 else 97
def bdL (L : List Int) (n : Nat) : List UInt8 := (List.range n).map (fig L)
theorem bd_len (L : List Int) (n : Nat) : (bdL L n).length = n := by simp [bdL]
theorem bd_get {L : List Int} {n p : Nat} (h : p < n) : (bdL L n)[p]? = some (fig L p) := by simp [bdL, h]
theorem fig_b {L : List Int} {p : Nat} : fig L p = 98 ↔ (p : Int) ∈ L := by
  unfold fig
  split
  · rename_i h; exact ⟨fun _ => h, fun _ => rfl⟩
  · rename_i h; exact ⟨fun e => absurd e (by decide), fun e => absurd e h⟩
theorem bd_isB {L : List Int} {n : Nat} (h1 : 1 ≤ n) (h2 : n ≤ 24) : IsB (bdL L n) := by
  refine ⟨fun e => ?_, by rw [bd_len]; exact h2, fun c hc => ?_⟩
  · have := bd_len L n
    rw [e] at this
    simp at this
    omega
  · simp only [bdL, List.mem_map] at hc
    obtain ⟨p, _, rfl⟩ := hc
    unfold fig
    split <;> decide
section
variable {L : List Int} {z : Nat} (h : IsR L z)
include h
theorem per_cross {x : Nat} (hx : x ≤ z) (hp : perB (bdL L (z + 1)) x = true) : (x : Int) ∈ L ∧ ((z - x : Nat) : Int) ∈ L := by
  have hq := (perB_iff (by rw [bd_len]; omega)).1 hp
  rw [bd_len] at hq
  constructor
  · have := hq 0 (by omega)
    rw [bd_get (by omega), bd_get (by omega), fig_b.2 h.m0] at this
    injection this with this
    rw [Nat.zero_add] at this
    exact fig_b.1 this
  · have := hq (z - x) (by omega)
    rw [bd_get (by omega), bd_get (by omega), show z - x + x = z by omega, fig_b.2 h.mz] at this
    injection this with this
    exact fig_b.1 this.symm
theorem per_dist {x : Nat} (h1 : 1 ≤ x) (hx : x ≤ z) (hp : perB (bdL L (z + 1)) x = true) : measB L (x : Int) = true := by
  obtain ⟨j, hj, e⟩ := h.at (per_cross h hx hp).1
  rw [measB_iff]
  have hj0 : 0 < j := by
    rcases Nat.eq_zero_or_pos j with rfl | hp
    · rw [h.hd] at e; omega
    · exact hp
  refine ⟨0, j, hj0, hj, ?_⟩
  have h0 := h.hd
  rw [getD_of (by omega)] at h0 e
  rw [h0, e]
  omega
theorem per_z : perB (bdL L (z + 1)) z = true := by
  rw [perB_iff (by rw [bd_len]; omega), bd_len]
  intro i hi
  obtain rfl : i = 0 := by omega
  rw [bd_get (by omega), bd_get (by omega), Nat.zero_add, fig_b.2 h.m0, fig_b.2 h.mz]
omit h in
theorem per_n : perB (bdL L (z + 1)) (z + 1) = true := by
  rw [perB_iff (by rw [bd_len]; omega), bd_len]
  intro i hi
  omega
theorem per_clear (hc : tw (dsN L) (resF L.length 0) = none) {x : Nat} (h1 : 1 ≤ x) (hx : x < z) : perB (bdL L (z + 1)) x = false := by
  rw [Bool.eq_false_iff]
  intro hp
  obtain ⟨m1, m2⟩ := per_cross h (by omega) hp
  obtain ⟨j, hj, e⟩ := h.at m1
  obtain ⟨k, hk, f⟩ := h.at m2
  have h2 := h.two
  have hj0 : 0 < j := by
    rcases Nat.eq_zero_or_pos j with rfl | hp
    · rw [h.hd] at e; omega
    · exact hp
  have hjl : j ≠ L.length - 1 := fun e2 => by rw [e2, h.ls] at e; omega
  have hkl : k < L.length - 1 := by
    rcases Nat.lt_or_ge k (L.length - 1) with h3 | h3
    · exact h3
    · rw [show k = L.length - 1 by omega, h.ls] at f; omega
  have := tw_none.1 hc (0, j) (mem_resF.2 ⟨hj0, hj⟩) (k, L.length - 1) (mem_resF.2 ⟨hkl, by simp only; omega⟩) (fun e2 => by
    injection e2 with _ e3
    exact hjl e3)
  apply this
  simp only [dsN]
  rw [e, f, h.hd, h.ls]
  omega
/-- what the border repeats after -/
theorem per_all : perL (bdL L (z + 1)) = perK (bdL L (z + 1)) z ++ [(z : Int), ((z + 1 : Nat) : Int)] := by
  have h1 := h.z1
  unfold perL
  rw [bd_len, perK_succ _ (by omega), if_pos per_n, perK_succ _ h1, if_pos (per_z h), List.append_assoc]
  rfl
omit h in
theorem mem_perK {x : Int} (hx : x ∈ perK (bdL L (z + 1)) z) : ∃ p : Nat, x = (p : Int) ∧ 1 ≤ p ∧ p < z ∧ perB (bdL L (z + 1)) p = true := by
  unfold perK at hx
  simp only [List.mem_map, List.mem_filter, List.mem_range, Bool.and_eq_true, decide_eq_true_eq] at hx
  obtain ⟨p, ⟨h1, h2, h3⟩, rfl⟩ := hx
  exact ⟨p, rfl, h2, h1, h3⟩
theorem perK_clear (hc : tw (dsN L) (resF L.length 0) = none) : perK (bdL L (z + 1)) z = [] := by
  rw [List.eq_nil_iff_forall_not_mem]
  intro x hx
  obtain ⟨p, rfl, h1, h2, h3⟩ := mem_perK hx
  rw [per_clear h hc h1 h2] at h3
  cases h3
theorem len_z : lenN L = (z : Int) := by
  unfold lenN
  rw [h.ls, h.hd]
  omega
/-- whatever it repeats after is a distance -/
theorem per_wi {x : Int} (hx : x ∈ perK (bdL L (z + 1)) z ++ [(z : Int)]) : x ∈ wiL L true := by
  have key : ∃ p : Nat, x = (p : Int) ∧ 1 ≤ p ∧ p ≤ z ∧ perB (bdL L (z + 1)) p = true := by
    rcases List.mem_append.1 hx with hx | hx
    · obtain ⟨p, e, h1, h2, h3⟩ := mem_perK hx
      exact ⟨p, e, h1, by omega, h3⟩
    · exact ⟨z, by simpa using hx, h.z1, Nat.le_refl _, per_z h⟩
  obtain ⟨p, rfl, h1, h2, h3⟩ := key
  unfold wiL
  rw [len_z h]
  simp only [List.mem_map, List.mem_filter, List.mem_range'_1, decide_eq_true_eq]
  exact ⟨p, ⟨⟨h1, by omega⟩, per_dist h h1 h2 h3⟩, rfl⟩
end
end Go.Proofs.YtdcpkgedaflnmaaDoor.Bt
set_option linter.unusedVariables false
set_option linter.unusedSimpArgs false
namespace Go.Proofs.YtdcpkgedaflnmaaDoor.Bt
open Go Fw Rp Xs

theorem p26 (b : ByteArray) : PCall Tryd.prog 26 [.str b] (.fn (.func 51) [] [.ptr (.str b)]) := by
  refine PCall.of CtxOk.nil ok26 (by simp) rfl fun hs hb => ?_
  simp [A26, R26, show (AV.str b).sto = true from rfl, show (AV.fn (Fn.func 51) [] [(AV.str b).ptr]).share = AV.fn (Fn.func 51) [] [(AV.str b).ptr] from rfl]
theorem p7 {l : List UInt8} (h : IsB l) : PCall Tryd.prog 7 [.str (bs l)] (.tup [outV 1 (ints (perL l)), .int .i64 0]) := by
  obtain ⟨C1, hC1, k24, _⟩ := ctx_pt CtxOk.nil 24 _ _ (p24 h)
  obtain ⟨C2, hC2, k26, n2⟩ := ctx_pt hC1 26 _ _ (p26 (bs l))
  obtain ⟨C, hC, k25, n3⟩ := ctx_pt hC2 25 _ _ (p25 h)
  have k24 : C 24 [.str (bs l)] = some (.int .i64 0) := by rw [n3 24 (by decide), n2 24 (by decide)]; exact k24
  have k26 : C 26 [.str (bs l)] = some (.fn (.func 51) [] [.ptr (.str (bs l))]) := by rw [n3 26 (by decide)]; exact k26
  refine PCall.of hC ok7 (by simp) (by simp [AV.plain, plainL, outI_plain]) fun hs hb => ?_
  simp [A7, R7, k24, k26, k25, outI_share]
/-- one more letter -/
theorem bd_succ (L : List Int) (n : Nat) : bdL L (n + 1) = bdL L n ++ [fig L n] := by simp [bdL, List.range_succ]
theorem p8 {x : AV} {L : List Int} (hx : asI x = some L) {n : Nat} (hn : n ≤ 1000) : PCall Tryd.prog 8 [x, .int .i64 (n : Int)] (.str (bs (bdL L n))) := by
  have hl := alen_of hx
  have hlen := asI_len hx
  refine PCall.of CtxOk.nil ok8 (by simp) rfl fun hs hb => ?_
  simp [A8, R8]
  refine At.loop (fun (i : Nat) s => i ≤ n ∧ s.env 0 = x ∧ s.env 1 = .int .i64 (n : Int) ∧ s.env 5 = .str (bs (bdL L i)) ∧ s.env 6 = .int .i64 (i : Int)) (fun i => n - i) 0 ?_ ?_
  · simp [bdL]
  rintro N i s hN ⟨hi, e0, e1, e5, e6⟩
  by_cases hlt : i < n
  · have hlt' : (i : Int) < (n : Int) := by omega
    have wi := wrap_nat1 (show i < _ by omega)
    simp [e0, e1, e6, hlt', hl]
    refine At.loop (fun (j : Nat) s => j ≤ L.length ∧ s.env 0 = x ∧ s.env 1 = .int .i64 (n : Int) ∧ s.env 5 = .str (bs (bdL L i)) ∧ s.env 6 = .int .i64 (i : Int) ∧ s.env 15 = x ∧ s.env 16 = .int .i64 (L.length : Int) ∧ s.env 17 = .int .i64 (j : Int) ∧
      s.env 7 = .str (bs [if (i : Int) ∈ L.take j then 98 else 97])) (fun j => L.length - j) 0 ?_ ?_
    · simp [e0, e1, e5, e6]
    rintro N2 j s hN2 ⟨hj, e0, e1, e5, e6, e15, e16, e17, e7⟩
    by_cases hjl : j < L.length
    · have hjl' : (j : Int) < (L.length : Int) := by omega
      have wj := wrap_nat1 (show j < _ by omega)
      have hix := aidx_nat hx (i := j) hjl (k := .i64)
      have hmm := mem_take_succ hjl (x := (i : Int))
      obtain ⟨V, hV⟩ : ∃ V, V = L[j] := ⟨_, rfl⟩
      rw [← hV] at hix hmm
      by_cases hm : V = (i : Int)
      · simp [e15, e16, e17, hjl', hix, e6, hm, wj]
        refine hN2 (j + 1) _ (by omega) ⟨hjl, by simp [e0], by simp [e1], by simp [e5], by simp [e6], by simp [e15], by simp [e16], by simp [wj], ?_⟩
        rw [if_pos (hmm.2 (.inr hm.symm))]
        simp
      · simp [e15, e16, e17, hjl', hix, e6, hm, wj]
        refine hN2 (j + 1) _ (by omega) ⟨hjl, by simp [e0], by simp [e1], by simp [e5], by simp [e6], by simp [e15], by simp [e16], by simp [wj], ?_⟩
        have : ((i : Int) ∈ L.take (j + 1)) ↔ ((i : Int) ∈ L.take j) := ⟨fun h => (hmm.1 h).resolve_right fun e => hm e.symm, fun h => hmm.2 (.inl h)⟩
        by_cases hi2 : (i : Int) ∈ L.take j
        · rw [if_pos (this.2 hi2)]
          rw [if_pos hi2] at e7
          simp [e7]
        · rw [if_neg fun h => hi2 (this.1 h)]
          rw [if_neg hi2] at e7
          simp [e7]
    · have hjl' : ¬ (j : Int) < (L.length : Int) := by omega
      obtain rfl : j = L.length := by omega
      rw [List.take_length] at e7
      have e7' : s.env 7 = .str (bs [fig L i]) := e7
      have ad : abin 0 .add (.str (bs (bdL L i))) (.str (bs [fig L i])) = some (.str (bs (bdL L (i + 1)))) := by
        rw [bd_succ]
        exact abin_sadd (by rw [bd_len]; simp; omega)
      simp [e16, e17, e5, e7', ad, e6, wi]
      exact hN (i + 1) _ (by omega) ⟨by omega, by simp [e0], by simp [e1], by simp, by simp [wi]⟩
  · have hlt' : ¬ (i : Int) < (n : Int) := by omega
    obtain rfl : i = n := by omega
    simp [e1, e5, e6]
end Go.Proofs.YtdcpkgedaflnmaaDoor.Bt
set_option linter.unusedVariables false
set_option linter.unusedSimpArgs false
namespace Go.Proofs.YtdcpkgedaflnmaaDoor.Bt
open Go Fw Rp Xs

def lastI (L : List Int) : Int := L.getD (L.length - 1) 0
def rl (es : List Int) : Nat → List Int
  | 0 => [0]
  | i + 1 => if (rl es i).length < 5 ∧ lastI (rl es i) + 1 + Se.gI es i % 7 ≤ 22 then rl es i ++ [lastI (rl es i) + 1 + Se.gI es i % 7] else rl es i
def rulL (es : List Int) : List Int := if (rl es es.length).length < 2 then rl es es.length ++ [2] else rl es es.length
theorem rl_stop {es : List Int} {i : Nat} (h : ¬ (rl es i).length < 5) : ∀ d, rl es (i + d) = rl es i
  | 0 => rfl
  | d + 1 => by
    have ih := rl_stop h d
    rw [← Nat.add_assoc]
    simp only [rl, ih]
    rw [if_neg fun k => h k.1]
/-- a rule under way -/
structure RlI (L : List Int) : Prop where
  one : 1 ≤ L.length
  five : L.length ≤ 5
  asc : L.Pairwise (· < ·)
  hd : L.getD 0 0 = 0
  top : ∀ n ∈ L, n ≤ lastI L
  lo : 0 ≤ lastI L
  le : lastI L ≤ 22
theorem lastI_snoc (L : List Int) (p : Int) : lastI (L ++ [p]) = p := by simp [lastI, List.getD_eq_getElem?_getD]
theorem RlI.push {L : List Int} (h : RlI L) (h5 : L.length < 5) {p : Int} (h1 : lastI L < p) (h2 : p ≤ 22) : RlI (L ++ [p]) := by
  have ho := h.one
  refine ⟨by simp, by simp; omega, ?_, ?_, ?_, ?_, ?_⟩
  · rw [List.pairwise_append]
    refine ⟨h.asc, by simp, fun a ha b hb => ?_⟩
    rw [List.mem_singleton.1 hb]
    have := h.top a ha
    omega
  · have := h.hd
    rw [List.getD_eq_getElem?_getD] at this ⊢
    rw [List.getElem?_append_left (by omega)]
    exact this
  · intro n hn
    rw [lastI_snoc]
    rcases List.mem_append.1 hn with hn | hn
    · have := h.top n hn; omega
    · rw [List.mem_singleton.1 hn]; exact Int.le_refl _
  · rw [lastI_snoc]; have := h.lo; omega
  · rw [lastI_snoc]; exact h2
theorem rl_ok {es : List Int} (hb : ∀ a ∈ es, 0 ≤ a ∧ a ≤ 255) : ∀ i, RlI (rl es i)
  | 0 => by
    show RlI [0]
    exact ⟨by decide, by decide, by simp, rfl, by decide, by decide, by decide⟩
  | i + 1 => by
    have ih := rl_ok hb i
    simp only [rl]
    split
    · rename_i h
      have h0 : 0 ≤ Se.gI es i % 7 := Int.emod_nonneg _ (by decide)
      exact ih.push h.1 (by omega) h.2
    · exact ih
theorem rul_ok {es : List Int} (hb : ∀ a ∈ es, 0 ≤ a ∧ a ≤ 255) : ∃ z : Nat, IsR (rulL es) z := by
  have h := rl_ok hb es.length
  have key : ∀ L, RlI L → 2 ≤ L.length → ∃ z : Nat, IsR L z := fun L h h2 => ⟨(lastI L).toNat, h2, h.five, h.asc, h.hd, by
    have := h.lo
    show lastI L = _
    omega, by have := h.le; omega⟩
  unfold rulL
  split
  · rename_i h2
    refine key _ ?_ (by have := h.one; simp; omega)
    refine h.push (by omega) ?_ (by decide)
    -- a rule of one cross is [0]
    have h1 : (rl es es.length).length = 1 := by have := h.one; omega
    have : lastI (rl es es.length) = 0 := by
      unfold lastI
      rw [h1]
      exact h.hd
    omega
  · exact key _ h (by omega)
theorem sh_ints (l : List Int) : shareL (ints l) = ints l := by
  induction l with
  | nil => rfl
  | cons a l ih => simp only [ints, List.map_cons, shareL] at ih ⊢; rw [ih]; rfl
/-- a list that may be appended to, whether just built or not -/
def LR (hs : HS) (v : AV) (L : List Int) : Prop := (v = .sl 1 (ints L) .exact ∧ L.length = 1) ∨ Outs 1 hs v (ints L)
theorem LR.as {hs : HS} {v : AV} {L : List Int} (h : LR hs v L) (hl : L.length ≤ 1000) : asI v = some L := by
  rcases h with ⟨rfl, h1⟩ | h
  · exact asI_sl (by omega)
  · exact h.asI (by omega)
theorem LR.cong {hs hs' : HS} {v : AV} {L : List Int} (h : LR hs v L) (h1 : hs'.tok = hs.tok) (h2 : hs'.nt = hs.nt) : LR hs' v L := h.imp id fun h => h.cong h1 h2
theorem LR.add {hs : HS} {v : AV} {L : List Int} (h : LR hs v L) (hl : L.length ≤ 1000) (n : Int) :
    ∃ y hs', aappend 1 hs v (.sl 1 [.int .i64 n] .exact) = some (y, hs') ∧ LR hs' y (L ++ [n]) := by
  rcases h with ⟨rfl, h1⟩ | h
  · obtain ⟨hs', a1, a2, a3, a4, a5⟩ := append_exact (sz := 1) (hs := hs) (xs := ints L) (q := .sl 1 [.int .i64 n] .exact) (ys := [.int .i64 n]) (asV_sl (by simp)) (by simp [ints]; omega) (by simp)
    have e : ints L ++ [AV.int .i64 n] = ints (L ++ [n]) := by simp [ints]
    rw [e] at a1
    refine ⟨_, hs', a1, .inr ⟨⟨a2, by omega⟩, ?_⟩⟩
    rw [outV_ne (by simp [ints])]
    show AV.sl 1 (shareL (ints _)) .shared = _
    rw [sh_ints]
  · obtain ⟨y, hs', a1, a2, a3⟩ := h.add1 (by omega) n
    exact ⟨y, hs', a1, .inr a2⟩
theorem LR.sh {hs : HS} {v : AV} {L : List Int} (h : LR hs v L) (hne : 2 ≤ L.length) : v.share = outV 1 (ints L) := by
  rcases h with ⟨rfl, h1⟩ | h
  · omega
  · exact h.sh
theorem p6 {x : AV} {es : List Int} (hx : Se.IsU8 x es) (hml : es.length ≤ maxLen) : PCall Tryd.prog 6 [x, .int .i64 7, .int .i64 22] (outV 1 (ints (rulL es))) := by
  have hal := hx.len
  refine PCall.of CtxOk.nil ok6 (by simp) (outI_plain _) fun hs hb => ?_
  simp only [A6, R6]
  rw [At.awp_seq]
  simp [-At.awp_seq]
  rw [At.awp_seq]
  have s0 : astoAll 1 [AV.int .i64 0] = true := rfl
  simp [s0, -At.awp_seq]
  rw [At.awp_seq]
  refine At.cut (fun s => LR s.hs (s.env 7) (rl es es.length)) ?_ ?_
  · simp
    refine At.loop (fun (i : Nat) s => i ≤ es.length ∧ s.env 0 = x ∧ s.env 1 = .int .i64 7 ∧ s.env 2 = .int .i64 22 ∧ LR s.hs (s.env 7) (rl es i) ∧ s.env 8 = .int .i64 (i : Int)) (fun i => es.length - i) 0 ?_ ?_
    · simp
      exact .inl ⟨rfl, rfl⟩
    rintro N i s hN ⟨hi, e0, e1, e2, e7, e8⟩
    have hr := rl_ok hx.2 i
    have h5 := hr.five
    have has := e7.as (by omega)
    have hl := alen_of has
    obtain ⟨L, hL⟩ : ∃ L, L = rl es i := ⟨_, rfl⟩
    have hst : rl es (i + 1) = if L.length < 5 ∧ lastI L + 1 + Se.gI es i % 7 ≤ 22 then L ++ [lastI L + 1 + Se.gI es i % 7] else L := by rw [hL]; rfl
    have hsp : ¬ L.length < 5 → rl es es.length = L := fun h => by
      have := rl_stop (es := es) (i := i) (by rw [← hL]; exact h) (es.length - i)
      rw [show i + (es.length - i) = es.length by omega] at this
      rw [this, hL]
    rw [← hL] at hr h5 has hl e7
    have hone := hr.one
    by_cases hlt : i < es.length
    · have hlt' : (i : Int) < (es.length : Int) := by omega
      by_cases hl5 : L.length < 5
      · have hl5' : (L.length : Int) < 5 := by omega
        have hix := hx.get hlt
        have hbd := hx.2 (Se.gI es i) (by rw [Se.gI_of hlt]; exact List.getElem_mem _)
        obtain ⟨a, ha⟩ : ∃ a : Nat, Se.gI es i = (a : Int) := ⟨(Se.gI es i).toNat, by omega⟩
        have wc : IntKind.i64.wrap (a : Int) = (a : Int) := by rw [← ha]; exact wrap8 hbd.1 hbd.2
        obtain ⟨r, hr7⟩ : ∃ r, r = a % 7 := ⟨_, rfl⟩
        have hri : r < 7 := by rw [hr7]; exact Nat.mod_lt _ (by decide)
        have t1 : (a : Int).tmod 7 = (r : Int) := by rw [Int.tmod_eq_emod_of_nonneg (by omega), hr7]; exact (Int.natCast_emod a 7).symm
        have hm : Se.gI es i % 7 = (r : Int) := by rw [ha, hr7]; exact (Int.natCast_emod a 7).symm
        have wl : IntKind.i64.wrap ((L.length : Int) - 1) = ((L.length - 1 : Nat) : Int) := by rw [wrap64 (by omega) (by omega)]; omega
        have hil := aidx_nat has (i := L.length - 1) (by omega) (k := .i64)
        have hla : L[L.length - 1] = lastI L := (getD_of (by omega)).symm
        rw [hla] at hil
        have h0 := hr.lo
        have h22 := hr.le
        rw [ha] at hix
        rw [hm] at hst
        obtain ⟨q, hq⟩ : ∃ q : Int, q = lastI L := ⟨_, rfl⟩
        rw [← hq] at hil h0 h22 hst
        have w1 : IntKind.i64.wrap (q + 1) = q + 1 := wrap64 (by omega) (by omega)
        have w2 : IntKind.i64.wrap (q + 1 + (r : Int)) = q + 1 + (r : Int) := wrap64 (by omega) (by omega)
        have wi := wrap_nat1 (n := i) (by simp only [maxLen] at hml; omega)
        generalize ((L.length - 1 : Nat) : Int) = m at *
        by_cases hle : q + 1 + (r : Int) ≤ 22
        · rw [if_pos ⟨hl5, hle⟩] at hst
          obtain ⟨y, hs', a1, a2⟩ := e7.add (by omega) (q + 1 + (r : Int))
          have s1 : astoAll 1 [AV.int .i64 (q + 1 + (r : Int))] = true := rfl
          simp [e0, e1, e2, e8, hal, hlt', hl, hl5', wl, hil, hix, wc, t1, w1, w2, hle, s1, a1, wi]
          refine hN (i + 1) _ (by omega) ⟨by omega, by simp [e0], by simp [e1], by simp [e2], ?_, by simp [wi]⟩
          rw [hst]
          simpa using a2
        · rw [if_neg fun h => hle h.2] at hst
          simp [e0, e1, e2, e8, hal, hlt', hl, hl5', wl, hil, hix, wc, t1, w1, w2, hle, wi]
          refine hN (i + 1) _ (by omega) ⟨by omega, by simp [e0], by simp [e1], by simp [e2], ?_, by simp [wi]⟩
          rw [hst]
          simpa using e7
      · have hl5' : ¬ (L.length : Int) < 5 := by omega
        simp [e0, e8, hal, hlt', hl, hl5']
        rw [hsp hl5]
        exact e7.cong rfl rfl
    · obtain rfl : i = es.length := by omega
      simp [e0, e8, hal]
      rw [hL] at e7
      exact e7.cong rfl rfl
  rintro s e7
  have hr := rl_ok hx.2 es.length
  have h5 := hr.five
  have hone := hr.one
  have has := e7.as (by omega)
  have hl := alen_of has
  show At _
  obtain ⟨L, hL⟩ : ∃ L, L = rl es es.length := ⟨_, rfl⟩
  unfold rulL
  rw [← hL] at hr h5 hone has hl e7 ⊢
  by_cases h2 : L.length < 2
  · have h2' : (L.length : Int) < 2 := by omega
    obtain ⟨y, hs', a1, a2⟩ := e7.add (by omega) 2
    have s1 : astoAll 1 [AV.int .i64 2] = true := rfl
    have hsh := a2.sh (by simp; omega)
    rw [if_pos h2]
    simp [hl, h2', s1, a1, hsh]
  · have h2' : ¬ (L.length : Int) < 2 := by omega
    have hsh := e7.sh (by omega)
    rw [if_neg h2]
    simp [hl, h2', hsh]
end Go.Proofs.YtdcpkgedaflnmaaDoor.Bt
