/-
  The check of a border: a walk of the kit's make. Own work.
  The periods of a border, as an iterator: walks of the kit's make. Own work.
  The periods of a border, collected: walks of the kit's make, after its worked caller that collects. Own work.
-/
import Derived.Test.YtdcpkgedaflnmaaDoorProg
import Derived.Test.YtdcpkgedaflnmaaDoorFx4
import Derived.Tactics
import Derived.Tactics2
import Derived.StillTactics
import Derived.Laws.RangeString
import Derived.Laws.RangeAny
import Derived.Laws.Strings
import Derived.Laws.Strings2
import Derived.Laws.Strings3
import Derived.Laws.World
import Derived.Laws.Sem
import Derived.Laws.Small
import Derived.LoopTactic
import Derived.KernelRfl
import Derived.RangeFuncNested
import Derived.RangeFuncBound
import Derived.RangeFuncCalls
import Derived.RangeFuncLeaves
import Derived.RangeFuncKeeps
import Derived.Shelf.Abstract
import Derived.WalkKit
import Derived.OwnWalkIn
import Derived.TacticsInMore
import Derived.LoopNIn
import Derived.LoopIn
import Derived.RegionIn
import Derived.Stop.RegionWithIn
import Derived.BigRegionIn
import Derived.Sort.QuietIn
import Derived.RangeFuncBox
import Derived.Maps.AppendAt
import Derived.Test.YtdcpkgedaflnmaaDoorFx5
set_option linter.unusedVariables false
set_option linter.unusedSimpArgs false
namespace Go.Proofs.YtdcpkgedaflnmaaDoor.Rp
open Go Fw Go.RowKit

/-- a border -/
structure IsB (l : List UInt8) : Prop where
  ne : l ≠ []
  le : l.length ≤ 24
  az : ∀ c ∈ l, 97 ≤ c.toNat ∧ c.toNat ≤ 122
theorem IsB.get {l : List UInt8} (h : IsB l) {i : Nat} (hi : i < (bs l).size) : 97 ≤ ((bs l)[i]'hi).toNat ∧ ((bs l)[i]'hi).toNat ≤ 122 := by
  have : (bs l)[i]'hi = l[i]'(by rwa [bs_size] at hi) := rfl
  rw [this]
  exact h.az _ (List.getElem_mem _)
set_option maxRecDepth 1000000 in
theorem walk24 {l : List UInt8} (h : IsB l) (w : World) : Calls Tryd.prog 24 #[.string (bs l)] w fun e w' => e = .returned (.int .i64 0) ∧ Below w.heap.size w w' := by
  have hsz : (bs l).size = l.length := bs_size l
  have hemp : (bs l).toList.isEmpty = false := by
    rw [ByteArray.toList_eq]
    have := h.ne
    cases l with
    | nil => exact absurd rfl this
    | cons c l => rfl
  have hlt : ¬ (24 : Int) < (l.length : Int) := by have := h.le; omega
  go_enter Tryd.func24, Tryd.ntmps24
  go_wp2
  go_loopw [4] (fun _ w' => ∃ pos, w' = w.iter (bs l) pos) (fun _ w' => (bs l).size - w'.iterPos w.heap.size)
  case atStart => exact ⟨0, rfl⟩
  case round =>
    obtain ⟨pos, rfl⟩ := hrel
    by_cases hp : pos < (bs l).size
    · obtain ⟨b1, b2⟩ := h.get hp
      have hnx : ∀ ty, (Instr.next (.pointer (some ⟨w.heap.size, 0, none⟩)) true ty).run Tryd.prog (w.iter (bs l) pos) = _ := fun ty => run_next_ascii w (bs l) pos ty hp (by omega)
      go_wp2
      go_roundw
      case rel => exact ⟨pos + 1, rfl⟩
      case measure =>
        simp
        omega
    · have hnx : ∀ ty, (Instr.next (.pointer (some ⟨w.heap.size, 0, none⟩)) true ty).run Tryd.prog (w.iter (bs l) pos) = _ := fun ty => run_next_end w (bs l) pos ty hp
      go_wp2
      go_ret
      exact ⟨rfl, (Below.refl _ w).alloc (Nat.le_refl _) _⟩
end Go.Proofs.YtdcpkgedaflnmaaDoor.Rp
set_option linter.unusedVariables false
set_option linter.unusedSimpArgs false
namespace Go.Proofs.YtdcpkgedaflnmaaDoor.Rp
open Go Fw Go.RowKit Go.Shelf
attribute [local go_sem] Oper.semAt_some

/-- whether one string begins with another one -/
def pf (a b : List UInt8) : Bool := decide (b.length ≤ a.length) && decide (a.take b.length = b)
theorem ext_list (a : List UInt8) (i j : Nat) : ((bs a).extract i j).toList = (a.take j).drop i := by
  rw [ByteArray.toList_eq, ByteArray.data_extract]
  simp [bs, List.extract_eq_take_drop, List.drop_take]
theorem bs_ext (a : List UInt8) (i j : Nat) : (bs a).extract i j = bs ((a.take j).drop i) := by
  rw [← ext_list, ByteArray.toList_eq, bs_of]
theorem bs_toList (a : List UInt8) : (bs a).toList = a := by rw [ByteArray.toList_eq]; rfl
set_option maxRecDepth 1000000 in
theorem walk85 (a b : List UInt8) (w : World) : Calls Tryd.prog 85 #[.string (bs a), .string (bs b)] w fun e w' => e = .returned (.bool (pf a b)) ∧ w' = w := by
  have ha : (bs a).size = a.length := bs_size a
  have hb : (bs b).size = b.length := bs_size b
  go_enter Tryd.func85, Tryd.ntmps85
  go_wp2
  · rename_i h
    have e : pf a b = (((bs a).extract 0 b.length).toList == (bs b).toList) := by
      rw [ext_list, bs_toList, List.drop_zero]
      rw [Bool.eq_iff_iff]
      simp [pf, h]
    rw [← e]
    go_ret
    exact ⟨rfl, rfl⟩
  · rename_i h
    have e : pf a b = false := by simp [pf, h]
    go_ret
    rw [e]
    exact ⟨rfl, rfl⟩
set_option maxRecDepth 1000000 in
theorem walk52 (a b : List UInt8) (w : World) : Calls Tryd.prog 52 #[.string (bs a), .string (bs b)] w fun e w' => e = .returned (.bool (pf a b)) ∧ w' = w := by
  go_enter Tryd.func52, Tryd.ntmps52
  go_wp2_with (go_at_call 85; refine (walk85 a b _).mono ?_; rintro e w' ⟨rfl, rfl⟩)
  go_ret
  exact ⟨rfl, rfl⟩
/-- a period -/
def perB (l : List UInt8) (p : Nat) : Bool := pf l (l.drop p)
/-- the periods below a number -/
def perK (l : List UInt8) (k : Nat) : List Int := ((List.range k).filter fun p => decide (1 ≤ p) && perB l p).map fun (p : Nat) => Int.ofNat p
def perL (l : List UInt8) : List Int := perK l (l.length + 1)
theorem perK_succ (l : List UInt8) {k : Nat} (h : 1 ≤ k) : perK l (k + 1) = perK l k ++ (if perB l k = true then [(k : Int)] else []) := by
  unfold perK
  rw [List.range_succ, List.filter_append, List.map_append]
  congr 1
  by_cases hp : perB l k = true <;> simp [hp, h]
theorem perK_one (l : List UInt8) : perK l 1 = [] := by simp [perK, List.range_succ]
theorem perK_pre (l : List UInt8) {k n : Nat} (h : k ≤ n) : perK l k <+: perK l n := by
  obtain ⟨d, rfl⟩ : ∃ d, n = k + d := ⟨n - k, by omega⟩
  unfold perK
  rw [List.range_add, List.filter_append, List.map_append]
  exact List.prefix_append _ _
theorem perK_len (l : List UInt8) (k : Nat) : (perK l k).length ≤ k := by
  unfold perK
  rw [List.length_map]
  exact Nat.le_trans (List.length_filter_le _ _) (by simp)
/-- the cell of the border -/
def Cel (b o : Nat) (l : List UInt8) (W : World) : Prop := W.cell? ⟨b, o, none⟩ = some (.string (bs l))
def KpC (b o : Nat) (l : List UInt8) (W W' : World) : Prop := Cel b o l W → Cel b o l W'
set_option maxRecDepth 1000000 in
theorem walk51 {l : List UInt8} (hB : IsB l) (n b o lo : Nat) (J Jx : List Int → World → Prop)
    (hY : ∀ pre (x : Int) W, 1 ≤ x → x ≤ l.length → J pre W → pre.length < 25 → YieldAt Fence.wide (n - 1) Tryd.prog lo #[.int .i64 x] W fun e W' =>
      (e = .returned (.bool true) ∧ J (pre ++ [x]) W' ∧ KpC b o l W W') ∨ (e = .returned (.bool false) ∧ Jx (pre ++ [x]) W'))
    (W : World) (hJ : AbidesFrom W.heap.size J) (hc : Cel b o l W) (h0 : J [] W) :
    CallsIn Fence.wide n Tryd.prog 51 #[.func (.yield lo) #[] #[], .pointer (some ⟨b, o, none⟩)] W fun e W' => (∃ v, e = .returned v) ∧
      ((∃ ys, ys = perL l ∧ J ys W') ∨ (∃ pre, (pre <+: perL l ∧ pre ≠ []) ∧ Jx pre W')) := by
  have hsz : (bs l).size = l.length := bs_size l
  refine callsIn_of_wp Tryd.func51 rfl trivial ?_ rfl
  simp only [Tryd.ntmps51, List.size_toArray, List.length_cons, List.length_nil, Nat.reduceAdd, Nat.reduceSub, Array.replicate_succ, Array.replicate_zero, List.push_toArray, List.append_toArray, List.nil_append, List.cons_append]
  gi_wp2
  gi_loopw [3] (fun p wr => ∃ k : Nat, p = .int .i64 (k : Int) ∧ 1 ≤ k ∧ k ≤ l.length + 1 ∧ J (perK l k) wr ∧ Cel b o l wr)
    (fun p _ => l.length + 1 - (intOf p).toNat)
  case atStart => exact ⟨1, rfl, by omega, by omega, by rw [perK_one]; exact h0, hc⟩
  case round =>
    obtain ⟨k, rfl, hk1, hk2, hJk, hck⟩ := hrel
    by_cases hk : k ≤ l.length
    · have hk' : (k : Int) ≤ (l.length : Int) := by omega
      have hd : J (perK l k) wr.drew := hJ _ wr _ none hJk ⟨rfl, rfl, rfl, Nat.le_refl _, fun _ _ _ => rfl⟩ (fun r e => by cases e)
      have hcd : Cel b o l wr.drew := hck
      obtain ⟨fn, tmps, assign, body, hy, hR⟩ := hY (perK l k) (k : Int) wr.drew (by omega) hk' hd (by have := perK_len l k; have := hB.le; omega)
      unfold Cel at hck hcd
      have h52 : ∀ W : World, CallsIn Fence.wide (n - 1) Tryd.prog 52 #[.string (bs l), .string ((bs l).extract k l.length)] W fun e w' => e = .returned (.bool (perB l k)) ∧ w' = W := fun W => by
        have e : (bs l).extract k l.length = bs (l.drop k) := by rw [bs_ext, List.take_length]
        rw [e]
        exact callsIn_wide.2 (walk52 _ _ _)
      have hR2 : RoundIn Fence.wide (n - 1) Tryd.prog lo fn tmps assign body wr.drew fun e W' => ∃ t : Bool, e = .returned (.bool t) ∧ (t = true → J (perK l k ++ [(k : Int)]) W' ∧ Cel b o l W') ∧ (t = false → Jx (perK l k ++ [(k : Int)]) W') := by
        refine hR.mono ?_
        rintro e W' (⟨h1, h2, h3⟩ | ⟨h1, h2⟩)
        · exact ⟨true, h1, fun _ => ⟨h2, h3 hcd⟩, fun h => by cases h⟩
        · exact ⟨false, h1, (fun h => by cases h), fun _ => h2⟩
      clear hR
      have hw : RowKit.wrap64 ((k : Int) + 1) = ((k + 1 : Nat) : Int) := by have := hB.le; simp only [RowKit.wrap64]; omega
      have meas : l.length + 1 - (intOf (.int .i64 ((k + 1 : Nat) : Int))).toNat < l.length + 1 - (intOf (.int .i64 (k : Int))).toNat := by simp [intOf]; omega
      have stp : perB l k = true → perK l k ++ [(k : Int)] <+: perL l ∧ ¬ perK l k ++ [(k : Int)] = [] := fun hp => by
        have := perK_succ l hk1
        rw [if_pos hp] at this
        rw [← this]
        exact ⟨perK_pre l (by omega), by rw [this]; simp⟩
      by_cases hp : perB l k = true
      · gi_wp2
        rw [hp] at h52
        gi_region_with (first | (refine ⟨trivial, (fun h => (by cases h)), (h52 _).mono ?_⟩; rintro e w' ⟨rfl, rfl⟩) | (refine ⟨(fun h => (by cases h)), hR2.mono ?_⟩; rintro e W3 ⟨t, rfl, hZ⟩))
        all_goals cases t
        all_goals gi_wp2
        all_goals first
          | (refine bodyPost_ret (results_none rfl _ _ _) rfl ?_; exact ⟨⟨_, rfl⟩, .inr ⟨_, stp hp, hZ.2 trivial⟩⟩)
          | (rw [hw]; exact ⟨⟨k + 1, rfl, by omega, by omega, by rw [perK_succ l hk1, if_pos hp]; exact (hZ.1 rfl).1, (hZ.1 rfl).2⟩, meas⟩)
      · have hp' : perB l k = false := by simpa using hp
        rw [hp'] at h52
        gi_wp2
        first
          | gi_region_with (first | (refine ⟨trivial, (fun h => (by cases h)), (h52 _).mono ?_⟩; rintro e w' ⟨rfl, rfl⟩) | (refine ⟨(fun _ _ => trivial), ?_⟩))
          | fail
        all_goals gi_wp2
        all_goals (rw [hw]; exact ⟨⟨k + 1, rfl, by omega, by omega, by rw [perK_succ l hk1, if_neg hp, List.append_nil]; exact hd, hcd⟩, meas⟩)
    · have hk' : ¬ (k : Int) ≤ (l.length : Int) := by omega
      unfold Cel at hck
      gi_wp2
      go_end0
      have e : perL l = perK l k := by rw [perL, show l.length + 1 = k by omega]
      exact ⟨⟨_, rfl⟩, .inl (by rw [e]; exact hJk)⟩
end Go.Proofs.YtdcpkgedaflnmaaDoor.Rp
set_option linter.unusedVariables false
set_option linter.unusedSimpArgs false
namespace Go.Proofs.YtdcpkgedaflnmaaDoor.Rp
open Go Fw Go.RowKit Go.Shelf
attribute [local go_sem] Oper.semAt_some

theorem per_stops {l : List UInt8} (hB : IsB l) (n b o : Nat) (w : World) (hb : b < w.heap.size) (hc : Cel b o l w) :
    SeqStopsK Fence.wide n Tryd.prog 51 #[.pointer (some ⟨b, o, none⟩)] (fun x : Int => #[Value.int .i64 x]) (KpC b o l) (fun ys => ys = perL l) (fun pre => pre <+: perL l ∧ pre ≠ []) 25 w := fun lo J Jx W hW hJ _ hY h0 =>
  walk51 hB n b o lo J Jx (fun pre x W _ _ => hY pre x W) W hJ ((hW.cell (p := ⟨b, o, none⟩) hb).trans hc) h0
theorem kpC_b {b o : Nat} {l : List UInt8} {m : Nat} (W : World) (k : Nat) (u u' : Obj) (_ : m ≤ k) (h : W.heap[k]? = some u) (hc : u.isCells = false) (_ : u.isWalk = false) : KpC b o l W (W.putObj k u') := fun hcel => by
  unfold Cel at hcel ⊢
  have hne : b ≠ k := by
    rintro rfl
    unfold World.cell? at hcel
    simp only [h] at hcel
    cases u <;> first | (simp [Obj.isCells] at hc; done) | (simp at hcel; done)
  rw [← hcel]
  simp only [World.cell?, World.putObj_heap_other hne]
theorem kpC_below {b o n₀ : Nat} {l : List UInt8} {W W' : World} (h : b < n₀) (hb : Below n₀ W W') : KpC b o l W W' := fun hc => (hb.cell (p := ⟨b, o, none⟩) h).trans hc
theorem info3 : (Tryd.prog.info? 3).map (fun i => (i.zero, i.size, i.bytes)) = some (some (.int .i64 0), 1, 8) := by kernel_rfl
set_option maxRecDepth 100000 in
set_option maxHeartbeats 2000000 in
theorem walk50 {l : List UInt8} (hL : IsB l) (b o : Nat) (w : World) (hb : b < w.heap.size) (hcl : Cel b o l w) :
    CallsIn Fence.wide 8 Tryd.prog 50 #[.slice none 0 0, .func (.func 51) #[] #[.pointer (some ⟨b, o, none⟩)]] w fun e W' => ∃ v, e = .returned v ∧ W'.ownsRow w.heap.size 3 1 v (perL l).length ((perL l).map (Value.int .i64)) ∧ (v = .slice none 0 0 ↔ perL l = []) ∧ Below w.heap.size w W' := by
  obtain ⟨i0, hi, hz0, hz1, hz2⟩ := info_parts info3
  refine callsIn_of_wp_marks Tryd.func50 rfl trivial ?_ rfl
  simp only [Tryd.ntmps50, List.size_toArray, List.length_cons, List.length_nil, Nat.reduceAdd, Nat.reduceSub, Array.replicate_succ, Array.replicate_zero, List.push_toArray, List.append_toArray, List.nil_append, List.cons_append]
  gi_wp2
  have bO := Boxed.new w 23 (.slice none 0 0)
  have hB0 : Below w.heap.size w (w.alloc (.cells #[.slice none 0 0] 23)) := (Below.refl _ w).alloc (Nat.le_refl _) _
  refine wpIn_rangeFunc_ownG rfl (by omega) (gf := 51) (lb := #[.pointer (some ⟨b, o, none⟩)]) rfl trivial (enters_of Tryd.func51 (by kernel_rfl) rfl)
    (per_stops hL (8 - 1) b o (w.alloc (.cells #[.slice none 0 0] 23)) (by simp; omega) ((hB0.cell (p := ⟨b, o, none⟩) hb).trans hcl)) (fun h k c => k (h c)) (fun W k u u' h1 h2 h3 h4 => kpC_b W k u u' h1 h2 h3 h4) (Below.refl _ _) (fun _ => rfl)
    (fun pre W => (∃ v, Boxed W w.heap.size 23 v ∧ W.ownsRow w.heap.size 3 1 v pre.length (pre.map (Value.int .i64)) ∧ (v = .slice none 0 0 ↔ pre = [])) ∧ Below w.heap.size w W)
    (fun _ _ _ => False)
    (OwnFrom.and (Own.from (holdsRow_own w.heap.size w.heap.size 23 3 1 (fun pre : List Int => pre.length) (fun pre => pre.map (Value.int .i64)) (fun pre v => v = .slice none 0 0 ↔ pre = [])) _) (ownFrom_below (Nat.le_refl _) (by simp)))
    (fun _ _ _ _ _ hs _ _ => hs)
    ⟨⟨_, bO, World.ownsRow_nil _ _ _ _, by simp⟩, hB0⟩
    (fun x => { tmps := #[.slice none 0 0, .func (.func 51) #[] #[.pointer (some ⟨b, o, none⟩)], .pointer (some ⟨w.heap.size, 0, none⟩), undef, .slice none 0 0, .int .i64 x, .func (.func 51) #[] #[.pointer (some ⟨b, o, none⟩)], .int .i64 x, undef, undef, undef, undef, undef], defers := [] }) ?assign ?body ?done ?stop
  case assign =>
    intro l' x W K hK
    gi_wp2
    exact hK
  case body =>
    rintro l' pre x W ⟨⟨v, hv, hrow, hnil⟩, hB⟩ hlt
    have hc := hv.cell
    gi_wp2_with (gi_at_builtin; refine wpListIn_append_own _ rfl _ _ 23 rfl w.heap.size 3 i0 (.int .i64 0) 1 8 Tryd.underlying23 hi hz0 hz1 hz2 rfl (by decide) _ _ _ rfl (hrow.alloc _) ⟨W.heap.size, 0, none⟩ 1 1 [.int .i64 x] rfl rfl (cell_one_new _ _ _) (by simp [Value.oneCell']) (by simp only [maxLen]; omega) (by omega) (by have := hB.size; simp; omega) ?_; intro v' w1 hown' hgrow _; obtain ⟨g', cap', rfl⟩ := ownsRow_succ hown'; obtain ⟨hv1, hv2, hr2, hk2, hb2⟩ := hv.appended (by decide) hrow hB.size (Nat.le_refl _) hown' hgrow; have hc1 := hv1.cell; have hf1 := hv1.frozen)
    exact ⟨hk2.from _, kpC_below hb hb2, ⟨_, hv2, by simpa using hr2, by simp⟩, hB.trans hb2⟩
  case done =>
    rintro D ys W hD rfl ⟨⟨v, hv, hrow, hnil⟩, hB⟩ hK
    have hc := hv.cell
    gi_wp2
    refine ⟨by simp, .inl ⟨_, _, rfl, run_takeDeferred hK, ?_⟩⟩
    exact ⟨_, results_tmp rfl _ _ _, v, rfl, ownsRow_putObj hrow _ hK rfl, hnil, hB.trans (belowK_b (w := w) (Nat.le_refl _) W D _ _ (by simp at hD; omega) hK rfl rfl)⟩
  case stop =>
    rintro D c pre W _ _ h _
    exact h.elim
set_option maxRecDepth 100000 in
theorem walk25 {l : List UInt8} (hL : IsB l) (b o : Nat) (w : World) (hb : b < w.heap.size) (hcl : Cel b o l w) :
    CallsIn Fence.wide 9 Tryd.prog 25 #[.func (.func 51) #[] #[.pointer (some ⟨b, o, none⟩)]] w fun e W' => ∃ v, e = .returned v ∧ W'.ownsRow w.heap.size 3 1 v (perL l).length ((perL l).map (Value.int .i64)) ∧ (v = .slice none 0 0 ↔ perL l = []) ∧ Below w.heap.size w W' := by
  refine callsIn_of_wp Tryd.func25 rfl trivial ?_ rfl
  simp only [Tryd.ntmps25, List.size_toArray, List.length_cons, List.length_nil, Nat.reduceAdd, Nat.reduceSub, Array.replicate_succ, Array.replicate_zero, List.push_toArray, List.append_toArray, List.nil_append, List.cons_append]
  gi_wp2
  refine ⟨trivial, (walk50 hL b o w hb hcl).mono ?_⟩
  rintro e w' ⟨v, rfl, h1, h2, h3⟩
  gi_wp2
  go_ret
  exact ⟨v, rfl, h1, h2, h3⟩
theorem p24 {l : List UInt8} (h : IsB l) : PCall Tryd.prog 24 [.str (bs l)] (.int .i64 0) := PCall.of_calls (by kernel_rfl) rfl rfl fun c w vs hv => by
  obtain ⟨v, vs', rfl, hr, ht⟩ := hv.cons_inv
  have := ht.nil_inv
  subst this
  cases hr
  refine (walk24 h w).mono ?_
  rintro e w' ⟨rfl, hb⟩
  exact ⟨_, rfl, .int .i64 0, hb⟩
theorem p25 {l : List UInt8} (h : IsB l) : PCall Tryd.prog 25 [.fn (.func 51) [] [.ptr (.str (bs l))]] (outV 1 (ints (perL l))) := PCall.of_row (e := 3) (by kernel_rfl) fun c hs w vs hi hv => by
  obtain ⟨v, vs', rfl, hr, ht⟩ := hv.cons_inv
  have := ht.nil_inv
  subst this
  cases hr with
  | fn f v1 v2 x1 x2 hl1 hl2 h1 h2 =>
    have e1 : v1 = [] := List.length_eq_zero_iff.1 hl1
    subst e1
    obtain ⟨u, us, rfl, hu, hus⟩ := (RepL.cons_inv (c := c) (vs := v2) ⟨hl2, h2⟩)
    have := hus.nil_inv
    subst this
    cases hu with
    | ptr b o us x hl hc h lf =>
      obtain ⟨s, ss, rfl, hs1, hs2⟩ := RepL.cons_inv (c := c) (vs := us) (x := .str (bs l)) (xs := []) ⟨hl, h⟩
      have := hs2.nil_inv
      subst this
      cases hs1
      have hcell := hi.imm _ _ _ (hc 0 (.string (bs l)) rfl)
      rw [Nat.add_zero] at hcell
      exact callsIn_wide.1 (walk25 (by assumption) b o w (World.block_lt_of_cell? w _ hcell) hcell)
end Go.Proofs.YtdcpkgedaflnmaaDoor.Rp
