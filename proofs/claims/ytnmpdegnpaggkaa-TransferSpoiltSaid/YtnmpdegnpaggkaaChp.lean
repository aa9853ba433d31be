/-
  The cheapest chain: the program's function. Own work.
-/
import Derived.Test.YtnmpdegnpaggkaaPrh
set_option linter.unusedVariables false
set_option linter.unusedSimpArgs false
namespace Go.Proofs.Ytnmpdegnpaggkaa
open Go Fw

theorem aResult_cct {s : AS} {n m k : Nat} {x y : AV} (h1 : aload s.hs.heap false 1 (s.env n) = some x) (h2 : aload s.hs.heap false 1 (s.env m) = some y) : aResult s [.cell false 1 n, .cell false 1 m, .t k] = some (.tup [x, y, s.env k]) := by
  simp only [aResult, aResL, aRes, h1, h2]; rfl
theorem At.res {o : Option AV} {x : AV} {K : AV → Prop} (h : o = some x) (hK : At (K x)) : At (optK o K) := by rw [h]; exact hK
theorem share_boC (o : Option (List Int × Int)) : (boC o).share = boC o := by
  cases o with
  | none => simp [boC]
  | some p => exact share_chV _
theorem boC_sto (o : Option (List Int × Int)) : (boC o).sto = true ∧ (boC o).cells = [boC o] := by
  cases o with
  | none => simp [boC]
  | some p => simp [boC, chV]
theorem p38 (n s t : Int) : PCall Try.prog 38 [.int .i64 n, .agg [.int .i64 s, .int .i64 t]] (cheapR n s t) := by
  refine PCall.of D16ok ok38 (by simp) (cheapR_plain n s t) fun hs' hb => ?_
  have fail : ∀ s0 : AS, s0.env 4 = .ref hs'.nh 0 → s0.env 5 = .ref (hs'.nh + 1) 0 → s0.hs.heap hs'.nh = some [.nilsl] → s0.hs.heap (hs'.nh + 1) = some [.int .i64 0] → cheapR n s t = .tup [.nilsl, .int .i64 0, .int .i64 3] →
      At (awp Try.prog D16 (.seq (.reg [⟨none, none, .store 1 (.t 4) (.c (.nilsl))⟩, ⟨none, none, .store 1 (.t 5) (.c (.int .i64 0))⟩, ⟨some 6, none, .mv (.c (.int .i64 3))⟩]) .ret) (finQ R38 fun e _ => Reads (cheapR n s t) e) s0) := by
    intro s0 e4 e5 g1 g2 hr
    have hs2 := store_one (v := .nilsl) g1 (by simp) (by simp)
    have hs3 : astore (fun k => if k = hs'.nh then some [.nilsl] else s0.hs.heap k) 1 (.ref (hs'.nh + 1) 0) (.int .i64 0) = some (fun k => if k = hs'.nh + 1 then some [.int .i64 0] else (if k = hs'.nh then some [.nilsl] else s0.hs.heap k)) := store_one (u := .int .i64 0) (by simp [g2]) (by simp) (by simp)
    simp [e4, e5, hs2, env_none, hs3, R38]
    refine At.res (aResult_cct (x := .nilsl) (y := .int .i64 0) ?_ ?_) ?_
    · simp [env_none, e4]; exact load_one (by simp)
    · simp [env_none, e5]; exact load_one (by simp)
    · simp [hr]
  simp [A38, S50]
  refine At.split (fun h => ?_) (fun h => ?_)
  · simp [h, S57]
    refine At.split (fun hg => ?_) (fun hg => ?_)
    · simp at hg
      refine fail _ (by simp) (by simp) (by simp) (by simp) (by simp [cheapR, hg])
    · simp at hg
      obtain ⟨h1, h2⟩ := btw_iff.1 h
      simp
      refine At.loop (fun (k : Nat) s0 => k ≤ 8 ∧ s0.env 0 = .int .i64 n ∧ s0.env 3 = .ptr (.agg [.int .i64 s, .int .i64 t]) ∧ s0.env 4 = .ref hs'.nh 0 ∧ s0.env 5 = .ref (hs'.nh + 1) 0 ∧ s0.env 16 = .int .i64 k ∧ JB s t ((List.range k).foldl (fun o k => (extL n [] k [1]).foldl (bestS s t) o) none) hs'.nh [] s0.hs) (fun k => 8 - k) 0 ?_ ?_
      · simp
        exact ⟨by simp [boC], by simp [boV], by simp⟩
      rintro N k s1 hN ⟨hk, e0, e3, e4, e5, e16, hJ⟩
      simp [e0, e3, e4, e5, e16]
      refine At.dec (fun h3 => ?_) (fun h3 => ?_)
      · have hk7 : k ≤ 7 := by omega
        generalize hO : (List.range k).foldl (fun o k => (extL n [] k [1]).foldl (bestS s t) o) none = o at hJ
        simp [e0, e3, e4, e5, e16, fill_1, astoAll]
        refine At.hc (p54 (eachB hg o hs'.nh) (show asI .nilsl = some [] from rfl) false k _ [1] [] _ asI_one (goodV1 h1 h2 hk7) hJ) ?_ ?_
        · rintro v hs3 (⟨e, hJ3⟩ | ⟨pre, c', post, p, _, e, _⟩)
          · simp [e0, e3, e4, e5, e16]
            refine hN (k + 1) _ (by omega) ⟨by omega, ?_⟩
            simp [e0, e3, e4, e5, e16, wrap_nat1 (show k < _ by omega)]
            rw [foldl_range_succ, hO]
            obtain ⟨j1, j2, j3⟩ := hJ3
            simp [vis_ext] at j1 j2
            exact ⟨by simpa using j1, by simpa using j2, j3⟩
          · cases e
        · rintro v hs3 (⟨e, _⟩ | ⟨pre, c', post, p, _, e, hZ⟩)
          · cases e
          · exact hZ.elim
      · have : k = 8 := by omega
        subst this
        obtain ⟨j1, j2, j3⟩ := hJ
        have hbest : (List.range 8).foldl (fun o k => (extL n [] k [1]).foldl (bestS s t) o) none = bestAll n s t := rfl
        rw [hbest] at j1 j2
        simp only [List.foldl_nil] at j1 j2
        generalize hO' : bestAll n s t = o at j1 j2
        simp [e0, e3, e4, e5, e16]
        have l1 := load_one j1
        have l2 := load_one j2
        have st1 := store_one (v := boC o) j1 (boC_sto o).1 (boC_sto o).2
        have l3 : aload (fun k => if k = hs'.nh then some [boC o] else s1.hs.heap k) false 1 (.ref (hs'.nh + 1) 0) = some (.int .i64 (boV o)) := load_one (by simp [j2])
        have st2 : astore (fun k => if k = hs'.nh then some [boC o] else s1.hs.heap k) 1 (.ref (hs'.nh + 1) 0) (.int .i64 (boV o)) = some (fun k => if k = hs'.nh + 1 then some [.int .i64 (boV o)] else (if k = hs'.nh then some [boC o] else s1.hs.heap k)) := store_one (u := .int .i64 (boV o)) (by simp [j2]) (by simp) (by simp)
        have fin : ∀ s0 : AS, s0.env 4 = .ref hs'.nh 0 → s0.env 5 = .ref (hs'.nh + 1) 0 → s0.env 6 = .int .i64 0 → s0.hs.heap = (fun k => if k = hs'.nh + 1 then some [.int .i64 (boV o)] else (if k = hs'.nh then some [boC o] else s1.hs.heap k)) → At (thenQ (awp Try.prog D16 ACode.ret (finQ R38 fun e x => Reads (cheapR n s t) e)) (finQ R38 fun e x => Reads (cheapR n s t) e) .normal s0) := by
          intro s0 g4 g5 g6 gh
          simp [R38]
          refine At.res (aResult_cct (x := boC o) (y := .int .i64 (boV o)) ?_ ?_) ?_
          · rw [g4, gh]; exact load_one (by simp)
          · rw [g5, gh]; exact load_one (by simp)
          · simp [g6, share_boC, cheapR, h, hg, hO']
        refine At.any_s rfl ?_
        rw [show readyL [[], [], [0, 0], [1, 2, 0, 1, 2], [3, 0, 1, 2, 3]] [] = [0, 1] from rfl]
        refine At.all_c ?_ (At.all_c ?_ At.all_n)
        · simp [e4, e5, l1]
          refine At.any_s rfl ?_
          rw [show readyL [[], [], [0, 0], [1, 2, 0, 1, 2], [3, 0, 1, 2, 3]] [0] = [1, 2] from rfl]
          refine At.all_c ?_ (At.all_c ?_ At.all_n)
          · simp [e4, e5, l2]
            refine At.any_s rfl ?_
            rw [show readyL [[], [], [0, 0], [1, 2, 0, 1, 2], [3, 0, 1, 2, 3]] [1, 0] = [2] from rfl]
            refine At.all_c ?_ At.all_n
            simp [e4, e5, st1]
            refine At.any_s rfl ?_
            rw [show readyL [[], [], [0, 0], [1, 2, 0, 1, 2], [3, 0, 1, 2, 3]] [2, 1, 0] = [3] from rfl]
            refine At.all_c ?_ At.all_n
            simp [e4, e5, env_none, st2]
            refine At.any_s rfl ?_
            rw [show readyL [[], [], [0, 0], [1, 2, 0, 1, 2], [3, 0, 1, 2, 3]] [3, 2, 1, 0] = [4] from rfl]
            refine At.all_c ?_ At.all_n
            simp [e4, e5, env_none]
            refine At.any_0 rfl ?_
            exact fin _ (by simp [env_none, e4]) (by simp [env_none, e5]) (by simp) (by simp)
          · simp [e4, e5, st1]
            refine At.any_s rfl ?_
            rw [show readyL [[], [], [0, 0], [1, 2, 0, 1, 2], [3, 0, 1, 2, 3]] [2, 0] = [1] from rfl]
            refine At.all_c ?_ At.all_n
            simp [e4, e5, env_none, l3]
            refine At.any_s rfl ?_
            rw [show readyL [[], [], [0, 0], [1, 2, 0, 1, 2], [3, 0, 1, 2, 3]] [1, 2, 0] = [3] from rfl]
            refine At.all_c ?_ At.all_n
            simp [e4, e5, env_none, st2]
            refine At.any_s rfl ?_
            rw [show readyL [[], [], [0, 0], [1, 2, 0, 1, 2], [3, 0, 1, 2, 3]] [3, 1, 2, 0] = [4] from rfl]
            refine At.all_c ?_ At.all_n
            simp [e4, e5, env_none]
            refine At.any_0 rfl ?_
            exact fin _ (by simp [env_none, e4]) (by simp [env_none, e5]) (by simp) (by simp)
        · simp [e4, e5, l2]
          refine At.any_s rfl ?_
          rw [show readyL [[], [], [0, 0], [1, 2, 0, 1, 2], [3, 0, 1, 2, 3]] [1] = [0] from rfl]
          refine At.all_c ?_ At.all_n
          simp [e4, e5, l1]
          refine At.any_s rfl ?_
          rw [show readyL [[], [], [0, 0], [1, 2, 0, 1, 2], [3, 0, 1, 2, 3]] [0, 1] = [2] from rfl]
          refine At.all_c ?_ At.all_n
          simp [e4, e5, st1]
          refine At.any_s rfl ?_
          rw [show readyL [[], [], [0, 0], [1, 2, 0, 1, 2], [3, 0, 1, 2, 3]] [2, 0, 1] = [3] from rfl]
          refine At.all_c ?_ At.all_n
          simp [e4, e5, env_none, st2]
          refine At.any_s rfl ?_
          rw [show readyL [[], [], [0, 0], [1, 2, 0, 1, 2], [3, 0, 1, 2, 3]] [3, 2, 0, 1] = [4] from rfl]
          refine At.all_c ?_ At.all_n
          simp [e4, e5, env_none]
          refine At.any_0 rfl ?_
          exact fin _ (by simp [env_none, e4]) (by simp [env_none, e5]) (by simp) (by simp)
  · have hs2 : astore (fun i => if i = hs'.nh + 1 then some [AV.int .i64 0] else if i = hs'.nh then some [.nilsl] else hs'.heap i) 1 (.ref hs'.nh 0) .nilsl = some (fun k => if k = hs'.nh then some [.nilsl] else if k = hs'.nh + 1 then some [AV.int .i64 0] else if k = hs'.nh then some [.nilsl] else hs'.heap k) := store_one (u := .nilsl) (by simp) (by simp) (by simp)
    have hs3 : astore (fun k => if k = hs'.nh then some [.nilsl] else if k = hs'.nh + 1 then some [AV.int .i64 0] else if k = hs'.nh then some [.nilsl] else hs'.heap k) 1 (.ref (hs'.nh + 1) 0) (.int .i64 0) = some (fun k => if k = hs'.nh + 1 then some [.int .i64 0] else if k = hs'.nh then some [.nilsl] else if k = hs'.nh + 1 then some [AV.int .i64 0] else if k = hs'.nh then some [.nilsl] else hs'.heap k) := store_one (u := .int .i64 0) (by simp) (by simp) (by simp)
    simp [h, hs2, env_none, hs3, R38]
    refine At.res (aResult_cct (x := .nilsl) (y := .int .i64 0) ?_ ?_) ?_
    · simp [env_none]; exact load_one (by simp)
    · simp [env_none]; exact load_one (by simp)
    · simp [cheapR, h]
end Go.Proofs.Ytnmpdegnpaggkaa
