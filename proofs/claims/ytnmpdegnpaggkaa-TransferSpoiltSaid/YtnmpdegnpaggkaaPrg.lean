/-
  The program's answers. Own work.
-/
import Derived.Test.YtnmpdegnpaggkaaFst
set_option linter.unusedVariables false
set_option linter.unusedSimpArgs false
namespace Go.Proofs.Ytnmpdegnpaggkaa
open Go Fw

theorem vis_ext (n : Int) (sp : List Int) : ∀ (k : Nat) (c : List Int), visL n sp false k c = extL n sp k c
  | 0, c => rfl
  | k + 1, c => by
    rw [visL, extL]
    congr 2
    funext j
    rw [vis_ext n sp k]
    unfold okX
    cases wayL c (lastL c + 1 + (j : Int)) with
    | none => simp
    | some p => by_cases h : (lastL c + 1 + (j : Int)) ∈ sp <;> simp [h]
theorem fstK_ext (n : Int) (sp : List Int) : fstK n sp false = firstK (fun k => decide (0 < (extL n sp k [1]).length)) 8 0 := by
  unfold fstK; congr 1; funext k; rw [vis_ext]
theorem fstV_sh (n : Int) (sp : List Int) : fstV n sp false = if (shL n sp).length = 0 then .nilsl else chV (hdL n sp) := by
  unfold fstV hdL
  rw [fstK_ext]
  by_cases h : (1 : Int) ∈ sp
  · rw [if_pos h]
    have : shL n sp = [] := by unfold shL shK; rw [if_pos h]
    simp [this]
  · rw [if_neg h]
    have hk : shK n sp = firstK (fun k => decide (0 < (extL n sp k [1]).length)) 8 0 := by unfold shK; rw [if_neg h]
    rw [← hk]
    cases hs : shK n sp with
    | none => simp [shL, hs]
    | some k =>
      have := (shK_le hs).2
      simp only [shL, hs, vis_ext]
      rw [if_neg (by omega)]
theorem plain_fstV (n : Int) (sp : List Int) (row : Bool) : (fstV n sp row).plain = true := by
  unfold fstV
  split
  · rfl
  · split
    · exact plain_chV _
    · rfl
def S52 : List AV → Option AV
  | [.agg [.int .i64 n, y, .bool row]] => (asI y).bind fun sp => if 1 ≤ n ∧ n ≤ 46 then some (fstV n sp row) else none
  | _ => none
theorem c52 : ∀ a r, S52 a = some r → PCall Try.prog 52 a r := by
  intro a r h
  unfold S52 at h
  split at h <;> (try (cases h; done))
  obtain ⟨l, hl, h⟩ := Option.bind_eq_some_iff.1 h
  split at h <;> (try (cases h; done))
  rename_i hc
  injection h with h; subst h
  exact ⟨plain_fstV _ _ _, fun hs _ => p52 hc.1 hc.2 hl _ hs⟩
def D14 : PCtx := D13.add 52 S52
theorem D14ok : CtxOk Try.prog D14 := D13ok.add c52
@[simp] theorem D14_52 : D14 52 = S52 := id rfl
@[simp] theorem D14_50 : D14 50 = S50 := id rfl
@[simp] theorem D14_57 : D14 57 = S57 := id rfl
@[simp] theorem fill_srch {n : Int} {y : AV} (hy : y.sto = true) : afill [.int .i64 0, .nilsl, .bool false] [(0, 1, .int .i64 n)] = some [.int .i64 n, .nilsl, .bool false] := by
  simp [afill, setL, AV.cells]
theorem fill_1 {n : Int} : afill [.int .i64 0, .nilsl, .bool false] [(0, 1, .int .i64 n)] = some [.int .i64 n, .nilsl, .bool false] := by
  simp [afill, setL, AV.cells]
theorem fill_2 {n : Int} : afill [.int .i64 0, .nilsl, .bool false] [(0, 1, .int .i64 n), (2, 1, .bool true)] = some [.int .i64 n, .nilsl, .bool true] := by
  simp [afill, setL, AV.cells, AV.sto, AV.leaf]
theorem fill_3 {n : Int} {y : AV} {sp : List Int} (hy : asI y = some sp) : afill [.int .i64 0, .nilsl, .bool false] [(0, 1, .int .i64 n), (1, 1, y)] = some [.int .i64 n, y, .bool false] := by
  rcases asI_inv hy with ⟨rfl, rfl⟩ | ⟨c, rfl⟩ <;> simp [afill, setL]
theorem share_fstV (n : Int) (sp : List Int) (row : Bool) : (fstV n sp row).share = fstV n sp row := by
  unfold fstV
  split
  · simp
  · split <;> simp
theorem p25 (n : Int) : PCall Try.prog 25 [.int .i64 n] (chainR n) := by
  refine PCall.of D14ok ok25 (by simp) (chainR_plain n) fun hs' hb => ?_
  simp [A25, R25, S50]
  refine At.split (fun h => ?_) (fun h => ?_)
  · simp at h
    simp [chainR, h]
  · simp at h
    obtain ⟨h1, h2⟩ := btw_iff.1 h
    have hne := shL_ne h1 h2
    simp [fill_1, S52, h1, h2]
    simp [share_fstV]
    simp [chainR, h, fstV_sh, show ¬ (shL n []).length = 0 by omega]
theorem c25 : ∀ a r, SChain a = some r → PCall Try.prog 25 a r := by
  intro a r h
  unfold SChain at h
  split at h <;> (try (cases h; done))
  injection h with h; subst h
  exact p25 _
def D15 : PCtx := D14.add 25 SChain
theorem D15ok : CtxOk Try.prog D15 := D14ok.add c25
@[simp] theorem D15_25 : D15 25 = SChain := id rfl
theorem p23 (n : Int) : PCall Try.prog 23 [.int .i64 n] (distR n) := by
  refine PCall.of D15ok ok23 (by simp) (distR_plain n) fun hs' hb => ?_
  simp [A23, R23, SChain]
  by_cases h : btw 1 n 46 = true
  · obtain ⟨h1, h2⟩ := btw_iff.1 h
    obtain ⟨m, hm, hm0, hc⟩ := hd_chn h1 h2
    have hlen := hc.len
    have la := alen_of (asI_chV (c := hdL n []) (by omega))
    have w : IntKind.i64.wrap (((hdL n []).length : Int) - 1) = ((hdL n []).length : Int) - 1 := wrap64 (by omega) (by omega)
    simp [chainR, h, la, w]
    simp [distR, h]
  · simp [chainR, h]
    simp [distR, h]
def SDist : List AV → Option AV
  | [.int .i64 n] => some (distR n)
  | _ => none
theorem c23 : ∀ a r, SDist a = some r → PCall Try.prog 23 a r := by
  intro a r h
  unfold SDist at h
  split at h <;> (try (cases h; done))
  injection h with h; subst h
  exact p23 _
theorem c24 : ∀ a r, SDist a = some r → PCall Try.prog 24 a r := by
  intro a r h
  unfold SDist at h
  split at h <;> (try (cases h; done))
  injection h with h; subst h
  exact p24 _
def D16 : PCtx := D15.add 23 SDist
theorem D16ok : CtxOk Try.prog D16 := D15ok.add c23
@[simp] theorem D16_23 : D16 23 = SDist := id rfl
@[simp] theorem D16_50 : D16 50 = S50 := id rfl
@[simp] theorem D16_52 : D16 52 = S52 := id rfl
@[simp] theorem D16_57 : D16 57 = S57 := id rfl
def inrowP (n : Int) : AV := if btw 1 n 46 = true then .tup [fstV n [] true, .int .i64 0] else .tup [.nilsl, .int .i64 3]
theorem inrowP_plain (n : Int) : (inrowP n).plain = true := by
  unfold inrowP; split
  · simp only [AV.plain, plainL, plain_fstV, Bool.and_self]
  · rfl
theorem p30 (n : Int) : PCall Try.prog 30 [.int .i64 n] (inrowP n) := by
  refine PCall.of D16ok ok30 (by simp) (inrowP_plain n) fun hs' hb => ?_
  simp [A30, R30, S50]
  refine At.split (fun h => ?_) (fun h => ?_)
  · simp at h
    simp [inrowP, h]
  · simp at h
    obtain ⟨h1, h2⟩ := btw_iff.1 h
    simp [fill_2, S52, h1, h2]
    simp [share_fstV]
    simp [inrowP, h]
theorem p34 (n : Int) {y : AV} {sp : List Int} (hy : asI y = some sp) : PCall Try.prog 34 [.int .i64 n, y] (withoutR n sp) := by
  refine PCall.of D16ok ok34 (by simp) (withoutR_plain n sp) fun hs' hb => ?_
  simp [A34, R34, S50]
  refine At.split (fun h => ?_) (fun h => ?_)
  · simp at h
    simp [withoutR, h]
  · simp at h
    obtain ⟨h1, h2⟩ := btw_iff.1 h
    simp [alen_of hy]
    refine At.dec (fun h3 => ?_) (fun h3 => ?_)
    · simp
      simp [withoutR, h, show 12 < sp.length by omega]
    · simp [fill_3 hy, S52, hy, h1, h2, fstV_sh]
      by_cases h4 : (shL n sp).length = 0
      · have h4' : shL n sp = [] := List.eq_nil_of_length_eq_zero h4
        simp [h4']
        simp [withoutR, h, h4', show ¬ 12 < sp.length by omega]
      · have h4' : ¬ shL n sp = [] := fun e => h4 (by simp [e])
        simp [h4', chV]
        simp [withoutR, h, h4', chV, show ¬ 12 < sp.length by omega]
/-- the cell that counts -/
def JC (i0 : Nat) : List (List Int) → HS → Prop := fun d hs => hs.heap i0 = some [.int .i64 (IntKind.i64.wrap (d.length : Int))] ∧ i0 < hs.nh
theorem eachC (i0 : Nat) : Each 55 [] [.ref i0 0] (JC i0) (fun _ _ _ _ => False) := by
  refine ⟨?_, ?_⟩
  · rintro d hs hs' hx ⟨h2, h3⟩
    exact ⟨by rw [hx.heap i0 h3]; exact h2, Nat.lt_of_lt_of_le h3 hx.nh⟩
  · rintro d hs x c hx hb hl hne ⟨h2, h3⟩
    refine FCall.of_body D16ok ok55 (by simp) (At.i ?_)
    have hw : IntKind.i64.wrap (IntKind.i64.wrap (d.length : Int) + 1) = IntKind.i64.wrap ((d.length : Int) + 1) := by
      simp only [IntKind.wrap_i64]; omega
    simp [A55, R55, load_one h2, store_one h2, hw]
    exact At.of ⟨by simp, h3⟩
theorem p28 (n : Int) : PCall Try.prog 28 [.int .i64 n] (countR n) := by
  refine PCall.of D16ok ok28 (by simp) (countR_plain n) fun hs' hb => ?_
  simp [A28, R28, SDist]
  by_cases h : btw 1 n 46 = true
  · obtain ⟨h1, h2⟩ := btw_iff.1 h
    have hne := shL_ne h1 h2
    obtain ⟨k, hk⟩ : ∃ k, shK n [] = some k := by
      cases hs : shK n [] with
      | none => simp [shL, hs] at hne
      | some k => exact ⟨k, rfl⟩
    have hk7 := (shK_le hk).1
    have hsl : shL n [] = extL n [] k [1] := by simp [shL, hk]
    have hc := ext_mem1 h2 (hsl ▸ hd_mem hne : hdL n [] ∈ extL n [] k [1])
    have hlen := hc.len
    have hnum := num_ok h2 [] hk7 (c := [1]) (by decide)
    have hd1 : ((hdL n []).length : Int) - 1 = (k : Int) := by omega
    have hst : astore (fun i => if i = hs'.nh then some [AV.int .i64 0] else hs'.heap i) 1 (.ref hs'.nh 0) (.int .i64 0) = some (fun k => if k = hs'.nh then some [.int .i64 0] else (if k = hs'.nh then some [AV.int .i64 0] else hs'.heap k)) := store_one (u := .int .i64 0) (by simp) (by simp) (by simp)
    simp [distR, h, hst, fill_1, astoAll, hd1]
    refine At.hc (p54 (eachC hs'.nh) (show asI .nilsl = some [] from rfl) false k _ [1] [] _ asI_one (goodV1 h1 h2 hk7) ?_) ?_ ?_
    · exact ⟨by simp [IntKind.wrap_i64], by simp⟩
    · rintro v hs3 (⟨e, hJ1, hJ2⟩ | ⟨pre, c', post, p, _, e, _⟩)
      · have hw : IntKind.i64.wrap ((extL n [] k [1]).length : Int) = (extL n [] k [1]).length := wrap_nat (by omega)
        simp [vis_ext, hw] at hJ1
        simp [load_one hJ1]
        simp [countR, h, hsl]
      · cases e
    · rintro v hs3 (⟨e, _⟩ | ⟨pre, c', post, p, _, e, hZ⟩)
      · cases e
      · exact hZ.elim
  · simp [distR, h]
    simp [countR, h]
end Go.Proofs.Ytnmpdegnpaggkaa
