/-
  Rules by value, and contracts of the small functions. Own work.
  Going through pairs and arrows with a function: the state is folded until it says stop. Own work.
  The first pair whose number another one has. Own work.
  The reference's pairs, and what is returned of them; clear rules. Own work.
  The reference's lists of pairs; clear rules. Own work.
  Twice, Around, and clear rules. Own work.
  Twice, Around, and clear rules: the walks. Own work.
  Twice after the reference, clear rules, Around. Own work.
  Distances of a rule. Own work.
-/
import Derived.Test.YtdcpkgedaflnmaaDoorX1
import Derived.Test.YtdcpkgedaflnmaaDoorFx4
set_option linter.unusedVariables false
set_option linter.unusedSimpArgs false
namespace Go.Proofs.YtdcpkgedaflnmaaDoor.Xs
open Go Fw

theorem fa (ag : Bool) (sz off i o : Nat) : afaddr ag sz off (.ref i o) = some (.ref i (o + off)) := rfl
theorem la (hp : Nat → Option (List AV)) (ag : Bool) (sz i o : Nat) : aload hp ag sz (.ref i o) = (hp i).bind fun ys => apart ag sz o ys := rfl
theorem lpf (hp : Nat → Option (List AV)) (f : Fn) (xs ys : List AV) : aload hp false 1 (.ptr (.fn f xs ys)) = some (.fn f xs ys) := rfl
theorem ca (xs : List AV) : (AV.agg xs).cells = xs := rfl
theorem ci (k : IntKind) (m : Int) : (AV.int k m).cells = [.int k m] := rfl
theorem cb (b : Bool) : (AV.bool b).cells = [.bool b] := rfl
theorem sa (xs : List AV) : (AV.agg xs).sto = true := rfl
theorem si (k : IntKind) (n : Int) : (AV.int k n).sto = true := rfl
theorem sb (b : Bool) : (AV.bool b).sto = true := rfl
theorem sf (f : Fn) (xs ys : List AV) : (AV.fn f xs ys).sto = true := rfl
theorem asI_sto {x : AV} {l : List Int} (h : asI x = some l) : x.sto = true := by
  rcases asI_inv h with ⟨rfl, _⟩ | ⟨c, rfl⟩ <;> rfl
theorem asI_ld {x : AV} {l : List Int} (h : asI x = some l) (hp : Nat → Option (List AV)) : aload hp false 1 (.ptr x) = some x := by
  rcases asI_inv h with ⟨rfl, _⟩ | ⟨c, rfl⟩ <;> rfl
/-! small functions -/
def btw (lo n hi : Int) : Bool := decide (lo ≤ n) && decide (n ≤ hi)
theorem p54 {C : PCtx} (hC : CtxOk Tryd.prog C) (lo n hi : Int) : PCall Tryd.prog 59 [.int .i64 lo, .int .i64 n, .int .i64 hi] (.bool (btw lo n hi)) := by
  refine PCall.of hC ok54 (by simp) rfl fun hs hb => ?_
  simp [A54, R54]
  refine At.dec (fun h => ?_) (fun h => ?_) <;> simp [h, btw]
theorem p87 {C : PCtx} (hC : CtxOk Tryd.prog C) (n : Int) : PCall Tryd.prog 121 [.int .i64 n] (.bool false) := by
  refine PCall.of hC ok87 (by simp) rfl fun hs hb => ?_
  simp [A87, R87]
theorem p81 {C : PCtx} (hC : CtxOk Tryd.prog C) (n : Int) : PCall Tryd.prog 95 [.int .i64 n] (.bool false) := by
  refine PCall.of hC ok81 (by simp) rfl fun hs hb => ?_
  simp [A81, R81]
def SBtw : List AV → Option AV
  | [.int .i64 lo, .int .i64 n, .int .i64 hi] => some (.bool (btw lo n hi))
  | _ => none
def SIs : List AV → Option AV
  | [.int .i64 n, .int .i64 lo, .int .i64 hi] => some (.bool (btw lo n hi))
  | _ => none
def SNan : List AV → Option AV
  | [.int .i64 _] => some (.bool false)
  | _ => none
theorem c54 {C : PCtx} (hC : CtxOk Tryd.prog C) : ∀ a r, SBtw a = some r → PCall Tryd.prog 59 a r := by
  intro a r h
  unfold SBtw at h
  split at h <;> (try (cases h; done))
  injection h with h; subst h
  exact p54 hC _ _ _
theorem c87 {C : PCtx} (hC : CtxOk Tryd.prog C) : ∀ a r, SNan a = some r → PCall Tryd.prog 121 a r := by
  intro a r h
  unfold SNan at h
  split at h <;> (try (cases h; done))
  injection h with h; subst h
  exact p87 hC _
theorem c81 {C : PCtx} (hC : CtxOk Tryd.prog C) : ∀ a r, SNan a = some r → PCall Tryd.prog 95 a r := by
  intro a r h
  unfold SNan at h
  split at h <;> (try (cases h; done))
  injection h with h; subst h
  exact p81 hC _
def D0 : PCtx := ((PCtx.nil.add 59 SBtw).add 121 SNan).add 95 SNan
theorem D0ok : CtxOk Tryd.prog D0 := ((CtxOk.nil.add (c54 .nil)).add (c87 .nil)).add (c81 .nil)
@[simp] theorem D0_54 : D0 59 = SBtw := id rfl
@[simp] theorem D0_87 : D0 121 = SNan := id rfl
@[simp] theorem D0_81 : D0 95 = SNan := id rfl
@[simp] theorem SBtw_i {lo n hi : Int} : SBtw [.int .i64 lo, .int .i64 n, .int .i64 hi] = some (.bool (btw lo n hi)) := id rfl
@[simp] theorem SIs_i {lo n hi : Int} : SIs [.int .i64 n, .int .i64 lo, .int .i64 hi] = some (.bool (btw lo n hi)) := id rfl
@[simp] theorem SNan_i {n : Int} : SNan [.int .i64 n] = some (.bool false) := id rfl
theorem p80 (n m : Int) : PCall Tryd.prog 94 [.int .i64 n, .int .i64 m] (.bool (decide (n < m))) := by
  refine PCall.of D0ok ok80 (by simp) rfl fun hs hb => ?_
  simp [A80, R80]
def SLss : List AV → Option AV
  | [.int .i64 n, .int .i64 m] => some (.bool (decide (n < m)))
  | _ => none
@[simp] theorem SLss_i {n m : Int} : SLss [.int .i64 n, .int .i64 m] = some (.bool (decide (n < m))) := id rfl
theorem c80 : ∀ a r, SLss a = some r → PCall Tryd.prog 94 a r := by
  intro a r h
  unfold SLss at h
  split at h <;> (try (cases h; done))
  injection h with h; subst h
  exact p80 _ _
/-- the index of a number -/
def idxL (l : List Int) (v : Int) : Int := match l.findIdx? (fun n => v = n) with | some i => i | none => -1
theorem p79 {x : AV} {l : List Int} (hx : asI x = some l) (v : Int) : PCall Tryd.prog 93 [x, .int .i64 v] (.int .i64 (idxL l v)) := by
  have hl := asI_len hx
  refine PCall.of D0ok ok79 (by simp) rfl fun hs hb => ?_
  simp [A79, R79, alen_of hx]
  refine At.loop (fun (i : Nat) s => i ≤ l.length ∧ s.env 0 = x ∧ s.env 1 = .int .i64 v ∧ s.env 7 = .int .i64 (l.length : Int) ∧ s.env 8 = .int .i64 (i : Int) ∧ ∀ j (h : j < l.length), j < i → ¬ v = l[j]) (fun i => l.length - i) 0 ?_ ?_
  · simp
  rintro N i s hN ⟨hi, e0, e1, e7, e8, hno⟩
  simp [e7, e8]
  refine At.dec (fun hlt => ?_) (fun hlt => ?_)
  · have hi' : i < l.length := by omega
    simp [e0, e1, e8, aidx_nat hx hi']
    refine At.dec (fun hv => ?_) (fun hv => ?_)
    · have : idxL l v = (i : Int) := by
        unfold idxL
        have : l.findIdx? (fun n => v = n) = some i := List.findIdx?_eq_some_iff_getElem.2 ⟨hi', by simpa using hv, fun j hj => by simpa using hno j (by omega) hj⟩
        rw [this]
      simp [this]
    · simp [e8]
      refine hN (i + 1) _ (by omega) ⟨by omega, ?_⟩
      simp [e0, e1, e7, wrap_nat1 (show i < _ by omega)]
      intro j h hj
      by_cases hji : j = i
      · subst hji; exact hv
      · exact hno j h (by omega)
  · have : idxL l v = -1 := by
      unfold idxL
      have : l.findIdx? (fun n => v = n) = none := List.findIdx?_eq_none_iff.2 fun n hn => by
        obtain ⟨j, hj, rfl⟩ := List.getElem_of_mem hn
        simpa using hno j hj (by omega)
      rw [this]
    simp [this]
def SIdx : List AV → Option AV
  | [x, .int .i64 v] => (asI x).map fun l => .int .i64 (idxL l v)
  | _ => none
theorem c79 : ∀ a r, SIdx a = some r → PCall Tryd.prog 93 a r := by
  intro a r h
  unfold SIdx at h
  split at h <;> (try (cases h; done))
  obtain ⟨l, h1, rfl⟩ := Option.map_eq_some_iff.1 h
  exact p79 h1 _
def D1 : PCtx := (D0.add 94 SLss).add 93 SIdx
theorem D1ok : CtxOk Tryd.prog D1 := (D0ok.add c80).add c79
@[simp] theorem D1_54 : D1 59 = SBtw := id rfl
@[simp] theorem D1_80 : D1 94 = SLss := id rfl
@[simp] theorem D1_79 : D1 93 = SIdx := id rfl
@[simp] theorem D1_81 : D1 95 = SNan := id rfl
/-- the first error of a list that is to ascend -/
def ascE (lo hi : Int) : Int → List Int → Int
  | _, [] => 0
  | last, n :: t => if btw lo n hi = true then (if n ≤ last then 7 else ascE lo hi n t) else 4
theorem p52 {x : AV} {l : List Int} (hx : asI x = some l) {lo hi : Int} (hlo : -1000 ≤ lo ∧ lo ≤ 1000) : PCall Tryd.prog 53 [x, .int .i64 lo, .int .i64 hi] (.int .i64 (ascE lo hi (lo - 1) l)) := by
  have hl := asI_len hx
  have hw : IntKind.i64.wrap (lo - 1) = lo - 1 := wrap64 (by omega) (by omega)
  refine PCall.of D0ok ok52 (by simp) rfl fun hs hb => ?_
  simp [A52, R52, alen_of hx, hw]
  refine At.loop (fun (i : Nat) s => i ≤ l.length ∧ s.env 1 = .int .i64 lo ∧ s.env 2 = .int .i64 hi ∧ s.env 12 = x ∧ s.env 13 = .int .i64 (l.length : Int) ∧ s.env 14 = .int .i64 (i : Int) ∧ ∃ last, s.env 7 = .int .i64 last ∧ ascE lo hi (lo - 1) l = ascE lo hi last (l.drop i)) (fun i => l.length - i) 0 ?_ ?_
  · exact ⟨by simp, by simp, by simp, by simp, by simp, by simp, lo - 1, by simp, by simp⟩
  rintro N i s hN ⟨hi0, e1, e2, e12, e13, e14, last, e7, hr⟩
  simp [e13, e14]
  refine At.dec (fun hlt => ?_) (fun hlt => ?_)
  · have hi' : i < l.length := by omega
    rw [List.drop_eq_getElem_cons hi'] at hr
    simp only [ascE] at hr
    simp [e1, e2, e12, e14, aidx_nat hx hi']
    cases hbt : btw lo l[i] hi with
    | false => rw [hbt] at hr; simp at hr; simp [hr]
    | true =>
      rw [hbt] at hr
      simp only [if_true] at hr
      by_cases hle : l[i] ≤ last
      · rw [if_pos hle] at hr
        simp [e7, hle, hr]
      · rw [if_neg hle] at hr
        simp [e7, hle, e14]
        refine hN (i + 1) _ (by omega) ⟨by omega, by simp [e1], by simp [e2], by simp [e12], by simp [e13], by simp [wrap_nat1 (show i < _ by omega)], l[i], by simp, hr⟩
  · have : i = l.length := by omega
    subst this
    rw [List.drop_length] at hr
    simp [hr, ascE]
def SAsc : List AV → Option AV
  | [x, .int .i64 lo, .int .i64 hi] => if -1000 ≤ lo ∧ lo ≤ 1000 then (asI x).map fun l => .int .i64 (ascE lo hi (lo - 1) l) else none
  | _ => none
theorem SAsc_i {x : AV} {l : List Int} (hx : asI x = some l) {lo hi : Int} (hlo : -1000 ≤ lo ∧ lo ≤ 1000) : SAsc [x, .int .i64 lo, .int .i64 hi] = some (.int .i64 (ascE lo hi (lo - 1) l)) := by simp only [SAsc, hx]; rw [if_pos hlo]; rfl
theorem c52 : ∀ a r, SAsc a = some r → PCall Tryd.prog 53 a r := by
  intro a r h
  unfold SAsc at h
  split at h <;> (try (cases h; done))
  split at h <;> (try (cases h; done))
  rename_i hlo
  obtain ⟨l, h1, rfl⟩ := Option.map_eq_some_iff.1 h
  exact p52 h1 hlo
/-- the error of a rule -/
def chkE (l : List Int) : Int := if l.length < 2 then 1 else if 8 < l.length then 2 else ascE 0 60 (-1) l
def D2 : PCtx := D1.add 53 SAsc
theorem D2ok : CtxOk Tryd.prog D2 := D1ok.add c52
@[simp] theorem D2_52 : D2 53 = SAsc := id rfl
@[simp] theorem D2_54 : D2 59 = SBtw := id rfl
theorem p24 {x : AV} {l : List Int} (hx : asI x = some l) : PCall Tryd.prog 27 [x] (.int .i64 (chkE l)) := by
  have hl := asI_len hx
  refine PCall.of D2ok ok24 (by simp) rfl fun hs hb => ?_
  simp [A24, R24, alen_of hx]
  refine At.dec (fun h => ?_) (fun h => ?_)
  · have : chkE l = 1 := by unfold chkE; rw [if_pos (by omega)]
    simp [this]
  simp [alen_of hx]
  refine At.dec (fun h2 => ?_) (fun h2 => ?_)
  · have : chkE l = 2 := by unfold chkE; rw [if_neg (by omega), if_pos (by omega)]
    simp [this]
  · have : chkE l = ascE 0 60 (-1) l := by unfold chkE; rw [if_neg (by omega), if_neg (by omega)]
    rw [this]
    simp [SAsc_i hx (lo := 0) (hi := 60) (by omega)]
/-- a rule -/
structure OkL (l : List Int) : Prop where
  two : 2 ≤ l.length
  eight : l.length ≤ 8
  bd : ∀ n ∈ l, 0 ≤ n ∧ n ≤ 60
  asc : l.Pairwise (· < ·)
theorem ascE_zero {lo hi : Int} : ∀ {l : List Int} {last : Int}, ascE lo hi last l = 0 ↔ (∀ n ∈ l, lo ≤ n ∧ n ≤ hi ∧ last < n) ∧ l.Pairwise (· < ·)
  | [], last => by simp [ascE]
  | n :: t, last => by
    simp only [ascE]
    by_cases hb : btw lo n hi = true
    · rw [if_pos hb]
      have hb' : lo ≤ n ∧ n ≤ hi := by simpa [btw] using hb
      by_cases hn : n ≤ last
      · rw [if_pos hn]
        refine ⟨fun h => absurd h (by decide), fun ⟨h, _⟩ => absurd (h n (by simp)).2.2 (by omega)⟩
      · rw [if_neg hn, ascE_zero, List.pairwise_cons]
        constructor
        · rintro ⟨h1, h2⟩
          refine ⟨fun m hm => ?_, fun m hm => (h1 m hm).2.2, h2⟩
          rcases List.mem_cons.1 hm with rfl | hm
          · exact ⟨hb'.1, hb'.2, by omega⟩
          · exact ⟨(h1 m hm).1, (h1 m hm).2.1, by have := (h1 m hm).2.2; omega⟩
        · rintro ⟨h1, h2, h3⟩
          exact ⟨fun m hm => ⟨(h1 m (by simp [hm])).1, (h1 m (by simp [hm])).2.1, h2 m hm⟩, h3⟩
    · rw [if_neg hb]
      refine ⟨fun h => absurd h (by decide), fun ⟨h, _⟩ => ?_⟩
      exfalso; apply hb
      have := h n (by simp)
      simp [btw, this.1, this.2.1]
theorem chkE_zero {l : List Int} : chkE l = 0 ↔ OkL l := by
  unfold chkE
  split
  · rename_i h
    exact ⟨fun h => absurd h (by decide), fun h' => absurd h'.two (by omega)⟩
  · split
    · exact ⟨fun h => absurd h (by decide), fun h' => absurd h'.eight (by omega)⟩
    · rw [ascE_zero]
      constructor
      · rintro ⟨h1, h2⟩
        exact ⟨by omega, by omega, fun n hn => ⟨(h1 n hn).1, (h1 n hn).2.1⟩, h2⟩
      · rintro ⟨h1, h2, h3, h4⟩
        exact ⟨fun n hn => ⟨(h3 n hn).1, (h3 n hn).2, by have := (h3 n hn).1; omega⟩, h4⟩
end Go.Proofs.YtdcpkgedaflnmaaDoor.Xs
set_option linter.unusedVariables false
set_option linter.unusedSimpArgs false
namespace Go.Proofs.YtdcpkgedaflnmaaDoor.Xs
open Go Fw

abbrev Pr := Nat × Nat
def prA (p : Pr) : AV := .agg [.int .i64 (p.1 : Int), .int .i64 (p.2 : Int)]
def foldS {S : Type} (step : S → Pr → S × Bool) : S → List Pr → S
  | s, [] => s
  | s, a :: l => if (step s a).2 = true then foldS step (step s a).1 l else (step s a).1
def rowF (n i k : Nat) : List Pr := (List.range' k (n - k)).map fun k => (i, k)
def resF (n i : Nat) : List Pr := (List.range' i (n - i)).flatMap fun i => rowF n i (i + 1)
theorem rowF_c {n i k : Nat} (h : k < n) : rowF n i k = (i, k) :: rowF n i (k + 1) := by
  unfold rowF
  rw [show n - k = (n - (k + 1)) + 1 by omega, List.range'_succ]; rfl
theorem rowF_n {n i k : Nat} (h : n ≤ k) : rowF n i k = [] := by
  unfold rowF
  rw [show n - k = 0 by omega]; rfl
theorem resF_c {n i : Nat} (h : i < n) : resF n i = rowF n i (i + 1) ++ resF n (i + 1) := by
  unfold resF
  rw [show n - i = (n - (i + 1)) + 1 by omega, List.range'_succ]; rfl
theorem resF_n {n i : Nat} (h : n ≤ i) : resF n i = [] := by
  unfold resF
  rw [show n - i = 0 by omega]; rfl
theorem mem_resF {n : Nat} {p : Pr} : p ∈ resF n 0 ↔ p.1 < p.2 ∧ p.2 < n := by
  unfold resF rowF
  simp only [List.mem_flatMap, List.mem_map, List.mem_range'_1]
  constructor
  · rintro ⟨i, hi, k, hk, rfl⟩; simp only; omega
  · intro ⟨h1, h2⟩; exact ⟨p.1, by omega, p.2, by omega, rfl⟩
/-- what a function does that goes through a list of pairs -/
def IterOk (f : FuncId) (ps : Nat → List Pr) : Prop :=
  ∀ {S : Type} {step : S → Pr → S × Bool} {J : S → HS → Prop} {g : FuncId} {xs ys : List AV} {n : Nat}, n ≤ 1000000 → ∀ {hs0 : HS} {s0 : S}, J s0 hs0 →
    (∀ s p hs, p ∈ ps n → J s hs → FCall Tryd.prog g (xs ++ [prA p] ++ ys) hs fun e hs' => e = .ret (.bool (step s p).2) ∧ J (step s p).1 hs') →
    FCall Tryd.prog f [.int .i64 (n : Int), .fn (.func g) xs ys] hs0 fun e hs' => e = .ret (.tup []) ∧ J (foldS step s0 (ps n)) hs'
theorem p46 : IterOk 29 (fun n => resF n 0) := by
  intro S step J g xs ys n hn hs0 s0 h0 hcb
  refine FCall.of_body D2ok ok46 (by simp) (At.i ?_)
  simp [A46, R46]
  refine At.loop (fun (i : Nat) s => i ≤ n ∧ s.env 0 = .int .i64 (n : Int) ∧ s.env 1 = .fn (.func g) xs ys ∧ s.env 6 = .int .i64 (n : Int) ∧ s.env 7 = .int .i64 (i : Int) ∧ ∃ st, J st s.hs ∧ foldS step s0 (resF n 0) = foldS step st (resF n i)) (fun i => n - i) 0 ?_ ?_
  · exact ⟨by simp, by simp, by simp, by simp, by simp, s0, by simpa using h0, rfl⟩
  rintro N i s hN ⟨hi, e0, e1, e6, e7, st, hJ, hf⟩
  simp [e6, e7]
  refine At.dec (fun hlt => ?_) (fun hlt => ?_)
  · have hi' : i < n := by omega
    rw [resF_c hi'] at hf
    have hw : IntKind.i64.wrap ((i : Int) + 1) = ((i + 1 : Nat) : Int) := wrap_nat1 (by omega)
    simp [e6, e7, hw]
    refine At.loop (fun (k : Nat) s => i + 1 ≤ k ∧ k ≤ n ∧ s.env 0 = .int .i64 (n : Int) ∧ s.env 1 = .fn (.func g) xs ys ∧ s.env 6 = .int .i64 (n : Int) ∧ s.env 7 = .int .i64 (i : Int) ∧ s.env 4 = .int .i64 (i : Int) ∧ s.env 5 = .int .i64 (k : Int) ∧ ∃ st, J st s.hs ∧ foldS step s0 (resF n 0) = foldS step st (rowF n i k ++ resF n (i + 1))) (fun k => n - k) (i + 1) ?_ ?_
    · exact ⟨by omega, by omega, by simp [e0], by simp [e1], by simp [e6], by simp [e7], by simp, by simp, st, by simpa using hJ, hf⟩
    rintro N2 k s hN2 ⟨hk1, hk, e0, e1, e6, e7, e4, e5, st, hJ, hf⟩
    simp [e0, e5]
    refine At.dec (fun hlt2 => ?_) (fun hlt2 => ?_)
    · have hk' : k < n := by omega
      rw [rowF_c hk'] at hf
      have hc := hcb st (i, k) s.hs (mem_resF.2 ⟨by simp only; omega, hk'⟩) hJ
      rw [List.cons_append, foldS] at hf
      simp [e1, e4, e5, afill, si, ci, setL]
      refine At.hc (R := fun e hs' => e = .ret (.bool (step st (i, k)).2) ∧ J (step st (i, k)).1 hs') ?_ ?_ ?_
      · simpa [prA] using hc
      rotate_left
      · rintro v hs2 ⟨hv, _⟩; cases hv
      rintro v hs2 ⟨hv, hJ2⟩
      injection hv with hv; subst hv
      cases hb : (step st (i, k)).2 with
      | false =>
        rw [hb] at hf
        simp only [Bool.false_eq_true, if_false] at hf
        simp
        rw [hf]; exact At.of hJ2
      | true =>
        rw [hb, if_pos rfl] at hf
        simp [e5]
        refine hN2 (k + 1) _ (by omega) ⟨by omega, by omega, by simp [e0], by simp [e1], by simp [e6], by simp [e7], by simp [e4], by simp [wrap_nat1 (show k < _ by omega)], _, by simpa using hJ2, hf⟩
    · have : k = n := by omega
      subst this
      rw [rowF_n (Nat.le_refl _), List.nil_append] at hf
      simp [e7]
      refine hN (i + 1) _ (by omega) ⟨by omega, by simp [e0], by simp [e1], by simp [e6], by simp [hw], st, by simpa using hJ, hf⟩
  · have : i = n := by omega
    subst this
    rw [resF_n (Nat.le_refl _), foldS] at hf
    simp
    rw [hf]; exact At.of hJ
end Go.Proofs.YtdcpkgedaflnmaaDoor.Xs
set_option linter.unusedVariables false
set_option linter.unusedSimpArgs false
namespace Go.Proofs.YtdcpkgedaflnmaaDoor.Xs
open Go Fw

def Sm (l : List Int) : Prop := ∀ n ∈ l, -1000000 ≤ n ∧ n ≤ 1000000
theorem OkL.sm {l : List Int} (h : OkL l) : Sm l := fun n hn => by have := h.bd n hn; omega
def dsN (l : List Int) (p : Pr) : Int := l.getD p.2 0 - l.getD p.1 0
def dsV (x : AV) : AV := .fn (.func 56) [] [.ptr x]
theorem getD_of {l : List Int} {i : Nat} (h : i < l.length) : l.getD i 0 = l[i] := by simp [List.getD, h]
theorem prA_sto (p : Pr) : (prA p).sto = true := rfl
theorem prA_0 (p : Pr) : aidxA 2 false 1 (.ptr (prA p)) (.int .i64 0) = some (.ptr (.int .i64 (p.1 : Int))) := rfl
theorem prA_1 (p : Pr) : aidxA 2 false 1 (.ptr (prA p)) (.int .i64 1) = some (.ptr (.int .i64 (p.2 : Int))) := rfl
theorem prA_ld (hp : Nat → Option (List AV)) (p : Pr) : aload hp true 2 (.ptr (prA p)) = some (prA p) := rfl
theorem prA_ne (p q : Pr) : abin 12 .neq (prA p) (prA q) = some (.bool (decide (p ≠ q))) := by
  obtain ⟨a, b⟩ := p
  obtain ⟨c, d⟩ := q
  show abin 12 .neq (.agg [.int .i64 (a : Int), .int .i64 (b : Int)]) (.agg [.int .i64 (c : Int), .int .i64 (d : Int)]) = _
  rw [abin_pair']
  congr 2
  rw [Bool.eq_iff_iff]
  simp
  omega
theorem asI_share' {x : AV} {l : List Int} (h : asI x = some l) : asI x.share = some l := asI_share h
theorem share_plain {x : AV} {l : List Int} (h : asI x = some l) : x.share.plain = true := by
  rcases asI_inv h with ⟨rfl, _⟩ | ⟨c, rfl⟩
  · rfl
  · rw [share_sl, share_ints]; cases c <;> exact plain_ints l
theorem p47 {x : AV} {l : List Int} (hx : asI x = some l) : PCall Tryd.prog 30 [x] (dsV x.share) := by
  refine PCall.of D2ok ok47 (by simp) ?_ fun hs hb => ?_
  · show (plainL [] && plainL [AV.ptr x.share]) = true
    simp [plainL, AV.plain, share_plain hx]
  · simp [A47, R47, asI_sto hx]
    simp [AV.share, shareL, dsV]
theorem p75 {C : PCtx} (hC : CtxOk Tryd.prog C) {x : AV} {l : List Int} (hx : asI x = some l) (hs : Sm l) {p : Pr} (h1 : p.1 < l.length) (h2 : p.2 < l.length) : PCall Tryd.prog 56 [prA p, .ptr x] (.int .i64 (dsN l p)) := by
  have b1 := hs l[p.1] (List.getElem_mem _)
  have b2 := hs l[p.2] (List.getElem_mem _)
  have hw : IntKind.i64.wrap (l[p.2] - l[p.1]) = dsN l p := by rw [wrap64 (by omega) (by omega), dsN, getD_of h1, getD_of h2]
  refine PCall.of hC ok75 (by simp) rfl fun hs hb => ?_
  simp [A75, R75, prA_sto, asI_ld hx, prA_0, prA_1, aidx_nat hx h1, aidx_nat hx h2, hw]
def zz : List AV := [.int .i64 0, .int .i64 0]
def prC (p : Pr) : List AV := [.int .i64 (p.1 : Int), .int .i64 (p.2 : Int)]
def one' : Option (Pr × Pr) → List AV
  | some (p, _) => prC p
  | none => zz
def two' : Option (Pr × Pr) → List AV
  | some (_, q) => prC q
  | none => zz
theorem one_len (v : Option (Pr × Pr)) : ∃ a b : Int, one' v = [.int .i64 a, .int .i64 b] := by
  cases v with
  | none => exact ⟨_, _, rfl⟩
  | some v => exact ⟨_, _, rfl⟩
theorem two_len (v : Option (Pr × Pr)) : ∃ a b : Int, two' v = [.int .i64 a, .int .i64 b] := by
  cases v with
  | none => exact ⟨_, _, rfl⟩
  | some v => exact ⟨_, _, rfl⟩
structure TwH (r : Nat) (v : Option (Pr × Pr)) (hs : HS) : Prop where
  lt : r + 2 < hs.nh
  h1 : hs.heap r = some (one' v)
  h2 : hs.heap (r + 1) = some (two' v)
  h3 : hs.heap (r + 2) = some [.bool v.isSome]
def st2 (num : Pr → Int) (p : Pr) (v : Option (Pr × Pr)) (q : Pr) : Option (Pr × Pr) × Bool :=
  let v' := if p ≠ q ∧ num p = num q then some (p, q) else v
  (v', !v'.isSome)
theorem q74 {f : FuncId} {az bz : List AV} {num : Pr → Int} {p q : Pr} (hp : PCall Tryd.prog f (az ++ [prA p] ++ bz) (.int .i64 (num p))) (hq : PCall Tryd.prog f (az ++ [prA q] ++ bz) (.int .i64 (num q))) {r : Nat} {v : Option (Pr × Pr)} {hs : HS} (hJ : TwH r v hs) :
    FCall Tryd.prog 55 [prA q, .ptr (prA p), .ptr (.fn (.func f) az bz), .ref r 0, .ref (r + 1) 0, .ref (r + 2) 0] hs fun e hs' => e = .ret (.bool (st2 num p v q).2) ∧ TwH r (st2 num p v q).1 hs' := by
  obtain ⟨lt, h1, h2, h3⟩ := hJ
  refine FCall.of_body D2ok ok74 (by simp) (At.i ?_)
  simp [A74, R74, prA_sto]
  refine At.any_to (fun s => s.env 19 = .bool (decide (p ≠ q ∧ num p = num q)) ∧ s.env 1 = .ptr (prA p) ∧ s.env 6 = .ptr (prA q) ∧ s.env 3 = .ref r 0 ∧ s.env 4 = .ref (r + 1) 0 ∧ s.env 5 = .ref (r + 2) 0 ∧ s.hs = hs) ?_ ?_
  · refine At.any_lg 0 (y := prA p) (v := prA p) endN_p rfl rfl (by simp [AS.want]) (by simp) rfl ?_
    refine At.any_lg 1 (y := prA q) (v := prA q) endN_p rfl rfl (by simp [AS.want]) (by simp) rfl ?_
    refine At.any_q 2 endN_p rfl rfl rfl ?_
    simp [prA_ne]
    refine At.any_q 3 endN_p rfl rfl rfl ?_
    by_cases hpq : p = q
    · simp [hpq]
      refine At.any_u 4 endN_p rfl rfl (by simp [AS.want]) ?_
      refine At.any_u 5 endN_p rfl rfl (by simp [AS.want]) ?_
      refine At.any_u 6 endN_p rfl rfl (by simp [AS.want]) ?_
      refine At.any_u 7 endN_p rfl rfl (by simp [AS.want]) ?_
      refine At.any_u 8 endN_p rfl rfl (by simp [AS.want]) ?_
      refine At.any_u 9 endN_p rfl rfl (by simp [AS.want]) ?_
      refine At.any_u 10 endN_p rfl rfl (by simp [AS.want]) ?_
      refine At.any_q 11 endN_p rfl rfl rfl ?_
      simp
      refine At.any_e rfl ?_
      exact At.of ⟨by simp, by simp [hpq], by simp, by simp, by simp, by simp, by simp⟩
    · simp [hpq]
      refine At.any_lg 4 (y := .fn (.func f) az bz) (v := .fn (.func f) az bz) endN_p rfl rfl (by simp [AS.want]) (by simp) rfl ?_
      refine At.any_lg 5 (y := prA p) (v := prA p) endN_p rfl rfl (by simp [AS.want]) (by simp) rfl ?_
      refine At.any_c 6 (f := f) (a1 := az) (a2 := bz) (v := .int .i64 (num p)) endN_p rfl rfl (by simp [AS.want]) (by simp) (by simpa using hp) ?_
      refine At.any_lg 7 (y := .fn (.func f) az bz) (v := .fn (.func f) az bz) endN_p rfl rfl (by simp [AS.want]) (by simp) rfl ?_
      refine At.any_lg 8 (y := prA q) (v := prA q) endN_p rfl rfl (by simp [AS.want]) (by simp) rfl ?_
      refine At.any_c 9 (f := f) (a1 := az) (a2 := bz) (v := .int .i64 (num q)) endN_p rfl rfl (by simp [AS.want]) (by simp) (by simpa using hq) ?_
      refine At.any_q 10 endN_p rfl rfl rfl ?_
      simp
      refine At.any_q 11 endN_p rfl rfl rfl ?_
      simp
      refine At.any_e rfl ?_
      exact At.of ⟨by simp [hpq], by simp, by simp, by simp, by simp, by simp, by simp⟩
  rintro s2 ⟨g19, g1, g6, g3, g4, g5, gh⟩
  by_cases hc : p ≠ q ∧ num p = num q
  · have e : st2 num p v q = (some (p, q), false) := by simp [st2, hc]
    rw [e]
    simp [g19, hc]
    refine At.any_to (fun s => s.env 5 = .ref (r + 2) 0 ∧ TwH r (some (p, q)) s.hs) ?_ ?_
    · refine At.any_lg 0 (y := prA p) (v := prA p) endN_p rfl rfl (by simp [AS.want]) (by simp [g1]) rfl ?_
      refine At.any_lg 1 (y := prA q) (v := prA q) endN_p rfl rfl (by simp [AS.want]) (by simp [g6]) rfl ?_
      obtain ⟨a1, b1, hl1⟩ := one_len v
      obtain ⟨a2, b2, hl2⟩ := two_len v
      rw [hl1] at h1
      rw [hl2] at h2
      refine At.any_o 2 rfl rfl ?_
      simp [g3, gh, prA, astore, h1, sa, ca, setL]
      refine At.any_o 3 rfl rfl ?_
      simp [g4, prA, astore, h2, sa, ca, setL]
      refine At.any_o 4 rfl rfl ?_
      simp [g5, prA, astore, h3, sb, cb, setL]
      refine At.any_e rfl ?_
      exact At.of ⟨by simp [g5], ⟨by simpa using lt, by simp [one', prC], by simp [two', prC], by simp⟩⟩
    · rintro s3 ⟨k5, kt, k1, k2, k3⟩
      simp [k5, la, k3, apart]
      exact At.of ⟨kt, k1, k2, k3⟩
  · have e : st2 num p v q = (v, !v.isSome) := by simp only [st2]; rw [if_neg hc]
    rw [e]
    simp [g19, hc]
    simp [g5, gh, la, h3, apart]
    exact At.of ⟨lt, h1, h2, h3⟩
def st1 (num : Pr → Int) (ps : List Pr) (v : Option (Pr × Pr)) (p : Pr) : Option (Pr × Pr) × Bool :=
  let v' := foldS (st2 num p) v ps
  (v', !v'.isSome)
theorem q73 {fa : FuncId} {ps : Nat → List Pr} (hI : IterOk fa ps) {n : Nat} (hn : n ≤ 1000000) {f : FuncId} {az bz : List AV} {num : Pr → Int} (hnum : ∀ p ∈ ps n, PCall Tryd.prog f (az ++ [prA p] ++ bz) (.int .i64 (num p))) {p : Pr} (hp : p ∈ ps n) {r : Nat} {v : Option (Pr × Pr)} {hs : HS} (hJ : TwH r v hs) :
    FCall Tryd.prog 54 [prA p, .ptr (.fn (.func fa) [] []), .ptr (.int .i64 (n : Int)), .ptr (.fn (.func f) az bz), .ref r 0, .ref (r + 1) 0, .ref (r + 2) 0] hs fun e hs' => e = .ret (.bool (st1 num (ps n) v p).2) ∧ TwH r (st1 num (ps n) v p).1 hs' := by
  refine FCall.of_body D2ok ok73 (by simp) (At.i ?_)
  simp [A73, R73, prA_sto, lpf]
  refine At.hc (hI (S := Option (Pr × Pr)) (step := st2 num p) (J := TwH r) (g := 55) (xs := []) (ys := [.ptr (prA p), .ptr (.fn (.func f) az bz), .ref r 0, .ref (r + 1) 0, .ref (r + 2) 0]) hn (s0 := v) hJ fun s q hs hq hJ2 => q74 (hnum p hp) (hnum q hq) hJ2) ?_ (fun v hs' h => by cases h.1)
  rintro w hs2 ⟨hv, ht, k1, k2, k3⟩
  injection hv with hv; subst hv
  simp [la, k3, apart]
  exact At.of ⟨by simp [st1], ht, k1, k2, k3⟩
def tw (num : Pr → Int) (ps : List Pr) : Option (Pr × Pr) := foldS (st1 num ps) none ps
def twV (v : Option (Pr × Pr)) : AV := .tup [.agg (one' v), .agg (two' v), .bool v.isSome]
theorem aRes_ccc {s : AS} {a b c : Nat} {x y z : AV} (h1 : aload s.hs.heap true 2 (s.env a) = some x) (h2 : aload s.hs.heap true 2 (s.env b) = some y) (h3 : aload s.hs.heap false 1 (s.env c) = some z) : aResult s [.cell true 2 a, .cell true 2 b, .cell false 1 c] = some (.tup [x, y, z]) := by simp [aResult, aResL, aRes, h1, h2, h3]
theorem one_ap (v : Option (Pr × Pr)) : apart true 2 0 (one' v) = some (.agg (one' v)) := by obtain ⟨a, b, h⟩ := one_len v; rw [h]; rfl
theorem two_ap (v : Option (Pr × Pr)) : apart true 2 0 (two' v) = some (.agg (two' v)) := by obtain ⟨a, b, h⟩ := two_len v; rw [h]; rfl
theorem one_pl (v : Option (Pr × Pr)) : plainL (one' v) = true := by obtain ⟨a, b, h⟩ := one_len v; rw [h]; rfl
theorem two_pl (v : Option (Pr × Pr)) : plainL (two' v) = true := by obtain ⟨a, b, h⟩ := two_len v; rw [h]; rfl
theorem twV_plain (v : Option (Pr × Pr)) : (twV v).plain = true := by simp [twV, AV.plain, plainL, one_pl, two_pl]
theorem one_st {hp : Nat → Option (List AV)} {i : Nat} {u v : Option (Pr × Pr)} (h : hp i = some (one' u)) : astore hp 2 (.ref i 0) (.agg (one' v)) = some (fun k => if k = i then some (one' v) else hp k) := by
  obtain ⟨a, b, e⟩ := one_len u
  obtain ⟨c, d, e2⟩ := one_len v
  rw [e] at h
  rw [e2]
  exact store_pair h
theorem two_st {hp : Nat → Option (List AV)} {i : Nat} {u v : Option (Pr × Pr)} (h : hp i = some (two' u)) : astore hp 2 (.ref i 0) (.agg (two' v)) = some (fun k => if k = i then some (two' v) else hp k) := by
  obtain ⟨a, b, e⟩ := two_len u
  obtain ⟨c, d, e2⟩ := two_len v
  rw [e] at h
  rw [e2]
  exact store_pair h
structure IT (r : Nat) (V : Option (Pr × Pr)) (done : List Nat) (s : AS) : Prop where
  a13 : 0 ∈ done → s.env 13 = .agg (one' V)
  a14 : 1 ∈ done → s.env 14 = .agg (two' V)
  a15 : 2 ∈ done → s.env 15 = .bool V.isSome
  a6 : s.env 6 = .ref r 0
  a7 : s.env 7 = .ref (r + 1) 0
  a8 : s.env 8 = .ref (r + 2) 0
  w1 : s.hs.heap r = some (one' V)
  w2 : s.hs.heap (r + 1) = some (two' V)
  w3 : s.hs.heap (r + 2) = some [.bool V.isSome]
theorem one_shm (v : Option (Pr × Pr)) : (one' v).map AV.share = one' v := by obtain ⟨a, b, h⟩ := one_len v; rw [h]; simp
theorem two_shm (v : Option (Pr × Pr)) : (two' v).map AV.share = two' v := by obtain ⟨a, b, h⟩ := two_len v; rw [h]; simp
theorem p45 {fa : FuncId} {ps : Nat → List Pr} (hI : IterOk fa ps) {n : Nat} (hn : n ≤ 1000000) {f : FuncId} {az bz : List AV} {num : Pr → Int} (hnum : ∀ p ∈ ps n, PCall Tryd.prog f (az ++ [prA p] ++ bz) (.int .i64 (num p))) :
    PCall Tryd.prog 28 [.int .i64 (n : Int), .fn (.func fa) [] [], .fn (.func f) az bz] (twV (tw num (ps n))) := by
  refine PCall.of D2ok ok45 (by simp) (twV_plain _) fun hs' hb => ?_
  generalize hr : hs'.nh = r
  simp [A45, R45, sf, lpf, hr]
  refine At.hc (hI (S := Option (Pr × Pr)) (step := st1 num (ps n)) (J := TwH r) (g := 54) (xs := []) (ys := [.ptr (.fn (.func fa) [] []), .ptr (.int .i64 (n : Int)), .ptr (.fn (.func f) az bz), .ref r 0, .ref (r + 1) 0, .ref (r + 2) 0]) hn (s0 := none) ?_ fun s p hs hp hJ2 => q73 hI hn hnum hp hJ2) ?_ (fun v hs' h => by cases h.1)
  · exact ⟨by simp, by simp [one', zz, show ¬ r = r + 1 + 1 by omega], by simp [two', zz, show ¬ r + 1 = r + 1 + 1 by omega], by simp⟩
  rintro w hs2 ⟨hv, ht, k1, k2, k3⟩
  injection hv with hv; subst hv
  rw [show foldS (st1 num (ps n)) none (ps n) = tw num (ps n) from rfl] at k1 k2 k3
  generalize tw num (ps n) = V at *
  simp
  refine At.any_inv (IT r V) rfl rfl ?_ ?_ ?_
  · exact ⟨by simp, by simp, by simp, by simp, by simp, by simp, k1, k2, k3⟩
  · rintro done i s hi hnd hdep ⟨a13, a14, a15, a6, a7, a8, w1, w2, w3⟩
    match i, hi with
    | 0, _ =>
      simp [a6, la, w1, one_ap]
      exact At.of ⟨by simp, fun h => by simpa using a14 (by simpa using h), fun h => by simpa using a15 (by simpa using h), by simp [a6], by simp [a7], by simp [a8], w1, w2, w3⟩
    | 1, _ =>
      simp [a7, la, w2, two_ap]
      exact At.of ⟨fun h => by simpa using a13 (by simpa using h), by simp, fun h => by simpa using a15 (by simpa using h), by simp [a6], by simp [a7], by simp [a8], w1, w2, w3⟩
    | 2, _ =>
      simp [a8, la, w3, apart]
      exact At.of ⟨fun h => by simpa using a13 (by simpa using h), fun h => by simpa using a14 (by simpa using h), by simp, by simp [a6], by simp [a7], by simp [a8], w1, w2, w3⟩
    | 3, _ =>
      have h0 : 0 ∈ done := hdep 0 (by simp)
      simp [a6, a13 h0, one_st w1]
      exact At.of ⟨fun h => by simpa using a13 (by simpa using h), fun h => by simpa using a14 (by simpa using h), fun h => by simpa using a15 (by simpa using h), by simp [a6], by simp [a7], by simp [a8], by simp, by simp [w2], by simp [w3]⟩
    | 4, _ =>
      have h0 : 1 ∈ done := hdep 1 (by simp)
      simp [a7, a14 h0, two_st w2]
      exact At.of ⟨fun h => by simpa using a13 (by simpa using h), fun h => by simpa using a14 (by simpa using h), fun h => by simpa using a15 (by simpa using h), by simp [a6], by simp [a7], by simp [a8], by simp [w1], by simp, by simp [w3]⟩
    | 5, _ =>
      have h0 : 2 ∈ done := hdep 2 (by simp)
      simp [a8, a15 h0, store_cell w3 (v := .bool V.isSome) (show 0 < [AV.bool V.isSome].length by simp) rfl]
      exact At.of ⟨fun h => by simpa using a13 (by simpa using h), fun h => by simpa using a14 (by simpa using h), fun h => by simpa using a15 (by simpa using h), by simp [a6], by simp [a7], by simp [a8], by simp [w1], by simp [w2], by simp⟩
    | n + 6, h => exact absurd h (by simp)
  · rintro done s hall ⟨a13, a14, a15, a6, a7, a8, w1, w2, w3⟩
    have := aRes_ccc (s := s) (a := 6) (b := 7) (c := 8) (x := .agg (one' V)) (y := .agg (two' V)) (z := .bool V.isSome) (by simp [a6, la, w1, one_ap]) (by simp [a7, la, w2, two_ap]) (by simp [a8, la, w3, apart])
    simp [this]
    simp [twV, one_shm, two_shm]
end Go.Proofs.YtdcpkgedaflnmaaDoor.Xs
set_option linter.unusedVariables false
set_option linter.unusedSimpArgs false
namespace Go.Proofs.YtdcpkgedaflnmaaDoor.Xs
open Go Fw

abbrev prs (ps : List Pr) : List AV := ps.map prA
theorem aRes_cct' {s : AS} {a b c : Nat} : aResult s [.cell true 2 a, .cell true 2 b, .t c] = (aload s.hs.heap true 2 (s.env a)).bind fun x => (aload s.hs.heap true 2 (s.env b)).map fun y => .tup [x, y, s.env c] := by
  simp only [aResult, aResL, aRes]
  cases aload s.hs.heap true 2 (s.env a) <;> cases aload s.hs.heap true 2 (s.env b) <;> rfl
end Go.Proofs.YtdcpkgedaflnmaaDoor.Xs
set_option linter.unusedVariables false
set_option linter.unusedSimpArgs false
namespace Go.Proofs.YtdcpkgedaflnmaaDoor.Xs
open Go Fw

theorem prs_snoc (A : List Pr) (p : Pr) : prs A ++ [prA p].map AV.share = prs (A ++ [p]) := by simp [prs, prA]
/-- two lists under way, side by side -/
structure Two (hs : HS) (y4 y5 : AV) (A : List Pr) (num : Pr → Int) : Prop where
  o4 : Outs 2 hs y4 (prs A)
  o5 : Outs 1 hs y5 (ints (A.map num))
  ap : Apart y4 y5
theorem Two.cong {hs hs' : HS} {y4 y5 : AV} {A : List Pr} {num : Pr → Int} (h : Two hs y4 y5 A num) (h1 : hs'.tok = hs.tok) (h2 : hs'.nt = hs.nt) : Two hs' y4 y5 A num := ⟨h.o4.cong h1 h2, h.o5.cong h1 h2, h.ap⟩
/-- two appends, one after the other -/
theorem At.two {hs : HS} {y4 y5 : AV} {A : List Pr} {num : Pr → Int} {p : Pr} {K : AV × HS → Prop} (h : Two hs y4 y5 A num) (hl : A.length ≤ 1000000)
    (k : ∀ y hs', SameMem hs hs' → (∀ {K2 : AV × HS → Prop}, (∀ z hs2, SameMem hs' hs2 → Two hs2 y z (A ++ [p]) num → At (K2 (z, hs2))) → At (optK (aappend 1 hs' y5 (.sl 1 [.int .i64 (num p)] .exact)) K2)) → At (K (y, hs'))) :
    At (optK (aappend 2 hs y4 (.sl 2 [prA p] .exact)) K) := by
  refine At.app h.o4 (ys := [prA p]) (asV_sl (by simp)) (by simp; omega) fun y hs' o1 s1 t1 => k y hs' s1 ?_
  intro K2 hK
  obtain ⟨g1, g2⟩ := t1 h.o5 h.ap
  refine At.app1 g1 (by simpa using hl) fun z hs2 o2 s2 t2 => hK z hs2 s2 ?_
  obtain ⟨g3, g4⟩ := t2 o1 g2.symm
  rw [prs_snoc] at g3
  exact ⟨g3, by simpa using o2, g4.symm⟩
end Go.Proofs.YtdcpkgedaflnmaaDoor.Xs
set_option linter.unusedVariables false
set_option linter.unusedSimpArgs false
namespace Go.Proofs.YtdcpkgedaflnmaaDoor.Xs
open Go Fw

structure I5 (a b c1 c2 d1 d2 e : Nat) (k : AV) (pa pb p1 p2 : Nat) (V : Option (Pr × Pr)) (done : List Nat) (s : AS) : Prop where
  ea : s.env a = .ref pa 0
  eb : s.env b = .ref pb 0
  e1 : s.env c1 = .ref p1 0
  e2 : s.env c2 = .ref p2 0
  x0 : 0 ∈ done → s.env d1 = .agg (one' V)
  x1 : 1 ∈ done → s.env d2 = .agg (two' V)
  ha : s.hs.heap pa = some (one' V)
  hb : s.hs.heap pb = some (two' V)
  h1 : ∃ U, s.hs.heap p1 = some (one' U)
  h2 : ∃ U, s.hs.heap p2 = some (two' U)
  x2 : 2 ∈ done → s.hs.heap p1 = some (one' V)
  x3 : 3 ∈ done → s.hs.heap p2 = some (two' V)
  x4 : 4 ∈ done → s.env e = k
structure F5 (c1 c2 e : Nat) (k : AV) (p1 p2 : Nat) (V : Option (Pr × Pr)) (s : AS) : Prop where
  e1 : s.env c1 = .ref p1 0
  e2 : s.env c2 = .ref p2 0
  ee : s.env e = k
  h1 : s.hs.heap p1 = some (one' V)
  h2 : s.hs.heap p2 = some (two' V)
theorem reg5 {C : PCtx} {a b c1 c2 d1 d2 e : Nat} {k : AV} {pa pb p1 p2 : Nat} {V : Option (Pr × Pr)} {s : AS} {Q : AEx → AS → Prop}
    (n1 : ∀ x ∈ [a, b, c1, c2], ¬ x = d1 ∧ ¬ x = d2 ∧ ¬ x = e) (n2 : ¬ d1 = d2 ∧ ¬ d1 = e ∧ ¬ d2 = e ∧ ¬ d2 = d1) (n3 : p1 ≠ pb ∧ p2 ≠ pa ∧ p1 ≠ p2) (h0 : I5 a b c1 c2 d1 d2 e k pa pb p1 p2 V [] s)
    (h2 : ∀ s', F5 c1 c2 e k p1 p2 V s' → At (Q .normal s')) :
    At (anyW Tryd.prog C [[], [], [0, 0], [1, 2, 0, 1, 2], [3, 0, 1, 2, 3]] [⟨some d1, none, .load true 2 (.t a)⟩, ⟨some d2, none, .load true 2 (.t b)⟩, ⟨none, none, .store 2 (.t c1) (.t d1)⟩, ⟨none, none, .store 2 (.t c2) (.t d2)⟩, ⟨some e, none, .mv (.c k)⟩] 5 [] Q s) := by
  obtain ⟨⟨na1, na2, na3⟩, ⟨nb1, nb2, nb3⟩, ⟨nc1, nc2, nc3⟩, ⟨nd1, nd2, nd3⟩⟩ : (¬ a = d1 ∧ ¬ a = d2 ∧ ¬ a = e) ∧ (¬ b = d1 ∧ ¬ b = d2 ∧ ¬ b = e) ∧ (¬ c1 = d1 ∧ ¬ c1 = d2 ∧ ¬ c1 = e) ∧ (¬ c2 = d1 ∧ ¬ c2 = d2 ∧ ¬ c2 = e) := ⟨n1 a (by simp), n1 b (by simp), n1 c1 (by simp), n1 c2 (by simp)⟩
  obtain ⟨m1, m2, m3, m4⟩ := n2
  obtain ⟨q1, q2, q3⟩ := n3
  have q1' := Ne.symm q1
  have q2' := Ne.symm q2
  have q3' := Ne.symm q3
  refine At.any_inv (I5 a b c1 c2 d1 d2 e k pa pb p1 p2 V) rfl rfl h0 ?_ ?_
  · rintro done i s hi hnd hdep ⟨ea, eb, e1, e2, x0, x1, ha, hb, h1, h2, x2, x3, x4⟩
    match i, hi with
    | 0, _ =>
      simp [ea, la, ha, one_ap]
      exact At.of ⟨by simp [na1, ea], by simp [nb1, eb], by simp [nc1, e1], by simp [nd1, e2], by simp, fun h => by simpa [m4] using x1 (by simpa using h), ha, hb, h1, h2, fun h => x2 (by simpa using h), fun h => x3 (by simpa using h), fun h => by simpa [Ne.symm m2] using x4 (by simpa using h)⟩
    | 1, _ =>
      simp [eb, la, hb, two_ap]
      exact At.of ⟨by simp [na2, ea], by simp [nb2, eb], by simp [nc2, e1], by simp [nd2, e2], fun h => by simpa [m1] using x0 (by simpa using h), by simp, ha, hb, h1, h2, fun h => x2 (by simpa using h), fun h => x3 (by simpa using h), fun h => by simpa [Ne.symm m3] using x4 (by simpa using h)⟩
    | 2, _ =>
      obtain ⟨U, hU⟩ := h1
      have y0 := x0 (hdep 0 (by simp))
      simp [e1, y0, one_st hU]
      refine At.of ⟨by simp [ea], by simp [eb], by simp [e1], by simp [e2], fun h => by simp [y0], fun h => by simpa using x1 (by simpa using h), ?_, ?_, ⟨V, by simp⟩, ?_, by simp, ?_, fun h => by simpa using x4 (by simpa using h)⟩
      · simp [ha]
      · simp [q1', hb]
      · obtain ⟨U2, hU2⟩ := h2; exact ⟨U2, by simp [q3', hU2]⟩
      · intro h; simp [q3', x3 (by simpa using h)]
    | 3, _ =>
      obtain ⟨U, hU⟩ := h2
      have y1 := x1 (hdep 1 (by simp))
      simp [e2, y1, two_st hU]
      refine At.of ⟨by simp [ea], by simp [eb], by simp [e1], by simp [e2], fun h => by simpa using x0 (by simpa using h), fun h => by simp [y1], ?_, ?_, ?_, ⟨V, by simp⟩, ?_, by simp, fun h => by simpa using x4 (by simpa using h)⟩
      · simp [q2', ha]
      · simp [hb]
      · obtain ⟨U2, hU2⟩ := h1; exact ⟨U2, by simp [q3, hU2]⟩
      · intro h; simp [q3, x2 (by simpa using h)]
    | 4, _ =>
      simp
      exact At.of ⟨by simp [na3, ea], by simp [nb3, eb], by simp [nc3, e1], by simp [nd3, e2], fun h => by simpa [m2] using x0 (by simpa using h), fun h => by simpa [m3] using x1 (by simpa using h), ha, hb, h1, h2, fun h => x2 (by simpa using h), fun h => x3 (by simpa using h), by simp⟩
    | n + 5, h => exact absurd h (by simp)
  · rintro done s hall ⟨ea, eb, e1, e2, x0, x1, ha, hb, h1, h3, x2, x3, x4⟩
    exact h2 s ⟨e1, e2, x4 (hall 4 (by simp)), x2 (hall 2 (by simp)), x3 (hall 3 (by simp))⟩
structure I6 (a b d1 d2 d3 r e : Nat) (k : AV) (pa pb : Nat) (V : Option (Pr × Pr)) (done : List Nat) (s : AS) : Prop where
  ea : s.env a = .ref pa 0
  eb : s.env b = .ref pb 0
  x0 : 0 ∈ done → s.env d1 = .agg (one' V)
  x1 : 1 ∈ done → s.env d2 = .agg (two' V)
  ha : s.hs.heap pa = some (one' V)
  hb : s.hs.heap pb = some (two' V)
  xr : 5 ∉ done → s.env r = k
  x2 : 2 ∈ done → s.env d3 = k
  x5 : 5 ∈ done → s.env e = k
  h52 : 5 ∈ done → 2 ∈ done
theorem reg6 {C : PCtx} {a b d1 d2 d3 r e : Nat} {k : AV} {pa pb : Nat} {V : Option (Pr × Pr)} {s : AS} {Q : AEx → AS → Prop}
    (n1 : ∀ x ∈ [a, b], ¬ x = d1 ∧ ¬ x = d2 ∧ ¬ x = d3 ∧ ¬ x = e) (n2 : ¬ d1 = d2 ∧ ¬ d1 = d3 ∧ ¬ d2 = d3 ∧ ¬ d1 = e ∧ ¬ d2 = e ∧ ¬ d3 = e) (n3 : ¬ r = d1 ∧ ¬ r = d2 ∧ ¬ r = d3) (n4 : pa ≠ pb) (h0 : I6 a b d1 d2 d3 r e k pa pb V [] s)
    (h2 : ∀ s', F5 a b e k pa pb V s' → At (Q .normal s')) :
    At (anyW Tryd.prog C [[], [], [], [0, 0], [1, 3, 0, 1, 3], [2, 4, 0, 1, 2, 3, 4]] [⟨some d1, none, .load true 2 (.t a)⟩, ⟨some d2, none, .load true 2 (.t b)⟩, ⟨some d3, none, .mv (.t r)⟩, ⟨none, none, .store 2 (.t a) (.t d1)⟩, ⟨none, none, .store 2 (.t b) (.t d2)⟩, ⟨some e, none, .mv (.t d3)⟩] 6 [] Q s) := by
  obtain ⟨⟨na1, na2, na3, na4⟩, ⟨nb1, nb2, nb3, nb4⟩⟩ : (¬ a = d1 ∧ ¬ a = d2 ∧ ¬ a = d3 ∧ ¬ a = e) ∧ (¬ b = d1 ∧ ¬ b = d2 ∧ ¬ b = d3 ∧ ¬ b = e) := ⟨n1 a (by simp), n1 b (by simp)⟩
  obtain ⟨m1, m2, m3, m4, m5, m6⟩ := n2
  obtain ⟨r1, r2, r3⟩ := n3
  have q1' := Ne.symm n4
  refine At.any_inv (I6 a b d1 d2 d3 r e k pa pb V) rfl rfl h0 ?_ ?_
  · rintro done i s hi hnd hdep ⟨ea, eb, x0, x1, ha, hb, xr, x2, x5, h52⟩
    match i, hi with
    | 0, _ =>
      simp [ea, la, ha, one_ap]
      exact At.of ⟨by simp [na1, ea], by simp [nb1, eb], by simp, fun h => by simpa [Ne.symm m1] using x1 (by simpa using h), ha, hb, fun h => by simpa [r1] using xr (by simpa using h), fun h => by simpa [Ne.symm m2] using x2 (by simpa using h), fun h => by simpa [Ne.symm m4] using x5 (by simpa using h), fun h => by simpa using h52 (by simpa using h)⟩
    | 1, _ =>
      simp [eb, la, hb, two_ap]
      exact At.of ⟨by simp [na2, ea], by simp [nb2, eb], fun h => by simpa [m1] using x0 (by simpa using h), by simp, ha, hb, fun h => by simpa [r2] using xr (by simpa using h), fun h => by simpa [Ne.symm m3] using x2 (by simpa using h), fun h => by simpa [Ne.symm m5] using x5 (by simpa using h), fun h => by simpa using h52 (by simpa using h)⟩
    | 2, _ =>
      have h5 : 5 ∉ done := fun h => hnd (h52 h)
      simp [xr h5]
      exact At.of ⟨by simp [na3, ea], by simp [nb3, eb], fun h => by simpa [m2] using x0 (by simpa using h), fun h => by simpa [m3] using x1 (by simpa using h), ha, hb, fun h => by simpa [r3] using xr h5, by simp, fun h => by simpa [Ne.symm m6] using x5 (by simpa using h), by simp⟩
    | 3, _ =>
      have y0 := x0 (hdep 0 (by simp))
      simp [ea, y0, one_st ha]
      refine At.of ⟨by simp [ea], by simp [eb], fun h => by simp [y0], fun h => by simpa using x1 (by simpa using h), by simp, ?_, fun h => by simpa using xr (by simpa using h), fun h => by simpa using x2 (by simpa using h), fun h => by simpa using x5 (by simpa using h), fun h => by simpa using h52 (by simpa using h)⟩
      simp [q1', hb]
    | 4, _ =>
      have y1 := x1 (hdep 1 (by simp))
      simp [eb, y1, two_st hb]
      refine At.of ⟨by simp [ea], by simp [eb], fun h => by simpa using x0 (by simpa using h), fun h => by simp [y1], ?_, by simp, fun h => by simpa using xr (by simpa using h), fun h => by simpa using x2 (by simpa using h), fun h => by simpa using x5 (by simpa using h), fun h => by simpa using h52 (by simpa using h)⟩
      simp [n4, ha]
    | 5, _ =>
      have y2 := x2 (hdep 2 (by simp))
      simp [y2]
      exact At.of ⟨by simp [na4, ea], by simp [nb4, eb], fun h => by simpa [m4] using x0 (by simpa using h), fun h => by simpa [m5] using x1 (by simpa using h), ha, hb, fun h => absurd (by simp) h, fun h => by simp [m6, y2], by simp, fun _ => by simp [hdep 2 (by simp)]⟩
    | n + 6, h => exact absurd h (by simp)
  · rintro done s hall ⟨ea, eb, x0, x1, ha, hb, xr, x2, x5, h52⟩
    exact h2 s ⟨ea, eb, x5 (hall 5 (by simp)), ha, hb⟩
end Go.Proofs.YtdcpkgedaflnmaaDoor.Xs
set_option linter.unusedVariables false
set_option linter.unusedSimpArgs false
namespace Go.Proofs.YtdcpkgedaflnmaaDoor.Xs
open Go Fw

theorem At.one {hp : Nat → Option (List AV)} {i : Nat} {V : Option (Pr × Pr)} {K : (Nat → Option (List AV)) → Prop} (U : Option (Pr × Pr)) (h : hp i = some (one' U)) (k : At (K fun k => if k = i then some (one' V) else hp k)) : At (optK (astore hp 2 (.ref i 0) (.agg (one' V))) K) := by rw [one_st h]; exact k
theorem At.tw2 {hp : Nat → Option (List AV)} {i : Nat} {V : Option (Pr × Pr)} {K : (Nat → Option (List AV)) → Prop} (U : Option (Pr × Pr)) (h : hp i = some (two' U)) (k : At (K fun k => if k = i then some (two' V) else hp k)) : At (optK (astore hp 2 (.ref i 0) (.agg (two' V))) K) := by rw [two_st h]; exact k
/-- what is returned of two pairs -/
def twR (e : Int) (V : Option (Pr × Pr)) : AV := .tup [.agg (one' V), .agg (two' V), .int .i64 e]
theorem twR_plain (e : Int) (V : Option (Pr × Pr)) : (twR e V).plain = true := by simp [twR, AV.plain, plainL, one_pl, two_pl]
def twE (V : Option (Pr × Pr)) : Int := if V.isSome = true then 0 else 5
theorem tw_pairs {x : AV} {l : List Int} (hx : asI x = some l) (hs : Sm l) (hl : l.length ≤ 64) : PCall Tryd.prog 28 [.int .i64 (l.length : Int), .fn (.func 29) [] [], dsV x] (twV (tw (dsN l) (resF l.length 0))) := by
  refine p45 (ps := fun n => resF n 0) p46 (by omega) fun p hp => ?_
  obtain ⟨h1, h2⟩ := mem_resF.1 hp
  simpa using p75 .nil hx hs (by omega) h2
theorem F5.res {c1 c2 e p1 p2 : Nat} {k : AV} {V : Option (Pr × Pr)} {s : AS} (h : F5 c1 c2 e k p1 p2 V s) : aResult s [.cell true 2 c1, .cell true 2 c2, .t e] = some (.tup [.agg (one' V), .agg (two' V), k]) := by
  obtain ⟨h1, h2, h3, h4, h5⟩ := h
  rw [aRes_cct', h1, h2, la, la, h4, h5]
  simp [one_ap, two_ap, h3]
def twiR (l : List Int) : AV := if chkE l = 0 then twR (twE (tw (dsN l) (resF l.length 0))) (tw (dsN l) (resF l.length 0)) else twR (chkE l) none
theorem p17 {x : AV} {l : List Int} (hx : asI x = some l) : PCall Tryd.prog 9 [x] (twiR l) := by
  have hpl : (twiR l).plain = true := by unfold twiR; split <;> exact twR_plain _ _
  by_cases he : chkE l = 0
  · have hok := chkE_zero.1 he
    have hs := hok.sm
    have hl := hok.eight
    obtain ⟨C, hC, k24, k47, k45⟩ : ∃ C, CtxOk Tryd.prog C ∧ C 27 [x] = some (.int .i64 (chkE l)) ∧ C 30 [x] = some (dsV x.share) ∧ C 28 [.int .i64 (l.length : Int), .fn (.func 29) [] [], dsV x.share] = some (twV (tw (dsN l) (resF l.length 0))) :=
      ⟨_, ((CtxOk.nil.pt (p24 hx)).pt (p47 hx)).pt (tw_pairs (asI_share' hx) hs (by omega)), by simp, by simp, by simp⟩
    have hR : twiR l = twR (twE (tw (dsN l) (resF l.length 0))) (tw (dsN l) (resF l.length 0)) := by rw [twiR, if_pos he]
    refine PCall.of hC ok17 (by simp) hpl fun hs' hb => ?_
    rw [hR]
    generalize tw (dsN l) (resF l.length 0) = V at *
    generalize hr : hs'.nh = r
    have hne : ¬ r = r + 1 := by omega
    simp [A17, R17, k24, he, alen_of hx, k47, k45, twV, hr]
    refine At.one none (by simp [one', zz, hne]) ?_
    simp
    refine At.tw2 none (by simp [two', zz, hne]) ?_
    simp
    cases hV : V.isSome with
    | false =>
      have hN : V.isNone = true := by simpa using hV
      simp [hN]
      refine reg5 (pa := r) (pb := r + 1) (p1 := r) (p2 := r + 1) (V := V) (by decide) (by decide) ⟨by omega, by omega, by omega⟩ ⟨by simp, by simp, by simp, by simp, by simp, by simp, by simp [hne], by simp, ⟨V, by simp [hne]⟩, ⟨V, by simp⟩, by simp, by simp, by simp⟩ ?_
      intro s' hF
      simp [hF.res]
      simp [twR, one_shm, two_shm, twE, hV]
    | true =>
      have hN : V.isNone = false := by cases V <;> simp_all
      simp [hN]
      refine reg5 (pa := r) (pb := r + 1) (p1 := r) (p2 := r + 1) (V := V) (by decide) (by decide) ⟨by omega, by omega, by omega⟩ ⟨by simp, by simp, by simp, by simp, by simp, by simp, by simp [hne], by simp, ⟨V, by simp [hne]⟩, ⟨V, by simp⟩, by simp, by simp, by simp⟩ ?_
      intro s' hF
      simp [hF.res]
      simp [twR, one_shm, two_shm, twE, hV]
  · obtain ⟨C, hC, k24⟩ : ∃ C, CtxOk Tryd.prog C ∧ C 27 [x] = some (.int .i64 (chkE l)) := ⟨_, CtxOk.nil.pt (p24 hx), by simp⟩
    have hR : twiR l = twR (chkE l) none := by rw [twiR, if_neg he]
    refine PCall.of hC ok17 (by simp) hpl fun hs' hb => ?_
    rw [hR]
    generalize hr : hs'.nh = r
    have hne : ¬ r = r + 1 := by omega
    simp [A17, R17, k24, he, hr]
    refine reg6 (k := .int .i64 (chkE l)) (pa := r) (pb := r + 1) (V := none) (by decide) (by decide) (by decide) (by omega) ⟨by simp, by simp, by simp, by simp, by simp [hne, one', zz], by simp [two', zz], by simp, by simp, by simp, by simp⟩ ?_
    intro s' hF
    simp [hF.res]
    simp [twR, one_shm, two_shm]
end Go.Proofs.YtdcpkgedaflnmaaDoor.Xs
set_option linter.unusedVariables false
set_option linter.unusedSimpArgs false
namespace Go.Proofs.YtdcpkgedaflnmaaDoor.Xs
open Go Fw

end Go.Proofs.YtdcpkgedaflnmaaDoor.Xs
set_option linter.unusedVariables false
set_option linter.unusedSimpArgs false
namespace Go.Proofs.YtdcpkgedaflnmaaDoor.Xs
open Go Fw

/-- a block of truth values -/
def blF (n : Nat) (f : Nat → Bool) : List AV := (List.range n).map fun i => .bool (f i)
theorem blF_len (n : Nat) (f : Nat → Bool) : (blF n f).length = n := by simp [blF]
theorem blF_get {n : Nat} {f : Nat → Bool} {i : Nat} (h : i < n) : (blF n f)[i]'(by rw [blF_len]; exact h) = .bool (f i) := by simp [blF]
theorem blF_set {n : Nat} {f : Nat → Bool} {i : Nat} {b : Bool} : (blF n f).set i (.bool b) = blF n (fun j => if j = i then b else f j) := by
  refine List.ext_getElem (by simp [blF]) fun j h1 h2 => ?_
  have hj : j < n := by simpa [blF] using h2
  rw [List.getElem_set]
  split
  · rename_i h; subst h; rw [blF_get hj, if_pos rfl]
  · rename_i h
    rw [blF_get hj, blF_get hj, if_neg (fun e => h e.symm)]
theorem blF_ap {n : Nat} {f : Nat → Bool} : apart true n 0 (blF n f) = some (.agg (blF n f)) := by
  unfold apart
  simp only [if_true]
  rw [if_pos (by rw [blF_len]; omega), List.drop_zero, List.take_of_length_le (by rw [blF_len]; omega)]
theorem blF_plain {n : Nat} {f : Nat → Bool} : plainL (blF n f) = true := by
  unfold blF
  induction List.range n with
  | nil => rfl
  | cons a l ih => simpa [plainL, AV.plain] using ih
theorem blF_share {n : Nat} {f : Nat → Bool} : (blF n f).map AV.share = blF n f := by
  unfold blF; rw [List.map_map]; rfl
theorem bl_st {hp : Nat → Option (List AV)} {i n : Nat} {f g : Nat → Bool} (h : hp i = some (blF n f)) : astore hp n (.ref i 0) (.agg (blF n g)) = some (fun k => if k = i then some (blF n g) else hp k) := by
  simp only [astore, h, Option.bind_some, AV.sto, ca, blF_len, true_and, Nat.zero_add, Nat.le_refl, if_true]
  congr 1
  funext k
  split
  · congr 1
    have key : ∀ (xs ys zs : List AV), ys.length = xs.length → setL (zs ++ ys) zs.length xs = zs ++ xs := by
      intro xs
      induction xs with
      | nil => intro ys zs h; simp only [setL]; rw [List.length_eq_zero_iff.1 h]
      | cons x xs ih =>
        intro ys zs h
        match ys, h with
        | y :: ys, h =>
          simp only [setL]
          have := ih ys (zs ++ [x]) (by simpa using h)
          simp only [List.length_append, List.length_cons, List.length_nil, Nat.zero_add, List.append_assoc, List.cons_append, List.nil_append] at this
          rw [List.set_append_right _ _ (Nat.le_refl _), Nat.sub_self, List.set_cons_zero]
          exact this
    have := key (blF n g) (blF n f) [] (by simp [blF_len])
    simpa using this
  · rfl
theorem bl_ix {q n : Nat} {i : Nat} (h : i < n) : aidxA n false 1 (.ref q 0) (.int .i64 (i : Int)) = some (.ref q i) := by
  simp only [aidxA]
  rw [if_pos ⟨by omega, by omega⟩]
  simp [afaddr]
theorem bl_ld {hp : Nat → Option (List AV)} {q n : Nat} {f : Nat → Bool} {i : Nat} (hq : hp q = some (blF n f)) (h : i < n) : aload hp false 1 (.ref q i) = some (.bool (f i)) := by
  rw [load_cell hq (by rw [blF_len]; exact h), blF_get h]
theorem bl_sc {hp : Nat → Option (List AV)} {q n : Nat} {f : Nat → Bool} {i : Nat} {b : Bool} (hq : hp q = some (blF n f)) (h : i < n) : astore hp 1 (.ref q i) (.bool b) = some (fun k => if k = q then some (blF n (fun j => if j = i then b else f j)) else hp k) := by
  rw [store_cell hq (by rw [blF_len]; exact h) rfl, blF_set]
/-- a rule, or the beginning of one -/
structure Rl (l : List Int) : Prop where
  len : l.length ≤ 64
  bd : ∀ n ∈ l, 0 ≤ n ∧ n ≤ 60
  asc : l.Pairwise (· < ·)
theorem OkL.rl {l : List Int} (h : OkL l) : Rl l := ⟨by have := h.eight; omega, h.bd, h.asc⟩
theorem Rl.sm {l : List Int} (h : Rl l) : Sm l := fun n hn => by have := h.bd n hn; omega
theorem Rl.ds {l : List Int} (h : Rl l) {p : Pr} (h1 : p.1 < p.2) (h2 : p.2 < l.length) : 1 ≤ dsN l p ∧ dsN l p ≤ 60 := by
  rw [dsN, getD_of h2, getD_of (by omega : p.1 < l.length)]
  have b1 := h.bd l[p.1] (List.getElem_mem _)
  have b2 := h.bd l[p.2] (List.getElem_mem _)
  have := List.pairwise_iff_getElem.1 h.asc p.1 p.2 (by omega) h2 h1
  omega
def measB (l : List Int) (n : Int) : Bool := (resF l.length 0).any fun p => decide (dsN l p = n)
def stM (l : List Int) (f : Nat → Bool) (p : Pr) : (Nat → Bool) × Bool := (fun j => if j = (dsN l p).toNat then true else f j, true)
theorem foldM (l : List Int) : ∀ (ps : List Pr) (f : Nat → Bool) (j : Nat), foldS (stM l) f ps j = (f j || ps.any fun p => decide (j = (dsN l p).toNat))
  | [], f, j => by simp [foldS]
  | p :: ps, f, j => by
    have : foldS (stM l) f (p :: ps) = foldS (stM l) (stM l f p).1 ps := by simp [foldS, stM]
    rw [this, foldM l ps]
    simp only [stM, List.any_cons]
    by_cases h : j = (dsN l p).toNat
    · simp [h]
    · simp [h]
theorem measured_eq {l : List Int} (h : Rl l) : blF 61 (foldS (stM l) (fun _ => false) (resF l.length 0)) = blF 61 (fun n => measB l (n : Int)) := by
  congr 1
  funext n
  rw [foldM, Bool.false_or, measB]
  rw [Bool.eq_iff_iff]
  simp only [List.any_eq_true, decide_eq_true_eq]
  constructor
  · rintro ⟨p, hp, e⟩
    obtain ⟨h1, h2⟩ := mem_resF.1 hp
    have := h.ds h1 h2
    exact ⟨p, hp, by omega⟩
  · rintro ⟨p, hp, e⟩
    exact ⟨p, hp, by omega⟩
theorem q86 {x : AV} {l : List Int} (hx : asI x = some l) (h : Rl l) {q : Nat} {f : Nat → Bool} {p : Pr} (hp : p ∈ resF l.length 0) {hs : HS} (hq : hs.heap q = some (blF 61 f)) (hlt : q < hs.nh) :
    FCall Tryd.prog 86 [prA p, .ref q 0, .ptr x] hs fun e hs' => e = .ret (.bool (stM l f p).2) ∧ hs'.heap q = some (blF 61 (stM l f p).1) ∧ q < hs'.nh ∧ ∀ k, k ≠ q → hs'.heap k = hs.heap k := by
  obtain ⟨h1, h2⟩ := mem_resF.1 hp
  have hd := h.ds h1 h2
  obtain ⟨d, hdd⟩ : ∃ d : Nat, dsN l p = (d : Int) := ⟨(dsN l p).toNat, by omega⟩
  obtain ⟨C, hC, k47⟩ : ∃ C, CtxOk Tryd.prog C ∧ C 30 [x] = some (dsV x.share) := ⟨_, CtxOk.nil.pt (p47 hx), by simp⟩
  refine FCall.of_body hC ok86 (by simp) (At.i ?_)
  simp [A86, R86, prA_sto, asI_ld hx, k47, prA_ld, dsV]
  refine At.hc ((p75 hC (asI_share' hx) h.sm (by omega) h2).fcall hs) ?_ (fun v hs' h => by cases h.1)
  rintro v hs2 ⟨hv, rfl⟩
  injection hv with hv; subst hv
  rw [hdd]
  simp [bl_ix (show d < 61 by omega), bl_sc hq (show d < 61 by omega)]
  exact At.of ⟨rfl, by simp [stM, hdd], hlt, fun k hk => by simp [hk]⟩
theorem p76 {x : AV} {l : List Int} (hx : asI x = some l) (h : Rl l) : PCall Tryd.prog 57 [x] (.agg (blF 61 fun n => measB l (n : Int))) := by
  refine PCall.of D2ok ok76 (by simp) (by simp [AV.plain, blF_plain]) fun hs' hb => ?_
  rw [← measured_eq h]
  generalize hr : hs'.nh = r
  have hne : ¬ r = r + 1 := by omega
  have b0 : blF 61 (fun _ => false) = List.replicate 61 (.bool false) := rfl
  simp only [A76, R76, ← b0]
  simp [asI_sto hx, asI_ld hx, alen_of hx, hr]
  refine At.hc (p46 (S := Nat → Bool) (step := stM l) (J := fun f hs => hs.heap (r + 1) = some (blF 61 f) ∧ r + 1 < hs.nh ∧ hs.heap r = some (blF 61 fun _ => false)) (g := 86) (xs := []) (ys := [.ref (r + 1) 0, .ptr x]) (by have := h.len; omega) (s0 := fun _ => false) ?_ fun s p hs hp hJ2 => ?_) ?_ (fun v hs' h => by cases h.1)
  · exact ⟨by simp, by simp, by simp [hne]⟩
  · refine FCall.mono (q86 hx h hp hJ2.1 hJ2.2.1) ?_
    rintro e hs' ⟨g1, g2, g3, g4⟩
    exact ⟨g1, g2, g3, by rw [g4 r hne]; exact hJ2.2.2⟩
  rintro w hs2 ⟨hv, k1, k2, k3⟩
  injection hv with hv; subst hv
  simp [la, k1, blF_ap, bl_st k3, aResult_cs]
  simp [blF_share]
/-- the length of a rule -/
def lenN (l : List Int) : Int := l.getD (l.length - 1) 0 - l.getD 0 0
theorem p71 {x : AV} {l : List Int} (hx : asI x = some l) (hs : Sm l) (hne : 0 < l.length) : PCall Tryd.prog 58 [x] (.int .i64 (lenN l)) := by
  have hl := asI_len hx
  have hlast : l.length - 1 < l.length := by omega
  have hwl : IntKind.i64.wrap ((l.length : Int) - 1) = ((l.length - 1 : Nat) : Int) := by rw [wrap64 (by omega) (by omega)]; omega
  have b1 := hs l[0] (List.getElem_mem _)
  have b2 := hs l[l.length - 1] (List.getElem_mem _)
  have hd : IntKind.i64.wrap (l[l.length - 1] - l[0]) = lenN l := by rw [wrap64 (by omega) (by omega), lenN, getD_of hlast, getD_of hne]
  have h0 := aidx_nat hx hne (k := .i64)
  rw [show ((0 : Nat) : Int) = 0 from rfl] at h0
  refine PCall.of D2ok ok71 (by simp) rfl fun hs' hb => ?_
  simp [A71, R71, alen_of hx, hwl, aidx_nat hx hlast, h0, hd]
/-- the numbers that are distances, or are none -/
def wiL (l : List Int) (is : Bool) : List Int := ((List.range' 1 (lenN l).toNat).filter fun (n : Nat) => decide (measB l (n : Int) = is)).map fun (n : Nat) => (n : Int)
def wiF (l : List Int) (is : Bool) (n : Nat) : List Int := ((List.range' n ((lenN l).toNat + 1 - n)).filter fun (n : Nat) => decide (measB l (n : Int) = is)).map fun (n : Nat) => (n : Int)
theorem wiF_c {l : List Int} {is : Bool} {n : Nat} (h : n ≤ (lenN l).toNat) : wiF l is n = if measB l (n : Int) = is then (n : Int) :: wiF l is (n + 1) else wiF l is (n + 1) := by
  unfold wiF
  rw [show (lenN l).toNat + 1 - n = ((lenN l).toNat + 1 - (n + 1)) + 1 by omega, List.range'_succ, List.filter_cons]
  by_cases h : measB l (n : Int) = is
  · rw [if_pos (by simpa using h), if_pos h]; rfl
  · rw [if_neg (by simpa using h), if_neg h]
theorem wiF_n {l : List Int} {is : Bool} {n : Nat} (h : (lenN l).toNat < n) : wiF l is n = [] := by
  unfold wiF
  rw [show (lenN l).toNat + 1 - n = 0 by omega]; rfl
theorem wiF_1 (l : List Int) (is : Bool) : wiF l is 1 = wiL l is := by unfold wiF wiL; rfl
theorem OkL.len60 {l : List Int} (h : OkL l) : 0 ≤ lenN l ∧ lenN l ≤ 60 := by
  have h2 := h.two
  have := h.rl.ds (p := (0, l.length - 1)) (by simp only; omega) (by simp only; omega)
  simp only [dsN] at this
  unfold lenN; omega
theorem p50 {x : AV} {l : List Int} (hx : asI x = some l) (h : OkL l) (is : Bool) : PCall Tryd.prog 31 [x, .bool is] (outV 1 (ints (wiL l is))) := by
  have h2 := h.two
  have h60 := h.len60
  obtain ⟨m, hm⟩ : ∃ m : Nat, lenN l = (m : Int) := ⟨(lenN l).toNat, by omega⟩
  obtain ⟨C, hC, k76, k71⟩ : ∃ C, CtxOk Tryd.prog C ∧ C 57 [x] = some (.agg (blF 61 fun n => measB l (n : Int))) ∧ C 58 [x] = some (.int .i64 (lenN l)) :=
    ⟨_, (CtxOk.nil.pt (p76 hx h.rl)).pt (p71 hx h.sm (by omega)), by simp, by simp⟩
  rw [hm] at k71 h60
  refine PCall.of hC ok50 (by simp) (outI_plain _) fun hs' hb => ?_
  have b0 : blF 61 (fun _ => false) = List.replicate 61 (.bool false) := rfl
  generalize hr : hs'.nh = r
  have hst : ∀ hp : Nat → Option (List AV), astore (fun i => if i = r then some (blF 61 fun _ => false) else hp i) 61 (.ref r 0) (.agg (blF 61 fun n => measB l (n : Int))) = some (fun k => if k = r then some (blF 61 fun n => measB l (n : Int)) else if k = r then some (blF 61 fun _ => false) else hp k) := fun hp => bl_st (f := fun _ => false) (by simp)
  simp only [A50, R50, ← b0]
  simp [k76, hr, hst]
  refine At.loop (fun (n : Nat) s => 1 ≤ n ∧ n ≤ m + 1 ∧ s.env 0 = x ∧ s.env 1 = .bool is ∧ s.env 6 = .ref r 0 ∧ s.env 7 = .int .i64 (n : Int) ∧ s.hs.heap r = some (blF 61 fun n => measB l (n : Int)) ∧ ∃ A, Outs 1 s.hs (s.env 5) (ints A) ∧ A.length + 1 ≤ n ∧ A ++ wiF l is n = wiL l is) (fun n => m + 1 - n) 1 ?_ ?_
  · exact ⟨by omega, by omega, by simp, by simp, by simp, by simp, by simp, [], by simp; exact .nil, by simp, by rw [wiF_1]; rfl⟩
  rintro N n s hN ⟨hn1, hn, e0, e1, e6, e7, w, A, hO, hAl, hA⟩
  simp [e0, e7, k71]
  refine At.dec (fun hlt => ?_) (fun hlt => ?_)
  · have hn' : n < 61 := by omega
    rw [wiF_c (by omega)] at hA
    simp [e1, e6, e7, bl_ix hn', bl_ld w hn']
    refine At.dec (fun hq => ?_) (fun hq => ?_)
    · rw [if_pos hq] at hA
      simp [e7, astoAll, si]
      refine At.app1 hO (by omega) fun y hs2 o1 m1 _ => ?_
      simp [e7]
      refine hN (n + 1) _ (by omega) ⟨by omega, by omega, by simp [e0], by simp [e1], by simp [e6], by simp [wrap_nat1 (show n < _ by omega)], by simp [m1.heap, w], A ++ [(n : Int)], by simpa using o1, by simp; omega, by simpa using hA⟩
    · rw [if_neg hq] at hA
      simp [e7]
      refine hN (n + 1) _ (by omega) ⟨by omega, by omega, by simp [e0], by simp [e1], by simp [e6], by simp [wrap_nat1 (show n < _ by omega)], by simp [w], A, by simpa using hO, by omega, hA⟩
  · rw [wiF_n (by omega), List.append_nil] at hA
    subst hA
    simp [hO.sh]
def diR (l : List Int) (is : Bool) : AV := if chkE l = 0 then .tup [outV 1 (ints (wiL l is)), .int .i64 0] else .tup [.nilsl, .int .i64 (chkE l)]
theorem diR_plain (l : List Int) (is : Bool) : (diR l is).plain = true := by
  unfold diR
  split
  · simp only [AV.plain, plainL, outI_plain, Bool.and_self]
  · rfl
theorem p19 {x : AV} {l : List Int} (hx : asI x = some l) : PCall Tryd.prog 10 [x] (diR l true) := by
  have hpl := diR_plain l true
  by_cases he : chkE l = 0
  · obtain ⟨C, hC, k1, k2⟩ : ∃ C, CtxOk Tryd.prog C ∧ C 27 [x] = some (.int .i64 (chkE l)) ∧ C 31 [x, .bool true] = some (outV 1 (ints (wiL l true))) := ⟨_, (CtxOk.nil.pt (p24 hx)).pt (p50 hx (chkE_zero.1 he) true), by simp, by simp⟩
    refine PCall.of hC ok19 (by simp) hpl fun hs' hb => ?_
    rw [diR, if_pos he]
    generalize hV : outV 1 (ints (wiL l true)) = V at *
    have hsh : V.share = V := by rw [← hV]; exact outI_share
    simp [A19, R19, k1, he, k2, hsh]
  · obtain ⟨C, hC, k1⟩ : ∃ C, CtxOk Tryd.prog C ∧ C 27 [x] = some (.int .i64 (chkE l)) := ⟨_, CtxOk.nil.pt (p24 hx), by simp⟩
    refine PCall.of hC ok19 (by simp) hpl fun hs' hb => ?_
    rw [diR, if_neg he]
    simp [A19, R19, k1, he]
end Go.Proofs.YtdcpkgedaflnmaaDoor.Xs
