/-
  The program's search, whatever is called with its chains. Own work.
-/
import Derived.Test.YtnmpdegnpaggkaaRef
set_option linter.unusedVariables false
set_option linter.unusedSimpArgs false
namespace Go.Proofs.Ytnmpdegnpaggkaa
open Go Fw

def okX (sp : List Int) (row : Bool) (c : List Int) (x : Int) : Bool :=
  match wayL c x with
  | none => false
  | some (i, _) => (!row || decide (i + 1 = c.length)) && !decide (x ∈ sp)
def visL (n : Int) (sp : List Int) (row : Bool) : Nat → List Int → List (List Int)
  | 0, c => if lastL c = n then [c] else []
  | k + 1, c => if lastL c * 2 ^ (k + 1) < n then [] else
      (List.range (cands (lastL c) n)).flatMap fun (j : Nat) => if okX sp row c (lastL c + 1 + (j : Int)) = true then visL n sp row k (c ++ [lastL c + 1 + (j : Int)]) else []

@[simp] theorem D13_47 : D13 47 = S47 := id rfl
@[simp] theorem D13_65 : D13 65 = SHas := id rfl
@[simp] theorem D13_69 : D13 69 = S69 := id rfl

/-- how a search ends whose callback keeps J, or panics as Z says -/
def VP (J : List (List Int) → HS → Prop) (Z : List (List Int) → List Int → AV → HS → Prop) (d vis : List (List Int)) : AEnd → HS → Prop := fun e hs' =>
  (e = .ret (.tup []) ∧ J (d ++ vis) hs') ∨ ∃ pre c' post p, vis = pre ++ c' :: post ∧ e = .panic p ∧ Z (d ++ pre) c' p hs'
theorem VP.ret {J : List (List Int) → HS → Prop} {Z : List (List Int) → List Int → AV → HS → Prop} {d vis : List (List Int)} {hs : HS} (h : J (d ++ vis) hs) : VP J Z d vis (.ret (.tup [])) hs := .inl ⟨rfl, h⟩
/-- chains that may be met -/
structure GoodV (n : Int) (k : Nat) (c : List Int) : Prop where
  ne : 0 < c.length
  len : c.length + k ≤ 50
  bound : ∀ a ∈ c, 1 ≤ a ∧ a ≤ 46
  sorted : c.Pairwise (· < ·)
  n1 : 1 ≤ n
  n2 : n ≤ 46
  k7 : k ≤ 7
structure Each (g : FuncId) (xs ys : List AV) (J : List (List Int) → HS → Prop) (Z : List (List Int) → List Int → AV → HS → Prop) : Prop where
  stab : ∀ d hs hs', HsExt hs hs' → J d hs → J d hs'
  call : ∀ d hs x c, asI x = some c → (∀ a ∈ c, 1 ≤ a ∧ a ≤ 46) → c.length ≤ 50 → c ≠ [] → J d hs → FCall Try.prog g (xs ++ [x] ++ ys) hs fun e hs' => (e = .ret (.tup []) ∧ J (d ++ [c]) hs') ∨ ∃ p, e = .panic p ∧ Z d c p hs'

theorem p54 {g : FuncId} {xs ys : List AV} {J : List (List Int) → HS → Prop} {Z : List (List Int) → List Int → AV → HS → Prop} (E : Each g xs ys J Z) {n : Int} {y : AV} {sp : List Int} (hy : asI y = some sp) (row : Bool) :
    ∀ (k : Nat) (x : AV) (c : List Int) (d : List (List Int)) (hs : HS), asI x = some c → GoodV n k c → J d hs →
      FCall Try.prog 54 [.agg [.int .i64 n, y, .bool row], x, .int .i64 (k : Int), .fn (.func g) xs ys] hs (VP J Z d (visL n sp row k c)) := by
  intro k
  induction k with
  | zero =>
    intro x c d hs hx gv hJ
    obtain ⟨gne, glen, gb, gs, gn1, gn2, gk7⟩ := gv
    obtain ⟨m, hm⟩ : ∃ m, c.length = m + 1 := ⟨c.length - 1, by omega⟩
    have ha := alen_of hx
    rw [show ((c.length : Nat) : Int) = (m : Int) + 1 by omega] at ha
    have hml : m < c.length := by omega
    have hlast : lastL c = c[m] := by rw [lastL_get gne]; congr 1; omega
    have wm : IntKind.i64.wrap (m : Int) = m := wrap_nat (by omega)
    have hsto : (AV.agg [.int .i64 n, y, .bool row]).sto = true := by
      rcases asI_inv hy with ⟨rfl, rfl⟩ | ⟨cc, rfl⟩ <;> simp [AV.sto, AV.leaf]
    refine FCall.of_body D13ok ok54 (by simp) (At.i ?_)
    simp [A54, R54, ha, wm, aidx_nat hx hml, hsto]
    refine At.dec (fun h1 => ?_) (fun h1 => ?_)
    · simp [h1]
      have hcall := E.call d hs x c hx gb (by omega) (by intro e; simp [e] at gne) hJ
      simp only [List.append_assoc, List.cons_append, List.nil_append] at hcall
      refine At.hc hcall ?_ ?_
      · rintro v hs' (⟨e, hJ'⟩ | ⟨p, e, _⟩)
        · injection e with e; subst e
          simp
          refine At.of (VP.ret ?_)
          simpa [visL, hlast, h1] using hJ'
        · cases e
      · rintro v hs' (⟨e, _⟩ | ⟨p, e, hZ⟩)
        · cases e
        · injection e with e; subst e
          simp
          refine At.of (.inr ⟨[], c, [], v, by simp [visL, hlast, h1], rfl, by simpa using hZ⟩)
    · simp [h1]
      refine At.of (VP.ret ?_)
      simpa [visL, hlast, h1] using hJ
  | succ k ih =>
    intro x c d hs hx gv hJ
    obtain ⟨gne, glen, gb, gs, gn1, gn2, gk7⟩ := gv
    have hsm := sm_of gb
    obtain ⟨m, hm⟩ : ∃ m, c.length = m + 1 := ⟨c.length - 1, by omega⟩
    have ha := alen_of hx
    rw [show ((c.length : Nat) : Int) = (m : Int) + 1 by omega] at ha
    have hml : m < c.length := by omega
    have hlast : lastL c = c[m] := by rw [lastL_get gne]; congr 1; omega
    have wm : IntKind.i64.wrap (m : Int) = m := wrap_nat (by omega)
    have hl46 := gb c[m] (List.getElem_mem hml)
    have hsto : (AV.agg [.int .i64 n, y, .bool row]).sto = true := by
      rcases asI_inv hy with ⟨rfl, rfl⟩ | ⟨cc, rfl⟩ <;> simp [AV.sto, AV.leaf]
    have hyl : ∀ hp : Nat → Option (List AV), aload hp false 1 (.ptr y) = some y := fun hp => load_ptr_list (asI_asV hy)
    have ck : ((k + 1 : Nat) : Int) = (k : Int) + 1 := by omega
    have hshl := shl_last hl46.1 hl46.2 gk7
    rw [ck] at hshl
    have hk0 : ¬ (k : Int) + 1 = 0 := by omega
    refine FCall.of_body D13ok ok54 (by simp) (At.i ?_)
    simp [A54, R54, ha, wm, aidx_nat hx hml, hsto, hk0, hshl]
    refine At.dec (fun h1 => ?_) (fun h1 => ?_)
    · simp
      refine At.of (VP.ret ?_)
      simpa [visL, hlast, h1] using hJ
    · have w1 : IntKind.i64.wrap (c[m] + 1) = c[m] + 1 := wrap64 (by omega) (by omega)
      have w2 : IntKind.i64.wrap (2 * c[m]) = 2 * c[m] := wrap64 (by omega) (by omega)
      have hext : visL n sp row (k + 1) c = (List.range (cands c[m] n)).flatMap fun (j : Nat) => if okX sp row c (c[m] + 1 + (j : Int)) = true then visL n sp row k (c ++ [c[m] + 1 + (j : Int)]) else [] := by
        rw [visL, hlast, if_neg h1]
      generalize hf : (fun j : Nat => if okX sp row c (c[m] + 1 + (j : Int)) = true then visL n sp row k (c ++ [c[m] + 1 + (j : Int)]) else []) = f at hext
      have hM : (if n ≤ 2 * c[m] then n else 2 * c[m]) ≤ 92 := by split <;> omega
      simp [w1]
      refine At.loop (fun (i : Nat) s0 => i ≤ cands c[m] n ∧ s0.env 1 = x ∧ s0.env 2 = .int .i64 ((k : Int) + 1) ∧ s0.env 3 = .fn (.func g) xs ys ∧ s0.env 4 = .ptr (.agg [.int .i64 n, y, .bool row]) ∧ s0.env 8 = .int .i64 c[m] ∧ s0.env 9 = .int .i64 (c[m] + 1 + i) ∧ J (d ++ (List.range i).flatMap f) s0.hs) (fun i => cands c[m] n - i) 0 ?_ ?_
      · simpa using hJ
      rintro N i s1 hN ⟨hi, e1, e2, e3, e4, e8, e9, hJ⟩
      simp [e1, e2, e3, e4, e8, e9, w2]
      refine At.dec (fun h2 => ?_) (fun h2 => ?_)
      · have hic : i < cands c[m] n := by
          unfold cands
          omega
        have hx46 : c[m] + 1 + (i : Int) ≤ 46 := by split at h2 <;> omega
        have w3 : IntKind.i64.wrap (c[m] + 1 + (i : Int) + 1) = c[m] + 1 + (i : Int) + 1 := wrap64 (by omega) (by omega)
        have hnx : -100000 ≤ c[m] + 1 + (i : Int) ∧ c[m] + 1 + (i : Int) ≤ 100000 := by omega
        have hfi : f i = if okX sp row c (c[m] + 1 + (i : Int)) = true then visL n sp row k (c ++ [c[m] + 1 + (i : Int)]) else [] := by rw [← hf]
        have w4 : IntKind.i64.wrap (k : Int) = k := wrap_nat (by omega)
        have hD47 : S47 [x, .int .i64 (c[m] + 1 + (i : Int))] = some (wayR (wayL c (c[m] + 1 + (i : Int)))) := by
          simp only [S47, hx, Option.bind_some]
          rw [if_pos ⟨gs, hsm, hnx⟩]
        -- a round that passes on
        have pass : ∀ s' : AS, okX sp row c (c[m] + 1 + (i : Int)) = false → s'.env 1 = x → s'.env 2 = .int .i64 ((k : Int) + 1) → s'.env 3 = .fn (.func g) xs ys → s'.env 4 = .ptr (.agg [.int .i64 n, y, .bool row]) → s'.env 8 = .int .i64 c[m] → s'.env 9 = .int .i64 (c[m] + 1 + (i : Int) + 1) → HsExt s1.hs s'.hs → At (N s') := by
          intro s' hok e1 e2 e3 e4 e8 e9 hx'
          refine hN (i + 1) _ (by omega) ⟨by omega, e1, e2, e3, e4, e8, by rw [e9]; congr 1; omega, ?_⟩
          rw [flat_snoc, hfi, hok]
          simpa using E.stab _ _ _ hx' hJ
        have ext1 : ∀ (u : List AV) (nt : Nat) (tok : Nat → Bool), HsExt s1.hs ⟨fun k => if k = s1.hs.nh then some u else if k = s1.hs.nh then some [.int .i64 0, .int .i64 0] else s1.hs.heap k, s1.hs.nh + 1, nt, tok⟩ := by
          intro u nt tok
          refine ⟨by simp, fun i hi => ?_⟩
          have : i ≠ s1.hs.nh := by omega
          simp [this]
        rcases hw : wayL c (c[m] + 1 + (i : Int)) with _ | ⟨a, b⟩
        · have hok : okX sp row c (c[m] + 1 + (i : Int)) = false := by simp [okX, hw]
          simp [hD47, hw, wayR, e1, e2, e3, e4, e8, e9]
          refine pass _ hok ?_ ?_ ?_ ?_ ?_ ?_ ?_ <;> simp [e1, e2, e3, e4, e8, e9, w3]
          exact ext1 _ _ _
        · have ham : (a : Int) = (m : Int) ↔ a + 1 = c.length := by omega
          simp [hD47, hw, wayR, e1, e2, e3, e4, e8, e9]
          cases row
          case' true =>
            simp [e1, e2, e3, e4, e8, e9, ha, wm]
            refine At.dec (fun h3 => ?_) (fun h3 => ?_)
            case' refine_2 =>
              have hok : okX sp true c (c[m] + 1 + (i : Int)) = false := by
                have : ¬ a + 1 = c.length := by omega
                simp [okX, hw, this]
              simp [h3, e1, e2, e3, e4, e8, e9]
              refine pass _ hok ?_ ?_ ?_ ?_ ?_ ?_ ?_ <;> simp [e1, e2, e3, e4, e8, e9, w3]
              exact ext1 _ _ _
            case' refine_1 =>
              have hoki : okX sp true c (c[m] + 1 + (i : Int)) = !decide (c[m] + 1 + (i : Int) ∈ sp) := by
                have : a + 1 = c.length := by omega
                simp [okX, hw, this]
          case' false =>
            have hoki : okX sp false c (c[m] + 1 + (i : Int)) = !decide (c[m] + 1 + (i : Int) ∈ sp) := by
              simp [okX, hw]
            have h3 : True := trivial
          all_goals
            simp [h3, e1, e2, e3, e4, e8, e9, ha, wm, hyl, SHas, hy]
            refine At.decn (fun h4 => ?_) (fun h4 => ?_)
            · have hok := hoki
              simp only [h4, decide_true, Bool.not_true] at hok
              simp [e1, e2, e3, e4, e8, e9]
              refine pass _ hok ?_ ?_ ?_ ?_ ?_ ?_ ?_ <;> simp [e1, e2, e3, e4, e8, e9, w3]
              exact ext1 _ _ _
            · have hok := hoki
              simp only [h4, decide_false, Bool.not_false] at hok
              have hfi' := hfi
              rw [hok, if_pos rfl] at hfi'
              have hxe : ∃ cc, x = .sl 1 (ints c) cc := by
                rcases asI_inv hx with ⟨_, h⟩ | h
                · rw [h] at gne; simp at gne
                · exact h
              obtain ⟨cc, hxe⟩ := hxe
              have hclip : S69 [x] = some (.sl 1 (ints c) .exact) := by simp [S69, hx]; rw [hxe]; rfl
              simp [e1, e2, e3, e4, e8, e9, hclip, astoAll, AV.sto, AV.cells, AV.leaf]
              refine At.app_exact (asV_sl (by simp)) (by simp [ints]; omega) (by simp) (fun hs2 q2 q3 q4 => ?_)
              have hE : HsExt s1.hs hs2 := (ext1 _ _ _).trans (.same q3)
              have hx2 : asI (.sl 1 (ints c ++ [.int .i64 (c[m] + 1 + (i : Int))]) (.own s1.hs.nt)) = some (c ++ [c[m] + 1 + (i : Int)]) := by
                have : ints c ++ [.int .i64 (c[m] + 1 + (i : Int))] = ints (c ++ [c[m] + 1 + (i : Int)]) := by simp [ints]
                rw [this]
                exact asI_sl (by simp; omega)
              have hgv : GoodV n k (c ++ [c[m] + 1 + (i : Int)]) := by
                refine ⟨by simp, by simp; omega, fun a ha => ?_, sorted_snoc gs (by rw [hlast]; omega), gn1, gn2, by omega⟩
                simp only [List.mem_append, List.mem_singleton] at ha
                rcases ha with ha | ha
                · exact gb a ha
                · subst ha; omega
              have hrec := ih _ _ (d ++ (List.range i).flatMap f) hs2 hx2 hgv (E.stab _ _ _ hE hJ)
              simp [e1, e2, e3, e4, e8, e9, w4]
              refine At.hc hrec ?_ ?_
              · rintro v hs3 (⟨e, hJ3⟩ | ⟨pre, c', post, p, _, e, _⟩)
                · simp [e1, e2, e3, e4, e8, e9, w3]
                  refine hN (i + 1) _ (by omega) ⟨by omega, ?_⟩
                  simp [e1, e2, e3, e4, e8, e9, w3]
                  refine ⟨by omega, ?_⟩
                  rw [flat_snoc, hfi']
                  simpa [List.append_assoc] using hJ3
                · cases e
              · rintro v hs3 (⟨e, _⟩ | ⟨pre, c', post, p, hpre, e, hZ⟩)
                · cases e
                · injection e with e; subst e
                  simp
                  refine At.of (.inr ⟨(List.range i).flatMap f ++ pre, c', post ++ (List.range' (i + 1) (cands c[m] n - (i + 1))).flatMap f, v, ?_, rfl, by simpa [List.append_assoc] using hZ⟩)
                  rw [hext]
                  have hsplit : List.range (cands c[m] n) = List.range i ++ i :: List.range' (i + 1) (cands c[m] n - (i + 1)) := by
                    rw [List.range_eq_range', List.range_eq_range']
                    have e1 : List.range' 0 (cands c[m] n) = List.range' 0 i ++ List.range' (0 + i) (cands c[m] n - i) := by
                      rw [List.range'_append_1]; congr 1; omega
                    rw [e1, show cands c[m] n - i = (cands c[m] n - (i + 1)) + 1 by omega, List.range'_succ]
                    simp
                  rw [hsplit, List.flatMap_append, List.flatMap_cons, hfi', hpre]
                  simp [List.append_assoc]
      · have hic : i = cands c[m] n := by
          have : cands c[m] n ≤ i := by
            unfold cands
            omega
          omega
        subst hic
        simp [e1, e2, e3, e4, e8, e9]
        refine At.of (VP.ret ?_)
        rw [hext]; exact hJ
end Go.Proofs.Ytnmpdegnpaggkaa
