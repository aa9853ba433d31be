/-
  The fewest rods: theory. Own work.
  The fewest rods: the order of lists, copies of a rack. Own work.
  The law of the fewest rods. Own work.
-/
import Derived.Test.YtecbbbocjmdfgaaG7
set_option linter.unusedVariables false
set_option linter.unusedSimpArgs false
namespace Go.Proofs.Ytecbbbocjmdfgaa
open Go Fw

/-- a rod lowers the number of pieces by at most one -/
theorem gm_drop {R : Rk} {L : List Br} : ∀ (M : List Br), OkR (rkL R (L ++ M)) → allRod (L ++ M) = true → (gmR (rkL R L)).length ≤ (gmR (rkL R (L ++ M))).length + M.length := by
  intro M
  induction M generalizing L with
  | nil => intro _ _; simp
  | cons b M ih =>
    intro hok hrod
    have e : L ++ b :: M = (L ++ [b]) ++ M := by simp
    rw [e] at hok hrod ⊢
    have h1 := ih hok hrod
    have hb : okB R.r R.c b := hok.b b (by simp)
    have hk : b.2.2 = 0 := allRod_iff.1 hrod b (by simp)
    have hokL : OkR (rkL R L) := ⟨hok.r1, hok.r6, hok.c1, hok.c6, fun x hx => hok.b x (by simp [hx])⟩
    have hrL : allRod L = true := allRod_iff.2 fun x hx => allRod_iff.1 hrod x (by simp [hx])
    have h2 := gm_add (R := rkL R L) hokL hrL hb hk
    have h3 : (gmR (addR (rkL R L) b)).length = (gmR (rkL R (L ++ [b]))).length := rfl
    rw [h3] at h2
    rw [List.length_cons]
    split at h2 <;> omega
/-- the indices of a set, and its braces -/
def seI (s : Nat) : Nat → List Int
  | 0 => []
  | k + 1 => if s.testBit k = true then seI s k ++ [(k : Int)] else seI s k
def seB (R : Rk) (s : Nat) : Nat → List Br
  | 0 => []
  | k + 1 => if s.testBit k = true then seB R s k ++ [R.b.getD k (0, 0, 0)] else seB R s k
theorem se_len {R : Rk} {s : Nat} : ∀ k, (seB R s k).length = (seI s k).length
  | 0 => rfl
  | k + 1 => by
    have := se_len (R := R) (s := s) k
    simp only [seI, seB]
    split <;> simp [this]
theorem seI_le {s : Nat} : ∀ k, (seI s k).length ≤ k
  | 0 => by simp [seI]
  | k + 1 => by
    have := seI_le (s := s) k
    simp only [seI]
    split
    · simp; omega
    · omega
theorem seB_mem {R : Rk} {s : Nat} : ∀ {k : Nat}, k ≤ R.b.length → ∀ b ∈ seB R s k, b ∈ R.b
  | 0, _, b, h => by simp [seB] at h
  | k + 1, hk, b, h => by
    have ih := seB_mem (R := R) (s := s) (k := k) (by omega)
    simp only [seB] at h
    split at h
    · rcases List.mem_append.1 h with h | h
      · exact ih b h
      · rw [List.mem_singleton.1 h]; exact getD_mem (by omega)
    · exact ih b h
theorem seB_pre {R : Rk} {s : Nat} {i : Nat} : ∀ {k : Nat}, i ≤ k → ∃ M, seB R s k = seB R s i ++ M ∧ M.length = (seI s k).length - (seI s i).length ∧ (seI s i).length ≤ (seI s k).length
  | 0, h => ⟨[], by rw [show i = 0 by omega]; simp, by rw [show i = 0 by omega]; simp, by rw [show i = 0 by omega]; exact Nat.le_refl _⟩
  | k + 1, h => by
    by_cases hi : i = k + 1
    · subst hi; exact ⟨[], by simp, by simp, Nat.le_refl _⟩
    · obtain ⟨M, h1, h2, h3⟩ := seB_pre (R := R) (s := s) (i := i) (k := k) (by omega)
      simp only [seB, seI]
      split
      · exact ⟨M ++ [R.b.getD k (0, 0, 0)], by simp [h1], by simp; omega, by simp; omega⟩
      · exact ⟨M, h1, h2, h3⟩
theorem se_ok {R : Rk} (hok : OkR R) {s k : Nat} (hk : k ≤ R.b.length) : OkR (rkL R (seB R s k)) := ⟨hok.r1, hok.r6, hok.c1, hok.c6, fun b hb => hok.b b (seB_mem hk b hb)⟩
theorem se_rod {R : Rk} (hr : allRod R.b = true) {s k : Nat} (hk : k ≤ R.b.length) : allRod (seB R s k) = true := allRod_iff.2 fun b hb => allRod_iff.1 hr b (seB_mem hk b hb)
/-- a joined set has enough braces -/
theorem se_few {R : Rk} (hok : OkR R) (hr : allRod R.b = true) {s : Nat} (h1 : (gmR (rkL R (seB R s R.b.length))).length = 1) : nR R ≤ (seI s R.b.length).length + 1 := by
  have h0 := gm_none (R := R) ⟨hok.r1, hok.r6, hok.c1, hok.c6, by simp⟩
  have h2 := gm_drop (R := R) (L := []) (seB R s R.b.length) (by simpa using se_ok hok (Nat.le_refl _)) (by simpa using se_rod hr (Nat.le_refl _))
  rw [List.nil_append, h0, h1, se_len] at h2
  omega
/-- the order of lists of one size -/
def lsB : List Int → List Int → Bool
  | x :: a, y :: b => if x = y then lsB a b else decide (x < y)
  | _, _ => false
theorem lsB_self : ∀ a : List Int, lsB a a = false
  | [] => rfl
  | x :: a => by rw [lsB, if_pos rfl]; exact lsB_self a
theorem lsB_asym : ∀ {a b : List Int}, lsB a b = true → lsB b a = false
  | [], b, h => by cases b <;> rfl
  | x :: a, [], h => rfl
  | x :: a, y :: b, h => by
    rw [lsB] at h ⊢
    by_cases e : x = y
    · rw [if_pos e] at h; rw [if_pos e.symm]; exact lsB_asym h
    · rw [if_neg e] at h; rw [if_neg (fun g => e g.symm)]
      have := of_decide_eq_true h
      simp; omega
theorem lsB_app : ∀ {p a b : List Int}, lsB (p ++ a) (p ++ b) = lsB a b
  | [], _, _ => rfl
  | x :: p, a, b => by rw [List.cons_append, List.cons_append, lsB, if_pos rfl]; exact lsB_app
/-- the choices of the greedy list -/
def grB (R : Rk) (i : Nat) : Bool := !misOk R (R.b.getD i (0, 0, 0)) (trK R i).2
theorem trK_se {R : Rk} {s : Nat} : ∀ {i : Nat}, (∀ j, j < i → s.testBit j = grB R j) → trK R i = (seI s i, seB R s i)
  | 0, _ => rfl
  | i + 1, h => by
    have ih := trK_se (R := R) (s := s) (i := i) fun j hj => h j (by omega)
    have hi := h i (by omega)
    simp only [trK, seI, seB]
    rw [hi, grB]
    cases misOk R (R.b.getD i (0, 0, 0)) (trK R i).2 <;> simp [ih]
theorem seI_tail {s : Nat} {i : Nat} : ∀ {k : Nat}, i ≤ k → ∃ r, seI s k = seI s i ++ r ∧ ∀ x ∈ r, (i : Int) ≤ x
  | 0, h => ⟨[], by rw [show i = 0 by omega]; simp, by simp⟩
  | k + 1, h => by
    by_cases hi : i = k + 1
    · subst hi; exact ⟨[], by simp, by simp⟩
    · obtain ⟨r, h1, h2⟩ := seI_tail (s := s) (i := i) (k := k) (by omega)
      simp only [seI]
      split
      · refine ⟨r ++ [(k : Int)], by simp [h1], fun x hx => ?_⟩
        rcases List.mem_append.1 hx with hx | hx
        · exact h2 x hx
        · rw [List.mem_singleton.1 hx]; omega
      · exact ⟨r, h1, h2⟩
/-- the greedy list is the first of all lists that join -/
theorem gr_first {R : Rk} (hok : OkR R) (hr : allRod R.b = true) {t s : Nat} (ht : ∀ j, j < R.b.length → t.testBit j = grB R j) (h1 : (gmR (rkL R (seB R s R.b.length))).length = 1)
    (hs : (seI s R.b.length).length + 1 = nR R) (htl : (seI t R.b.length).length + 1 = nR R) : seI t R.b.length = seI s R.b.length ∨ lsB (seI t R.b.length) (seI s R.b.length) = true := by
  -- the first place where the choices differ
  have key : ∀ i, i ≤ R.b.length → (∀ j, j < i → t.testBit j = s.testBit j) → (seI t i = seI s i ∧ seB R t i = seB R s i) := by
    intro i
    induction i with
    | zero => intro _ _; exact ⟨rfl, rfl⟩
    | succ i ih =>
      intro hi h
      obtain ⟨e1, e2⟩ := ih (by omega) fun j hj => h j (by omega)
      simp only [seI, seB, h i (by omega), e1, e2]
      exact ⟨trivial, trivial⟩
  by_cases hall : ∀ j, j < R.b.length → t.testBit j = s.testBit j
  · exact .inl (key _ (Nat.le_refl _) hall).1
  · obtain ⟨i, hi, hne, hlow⟩ : ∃ i, i < R.b.length ∧ t.testBit i ≠ s.testBit i ∧ ∀ j, j < i → t.testBit j = s.testBit j := by
      apply Classical.byContradiction
      intro hno
      apply hall
      intro j
      induction j using Nat.strongRecOn with
      | ind j ih =>
        intro hj
        apply Classical.byContradiction
        intro hne
        exact hno ⟨j, hj, hne, fun m hm => ih m hm (by omega)⟩
    obtain ⟨e1, e2⟩ := key i (by omega) hlow
    right
    cases hti : t.testBit i with
    | true =>
      have hsi : s.testBit i = false := by
        cases h : s.testBit i with
        | false => rfl
        | true => rw [hti, h] at hne; exact absurd rfl hne
      obtain ⟨r1, q1, _⟩ := seI_tail (s := t) (i := i + 1) (k := R.b.length) (by omega)
      obtain ⟨r2, q2, q3⟩ := seI_tail (s := s) (i := i + 1) (k := R.b.length) (by omega)
      have f1 : seI t (i + 1) = seI t i ++ [(i : Int)] := by simp only [seI]; rw [if_pos hti]
      have f2 : seI s (i + 1) = seI s i := by simp only [seI]; rw [if_neg (by simp [hsi])]
      rw [f1, List.append_assoc] at q1
      rw [f2, ← e1] at q2
      rw [q1, q2, lsB_app]
      cases r2 with
      | nil =>
        rw [q1] at htl
        rw [q2] at hs
        simp at htl hs
        omega
      | cons x r2 =>
        have := q3 x (by simp)
        show (if (i : Int) = x then _ else _) = true
        rw [if_neg (by omega)]
        simp; omega
    | false =>
      exfalso
      have hsi : s.testBit i = true := by
        cases h : s.testBit i with
        | true => rfl
        | false => rw [hti, h] at hne; exact absurd rfl hne
      have hg := ht i hi
      rw [hti, grB, trK_se (s := t) fun j hj => ht j (by omega)] at hg
      have hmo : misOk R (R.b.getD i (0, 0, 0)) (seB R s i) = true := by rw [← e2]; simpa using hg.symm
      have hm := getD_mem (R := R) hi
      have hoki := se_ok hok (s := s) (k := i) (by omega)
      have hri := se_rod hr (s := s) (k := i) (by omega)
      have hadd := gm_add (R := rkL R (seB R s i)) hoki hri (hok.b _ hm) (allRod_iff.1 hr _ hm)
      rw [show misOk (rkL R (seB R s i)) (R.b.getD i (0, 0, 0)) (rkL R (seB R s i)).b = misOk R (R.b.getD i (0, 0, 0)) (seB R s i) from rfl, hmo, if_pos rfl] at hadd
      have f2 : seB R s (i + 1) = seB R s i ++ [R.b.getD i (0, 0, 0)] := by simp only [seB]; rw [if_pos hsi]
      have f3 : seI s (i + 1) = seI s i ++ [(i : Int)] := by simp only [seI]; rw [if_pos hsi]
      have hadd' : (gmR (rkL R (seB R s i))).length = (gmR (rkL R (seB R s (i + 1)))).length := by rw [f2]; simpa using hadd
      -- before i
      have h0 := gm_none (R := R) ⟨hok.r1, hok.r6, hok.c1, hok.c6, by simp⟩
      have d1 := gm_drop (R := R) (L := []) (seB R s i) (by simpa using hoki) (by simpa using hri)
      rw [List.nil_append, h0, se_len] at d1
      -- after i
      obtain ⟨M, m1, m2, m3⟩ := seB_pre (R := R) (s := s) (i := i + 1) (k := R.b.length) (by omega)
      have d2 := gm_drop (R := R) (L := seB R s (i + 1)) M (by rw [← m1]; exact se_ok hok (Nat.le_refl _)) (by rw [← m1]; exact se_rod hr (Nat.le_refl _))
      rw [← m1, h1, m2] at d2
      rw [f3] at d2 m3
      simp at d2 m3
      omega
/-- the set of the greedy list -/
theorem gr_set {R : Rk} (hok : OkR R) (hr : allRod R.b = true) (h1 : (gmR R).length = 1) : ∃ t, t < 2 ^ R.b.length ∧ (∀ j, j < R.b.length → t.testBit j = grB R j) ∧ seI t R.b.length = (trK R R.b.length).1 ∧
    (gmR (rkL R (seB R t R.b.length))).length = 1 ∧ (seI t R.b.length).length + 1 = nR R := by
  obtain ⟨t, ht⟩ := mask_of (fun j => grB R j = true) R.b.length
  have hb : ∀ j, j < R.b.length → t.testBit j = grB R j := by
    intro j hj
    rw [Bool.eq_iff_iff, ht]
    exact ⟨fun h => h.2, fun h => ⟨hj, h⟩⟩
  have hse := trK_se (s := t) hb
  have hcnt := trK_cnt hok hr (Nat.le_refl R.b.length)
  have hgm := trK_gm hok hr
  rw [hse] at hcnt hgm
  rw [hgm, h1] at hcnt
  refine ⟨t, ?_, hb, by rw [hse], by rw [hgm, h1], by rw [← se_len (R := R)]; show (seB R t R.b.length).length + 1 = nR R; have : 1 + (seB R t R.b.length).length = nR R := hcnt; omega⟩
  apply Nat.lt_of_not_le
  intro hge
  obtain ⟨i, hi, hbi⟩ := Nat.exists_ge_and_testBit_of_ge_two_pow hge
  exact absurd ((ht i).1 hbi).1 (by omega)
end Go.Proofs.Ytecbbbocjmdfgaa
set_option linter.unusedVariables false
set_option linter.unusedSimpArgs false
namespace Go.Proofs.Ytecbbbocjmdfgaa
open Go Fw

theorem lsB_nil {l : List Int} : lsB l [] = false := by cases l <;> rfl
theorem p45 {x y : AV} {l m : List Int} (hx : asI x = some l) (hy : asI y = some m) : PCall Try.prog 45 [x, y] (.bool (lsB l m)) := by
  refine PCall.of D18ok ok45 (by simp) rfl fun hs' hb => ?_
  have hxl := asI_len hx
  have hyl := asI_len hy
  simp [A45, R45, alen_of hx]
  refine At.loop (fun (i : Nat) s => i ≤ l.length ∧ s.env 0 = x ∧ s.env 1 = y ∧ s.env 7 = .int .i64 (l.length : Int) ∧ s.env 8 = .int .i64 (i : Int) ∧ lsB l m = lsB (l.drop i) (m.drop i)) (fun i => l.length - i) 0 (by simp) ?_
  rintro N i s hN ⟨hi, e0, e1, e7, e8, hle⟩
  simp [e7, e8]
  refine At.dec (fun hlt => ?_) (fun hlt => ?_)
  · have hi' : i < l.length := by omega
    have dl : l.drop i = l[i] :: l.drop (i + 1) := List.drop_eq_getElem_cons hi'
    have ix := aidx_nat hx hi' (k := .i64)
    by_cases him : i < m.length
    · have dm : m.drop i = m[i] :: m.drop (i + 1) := List.drop_eq_getElem_cons him
      have iy := aidx_nat hy him (k := .i64)
      rw [dl, dm, lsB] at hle
      generalize l[i] = u at *
      generalize m[i] = v at *
      by_cases huv : u = v
      · subst huv
        rw [if_pos rfl] at hle
        simp [e0, e1, e8, alen_of hy, him, ix, iy]
        refine hN (i + 1) _ (by omega) ⟨by omega, ?_⟩
        simp [e0, e1, e7, e8, wrap_nat1 (show i < _ by omega), hle]
      · rw [if_neg huv] at hle
        simp [e0, e1, e8, alen_of hy, him, ix, iy, huv, hle]
    · have dm : m.drop i = [] := List.drop_of_length_le (by omega)
      have dm2 : m.drop (i + 1) = [] := List.drop_of_length_le (by omega)
      rw [dm, lsB_nil] at hle
      simp [e0, e1, e8, alen_of hy, him]
      refine hN (i + 1) _ (by omega) ⟨by omega, ?_⟩
      rw [dm2, lsB_nil]
      simp [e0, e1, e7, e8, wrap_nat1 (show i < _ by omega), hle]
  · have : l.drop i = [] := List.drop_of_length_le (by omega)
    rw [this] at hle
    have h0 : lsB [] (m.drop i) = false := rfl
    rw [h0] at hle
    simp [hle]
def SLs : List AV → Option AV
  | [x, y] => match asI x, asI y with
    | some l, some m => some (.bool (lsB l m))
    | _, _ => none
  | _ => none
theorem SLs_i {x y : AV} {l m : List Int} (hx : asI x = some l) (hy : asI y = some m) : SLs [x, y] = some (.bool (lsB l m)) := by simp [SLs, hx, hy]
theorem c45 : ∀ a r, SLs a = some r → PCall Try.prog 45 a r := by
  intro a r h
  unfold SLs at h
  split at h <;> (try (cases h; done))
  split at h <;> (try (cases h; done))
  rename_i l m h1 h2
  injection h with h; subst h
  exact p45 h1 h2
noncomputable def D30 : PCtx := (D29.add 44 SJo).add 45 SLs
theorem D30ok : CtxOk Try.prog D30 := (D29ok.add c44).add c45
@[simp] theorem D30_37 : D30 37 = SMade := id rfl
@[simp] theorem D30_15 : D30 15 = SWk := id rfl
@[simp] theorem D30_24 : D30 24 = SNum := id rfl
@[simp] theorem D30_27 : D30 27 = SFree := id rfl
@[simp] theorem D30_29 : D30 29 = SMiss := id rfl
@[simp] theorem D30_30 : D30 30 = STr := id rfl
@[simp] theorem D30_43 : D30 43 = SRg := id rfl
@[simp] theorem D30_44 : D30 44 = SJo := id rfl
@[simp] theorem D30_45 : D30 45 = SLs := id rfl
/-- a list of braces that may be appended to -/
structure OwB (hs : HS) (y : AV) (l : List Br) : Prop where
  fr : Fresh hs y
  el : aelems y = some (brs l)
  sz : aszOk 3 y = true
  asb : asB y = some l
theorem OwB.cells {hs : HS} {y : AV} {l : List Br} (h : OwB hs y l) : y.cells = [y] ∧ y.sto = true := asB_cells h.asb
theorem OwB.cong {hs hs' : HS} {y : AV} {l : List Br} (h : OwB hs y l) (e1 : hs'.tok = hs.tok) (e2 : hs'.nt = hs.nt) : OwB hs' y l := ⟨fresh_cong e1 e2 h.fr, h.el, h.sz, h.asb⟩
theorem brs_app {l m : List Br} : brs l ++ brs m = brs (l ++ m) := by simp [brs]
theorem OwB.app {hs : HS} {x q : AV} {l m : List Br} (h : OwB hs x l) (hq : asV 3 q = some (brs m)) (hl : l.length + m.length ≤ 100000) : ∃ y hs', aappend 3 hs x q = some (y, hs') ∧ OwB hs' y (l ++ m) ∧ SameMem hs hs' := by
  obtain ⟨y, hs', b1, b2, b3, b4, b5, b6, b7⟩ := append_fresh (ys := brs m) h.fr h.el h.sz hq (by simp; omega)
  rw [brs_app] at b3 b5
  refine ⟨y, hs', b1, ⟨b2, b3, b4, ?_⟩, b6⟩
  rcases b5 with ⟨rfl, h0⟩ | ⟨k, rfl⟩
  · have : m = [] := List.map_eq_nil_iff.1 h0
    subst this
    rw [List.append_nil]; exact h.asb
  · exact asB_sl (by simp; omega)
theorem copyO {hs : HS} {x : AV} {l : List Br} (hx : asB x = some l) (hl : l.length ≤ 1000) : ∃ y hs', aappend 3 hs (.sl 3 [] .exact) x = some (y, hs') ∧ OwB hs' y l ∧ SameMem hs hs' := by
  have h0 : OwB hs (.sl 3 [] .exact) [] := ⟨trivial, rfl, rfl, rfl⟩
  obtain ⟨y, hs', b1, b2, b3⟩ := h0.app (asB_inv hx).1 (by simp; omega)
  exact ⟨y, hs', b1, by simpa using b2, b3⟩
/-- a rack, copied -/
structure FW8 (R : Rk) (d : Nat) (s0 s : AS) : Prop where
  env : ∀ k, k < 62 → k ≠ d → s.env k = s0.env k
  low : ∀ k, k < s0.hs.nh → s.hs.heap k = s0.hs.heap k
  nh : s0.hs.nh ≤ s.hs.nh
  ex : ∃ p y, s.env d = .ref p 0 ∧ s0.hs.nh ≤ p ∧ p < s.hs.nh ∧ s.hs.heap p = some [.int .i64 R.r, .int .i64 R.c, y] ∧ OwB s.hs y R.b
theorem reg8a {R : Rk} {q : Nat} {y0 : AV} {s : AS} {Q : AEx → AS → Prop} (hy : asB y0 = some R.b) (hl : R.b.length ≤ 1000) (e3 : s.env 3 = .ref q 0) (hq : s.hs.heap q = some [.int .i64 R.r, .int .i64 R.c, y0]) (hlt : q < s.hs.nh)
    (h2 : ∀ s', FW8 R 10 s s' → At (Q .normal s')) : At (anyW Try.prog D30 [[], [0], [], [2], [], [], [5], [4, 6], [1, 3, 7], [], [9, 8, 7, 0, 1, 2, 3, 4, 5, 6, 7, 8, 9]] [⟨some 62, none, .faddr false 1 0 (.t 3)⟩, ⟨some 63, none, .load false 1 (.t 62)⟩, ⟨some 64, none, .faddr false 1 1 (.t 3)⟩, ⟨some 65, none, .load false 1 (.t 64)⟩, ⟨some 66, none, .buildSl 3 []⟩, ⟨some 67, none, .faddr false 1 2 (.t 3)⟩, ⟨some 68, none, .load false 1 (.t 67)⟩, ⟨some 69, none, .append 3 (.t 66) (.t 68)⟩, ⟨some 70, none, .build [.int .i64 0, .int .i64 0, .nilsl] [(0, 1, (.t 63)), (1, 1, (.t 65)), (2, 1, (.t 69))]⟩, ⟨some 10, none, .alloc [.int .i64 0, .int .i64 0, .nilsl]⟩, ⟨none, none, .store 3 (.t 10) (.t 70)⟩] 11 [] Q s) := by
  have aV := (asB_inv hy).1
  have cp := fun hs : HS => copyO (hs := hs) hy hl
  refine At.any_to (FW8 R 10 s) ?_ h2
  refine At.any_q 0 endN_p rfl rfl rfl ?_
  simp [e3, fa]
  refine At.any_r 1 endN_p rfl rfl ⟨q, 0, by simp, by simpa using hlt⟩ ?_
  simp [la, hq, apart]
  refine At.any_q 2 endN_p rfl rfl rfl ?_
  simp [e3, fa]
  refine At.any_r 3 endN_p rfl rfl ⟨q, 1, by simp, by simpa using hlt⟩ ?_
  simp [la, hq, apart]
  refine At.any_q 4 endN_p rfl rfl rfl ?_
  simp [astoAll]
  refine At.any_q 5 endN_p rfl rfl rfl ?_
  simp [e3, fa]
  refine At.any_r 6 endN_p rfl rfl ⟨q, 2, by simp, by simpa using hlt⟩ ?_
  simp [la, hq, apart]
  refine At.any_2 7 9 rfl rfl rfl ?_ ?_
  · obtain ⟨y1, hs1, b1, b2, b3⟩ := cp s.hs
    obtain ⟨c4, c5⟩ := b2.cells
    simp [b1]
    refine At.any_q 8 endN_p rfl rfl rfl ?_
    simp [afill, si, ci, c4, c5, setL]
    refine At.any_o 9 rfl rfl ?_
    simp
    refine At.any_o 10 rfl rfl ?_
    simp [astore, sa, ca, c4, c5, setL]
    refine At.any_e rfl ?_
    simp
    exact At.of ⟨fun k hk hd => by have hm : ∀ m, 62 ≤ m → ¬ k = m := fun m h e => (by omega); simp [env_none, hm, hd], fun k hk => by have z2 := b3.nh; simp [show ¬ k = hs1.nh by omega, b3.heap], by have z2 := b3.nh; simp; omega, hs1.nh, y1, by simp [env_none], by have z2 := b3.nh; simp; omega, by simp, by simp, b2.cong rfl rfl⟩
  · simp
    obtain ⟨y1, hs1, b1, b2, b3⟩ := cp ⟨fun k => if k = s.hs.nh then some [.int .i64 0, .int .i64 0, .nilsl] else s.hs.heap k, s.hs.nh + 1, s.hs.nt, s.hs.tok⟩
    obtain ⟨c4, c5⟩ := b2.cells
    refine At.any_o 7 rfl rfl ?_
    simp [b1]
    refine At.any_q 8 endN_p rfl rfl rfl ?_
    simp [afill, si, ci, c4, c5, setL]
    refine At.any_o 10 rfl rfl ?_
    simp [astore, sa, ca, c4, c5, setL, b3.heap]
    refine At.any_e rfl ?_
    simp
    exact At.of ⟨fun k hk hd => by have hm : ∀ m, 62 ≤ m → ¬ k = m := fun m h e => (by omega); simp [env_none, hm, hd], fun k hk => by have z2 := b3.nh; simp [show ¬ k = s.hs.nh by omega, b3.heap], by have z2 := b3.nh; simp at z2; simp; omega, s.hs.nh, y1, by simp [env_none], by simp, by have z2 := b3.nh; simp at z2; simp; omega, by simp [b3.heap], b2.cong rfl rfl⟩
theorem reg8b {R : Rk} {q : Nat} {y0 : AV} {s : AS} {Q : AEx → AS → Prop} (hy : asB y0 = some R.b) (hl : R.b.length ≤ 1000) (e3 : s.env 3 = .ref q 0) (hq : s.hs.heap q = some [.int .i64 R.r, .int .i64 R.c, y0]) (hlt : q < s.hs.nh)
    (h2 : ∀ s', FW8 R 15 s s' → At (Q .normal s')) : At (anyW Try.prog D30 [[], [0], [], [2], [], [], [5], [4, 6], [1, 3, 7], [], [9, 8, 7, 0, 1, 2, 3, 4, 5, 6, 7, 8, 9]] [⟨some 125, none, .faddr false 1 0 (.t 3)⟩, ⟨some 126, none, .load false 1 (.t 125)⟩, ⟨some 127, none, .faddr false 1 1 (.t 3)⟩, ⟨some 128, none, .load false 1 (.t 127)⟩, ⟨some 129, none, .buildSl 3 []⟩, ⟨some 130, none, .faddr false 1 2 (.t 3)⟩, ⟨some 131, none, .load false 1 (.t 130)⟩, ⟨some 132, none, .append 3 (.t 129) (.t 131)⟩, ⟨some 133, none, .build [.int .i64 0, .int .i64 0, .nilsl] [(0, 1, (.t 126)), (1, 1, (.t 128)), (2, 1, (.t 132))]⟩, ⟨some 15, none, .alloc [.int .i64 0, .int .i64 0, .nilsl]⟩, ⟨none, none, .store 3 (.t 15) (.t 133)⟩] 11 [] Q s) := by
  have aV := (asB_inv hy).1
  have cp := fun hs : HS => copyO (hs := hs) hy hl
  refine At.any_to (FW8 R 15 s) ?_ h2
  refine At.any_q 0 endN_p rfl rfl rfl ?_
  simp [e3, fa]
  refine At.any_r 1 endN_p rfl rfl ⟨q, 0, by simp, by simpa using hlt⟩ ?_
  simp [la, hq, apart]
  refine At.any_q 2 endN_p rfl rfl rfl ?_
  simp [e3, fa]
  refine At.any_r 3 endN_p rfl rfl ⟨q, 1, by simp, by simpa using hlt⟩ ?_
  simp [la, hq, apart]
  refine At.any_q 4 endN_p rfl rfl rfl ?_
  simp [astoAll]
  refine At.any_q 5 endN_p rfl rfl rfl ?_
  simp [e3, fa]
  refine At.any_r 6 endN_p rfl rfl ⟨q, 2, by simp, by simpa using hlt⟩ ?_
  simp [la, hq, apart]
  refine At.any_2 7 9 rfl rfl rfl ?_ ?_
  · obtain ⟨y1, hs1, b1, b2, b3⟩ := cp s.hs
    obtain ⟨c4, c5⟩ := b2.cells
    simp [b1]
    refine At.any_q 8 endN_p rfl rfl rfl ?_
    simp [afill, si, ci, c4, c5, setL]
    refine At.any_o 9 rfl rfl ?_
    simp
    refine At.any_o 10 rfl rfl ?_
    simp [astore, sa, ca, c4, c5, setL]
    refine At.any_e rfl ?_
    simp
    exact At.of ⟨fun k hk hd => by have hm : ∀ m, 62 ≤ m → ¬ k = m := fun m h e => (by omega); simp [env_none, hm, hd], fun k hk => by have z2 := b3.nh; simp [show ¬ k = hs1.nh by omega, b3.heap], by have z2 := b3.nh; simp; omega, hs1.nh, y1, by simp [env_none], by have z2 := b3.nh; simp; omega, by simp, by simp, b2.cong rfl rfl⟩
  · simp
    obtain ⟨y1, hs1, b1, b2, b3⟩ := cp ⟨fun k => if k = s.hs.nh then some [.int .i64 0, .int .i64 0, .nilsl] else s.hs.heap k, s.hs.nh + 1, s.hs.nt, s.hs.tok⟩
    obtain ⟨c4, c5⟩ := b2.cells
    refine At.any_o 7 rfl rfl ?_
    simp [b1]
    refine At.any_q 8 endN_p rfl rfl rfl ?_
    simp [afill, si, ci, c4, c5, setL]
    refine At.any_o 10 rfl rfl ?_
    simp [astore, sa, ca, c4, c5, setL, b3.heap]
    refine At.any_e rfl ?_
    simp
    exact At.of ⟨fun k hk hd => by have hm : ∀ m, 62 ≤ m → ¬ k = m := fun m h e => (by omega); simp [env_none, hm, hd], fun k hk => by have z2 := b3.nh; simp [show ¬ k = s.hs.nh by omega, b3.heap], by have z2 := b3.nh; simp at z2; simp; omega, s.hs.nh, y1, by simp [env_none], by simp, by have z2 := b3.nh; simp at z2; simp; omega, by simp [b3.heap], b2.cong rfl rfl⟩
/-- no set of so few more rods joins -/
theorem few_no {R : Rk} {M : List Br} (hok : OkR (rkL R (R.b ++ M))) (hrod : allRod (R.b ++ M) = true) {n : Nat} (hn : (gmR R).length = n + 1) (hl : M.length + 1 = n) : joB (rkL R (R.b ++ M)) = false := by
  rw [jo_st hok hrod]
  have h := gm_drop (R := R) (L := R.b) M hok hrod
  have e : (gmR (rkL R R.b)).length = (gmR R).length := rfl
  rw [e, hn] at h
  unfold stM
  rw [decide_eq_false_iff_not]
  omega
end Go.Proofs.Ytecbbbocjmdfgaa
set_option linter.unusedVariables false
set_option linter.unusedSimpArgs false
namespace Go.Proofs.Ytecbbbocjmdfgaa
open Go Fw

theorem sqK_rod {n s : Nat} : ∀ {k : Nat} (b : Br), b ∈ sqK n s k → b.2.2 = 0
  | 0, b, h => by simp [sqK] at h
  | k + 1, b, h => by
    simp only [sqK] at h
    split at h
    · rcases List.mem_append.1 h with h | h
      · exact sqK_rod b h
      · rw [List.mem_singleton.1 h]
    · exact sqK_rod b h
/-- the first list so far -/
def FI (R : Rk) (t k : Nat) (v : AV) : Prop := (v = .nilsl ∧ k ≤ t) ∨ ∃ s xs cp, v = .sl 1 xs cp ∧ asI v = some (seI s R.b.length) ∧ ((gmR (rkL R (seB R s R.b.length))).length = 1 ∧ (seI s R.b.length).length + 1 = nR R) ∧ (t < k → seI s R.b.length = seI t R.b.length)
theorem p8 {x : AV} {a b : Nat} {l : List Nt} (hx : IsSh x a b l) : PCall Try.prog 8 [x] (.bool true) := by
  obtain ⟨R, hR⟩ : ∃ R, R = mkR a b l false := ⟨_, rfl⟩
  have hv : asR (mkV a b l false) = some R := by rw [hR]; exact asR_mkV a b l false
  have hok : OkR R := by rw [hR]; exact mkR_ok a b l false
  have hlen : R.b.length ≤ 9 := by rw [hR]; exact mkR_len a b l false
  have hrod : allRod R.b = true := by rw [hR]; exact mkR_rod a b l
  have hrc3 : R.r ≤ 3 ∧ R.c ≤ 3 := by
    rw [hR]
    constructor
    · show ((1 + a % 3 : Nat) : Int) ≤ 3; omega
    · show ((1 + b % 3 : Nat) : Int) ≤ 3; omega
  have hchk : chkR R = 0 := chkR_zero.2 ⟨hok, by omega⟩
  have hre : rodE R = 0 := rodE_iff.2 ⟨hchk, hrod⟩
  have hS37 := SMade_i hx false
  obtain ⟨y0, hV, hy⟩ := asR_inv hv
  rw [hV] at hv hS37
  obtain ⟨m1, m2, m3, m4, m5⟩ := mis_all hok hrod
  obtain ⟨n, hn⟩ : ∃ n, n = (misL R).length := ⟨_, rfl⟩
  have hgl : (gmR R).length ≤ nR R := grpM_len _
  have hnn : nR R = R.r.toNat + R.c.toNat := rfl
  have hr1 := hok.r1
  have hc1 := hok.c1
  have hn5 : n ≤ 5 := by omega
  have hS27 : SFree [.agg [.int .i64 R.r, .int .i64 R.c, y0]] = some (.tup [.int .i64 (n : Int), .int .i64 0]) := by
    simp only [SFree, hv, Option.map_some]
    rw [fdV, fdR, if_pos hre, hre, hn]
  have hS29 : SMiss [.agg [.int .i64 R.r, .int .i64 R.c, y0]] = some (.tup [outV 3 (brs (misL R)), .int .i64 0]) := by
    simp only [SMiss, hv, Option.map_some]
    rw [miV, if_pos hre]
  have hfd : fdR R = (n : Int) := by rw [fdR, if_pos hre, hn]
  obtain ⟨TV, te, hTV⟩ : ∃ TV te, STr [.agg [.int .i64 R.r, .int .i64 R.c, y0]] = some (.tup [TV, .int .i64 te]) ∧ ((0 < n ∧ TV = .nilsl ∧ te = 22) ∨ (n = 0 ∧ te = 0 ∧ asI TV = some (trK R R.b.length).1)) := by
    simp only [STr, hv, Option.map_some]
    by_cases h0 : 0 < n
    · exact ⟨.nilsl, 22, by rw [trV, if_pos hre, if_pos (by omega)], .inl ⟨h0, rfl, rfl⟩⟩
    · refine ⟨_, 0, by rw [trV, if_pos hre, if_neg (by omega)], .inr ⟨by omega, rfl, asI_outV ?_⟩⟩
      have := (trK_inv hok (i := R.b.length) (Nat.le_refl _)).l1
      omega
  obtain ⟨hS30, hTV⟩ := hTV
  have sx : x.sto = true := by obtain ⟨⟨z, rfl, hz⟩, _⟩ := hx; rfl
  have lx : ∀ h, aload h true 3 (.ptr x) = some x := by obtain ⟨⟨z, rfl, hz⟩, _⟩ := hx; exact fun _ => rfl
  obtain ⟨hyc, hys⟩ := asB_cells hy
  have hlz : ∀ h, aload h false 1 (.ptr y0) = some y0 := by
    intro h
    rcases (asB_inv hy).2.1 with ⟨e, _⟩ | ⟨c, e⟩ <;> rw [e] <;> rfl
  have hful : fulR R = rkL R (R.b ++ misL R) := rfl
  rw [hful] at m2 m3 m4
  have hML : asB (outV 3 (brs (misL R))) = some (misL R) := asB_outV (by omega)
  generalize misL R = ML at *
  generalize outV 3 (brs ML) = MV at *
  have hfew := fun (M : List Br) (h1 : OkR (rkL R (R.b ++ M))) (h2 : allRod (R.b ++ M) = true) (h3 : M.length + 1 = n) => few_no h1 h2 (by omega : (gmR R).length = n + 1) h3
  refine PCall.of D30ok ok8 (by simp) rfl fun hs' hbb => ?_
  generalize hq : hs'.nh = q
  have n0 : ¬ ((n : Int) < 0) := by omega
  have n5 : ¬ ((5 : Int) < (n : Int)) := by omega
  simp [A8, R8, sx, lx, hS37, astoAll, afill, si, ci, sa, ca, setL, astore, env_none, hq, hyc, hys, la, lpa, fa, apart, hS27, hS29, hS30, blen hML, ← hn, n0, n5]
  refine reg8a (q := q) (R := R) (y0 := y0) hy (by omega) ?_ ?_ ?_ ?_
  · simp
  · simp
  · simp
  rintro s2 ⟨g1, glow, gnh, p, y, g10, gp1, gp2, gp, go⟩
  have q3 := g1 3 (by omega) (by omega)
  have q4 := g1 4 (by omega) (by omega)
  have q6 := g1 6 (by omega) (by omega)
  have q8 := g1 8 (by omega) (by omega)
  have q9 := g1 9 (by omega) (by omega)
  have qh := glow q (by simp)
  simp at q3 q4 q6 q8 q9 qh gp1 gnh
  have hpq : ¬ q = p := by omega
  have hpq2 : ¬ p = q := by omega
  simp [q6, blen hML]
  refine At.loop (fun (i : Nat) s => i ≤ ML.length ∧ s.env 3 = .ref q 0 ∧ s.env 4 = .int .i64 (n : Int) ∧ s.env 8 = TV ∧ s.env 9 = .int .i64 te ∧ s.env 10 = .ref p 0 ∧ s.env 71 = MV ∧ s.env 72 = .int .i64 (ML.length : Int) ∧ s.env 73 = .int .i64 (i : Int) ∧ q < s.hs.nh ∧ p < s.hs.nh ∧ s.hs.heap q = some [.int .i64 R.r, .int .i64 R.c, y0] ∧ ∃ y, s.hs.heap p = some [.int .i64 R.r, .int .i64 R.c, y] ∧ OwB s.hs y (R.b ++ ML.take i)) (fun i => ML.length - i) 0 ?_ ?_
  · simp [q3, q4, q6, q8, q9, g10, qh, gp, gp2]
    exact ⟨by omega, go.cong rfl rfl⟩
  rintro N i s hN ⟨hi, e3, e4, e8, e9, e10, e71, e72, e73, hnq, hnp, hhq, y2, hhp, ho⟩
  simp [e72, e73]
  refine At.dec (fun hlt => ?_) (fun hlt => ?_)
  · have hi' : i < ML.length := by omega
    obtain ⟨d, hd⟩ : ∃ d, d = ML[i] := ⟨_, rfl⟩
    obtain ⟨⟨k1, k2, k3, k4, k5, k6⟩, k0⟩ := m5 ML[i] (List.getElem_mem hi')
    rw [← hd] at k1 k2 k3 k4 k5 k6 k0
    have hbi := bidx hML hi' (k := .i64)
    rw [← hd, k0] at hbi
    have gl : ∀ h, aload h true 3 (.ptr (.agg [.int .i64 d.1, .int .i64 d.2.1, .int .i64 0])) = some (.agg [.int .i64 d.1, .int .i64 d.2.1, .int .i64 0]) := fun _ => rfl
    have nn1 : ¬ q = s.hs.nh := by omega
    have nn2 : ¬ p = s.hs.nh := by omega
    have nn3 : ¬ s.hs.nh = p := by omega
    have c1 : ¬ d.1 < 0 := by omega
    have c2 : ¬ R.r ≤ d.1 := by omega
    have c3 : ¬ d.2.1 < 0 := by omega
    have c4 : ¬ R.c ≤ d.2.1 := by omega
    have hq3 : asV 3 (.sl 3 [.agg [.int .i64 d.1, .int .i64 d.2.1, .int .i64 0]] .exact) = some (brs [d]) := by
      have : brs [d] = [.agg [.int .i64 d.1, .int .i64 d.2.1, .int .i64 0]] := by rw [← k0]; rfl
      rw [this]; exact asV_sl (by simp)
    obtain ⟨y3, hs3, b1, b2, b3⟩ := (ho.cong (hs' := ⟨fun k => if k = s.hs.nh then some [.int .i64 d.1, .int .i64 d.2.1, .int .i64 0] else if k = s.hs.nh then some [.int .i64 0, .int .i64 0, .int .i64 0] else s.hs.heap k, s.hs.nh + 1, s.hs.nt, s.hs.tok⟩) rfl rfl).app hq3 (by simp; omega)
    obtain ⟨d1, d2⟩ := b2.cells
    rw [List.append_assoc, hd, ← take_snoc hi'] at b2
    simp [e3, e10, e71, e73, hbi, gl, la, lpa, fa, apart, hhq, hhp, nn1, nn2, nn3, c1, c2, c3, c4, afill, si, ci, sa, ca, setL, astoAll, astore, env_none, b1, b3.heap, d1, d2]
    refine hN (i + 1) _ (by omega) ⟨by omega, ?_⟩
    simp [e3, e4, e8, e9, e10, e71, e72, wrap_nat1 (show i < _ by omega), nn1, nn2, hpq, hpq2, hhq, b3.nh, env_none]
    exact ⟨by omega, by omega, b2.cong rfl rfl⟩
  have hiL : i = ML.length := by omega
  subst hiL
  rw [List.take_length] at ho
  have hfx := asR_mk (r := R.r) (c := R.c) ho.asb
  have hrg := SRg_i hfx m2 (-1)
  have hrt : rgB (rkL R (R.b ++ ML)) (-1) = true := by
    rw [rg_all m2]; unfold stM; rw [m4]; rfl
  rw [hrt] at hrg
  obtain ⟨r, hr⟩ : ∃ r : Nat, R.r = (r : Int) := ⟨R.r.toNat, by omega⟩
  obtain ⟨c, hc⟩ : ∃ c : Nat, R.c = (c : Int) := ⟨R.c.toNat, by omega⟩
  obtain ⟨sq, hsq⟩ : ∃ sq : Nat, sq = r * c := ⟨_, rfl⟩
  have hsq9 : sq ≤ 9 := by rw [hsq]; exact Nat.mul_le_mul (show r ≤ 3 by omega) (show c ≤ 3 by omega)
  have hmul : IntKind.i64.wrap (R.r * R.c) = (sq : Int) := by rw [hr, hc, ← Int.natCast_mul, ← hsq, wrap64 (by omega) (by omega)]
  have sh := shl64 (kd := 0) (n := sq) (k := .i64) (by omega)
  have hP512 : 2 ^ sq ≤ 512 := Nat.le_trans (Nat.pow_le_pow_right (by decide) (show sq ≤ 9 by omega)) (by decide)
  obtain ⟨P, hP⟩ : ∃ P : Nat, P = 2 ^ sq := ⟨_, rfl⟩
  rw [← hP] at sh hP512
  have wn : IntKind.i64.wrap ((n : Int) - 1) = (n : Int) - 1 := wrap64 (by omega) (by omega)
  simp [e3, e10, la, lpa, fa, hhp, hhq, apart, hrg, hmul]
  refine At.loop (fun (k : Nat) s => k ≤ P ∧ s.env 3 = .ref q 0 ∧ s.env 4 = .int .i64 (n : Int) ∧ s.env 8 = TV ∧ s.env 9 = .int .i64 te ∧ s.env 13 = .int .i64 (sq : Int) ∧ s.env 14 = .int .i64 (k : Int) ∧ q < s.hs.nh ∧ s.hs.heap q = some [.int .i64 R.r, .int .i64 R.c, y0]) (fun k => P - k) 0 ?_ ?_
  · simp [e3, e4, e8, e9, hnq, hhq]
  clear hN
  rintro N k s hN ⟨hk, e3, e4, e8, e9, e13, e14, hnq, hhq⟩
  simp [e13, e14, sh]
  refine At.dec (fun hlt => ?_) (fun hlt => ?_)
  · have hkP : k < P := by omega
    refine reg8b (q := q) (R := R) (y0 := y0) hy (by omega) ?_ ?_ ?_ ?_
    · simp [e3]
    · simpa using hhq
    · simpa using hnq
    rintro s2 ⟨g1, glow, gnh, p', y, g15, gp1, gp2, gp, go⟩
    have q3 := g1 3 (by omega) (by omega)
    have q4 := g1 4 (by omega) (by omega)
    have q8 := g1 8 (by omega) (by omega)
    have q9 := g1 9 (by omega) (by omega)
    have q13 := g1 13 (by omega) (by omega)
    have q14 := g1 14 (by omega) (by omega)
    have qh := glow q (by simpa using hnq)
    simp [e3, e4, e8, e9, e13, e14, hhq] at q3 q4 q8 q9 q13 q14 qh gp1 gnh
    have hpq' : ¬ q = p' := by omega
    simp
    refine At.loop (fun (j : Nat) s => j ≤ sq ∧ s.env 3 = .ref q 0 ∧ s.env 4 = .int .i64 (n : Int) ∧ s.env 8 = TV ∧ s.env 9 = .int .i64 te ∧ s.env 13 = .int .i64 (sq : Int) ∧ s.env 14 = .int .i64 (k : Int) ∧ s.env 15 = .ref p' 0 ∧ s.env 16 = .int .i64 ((sqK c k j).length : Nat) ∧ s.env 17 = .int .i64 (j : Int) ∧ q < s.hs.nh ∧ p' < s.hs.nh ∧ s.hs.heap q = some [.int .i64 R.r, .int .i64 R.c, y0] ∧ ∃ y, s.hs.heap p' = some [.int .i64 R.r, .int .i64 R.c, y] ∧ OwB s.hs y (R.b ++ sqK c k j)) (fun j => sq - j) 0 ?_ ?_
    · simp [q3, q4, q8, q9, q13, q14, g15, qh, gp, gp2, sqK]
      exact ⟨by omega, go.cong rfl rfl⟩
    rintro N2 j s3 hN2 ⟨hj, f3, f4, f8, f9, f13, f14, f15, f16, f17, fnq, fnp, fhq, y2, fhp, fo⟩
    simp [f13, f17]
    refine At.dec (fun hlt2 => ?_) (fun hlt2 => ?_)
    · have hj' : j < sq := by omega
      have sr := shr64 (kd := 0) (a := k) (n := j) (k := .i64) (by omega)
      have an := and64 (kd := 0) (a := k / 2 ^ j) (b := 1) (by have := Nat.div_le_self k (2 ^ j); omega) (by decide)
      rw [bit64] at an
      have hsk : sqK c k (j + 1) = if k.testBit j = true then sqK c k j ++ [(((j / c : Nat) : Int), ((j % c : Nat) : Int), 0)] else sqK c k j := rfl
      have qu := quo64 (kd := 0) (a := j) (b := c) (by omega) (by omega)
      have re := rem64 (kd := 0) (k := .i64) (a := j) (b := c) (by omega)
      rw [← hc] at qu re
      rw [Int.natCast_one] at an
      have hlj := sqK_len (n := c) (s := k) j
      generalize k / 2 ^ j = S2 at *
      generalize j / c = KQ at *
      generalize j % c = KR at *
      cases hbit : k.testBit j with
      | false =>
        rw [hbit, if_neg (by decide)] at hsk
        rw [hbit] at an
        simp only [Bool.toNat_false, Int.natCast_zero] at an
        simp [f14, f17, sr, an]
        refine hN2 (j + 1) _ (by omega) ⟨by omega, ?_⟩
        rw [hsk]
        simp [f3, f4, f8, f9, f13, f14, f15, f16, fnq, fnp, fhq, fhp, wrap_nat1 (show j < _ by omega)]
        exact fo.cong rfl rfl
      | true =>
        rw [hbit, if_pos rfl] at hsk
        rw [hbit] at an
        simp only [Bool.toNat_true, Int.natCast_one] at an
        have hq3 : asV 3 (.sl 3 [.agg [.int .i64 (KQ : Int), .int .i64 (KR : Int), .int .i64 0]] .exact) = some (brs [((KQ : Int), (KR : Int), 0)]) := asV_sl (by simp)
        obtain ⟨y3, hs3, b1, b2, b3⟩ := fo.app hq3 (by simp; omega)
        obtain ⟨d1, d2⟩ := b2.cells
        rw [List.append_assoc, ← hsk] at b2
        have hll : (sqK c k (j + 1)).length = (sqK c k j).length + 1 := by rw [hsk]; simp
        generalize hSN : sqK c k (j + 1) = SN at *
        generalize (sqK c k j).length = SL at *
        simp [f3, f14, f15, f16, f17, sr, an, fa, la, lpa, fhp, fhq, apart, qu, re, afill, si, ci, sa, ca, setL, astoAll, b1, astore, b3.heap, d1, d2, env_none, wrap_nat1 (show SL < _ by omega)]
        refine hN2 (j + 1) _ (by omega) ⟨by omega, ?_⟩
        rw [hSN, hll]
        simp [f3, f4, f8, f9, f13, f14, f15, f17, hpq', fhq, b3.nh, fnq, fnp, env_none, wrap_nat1 (show j < _ by omega)]
        exact b2.cong rfl rfl
    · have hjs : j = sq := by omega
      subst hjs
      have hlj := sqK_len (n := c) (s := k) j
      have hsqo := sqK_ok (s := k) (m := r) (n := c) (k := j) (by omega) (by omega) (by omega) (by omega) (by omega)
      have hoko : OkR (rkL R (R.b ++ sqK c k j)) := ⟨hok.r1, hok.r6, hok.c1, hok.c6, fun b hb => by
        rcases List.mem_append.1 hb with hb | hb
        · exact hok.b b hb
        · have := hsqo.b b hb
          rw [hr, hc]; exact this⟩
      have hrodo : allRod (R.b ++ sqK c k j) = true := allRod_iff.2 fun b hb => by
        rcases List.mem_append.1 hb with hb | hb
        · exact allRod_iff.1 hrod b hb
        · exact sqK_rod b hb
      have hno := hfew _ hoko hrodo
      have hJ := SJo_i (asR_mk (r := R.r) (c := R.c) fo.asb) hoko
      generalize joB (rkL R (R.b ++ sqK c k j)) = JB at *
      generalize (sqK c k j).length = SL at *
      by_cases hcn : SL + 1 = n
      · have hJB := hno hcn
        subst hJB
        have hcn' : (SL : Int) = (n : Int) - 1 := by omega
        simp [f4, f14, f15, f16, la, fhp, apart, wn, hcn', hJ]
        refine hN (k + 1) _ (by omega) ⟨by omega, ?_⟩
        simp [f3, f4, f8, f9, f13, fnq, fhq, wrap_nat1 (show k < _ by omega)]
      · have hcn' : ¬ ((SL : Int) = (n : Int) - 1) := by omega
        simp [f4, f14, f16, wn, hcn']
        refine hN (k + 1) _ (by omega) ⟨by omega, ?_⟩
        simp [f3, f4, f8, f9, f13, fnq, fhq, wrap_nat1 (show k < _ by omega)]
  · have hg1 : n = 0 → (gmR R).length = 1 := fun h => by omega
    rcases hTV with ⟨h0, rfl, rfl⟩ | ⟨h0, rfl, hTI⟩
    · have h0' : (0 : Int) < (n : Int) := by omega
      simp [e4, e8, e9, h0', h0]
    have hg1 := hg1 h0
    have e4' : s.env 4 = .int .i64 0 := by rw [e4, h0]; rfl
    obtain ⟨t, ht1, ht2, ht3, ht4, ht5⟩ := gr_set hok hrod hg1
    have hfirst := fun s' => gr_first (t := t) (s := s') hok hrod ht2
    rw [← ht3] at hTI
    obtain ⟨sz, hsz⟩ : ∃ sz : Nat, sz + 1 = nR R := ⟨nR R - 1, by omega⟩
    have hszw : IntKind.i64.wrap (IntKind.i64.wrap (R.r + R.c) - 1) = (sz : Int) := by
      have : IntKind.i64.wrap (R.r + R.c) = R.r + R.c := wrap64 (by omega) (by omega)
      rw [this, wrap64 (by omega) (by omega)]; omega
    have shl := shl64 (kd := 0) (n := R.b.length) (k := .i64) (by omega)
    have hQ512 : 2 ^ R.b.length ≤ 512 := Nat.le_trans (Nat.pow_le_pow_right (by decide) (show R.b.length ≤ 9 by omega)) (by decide)
    obtain ⟨Q, hQ⟩ : ∃ Q : Nat, Q = 2 ^ R.b.length := ⟨_, rfl⟩
    rw [← hQ] at shl hQ512 ht1
    simp [e3, e4', la, lpa, fa, hhq, apart, hszw]
    refine At.loop (fun (k : Nat) s => k ≤ Q ∧ s.env 3 = .ref q 0 ∧ s.env 8 = TV ∧ s.env 9 = .int .i64 0 ∧ s.env 19 = .int .i64 (sz : Int) ∧ s.env 20 = .int .i64 (k : Int) ∧ q < s.hs.nh ∧ s.hs.heap q = some [.int .i64 R.r, .int .i64 R.c, y0] ∧ FI R t k (s.env 18)) (fun k => Q - k) 0 ?_ ?_
    · simp [e3, e8, e9, hnq, hhq]
      exact .inl ⟨rfl, Nat.zero_le _⟩
    clear hN
    rintro N k s hN ⟨hk, e3, e8, e9, e19, e20, hnq, hhq, hF⟩
    simp [e3, e20, la, lpa, fa, hhq, apart, blen hy, hlz, shl]
    refine At.dec (fun hlt => ?_) (fun hlt => ?_)
    rotate_left
    · have hkQ : k = Q := by omega
      subst hkQ
      rcases hF with ⟨_, hle⟩ | ⟨s', xs, cp, hv18, hvI, _, hlast⟩
      · omega
      · rw [hlast ht1] at hvI
        have hn := SNum_i hTI hvI
        simp only [decide_true] at hn
        simp [e8, e9, hn]
    have hkQ : k < Q := by omega
    generalize hp' : s.hs.nh = p' at *
    have hqp : ¬ q = p' := by omega
    simp [e3, la, lpa, fa, hhq, apart, blen hy, hlz, afill, si, ci, sa, ca, setL, astore, env_none, hp', hqp]
    refine At.loop (fun (j : Nat) s' => j ≤ R.b.length ∧ s'.env 3 = .ref q 0 ∧ s'.env 8 = TV ∧ s'.env 9 = .int .i64 0 ∧ s'.env 18 = s.env 18 ∧ s'.env 19 = .int .i64 (sz : Int) ∧ s'.env 20 = .int .i64 (k : Int) ∧ s'.env 22 = .ref p' 0 ∧ s'.env 200 = y0 ∧ s'.env 201 = .int .i64 (R.b.length : Int) ∧ s'.env 202 = .int .i64 (j : Int) ∧ q < s'.hs.nh ∧ p' < s'.hs.nh ∧ s'.hs.heap q = some [.int .i64 R.r, .int .i64 R.c, y0] ∧ Outs 1 s'.hs (s'.env 21) (ints (seI k j)) ∧ ∃ yB, s'.hs.heap p' = some [.int .i64 R.r, .int .i64 R.c, yB] ∧ Outs 3 s'.hs yB (brs (seB R k j)) ∧ Apart (s'.env 21) yB) (fun j => R.b.length - j) 0 ?_ ?_
    · simp [e3, e8, e9, e19, e20, hhq, hqp]
      exact ⟨by omega, .nil, .nil⟩
    rintro N2 j s3 hN2 ⟨hj, f3, f8, f9, f18, f19, f20, f22, f200, f201, f202, fnq, fnp, fhq, fo, yB, fhp, fb, fap⟩
    simp [f201, f202]
    refine At.dec (fun hlt2 => ?_) (fun hlt2 => ?_)
    · have hj' : j < R.b.length := by omega
      obtain ⟨d, hd⟩ : ∃ d, d = R.b[j] := ⟨_, rfl⟩
      have hgd : R.b.getD j (0, 0, 0) = d := by rw [hd, List.getD_eq_getElem?_getD, List.getElem?_eq_getElem hj']; rfl
      have hbi := bidx hy hj' (k := .i64)
      rw [← hd] at hbi
      have gl : ∀ h, aload h true 3 (.ptr (.agg [.int .i64 d.1, .int .i64 d.2.1, .int .i64 d.2.2])) = some (.agg [.int .i64 d.1, .int .i64 d.2.1, .int .i64 d.2.2]) := fun _ => rfl
      have sr := shr64 (kd := 0) (a := k) (n := j) (k := .i64) (by omega)
      have an := and64 (kd := 0) (a := k / 2 ^ j) (b := 1) (by have := Nat.div_le_self k (2 ^ j); omega) (by decide)
      rw [bit64, Int.natCast_one] at an
      have sI : seI k (j + 1) = if k.testBit j = true then seI k j ++ [(j : Int)] else seI k j := rfl
      have sB : seB R k (j + 1) = if k.testBit j = true then seB R k j ++ [d] else seB R k j := by rw [← hgd]; rfl
      have lI := seI_le (s := k) j
      have lB := se_len (R := R) (s := k) j
      have nn1 : ¬ q = s3.hs.nh := by omega
      have nn2 : ¬ p' = s3.hs.nh := by omega
      have nn3 : ¬ s3.hs.nh = p' := by omega
      generalize k / 2 ^ j = S2 at *
      cases hbit : k.testBit j with
      | false =>
        rw [hbit, if_neg (by decide)] at sI sB
        rw [hbit] at an
        simp only [Bool.toNat_false, Int.natCast_zero] at an
        simp [f20, f200, f202, hbi, gl, sr, an, sa, ca, setL, astore, env_none]
        refine hN2 (j + 1) _ (by omega) ⟨by omega, ?_⟩
        rw [sI, sB]
        simp [f3, f8, f9, f18, f19, f20, f22, f200, f201, fhq, fhp, nn1, nn2, wrap_nat1 (show j < _ by omega), env_none]
        exact ⟨by omega, by omega, fo.cong rfl rfl, fb.cong rfl rfl, fap⟩
      | true =>
        rw [hbit, if_pos rfl] at sI sB
        rw [hbit] at an
        simp only [Bool.toNat_true, Int.natCast_one] at an
        have fo' : Outs 1 ⟨fun k => if k = s3.hs.nh then some [.int .i64 d.1, .int .i64 d.2.1, .int .i64 d.2.2] else if k = s3.hs.nh then some [.int .i64 0, .int .i64 0, .int .i64 0] else s3.hs.heap k, s3.hs.nh + 1, s3.hs.nt, s3.hs.tok⟩ (s3.env 21) (ints (seI k j)) := fo.cong rfl rfl
        obtain ⟨y1, hs4, b1, b2, b3, b4⟩ := add_apart fo' (by omega) (j : Int)
        obtain ⟨c1, c2⟩ := b4 (fb.cong rfl rfl) fap
        obtain ⟨y3, hs5, d1, d2, d3, d4⟩ := append_apart c1 (q := .sl 3 [.agg [.int .i64 d.1, .int .i64 d.2.1, .int .i64 d.2.2]] .exact) (ys := [.agg [.int .i64 d.1, .int .i64 d.2.1, .int .i64 d.2.2]]) (asV_sl (by simp)) (by simp; omega)
        obtain ⟨c3, c4⟩ := d4 b2 c2.symm
        obtain ⟨u1, u2, _⟩ := out_cells d2
        rw [← sI] at c3
        rw [List.map_cons, List.map_nil, share_br] at d2
        have he : brs (seB R k j) ++ [.agg [.int .i64 d.1, .int .i64 d.2.1, .int .i64 d.2.2]] = brs (seB R k (j + 1)) := by rw [sB, brs, brs, List.map_append]; rfl
        rw [he] at d2
        have e5 : hs5.heap = _ := d3.heap.trans b3.heap
        have e6 : hs5.nh = s3.hs.nh + 1 := d3.nh.trans b3.nh
        simp [f3, f20, f22, f200, f202, hbi, gl, sr, an, la, lpa, fa, fhp, apart, nn1, nn2, nn3, sa, ca, setL, astoAll, astore, env_none, b1, b3.heap, d1, e5, u1, u2]
        refine hN2 (j + 1) _ (by omega) ⟨by omega, ?_⟩
        simp [f3, f8, f9, f18, f19, f20, f22, f200, f201, fhq, nn1, nn2, hqp, e6, wrap_nat1 (show j < _ by omega), env_none]
        exact ⟨by omega, by omega, c3.cong rfl rfl, d2.cong rfl rfl, c4.symm⟩
    · have hjl : j = R.b.length := by omega
      subst hjl
      have lI := seI_le (s := k) R.b.length
      have lB := se_len (R := R) (s := k) R.b.length
      have zI := fo.asI (by omega)
      have hoko := se_ok hok (s := k) (k := R.b.length) (Nat.le_refl _)
      have hrodo := se_rod hrod (s := k) (k := R.b.length) (Nat.le_refl _)
      have hJ := SJo_i (asR_mk (r := R.r) (c := R.c) (asB_outs fb (by omega))) hoko
      rw [jo_st hoko hrodo] at hJ
      -- a set that is left out
      have hskip : ¬ ((gmR (rkL R (seB R k R.b.length))).length = 1 ∧ (seI k R.b.length).length + 1 = nR R) → FI R t (k + 1) (s.env 18) := by
        intro hno
        have hkt : k ≠ t := fun h => hno (by rw [h]; exact ⟨ht4, ht5⟩)
        rcases hF with ⟨h1, h2⟩ | ⟨s', xs, cp, h1, h2, h3, h4⟩
        · exact .inl ⟨h1, by omega⟩
        · exact .inr ⟨s', xs, cp, h1, h2, h3, fun h => h4 (by omega)⟩
      by_cases hgt : sz < (seI k R.b.length).length
      · have hgt' : (sz : Int) < ((seI k R.b.length).length : Int) := by omega
        have hF2 := hskip (fun h => by omega)
        have hlen := alen_of zI
        generalize (seI k R.b.length).length = SL at *
        simp [f19, f20, hlen, hgt', hgt]
        refine hN (k + 1) _ (by omega) ⟨by omega, ?_⟩
        simp [f3, f8, f9, f18, f19, fnq, fhq, wrap_nat1 (show k < _ by omega)]
        exact hF2
      · have hgt' : ¬ (sz : Int) < ((seI k R.b.length).length : Int) := by omega
        have hstd : stM (rkL R (seB R k R.b.length)) = decide ((gmR (rkL R (seB R k R.b.length))).length = 1) := rfl
        cases hst : stM (rkL R (seB R k R.b.length)) with
        | false =>
          rw [hst] at hJ hstd
          have hno : ¬ (gmR (rkL R (seB R k R.b.length))).length = 1 := of_decide_eq_false hstd.symm
          have hF2 := hskip (fun h => hno h.1)
          have hlen := alen_of zI
          generalize (seI k R.b.length).length = SL at *
          simp [f19, f20, f22, hlen, hgt', hgt, la, fhp, apart, hJ]
          refine hN (k + 1) _ (by omega) ⟨by omega, ?_⟩
          simp [f3, f8, f9, f18, f19, fnq, fhq, wrap_nat1 (show k < _ by omega)]
          exact hF2
        | true =>
          rw [hst] at hJ hstd
          have h1 : (gmR (rkL R (seB R k R.b.length))).length = 1 := of_decide_eq_true hstd.symm
          have hmin := se_few hok hrod h1
          have hlt' : ¬ ((seI k R.b.length).length : Int) < (sz : Int) := by omega
          have hlt'' : ¬ (seI k R.b.length).length < sz := by omega
          have hokk : (gmR (rkL R (seB R k R.b.length))).length = 1 ∧ (seI k R.b.length).length + 1 = nR R := ⟨h1, by omega⟩
          obtain ⟨zx, zc, hzz⟩ : ∃ xs cp, s3.env 21 = .sl 1 xs cp := by
            rcases fo.inv with ⟨_, h⟩ | ⟨xs, κ, h, _⟩
            · have : seI k R.b.length = [] := List.map_eq_nil_iff.1 h
              rw [this] at hokk
              simp at hokk
              omega
            · exact ⟨xs, _, h⟩
          have hnew : (t < k + 1 → seI k R.b.length = seI t R.b.length) → FI R t (k + 1) (s3.env 21) := fun h => .inr ⟨k, zx, zc, hzz, zI, hokk, h⟩
          have hlen := alen_of zI
          rcases hF with ⟨hv, hle⟩ | ⟨s', xs, cp, hv, hvI, hok', hlast⟩
          · have hF2 := hnew (fun h => by rw [show t = k by omega])
            rw [hv] at f18
            simp [f18, f19, f20, f22, hlen, hgt', hgt, hlt', hlt'', la, fhp, apart, hJ]
            refine hN (k + 1) _ (by omega) ⟨by omega, ?_⟩
            simp [f3, f8, f9, f19, fnq, fhq, wrap_nat1 (show k < _ by omega)]
            exact hF2
          · have hL := SLs_i zI hvI
            have hgk := hfirst k h1 hokk.2 ht5
            have hgs := hfirst s' hok'.1 hok'.2 ht5
            rw [hv] at hvI hL f18
            cases hLv : lsB (seI k R.b.length) (seI s' R.b.length) with
            | false =>
              rw [hLv] at hL
              have hF2 : FI R t (k + 1) (.sl 1 xs cp) := by
                refine .inr ⟨s', xs, cp, rfl, hvI, hok', fun h => ?_⟩
                by_cases htk : t < k
                · exact hlast htk
                · have : t = k := by omega
                  subst this
                  rcases hgs with h | h
                  · exact h.symm
                  · rw [h] at hLv; cases hLv
              simp [f18, f19, f20, f22, hlen, hgt', hgt, hlt', hlt'', la, fhp, apart, hJ, hL]
              refine hN (k + 1) _ (by omega) ⟨by omega, ?_⟩
              simp [f3, f8, f9, f18, f19, fnq, fhq, wrap_nat1 (show k < _ by omega)]
              exact hF2
            | true =>
              rw [hLv] at hL
              have hF2 := hnew (fun h => by
                by_cases htk : t < k
                · rw [hlast htk] at hLv
                  rcases hgk with h | h
                  · exact h.symm
                  · rw [lsB_asym h] at hLv; cases hLv
                · rw [show t = k by omega])
              simp [f18, f19, f20, f22, hlen, hgt', hgt, hlt', hlt'', la, fhp, apart, hJ, hL]
              refine hN (k + 1) _ (by omega) ⟨by omega, ?_⟩
              simp [f3, f8, f9, f19, fnq, fhq, wrap_nat1 (show k < _ by omega)]
              exact hF2
theorem fewest_typed (xs : List AV) (h : Typed [TSh] xs) : PCall Try.prog 8 xs (.bool true) := by
  obtain ⟨x, rfl, hx⟩ := h.one
  obtain ⟨a, b, l, hs⟩ := shelf_typed hx
  exact p8 hs
end Go.Proofs.Ytecbbbocjmdfgaa
