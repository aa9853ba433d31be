/-
  Sums, all tries, digits: the law's own functions. Own work.
  All tries, and digits. Own work.
  What the searches say: plain laws of chains, with no program in sight. Own work.
  The distances of the 46 numbers, and what follows for chains and rows. Own work.
  The law of the least number of transfers, walked. Own work.
  The laws of what is reached, and of the examples, walked. Own work.
  The law of products, walked. Own work.
-/
import Derived.Test.YtnmpdegnpaggkaaG2
import Derived.Test.YtnmpdegnpaggkaaFw4
set_option linter.unusedVariables false
set_option linter.unusedSimpArgs false
namespace Go.Proofs.Ytnmpdegnpaggkaa
open Go Fw

def sumQ (p : List Int) (x : Int) : Bool := p.any fun a => p.any fun b => decide (a + b = x)
def sumAt (l : List Int) (j : Nat) : Bool := sumQ (l.take j) (l.getD j 0) && decide (l.getD (j - 1) 0 < l.getD j 0) && decide (l.getD j 0 ≤ 1000)
def sumsB (l : List Int) : Bool := decide (0 < l.length) && decide (l.getD 0 0 = 1) && (List.range' 1 (l.length - 1)).all (sumAt l)
theorem range'_all_hit {f : Nat → Bool} {m n j : Nat} (h1 : m ≤ j) (h2 : j < m + n) (h : f j = false) : (List.range' m n).all f = false := by
  rw [Bool.eq_false_iff]
  intro he
  rw [List.all_eq_true] at he
  have := he j (by rw [List.mem_range'_1]; omega)
  rw [h] at this; cases this
theorem range'_all_of {f : Nat → Bool} {m n : Nat} (h : ∀ j, m ≤ j → j < m + n → f j = true) : (List.range' m n).all f = true := by
  rw [List.all_eq_true]
  intro j hj
  rw [List.mem_range'_1] at hj
  exact h j hj.1 hj.2
theorem p40 {x : AV} {l : List Int} (hx : asI x = some l) (hm : Sm l) : PCall Try.prog 40 [x] (.bool (sumsB l)) := by
  have hl := asI_len hx
  refine PCall.of D18ok ok40 (by simp) rfl fun hs' hb => ?_
  simp [A40, R40, alen_of hx]
  refine At.decn (fun h0 => ?_) (fun h0 => ?_)
  · simp [h0]
    simp [sumsB, h0]
  · have hpos : 0 < l.length := List.length_pos_iff.2 h0
    have a0 := aidx_nat hx (k := .i64) hpos
    simp only [Int.natCast_zero] at a0
    simp [h0, a0]
    refine At.decn (fun h1 => ?_) (fun h1 => ?_)
    case' refine_2 =>
      have : sumsB l = false := by unfold sumsB; rw [getD_get hpos]; simp only [h1, decide_false, Bool.and_false, Bool.false_and]
      simp [this]
    simp
    refine At.loop (fun (j : Nat) s => 1 ≤ j ∧ j ≤ l.length ∧ s.env 0 = x ∧ s.env 3 = .int .i64 j ∧ ∀ k, 1 ≤ k → k < j → sumAt l k = true) (fun j => l.length - j) 1 ⟨by omega, by omega, by simp, by simp, fun k h1 h2 => by omega⟩ ?_
    rintro N j s hN ⟨hj1, hj, e0, e3, hall⟩
    simp [e0, e3, alen_of hx]
    refine At.dec (fun h2 => ?_) (fun h2 => ?_)
    · have hjl : j < l.length := by omega
      have aj := aidx_nat hx (k := .i64) hjl
      have bj := hm l[j] (List.getElem_mem hjl)
      simp [e0, e3]
      refine At.loop (fun (i : Nat) s => i ≤ j ∧ s.env 0 = x ∧ s.env 3 = .int .i64 j ∧ s.env 5 = .int .i64 i ∧ s.env 4 = .bool ((l.take i).any fun a => (l.take j).any fun b => decide (a + b = l[j]))) (fun i => j - i) 0 (by simp [e0, e3]) ?_
      rintro N2 i s2 hN2 ⟨hi, e0, e3, e5, e4⟩
      simp [e0, e3, e4, e5]
      refine At.dec (fun h3 => ?_) (fun h3 => ?_)
      · have hil : i < l.length := by omega
        have ai := aidx_nat hx (k := .i64) hil
        have bi := hm l[i] (List.getElem_mem hil)
        simp [e0, e3, e4, e5]
        refine At.loop (fun (k : Nat) s => k ≤ j ∧ s.env 0 = x ∧ s.env 3 = .int .i64 j ∧ s.env 5 = .int .i64 i ∧ s.env 6 = .int .i64 k ∧ s.env 4 = .bool (((l.take i).any fun a => (l.take j).any fun b => decide (a + b = l[j])) || (l.take k).any fun b => decide (l[i] + b = l[j]))) (fun k => j - k) 0 (by simp [e0, e3, e4, e5]) ?_
        rintro N3 k s3 hN3 ⟨hk, g0, g3, g5, g6, g4⟩
        generalize hB : (((l.take i).any fun a => (l.take j).any fun b => decide (a + b = l[j])) || (l.take k).any fun b => decide (l[i] + b = l[j])) = B at g4
        simp [g0, g3, g4, g5, g6]
        refine At.dec (fun h4 => ?_) (fun h4 => ?_)
        · have hkl : k < l.length := by omega
          have ak := aidx_nat hx (k := .i64) hkl
          have bk := hm l[k] (List.getElem_mem hkl)
          have w : IntKind.i64.wrap (l[i] + l[k]) = l[i] + l[k] := wrap64 (by omega) (by omega)
          have hst : (((l.take i).any fun a => (l.take j).any fun b => decide (a + b = l[j])) || (l.take (k + 1)).any fun b => decide (l[i] + b = l[j])) = (B || decide (l[i] + l[k] = l[j])) := by
            rw [any_take_succ hkl, ← Bool.or_assoc, hB]
          cases B
          · simp [g0, g3, g4, g5, g6, ai, ak, aj, w]
            refine hN3 (k + 1) _ (by omega) ⟨by omega, ?_⟩
            rw [hst]
            simp [g0, g3, g4, g5, g6, wrap_nat1 (show k < _ by omega)]
          · simp [g0, g3, g4, g5, g6]
            refine hN3 (k + 1) _ (by omega) ⟨by omega, ?_⟩
            rw [hst]
            simp [g0, g3, g4, g5, g6, wrap_nat1 (show k < _ by omega)]
        · have : k = j := by omega
          subst this
          have hst2 : ((l.take (i + 1)).any fun a => (l.take k).any fun b => decide (a + b = l[k])) = B := by rw [any_take_succ hil, hB]
          simp [g0, g3, g4, g5, g6]
          refine hN2 (i + 1) _ (by omega) ⟨by omega, ?_⟩
          rw [hst2]
          simp [g0, g3, g4, g5, g6, wrap_nat1 (show i < _ by omega)]
      · have : i = j := by omega
        subst this
        have hq : ((l.take i).any fun a => (l.take i).any fun b => decide (a + b = l[i])) = sumQ (l.take i) l[i] := rfl
        rw [hq] at e4
        have hgd : l.getD i 0 = l[i] := getD_get hjl
        have hj1l : i - 1 < l.length := by omega
        have aj1 := aidx_nat hx (k := .i64) hj1l
        have c1 : ((i - 1 : Nat) : Int) = (i : Int) - 1 := by omega
        rw [c1] at aj1
        have w1 : IntKind.i64.wrap ((i : Int) - 1) = (i : Int) - 1 := wrap64 (by omega) (by omega)
        have hgd1 : l.getD (i - 1) 0 = l[i - 1] := getD_get hj1l
        have hsa : sumAt l i = (sumQ (l.take i) l[i] && decide (l[i - 1] < l[i]) && decide (l[i] ≤ 1000)) := by unfold sumAt; rw [hgd, hgd1]
        have bad : sumAt l i = false → sumsB l = false := fun h => by
          unfold sumsB
          rw [range'_all_hit hj1 (by omega) h, Bool.and_false]
        generalize sumQ (l.take i) l[i] = q at e4 hsa
        cases q
        · simp [e0, e3, e4, e5]
          exact bad (by simp [hsa])
        · simp [e0, e3, e4, e5, aj, w1, aj1]
          by_cases h5 : l[i] ≤ l[i - 1]
          · simp [h5]
            exact bad (by simp [hsa]; intro h; omega)
          · simp [h5, e0, e3, aj]
            refine At.dec (fun h6 => ?_) (fun h6 => ?_)
            · simp
              exact bad (by simp [hsa]; intro h; omega)
            · simp [e0, e3, e4, e5]
              refine hN (i + 1) _ (by omega) ⟨by omega, by omega, ?_⟩
              simp [e0, e3, e4, e5, wrap_nat1 (show i < _ by omega)]
              intro k hk1 hk2
              rcases Nat.lt_or_ge k i with h' | h'
              · exact hall k hk1 h'
              · have : k = i := by omega
                subst this
                simp [hsa]; omega
    · have : j = l.length := by omega
      subst this
      simp [e0, e3]
      have hg : l.getD 0 0 = l[0] := getD_get hpos
      unfold sumsB
      rw [hg, range'_all_of fun k h1 h2 => hall k h1 (by omega)]
      simp [hpos, h1]
end Go.Proofs.Ytnmpdegnpaggkaa
set_option linter.unusedVariables false
set_option linter.unusedSimpArgs false
namespace Go.Proofs.Ytnmpdegnpaggkaa
open Go Fw

def S40 : List AV → Option AV
  | [x] => (asI x).bind fun l => if Sm l then some (.bool (sumsB l)) else none
  | _ => none
theorem c40 : ∀ a r, S40 a = some r → PCall Try.prog 40 a r := by
  intro a r h
  unfold S40 at h
  split at h <;> (try (cases h; done))
  obtain ⟨l, hl, h⟩ := Option.bind_eq_some_iff.1 h
  split at h <;> (try (cases h; done))
  injection h with h; subst h
  exact p40 hl (by assumption)

def tryB (n : Int) : Nat → List Int → Bool
  | 0, l => decide (lastL l = n)
  | k + 1, l => if lastL l = n then true else if n < lastL l then false else if lastL l * 2 ^ (k + 1) < n then false else
      (List.range l.length).any fun (i : Nat) => (List.range (i + 1)).any fun (j : Nat) => decide (lastL l < l.getD i 0 + l.getD j 0) && tryB n k (l ++ [l.getD i 0 + l.getD j 0])
structure GoodT (n : Int) (k : Nat) (c : List Int) : Prop where
  ne : 0 < c.length
  len : c.length + k ≤ 50
  bound : ∀ a ∈ c, 1 ≤ a ∧ a ≤ lastL c
  top : lastL c ≤ 92
  n1 : 1 ≤ n
  n2 : n ≤ 46
  k7 : k ≤ 7
instance (n : Int) (k : Nat) (c : List Int) : Decidable (GoodT n k c) :=
  decidable_of_iff (0 < c.length ∧ c.length + k ≤ 50 ∧ (∀ a ∈ c, 1 ≤ a ∧ a ≤ lastL c) ∧ lastL c ≤ 92 ∧ 1 ≤ n ∧ n ≤ 46 ∧ k ≤ 7)
    ⟨fun ⟨a, b, c, d, e, f, g⟩ => ⟨a, b, c, d, e, f, g⟩, fun ⟨a, b, c, d, e, f, g⟩ => ⟨a, b, c, d, e, f, g⟩⟩
def S41 (K : Nat) : List AV → Option AV
  | [x, .int .i64 n, .int .i64 k] => (asI x).bind fun c => if 0 ≤ k ∧ k.toNat < K ∧ GoodT n k.toNat c then some (.bool (tryB n k.toNat c)) else none
  | _ => none
theorem any_range_false {f : Nat → Bool} {m : Nat} : (List.range m).any f = false ↔ ∀ k, k < m → f k = false := by simp
theorem p41 {K : Nat} (ih : ∀ a r, S41 K a = some r → PCall Try.prog 41 a r) {x : AV} {c : List Int} (hx : asI x = some c) {n : Int} {k : Nat} (hk : k < K + 1) (g : GoodT n k c) :
    PCall Try.prog 41 [x, .int .i64 n, .int .i64 (k : Int)] (.bool (tryB n k c)) := by
  have hC : CtxOk Try.prog (D18.add 41 (S41 K)) := D18ok.add ih
  generalize hD : D18.add 41 (S41 K) = D at hC
  have hD41 : D 41 = S41 K := by rw [← hD]; rfl
  obtain ⟨gne, glen, gb, gtop, gn1, gn2, gk7⟩ := g
  refine PCall.of hC ok41 (by simp) rfl fun hs' hb => ?_
  obtain ⟨m, hm⟩ : ∃ m, c.length = m + 1 := ⟨c.length - 1, by omega⟩
  have ha := alen_of hx
  rw [show ((c.length : Nat) : Int) = (m : Int) + 1 by omega] at ha
  have hml : m < c.length := by omega
  have hlast : lastL c = c[m] := by rw [lastL_get gne]; congr 1; omega
  have wm : IntKind.i64.wrap (m : Int) = m := wrap_nat (by omega)
  have hl46 := gb c[m] (List.getElem_mem hml)
  rw [hlast] at gb gtop
  simp [A41, R41, ha, wm, aidx_nat hx hml]
  refine At.dec (fun h0 => ?_) (fun h0 => ?_)
  · have : tryB n k c = true := by cases k <;> simp [tryB, hlast, h0]
    simp [this]
  cases k with
  | zero =>
    have : tryB n 0 c = false := by simp [tryB, hlast, h0]
    simp [this]
  | succ k =>
    have ck : ((k + 1 : Nat) : Int) = (k : Int) + 1 := by omega
    have hk0 : ¬ (k : Int) + 1 = 0 := by omega
    simp [hk0]
    refine At.decn (fun h1 => ?_) (fun h1 => ?_)
    · have : tryB n (k + 1) c = false := by simp [tryB, hlast, h0, h1]
      simp [this, h1]
    · have hshl := shl_last hl46.1 (show c[m] ≤ 46 by omega) gk7
      rw [ck] at hshl
      simp [h1, hshl]
      refine At.dec (fun h2 => ?_) (fun h2 => ?_)
      · have : tryB n (k + 1) c = false := by simp [tryB, hlast, h0, h1, h2]
        simp [this]
      · have htry : tryB n (k + 1) c = (List.range c.length).any fun (i : Nat) => (List.range (i + 1)).any fun (j : Nat) => decide (c[m] < c.getD i 0 + c.getD j 0) && tryB n k (c ++ [c.getD i 0 + c.getD j 0]) := by
          simp [tryB, hlast, h0, h1, h2]
        generalize hf : (fun (i j : Nat) => decide (c[m] < c.getD i 0 + c.getD j 0) && tryB n k (c ++ [c.getD i 0 + c.getD j 0])) = f at *
        have hf' : ∀ i j, f i j = (decide (c[m] < c.getD i 0 + c.getD j 0) && tryB n k (c ++ [c.getD i 0 + c.getD j 0])) := fun i j => by rw [← hf]
        have htry' : tryB n (k + 1) c = (List.range c.length).any fun (i : Nat) => (List.range (i + 1)).any fun (j : Nat) => f i j := by rw [htry]; simp only [hf']
        have hit : ∀ i j, i < c.length → j ≤ i → f i j = true → tryB n (k + 1) c = true := fun i j hi hj h => by
          rw [htry', List.any_eq_true]
          exact ⟨i, by simpa using hi, by rw [List.any_eq_true]; exact ⟨j, by simp; omega, h⟩⟩
        simp [ha]
        refine At.loop (fun (i : Nat) s => i ≤ c.length ∧ s.env 0 = x ∧ s.env 1 = .int .i64 n ∧ s.env 2 = .int .i64 ((k : Int) + 1) ∧ s.env 7 = .int .i64 c[m] ∧ s.env 35 = .int .i64 ((m : Int) + 1) ∧ s.env 36 = .int .i64 i ∧ ∀ a, a < i → ∀ b, b ≤ a → f a b = false) (fun i => c.length - i) 0 (by simp) ?_
        rintro N i s hN ⟨hi, e0, e1, e2, e7, e35, e36, hall⟩
        simp [e0, e1, e2, e7, e35, e36]
        refine At.dec (fun h3 => ?_) (fun h3 => ?_)
        · have hil : i < c.length := by omega
          have bi := gb c[i] (List.getElem_mem hil)
          simp [e0, e1, e2, e7, e35, e36]
          refine At.loop (fun (j : Nat) s => j ≤ i + 1 ∧ s.env 0 = x ∧ s.env 1 = .int .i64 n ∧ s.env 2 = .int .i64 ((k : Int) + 1) ∧ s.env 7 = .int .i64 c[m] ∧ s.env 35 = .int .i64 ((m : Int) + 1) ∧ s.env 36 = .int .i64 i ∧ s.env 8 = .int .i64 i ∧ s.env 9 = .int .i64 j ∧ ∀ b, b < j → f i b = false) (fun j => i + 1 - j) 0 (by simp [e0, e1, e2, e7, e35, e36]) ?_
          rintro N2 j s2 hN2 ⟨hj, g0, g1, g2, g7, g35, g36, g8, g9, hin⟩
          simp [g0, g1, g2, g7, g35, g36, g8, g9]
          refine At.dec (fun h4 => ?_) (fun h4 => ?_)
          · have hjl : j < c.length := by omega
            have bj := gb c[j] (List.getElem_mem hjl)
            have w1 : IntKind.i64.wrap (c[i] + c[j]) = c[i] + c[j] := wrap64 (by omega) (by omega)
            have w4 : IntKind.i64.wrap (k : Int) = k := wrap_nat (by omega)
            have hfij := hf' i j
            rw [getD_get hil, getD_get hjl] at hfij
            have pass : ∀ s' : AS, f i j = false → s'.env 0 = x → s'.env 1 = .int .i64 n → s'.env 2 = .int .i64 ((k : Int) + 1) → s'.env 7 = .int .i64 c[m] → s'.env 35 = .int .i64 ((m : Int) + 1) → s'.env 36 = .int .i64 i → s'.env 8 = .int .i64 i → s'.env 9 = .int .i64 ((j : Int) + 1) → At (N2 s') := by
              intro s' hfa k0 k1 k2 k7 k35 k36 k8 k9
              refine hN2 (j + 1) _ (by omega) ⟨by omega, k0, k1, k2, k7, k35, k36, k8, by rw [k9]; rfl, fun b hb => ?_⟩
              rcases Nat.lt_or_ge b j with h' | h'
              · exact hin b h'
              · have : b = j := by omega
                subst this; exact hfa
            simp [g0, g1, g2, g7, g35, g36, g8, g9, aidx_nat hx hil, aidx_nat hx hjl, w1]
            by_cases h5 : c[m] < c[i] + c[j]
            · obtain ⟨y1, hs1, y2, hs2, q1, q2, q3, q4, q5⟩ := copy_snoc (hs := s2.hs) hx (by intro e; simp [e] at gne) (by omega) (c[i] + c[j])
              have hg : GoodT n k (c ++ [c[i] + c[j]]) := by
                refine ⟨by simp, by simp; omega, fun a ha => ?_, by rw [lastL_snoc]; omega, gn1, gn2, by omega⟩
                rw [lastL_snoc]
                simp only [List.mem_append, List.mem_singleton] at ha
                rcases ha with ha | ha
                · have := gb a ha; omega
                · subst ha; omega
              have hS : S41 K [y2, .int .i64 n, .int .i64 (k : Int)] = some (.bool (tryB n k (c ++ [c[i] + c[j]]))) := by
                simp only [S41, q3, Option.bind_some]
                rw [if_pos ⟨by omega, by simp; omega, by simpa using hg⟩]
                simp
              simp only [h5, decide_true, Bool.true_and] at hfij
              simp [g0, g1, g2, g7, g35, g36, g8, g9, h5, astoAll, q1, q2, w4, hD41, hS]
              refine At.split (fun h6 => ?_) (fun h6 => ?_)
              · simp [hit i j hil (by omega) (by rw [hfij]; exact h6)]
              · simp [g0, g1, g2, g7, g35, g36, g8, g9]
                refine pass _ (by rw [hfij]; exact h6) ?_ ?_ ?_ ?_ ?_ ?_ ?_ ?_ <;> simp [g0, g1, g2, g7, g35, g36, g8, g9, wrap_nat1 (show j < _ by omega)]
            · simp only [h5, decide_false, Bool.false_and] at hfij
              simp [g0, g1, g2, g7, g35, g36, g8, g9, h5]
              refine pass _ hfij ?_ ?_ ?_ ?_ ?_ ?_ ?_ ?_ <;> simp [g0, g1, g2, g7, g35, g36, g8, g9, wrap_nat1 (show j < _ by omega)]
          · have : j = i + 1 := by omega
            subst this
            simp [g0, g1, g2, g7, g35, g36, g8, g9]
            refine hN (i + 1) _ (by omega) ⟨by omega, ?_⟩
            simp [g0, g1, g2, g7, g35, g36, g8, g9, wrap_nat1 (show i < _ by omega)]
            intro a ha b hb
            rcases Nat.lt_or_ge a i with h' | h'
            · exact hall a h' b hb
            · have : a = i := by omega
              subst this; exact hin b (by omega)
        · have : i = c.length := by omega
          subst this
          have : tryB n (k + 1) c = false := by
            rw [htry', any_range_false]
            intro a ha
            rw [any_range_false]
            intro b hb
            exact hall a ha b (by omega)
          simp [e0, e1, e2, e7, e35, e36, this]
theorem c41 : ∀ K a r, S41 K a = some r → PCall Try.prog 41 a r := by
  intro K
  induction K with
  | zero =>
    intro a r h
    unfold S41 at h
    split at h <;> (try (cases h; done))
    obtain ⟨l, hl, h⟩ := Option.bind_eq_some_iff.1 h
    split at h <;> (try (cases h; done))
    rename_i hc
    exact absurd hc.2.1 (by omega)
  | succ K ih =>
    intro a r h
    unfold S41 at h
    split at h <;> (try (cases h; done))
    rename_i x n k
    obtain ⟨l, hl, h⟩ := Option.bind_eq_some_iff.1 h
    split at h <;> (try (cases h; done))
    rename_i hc
    injection h with h; subst h
    have := p41 ih hl hc.2.1 hc.2.2
    rwa [show ((k.toNat : Nat) : Int) = k by omega] at this

/-! digits -/
def dgA : Nat → Nat → Nat
  | 0, _ => 0
  | f + 1, m => if m = 0 then 0 else 1 + dgA f (m / 2)
def dgO : Nat → Nat → Nat
  | 0, _ => 0
  | f + 1, m => if m = 0 then 0 else m % 2 + dgO f (m / 2)
theorem dgA_le : ∀ f m, dgA f m ≤ f
  | 0, m => by simp [dgA]
  | f + 1, m => by have := dgA_le f (m / 2); simp only [dgA]; split <;> omega
theorem dgO_le : ∀ f m, dgO f m ≤ f
  | 0, m => by simp [dgO]
  | f + 1, m => by have := dgO_le f (m / 2); simp only [dgO]; split <;> omega
theorem p43 {n : Nat} (hn : n < 1000) : PCall Try.prog 43 [.int .i64 (n : Int)] (.tup [.int .i64 (dgA 10 n : Nat), .int .i64 (dgO 10 n : Nat)]) := by
  refine PCall.of D18ok ok43 (by simp) rfl fun hs' hb => ?_
  have b1 := dgA_le 10 n
  have b2 := dgO_le 10 n
  generalize hTA : dgA 10 n = TA at b1 ⊢
  generalize hTB : dgO 10 n = TB at b2 ⊢
  generalize hten : 10 = ten at hTA hTB
  simp [A43, R43]
  refine At.loop (fun (p : Nat × Nat × Nat × Nat) s => p.2.1 < 2 ^ p.1 ∧ p.1 ≤ 10 ∧ p.2.2.1 + dgA p.1 p.2.1 = TA ∧ p.2.2.2 + dgO p.1 p.2.1 = TB ∧ s.env 0 = .int .i64 p.2.1 ∧ s.env 2 = .int .i64 p.2.2.1 ∧ s.env 3 = .int .i64 p.2.2.2) (fun p => p.1) (10, n, 0, 0) ⟨by show n < 2 ^ 10; omega, Nat.le_refl _, by rw [← hTA, ← hten]; exact Nat.zero_add _, by rw [← hTB, ← hten]; exact Nat.zero_add _, by simp, by simp, by simp⟩ ?_
  rintro N ⟨f, m, a, b⟩ s hN ⟨hm, hf, ha, hb, e0, e2, e3⟩
  simp only at hm hf ha hb e0 e2 e3 hN
  simp [e0, e2, e3]
  refine At.dec (fun h => ?_) (fun h => ?_)
  · obtain ⟨g, rfl⟩ : ∃ g, f = g + 1 := ⟨f - 1, by
      rcases Nat.eq_zero_or_pos f with h' | h'
      · subst h'; simp at hm; omega
      · omega⟩
    have hm0 : ¬ m = 0 := by omega
    simp only [dgA, dgO, hm0, if_false] at ha hb
    have hp : (2 : Nat) ^ (g + 1) = 2 * 2 ^ g := by rw [Nat.pow_succ]; omega
    have hp10 : (2 : Nat) ^ (g + 1) ≤ 2 ^ 10 := Nat.pow_le_pow_right (by omega) hf
    have hmod : (m : Int).tmod 2 = ((m % 2 : Nat) : Int) := by rw [Int.tmod_eq_emod_of_nonneg (by omega)]; omega
    have hdiv : (m : Int).tdiv 2 = ((m / 2 : Nat) : Int) := by rw [Int.tdiv_eq_ediv_of_nonneg (by omega)]; omega
    have w1 : IntKind.i64.wrap ((a : Int) + 1) = ((a + 1 : Nat) : Int) := wrap_nat1 (by omega)
    have w2 : IntKind.i64.wrap ((b : Int) + ((m % 2 : Nat) : Int)) = ((b + m % 2 : Nat) : Int) := by rw [wrap64 (by omega) (by omega)]; omega
    have w3 : IntKind.i64.wrap ((m / 2 : Nat) : Int) = ((m / 2 : Nat) : Int) := wrap_nat (by omega)
    simp [e0, e2, e3, hmod, hdiv, w1, w2, w3]
    refine hN (g, m / 2, a + 1, b + m % 2) _ (by simp only; omega) ⟨by simp only; omega, by simp only; omega, by simp only; omega, by simp only; omega, ?_⟩
    have w2' : IntKind.i64.wrap ((b : Int) + (m : Int) % 2) = (b : Int) + (m : Int) % 2 := wrap64 (by omega) (by omega)
    have w3' : IntKind.i64.wrap ((m : Int) / 2) = (m : Int) / 2 := wrap64 (by omega) (by omega)
    simp [w1, w2', w3']
  · have hm0 : m = 0 := by omega
    subst hm0
    have h1 : dgA f 0 = 0 := by cases f <;> simp [dgA]
    have h2 : dgO f 0 = 0 := by cases f <;> simp [dgO]
    rw [h1] at ha
    rw [h2] at hb
    simp only [Nat.add_zero] at ha hb
    subst ha; subst hb
    simp [e0, e2, e3]
end Go.Proofs.Ytnmpdegnpaggkaa
set_option linter.unusedVariables false
set_option linter.unusedSimpArgs false
namespace Go.Proofs.Ytnmpdegnpaggkaa
open Go Fw

def Pw (c : List Int) (x : Int) : Prop := ∃ a ∈ c, ∃ b ∈ c, a + b = x
theorem sumQ_iff {c : List Int} {x : Int} : sumQ c x = true ↔ Pw c x := by simp [sumQ, Pw]
theorem wayFrom_none {l : List Int} {n : Int} : ∀ {m : Nat}, wayFrom l n m = none ↔ ∀ i, i < m → n - l.getD i 0 ∉ l.take (i + 1)
  | 0 => by simp [wayFrom]
  | m + 1 => by
    rw [wayFrom]
    split
    · rename_i h
      constructor
      · intro h'; cases h'
      · intro h'; exact absurd h (h' m (by omega))
    · rename_i h
      rw [wayFrom_none]
      constructor
      · intro h' i hi
        rcases Nat.lt_or_ge i m with h2 | h2
        · exact h' i h2
        · have : i = m := by omega
          subst this; exact h
      · intro h' i hi; exact h' i (by omega)
theorem way_iff {c : List Int} {x : Int} : wayL c x ≠ none ↔ Pw c x := by
  unfold wayL
  rw [ne_eq, wayFrom_none]
  constructor
  · intro h
    refine Classical.byContradiction fun h2 => h fun i hi hm => h2 ?_
    rw [getD_get hi] at hm
    exact ⟨c[i], List.getElem_mem hi, _, List.mem_of_mem_take hm, by omega⟩
  · rintro ⟨a, ha, b, hb, rfl⟩ h
    obtain ⟨i, hi, rfl⟩ := List.getElem_of_mem ha
    obtain ⟨j, hj, rfl⟩ := List.getElem_of_mem hb
    rcases Nat.le_total j i with hij | hij
    · have := h i hi
      rw [getD_get hi, show c[i] + c[j] - c[i] = c[j] by omega] at this
      exact this (mem_take_of (by omega) hj)
    · have := h j hj
      rw [getD_get hj, show c[i] + c[j] - c[j] = c[i] by omega] at this
      exact this (mem_take_of (by omega) hi)
/-- that a chain can be continued to n by k steps -/
def hasY (n : Int) (sp : List Int) : Nat → List Int → Prop
  | 0, c => lastL c = n
  | k + 1, c => ∃ x, lastL c < x ∧ x ≤ n ∧ x ∉ sp ∧ Pw c x ∧ hasY n sp k (c ++ [x])
/-- a list that ascends from at least 1 -/
structure Asc (c : List Int) : Prop where
  ne : 0 < c.length
  sorted : c.Pairwise (· < ·)
  pos : ∀ a ∈ c, 1 ≤ a
theorem Asc.one : Asc [1] := ⟨by simp, by simp, fun a h => by simp at h; omega⟩
theorem Asc.last {c : List Int} (h : Asc c) : lastL c ∈ c := by rw [lastL_get h.ne]; exact List.getElem_mem _
theorem Asc.snoc {c : List Int} (h : Asc c) {x : Int} (hx : lastL c < x) : Asc (c ++ [x]) := by
  refine ⟨by simp, sorted_snoc h.sorted hx, fun a ha => ?_⟩
  simp only [List.mem_append, List.mem_singleton] at ha
  rcases ha with ha | ha
  · exact h.pos a ha
  · subst ha; have := h.pos _ h.last; omega
theorem Asc.pw_le {c : List Int} (h : Asc c) {x : Int} (hp : Pw c x) : x ≤ 2 * lastL c := by
  obtain ⟨a, ha, b, hb, rfl⟩ := hp
  have := le_last h.sorted ha
  have := le_last h.sorted hb
  omega
theorem hasY_le {n : Int} {sp : List Int} : ∀ {k : Nat} {c : List Int}, Asc c → hasY n sp k c → lastL c ≤ n ∧ n ≤ lastL c * 2 ^ k
  | 0, c, hc, h => by
    have h : lastL c = n := h
    rw [h]; simp
  | k + 1, c, hc, h => by
    obtain ⟨x, h1, h2, h3, h4, h5⟩ := h
    have := hasY_le (hc.snoc h1) h5
    rw [lastL_snoc] at this
    have h6 := hc.pw_le h4
    refine ⟨by omega, Int.le_trans this.2 ?_⟩
    rw [Int.pow_succ, Int.mul_comm (2 ^ k) 2, ← Int.mul_assoc]
    refine Int.mul_le_mul_of_nonneg_right (by omega) (Int.pow_nonneg (by decide))
theorem ext_iff {n : Int} {sp : List Int} : ∀ {k : Nat} {c : List Int}, Asc c → (0 < (extL n sp k c).length ↔ hasY n sp k c)
  | 0, c, hc => by
    unfold extL hasY
    split <;> simp [*]
  | k + 1, c, hc => by
    rw [extL]
    constructor
    · intro h
      split at h
      · simp at h
      · rw [flat_ne] at h
        obtain ⟨j, hj, h⟩ := h
        split at h
        · simp at h
        · rename_i hno
          have hcc := @cands_le (lastL c) n
          simp only [List.mem_range] at hj
          have hx : lastL c < lastL c + 1 + (j : Int) := by omega
          exact ⟨lastL c + 1 + (j : Int), hx, by omega, fun h => hno (.inl h), way_iff.1 fun h => hno (.inr h), (ext_iff (hc.snoc hx)).1 h⟩
    · intro h
      have hle := hasY_le hc h
      rw [if_neg (by omega), flat_ne]
      obtain ⟨x, h1, h2, h3, h4, h5⟩ := h
      have h6 := hc.pw_le h4
      have hx : lastL c + 1 + ((x - lastL c - 1).toNat : Int) = x := by omega
      refine ⟨(x - lastL c - 1).toNat, ?_, ?_⟩
      · simp only [List.mem_range]
        unfold cands
        split <;> omega
      · rw [hx, if_neg (by
          rintro (h | h)
          · exact h3 h
          · exact way_iff.2 h4 h)]
        exact (ext_iff (hc.snoc h1)).2 h5
theorem try_iff {n : Int} : ∀ {k : Nat} {c : List Int}, Asc c → (tryB n k c = true ↔ ∃ j, j ≤ k ∧ hasY n [] j c)
  | 0, c, hc => by
    simp only [tryB, decide_eq_true_eq]
    constructor
    · intro h; exact ⟨0, Nat.le_refl _, h⟩
    · rintro ⟨j, hj, h⟩
      have : j = 0 := by omega
      subst this; exact h
  | k + 1, c, hc => by
    rw [tryB]
    constructor
    · intro h
      split at h
      · rename_i h0; exact ⟨0, by omega, h0⟩
      · split at h
        · cases h
        · split at h
          · cases h
          · rw [List.any_eq_true] at h
            obtain ⟨i, hi, h⟩ := h
            rw [List.any_eq_true] at h
            obtain ⟨j, hj, h⟩ := h
            simp only [List.mem_range] at hi hj
            rw [Bool.and_eq_true, decide_eq_true_eq, getD_get hi, getD_get (show j < c.length by omega)] at h
            obtain ⟨h1, h2⟩ := h
            obtain ⟨m, hm, hy⟩ := (try_iff (hc.snoc h1)).1 h2
            have := hasY_le (hc.snoc h1) hy
            rw [lastL_snoc] at this
            exact ⟨m + 1, by omega, _, h1, this.1, by simp, ⟨_, List.getElem_mem hi, _, List.getElem_mem _, rfl⟩, hy⟩
    · rintro ⟨j, hj, h⟩
      have hle := hasY_le hc h
      split
      · rfl
      · rename_i hne
        rw [if_neg (by omega)]
        have hpw : lastL c * 2 ^ j ≤ lastL c * 2 ^ (k + 1) := by
          have h1 := hc.pos _ hc.last
          refine Int.mul_le_mul_of_nonneg_left ?_ (by omega)
          have := Nat.pow_le_pow_right (show 0 < 2 by omega) hj
          exact_mod_cast this
        rw [if_neg (by omega)]
        cases j with
        | zero => exact absurd h hne
        | succ j =>
          obtain ⟨x, h1, h2, h3, ⟨a, ha, b, hb, rfl⟩, h5⟩ := h
          obtain ⟨p, hp, rfl⟩ := List.getElem_of_mem ha
          obtain ⟨q, hq, rfl⟩ := List.getElem_of_mem hb
          have ht := (try_iff (hc.snoc h1) (k := k)).2 ⟨j, by omega, h5⟩
          rw [List.any_eq_true]
          rcases Nat.le_total q p with hpq | hpq
          · refine ⟨p, by simpa using hp, ?_⟩
            rw [List.any_eq_true]
            refine ⟨q, by simp; omega, ?_⟩
            rw [getD_get hp, getD_get hq, ht]; simpa using h1
          · refine ⟨q, by simpa using hq, ?_⟩
            rw [List.any_eq_true]
            refine ⟨p, by simp; omega, ?_⟩
            rw [getD_get hp, getD_get hq, show c[q] + c[p] = c[p] + c[q] by omega, ht]; simpa using h1

/-- a chain: from 1 on, each number a sum of two before it -/
structure Chain1 (c : List Int) : Prop where
  ne : 0 < c.length
  one : c.getD 0 0 = 1
  up : ∀ j, 0 < j → (hj : j < c.length) → c[j - 1] < c[j] ∧ Pw (c.take j) c[j]
theorem Chain1.head {c : List Int} (h : Chain1 c) : c[0]'h.ne = 1 := by have := h.one; rwa [getD_get h.ne] at this
theorem Chain1.sorted {c : List Int} (h : Chain1 c) : c.Pairwise (· < ·) := by
  rw [List.pairwise_iff_getElem]
  intro i j hi hj hij
  induction j with
  | zero => omega
  | succ j ih =>
    have h1 := (h.up (j + 1) (by omega) hj).1
    simp only [Nat.add_sub_cancel] at h1
    rcases Nat.lt_or_ge i j with h' | h'
    · have := ih (by omega) h'; omega
    · have : i = j := by omega
      subst this; exact h1
theorem Chain1.pos {c : List Int} (h : Chain1 c) : ∀ a ∈ c, 1 ≤ a := by
  intro a ha
  obtain ⟨i, hi, rfl⟩ := List.getElem_of_mem ha
  rcases Nat.eq_zero_or_pos i with h' | h'
  · subst h'; rw [h.head]; omega
  · have := sorted_get h.sorted hi h'
    rw [h.head] at this; omega
theorem Chain1.asc {c : List Int} (h : Chain1 c) : Asc c := ⟨h.ne, h.sorted, h.pos⟩
theorem Chain1.take {c : List Int} (h : Chain1 c) {i : Nat} (hi : 0 < i) : Chain1 (c.take i) := by
  have h1 := h.ne
  have h2 := h.one
  refine ⟨by rw [List.length_take]; omega, ?_, fun j hj hjl => ?_⟩
  · rw [getD_get (by rw [List.length_take]; omega), List.getElem_take]
    exact h.head
  · rw [List.length_take] at hjl
    simp only [List.getElem_take, List.take_take]
    rw [Nat.min_eq_left (by omega)]
    exact h.up j hj (by omega)
theorem Chain1.snoc {c : List Int} (h : Chain1 c) {x : Int} (h1 : lastL c < x) (h2 : Pw c x) : Chain1 (c ++ [x]) := by
  have hne := h.ne
  refine ⟨by simp, ?_, fun j hj hjl => ?_⟩
  · rw [getD_get (by simp), List.getElem_append_left hne]; exact h.head
  · simp only [List.length_append, List.length_singleton] at hjl
    rcases Nat.lt_or_ge j c.length with h' | h'
    · rw [List.getElem_append_left h', List.getElem_append_left (show j - 1 < c.length by omega), List.take_append_of_le_length (by omega)]
      exact h.up j hj h'
    · have : j = c.length := by omega
      subst this
      rw [List.getElem_append_left (show c.length - 1 < c.length by omega), ← lastL_get hne, List.take_append_of_le_length (Nat.le_refl _), List.take_length]
      simp only [List.getElem_append_right (Nat.le_refl _), Nat.sub_self, List.getElem_singleton]
      exact ⟨h1, h2⟩
theorem Chain1.one1 : Chain1 [1] := ⟨by simp, rfl, fun j h1 h2 => by simp at h2; omega⟩
theorem Vld.chain {c : List Int} (h : Vld c) : Chain1 c := by
  refine ⟨h.ne, h.one, fun j hj hjl => ⟨sorted_get h.sorted hjl (by omega), ?_⟩⟩
  have := h.ways j hj hjl
  unfold wayAt at this
  rw [getD_get hjl] at this
  exact way_iff.1 this
theorem Chain1.vld {c : List Int} (h : Chain1 c) (hb : ∀ a ∈ c, a ≤ 46) : Vld c := by
  refine ⟨h.ne, h.one, h.sorted, fun a ha => ⟨h.pos a ha, hb a ha⟩, fun j hj hjl => ?_⟩
  unfold wayAt
  rw [getD_get hjl]
  exact way_iff.2 (h.up j hj hjl).2
theorem Chain1.sums {c : List Int} (h : Chain1 c) (hb : ∀ a ∈ c, a ≤ 1000) : sumsB c = true := by
  unfold sumsB
  rw [h.one, range'_all_of fun j h1 h2 => ?_]
  · simp [h.ne]
  · have hjl : j < c.length := by omega
    have := h.up j h1 hjl
    unfold sumAt
    rw [getD_get hjl, getD_get (show j - 1 < c.length by omega), sumQ_iff.2 this.2]
    have := hb c[j] (List.getElem_mem hjl)
    simp [*]
theorem sums_chain {c : List Int} (h : sumsB c = true) : Chain1 c ∧ ∀ a ∈ c, a ≤ 1000 := by
  unfold sumsB at h
  simp only [Bool.and_eq_true, decide_eq_true_eq] at h
  obtain ⟨⟨h1, h2⟩, h3⟩ := h
  rw [List.all_eq_true] at h3
  have key : ∀ j, 0 < j → (hj : j < c.length) → (c[j - 1] < c[j] ∧ Pw (c.take j) c[j]) ∧ c[j] ≤ 1000 := by
    intro j hj hjl
    have := h3 j (by rw [List.mem_range'_1]; omega)
    unfold sumAt at this
    rw [getD_get hjl, getD_get (show j - 1 < c.length by omega)] at this
    simp only [Bool.and_eq_true, decide_eq_true_eq] at this
    exact ⟨⟨this.1.2, sumQ_iff.1 this.1.1⟩, this.2⟩
  refine ⟨⟨h1, h2, fun j hj hjl => (key j hj hjl).1⟩, fun a ha => ?_⟩
  obtain ⟨i, hi, rfl⟩ := List.getElem_of_mem ha
  rcases Nat.eq_zero_or_pos i with h' | h'
  · subst h'; rw [getD_get h1] at h2; omega
  · exact (key i h' hi).2
theorem Chain1.hasY {c : List Int} (h : Chain1 c) {sp : List Int} (hsp : ∀ a ∈ c, 1 < a → a ∉ sp) : ∀ {d i : Nat}, i + d + 1 = c.length → hasY (lastL c) sp d (c.take (i + 1))
  | 0, i, hi => by
    rw [List.take_of_length_le (by omega)]
    exact rfl
  | d + 1, i, hi => by
    have hil : i + 1 < c.length := by omega
    have hu := h.up (i + 1) (by omega) hil
    simp only [Nat.add_sub_cancel] at hu
    have hl : lastL (c.take (i + 1)) = c[i] := by
      rw [lastL_get (by rw [List.length_take]; omega)]
      simp only [List.length_take, List.getElem_take]
      congr 1; omega
    refine ⟨c[i + 1], by rw [hl]; exact hu.1, le_last h.sorted (List.getElem_mem hil), hsp _ (List.getElem_mem hil) ?_, hu.2, ?_⟩
    · have := h.pos c[i] (List.getElem_mem (by omega)); omega
    · rw [← take_snoc hil]
      exact h.hasY hsp (by omega)
theorem Chain1.hasY1 {c : List Int} (h : Chain1 c) {sp : List Int} (hsp : ∀ a ∈ c, 1 < a → a ∉ sp) : Go.Proofs.Ytnmpdegnpaggkaa.hasY (lastL c) sp (c.length - 1) [1] := by
  have h1 := h.hasY hsp (d := c.length - 1) (i := 0) (by have := h.ne; omega)
  have : c.take (0 + 1) = [1] := by
    have hne := h.ne
    have := h.head
    cases c with
    | nil => simp at hne
    | cons a r => simp at this; simp [this]
  rwa [this] at h1
/-- the number of steps is the least -/
theorem sh_least {n : Int} {sp : List Int} {d j : Nat} (hs : shK n sp = some d) (h : hasY n sp j [1]) : d ≤ j := by
  have hd := (shK_le hs).1
  rcases Nat.lt_or_ge j d with h' | h'
  · unfold shK at hs
    split at hs
    · cases hs
    · have := firstK_min hs j (by omega) h'
      have h2 := (ext_iff Asc.one).2 h
      rw [decide_eq_false_iff_not] at this
      exact absurd h2 this
  · exact h'
theorem sh_chain {n : Int} {sp : List Int} {d : Nat} (hs : shK n sp = some d) {c : List Int} (h : Chain1 c) (hl : lastL c = n) (hsp : ∀ a ∈ c, 1 < a → a ∉ sp) : d ≤ c.length - 1 := by
  subst hl
  exact sh_least hs (h.hasY1 hsp)
end Go.Proofs.Ytnmpdegnpaggkaa
set_option linter.unusedVariables false
set_option linter.unusedSimpArgs false
namespace Go.Proofs.Ytnmpdegnpaggkaa
open Go Fw

def dT : List Nat := [0, 1, 2, 2, 3, 3, 4, 3, 4, 4, 5, 4, 5, 5, 5, 4, 5, 5, 6, 5, 6, 6, 6, 5, 6, 6, 6, 6, 7, 6, 7, 5, 6, 6, 7, 6, 7, 7, 7, 6, 7, 7, 7, 7, 7, 7]
theorem dist_tab : ∀ n : Nat, n < 46 → firstK (fun k => hasX ((n : Int) + 1) [] k [1]) 8 0 = some (dT.getD n 0) := by decide +kernel
def lexB : List Int → List Int → Bool
  | [], _ => true
  | _ :: _, [] => true
  | a :: l, b :: r => if a = b then lexB l r else decide (a < b)
def chT (n : Nat) : List Int := (extL ((n : Int) + 1) [] (dT.getD n 0) [1]).headD []
def rwT (n : Nat) : List Int := (visL ((n : Int) + 1) [] true (dT.getD n 0) [1]).headD []
theorem lex_tab : ∀ n : Nat, n < 46 → lexB (chT n) (rwT n) = true := by decide +kernel
theorem bound_tab : ∀ n : Nat, n < 46 → n + 1 ≤ 2 ^ (dT.getD n 0) ∧ dT.getD n 0 + 2 ≤ dgA 10 (n + 1) + dgO 10 (n + 1) := by decide +kernel
theorem sh_tab {n : Nat} (h : n < 46) : shK ((n : Int) + 1) [] = some (dT.getD n 0) := by
  have := dist_tab n h
  unfold shK
  rw [if_neg (by simp)]
  rwa [show (fun k => hasX ((n : Int) + 1) [] k [1]) = fun k => decide (0 < (extL ((n : Int) + 1) [] k [1]).length) from funext fun k => hasX_iff _ [] k [1]] at this
theorem headD_mem {α : Type} {l : List α} {d : α} (h : 0 < l.length) : l.headD d ∈ l := by
  cases l with
  | nil => simp at h
  | cons a l => simp
theorem hd_tab {n : Nat} (h : n < 46) : hdL ((n : Int) + 1) [] = chT n := by
  unfold hdL shL chT
  rw [sh_tab h]
theorem dT_le {n : Nat} (h : n < 46) : dT.getD n 0 ≤ 7 := (shK_le (sh_tab h)).1
theorem ch_mem {n : Nat} (h : n < 46) : chT n ∈ extL ((n : Int) + 1) [] (dT.getD n 0) [1] := headD_mem (shK_le (sh_tab h)).2
theorem vis_pos {n : Nat} (h : n < 46) : 0 < (visL ((n : Int) + 1) [] true (dT.getD n 0) [1]).length := by
  have hr := row_first (n := (n : Int) + 1) (by omega) (by omega)
  rw [sh_tab h] at hr
  have := firstK_some (show firstK (fun k => decide (0 < (visL ((n : Int) + 1) [] true k [1]).length)) 8 0 = some (dT.getD n 0) from hr)
  simpa using this.1
theorem rw_mem {n : Nat} (h : n < 46) : rwT n ∈ extL ((n : Int) + 1) [] (dT.getD n 0) [1] ∧ rowB (rwT n) = true := by
  have := headD_mem (d := []) (vis_pos h)
  rw [vis_filter, List.mem_filter] at this
  have e : (visL ((n : Int) + 1) [] true (dT.getD n 0) [1]).headD [] = rwT n := rfl
  rw [vis_filter] at e
  rw [e] at this
  exact ⟨this.1, by rw [← rowFrom_1]; exact this.2⟩
theorem dist_val {n : Nat} (h : n < 46) : distR ((n : Int) + 1) = .tup [.int .i64 (dT.getD n 0 : Nat), .int .i64 0] := by
  have hl := (ext_mem1 (n := (n : Int) + 1) (by omega) (ch_mem h)).len
  unfold distR
  rw [if_pos (btw_iff.2 ⟨by omega, by omega⟩), hd_tab h, hl]
  congr 3
  omega
theorem chain_val {n : Nat} (h : n < 46) : chainR ((n : Int) + 1) = .tup [chV (chT n), .int .i64 0] := by
  unfold chainR
  rw [if_pos (btw_iff.2 ⟨by omega, by omega⟩), hd_tab h]
theorem inrow_val {n : Nat} (h : n < 46) : inrowP ((n : Int) + 1) = .tup [chV (rwT n), .int .i64 0] := by
  unfold inrowP
  rw [if_pos (btw_iff.2 ⟨by omega, by omega⟩)]
  unfold fstV
  rw [if_neg (by simp), row_first (by omega) (by omega), sh_tab h]
  rfl
/-- what is known of a chain that is found -/
structure Fnd (n : Int) (d : Nat) (c : List Int) : Prop where
  len : c.length = d + 1
  chain : Chain1 c
  le : ∀ a ∈ c, 1 ≤ a ∧ a ≤ 46
  last : lastL c = n
theorem fnd_of {n : Int} (hn : n ≤ 46) {sp : List Int} {d : Nat} {c : List Int} (h : c ∈ extL n sp d [1]) : Fnd n d c := by
  have h1 := ext_mem1 hn h
  exact ⟨h1.len, (ext_vld hn sp d [1] c .one1 h).chain, h1.bound, h1.last⟩
theorem Fnd.lastAt {n : Int} {d : Nat} {c : List Int} (h : Fnd n d c) : c[d]? = some n := by
  have h1 := h.last
  have h2 := h.len
  rw [lastL_get (by omega)] at h1
  rw [List.getElem?_eq_getElem (by omega)]
  congr 1
  rw [← h1]; congr 1; omega
theorem lex_step : ∀ {a b : List Int}, lexB a b = true → ∀ {i : Nat} (ha : i < a.length) (hb : i < b.length), (∀ j (h : j < i), a[j] = b[j]) → a[i] ≤ b[i]
  | [], b, h, i, ha, hb, he => by simp at ha
  | x :: a, [], h, i, ha, hb, he => by simp at hb
  | x :: a, y :: b, h, 0, ha, hb, he => by
    rw [lexB] at h
    split at h
    · rename_i hxy; simp [hxy]
    · simp at h ⊢; omega
  | x :: a, y :: b, h, i + 1, ha, hb, he => by
    have h0 : x = y := he 0 (by omega)
    rw [lexB, if_pos h0] at h
    exact lex_step h (by simpa using ha) (by simpa using hb) fun j hj => by simpa using he (j + 1) (by omega)
end Go.Proofs.Ytnmpdegnpaggkaa
set_option linter.unusedVariables false
set_option linter.unusedSimpArgs false
namespace Go.Proofs.Ytnmpdegnpaggkaa
open Go Fw

def S43 : List AV → Option AV
  | [.int .i64 n] => if 0 ≤ n ∧ n < 1000 then some (.tup [.int .i64 (dgA 10 n.toNat : Nat), .int .i64 (dgO 10 n.toNat : Nat)]) else none
  | _ => none
theorem c43 : ∀ a r, S43 a = some r → PCall Try.prog 43 a r := by
  intro a r h
  unfold S43 at h
  split at h <;> (try (cases h; done))
  rename_i n
  split at h <;> (try (cases h; done))
  rename_i hc
  injection h with h; subst h
  have := p43 (n := n.toNat) (by omega)
  rwa [show ((n.toNat : Nat) : Int) = n by omega] at this
def D19 : PCtx := ((D18.add 40 S40).add 41 (S41 8)).add 43 S43
theorem D19ok : CtxOk Try.prog D19 := ((D18ok.add c40).add (c41 8)).add c43
@[simp] theorem D19_40 : D19 40 = S40 := id rfl
@[simp] theorem D19_41 : D19 41 = S41 8 := id rfl
@[simp] theorem D19_42 : D19 42 = S42 := id rfl
@[simp] theorem D19_43 : D19 43 = S43 := id rfl
@[simp] theorem D19_15 : D19 15 = S15 := id rfl
@[simp] theorem D19_16 : D19 16 = SWays := id rfl
@[simp] theorem D19_18 : D19 18 = SRow := id rfl
@[simp] theorem D19_21 : D19 21 = SChk := id rfl
@[simp] theorem D19_23 : D19 23 = SDist := id rfl
@[simp] theorem D19_25 : D19 25 = SChain := id rfl
@[simp] theorem D19_27 : D19 27 = S27 := id rfl
@[simp] theorem D19_28 : D19 28 = SInt1 countR := id rfl
@[simp] theorem D19_30 : D19 30 = SInt1 inrowP := id rfl
@[simp] theorem D19_32 : D19 32 = SInt1 reachR := id rfl
@[simp] theorem D19_34 : D19 34 = SWithout := id rfl
@[simp] theorem D19_36 : D19 36 = SCost := id rfl
@[simp] theorem D19_38 : D19 38 = SPrice cheapR := id rfl

theorem wayFrom_some {l : List Int} {n : Int} : ∀ {m : Nat} {i k : Nat}, wayFrom l n m = some (i, k) → i < m ∧ (n - l.getD i 0) ∈ l.take (i + 1)
  | 0, i, k, h => by cases h
  | m + 1, i, k, h => by
    rw [wayFrom] at h
    split at h
    · rename_i hm
      injection h with h; injection h with h1 h2; subst h1
      exact ⟨by omega, hm⟩
    · have := wayFrom_some h; exact ⟨by omega, this.2⟩
theorem row_own {s : List Int} (h : rowB s = true) {i : Nat} (h0 : 0 < i) (hi : i < s.length) : ((s.take i).any fun x => decide (s[i - 1] + x = s[i])) = true := by
  unfold rowB at h
  rw [List.all_eq_true] at h
  have := h (i - 1) (by simp; omega)
  rw [show i - 1 + 1 = i by omega] at this
  unfold wayAt at this
  rw [getD_get hi] at this
  cases hw : wayL (s.take i) s[i] with
  | none => rw [hw] at this; simp at this
  | some p =>
    obtain ⟨a, k⟩ := p
    rw [hw] at this
    simp at this
    subst this
    unfold wayL at hw
    have hs := (wayFrom_some hw).2
    rw [getD_get (by rw [List.length_take]; omega), List.getElem_take] at hs
    rw [List.any_eq_true]
    exact ⟨_, List.mem_of_mem_take hs, by simp; omega⟩

set_option maxRecDepth 100000 in
theorem p7 {m : Nat} (hm : m < 46) {b : Int} (hb0 : 0 ≤ b) (hb : b % 46 = (m : Int)) (hb2 : b ≤ 255) : PCall Try.prog 7 [.int .u8 b] (.bool true) := by
  have fc := fnd_of (n := (m : Int) + 1) (by omega) (ch_mem hm)
  have fr := fnd_of (n := (m : Int) + 1) (by omega) (rw_mem hm).1
  have hrow := (rw_mem hm).2
  have vd := dist_val hm
  have vc := chain_val hm
  have vr := inrow_val hm
  have hd7 := dT_le hm
  have hbd := bound_tab m hm
  have hlex := lex_tab m hm
  have htry : 0 < dT.getD m 0 → tryB ((m : Int) + 1) (dT.getD m 0 - 1) [1] = false := fun h => by
    rw [Bool.eq_false_iff]
    intro ht
    obtain ⟨j, hj, hy⟩ := (try_iff Asc.one).1 ht
    have := sh_least (sh_tab hm) hy
    omega
  generalize hn : (m : Int) + 1 = n at *
  generalize dT.getD m 0 = d at *
  generalize chT m = c at *
  generalize rwT m = s at *
  have lc := fc.len
  have lr := fr.len
  have ac := asI_chV (c := c) (by omega)
  have ar := asI_chV (c := s) (by omega)
  have alc := alen_of ac
  have alr := alen_of ar
  rw [lc] at alc
  rw [lr] at alr
  have sc : sumsB c = true := fc.chain.sums fun a ha => by have := fc.le a ha; omega
  have sr : sumsB s = true := fr.chain.sums fun a ha => by have := fr.le a ha; omega
  have smc := sm_of fc.le
  have smr := sm_of fr.le
  have hchk : chk s = 0 := (fr.chain.vld fun a ha => (fr.le a ha).2).chk (by omega)
  have vrow : rowR s = .tup [.bool true, .int .i64 0] := by unfold rowR; simp [hchk, hrow]
  have ic := aidx_of ac (k := .i64) (n := (d : Int)) (by omega) (by simpa using fc.lastAt)
  have ir := aidx_of ar (k := .i64) (n := (d : Int)) (by omega) (by simpa using fr.lastAt)
  have hmod : b.tmod 46 = (m : Int) := by rw [Int.tmod_eq_emod_of_nonneg hb0]; exact hb
  have wb : IntKind.i64.wrap b = b := wrap64 (by omega) (by omega)
  have wn : IntKind.i64.wrap (1 + (m : Int)) = n := by rw [wrap64 (by omega) (by omega)]; omega
  have wd : IntKind.i64.wrap ((d : Int) + 1) = (d : Int) + 1 := wrap64 (by omega) (by omega)
  have hd0 : ¬ (d : Int) < 0 := by omega
  have hd7' : ¬ (7 : Int) < d := by omega
  refine PCall.of D19ok ok7 (by simp) rfl fun hs' hb => ?_
  simp only [A7, R7]
  simp [wb, hmod, wn, SDist, SChain, SInt1, SRow, vd, vc, vr, ar, vrow, hd0, hd7', alc, alr, wd, S40, ac, smc, smr, sc, sr, ic, ir]
  have vtry : 0 < d → S41 8 [.sl 1 [.int .i64 1] .exact, .int .i64 n, .int .i64 ((d : Int) - 1)] = some (.bool false) := fun h => by
    have e : ((d : Int) - 1).toNat = d - 1 := by omega
    simp only [S41, asI_one, Option.bind_some, e]
    rw [if_pos ⟨by omega, by omega, by simp, by simp; omega, fun a ha => by simp at ha; subst ha; decide, by decide, by omega, by omega, by omega⟩, htry h]
  have wd1 : IntKind.i64.wrap ((d : Int) - 1) = (d : Int) - 1 := wrap64 (by omega) (by omega)
  have hst : (S42 [.sl 1 [.int .i64 1] .exact]) = some (.sl 1 [.int .i64 1] .exact) := rfl
  have hshl := shl_last (a := 1) (by omega) (by omega) hd7
  rw [Int.one_mul] at hshl
  have hpow : ¬ (2 : Int) ^ d < n := by
    have h1 := hbd.1
    have : ((m + 1 : Nat) : Int) ≤ ((2 ^ d : Nat) : Int) := by exact_mod_cast h1
    rw [show ((2 ^ d : Nat) : Int) = (2 : Int) ^ d by norm_cast] at this
    omega
  have hdg : S43 [.int .i64 n] = some (.tup [.int .i64 (dgA 10 (m + 1) : Nat), .int .i64 (dgO 10 (m + 1) : Nat)]) := by
    simp only [S43]
    rw [if_pos ⟨by omega, by omega⟩, show n.toNat = m + 1 by omega]
  have hA := dgA_le 10 (m + 1)
  have hO := dgO_le 10 (m + 1)
  have hbd2 := hbd.2
  generalize dgA 10 (m + 1) = A at hdg hA hbd2
  generalize dgO 10 (m + 1) = O at hdg hO hbd2
  have wA : IntKind.i64.wrap ((A : Int) + O) = (A : Int) + O := wrap64 (by omega) (by omega)
  have wA2 : IntKind.i64.wrap ((A : Int) + O - 2) = (A : Int) + O - 2 := wrap64 (by omega) (by omega)
  have hbd3 : ¬ (A : Int) + O - 2 < d := by omega
  by_cases hd : 0 < d
  case' pos => simp [hd, astoAll, AV.cells, hst, wd1, vtry hd]
  case' neg => simp [hd]
  all_goals
    refine At.loop (fun (i : Nat) s0 => 1 ≤ i ∧ i ≤ d + 1 ∧ s0.env 3 = .int .i64 n ∧ s0.env 4 = .int .i64 d ∧ s0.env 6 = chV c ∧ s0.env 8 = chV s ∧ s0.env 12 = .int .i64 i) (fun i => d + 1 - i) 1 (by simp) ?_
    rintro N i s1 hN ⟨hi1, hi, e3, e4, e6, e8, e12⟩
    simp [e3, e4, e6, e8, e12, alr]
    refine At.dec (fun h => ?_) (fun h => ?_)
    · have hil : i < s.length := by omega
      have tk := slice_take (asI_asV ar) (n := i) (k := .i64) (by rw [ints_len]; omega)
      have at' := asI_take ar i
      have atl := alen_of at'
      have htl : (s.take i).length = i := by rw [List.length_take]; omega
      rw [htl] at atl
      have ii := aidx_nat ar (k := .i64) hil
      have hi1l : i - 1 < s.length := by omega
      have ii1 := aidx_nat ar (k := .i64) hi1l
      rw [show ((i - 1 : Nat) : Int) = (i : Int) - 1 by omega] at ii1
      have wi1 : IntKind.i64.wrap ((i : Int) - 1) = (i : Int) - 1 := wrap64 (by omega) (by omega)
      have hown := row_own hrow hi1 hil
      have b1 := fr.le s[i - 1] (List.getElem_mem hi1l)
      simp [e3, e4, e6, e8, e12, tk, atl]
      refine At.loop (fun (j : Nat) s0 => j ≤ i ∧ s0.env 3 = .int .i64 n ∧ s0.env 4 = .int .i64 d ∧ s0.env 6 = chV c ∧ s0.env 8 = chV s ∧ s0.env 12 = .int .i64 i ∧ s0.env 127 = takeV i (chV s) ∧ s0.env 128 = .int .i64 i ∧ s0.env 129 = .int .i64 j ∧ s0.env 13 = .bool ((s.take j).any fun x => decide (s[i - 1] + x = s[i]))) (fun j => i - j) 0 (by simp [e3, e4, e6, e8, e12]) ?_
      rintro N2 j s2 hN2 ⟨hj, g3, g4, g6, g8, g12, g127, g128, g129, g13⟩
      simp [g3, g4, g6, g8, g12, g127, g128, g129, g13]
      refine At.dec (fun h2 => ?_) (fun h2 => ?_)
      · have hjt : j < (s.take i).length := by omega
        have hjl : j < s.length := by omega
        have ij := aidx_nat at' (k := .i64) hjt
        rw [List.getElem_take] at ij
        have b2 := fr.le s[j] (List.getElem_mem hjl)
        have w1 : IntKind.i64.wrap (s[i - 1] + s[j]) = s[i - 1] + s[j] := wrap64 (by omega) (by omega)
        have hst2 : ((s.take (j + 1)).any fun x => decide (s[i - 1] + x = s[i])) = (((s.take j).any fun x => decide (s[i - 1] + x = s[i])) || decide (s[i - 1] + s[j] = s[i])) := any_take_succ hjl
        generalize ((s.take j).any fun x => decide (s[i - 1] + x = s[i])) = B at g13 hst2
        cases B
        · simp [g3, g4, g6, g8, g12, g127, g128, g129, g13, ij, wi1, ii1, ii, w1]
          refine hN2 (j + 1) _ (by omega) ⟨by omega, ?_⟩
          rw [hst2]
          simp [g3, g4, g6, g8, g12, g127, g128, g129, g13, wrap_nat1 (show j < _ by omega)]
        · simp [g3, g4, g6, g8, g12, g127, g128, g129, g13, ij]
          refine hN2 (j + 1) _ (by omega) ⟨by omega, ?_⟩
          rw [hst2]
          simp [g3, g4, g6, g8, g12, g127, g128, g129, g13, wrap_nat1 (show j < _ by omega)]
      · have : j = i := by omega
        subst this
        rw [hown] at g13
        simp [g3, g4, g6, g8, g12, g127, g128, g129, g13]
        refine hN (j + 1) _ (by omega) ⟨by omega, by omega, ?_⟩
        simp [g3, g4, g6, g8, g12, wrap_nat1 (show j < _ by omega)]
    · simp [e3, e4, e6, e8, e12, hdg, hshl, hpow, wA, wA2, hbd3, alc]
      refine At.loop (fun (i : Nat) s0 => i ≤ d + 1 ∧ s0.env 6 = chV c ∧ s0.env 8 = chV s ∧ s0.env 169 = .int .i64 ((d : Int) + 1) ∧ s0.env 170 = .int .i64 i ∧ ∀ j (hj1 : j < c.length) (hj2 : j < s.length), j < i → c[j] = s[j]) (fun i => d + 1 - i) 0 (by simp [e3, e4, e6, e8, e12]) ?_
      rintro N3 k s3 hN3 ⟨hk, g6, g8, g169, g170, heq⟩
      simp [g6, g8, g169, g170]
      refine At.dec (fun h3 => ?_) (fun h3 => ?_)
      · have hkc : k < c.length := by omega
        have hks : k < s.length := by omega
        have hle := lex_step hlex hkc hks (fun j hj => heq j (by omega) (by omega) hj)
        simp [g6, g8, g169, g170, aidx_nat ac (k := .i64) hkc, aidx_nat ar (k := .i64) hks]
        refine At.decn (fun h4 => ?_) (fun h4 => ?_)
        · simp [g6, g8, g169, g170]
          refine hN3 (k + 1) _ (by omega) ⟨by omega, ?_⟩
          simp [g6, g8, g169, g170, wrap_nat1 (show k < _ by omega)]
          intro j hj1 hj2 hj
          rcases Nat.lt_or_ge j k with h' | h'
          · exact heq j hj1 hj2 h'
          · have : j = k := by omega
            subst this; exact h4
        · have hlt : c[k] < s[k] := by omega
          simp [g6, g8, g169, g170, aidx_nat ac (k := .i64) hkc, aidx_nat ar (k := .i64) hks, hlt, S15]
      · simp [g6, g8, g169, g170, S15]
theorem u8_of {x : AV} (h : ShV (.int .u8) x) : ∃ b : Int, x = .int .u8 b ∧ 0 ≤ b ∧ b ≤ 255 := by
  obtain ⟨n, rfl, hn⟩ := shv_int h
  simp [Lit.wf, IntKind.min, IntKind.max, IntKind.signed, IntKind.bits] at hn
  exact ⟨n, rfl, by omega, by omega⟩
theorem least_typed : ∀ xs, Typed [.int .u8] xs → PCall Try.prog 7 xs (.bool true) := by
  intro xs h
  obtain ⟨x, rfl, h1⟩ := h.one
  obtain ⟨b, rfl, b1, b2⟩ := u8_of h1
  exact p7 (m := (b % 46).toNat) (by omega) b1 (by omega) b2
end Go.Proofs.Ytnmpdegnpaggkaa
set_option linter.unusedVariables false
set_option linter.unusedSimpArgs false
namespace Go.Proofs.Ytnmpdegnpaggkaa
open Go Fw

theorem reachP_dT {j k : Nat} (hj : j < 46) (hk : k < 8) : reachP (k : Int) ((j : Int) + 1) = decide (dT.getD j 0 ≤ k) := by
  have hl := (ext_mem1 (n := (j : Int) + 1) (by omega) (ch_mem hj)).len
  rw [reachP_is (by omega) (by omega) (by omega) (by omega), hd_tab hj, hl]
  congr 1
  rw [eq_iff_iff]
  omega
def reachD (k i : Nat) : List Int := ((List.range i).filter (fun j => decide (dT.getD j 0 ≤ k))).map (fun (j : Nat) => (j : Int) + 1)
theorem reachTo_D {k i : Nat} (hk : k < 8) (hi : i ≤ 46) : reachTo (k : Int) i = reachD k i := by
  unfold reachTo reachD
  rw [List.filter_map]
  congr 1
  refine List.filter_congr fun j hj => ?_
  simp only [List.mem_range] at hj
  exact reachP_dT (by omega) hk
theorem reachD_get : ∀ k : Nat, k < 8 → ∀ i : Nat, i < 46 → decide ((reachD k 46)[(reachD k i).length]? = some ((i : Int) + 1)) = decide (dT.getD i 0 ≤ k) := by decide +kernel
theorem reachD_pow : ∀ k : Nat, k < 8 → ∀ i : Nat, i < 46 → dT.getD i 0 ≤ k → i + 1 ≤ 2 ^ k := by decide +kernel
theorem reachD_succ (k i : Nat) : (reachD k (i + 1)).length = (reachD k i).length + (if dT.getD i 0 ≤ k then 1 else 0) := by
  unfold reachD
  rw [List.range_succ, List.filter_append, List.map_append, List.length_append]
  congr 1
  by_cases h : dT.getD i 0 ≤ k
  · rw [if_pos h, List.filter_cons_of_pos (by simpa using h)]; rfl
  · rw [if_neg h, List.filter_cons_of_neg (by simpa using h)]; rfl
theorem reachD_len (k i : Nat) : (reachD k i).length ≤ i := by
  unfold reachD
  rw [List.length_map]
  exact Nat.le_trans (List.length_filter_le _ _) (by simp)
theorem asI_out {l : List Int} (h : l.length < 4294967296) : asI (outV 1 (ints l)) = some l := by
  cases l with
  | nil => rfl
  | cons a r => exact asI_sl h
theorem reach_val {k : Nat} (hk : k < 8) : reachR (k : Int) = .tup [outV 1 (ints (reachD k 46)), .int .i64 0] := by
  unfold reachR
  rw [if_pos (btw_iff.2 ⟨by omega, by omega⟩), reachTo_D hk (by omega)]

set_option maxRecDepth 100000 in
theorem p13 {k : Nat} (hk : k < 8) {b : Int} (hb0 : 0 ≤ b) (hb : b % 8 = (k : Int)) (hb2 : b ≤ 255) : PCall Try.prog 13 [.int .u8 b] (.bool true) := by
  have hmod : b.tmod 8 = (k : Int) := by rw [Int.tmod_eq_emod_of_nonneg hb0]; exact hb
  have wb : IntKind.i64.wrap b = b := wrap64 (by omega) (by omega)
  have hL := reachD_len k 46
  have aL := asI_out (l := reachD k 46) (by omega)
  have hget := reachD_get k hk
  have hpow := reachD_pow k hk
  have vr := reach_val hk
  have hshl := shl_last (a := 1) (by omega) (by omega) (show k ≤ 7 by omega)
  rw [Int.one_mul] at hshl
  generalize hLL : reachD k 46 = L at *
  have alL := alen_of aL
  refine PCall.of D19ok ok13 (by simp) rfl fun hs' hb => ?_
  simp only [A13, R13]
  simp [wb, hmod, SInt1, vr]
  refine At.loop (fun (i : Nat) s => i ≤ 46 ∧ s.env 3 = .int .i64 k ∧ s.env 4 = outV 1 (ints L) ∧ s.env 6 = .int .i64 ((reachD k i).length : Nat) ∧ s.env 7 = .int .i64 ((i : Int) + 1)) (fun i => 46 - i) 0 (by simp [reachD]) ?_
  rintro N i s hN ⟨hi, e3, e4, e6, e7⟩
  simp [e3, e4, e6, e7]
  refine At.dec (fun h => ?_) (fun h => ?_)
  · have hi46 : i < 46 := by omega
    have vd := dist_val hi46
    have hg := hget i hi46
    have hp := hpow i hi46
    have hsu := reachD_succ k i
    have hql := reachD_len k i
    have w1 : IntKind.i64.wrap ((i : Int) + 1 + 1) = (i : Int) + 1 + 1 := wrap64 (by omega) (by omega)
    generalize dT.getD i 0 = d at *
    generalize (reachD k i).length = q at *
    have wq : IntKind.i64.wrap ((q : Int) + 1) = (q : Int) + 1 := wrap64 (by omega) (by omega)
    by_cases hd : d ≤ k
    · rw [decide_eq_true hd, decide_eq_true_eq] at hg
      have hqL : q < L.length := by
        rcases Nat.lt_or_ge q L.length with h' | h'
        · exact h'
        · rw [List.getElem?_eq_none h'] at hg; cases hg
      have iq := aidx_of aL (k := .i64) (n := (q : Int)) (by omega) (by simpa using hg)
      have hp' : ¬ (2 : Int) ^ k < (i : Int) + 1 := by
        have h1 := hp hd
        have : ((i + 1 : Nat) : Int) ≤ ((2 ^ k : Nat) : Int) := by exact_mod_cast h1
        rw [show ((2 ^ k : Nat) : Int) = (2 : Int) ^ k by norm_cast] at this
        omega
      rw [if_pos hd] at hsu
      have hd' : (d : Int) ≤ k := by omega
      simp [e3, e4, e6, e7, SDist, vd, alL, hd, hqL, iq, wq, hshl, hp']
      refine hN (i + 1) _ (by omega) ⟨by omega, ?_⟩
      rw [hsu]
      simp [e3, e4, e6, e7, w1]
    · rw [decide_eq_false hd, decide_eq_false_iff_not] at hg
      rw [if_neg hd, Nat.add_zero] at hsu
      by_cases hqL : q < L.length
      · have iq := aidx_nat aL (k := .i64) hqL
        rw [List.getElem?_eq_getElem hqL, Option.some.injEq] at hg
        simp [e3, e4, e6, e7, SDist, vd, alL, hd, hqL, iq, hg]
        refine hN (i + 1) _ (by omega) ⟨by omega, ?_⟩
        rw [hsu]
        simp [e3, e4, e6, e7, w1]
      · simp [e3, e4, e6, e7, SDist, vd, alL, hd, hqL]
        refine hN (i + 1) _ (by omega) ⟨by omega, ?_⟩
        rw [hsu]
        simp [e3, e4, e6, e7, w1]
  · have : i = 46 := by omega
    subst this
    rw [hLL] at e6
    simp [e3, e4, e6, e7, alL, S15]
theorem reach_typed : ∀ xs, Typed [.int .u8] xs → PCall Try.prog 13 xs (.bool true) := by
  intro xs h
  obtain ⟨x, rfl, h1⟩ := h.one
  obtain ⟨b, rfl, b1, b2⟩ := u8_of h1
  exact p13 (k := (b % 8).toNat) (by omega) b1 (by omega) b2

theorem reachD_lens : ∀ k : Nat, k < 6 → ((reachD k 46).length : Int) = [1, 2, 4, 7, 12, 21].getD k 0 := by decide +kernel
theorem ch7 : chT 6 = [1, 2, 3, 4, 7] := by decide +kernel
theorem n4 : (extL 4 [] 2 [1]).length = 1 := by decide +kernel
theorem count4 : countR 4 = .tup [.int .i64 1, .int .i64 0] := by
  unfold countR
  rw [if_pos (by decide)]
  have : shL 4 [] = extL 4 [] 2 [1] := by
    have := sh_tab (n := 3) (by decide)
    unfold shL
    rw [show ((3 : Nat) : Int) + 1 = 4 by decide] at this
    rw [this]; rfl
  rw [this, n4]; rfl
theorem row5 : rowR [1, 2, 3, 6, 7] = .tup [.bool true, .int .i64 0] := by
  have h : chk [1, 2, 3, 6, 7] = 0 ∧ rowB [1, 2, 3, 6, 7] = true := by decide +kernel
  simp [rowR, h]
theorem asI_k1 : asI (.sl 1 [.int .i64 1, .int .i64 2, .int .i64 3, .int .i64 6, .int .i64 7] .exact) = some [1, 2, 3, 6, 7] := by decide
theorem asI_k2 : asI (.sl 1 [.int .i64 1, .int .i64 2, .int .i64 4, .int .i64 7, .int .i64 12, .int .i64 21] .exact) = some [1, 2, 4, 7, 12, 21] := by decide
theorem asI_k3 : asI (.sl 1 [.int .i64 1, .int .i64 2, .int .i64 3, .int .i64 4, .int .i64 7] .exact) = some [1, 2, 3, 4, 7] := by decide
theorem d47 : distR 47 = .tup [.int .i64 0, .int .i64 3] := rfl
theorem d31 : distR 31 = .tup [.int .i64 7, .int .i64 0] := dist_val (n := 30) (by decide)
theorem c7 : chainR 7 = .tup [chV [1, 2, 3, 4, 7], .int .i64 0] := by rw [← ch7]; exact chain_val (n := 6) (by decide)
set_option maxRecDepth 100000 in
theorem p14 : PCall Try.prog 14 [] (.bool true) := by
  refine PCall.of D19ok ok14 (by simp) rfl fun hs' hb => ?_
  have s1 : S42 [.sl 1 [.int .i64 1, .int .i64 2, .int .i64 4, .int .i64 7, .int .i64 12, .int .i64 21] .exact] = some (.sl 1 [.int .i64 1, .int .i64 2, .int .i64 4, .int .i64 7, .int .i64 12, .int .i64 21] .exact) := rfl
  have s2 : S42 [.sl 1 [.int .i64 1, .int .i64 2, .int .i64 3, .int .i64 6, .int .i64 7] .exact] = some (.sl 1 [.int .i64 1, .int .i64 2, .int .i64 3, .int .i64 6, .int .i64 7] .exact) := rfl
  have s3 : S42 [.sl 1 [.int .i64 1, .int .i64 2, .int .i64 3, .int .i64 4, .int .i64 7] .exact] = some (.sl 1 [.int .i64 1, .int .i64 2, .int .i64 3, .int .i64 4, .int .i64 7] .exact) := rfl
  have ac := asI_chV (c := [1, 2, 3, 4, 7]) (by decide)
  simp only [A14, R14]
  simp [astoAll, AV.cells, s1]
  refine At.loop (fun (i : Nat) s => i ≤ 6 ∧ s.env 16 = .sl 1 [.int .i64 1, .int .i64 2, .int .i64 4, .int .i64 7, .int .i64 12, .int .i64 21] .exact ∧ s.env 17 = .int .i64 6 ∧ s.env 18 = .int .i64 i) (fun i => 6 - i) 0 (by simp) ?_
  rintro N i s hN ⟨hi, e16, e17, e18⟩
  simp [e16, e17, e18]
  refine At.dec (fun h => ?_) (fun h => ?_)
  · have hi6 : i < 6 := by omega
    have ii := aidx_nat asI_k2 (k := .i64) (i := i) (by simpa using hi6)
    have hl := reachD_lens i hi6
    rw [getD_get (by simpa using hi6)] at hl
    have hL := reachD_len i 46
    have aL := alen_of (asI_out (l := reachD i 46) (by omega))
    rw [hl] at aL
    have vr := reach_val (k := i) (by omega)
    simp [e16, e17, e18, ii, SInt1, vr, aL]
    refine hN (i + 1) _ (by omega) ⟨by omega, ?_⟩
    simp [e16, e17, e18, wrap_nat1 (show i < _ by omega)]
  · simp [e16, e17, e18, SDist, SChain, SInt1, SRow, d31, d47, c7, count4, row5, astoAll, AV.cells, s2, s3, asI_k1, asI_k3, ac, S27, S15]
theorem known_typed : ∀ xs, Typed [] xs → PCall Try.prog 14 xs (.bool true) := by
  intro xs h
  rw [h.nil]
  exact p14
end Go.Proofs.Ytnmpdegnpaggkaa
set_option linter.unusedVariables false
set_option linter.unusedSimpArgs false
namespace Go.Proofs.Ytnmpdegnpaggkaa
open Go Fw

/-- a chain behind a chain, multiplied -/
def prod (x y : List Int) (a : Int) (j : Nat) : List Int := x ++ ((y.drop 1).take j).map (a * ·)
theorem prod_succ {x y : List Int} {a : Int} {j : Nat} (h : j + 1 < y.length) : prod x y a (j + 1) = prod x y a j ++ [a * y[j + 1]] := by
  unfold prod
  have hd : j < (y.drop 1).length := by rw [List.length_drop]; omega
  rw [take_snoc hd, List.map_append, List.getElem_drop, ← List.append_assoc]
  simp [Nat.add_comm]
theorem prod_len {x y : List Int} {a : Int} {j : Nat} (h : j < y.length) : (prod x y a j).length = x.length + j := by
  unfold prod
  simp; omega
theorem prod_chain {x y : List Int} (hx : Chain1 x) (hy : Chain1 y) {j : Nat} (hj : j < y.length) :
    Chain1 (prod x y (lastL x) j) ∧ lastL (prod x y (lastL x) j) = lastL x * y[j] ∧ ∀ i (hi : i < y.length), i ≤ j → lastL x * y[i] ∈ prod x y (lastL x) j := by
  induction j with
  | zero =>
    have h0 := hy.head
    have e : prod x y (lastL x) 0 = x := by simp [prod]
    rw [e, h0]
    refine ⟨hx, by omega, fun i hi h => ?_⟩
    have : i = 0 := by omega
    subst this
    rw [h0, Int.mul_one]
    exact hx.asc.last
  | succ j ih =>
    obtain ⟨h1, h2, h3⟩ := ih (by omega)
    have hu := hy.up (j + 1) (by omega) hj
    simp only [Nat.add_sub_cancel] at hu
    have hpos := hx.pos _ hx.asc.last
    rw [prod_succ hj]
    refine ⟨h1.snoc ?_ ?_, by rw [lastL_snoc], fun i hi h => ?_⟩
    · rw [h2]
      exact Int.mul_lt_mul_of_pos_left hu.1 (by omega)
    · obtain ⟨u, hu1, v, hv1, huv⟩ := hu.2
      obtain ⟨p, hp, rfl⟩ := List.getElem_of_mem hu1
      obtain ⟨q, hq, rfl⟩ := List.getElem_of_mem hv1
      rw [List.length_take] at hp hq
      simp only [List.getElem_take] at huv
      exact ⟨_, h3 p (by omega) (by omega), _, h3 q (by omega) (by omega), by rw [← Int.mul_add, huv]⟩
    · rcases Nat.lt_or_ge i (j + 1) with h' | h'
      · exact List.mem_append_left _ (h3 i hi (by omega))
      · have : i = j + 1 := by omega
        subst this
        simp
theorem near_tab : ∀ m : Nat, m < 23 → dT.getD (m + 1) 0 ≤ dT.getD m 0 + 1 ∧ dT.getD (2 * m + 1) 0 ≤ dT.getD m 0 + 1 := by decide +kernel
theorem ones_tab : ∀ k : Nat, k < 5 → dT.getD (2 ^ (k + 1) - 2) 0 ≤ dT.getD k 0 + k ∧ 2 ^ (k + 1) - 2 < 46 := by decide +kernel

set_option maxRecDepth 100000 in
theorem p10 {m : Nat} (hm : m < 23) {r : Nat} (hr : r < 46 / (m + 1)) {k : Nat} (hk : k < 5) {b c : Int} (hb0 : 0 ≤ b) (hb : b % 23 = (m : Int)) (hb2 : b ≤ 255) (hc0 : 0 ≤ c) (hc : c % ((46 / (m + 1) : Nat) : Int) = (r : Int)) (hc2 : c ≤ 255) (hck : c % 5 = (k : Int)) :
    PCall Try.prog 10 [.int .u8 b, .int .u8 c] (.bool true) := by
  have hmul : (m + 1) * (r + 1) ≤ 46 := by
    have h1 : (m + 1) * (r + 1) ≤ (m + 1) * (46 / (m + 1)) := Nat.mul_le_mul_left _ hr
    have h2 := Nat.mul_div_le 46 (m + 1)
    omega
  have hr46 : r < 46 := by
    have := Nat.div_le_self 46 (m + 1)
    omega
  obtain ⟨t, ht⟩ : ∃ t, (m + 1) * (r + 1) = t + 1 := ⟨m * r + m + r, by rw [Nat.add_mul, Nat.mul_add]; omega⟩
  have fx := fnd_of (n := (m : Int) + 1) (by omega) (ch_mem (n := m) (by omega))
  have fy := fnd_of (n := (r : Int) + 1) (by omega) (ch_mem (n := r) (by omega))
  have vx := chain_val (n := m) (by omega)
  have vy := chain_val (n := r) (by omega)
  have vt := dist_val (n := t) (by omega)
  have vm := dist_val (n := m) (by omega)
  have vm1 := dist_val (n := m + 1) (by omega)
  have vm2 := dist_val (n := 2 * m + 1) (by omega)
  have hones := ones_tab k hk
  have vk := dist_val (n := k) (by omega)
  have vk2 := dist_val (n := 2 ^ (k + 1) - 2) hones.2
  have hnear := near_tab m hm
  have hst := sh_tab (n := t) (by omega)
  have dx7 := dT_le (n := m) (by omega)
  have dy7 := dT_le (n := r) (by omega)
  have dt7 := dT_le (n := t) (by omega)
  have dk7 := dT_le (n := k) (by omega)
  have em1 : ((m + 1 : Nat) : Int) + 1 = (m : Int) + 1 + 1 := by omega
  have em2 : ((2 * m + 1 : Nat) : Int) + 1 = 2 * ((m : Int) + 1) := by omega
  have emr : ((m : Int) + 1) * ((r : Int) + 1) = (t : Int) + 1 := by
    have : (((m + 1) * (r + 1) : Nat) : Int) = ((t + 1 : Nat) : Int) := by rw [ht]
    simpa using this
  have hk2 : k = 0 ∨ k = 1 ∨ k = 2 ∨ k = 3 ∨ k = 4 := by omega
  have ek2 : ((2 ^ (k + 1) - 2 : Nat) : Int) + 1 = 2 ^ (k + 1) - 1 := by
    rcases hk2 with rfl | rfl | rfl | rfl | rfl <;> decide
  have epk : (2 : Int) ^ (k + 1) ≤ 32 := by rcases hk2 with rfl | rfl | rfl | rfl | rfl <;> decide
  have epk0 : 0 ≤ (2 : Int) ^ (k + 1) := Int.pow_nonneg (by decide)
  rw [em1] at vm1
  rw [em2] at vm2
  rw [ek2] at vk2
  have hlastx := fx.last
  have hlasty := fy.last
  have hpc := prod_chain fx.chain fy.chain (j := (chT r).length - 1) (by have := fy.len; omega)
  have hylast : (chT r)[(chT r).length - 1]'(by have := fy.len; omega) = (r : Int) + 1 := by rw [← lastL_get (by have := fy.len; omega)]; exact hlasty
  rw [hylast, hlastx, emr] at hpc
  obtain ⟨hp1, hp2, -⟩ := hpc
  clear hylast
  generalize hxx : chT m = x at *
  generalize hyy : chT r = y at *
  generalize dT.getD m 0 = dm at *
  generalize dT.getD r 0 = dr at *
  generalize dT.getD t 0 = dt at *
  generalize dT.getD k 0 = dk at *
  generalize dT.getD (m + 1) 0 = dm1 at *
  generalize dT.getD (2 * m + 1) 0 = dm2 at *
  generalize dT.getD (2 ^ (k + 1) - 2) 0 = dk2 at *
  have lx := fx.len
  have ly := fy.len
  have ax := asI_chV (c := x) (by omega)
  have ay := asI_chV (c := y) (by omega)
  have alx := alen_of ax
  have aly := alen_of ay
  have smx := sm_of fx.le
  have smy := sm_of fy.le
  have sx : sumsB x = true := fx.chain.sums fun a ha => by have := fx.le a ha; omega
  have sy : sumsB y = true := fy.chain.sums fun a ha => by have := fy.le a ha; omega
  have ix := aidx_of ax (k := .i64) (n := (dm : Int)) (by omega) (by simpa using fx.lastAt)
  have iy := aidx_of ay (k := .i64) (n := (dr : Int)) (by omega) (by simpa using fy.lastAt)
  rw [lx] at alx
  rw [ly] at aly
  -- the whole chain
  have hpl := prod_len (x := x) (y := y) (a := (m : Int) + 1) (j := y.length - 1) (by omega)
  have hle46 : ∀ a ∈ prod x y ((m : Int) + 1) (y.length - 1), a ≤ 46 := fun a ha => by
    have := le_last hp1.sorted ha
    omega
  have hchk : chk (prod x y ((m : Int) + 1) (y.length - 1)) = 0 := (hp1.vld hle46).chk (by omega)
  have hdt := sh_chain hst hp1 hp2 (fun a _ _ h => by simp at h)
  -- the steps
  have hmod : b.tmod 23 = (m : Int) := by rw [Int.tmod_eq_emod_of_nonneg hb0]; exact hb
  have hmodk : c.tmod 5 = (k : Int) := by rw [Int.tmod_eq_emod_of_nonneg hc0]; exact hck
  have hdiv : (46 : Int).tdiv (1 + (m : Int)) = ((46 / (m + 1) : Nat) : Int) := by
    rw [Int.tdiv_eq_ediv_of_nonneg (by omega), show (1 + (m : Int)) = ((m + 1 : Nat) : Int) by omega]
    norm_cast
  have hq0 : ¬ ((46 / (m + 1) : Nat) : Int) = 0 := by omega
  have hmodc : c.tmod ((46 / (m + 1) : Nat) : Int) = (r : Int) := by rw [Int.tmod_eq_emod_of_nonneg hc0]; exact hc
  have hqle : 46 / (m + 1) ≤ 46 := Nat.div_le_self _ _
  generalize hQ : (46 / (m + 1)) = Q at *
  have wb : IntKind.i64.wrap b = b := wrap64 (by omega) (by omega)
  have wc : IntKind.i64.wrap c = c := wrap64 (by omega) (by omega)
  have wm : IntKind.i64.wrap (1 + (m : Int)) = 1 + (m : Int) := wrap64 (by omega) (by omega)
  have wQ : IntKind.i64.wrap (Q : Int) = Q := wrap64 (by omega) (by omega)
  have wr : IntKind.i64.wrap (1 + (r : Int)) = 1 + (r : Int) := wrap64 (by omega) (by omega)
  have hm0 : ¬ (1 + (m : Int)) = 0 := by omega
  have emul : (1 + (m : Int)) * (1 + (r : Int)) = (t : Int) + 1 := by rw [Int.add_comm 1, Int.add_comm 1]; exact emr
  have wt : IntKind.i64.wrap ((t : Int) + 1) = (t : Int) + 1 := wrap64 (by omega) (by omega)
  have e1m : 1 + (m : Int) = (m : Int) + 1 := by omega
  have e1r : 1 + (r : Int) = (r : Int) + 1 := by omega
  refine PCall.of D19ok ok10 (by simp) rfl fun hs' hb => ?_
  simp only [A10, R10]
  simp [wb, hmod, wm, wc, abin_quo hm0, hdiv, wQ, abin_rem hq0, hmodc, wr, emul, wt]
  rw [e1m, e1r]
  obtain ⟨z, hs1, q1, q2, q3, q4⟩ := copy_outs (hs := hs') ax (by intro e; rw [e] at lx; simp at lx) (by omega)
  have td := slice_drop (asI_asV ay) (n := 1) (k := .i64) (by rw [ints_len]; omega)
  have atd := asI_drop ay 1
  have altd := alen_of atd
  have ltd : (y.drop 1).length = dr := by rw [List.length_drop]; omega
  rw [ltd] at altd
  have wdm : IntKind.i64.wrap (dm : Int) = dm := wrap_nat (by omega)
  have wdr : IntKind.i64.wrap (dr : Int) = dr := wrap_nat (by omega)
  simp only [Int.natCast_one] at td
  simp [SChain, SDist, vx, vy, emr, wt, vt, S40, ax, ay, smx, smy, sx, sy, alx, aly, wdm, wdr, ix, iy, astoAll, q1, td, altd]
  refine At.loop (fun (j : Nat) s => j ≤ dr ∧ s.env 1 = .int .u8 c ∧ s.env 5 = .int .i64 ((m : Int) + 1) ∧ s.env 11 = .int .i64 dt ∧ s.env 93 = dropV 1 (chV y) ∧ s.env 94 = .int .i64 dr ∧ s.env 95 = .int .i64 j ∧ Outs 1 s.hs (s.env 13) (ints (prod x y ((m : Int) + 1) j))) (fun j => dr - j) 0 ?_ ?_
  · simp
    have : prod x y ((m : Int) + 1) 0 = x := by simp [prod]
    rw [this]; exact q2
  rintro N j s hN ⟨hj, e1, e5, e11, e93, e94, e95, ho⟩
  simp [e1, e5, e11, e93, e94, e95]
  have hpj := prod_len (x := x) (y := y) (a := (m : Int) + 1) (j := j) (by omega)
  refine At.dec (fun h => ?_) (fun h => ?_)
  · have hjd : j < (y.drop 1).length := by omega
    have ij := aidx_nat atd (k := .i64) hjd
    rw [List.getElem_drop] at ij
    have hjy : 1 + j < y.length := by omega
    have by1 := fy.le y[1 + j] (List.getElem_mem hjy)
    have hmm : ((m : Int) + 1) * y[1 + j] ≤ 23 * 46 := Int.mul_le_mul (by omega) by1.2 (by omega) (by omega)
    have hmm0 : 0 ≤ ((m : Int) + 1) * y[1 + j] := Int.mul_nonneg (by omega) (by omega)
    have wmul : IntKind.i64.wrap (((m : Int) + 1) * y[1 + j]) = ((m : Int) + 1) * y[1 + j] := wrap64 (by omega) (by omega)
    obtain ⟨z2, hs2, r1, r2, r3⟩ := ho.add1 (by omega) (((m : Int) + 1) * y[1 + j])
    have hps := prod_succ (x := x) (y := y) (a := (m : Int) + 1) (j := j) (by omega)
    simp [e1, e5, e11, e93, e94, e95, ij, wmul, astoAll, r1]
    refine hN (j + 1) _ (by omega) ⟨by omega, ?_⟩
    simp [e1, e5, e11, e93, e94, e95, wrap_nat1 (show j < _ by omega)]
    rw [hps]
    have hidx : y[j + 1]'(by omega) = y[1 + j] := by simp only [Nat.add_comm]
    rw [hidx]
    exact r2
  · have hjd : j = dr := by omega
    subst hjd
    have hyl : y.length - 1 = j := by omega
    rw [hyl] at hchk hpl hdt
    have aP := ho.asI (by omega)
    have alP := alen_of aP
    rw [hpj] at alP
    have wP : IntKind.i64.wrap (((x.length + j : Nat) : Int) - 1) = ((x.length + j : Nat) : Int) - 1 := wrap64 (by omega) (by omega)
    simp only [Int.natCast_add] at alP wP
    have hle1 : ¬ (x.length : Int) + j - 1 < dt := by rw [hpj] at hdt; omega
    have wm2 : IntKind.i64.wrap ((m : Int) + 1 + 1) = (m : Int) + 1 + 1 := wrap64 (by omega) (by omega)
    have wm3 : IntKind.i64.wrap (2 * ((m : Int) + 1)) = 2 * ((m : Int) + 1) := wrap64 (by omega) (by omega)
    have wdm1 : IntKind.i64.wrap ((dm : Int) + 1) = (dm : Int) + 1 := wrap64 (by omega) (by omega)
    have n1 : ¬ (dm : Int) + 1 < dm1 := by omega
    have n2 : ¬ (dm : Int) + 1 < dm2 := by omega
    have wk1 : IntKind.i64.wrap (1 + (k : Int)) = (k : Int) + 1 := by rw [wrap64 (by omega) (by omega)]; omega
    have hshl := shl_last (a := 1) (by omega) (by omega) (k := k + 1) (by omega)
    rw [Int.one_mul] at hshl
    simp only [Int.natCast_add, Int.natCast_one] at hshl
    have wsh : IntKind.i64.wrap ((2 : Int) ^ (k + 1) - 1) = (2 : Int) ^ (k + 1) - 1 := wrap64 (by omega) (by omega)
    have wdk : IntKind.i64.wrap ((dk : Int) + ((k : Int) + 1)) = (dk : Int) + (k : Int) + 1 := by rw [wrap64 (by omega) (by omega)]; omega
    have wdk' : IntKind.i64.wrap ((dk : Int) + (k : Int)) = (dk : Int) + (k : Int) := wrap64 (by omega) (by omega)
    have n3 : (dk2 : Int) ≤ (dk : Int) + (k : Int) := by omega
    simp [e1, e5, e11, e93, e94, e95, SChk, aP, hchk, alP, wP, hle1, SDist, vm, wm2, vm1, wm3, vm2, wdm1, n1, n2, wc, hmodk, wk1, hshl, wsh, vk2, vk, wdk, wdk', n3, S15]
theorem products_typed : ∀ xs, Typed [.int .u8, .int .u8] xs → PCall Try.prog 10 xs (.bool true) := by
  intro xs h
  obtain ⟨x, y, rfl, h1, h2⟩ := h.two
  obtain ⟨b, rfl, b1, b2⟩ := u8_of h1
  obtain ⟨c, rfl, c1, c2⟩ := u8_of h2
  have hm : (b % 23).toNat < 23 := by omega
  have hq : 0 < 46 / ((b % 23).toNat + 1) := Nat.div_pos (by omega) (by omega)
  have hc0 := Int.emod_nonneg c (show ((46 / ((b % 23).toNat + 1) : Nat) : Int) ≠ 0 by omega)
  have hc1 := Int.emod_lt_of_pos c (show 0 < ((46 / ((b % 23).toNat + 1) : Nat) : Int) by omega)
  exact p10 hm (r := (c % ((46 / ((b % 23).toNat + 1) : Nat) : Int)).toNat) (by omega) (k := (c % 5).toNat) (by omega) b1 (by omega) b2 c1 (by omega) c2 (by omega)
end Go.Proofs.Ytnmpdegnpaggkaa
