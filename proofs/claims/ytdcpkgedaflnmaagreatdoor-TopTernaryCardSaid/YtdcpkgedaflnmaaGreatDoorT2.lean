/-
  Loads and weights: the plain law. Own work.
  Layings: the recursive search, walked. Own work.
  Weights: checked, laid, balanced. Own work.
  Few weights; a laying balances. Own work.
-/
import Derived.Test.YtdcpkgedaflnmaaGreatDoorT1
import Derived.Test.YtdcpkgedaflnmaaGreatDoorC8
import Derived.Test.YtdcpkgedaflnmaaGreatDoorG1
import Derived.Test.YtdcpkgedaflnmaaGreatDoorG4
import Derived.Test.YtdcpkgedaflnmaaGreatDoorFx5
import Derived.Test.YtdcpkgedaflnmaaGreatDoorG5
set_option linter.unusedVariables false
set_option linter.unusedSimpArgs false
namespace Go.Proofs.YtdcpkgedaflnmaaGreatDoor.We
open Go Fw Se Sn

def bad (left rest use : Int) : Prop := use < 0 ∨ rest < left ∨ left < -rest
instance (a b c : Int) : Decidable (bad a b c) := by unfold bad; infer_instance
/-- the search for a laying -/
def layF : List Int → Int → Int → Int → Option (List Int)
  | [], left, rest, use => if bad left rest use then none else some []
  | w :: ws, left, rest, use => if bad left rest use then none else
    match layF ws (left - w) (rest - w) (use - 1) with
    | some l => some (1 :: l)
    | none => match layF ws left (rest - w) use with
      | some l => some (0 :: l)
      | none => match layF ws (left + w) (rest - w) (use - 1) with
        | some l => some (-1 :: l)
        | none => none
def sumL (ws : List Int) : Int := ws.foldr (· + ·) 0
def dot : List Int → List Int → Int
  | a :: l, w :: ws => a * w + dot l ws
  | _, _ => 0
def cnt (l : List Int) : Int := l.foldr (fun a n => a * a + n) 0
def Dig (l : List Int) : Prop := ∀ a ∈ l, a = 1 ∨ a = 0 ∨ a = -1
theorem lay_sound : ∀ {ws : List Int} {left use : Int} {l : List Int}, layF ws left (sumL ws) use = some l → l.length = ws.length ∧ Dig l ∧ dot l ws = left
  | [], left, use, l, h => by
    unfold layF at h
    split at h
    · cases h
    · rename_i hb
      injection h with h; subst h
      simp only [bad, sumL, List.foldr_nil] at hb
      exact ⟨rfl, fun a ha => (by cases ha), by unfold dot; omega⟩
  | w :: ws, left, use, l, h => by
    have hs : sumL (w :: ws) - w = sumL ws := by simp only [sumL, List.foldr_cons]; omega
    unfold layF at h
    rw [hs] at h
    split at h
    · cases h
    split at h
    · rename_i l' h1
      injection h with h; subst h
      obtain ⟨g1, g2, g3⟩ := lay_sound h1
      exact ⟨by simp [g1], fun a ha => by
        rcases List.mem_cons.1 ha with rfl | ha
        · exact .inl rfl
        · exact g2 a ha, by simp only [dot]; omega⟩
    split at h
    · rename_i l' h1
      injection h with h; subst h
      obtain ⟨g1, g2, g3⟩ := lay_sound h1
      exact ⟨by simp [g1], fun a ha => by
        rcases List.mem_cons.1 ha with rfl | ha
        · exact .inr (.inl rfl)
        · exact g2 a ha, by simp only [dot]; omega⟩
    split at h
    · rename_i l' h1
      injection h with h; subst h
      obtain ⟨g1, g2, g3⟩ := lay_sound h1
      exact ⟨by simp [g1], fun a ha => by
        rcases List.mem_cons.1 ha with rfl | ha
        · exact .inr (.inr rfl)
        · exact g2 a ha, by simp only [dot]; omega⟩
    · cases h
theorem dot_bd : ∀ {ws l : List Int}, (∀ w ∈ ws, 0 ≤ w) → Dig l → l.length = ws.length → dot l ws ≤ sumL ws ∧ -(sumL ws) ≤ dot l ws
  | [], l, _, _, _ => by cases l <;> simp [dot, sumL]
  | w :: ws, [], _, _, h => by simp at h
  | w :: ws, a :: l, hw, hd, h => by
    have ih := dot_bd (ws := ws) (l := l) (fun x hx => hw x (by simp [hx])) (fun x hx => hd x (by simp [hx])) (by simpa using h)
    have h0 := hw w (by simp)
    simp only [dot, sumL, List.foldr_cons] at ih ⊢
    rcases hd a (by simp) with rfl | rfl | rfl <;> omega
theorem cnt_nn : ∀ (l : List Int), Dig l → 0 ≤ cnt l ∧ cnt l ≤ l.length
  | [], _ => by simp [cnt]
  | a :: l, h => by
    have ih := cnt_nn l fun x hx => h x (by simp [hx])
    simp only [cnt, List.foldr_cons, List.length_cons] at ih ⊢
    rcases h a (by simp) with rfl | rfl | rfl <;> omega
theorem lay_complete : ∀ {ws l : List Int} {left use : Int}, (∀ w ∈ ws, 0 ≤ w) → Dig l → l.length = ws.length → dot l ws = left → cnt l ≤ use → ∃ r, layF ws left (sumL ws) use = some r
  | [], [], left, use, _, _, _, hd, hc => by
    refine ⟨[], ?_⟩
    unfold layF
    rw [if_neg]
    simp only [bad, sumL, List.foldr_nil, dot, cnt] at hd hc ⊢
    omega
  | [], a :: l, left, use, _, _, h, _, _ => by simp at h
  | w :: ws, [], left, use, _, _, h, _, _ => by simp at h
  | w :: ws, a :: l, left, use, hw, hdg, hl, hd, hc => by
    have hb := dot_bd hw hdg hl
    have hn := cnt_nn _ hdg
    have hs : sumL (w :: ws) - w = sumL ws := by simp only [sumL, List.foldr_cons]; omega
    have hw' : ∀ x ∈ ws, 0 ≤ x := fun x hx => hw x (by simp [hx])
    have hdg' : Dig l := fun x hx => hdg x (by simp [hx])
    have hl' : l.length = ws.length := by simpa using hl
    unfold layF
    rw [if_neg (by simp only [bad]; omega), hs]
    have hcc : cnt (a :: l) = a * a + cnt l := rfl
    have hdd : dot (a :: l) (w :: ws) = a * w + dot l ws := rfl
    cases h1 : layF ws (left - w) (sumL ws) (use - 1) with
    | some r => exact ⟨_, rfl⟩
    | none =>
      cases h2 : layF ws left (sumL ws) use with
      | some r => exact ⟨_, rfl⟩
      | none =>
        cases h3 : layF ws (left + w) (sumL ws) (use - 1) with
        | some r => exact ⟨_, rfl⟩
        | none =>
          exfalso
          rcases hdg a (by simp) with rfl | rfl | rfl
          · obtain ⟨r, hr⟩ := lay_complete (left := left - w) (use := use - 1) hw' hdg' hl' (by omega) (by omega)
            rw [h1] at hr; cases hr
          · obtain ⟨r, hr⟩ := lay_complete (left := left) (use := use) hw' hdg' hl' (by omega) (by omega)
            rw [h2] at hr; cases hr
          · obtain ⟨r, hr⟩ := lay_complete (left := left + w) (use := use - 1) hw' hdg' hl' (by omega) (by omega)
            rw [h3] at hr; cases hr
/-- the search, with more and more weights -/
def layA (ws : List Int) (load : Int) : Option (List Int) := (List.range (ws.length + 1)).findSome? fun (u : Nat) => layF ws load (sumL ws) (u : Int)
/-! powers of 3 -/
def pw : Nat → Int → List Int
  | 0, _ => []
  | k + 1, c => c :: pw k (3 * c)
theorem pw_len : ∀ k c, (pw k c).length = k
  | 0, _ => rfl
  | k + 1, c => by simp [pw, pw_len k]
def vl : List Int → Int
  | [] => 0
  | a :: l => a + 3 * vl l
theorem dot_pw : ∀ (l : List Int) (c : Int), dot l (pw l.length c) = c * vl l
  | [], c => by simp [dot, vl, pw]
  | a :: l, c => by
    simp only [List.length_cons, pw, dot, dot_pw l, vl]
    rw [Int.mul_add, Int.mul_comm a c, Int.mul_assoc 3 c, Int.mul_left_comm 3 c]
theorem vl_inj : ∀ {a b : List Int}, Dig a → Dig b → a.length = b.length → vl a = vl b → a = b
  | [], [], _, _, _, _ => rfl
  | [], _ :: _, _, _, h, _ => by simp at h
  | _ :: _, [], _, _, h, _ => by simp at h
  | x :: a, y :: b, ha, hb, hl, h => by
    simp only [vl] at h
    have hx := ha x (by simp)
    have hy := hb y (by simp)
    have hxy : x = y := by omega
    have := vl_inj (a := a) (b := b) (fun z hz => ha z (by simp [hz])) (fun z hz => hb z (by simp [hz])) (by simpa using hl) (by omega)
    rw [hxy, this]
/-- a number by its balanced figures -/
def bal : Nat → Nat → List Int
  | 0, _ => []
  | k + 1, N => (((N % 3 : Nat) : Int) - 1) :: bal k (N / 3)
theorem bal_len : ∀ k N, (bal k N).length = k
  | 0, _ => rfl
  | k + 1, N => by simp [bal, bal_len k]
theorem bal_dig : ∀ k N, Dig (bal k N)
  | 0, _, a, h => by cases h
  | k + 1, N, a, h => by
    rcases List.mem_cons.1 h with rfl | h
    · have := Nat.mod_lt N (show 0 < 3 by decide)
      omega
    · exact bal_dig k _ a h
def hf : Nat → Nat
  | 0 => 0
  | k + 1 => 3 * hf k + 1
theorem hf_pow : ∀ k, 2 * hf k + 1 = 3 ^ k
  | 0 => rfl
  | k + 1 => by rw [hf, Nat.pow_succ, ← hf_pow k]; omega
theorem bal_vl : ∀ k N, N < 3 ^ k → vl (bal k N) = (N : Int) - hf k
  | 0, N, h => by
    have : N = 0 := by simpa using h
    subst this; rfl
  | k + 1, N, h => by
    have h1 : N / 3 < 3 ^ k := Nat.div_lt_of_lt_mul (by rw [Nat.pow_succ, Nat.mul_comm] at h; exact h)
    have ih := bal_vl k _ h1
    simp only [bal, vl, hf, ih]
    omega
theorem bal_get : ∀ {k N i : Nat} (h : i < k), (bal k N).getD i 0 = ((N / 3 ^ i % 3 : Nat) : Int) - 1
  | k + 1, N, 0, _ => by simp [bal]
  | k + 1, N, i + 1, h => by
    have := bal_get (k := k) (N := N / 3) (i := i) (by omega)
    rw [Nat.div_div_eq_div_mul, ← Nat.pow_succ'] at this
    simpa [bal] using this
theorem dgs_get : ∀ {L m i : Nat}, i < L → (dgs 3 L m).getD (L - 1 - i) 0 = ((m / 3 ^ i % 3 : Nat) : Int)
  | L + 1, m, 0, _ => by
    rw [dgs, List.getD_eq_getElem?_getD, List.getElem?_append_right (by rw [dgs_len]; omega)]
    simp [dgs_len]
  | L + 1, m, i + 1, h => by
    have := dgs_get (L := L) (m := m / 3) (i := i) (by omega)
    rw [Nat.div_div_eq_div_mul, ← Nat.pow_succ'] at this
    rw [dgs, List.getD_eq_getElem?_getD, List.getElem?_append_left (by rw [dgs_len]; omega), show L + 1 - 1 - (i + 1) = L - 1 - i by omega, ← List.getD_eq_getElem?_getD]
    exact this
theorem pw_nn : ∀ {k : Nat} {c : Int}, 1 ≤ c → ∀ w ∈ pw k c, 1 ≤ w
  | 0, c, _, w, h => by cases h
  | k + 1, c, hc, w, h => by
    rcases List.mem_cons.1 h with rfl | h
    · exact hc
    · exact pw_nn (k := k) (c := 3 * c) (by omega) w h
theorem pw_sum : ∀ (k : Nat) (c : Int), sumL (pw k c) = c * (hf k : Int)
  | 0, c => by simp [pw, sumL, hf]
  | k + 1, c => by
    have ih := pw_sum k (3 * c)
    simp only [pw, sumL, List.foldr_cons, hf] at ih ⊢
    rw [ih]
    have : ((3 * hf k + 1 : Nat) : Int) = 3 * (hf k : Int) + 1 := by omega
    rw [this, Int.mul_add, Int.mul_one, Int.mul_assoc 3 c, Int.mul_left_comm 3 c]
    omega
theorem layA_bal {k N : Nat} (h : N < 3 ^ k) : layA (pw k 1) ((N : Int) - hf k) = some (bal k N) := by
  have hlen := bal_len k N
  have hdot : dot (bal k N) (pw k 1) = (N : Int) - hf k := by
    have := dot_pw (bal k N) 1
    rw [hlen] at this
    rw [this, bal_vl k N h, Int.one_mul]
  have uniq : ∀ u l, layF (pw k 1) ((N : Int) - hf k) (sumL (pw k 1)) u = some l → l = bal k N := fun u l hl => by
    obtain ⟨g1, g2, g3⟩ := lay_sound hl
    rw [pw_len] at g1
    have h1 := dot_pw l 1
    rw [g1, g3, Int.one_mul] at h1
    exact vl_inj g2 (bal_dig k N) (by rw [g1, hlen]) (by rw [← h1, bal_vl k N h])
  have hex : ∃ r, layF (pw k 1) ((N : Int) - hf k) (sumL (pw k 1)) ((k : Nat) : Int) = some r := lay_complete (fun w hw => by have := pw_nn (c := 1) (by decide) w hw; omega) (bal_dig k N) (by rw [hlen, pw_len]) hdot (by have := (cnt_nn _ (bal_dig k N)).2; rw [hlen] at this; exact this)
  unfold layA
  rw [pw_len]
  cases hf : (List.range (k + 1)).findSome? (fun (u : Nat) => layF (pw k 1) ((N : Int) - We.hf k) (sumL (pw k 1)) (u : Int)) with
  | none =>
    obtain ⟨r, hr⟩ := hex
    have := List.findSome?_eq_none_iff.1 hf k (List.mem_range.2 (by omega))
    rw [hr] at this; cases this
  | some l =>
    obtain ⟨u, _, hu⟩ := List.exists_of_findSome?_eq_some hf
    rw [uniq _ _ hu]
theorem layA_none {ws : List Int} {load : Int} (h : sumL ws < load) : layA ws load = none := by
  unfold layA
  rw [List.findSome?_eq_none_iff]
  intro u _
  cases ws with
  | nil => unfold layF; rw [if_pos]; exact .inr (.inl h)
  | cons w ws => unfold layF; rw [if_pos]; exact .inr (.inl h)
end Go.Proofs.YtdcpkgedaflnmaaGreatDoor.We
set_option linter.unusedVariables false
set_option linter.unusedSimpArgs false
namespace Go.Proofs.YtdcpkgedaflnmaaGreatDoor.We
open Go Fw Se

/-- what a search returns -/
def rsV (pre : List Int) : Option (List Int) → AV
  | none => .nilsl
  | some l => outV 1 (ints (pre ++ l))
def wayN (i : Nat) : Int := if i = 0 then 1 else if i = 1 then 0 else -1
/-- the round with a way -/
def rI (w : Int) (ws : List Int) (left rest use : Int) (i : Nat) : Option (List Int) := layF ws (left - wayN i * w) (rest - w) (use - wayN i * wayN i)
theorem lay_at {w : Int} {ws : List Int} {left rest use : Int} (hb : ¬ bad left rest use) {i : Nat} (hi : i < 3) (hl : ∀ j, j < i → rI w ws left rest use j = none) {l : List Int} (h : rI w ws left rest use i = some l) : layF (w :: ws) left rest use = some (wayN i :: l) := by
  unfold layF
  rw [if_neg hb]
  have e0 : rI w ws left rest use 0 = layF ws (left - w) (rest - w) (use - 1) := by simp [rI, wayN]
  have e1 : rI w ws left rest use 1 = layF ws left (rest - w) use := by simp [rI, wayN]
  have e2 : rI w ws left rest use 2 = layF ws (left + w) (rest - w) (use - 1) := by simp [rI, wayN]
  rw [← e0, ← e1, ← e2]
  have hc : i = 0 ∨ i = 1 ∨ i = 2 := by omega
  rcases hc with rfl | rfl | rfl
  · rw [h]; rfl
  · rw [hl 0 (by omega), h]; rfl
  · rw [hl 0 (by omega), hl 1 (by omega), h]; rfl
theorem lay_no {w : Int} {ws : List Int} {left rest use : Int} (hb : ¬ bad left rest use) (hl : ∀ j, j < 3 → rI w ws left rest use j = none) : layF (w :: ws) left rest use = none := by
  unfold layF
  rw [if_neg hb]
  have e0 : rI w ws left rest use 0 = layF ws (left - w) (rest - w) (use - 1) := by simp [rI, wayN]
  have e1 : rI w ws left rest use 1 = layF ws left (rest - w) use := by simp [rI, wayN]
  have e2 : rI w ws left rest use 2 = layF ws (left + w) (rest - w) (use - 1) := by simp [rI, wayN]
  rw [← e0, ← e1, ← e2, hl 0 (by omega), hl 1 (by omega), hl 2 (by omega)]
theorem wayN_bd (i : Nat) : -1 ≤ wayN i ∧ wayN i ≤ 1 ∧ (wayN i * wayN i = 0 ∨ wayN i * wayN i = 1) := by
  unfold wayN
  split
  · decide
  · split <;> decide
theorem way_mul (i : Nat) (w : Int) (h : 0 ≤ w) : -w ≤ wayN i * w ∧ wayN i * w ≤ w := by
  unfold wayN
  split
  · omega
  · split <;> omega
theorem neg_ok {rest : Int} (h1 : -1000000000 ≤ rest) (h2 : rest ≤ 1000000000) : aun .neg (.int .i64 rest) = some (.int .i64 (-rest)) := by
  show some (AV.int .i64 (IntKind.i64.wrap (0 - rest))) = _
  rw [wrap64 (by omega) (by omega)]
  congr 2
  omega
/-- a search that ends at once -/
theorem p81b {W : AV} {b : Nat} {hs : HS} {pre : List Int} {c : Cap} {left rest use : Int} (h1 : -1000000000 ≤ rest) (h2 : rest ≤ 1000000000) (hbad : bad left rest use) :
    FCall Tryz.prog 81 [.sl 1 (ints pre) c, .int .i64 left, .int .i64 rest, .int .i64 use, .ptr W, .ref b 0] hs fun e hs' => e = .ret .nilsl ∧ SameMem hs hs' := by
  have hng := neg_ok h1 h2
  refine FCall.ofAt CtxOk.nil ok81 (by simp) ?_
  by_cases b1 : use < 0
  · simp [A81, R81, b1]
    exact At.of ⟨rfl, rfl⟩
  · by_cases b2 : rest < left
    · simp [A81, R81, b1, b2]
      exact At.of ⟨rfl, rfl⟩
    · have b3 : left < -rest := by unfold bad at hbad; omega
      simp [A81, R81, b1, b2, hng, b3]
      exact At.of ⟨rfl, rfl⟩
theorem lay_bad {ws : List Int} {left rest use : Int} (h : bad left rest use) : layF ws left rest use = none := by cases ws <;> (unfold layF; rw [if_pos h])
set_option maxHeartbeats 4000000 in
theorem p81 {W : AV} {ws0 : List Int} (hW : asI W = some ws0) (hne : ws0 ≠ []) (h7 : ws0.length ≤ 7) (hbd : ∀ a ∈ ws0, 1 ≤ a ∧ a ≤ 2000) {b : Nat} (ws : List Int) : ∀ {hs : HS} {pre : List Int} {c : Cap} {left rest use : Int}, pre.length + ws.length = ws0.length → ws0.drop pre.length = ws →
    -(100000000 + 2000 * (pre.length : Int)) ≤ left → left ≤ 100000000 + 2000 * (pre.length : Int) → -(100000000 + 2000 * (pre.length : Int)) ≤ rest → rest ≤ 100000000 → -(100 + (pre.length : Int)) ≤ use → use ≤ 100 →
    hs.heap b = some [.fn (.func 81) [] [.ptr W, .ref b 0]] → FCall Tryz.prog 81 [.sl 1 (ints pre) c, .int .i64 left, .int .i64 rest, .int .i64 use, .ptr W, .ref b 0] hs fun e hs' => e = .ret (rsV pre (layF ws left rest use)) ∧ SameMem hs hs' := by
  induction ws with
  | nil =>
    intro hs pre c left rest use hlen hdrop l1 l2 r1 r2 u1 u2 hb
    have hpl : pre.length ≤ 7 := by omega
    by_cases hbad : bad left rest use
    · rw [lay_bad hbad]; exact p81b (by omega) (by omega) hbad
    have hz : asI (.sl 1 (ints pre) c) = some pre := asI_sl (by omega)
    have hzl := alen_of hz
    have hWl := alen_of hW
    have hWd := asI_ld hW
    have hng := neg_ok (rest := rest) (by omega) (by omega)
    have b1 : ¬ use < 0 := fun h => hbad (.inl h)
    have b2 : ¬ rest < left := fun h => hbad (.inr (.inl h))
    have b3 : ¬ left < -rest := fun h => hbad (.inr (.inr h))
    have hr : layF [] left rest use = some [] := by unfold layF; rw [if_neg hbad]
    rw [hr]
    have hpe : pre.length = ws0.length := by simpa using hlen
    have hpne : pre ≠ [] := fun e => by rw [e] at hpe; exact hne (List.length_eq_zero_iff.1 hpe.symm)
    obtain ⟨C, hC, k69, _⟩ := ctx_pt CtxOk.nil 69 _ _ (Fo.p61 hz hpne (by omega))
    refine FCall.ofAt hC ok81 (by simp) ?_
    rw [hpe] at hzl
    have hrs : rsV pre (some []) = outV 1 (ints pre) := by simp [rsV]
    rw [hrs]
    generalize outV 1 (ints pre) = V at *
    simp [A81, R81, b1, b2, b3, hng, hzl, hWd, hWl, k69]
    exact At.of (SameMem.refl _)
  | cons w ws ih =>
    intro hs pre c left rest use hlen hdrop l1 l2 r1 r2 u1 u2 hb
    have hlt : pre.length < ws0.length := by simp at hlen; omega
    have hpl : pre.length ≤ 6 := by omega
    by_cases hbad : bad left rest use
    · rw [lay_bad hbad]; exact p81b (by omega) (by omega) hbad
    have hz : asI (.sl 1 (ints pre) c) = some pre := asI_sl (by omega)
    have hzl := alen_of hz
    have hWl := alen_of hW
    have hWd := asI_ld hW
    have hng := neg_ok (rest := rest) (by omega) (by omega)
    have b1 : ¬ use < 0 := fun h => hbad (.inl h)
    have b2 : ¬ rest < left := fun h => hbad (.inr (.inl h))
    have b3 : ¬ left < -rest := fun h => hbad (.inr (.inr h))
    have hnl : ¬ pre.length = ws0.length := by omega
    have hnl' : ¬ (pre.length : Int) = (ws0.length : Int) := by omega
    have hdc := List.drop_eq_getElem_cons hlt
    rw [hdrop] at hdc
    injection hdc with hw hws
    have hwb := hbd ws0[pre.length] (List.getElem_mem hlt)
    rw [← hw] at hwb
    have ixw := aidx_nat hW (k := .i64) hlt
    rw [← hw] at ixw
    obtain ⟨C, hC, k82, _⟩ := ctx_pt CtxOk.nil 82 _ _ (Tr.p69 CtxOk.nil hz (.inr trivial))
    have fl : afill [.int .i64 0, .int .i64 0, .int .i64 0] [(0, 1, .int .i64 1), (1, 1, .int .i64 0), (2, 1, .int .i64 (-1))] = some [.int .i64 1, .int .i64 0, .int .i64 (-1)] := rfl
    refine FCall.ofAt hC ok81 (by simp) ?_
    simp [A81, R81, b1, b2, b3, hng, hzl, hWd, hWl, hnl, hnl', ixw, fl]
    refine At.loop (fun (i : Nat) s => i ≤ 3 ∧ (∀ j, j < i → rI w ws left rest use j = none) ∧ s.env 0 = .sl 1 (ints pre) c ∧ s.env 1 = .int .i64 left ∧ s.env 2 = .int .i64 rest ∧ s.env 3 = .int .i64 use ∧ s.env 5 = .ref b 0 ∧ s.env 11 = .int .i64 w ∧ s.env 42 = .agg [.int .i64 1, .int .i64 0, .int .i64 (-1)] ∧ s.env 43 = .int .i64 (i : Int) ∧ SameMem hs s.hs) (fun i => 3 - i) 0 ?_ ?_
    · simp
      exact SameMem.refl _
    rintro N i s hN ⟨hi, hno, e0, e1, e2, e3, e5, e11, e42, e43, hsm⟩
    by_cases hi3 : i < 3
    rotate_left
    · have hi3' : ¬ (i : Int) < 3 := by omega
      have hie : i = 3 := by omega
      rw [lay_no hbad fun j hj => hno j (by omega)]
      simp [e43, hi3, hi3']
      exact At.of ⟨rfl, hsm⟩
    have hi3' : (i : Int) < 3 := by omega
    have wi := wrap_nat1 (show i < _ by omega)
    have hix : aindex 3 false 1 (.agg [.int .i64 1, .int .i64 0, .int .i64 (-1)]) (.int .i64 (i : Int)) = some (.int .i64 (wayN i)) := by
      have hc : i = 0 ∨ i = 1 ∨ i = 2 := by omega
      rcases hc with rfl | rfl | rfl <;> rfl
    obtain ⟨y1, y2, y3⟩ := wayN_bd i
    obtain ⟨m1, m2⟩ := way_mul i w (by omega)
    have hri : rI w ws left rest use i = layF ws (left - wayN i * w) (rest - w) (use - wayN i * wayN i) := rfl
    have hla := fun l => lay_at (w := w) (ws := ws) hbad hi3 hno (l := l)
    obtain ⟨Y, hY⟩ : ∃ Y, Y = wayN i := ⟨_, rfl⟩
    rw [← hY] at hix y1 y2 y3 m1 m2 hri hla
    have hld : aload s.hs.heap false 1 (.ref b 0) = some (.fn (.func 81) [] [.ptr W, .ref b 0]) := ldc (by rw [hsm.heap]; exact hb) rfl
    obtain ⟨hs2, a1, a2, a3, a4, a5⟩ := append_exact (sz := 1) (hs := s.hs) (xs := ints pre) (q := .sl 1 [.int .i64 Y] .exact) (ys := [.int .i64 Y]) (asV_sl (by simp)) (by rw [ints_len]; simp; omega) (by simp)
    have hap : ints pre ++ [AV.int .i64 Y] = ints (pre ++ [Y]) := by simp [ints]
    rw [hap] at a1
    have hcv : clipV (.sl 1 (ints pre) c) = .sl 1 (ints pre) .exact := rfl
    rw [hcv] at k82
    have as1 : astoAll 1 [.int .i64 Y] = true := rfl
    obtain ⟨P, hP⟩ : ∃ P, P = Y * w := ⟨_, rfl⟩
    obtain ⟨Q, hQ⟩ : ∃ Q, Q = Y * Y := ⟨_, rfl⟩
    have w1 : IntKind.i64.wrap (Y * w) = P := by rw [← hP]; exact wrap64 (by omega) (by omega)
    have w2 : IntKind.i64.wrap (left - P) = left - P := wrap64 (by omega) (by omega)
    have w3 : IntKind.i64.wrap (rest - w) = rest - w := wrap64 (by omega) (by omega)
    have w4 : IntKind.i64.wrap (Y * Y) = Q := by rw [← hQ]; exact wrap64 (by omega) (by omega)
    have w5 : IntKind.i64.wrap (use - Q) = use - Q := wrap64 (by omega) (by omega)
    rw [← hP, ← hQ] at hri
    have hpy : (pre ++ [Y]).length = pre.length + 1 := by simp
    have IH := ih (hs := hs2) (pre := pre ++ [Y]) (c := .own s.hs.nt) (left := left - P) (rest := rest - w) (use := use - Q) (by rw [hpy]; simp at hlen; omega) (by rw [hpy]; exact hws.symm) (by rw [hpy]; omega) (by rw [hpy]; omega) (by rw [hpy]; omega) (by omega) (by rw [hpy]; omega) (by omega) (by rw [a3.heap, hsm.heap]; exact hb)
    rw [← hri] at IH
    generalize ints (pre ++ [Y]) = ipy at a1 IH
    simp [e0, e1, e2, e3, e5, e11, e42, e43, hi3, hi3', hix, hld, k82, as1, a1, w1, w2, w3, w4, w5]
    refine At.hc IH ?_ ?_
    rotate_left
    · rintro v hs' ⟨hv, _⟩; cases hv
    rintro v hs' ⟨hv, hsm2⟩
    injection hv with hv; subst hv
    have hsm3 : SameMem hs hs' := (hsm.trans a3).trans hsm2
    cases hrr : rI w ws left rest use i with
    | none =>
      have hnn : abin 2 .neq (rsV (pre ++ [Y]) none) .nilsl = some (.bool false) := rfl
      simp [hnn, e43, wi]
      exact hN (i + 1) _ (by omega) ⟨by omega, fun j hj => by
        rcases Nat.lt_or_ge j i with h | h
        · exact hno j h
        · rw [show j = i by omega]; exact hrr, by simp [e0], by simp [e1], by simp [e2], by simp [e3], by simp [e5], by simp [e11], by simp [e42], by simp, hsm3⟩
    | some l =>
      rw [hla l hrr]
      have hv : rsV (pre ++ [Y]) (some l) = rsV pre (some (Y :: l)) := by simp [rsV]
      have hout : rsV pre (some (Y :: l)) = .sl 1 (ints (pre ++ Y :: l)) .shared := by
        show outV 1 (ints (pre ++ Y :: l)) = _
        exact outV_ne (by simp [ints])
      rw [hv, hout]
      have hnn : abin 2 .neq (.sl 1 (ints (pre ++ Y :: l)) .shared) .nilsl = some (.bool true) := rfl
      simp [hnn]
      exact At.of hsm3
end Go.Proofs.YtdcpkgedaflnmaaGreatDoor.We
set_option linter.unusedVariables false
set_option linter.unusedSimpArgs false
namespace Go.Proofs.YtdcpkgedaflnmaaGreatDoor.We
open Go Fw Se Sn

theorem p86 (lo n hi : Int) : PCall Tryz.prog 86 [.int .i64 lo, .int .i64 n, .int .i64 hi] (.bool (btw lo n hi)) := by
  refine PCall.of CtxOk.nil ok86 (by simp) rfl fun hs hb => ?_
  simp [A86, R86]
  refine At.dec (fun h => ?_) (fun h => ?_) <;> simp [h, btw]
theorem SB86 : ∀ a r, SB a = some r → PCall Tryz.prog 86 a r := by
  intro a r e
  unfold SB at e
  split at e <;> (try (cases e; done))
  injection e with e; subst e; exact p86 _ _ _
def E3 : PCtx := PCtx.nil.add 86 SB
theorem E3ok : CtxOk Tryz.prog E3 := CtxOk.nil.add SB86
@[simp] theorem E3_86 : E3 86 = SB := id rfl
/-- weights -/
structure WsOk (ws : List Int) : Prop where
  ne : 1 ≤ ws.length
  le : ws.length ≤ 7
  bd : ∀ a ∈ ws, 1 ≤ a ∧ a ≤ 2000
  asc : ws.Pairwise (· ≤ ·)
instance (ws : List Int) : Decidable (WsOk ws) := if h : 1 ≤ ws.length ∧ ws.length ≤ 7 ∧ (∀ a ∈ ws, 1 ≤ a ∧ a ≤ 2000) ∧ ws.Pairwise (· ≤ ·) then .isTrue ⟨h.1, h.2.1, h.2.2.1, h.2.2.2⟩ else .isFalse fun g => h ⟨g.1, g.2, g.3, g.4⟩
theorem pw_ok : ∀ k < 8, 1 ≤ k → WsOk (pw k 1) := by decide
theorem p80 {x : AV} {ws : List Int} (hx : asI x = some ws) (g : WsOk ws) : PCall Tryz.prog 80 [x] (.int .i64 0) := by
  have hl := alen_of hx
  have c1 : ¬ (ws.length : Int) = 0 := by have := g.ne; omega
  have c1' : ¬ ws.length = 0 := by have := g.ne; omega
  have c1'' : ¬ ws = [] := fun e => c1' (by rw [e]; rfl)
  have c2 : ¬ (7 : Int) < (ws.length : Int) := by have := g.le; omega
  have c2' : ¬ 7 < ws.length := by have := g.le; omega
  refine PCall.of E3ok ok80 (by simp) rfl fun hs hb => ?_
  simp [A80, R80, hl, c1, c1', c1'', c2, c2']
  refine At.loop (fun (i : Nat) s => i ≤ ws.length ∧ s.env 3 = .int .i64 (if i = 0 then 0 else gI ws (i - 1)) ∧ s.env 14 = x ∧ s.env 15 = .int .i64 (ws.length : Int) ∧ s.env 16 = .int .i64 (i : Int)) (fun i => ws.length - i) 0 ?_ ?_
  · simp
  rintro N i s hN ⟨hi, e3, e14, e15, e16⟩
  by_cases hlt : i < ws.length
  · have hlt' : (i : Int) < (ws.length : Int) := by omega
    have wi := wrap_nat1 (show i < _ by have := g.le; omega)
    have ix := idx_g hx (k := .i64) hlt
    have hbd := g.bd (gI ws i) (by rw [gI_of hlt]; exact List.getElem_mem _)
    have b1 : btw 1 (gI ws i) 2000 = true := btw_iff.2 ⟨hbd.1, hbd.2⟩
    obtain ⟨P, hP⟩ : ∃ P, P = (if i = 0 then 0 else gI ws (i - 1)) := ⟨_, rfl⟩
    have hlast : ¬ gI ws i < P := by
      rw [hP]
      by_cases h0 : i = 0
      · rw [if_pos h0]; omega
      · rw [if_neg h0]
        have := List.pairwise_iff_getElem.1 g.asc (i - 1) i (by omega) hlt (by omega)
        rw [gI_of hlt, gI_of (show i - 1 < ws.length by omega)]
        omega
    rw [← hP] at e3
    simp [e3, e14, e15, e16, hlt, hlt', ix, b1, hlast, wi]
    exact hN (i + 1) _ (by omega) ⟨by omega, by simp, by simp [e14], by simp [e15], by simp⟩
  · have hlt' : ¬ (i : Int) < (ws.length : Int) := by omega
    simp [e15, e16, hlt, hlt']
theorem sum_take {ws : List Int} {i : Nat} (h : i < ws.length) : sumL (ws.take (i + 1)) = sumL (ws.take i) + gI ws i := by
  rw [take_snoc h, gI_of h]
  unfold sumL
  rw [List.foldr_append]
  have : ∀ (l : List Int) (a : Int), l.foldr (· + ·) a = l.foldr (· + ·) 0 + a := by
    intro l
    induction l with
    | nil => intro a; simp
    | cons x l ih => intro a; simp only [List.foldr_cons]; rw [ih a]; omega
  rw [this]
  simp
theorem sum_bd {ws : List Int} (h : ∀ a ∈ ws, 1 ≤ a ∧ a ≤ 2000) : 0 ≤ sumL ws ∧ sumL ws ≤ 2000 * ws.length := by
  induction ws with
  | nil => simp [sumL]
  | cons a l ih =>
    have h1 := h a (by simp)
    have h2 := ih fun x hx => h x (by simp [hx])
    simp only [sumL, List.foldr_cons, List.length_cons] at h2 ⊢
    omega
/-- what Lay returns -/
def layV : Option (List Int) → AV
  | none => .tup [.nilsl, .int .i64 14]
  | some l => .tup [outV 1 (ints l), .int .i64 0]
theorem layV_plain (o : Option (List Int)) : (layV o).plain = true := by
  cases o with
  | none => rfl
  | some l => simp [layV, AV.plain, plainL, outI_plain]
theorem fs_at {α : Type} {f : Nat → Option α} : ∀ {n u : Nat} {l : α}, u < n → (∀ v, v < u → f v = none) → f u = some l → (List.range n).findSome? f = some l
  | n + 1, u, l, hu, hn, h => by
    rw [List.range_succ, List.findSome?_append]
    by_cases h' : u < n
    · rw [fs_at h' hn h]; rfl
    · have : u = n := by omega
      subst this
      have : (List.range u).findSome? f = none := List.findSome?_eq_none_iff.2 fun v hv => hn v (List.mem_range.1 hv)
      rw [this]
      simp [h]
set_option maxHeartbeats 2000000 in
theorem p33 {x : AV} {ws : List Int} (hx : asI x = some ws) (g : WsOk ws) {load : Int} (h1 : -10000000 ≤ load) (h2 : load ≤ 10000000) : PCall Tryz.prog 33 [x, .int .i64 load] (layV (layA ws load)) := by
  have hl := alen_of hx
  have hxs := asI_sto hx
  have hxd := asI_ld hx
  have hle := g.le
  have hne : ws ≠ [] := fun e => by have := g.ne; rw [e] at this; simp at this
  obtain ⟨C, hC, k80, _⟩ := ctx_pt CtxOk.nil 80 _ _ (p80 hx g)
  have hsb := sum_bd g.bd
  refine PCall.of hC ok33 (by simp) (layV_plain _) fun hs hb => ?_
  obtain ⟨q, hq⟩ : ∃ q, hs.nh = q := ⟨_, rfl⟩
  simp only [A33, R33]
  rw [At.awp_seq]
  simp [hxs, -At.awp_seq]
  rw [At.awp_seq, At.awp_seq]
  simp [hxd, k80, -At.awp_seq]
  rw [At.awp_seq]
  simp [-At.awp_seq]
  rw [At.awp_seq]
  simp [-At.awp_seq]
  rw [At.awp_seq]
  refine At.cut (fun s => s.env 1 = .int .i64 load ∧ s.env 2 = .ptr x ∧ s.env 7 = .int .i64 (sumL ws)) ?_ ?_
  · rw [At.awp_seq]
    simp [hxd, hl, -At.awp_seq]
    refine At.loop (fun (i : Nat) s => i ≤ ws.length ∧ s.env 1 = .int .i64 load ∧ s.env 2 = .ptr x ∧ s.env 7 = .int .i64 (sumL (ws.take i)) ∧ s.env 18 = x ∧ s.env 19 = .int .i64 (ws.length : Int) ∧ s.env 20 = .int .i64 (i : Int)) (fun i => ws.length - i) 0 ?_ ?_
    · simp [sumL]
    rintro N i s hN ⟨hi, e1, e2, e7, e18, e19, e20⟩
    by_cases hlt : i < ws.length
    · have hlt' : (i : Int) < (ws.length : Int) := by omega
      have wi := wrap_nat1 (show i < _ by omega)
      have ix := idx_g hx (k := .i64) hlt
      have hst := sum_take hlt
      have hsb2 := sum_bd (ws := ws.take (i + 1)) fun a ha => g.bd a (List.mem_of_mem_take ha)
      have hlen2 : (ws.take (i + 1)).length ≤ 7 := by rw [List.length_take]; omega
      have w1 : IntKind.i64.wrap (sumL (ws.take i) + gI ws i) = sumL (ws.take (i + 1)) := by rw [← hst]; exact wrap64 (by omega) (by omega)
      generalize hS2 : sumL (ws.take (i + 1)) = S2 at *
      generalize sumL (ws.take i) = S1 at *
      simp [e7, e18, e19, e20, hlt, hlt', ix, w1, wi]
      exact hN (i + 1) _ (by omega) ⟨by omega, by simp [e1], by simp [e2], by simp [hS2], by simp [e18], by simp [e19], by simp⟩
    · have hlt' : ¬ (i : Int) < (ws.length : Int) := by omega
      have hie : i = ws.length := by omega
      rw [hie, List.take_length] at e7
      simp [e1, e2, e7, e19, e20, hlt, hlt']
  · rintro s ⟨e1, e2, e7⟩
    obtain ⟨q, hq⟩ : ∃ q, s.hs.nh = q := ⟨_, rfl⟩
    obtain ⟨H1, hH1⟩ : ∃ H1 : Nat → Option (List AV), (fun i => if i = q then some [AV.nilfn] else s.hs.heap i) = H1 := ⟨_, rfl⟩
    have g1 : H1 q = some [.nilfn] := by rw [← hH1]; simp
    have st := store_cell (v := .fn (.func 81) [] [.ptr x, .ref q 0]) (o := 0) g1 (by simp) rfl
    simp only [List.set_cons_zero] at st
    obtain ⟨H2, hH2⟩ : ∃ H2 : Nat → Option (List AV), (fun k => if k = q then some [AV.fn (.func 81) [] [.ptr x, .ref q 0]] else H1 k) = H2 := ⟨_, rfl⟩
    have g2 : H2 q = some [.fn (.func 81) [] [.ptr x, .ref q 0]] := by rw [← hH2]; simp
    rw [hH2] at st
    have wl : IntKind.i64.wrap ((ws.length : Int) + 1) = ((ws.length + 1 : Nat) : Int) := by rw [show (ws.length : Int) + 1 = ((ws.length + 1 : Nat) : Int) by omega]; exact wrap64 (by omega) (by omega)
    obtain ⟨n1, hn1⟩ : ∃ n1, n1 = ws.length + 1 := ⟨_, rfl⟩
    rw [← hn1] at wl
    rw [At.awp_seq]
    simp [hq, hH1, -At.awp_seq]
    rw [At.awp_seq]
    simp [e2, hq, hH1, st, -At.awp_seq]
    rw [At.awp_seq, At.awp_seq]
    simp [e2, hxd, hl, wl, -At.awp_seq]
    refine At.loop (fun (u : Nat) s => u ≤ n1 ∧ (∀ v : Nat, v < u → layF ws load (sumL ws) (v : Int) = none) ∧ s.env 1 = .int .i64 load ∧ s.env 7 = .int .i64 (sumL ws) ∧ s.env 10 = .ref q 0 ∧ s.env 31 = .int .i64 (n1 : Int) ∧ s.env 32 = .int .i64 (u : Int) ∧ s.hs.heap q = some [.fn (.func 81) [] [.ptr x, .ref q 0]]) (fun u => n1 - u) 0 ?_ ?_
    · simp [e1, e7, g2]
    rintro N u s hN ⟨hu, hno, e1, e7, e10, e31, e32, hh⟩
    by_cases hlt : u < n1
    rotate_left
    · have hlt' : ¬ (u : Int) < (n1 : Int) := by omega
      have hr : layA ws load = none := List.findSome?_eq_none_iff.2 fun v hv => hno v (by have := List.mem_range.1 hv; omega)
      rw [hr]
      simp [e31, e32, hlt, hlt', layV]
    have hlt' : (u : Int) < (n1 : Int) := by omega
    have wu := wrap_nat1 (show u < _ by omega)
    have hld : aload s.hs.heap false 1 (.ref q 0) = some (.fn (.func 81) [] [.ptr x, .ref q 0]) := ldc hh rfl
    have hF := p81 (W := x) hx hne hle g.bd (b := q) ws (hs := s.hs) (pre := []) (c := .exact) (left := load) (rest := sumL ws) (use := (u : Int)) (by simp) (by simp) (by simp only [List.length_nil]; omega) (by simp only [List.length_nil]; omega) (by simp only [List.length_nil]; omega) (by omega) (by simp only [List.length_nil]; omega) (by omega) hh
    have hi0 : ints ([] : List Int) = [] := rfl
    rw [hi0] at hF
    have as0 : astoAll 1 [] = true := rfl
    simp [e1, e7, e10, e31, e32, hlt, hlt', hld, as0]
    refine At.hc hF ?_ ?_
    rotate_left
    · rintro v hs' ⟨hv, _⟩; cases hv
    rintro v hs' ⟨hv, hsm⟩
    injection hv with hv; subst hv
    cases hrr : layF ws load (sumL ws) (u : Int) with
    | none =>
      have hnn : abin 2 .neq (rsV [] none) .nilsl = some (.bool false) := rfl
      simp [hnn, e32, wu]
      exact hN (u + 1) _ (by omega) ⟨by omega, fun v hv => by
        rcases Nat.lt_or_ge v u with h | h
        · exact hno v h
        · rw [show v = u by omega]; exact hrr, by simp [e1], by simp [e7], by simp [e10], by simp [e31], by simp, by rw [← hsm.heap] at hh; exact hh⟩
    | some l =>
      have hr : layA ws load = some l := fs_at (by omega) hno hrr
      have hll : l ≠ [] := fun e => by
        have := (lay_sound hrr).1
        rw [e] at this
        have := g.ne
        simp at *
        omega
      have hv : rsV [] (some l) = .sl 1 (ints l) .shared := by
        show outV 1 (ints ([] ++ l)) = _
        rw [List.nil_append]
        exact outV_ne (by simpa [ints] using hll)
      have hnn : abin 2 .neq (.sl 1 (ints l) .shared) .nilsl = some (.bool true) := rfl
      rw [hr, hv]
      have hlv : layV (some l) = .tup [.sl 1 (ints l) .shared, .int .i64 0] := by
        simp only [layV]
        rw [outV_ne (by simpa [ints] using hll)]
      rw [hlv]
      simp [hnn]
end Go.Proofs.YtdcpkgedaflnmaaGreatDoor.We
set_option linter.unusedVariables false
set_option linter.unusedSimpArgs false
namespace Go.Proofs.YtdcpkgedaflnmaaGreatDoor.We
open Go Fw Se Sn

theorem pw_snoc : ∀ (j : Nat) (c : Int), pw (j + 1) c = pw j c ++ [c * 3 ^ j]
  | 0, c => by simp [pw]
  | j + 1, c => by
    have := pw_snoc j (3 * c)
    rw [pw, this, pw, List.cons_append]
    congr 3
    rw [Int.pow_succ, Int.mul_comm 3 c, Int.mul_assoc, Int.mul_comm 3]
theorem hf_mono {j k : Nat} (h : j ≤ k) : hf j ≤ hf k := by
  have h1 := hf_pow j
  have h2 := hf_pow k
  have := Nat.pow_le_pow_right (n := 3) (by decide) h
  omega
theorem p83 {k : Nat} (hk : k ≤ 7) {load : Int} (h1 : 1 ≤ load) (h2 : load ≤ hf k) : ∃ j, j ≤ k ∧ PCall Tryz.prog 83 [.int .i64 load] (.tup [outV 1 (ints (pw j 1)), .int .i64 0]) := by
  have hex : ∃ j, load ≤ (hf j : Int) ∧ j ≤ k ∧ ∀ i, i < j → (hf i : Int) < load := by
    have : ∀ n, ∀ j, j ≤ n → load ≤ (hf j : Int) → j ≤ k → ∃ j, load ≤ (hf j : Int) ∧ j ≤ k ∧ ∀ i, i < j → (hf i : Int) < load := by
      intro n
      induction n with
      | zero => intro j hj h a; exact ⟨j, h, a, fun i hi => by omega⟩
      | succ n ih =>
        intro j hj h a
        by_cases hh : ∃ i, i < j ∧ load ≤ (hf i : Int)
        · obtain ⟨i, hi, hl⟩ := hh
          exact ih i (by omega) hl (by omega)
        · exact ⟨j, h, a, fun i hi => by
            rcases Int.lt_or_le (hf i : Int) load with h' | h'
            · exact h'
            · exact absurd ⟨i, hi, h'⟩ hh⟩
    exact this k k (Nat.le_refl _) h2 (Nat.le_refl _)
  obtain ⟨j0, g1, g2, g3⟩ := hex
  refine ⟨j0, g2, ?_⟩
  have h7 : hf k ≤ 1093 := hf_mono hk
  have b1 : btw 1 load 1093 = true := btw_iff.2 ⟨h1, by omega⟩
  refine PCall.of E3ok ok83 (by simp) (by simp [AV.plain, plainL, outI_plain]) fun hs hb => ?_
  simp [A83, R83, b1]
  refine At.loop (fun (j : Nat) s => j ≤ j0 ∧ s.env 0 = .int .i64 load ∧ Outs 1 s.hs (s.env 4) (ints (pw j 1)) ∧ s.env 5 = .int .i64 (hf j : Int) ∧ s.env 6 = .int .i64 ((3 ^ j : Nat) : Int)) (fun j => j0 - j) 0 ?_ ?_
  · simp [hf, pw]
    exact Outs.nil
  rintro N j s hN ⟨hj, e0, e4, e5, e6⟩
  by_cases hjj : j < j0
  · have hlt := g3 j hjj
    have hp := hf_pow j
    have hp1 : hf (j + 1) = hf j + 3 ^ j := by rw [hf]; omega
    have hm := hf_mono (show j ≤ 7 by omega)
    have h1093 : hf 7 = 1093 := rfl
    have hsn := pw_snoc j 1
    rw [Int.one_mul] at hsn
    obtain ⟨T, hT⟩ : ∃ T : Nat, T = 3 ^ j := ⟨_, rfl⟩
    have hTi : (3 : Int) ^ j = (T : Int) := by rw [hT]; norm_cast
    rw [hTi] at hsn
    rw [← hT] at e6 hp hp1
    have hT3 : 3 ^ (j + 1) = 3 * T := by rw [Nat.pow_succ, hT, Nat.mul_comm]
    have w1 : IntKind.i64.wrap ((hf j : Int) + (T : Int)) = (hf (j + 1) : Int) := by rw [hp1]; rw [show (hf j : Int) + (T : Int) = ((hf j + T : Nat) : Int) by omega]; exact wrap64 (by omega) (by omega)
    have w2 : IntKind.i64.wrap ((T : Int) * 3) = ((3 ^ (j + 1) : Nat) : Int) := by rw [hT3, show (T : Int) * 3 = ((3 * T : Nat) : Int) by omega]; exact wrap64 (by omega) (by omega)
    obtain ⟨T2, hT2⟩ : ∃ T2 : Nat, T2 = 3 ^ (j + 1) := ⟨_, rfl⟩
    rw [← hT2] at w2
    obtain ⟨z, hz⟩ : ∃ z, s.env 4 = z := ⟨_, rfl⟩
    rw [hz] at e4
    have hpl := pw_len j 1
    obtain ⟨z2, hs2, a1, a2, a3⟩ := e4.add1 (by omega) (T : Int)
    rw [← hsn] at a2
    have as1 : astoAll 1 [.int .i64 (T : Int)] = true := rfl
    generalize hF2 : hf (j + 1) = F2 at *
    generalize hf j = F1 at *
    simp [e0, e5, e6, hz, hlt, as1, a1, w1, w2]
    exact hN (j + 1) _ (by omega) ⟨by omega, by simp [e0], by simpa using a2, by simp [hF2], by simp [hT2]⟩
  · have : j = j0 := by omega
    subst this
    have hlt : ¬ (hf j : Int) < load := by omega
    simp [e0, e5, hlt]
    exact e4.sh
theorem p34 {k : Nat} (hk : k ≤ 7) {load : Int} (h1 : 1 ≤ load) (h2 : load ≤ hf k) : ∃ j : Nat, j ≤ k ∧ PCall Tryz.prog 34 [.int .i64 load] (.tup [.int .i64 (j : Int), .int .i64 0]) := by
  obtain ⟨j, hj, h83⟩ := p83 hk h1 h2
  refine ⟨j, hj, ?_⟩
  obtain ⟨C, hC, k83, _⟩ := ctx_pt CtxOk.nil 83 _ _ h83
  have hoi := asI_outV (l := pw j 1) (by rw [pw_len]; omega)
  have hol := alen_of hoi
  rw [pw_len] at hol
  generalize outV 1 (ints (pw j 1)) = z at *
  refine PCall.of hC ok34 (by simp) rfl fun hs hb => ?_
  simp [A34, R34, k83, hol]
theorem p85 {c : Int} (hc : -1 ≤ c ∧ c ≤ 1) (hs : HS) : FCall Tryz.prog 85 [.int .i64 c] hs fun e hs' => e = .ret (.bool false) ∧ hs' = hs := by
  have b1 : btw (-1) c 1 = true := btw_iff.2 hc
  refine FCall.ofAt E3ok ok85 (by simp) ?_
  simp [A85, R85, b1]
theorem dot_take {l ws : List Int} {i : Nat} (h : i < l.length) (h' : i < ws.length) : dot (l.take (i + 1)) (ws.take (i + 1)) = dot (l.take i) (ws.take i) + gI l i * gI ws i := by
  induction l generalizing ws i with
  | nil => simp at h
  | cons a l ih =>
    cases ws with
    | nil => simp at h'
    | cons w ws =>
      cases i with
      | zero => simp [dot, gI]
      | succ i =>
        have := ih (ws := ws) (i := i) (by simpa using h) (by simpa using h')
        simp only [List.take_succ_cons, dot] at this ⊢
        rw [this]
        have e1 : gI (a :: l) (i + 1) = gI l i := rfl
        have e2 : gI (w :: ws) (i + 1) = gI ws i := rfl
        rw [e1, e2]
        omega
theorem dig_bd {l : List Int} (h : Dig l) : ∀ a ∈ l, -1 ≤ a ∧ a ≤ 1 := fun a ha => by rcases h a ha with rfl | rfl | rfl <;> omega
theorem p35 {x y : AV} {ws l : List Int} (hx : asI x = some ws) (g : WsOk ws) (hy : asI y = some l) (hl : l.length = ws.length) (hd : Dig l) {load : Int} (hload : dot l ws = load) : PCall Tryz.prog 35 [x, y, .int .i64 load] (.int .i64 0) := by
  have hxl := alen_of hx
  have hyl := alen_of hy
  have hle := g.le
  rw [hl] at hyl
  obtain ⟨C, hC, k80, _⟩ := ctx_pt CtxOk.nil 80 _ _ (p80 hx g)
  have hbnd : ∀ i, i ≤ ws.length → -100000 ≤ dot (l.take i) (ws.take i) ∧ dot (l.take i) (ws.take i) ≤ 100000 := fun i hi => by
    have h1 := dot_bd (ws := ws.take i) (l := l.take i) (fun w hw => by have := g.bd w (List.mem_of_mem_take hw); omega) (fun a ha => hd a (List.mem_of_mem_take ha)) (by rw [List.length_take, List.length_take, hl])
    have h2 := sum_bd (ws := ws.take i) fun a ha => g.bd a (List.mem_of_mem_take ha)
    have h3 : (ws.take i).length ≤ 7 := by rw [List.length_take]; omega
    omega
  have hlb := hbnd ws.length (Nat.le_refl _)
  rw [List.take_length, ← hl, List.take_length, hload] at hlb
  refine PCall.of hC ok35 (by simp) rfl fun hs hb => ?_
  have cb : ∀ hs : HS, Cbk (.fn (.func 85) [] []) (ints l) (fun _ => false) hs := fun hs => by
    refine ⟨85, [], [], rfl, fun j hj => ?_⟩
    have hj' : j < l.length := by simpa [ints] using hj
    have e : (ints l)[j] = .int .i64 l[j] := by simp [ints]
    rw [e]
    exact p85 (dig_bd hd _ (List.getElem_mem _)) hs
  simp [A35, R35, k80, hxl, hyl]
  refine At.hc (p70 (Lst.of hy) (cb _)) ?_ ?_
  rotate_left
  · rintro v hs' ⟨hv, _⟩; cases hv
  rintro v hs' ⟨hv, rfl⟩
  injection hv with hv; subst hv
  rw [any_none fun _ _ => rfl]
  simp [hyl]
  refine At.loop (fun (i : Nat) s => i ≤ ws.length ∧ s.env 0 = x ∧ s.env 2 = .int .i64 (load - dot (l.take i) (ws.take i)) ∧ s.env 26 = y ∧ s.env 27 = .int .i64 (ws.length : Int) ∧ s.env 28 = .int .i64 (i : Int)) (fun i => ws.length - i) 0 ?_ ?_
  · simp [dot]
  rintro N i s hN ⟨hi, e0, e2, e26, e27, e28⟩
  by_cases hlt : i < ws.length
  · have hlt' : (i : Int) < (ws.length : Int) := by omega
    have wi := wrap_nat1 (show i < _ by omega)
    have ix := idx_g hx (k := .i64) hlt
    have iy := idx_g hy (k := .i64) (show i < l.length by omega)
    have hst := dot_take (l := l) (ws := ws) (i := i) (by omega) hlt
    have h1 := hbnd i hi
    have h2 := hbnd (i + 1) hlt
    obtain ⟨P, hP⟩ : ∃ P, P = gI l i * gI ws i := ⟨_, rfl⟩
    rw [← hP] at hst
    have w1 : IntKind.i64.wrap (gI l i * gI ws i) = P := by rw [← hP]; exact wrap64 (by omega) (by omega)
    have w2 : IntKind.i64.wrap (load - dot (l.take i) (ws.take i) - P) = load - dot (l.take (i + 1)) (ws.take (i + 1)) := by rw [hst, show load - dot (l.take i) (ws.take i) - P = load - (dot (l.take i) (ws.take i) + P) by omega]; exact wrap64 (by omega) (by omega)
    generalize hD2 : dot (l.take (i + 1)) (ws.take (i + 1)) = D2 at *
    generalize dot (l.take i) (ws.take i) = D1 at *
    simp [e0, e2, e26, e27, e28, hlt, hlt', ix, iy, w1, w2, wi]
    exact hN (i + 1) _ (by omega) ⟨by omega, by simp [e0], by simp [hD2], by simp [e26], by simp [e27], by simp⟩
  · have hlt' : ¬ (i : Int) < (ws.length : Int) := by omega
    have hie : i = ws.length := by omega
    rw [hie, List.take_length, ← hl, List.take_length, hload, Int.sub_self] at e2
    simp [e2, e27, e28, hlt, hlt']
end Go.Proofs.YtdcpkgedaflnmaaGreatDoor.We
