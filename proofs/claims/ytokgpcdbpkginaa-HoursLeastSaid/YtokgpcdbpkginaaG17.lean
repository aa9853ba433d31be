/-
  HoursLeast: the plain law, tried in the kernel. Own work.
  HoursLeast: the shortest length of a small work, tried in the kernel. Own work.
-/
import Derived.Test.YtokgpcdbpkginaaG5
set_option linter.unusedVariables false
set_option linter.unusedSimpArgs false
namespace Go.Proofs.Ytokgpcdbpkginaa
open Go Fw

/-- the greatest bound, of six numbers -/
def g6 (s : Nat) (v : Nat → Nat) : Nat :=
  max (max (v 0 + v 1 + v 2) (v 3 + v 4 + v 5)) (max (max (v 0 + v 3) (max (v 1 + v 4) (v 2 + v 5))) ((v 0 + v 1 + v 2 + v 3 + v 4 + v 5 + s - 1) / s))
def v6 (a b c d e f : Nat) (j : Nat) : Nat := if j = 0 then a else if j = 1 then b else if j = 2 then c else if j = 3 then d else if j = 4 then e else if j = 5 then f else 0
/-- that a step can be done: artist 0 at i - 1, artist 1 at j - 1 -/
def okN (s : Nat) (v : Nat → Nat) (i j : Nat) : Bool := !(i == j) && (i == 0 || v (i - 1) != 0) && (j == 0 || v (3 + (j - 1)) != 0) && (i == 0 || j == 0 || 2 ≤ s)
def nxN (v : Nat → Nat) (i j : Nat) (t : Nat) : Nat := v t - (if i ≠ 0 ∧ t = i - 1 then 1 else 0) - (if j ≠ 0 ∧ t = 3 + (j - 1) then 1 else 0)
def acc (s : Nat) (v : Nat → Nat) : Nat → Nat
  | 0 => 1000
  | k + 1 => if okN s v (k / 4) (k % 4) = true then min (acc s v k) (1 + g6 s (nxN v (k / 4) (k % 4))) else acc s v k
def all3 (p : Nat → Bool) : Bool := p 0 && p 1 && p 2
theorem all3_spec {p : Nat → Bool} (h : all3 p = true) {a : Nat} (ha : a < 3) : p a = true := by
  simp only [all3, Bool.and_eq_true] at h
  have : a = 0 ∨ a = 1 ∨ a = 2 := by omega
  rcases this with rfl | rfl | rfl
  · exact h.1.1
  · exact h.1.2
  · exact h.2
def z6 (v : Nat → Nat) : Bool := v 0 == 0 && v 1 == 0 && v 2 == 0 && v 3 == 0 && v 4 == 0 && v 5 == 0
def chk6 (s : Nat) (v : Nat → Nat) : Bool := if z6 v then g6 s v == 0 else acc s v 16 == g6 s v
def chkA (s : Nat) : Bool := all3 fun a => all3 fun b => all3 fun c => all3 fun d => all3 fun e => all3 fun f => chk6 s (v6 a b c d e f)
set_option maxRecDepth 100000 in
theorem chkA1 : chkA 1 = true := by decide +kernel
set_option maxRecDepth 100000 in
theorem chkA2 : chkA 2 = true := by decide +kernel
set_option maxRecDepth 100000 in
theorem chkA3 : chkA 3 = true := by decide +kernel
set_option maxRecDepth 100000 in
theorem chkA4 : chkA 4 = true := by decide +kernel
set_option maxRecDepth 100000 in
theorem chkA5 : chkA 5 = true := by decide +kernel
end Go.Proofs.Ytokgpcdbpkginaa
set_option linter.unusedVariables false
set_option linter.unusedSimpArgs false
namespace Go.Proofs.Ytokgpcdbpkginaa
open Go Fw

def smM (R C : Nat) (h : Nat → Nat) : List (List Int) := (List.range R).map fun i => (List.range C).map fun k => ((h (3 * i + k) : Nat) : Int)
def lfN (R C : Nat) (h : Nat → Nat) (t : Nat) : Nat := if t / 3 < R ∧ t % 3 < C then h t else 0
def chS (s R C : Nat) (h : Nat → Nat) : Bool := short (smM R C h) (s : Int) == (g6 s (lfN R C h) : Int)
def chkB (s : Nat) : Bool :=
  (all3 fun a => chS s 1 1 (v6 a 0 0 0 0 0)) && (all3 fun a => all3 fun b => chS s 1 2 (v6 a b 0 0 0 0)) && (all3 fun a => all3 fun b => all3 fun c => chS s 1 3 (v6 a b c 0 0 0)) &&
  (all3 fun a => all3 fun d => chS s 2 1 (v6 a 0 0 d 0 0)) && (all3 fun a => all3 fun b => all3 fun d => all3 fun e => chS s 2 2 (v6 a b 0 d e 0)) &&
  (all3 fun a => all3 fun b => all3 fun c => all3 fun d => all3 fun e => all3 fun f => chS s 2 3 (v6 a b c d e f))
set_option maxRecDepth 100000 in
theorem chkB1 : chkB 1 = true := by decide +kernel
set_option maxRecDepth 100000 in
theorem chkB2 : chkB 2 = true := by decide +kernel
set_option maxRecDepth 100000 in
theorem chkB3 : chkB 3 = true := by decide +kernel
set_option maxRecDepth 100000 in
theorem chkB4 : chkB 4 = true := by decide +kernel
set_option maxRecDepth 100000 in
theorem chkB5 : chkB 5 = true := by decide +kernel
theorem chA {s : Nat} (hs : 1 ≤ s ∧ s ≤ 5) : chkA s = true := by
  have : s = 1 ∨ s = 2 ∨ s = 3 ∨ s = 4 ∨ s = 5 := by omega
  rcases this with rfl | rfl | rfl | rfl | rfl
  · exact chkA1
  · exact chkA2
  · exact chkA3
  · exact chkA4
  · exact chkA5
theorem chB {s : Nat} (hs : 1 ≤ s ∧ s ≤ 5) : chkB s = true := by
  have : s = 1 ∨ s = 2 ∨ s = 3 ∨ s = 4 ∨ s = 5 := by omega
  rcases this with rfl | rfl | rfl | rfl | rfl
  · exact chkB1
  · exact chkB2
  · exact chkB3
  · exact chkB4
  · exact chkB5
/-! from the numbers alone to any reading -/
theorem v6_is (v : Nat → Nat) {t : Nat} (ht : t < 6) : v6 (v 0) (v 1) (v 2) (v 3) (v 4) (v 5) t = v t := by
  have : t = 0 ∨ t = 1 ∨ t = 2 ∨ t = 3 ∨ t = 4 ∨ t = 5 := by omega
  rcases this with rfl | rfl | rfl | rfl | rfl | rfl <;> rfl
theorem g6_cong {s : Nat} {v w : Nat → Nat} (h : ∀ t, t < 6 → v t = w t) : g6 s v = g6 s w := by
  unfold g6
  rw [h 0 (by omega), h 1 (by omega), h 2 (by omega), h 3 (by omega), h 4 (by omega), h 5 (by omega)]
theorem z6_cong {v w : Nat → Nat} (h : ∀ t, t < 6 → v t = w t) : z6 v = z6 w := by
  unfold z6
  rw [h 0 (by omega), h 1 (by omega), h 2 (by omega), h 3 (by omega), h 4 (by omega), h 5 (by omega)]
theorem acc_cong {s : Nat} {v w : Nat → Nat} (h : ∀ t, t < 6 → v t = w t) : ∀ k, k ≤ 16 → acc s v k = acc s w k
  | 0, _ => rfl
  | k + 1, hk => by
    have ih := acc_cong (s := s) h k (by omega)
    have h4 : k / 4 < 4 := by omega
    have h5 : k % 4 < 4 := by omega
    have e1 : okN s v (k / 4) (k % 4) = okN s w (k / 4) (k % 4) := by
      unfold okN
      rw [h (k / 4 - 1) (by omega), h (3 + (k % 4 - 1)) (by omega)]
    have e2 : g6 s (nxN v (k / 4) (k % 4)) = g6 s (nxN w (k / 4) (k % 4)) := g6_cong fun t ht => by unfold nxN; rw [h t ht]
    rw [acc, acc, ih, e1, e2]
theorem chk_v {s : Nat} (hs : 1 ≤ s ∧ s ≤ 5) {v : Nat → Nat} (hv : ∀ t, t < 6 → v t < 3) : chk6 s v = true := by
  have h := chA hs
  have h1 := all3_spec (all3_spec (all3_spec (all3_spec (all3_spec (all3_spec h (hv 0 (by omega))) (hv 1 (by omega))) (hv 2 (by omega))) (hv 3 (by omega))) (hv 4 (by omega))) (hv 5 (by omega))
  have hc : ∀ t, t < 6 → v6 (v 0) (v 1) (v 2) (v 3) (v 4) (v 5) t = v t := fun t ht => v6_is v ht
  unfold chk6 at h1 ⊢
  rw [z6_cong hc, g6_cong hc, acc_cong hc 16 (by omega)] at h1
  exact h1
theorem least_zero {s : Nat} (hs : 1 ≤ s ∧ s ≤ 5) {v : Nat → Nat} (hv : ∀ t, t < 6 → v t < 3) (hz : z6 v = true) : g6 s v = 0 := by
  have := chk_v hs hv
  unfold chk6 at this
  rw [if_pos hz] at this
  simpa using this
theorem least_acc {s : Nat} (hs : 1 ≤ s ∧ s ≤ 5) {v : Nat → Nat} (hv : ∀ t, t < 6 → v t < 3) (hz : z6 v = false) : acc s v 16 = g6 s v := by
  have := chk_v hs hv
  unfold chk6 at this
  rw [if_neg (by simp [hz])] at this
  simpa using this
theorem smM_cong {R C : Nat} {h w : Nat → Nat} (e : ∀ i k, i < R → k < C → h (3 * i + k) = w (3 * i + k)) : smM R C h = smM R C w := by
  unfold smM
  apply List.map_congr_left
  intro i hi
  apply List.map_congr_left
  intro k hk
  rw [e i k (List.mem_range.1 hi) (List.mem_range.1 hk)]
theorem lfN_cong {R C : Nat} {h w : Nat → Nat} (e : ∀ t, t < 6 → t / 3 < R → t % 3 < C → h t = w t) {t : Nat} (ht : t < 6) : lfN R C h t = lfN R C w t := by
  unfold lfN
  split
  · rename_i hc; exact e t ht hc.1 hc.2
  · rfl
theorem short_g6 {s : Nat} (hs : 1 ≤ s ∧ s ≤ 5) {R C : Nat} (hR : 1 ≤ R ∧ R ≤ 2) (hC : 1 ≤ C ∧ C ≤ 3) {h : Nat → Nat} (hh : ∀ t, t < 6 → h t < 3) : short (smM R C h) (s : Int) = (g6 s (lfN R C h) : Int) := by
  have hB := chB hs
  unfold chkB at hB
  simp only [Bool.and_eq_true] at hB
  obtain ⟨⟨⟨⟨⟨b11, b12⟩, b13⟩, b21⟩, b22⟩, b23⟩ := hB
  have h0 := hh 0 (by omega)
  have h1 := hh 1 (by omega)
  have h2 := hh 2 (by omega)
  have h3 := hh 3 (by omega)
  have h4 := hh 4 (by omega)
  have h5 := hh 5 (by omega)
  have key : ∀ w : Nat → Nat, chS s R C w = true → (∀ t, t < 6 → t / 3 < R → t % 3 < C → h t = w t) → short (smM R C h) (s : Int) = (g6 s (lfN R C h) : Int) := fun w hw e => by
    rw [smM_cong (w := w) fun i k hi hk => e _ (by omega) (by omega) (by omega), g6_cong (w := lfN R C w) fun t ht => lfN_cong e ht]
    simpa [chS] using hw
  have six : ∀ t, t < 6 → t = 0 ∨ t = 1 ∨ t = 2 ∨ t = 3 ∨ t = 4 ∨ t = 5 := fun t ht => by omega
  have hRc : R = 1 ∨ R = 2 := by omega
  have hCc : C = 1 ∨ C = 2 ∨ C = 3 := by omega
  rcases hRc with rfl | rfl <;> rcases hCc with rfl | rfl | rfl
  · refine key _ (all3_spec b11 h0) fun t ht a b => ?_
    rcases six t ht with rfl | rfl | rfl | rfl | rfl | rfl <;> first | rfl | omega
  · refine key _ (all3_spec (all3_spec b12 h0) h1) fun t ht a b => ?_
    rcases six t ht with rfl | rfl | rfl | rfl | rfl | rfl <;> first | rfl | omega
  · refine key _ (all3_spec (all3_spec (all3_spec b13 h0) h1) h2) fun t ht a b => ?_
    rcases six t ht with rfl | rfl | rfl | rfl | rfl | rfl <;> first | rfl | omega
  · refine key _ (all3_spec (all3_spec b21 h0) h3) fun t ht a b => ?_
    rcases six t ht with rfl | rfl | rfl | rfl | rfl | rfl <;> first | rfl | omega
  · refine key _ (all3_spec (all3_spec (all3_spec (all3_spec b22 h0) h1) h3) h4) fun t ht a b => ?_
    rcases six t ht with rfl | rfl | rfl | rfl | rfl | rfl <;> first | rfl | omega
  · refine key _ (all3_spec (all3_spec (all3_spec (all3_spec (all3_spec (all3_spec b23 h0) h1) h2) h3) h4) h5) fun t ht a b => ?_
    rcases six t ht with rfl | rfl | rfl | rfl | rfl | rfl <;> first | rfl | omega
end Go.Proofs.Ytokgpcdbpkginaa
