/-
  The search in sorted lists. Own work.
-/
import Derived.Test.YtnmpdegnpaggkaaLeaf
set_option linter.unusedVariables false
set_option linter.unusedSimpArgs false
namespace Go.Proofs.Ytnmpdegnpaggkaa
open Go Fw
theorem p63 {x : AV} {l : List Int} (hx : asI x = some l) (hs : l.Pairwise (· < ·)) (n : Int) : PCall Try.prog 63 [x, .int .i64 n] (.tup [.int .i64 (lowB l n), .bool (decide (n ∈ l))]) := by
  have hl := asI_len hx
  refine PCall.of D2ok ok63 (by simp) rfl fun hs' hb => ?_
  simp [A63, R63, SNaN, alen_of hx]
  refine At.loop (fun (p : Nat × Nat) s => p.1 ≤ p.2 ∧ p.2 ≤ l.length ∧ s.env 0 = x ∧ s.env 1 = .int .i64 n ∧ s.env 6 = .int .i64 l.length ∧ s.env 7 = .int .i64 p.1 ∧ s.env 8 = .int .i64 p.2 ∧ (∀ k (hk : k < l.length), k < p.1 → l[k] < n) ∧ (∀ k (hk : k < l.length), p.2 ≤ k → n ≤ l[k])) (fun p => p.2 - p.1) (0, l.length) ?_ ?_
  · simp
    intro k hk h; omega
  rintro N ⟨i, j⟩ s hN ⟨hij, hj, h0, h1, h6, h7, h8, hlo, hhi⟩
  simp only at hij hj h7 h8 hlo hhi hN
  simp [h0, h1, h6, h7, h8]
  refine At.dec (fun h => ?_) (fun h => ?_)
  · have e1 : IntKind.i64.wrap ((i : Int) + j) = (i : Int) + j := wrap64 (by omega) (by omega)
    have e2 : IntKind.u64.wrap ((i : Int) + j) = (i : Int) + j := by simp only [IntKind.wrap, IntKind.bits, IntKind.signed]; simp; omega
    obtain ⟨m, hm⟩ : ∃ m, m = (i + j) / 2 := ⟨_, rfl⟩
    have e3 : abin 0 .shr (.int .u64 ((i : Int) + j)) (.int .u64 1) = some (.int .u64 (m : Int)) := by
      rw [abin_shr (by omega), hm]
      simp [IntKind.bits, Int.fdiv_eq_ediv]
    have e4 : IntKind.i64.wrap (m : Int) = m := wrap_nat (by omega)
    have hml : m < l.length := by omega
    simp [h0, h1, h6, h7, h8, e1, e2, e3, e4, aidx_nat hx hml, S71]
    refine At.dec (fun h' => ?_) (fun h' => ?_)
    · simp [h0, h1, h6, h7, h8]
      refine hN (m + 1, j) _ (by simp only; omega) ⟨by simp only; omega, hj, ?_⟩
      simp [h0, h1, h6, h7, h8, wrap_nat1 (show m < _ by omega)]
      refine ⟨fun k hk hkm => ?_, hhi⟩
      rcases Nat.lt_or_ge k m with hk' | hk'
      · have := sorted_get hs hml hk'; omega
      · have : k = m := by omega
        subst this; exact h'
    · simp [h0, h1, h6, h7, h8]
      refine hN (i, m) _ (by simp only; omega) ⟨by simp only; omega, by simp only; omega, ?_⟩
      simp [h0, h1, h6, h7, h8]
      refine ⟨hlo, fun k hk hkm => ?_⟩
      rcases Nat.lt_or_ge m k with hk' | hk'
      · have := sorted_get hs hk hk'; omega
      · have : k = m := by omega
        subst this; omega
  · have : j = i := by omega
    subst this
    have hlow := lowB_is hj hlo hhi
    simp [h0, h1, h6, h7, h8]
    refine At.dec (fun h' => ?_) (fun h' => ?_)
    · simp [h0, h1, h6, h7, h8, h', aidx_nat hx h', SNaN]
      refine At.decn (fun h2 => ?_) (fun h2 => ?_)
      · have hmem : n ∈ l := h2 ▸ List.getElem_mem h'
        simp [h0, h1, h6, h7, h8, h', h2, hlow, hmem]
      · have hmem : n ∉ l := fun hm => by
          obtain ⟨k, hk, e⟩ := List.getElem_of_mem hm
          rcases Nat.lt_trichotomy k j with hk' | hk' | hk'
          · have := hlo k hk hk'; omega
          · subst hk'; exact h2 e
          · have := sorted_get hs hk hk'; have := hhi j h' (Nat.le_refl _); omega
        simp [h0, h1, h6, h7, h8, h', h2, aidx_nat hx h', SNaN, hlow, hmem]
    · have hmem : n ∉ l := fun hm => by
        obtain ⟨k, hk, e⟩ := List.getElem_of_mem hm
        have := hlo k hk (by omega); omega
      simp [h0, h1, h6, h7, h8, h', hlow, hmem]

theorem p42 {x : AV} {l : List Int} (hx : asI x = some l) (hp : x.plain = true) (hs : x.share = x) : PCall Try.prog 42 [x] x := by
  refine PCall.of D2ok ok42 (by simp) hp fun hs' hb => ?_
  simp [A42, R42, hs]
theorem p27 {x y : AV} {a b : List Int} (hx : asI x = some a) (hy : asI y = some b) : PCall Try.prog 27 [x, y] (.bool (decide (a = b))) := by
  have hl := asI_len hx
  refine PCall.of D2ok ok27 (by simp) rfl fun hs hb => ?_
  simp [A27, R27, alen_of hx, alen_of hy]
  refine At.decn (fun hlen => ?_) (fun hlen => ?_)
  · have hlen' : a.length = b.length := by omega
    simp
    refine At.loop (fun (i : Nat) s => i ≤ a.length ∧ s.env 0 = x ∧ s.env 1 = y ∧ s.env 5 = .int .i64 i ∧ a.take i = b.take i) (fun i => a.length - i) 0 (by simp) ?_
    rintro N i s hN ⟨hi, h0, h1, h5, hn⟩
    simp [h0, h1, h5, alen_of hx]
    refine At.dec (fun h => ?_) (fun h => ?_)
    · have hi2 : i < b.length := by omega
      simp [h0, h1, h5, aidx_nat hx h, aidx_nat hy hi2]
      refine At.decn (fun e => ?_) (fun e => ?_)
      · simp [h0, h1, h5]
        refine hN (i + 1) _ (by omega) ⟨by omega, ?_⟩
        simp [h0, h1, wrap_nat1 (show i < _ by omega)]
        exact take_eq_succ h hi2 hn e
      · simp
        exact ne_of_get h hi2 e
    · have : i = a.length := by omega
      subst this
      simp [h0, h1, h5]
      rw [hlen', List.take_length] at hn
      rw [← hn, ← hlen', List.take_length]
  · have : a ≠ b := fun e => hlen (by rw [e])
    simp [this]
theorem p20 {x y : AV} {a b : List (Int × Int)} (hx : asV 2 x = some (prs a)) (hy : asV 2 y = some (prs b)) : PCall Try.prog 20 [x, y] (.bool (decide (a = b))) := by
  have hl := (asV_inv hx).2
  simp only [prs, List.length_map] at hl
  have lx := lenV hx
  have ly := lenV hy
  simp only [prs, List.length_map] at lx ly
  refine PCall.of D2ok ok20 (by simp) rfl fun hs hb => ?_
  simp [A20, R20, lx, ly]
  refine At.decn (fun hlen => ?_) (fun hlen => ?_)
  · have hlen' : a.length = b.length := by omega
    simp
    refine At.loop (fun (i : Nat) s => i ≤ a.length ∧ s.env 0 = x ∧ s.env 1 = y ∧ s.env 5 = .int .i64 i ∧ a.take i = b.take i) (fun i => a.length - i) 0 (by simp) ?_
    rintro N i s hN ⟨hi, h0, h1, h5, hn⟩
    simp [h0, h1, h5, lx]
    refine At.dec (fun h => ?_) (fun h => ?_)
    · have hi2 : i < b.length := by omega
      have ex := idxV hx (k := .i64) (i := i) (by simpa [prs] using h)
      have ey := idxV hy (k := .i64) (i := i) (by simpa [prs] using hi2)
      simp only [prs, List.getElem_map] at ex ey
      simp [h0, h1, h5, ex, ey]
      refine At.split (fun e => ?_) (fun e => ?_)
      · simp
        refine ne_of_get h hi2 fun e' => ?_
        rw [e'] at e
        simp at e
      · simp [h0, h1, h5]
        refine hN (i + 1) _ (by omega) ⟨by omega, ?_⟩
        simp [h0, h1, wrap_nat1 (show i < _ by omega)]
        refine take_eq_succ h hi2 hn ?_
        simp at e
        exact Prod.ext e.1 e.2
    · have : i = a.length := by omega
      subst this
      simp [h0, h1, h5]
      rw [hlen', List.take_length] at hn
      rw [← hn, ← hlen', List.take_length]
  · have : a ≠ b := fun e => hlen (by rw [e])
    simp [this]
end Go.Proofs.Ytnmpdegnpaggkaa
