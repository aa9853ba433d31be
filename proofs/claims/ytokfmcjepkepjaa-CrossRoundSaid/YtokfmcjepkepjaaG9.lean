/-
  CrossRoller: the law's own search, as a function. Own work.
  CrossRoller, walked. Own work.
  CrossRoller: what is left to evaluate. Own work.
-/
import Derived.Test.YtokfmcjepkepjaaG8
set_option linter.unusedVariables false
set_option linter.unusedSimpArgs false
namespace Go.Proofs.Ytokfmcjepkepjaa
open Go Fw

/-- the crosses of a set, before a place -/
def rfN (set : Nat) : Nat → List Int
  | 0 => []
  | p + 1 => if set.testBit p = true then rfN set p ++ [(p : Int)] else rfN set p
theorem rfN_ok (set : Nat) : ∀ p, (rfN set p).length ≤ p ∧ (∀ n ∈ rfN set p, 0 ≤ n ∧ n < p) ∧ (rfN set p).Pairwise (· < ·)
  | 0 => by simp [rfN]
  | p + 1 => by
    obtain ⟨h1, h3, h4⟩ := rfN_ok set p
    rw [rfN]
    split
    · refine ⟨by simp; omega, fun n hn => ?_, ?_⟩
      · rcases List.mem_append.1 hn with hn | hn
        · have := h3 n hn; omega
        · rw [List.mem_singleton] at hn; omega
      · rw [List.pairwise_append]
        refine ⟨h4, by simp, fun a ha b hb => ?_⟩
        have := h3 a ha
        rw [List.mem_singleton] at hb; omega
    · exact ⟨by omega, fun n hn => by have := h3 n hn; omega, h4⟩
/-- how many arrows have a way -/
def cwP (l : List Int) (size : Int) (ps : List Pr) (j : Nat) : Nat := ps.countP fun p => decide (wyN l size p = (j : Int))
def rgB (l : List Int) (size : Int) : Bool := (List.range 14).all fun j => decide (cwP l size (resG l.length 0) j ≤ 1)
theorem cwP_cons {l : List Int} {size : Int} {p : Pr} {ps : List Pr} {j : Nat} : cwP l size (p :: ps) j = (if wyN l size p = (j : Int) then 1 else 0) + cwP l size ps j := by
  unfold cwP
  rw [List.countP_cons]
  by_cases h : wyN l size p = (j : Int)
  · simp [h]; omega
  · simp [h]
/-- one set more -/
def stpR (n size : Nat) (b : Option (List Int)) (set : Nat) : Option (List Int) :=
  if (rfN set size).length = n ∧ rgB (rfN set size) (size : Int) = true ∧ (match b with | none => true | some m => lesB (rfN set size) m) = true then some (rfN set size) else b
def setsR (n size : Nat) : Nat → Option (List Int)
  | 0 => none
  | m + 1 => stpR n size (setsR n size m) m
/-- the answer that the law asks for -/
def rlV (n size : Nat) : AV := match setsR n size (2 ^ size) with | none => .tup [.nilsl, .int .i64 14] | some l => .tup [.sl 1 (ints l) .shared, .int .i64 0]
end Go.Proofs.Ytokfmcjepkepjaa
set_option linter.unusedVariables false
set_option linter.unusedSimpArgs false
namespace Go.Proofs.Ytokfmcjepkepjaa
open Go Fw

theorem stpR_or (n size : Nat) (b : Option (List Int)) (set : Nat) : stpR n size b set = some (rfN set size) ∨ stpR n size b set = b := by
  rw [stpR.eq_def]
  exact ite_or _ _ _
theorem setsR_len {n size : Nat} (hn : 2 ≤ n) (h2 : size ≤ 60) : ∀ (m : Nat) {l : List Int}, setsR n size m = some l → l.length ≤ 61
  | 0, l, h => by cases h
  | m + 1, l, h' => by
    rw [setsR] at h'
    rcases stpR_or n size (setsR n size m) m with e | e
    · rw [e] at h'
      injection h' with h'
      rw [← h']
      have := (rfN_ok m size).1
      omega
    · rw [e] at h'
      exact setsR_len hn h2 m h'
/-- what the program answers is what the law's search gives -/
def RlFin (n size : Nat) : Prop := roV (n : Int) (size : Int) = rlV n size ∧ ∀ l, setsR n size (2 ^ size) = some l → n * (n - 1) + 1 ≤ size
set_option maxHeartbeats 4000000 in
set_option maxRecDepth 100000 in
theorem p13 (hfin : ∀ n size : Nat, 2 ≤ n → n ≤ 4 → 2 ≤ size → size ≤ 14 → RlFin n size) {b c : Int} (hb0 : 0 ≤ b) (hb1 : b ≤ 255) (hc0 : 0 ≤ c) (hc1 : c ≤ 255) : PCall Try.prog 13 [.int .u8 b, .int .u8 c] (.bool true) := by
  obtain ⟨n, hn⟩ : ∃ n : Nat, 2 + b % 3 = (n : Int) := ⟨(2 + b % 3).toNat, by omega⟩
  obtain ⟨size, hsz⟩ : ∃ n : Nat, 2 + c % 13 = (n : Int) := ⟨(2 + c % 13).toNat, by omega⟩
  have hn2 : 2 ≤ n := by omega
  have hn4 : n ≤ 4 := by omega
  have hs2 : 2 ≤ size := by omega
  have hs14 : size ≤ 14 := by omega
  have wb : IntKind.i64.wrap b = b := wrap64 (by omega) (by omega)
  have wc : IntKind.i64.wrap c = c := wrap64 (by omega) (by omega)
  have hmod : b.tmod 3 = b % 3 := Int.tmod_eq_emod_of_nonneg hb0
  have hmodc : c.tmod 13 = c % 13 := Int.tmod_eq_emod_of_nonneg hc0
  have wn : IntKind.i64.wrap (2 + b % 3) = (n : Int) := by rw [wrap64 (by omega) (by omega)]; exact hn
  have ws : IntKind.i64.wrap (2 + c % 13) = (size : Int) := by rw [wrap64 (by omega) (by omega)]; exact hsz
  obtain ⟨hF1, hF2⟩ := hfin n size hn2 hn4 hs2 hs14
  have h34 := p34 (n : Int) (size : Int)
  rw [hF1] at h34
  obtain ⟨C, hC, k43, n3⟩ := ctx_ls ((D2ok.pt p16).pt h34)
  have k16 : C 16 [] = some (.bool true) := by simp [n3]
  have k34 : C 34 [.int .i64 (n : Int), .int .i64 (size : Int)] = some (rlV n size) := by simp [n3]
  have k23 : C 23 = SNum := by rw [← D2_23]; funext a; simp [n3]
  have hsh := shl64 (kd := 0) (n := size) (k := .i64) (by omega)
  have hpw2 : 2 ^ size ≤ 2 ^ 14 := Nat.pow_le_pow_right (by omega) (by omega)
  have hrl : rlV n size = match setsR n size (2 ^ size) with | none => .tup [.nilsl, .int .i64 14] | some l => .tup [.sl 1 (ints l) .shared, .int .i64 0] := rfl
  generalize hM : 2 ^ size = M at *
  refine PCall.of hC ok13 (by simp) rfl fun hs' hb => ?_
  have b0 : inF 14 (fun _ => 0) = [AV.int .i64 0, AV.int .i64 0, AV.int .i64 0, AV.int .i64 0, AV.int .i64 0, AV.int .i64 0, AV.int .i64 0, AV.int .i64 0, AV.int .i64 0, AV.int .i64 0, AV.int .i64 0, AV.int .i64 0, AV.int .i64 0, AV.int .i64 0] := rfl
  simp only [A13, R13, ← b0]
  simp [wb, wc, hmod, hmodc, wn, ws]
  refine At.loop (fun (set : Nat) t => set ≤ M ∧ t.env 5 = .int .i64 (n : Int) ∧ t.env 6 = .int .i64 (size : Int) ∧ t.env 8 = .int .i64 (set : Int) ∧ Bst (setsR n size set) (t.env 7)) (fun set => M - set) 0 ?_ ?_
  · exact ⟨by omega, by simp, by simp, by simp, by simp [setsR, Bst]⟩
  rintro N2 set t hN2 ⟨hsm, e5, e6, e8, hB⟩
  simp [e6, e8, hsh]
  refine At.dec (fun hlt2 => ?_) (fun hlt2 => ?_)
  · simp
    refine At.loop (fun (p : Nat) t => p ≤ size ∧ t.env 5 = .int .i64 (n : Int) ∧ t.env 6 = .int .i64 (size : Int) ∧ t.env 8 = .int .i64 (set : Int) ∧ t.env 10 = .int .i64 (p : Int) ∧ Bst (setsR n size set) (t.env 7) ∧ Grow t.hs (t.env 9) (rfN set p)) (fun p => size - p) 0 ?_ ?_
    · exact ⟨by omega, by simp [e5], by simp [e6], by simp [e8], by simp, by simpa using hB, by simp [Fresh], by simp [rfN, asI]⟩
    rintro N3 p t hN3 ⟨hpl, e5, e6, e8, e10, hB, hG⟩
    simp [e6, e10]
    refine At.dec (fun hlt3 => ?_) (fun hlt3 => ?_)
    · have hshr := shr64 (kd := 0) (a := set) (n := p) (k := .i64) (by omega)
      obtain ⟨a, ha1, ha2⟩ := bitA (set := set) (p := p)
      rw [ha1] at hshr
      have hal : a ≤ set := by rw [← ha1]; exact Nat.div_le_self _ _
      have hand := and64 (kd := 0) (a := a) (b := 1) (by omega) (by omega)
      rw [ha2] at hand
      have hfl := (rfN_ok set p).1
      have hfc : rfN set (p + 1) = if set.testBit p = true then rfN set p ++ [(p : Int)] else rfN set p := rfl
      cases hbit : set.testBit p with
      | true =>
        rw [hbit, if_pos rfl] at hfc
        rw [hbit] at hand
        have hand' : abin 0 .and (.int .i64 (a : Int)) (.int .i64 1) = some (.int .i64 1) := hand
        obtain ⟨y, hs2, a1, a2, a3⟩ := hG.add (by omega) (p : Int)
        simp [e8, e10, hshr, hand', astoAll, si, a1]
        refine hN3 (p + 1) _ (by omega) ⟨by omega, by simp [e5], by simp [e6], by simp [e8], by simp [wrap_nat1 (show p < _ by omega)], by simpa using hB, ?_⟩
        rw [hfc]
        simpa using a2
      | false =>
        rw [hbit] at hfc
        simp only [Bool.false_eq_true, if_false] at hfc
        rw [hbit] at hand
        have hand' : abin 0 .and (.int .i64 (a : Int)) (.int .i64 1) = some (.int .i64 0) := hand
        simp [e8, e10, hshr, hand']
        refine hN3 (p + 1) _ (by omega) ⟨by omega, by simp [e5], by simp [e6], by simp [e8], by simp [wrap_nat1 (show p < _ by omega)], by simpa using hB, ?_⟩
        rw [hfc]
        simpa using hG
    · have hps : p = size := by omega
      rw [hps] at hG
      obtain ⟨hfl, hfb, hfa⟩ := rfN_ok set size
      have hYa := hG.as
      have hst : setsR n size (set + 1) = stpR n size (setsR n size set) set := rfl
      have hws : IntKind.i64.wrap ((set : Int) + 1) = ((set + 1 : Nat) : Int) := wrap_nat1 (show set < _ by omega)
      obtain ⟨Y, e9⟩ : ∃ Y, t.env 9 = Y := ⟨_, rfl⟩
      obtain ⟨V7, e7⟩ : ∃ V, t.env 7 = V := ⟨_, rfl⟩
      rw [e9] at hYa
      rw [e7] at hB
      clear hG
      obtain ⟨R, hRd⟩ : ∃ R, rfN set size = R := ⟨_, rfl⟩
      rw [hRd] at hfl hfb hfa hYa
      have alY := alen_of hYa
      have keep : ∀ t' : AS, t'.env 5 = .int .i64 (n : Int) → t'.env 6 = .int .i64 (size : Int) → t'.env 8 = .int .i64 ((set + 1 : Nat) : Int) → setsR n size (set + 1) = setsR n size set → t'.env 7 = V7 → At (N2 t') := by
        intro t' f3 f5 f6 f7 f4
        exact hN2 (set + 1) _ (by omega) ⟨by omega, f3, f5, f6, by rw [f7, f4]; exact hB⟩
      by_cases hln : R.length = n
      rotate_left
      · have hln' : ¬ (R.length : Int) = (n : Int) := by omega
        simp [e5, e8, e9, alY, hln, hln', hws]
        refine keep _ (by simp [e5]) (by simp [e6]) (by simp) ?_ (by simp [e7])
        rw [hst, stpR.eq_def, if_neg (by rw [hRd]; simp [hln])]
      have hln' : (R.length : Int) = (n : Int) := by omega
      have hRne : R ≠ [] := by intro h; rw [h] at hln; simp at hln; omega
      have take' : ∀ t' : AS, t'.env 5 = .int .i64 (n : Int) → t'.env 6 = .int .i64 (size : Int) → t'.env 8 = .int .i64 ((set + 1 : Nat) : Int) → setsR n size (set + 1) = some R → t'.env 7 = Y → At (N2 t') := by
        intro t' f3 f5 f6 f7 f4
        exact hN2 (set + 1) _ (by omega) ⟨by omega, f3, f5, f6, by rw [f7, f4]; exact Bst.of hYa hRne⟩
      generalize hq : t.hs.nh = q
      simp [e5, e8, e9, alY, hln, hln', hq]
      refine At.loop (fun (i : Nat) t => i ≤ R.length ∧ t.env 5 = .int .i64 (n : Int) ∧ t.env 6 = .int .i64 (size : Int) ∧ t.env 7 = V7 ∧ t.env 8 = .int .i64 (set : Int) ∧ t.env 9 = Y ∧ t.env 11 = .ref q 0 ∧ t.env 52 = Y ∧ t.env 53 = .int .i64 (R.length : Int) ∧ t.env 54 = .int .i64 (i : Int) ∧ ∃ (g : Bool) (f : Nat → Int), t.env 12 = .bool g ∧ t.hs.heap q = some (inF 14 f) ∧ (∀ u : Nat, 0 ≤ f u ∧ f u + (cwP R (size : Int) (resG R.length i) u : Int) = (cwP R (size : Int) (resG R.length 0) u : Int)) ∧ (g = true ↔ ∀ u, f u ≤ 1)) (fun i => R.length - i) 0 ?_ ?_
      · exact ⟨by omega, by simp [e5], by simp [e6], by simp [e7], by simp [e8], by simp [e9], by simp, by simp [e9], by simp [e9, alY, hln], by simp, true, fun _ => 0, by simp, by simp, fun j => ⟨by simp, by simp⟩, by simp⟩
      rintro N4 i t hN4 ⟨hi, e5, e6, e7, e8, e9, e11, e52, e53, e54, g, f, e12, wq, hf, hg⟩
      simp [e53, e54]
      refine At.dec (fun hlt4 => ?_) (fun hlt4 => ?_)
      · have i1 := aidx_nat hYa hlt4 (k := .i64)
        have bi := hfb _ (List.getElem_mem hlt4)
        rw [resG_c hlt4] at hf
        simp [e9, e52, e54, i1, alY]
        refine At.loop (fun (j : Nat) t => j ≤ R.length ∧ t.env 5 = .int .i64 (n : Int) ∧ t.env 6 = .int .i64 (size : Int) ∧ t.env 7 = V7 ∧ t.env 8 = .int .i64 (set : Int) ∧ t.env 9 = Y ∧ t.env 11 = .ref q 0 ∧ t.env 52 = Y ∧ t.env 53 = .int .i64 (R.length : Int) ∧ t.env 54 = .int .i64 (i : Int) ∧ t.env 14 = .int .i64 R[i] ∧ t.env 58 = Y ∧ t.env 59 = .int .i64 (R.length : Int) ∧ t.env 60 = .int .i64 (j : Int) ∧ ∃ (g : Bool) (f : Nat → Int), t.env 12 = .bool g ∧ t.hs.heap q = some (inF 14 f) ∧ (∀ u : Nat, 0 ≤ f u ∧ f u + (cwP R (size : Int) (rowG R.length i j ++ resG R.length (i + 1)) u : Int) = (cwP R (size : Int) (resG R.length 0) u : Int)) ∧ (g = true ↔ ∀ u, f u ≤ 1)) (fun j => R.length - j) 0 ?_ ?_
        · exact ⟨by omega, by simp [e5], by simp [e6], by simp [e7], by simp [e8], by simp [e9], by simp [e11], by simp [e52], by simp [e53], by simp [e54], by simp, by simp [e9], by simp [e9, alY], by simp, g, f, by simp [e12], by simpa using wq, hf, hg⟩
        rintro N6 j t hN6 ⟨hj, e5, e6, e7, e8, e9, e11, e52, e53, e54, e14, e58, e59, e60, g, f, e12, wq, hf, hg⟩
        simp [e59, e60]
        refine At.dec (fun hlt6 => ?_) (fun hlt6 => ?_)
        · have j1 := aidx_nat hYa hlt6 (k := .i64)
          have bj := hfb _ (List.getElem_mem hlt6)
          rw [rowG_c hlt6] at hf
          by_cases hij : i = j
          · have hRR : R[i] = R[j] := by simp [hij]
            rw [if_pos hij] at hf
            simp [e14, e58, e60, j1, hRR]
            refine hN6 (j + 1) _ (by omega) ⟨by omega, by simp [e5], by simp [e6], by simp [e7], by simp [e8], by simp [e9], by simp [e11], by simp [e52], by simp [e53], by simp [e54], by simp [e14, hRR], by simp [e58], by simp [e59], by simp [wrap_nat1 (show j < _ by omega)], g, f, by simp [e12], by simpa using wq, hf, hg⟩
          · have hRR : ¬ R[i] = R[j] := fun e => hij (asc_inj hfa hlt4 hlt6 e)
            rw [if_neg hij, List.cons_append] at hf
            have hwb := wyN_bd (l := R) (size := (size : Int)) (by omega) hfb (p := (i, j)) hlt4 hlt6
            obtain ⟨d, hd⟩ : ∃ d : Nat, wyN R (size : Int) (i, j) = (d : Int) := ⟨(wyN R (size : Int) (i, j)).toNat, by omega⟩
            have hd14 : d < 14 := by omega
            have w1 : IntKind.i64.wrap (R[j] - R[i]) = R[j] - R[i] := wrap64 (by omega) (by omega)
            have w2 : IntKind.i64.wrap (R[j] - R[i] + (size : Int)) = R[j] - R[i] + (size : Int) := wrap64 (by omega) (by omega)
            have w3 : (R[j] - R[i] + (size : Int)).tmod (size : Int) = (d : Int) := by rw [← hd, wyN, dsN, getD_of hlt4, getD_of hlt6]
            have wz : ¬ (size : Int) = 0 := by omega
            have wz' : ¬ size = 0 := by omega
            have hfd := hf d
            have hle : cwP R (size : Int) (resG R.length 0) d ≤ 4096 := Nat.le_trans List.countP_le_length (resG_len (by omega))
            have hw5 : IntKind.i64.wrap (f d + 1) = f d + 1 := wrap64 (by omega) (by omega)
            have hf2 : ∀ k, 0 ≤ (if k = d then f d + 1 else f k) ∧ (if k = d then f d + 1 else f k) + (cwP R (size : Int) (rowG R.length i (j + 1) ++ resG R.length (i + 1)) k : Int) = (cwP R (size : Int) (resG R.length 0) k : Int) := by
              intro k
              have h1 := (hf k).1
              have h2 := (hf k).2
              rw [cwP_cons, hd] at h2
              by_cases hk : k = d
              · subst hk
                rw [if_pos rfl] at h2 ⊢
                omega
              · rw [if_neg (show ¬ (d : Int) = (k : Int) by omega)] at h2
                rw [if_neg hk]
                omega
            have hg2 : ∀ g' : Bool, (g' = true ↔ g = true ∧ f d + 1 < 2) → (g' = true ↔ ∀ k, (if k = d then f d + 1 else f k) ≤ 1) := by
              intro g' hg'
              rw [hg', hg]
              constructor
              · rintro ⟨h1, h2⟩ k
                by_cases hk : k = d
                · rw [if_pos hk]; omega
                · rw [if_neg hk]; exact h1 k
              · intro h
                have hdd := h d
                rw [if_pos rfl] at hdd
                refine ⟨fun k => ?_, by omega⟩
                have := h k
                by_cases hk : k = d
                · subst hk; omega
                · rw [if_neg hk] at this; exact this
            have ldn := fun (hp : Nat → Option (List AV)) (h : hp q = some (inF 14 fun k => if k = d then f d + 1 else f k)) => in_ld h hd14
            cases g with
            | false =>
              simp [e6, e11, e12, e14, e58, e60, j1, hRR, w1, w2, w3, wz, wz', in_ix hd14, in_ld wq hd14, hw5, in_sc wq hd14]
              refine hN6 (j + 1) _ (by omega) ⟨by omega, by simp [e5], by simp [e6], by simp [e7], by simp [e8], by simp [e9], by simp [e11], by simp [e52], by simp [e53], by simp [e54], by simp [e14], by simp [e58], by simp [e59], by simp [wrap_nat1 (show j < _ by omega)], false, fun k => if k = d then f d + 1 else f k, by simp, by simp, hf2, hg2 false (by simp)⟩
            | true =>
              by_cases hlt2' : f d + 1 < 2
              · simp [e6, e11, e12, e14, e58, e60, j1, hRR, w1, w2, w3, wz, wz', in_ix hd14, in_ld wq hd14, hw5, in_sc wq hd14, in_ld (f := fun k => if k = d then f d + 1 else f k) (q := q) _ hd14, hlt2']
                refine hN6 (j + 1) _ (by omega) ⟨by omega, by simp [e5], by simp [e6], by simp [e7], by simp [e8], by simp [e9], by simp [e11], by simp [e52], by simp [e53], by simp [e54], by simp [e14], by simp [e58], by simp [e59], by simp [wrap_nat1 (show j < _ by omega)], true, fun k => if k = d then f d + 1 else f k, by simp, by simp, hf2, hg2 true (by simp [hlt2'])⟩
              · simp [e6, e11, e12, e14, e58, e60, j1, hRR, w1, w2, w3, wz, wz', in_ix hd14, in_ld wq hd14, hw5, in_sc wq hd14, in_ld (f := fun k => if k = d then f d + 1 else f k) (q := q) _ hd14, hlt2']
                refine hN6 (j + 1) _ (by omega) ⟨by omega, by simp [e5], by simp [e6], by simp [e7], by simp [e8], by simp [e9], by simp [e11], by simp [e52], by simp [e53], by simp [e54], by simp [e14], by simp [e58], by simp [e59], by simp [wrap_nat1 (show j < _ by omega)], false, fun k => if k = d then f d + 1 else f k, by simp, by simp, hf2, hg2 false (by simp [hlt2'])⟩
        · have : j = R.length := by omega
          subst this
          rw [rowG_n (Nat.le_refl _), List.nil_append] at hf
          simp [e54]
          refine hN4 (i + 1) _ (by omega) ⟨by omega, by simp [e5], by simp [e6], by simp [e7], by simp [e8], by simp [e9], by simp [e11], by simp [e52], by simp [e53], by simp [wrap_nat1 (show i < _ by omega)], g, f, by simp [e12], by simpa using wq, hf, hg⟩
      · have : i = R.length := by omega
        subst this
        rw [resG_n (Nat.le_refl _)] at hf
        have hfu : ∀ u : Nat, f u = (cwP R (size : Int) (resG R.length 0) u : Int) := fun u => by
          have := (hf u).2
          simpa [cwP] using this
        have hgr : g = rgB R (size : Int) := by
          rw [Bool.eq_iff_iff, hg, rgB, List.all_eq_true]
          constructor
          · intro h j hj
            have := h j
            rw [hfu] at this
            rw [decide_eq_true_eq]; omega
          · intro h u
            rw [hfu]
            by_cases hu : u < 14
            · have := h u (by simpa using hu)
              rw [decide_eq_true_eq] at this
              omega
            · have : cwP R (size : Int) (resG R.length 0) u = 0 := by
                unfold cwP
                rw [List.countP_eq_zero]
                intro p hp
                obtain ⟨g1, g2, _⟩ := mem_resG.1 hp
                have := wyN_bd (l := R) (size := (size : Int)) (by omega) hfb g1 g2
                rw [decide_eq_true_eq]
                omega
              omega
        cases g with
        | false =>
          simp [e8, e12, hws]
          refine keep _ (by simp [e5]) (by simp [e6]) (by simp) ?_ (by simp [e7])
          rw [hst, stpR.eq_def, if_neg (by rw [hRd, ← hgr]; simp)]
        | true =>
          cases hS : setsR n size set with
          | none =>
            rw [hS] at hB
            have hv : V7 = .nilsl := hB
            simp [e7, e8, e9, e12, hv, hws]
            refine take' _ (by simp [e5]) (by simp [e6]) (by simp) ?_ (by simp)
            rw [hst, hS, stpR.eq_def, if_pos ⟨by rw [hRd]; exact hln, by rw [hRd]; exact hgr.symm, rfl⟩, hRd]
          | some m =>
            have hml := setsR_len hn2 (by omega) set hS
            rw [hS] at hB
            have hma := hB.as (by omega)
            have y43 := k43 _ _ _ _ hYa hma
            obtain ⟨cm, hv⟩ := hB
            rw [hv] at y43
            cases hle2 : lesB R m with
            | true =>
              rw [hle2] at y43
              simp [e7, e8, e9, e12, hv, y43, hws]
              refine take' _ (by simp [e5]) (by simp [e6]) (by simp) ?_ (by simp)
              rw [hst, hS, stpR.eq_def, if_pos ⟨by rw [hRd]; exact hln, by rw [hRd]; exact hgr.symm, by rw [hRd]; exact hle2⟩, hRd]
            | false =>
              rw [hle2] at y43
              simp [e7, e8, e9, e12, hv, y43, hws]
              refine keep _ (by simp [e5]) (by simp [e6]) (by simp) ?_ (by simp [e7, hv])
              rw [hst, hS, stpR.eq_def, if_neg (by rw [hRd]; simp [hle2])]
  · have : set = M := by omega
    subst this
    cases hS : setsR n size set with
    | none =>
      rw [hS] at hB hrl
      have e7 : t.env 7 = .nilsl := hB
      simp [e5, e6, e7, k34, hrl, k16]
    | some m =>
      have hml := setsR_len hn2 (by omega) set hS
      have h5 := hF2 m hS
      rw [hS] at hB hrl
      have hma := hB.as (by omega)
      obtain ⟨cm, e7⟩ := hB
      rw [e7] at hma
      have z23 := SNum_i (asI_sl (c := .shared) (show m.length < 4294967296 by omega)) hma
      obtain ⟨m1, m2, m3, hm1, hm2, hm3, hm4⟩ : ∃ m1 m2 m3 : Int, IntKind.i64.wrap ((n : Int) - 1) = m1 ∧ IntKind.i64.wrap ((n : Int) * m1) = m2 ∧ IntKind.i64.wrap (m2 + 1) = m3 ∧ m3 = ((n * (n - 1) + 1 : Nat) : Int) := by
        have : n = 2 ∨ n = 3 ∨ n = 4 := by omega
        rcases this with rfl | rfl | rfl <;> exact ⟨_, _, _, rfl, rfl, rfl, by decide +kernel⟩
      have hm5 : m3 ≤ (size : Int) := by omega
      simp [e5, e6, e7, k34, hrl, k23, z23, hm1, hm2, hm3, hm5, k16]
end Go.Proofs.Ytokfmcjepkepjaa
set_option linter.unusedVariables false
set_option linter.unusedSimpArgs false
namespace Go.Proofs.Ytokfmcjepkepjaa
open Go Fw

/-- how many crosses a set has -/
def popT (set : Nat) : Nat → Nat
  | 0 => 0
  | p + 1 => popT set p + set / 2 ^ p % 2
theorem popT_len (set : Nat) : ∀ p, (rfN set p).length = popT set p
  | 0 => rfl
  | p + 1 => by
    rw [rfN, popT, ← popT_len set p, Nat.testBit_eq_decide_div_mod_eq]
    rcases Nat.mod_two_eq_zero_or_one (set / 2 ^ p) with h | h
    · simp [h]
    · simp [h]
/-- the search, sets of another size passed over -/
def setsQ (n size : Nat) : Nat → Option (List Int)
  | 0 => none
  | m + 1 => if popT m size = n then stpR n size (setsQ n size m) m else setsQ n size m
theorem setsQ_eq (n size : Nat) : ∀ m, setsR n size m = setsQ n size m
  | 0 => rfl
  | m + 1 => by
    rw [setsR, setsQ, setsQ_eq n size m]
    by_cases h : popT m size = n
    · rw [if_pos h]
    · rw [if_neg h, stpR.eq_def, if_neg]
      rintro ⟨h1, _⟩
      rw [popT_len] at h1
      exact h h1
def RlB (n size : Nat) : Bool := decide (setsQ n size (2 ^ size) = ext (roA size) ((size : Int) - 1) (n - 1) [0]) && (!(ext (roA size) ((size : Int) - 1) (n - 1) [0]).isSome || decide (n * (n - 1) + 1 ≤ size))
theorem RlB.fin {n size : Nat} (hn : 2 ≤ n) (hn4 : n ≤ 4) (hs : 2 ≤ size) (hs4 : size ≤ 14) (h : RlB n size = true) : RlFin n size := by
  unfold RlB at h
  rw [Bool.and_eq_true, decide_eq_true_eq, ← setsQ_eq] at h
  obtain ⟨h1, h2⟩ := h
  refine ⟨?_, fun l hl => ?_⟩
  · rw [roV, if_pos ⟨by simp [btw]; omega, by simp [btw]; omega⟩, rlV, h1]
    rw [show ((n : Int).toNat - 1) = n - 1 by omega]
    cases ext (roA size) ((size : Int) - 1) (n - 1) [0] <;> rfl
  · rw [← h1, hl] at h2
    simpa using h2
theorem rl_all {n : Nat} (hn : 2 ≤ n) (hn4 : n ≤ 4) (h : ((List.range 12).all fun s => RlB n (s + 2)) = true) (h14 : RlB n 14 = true) {size : Nat} (hs : 2 ≤ size) (hs4 : size ≤ 14) : RlFin n size := by
  by_cases h4 : size = 14
  · subst h4; exact RlB.fin hn hn4 hs hs4 h14
  · rw [List.all_eq_true] at h
    have := h (size - 2) (by simp; omega)
    rw [show size - 2 + 2 = size by omega] at this
    exact RlB.fin hn hn4 hs hs4 this
end Go.Proofs.Ytokfmcjepkepjaa
