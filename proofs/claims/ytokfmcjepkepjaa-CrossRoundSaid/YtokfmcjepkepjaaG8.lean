/-
  CrossLeast: the law's own search, as a function; less. Own work.
  CrossLeast, walked. Own work.
-/
import Derived.Test.YtokfmcjepkepjaaG7
set_option linter.unusedVariables false
set_option linter.unusedSimpArgs false
namespace Go.Proofs.Ytokfmcjepkepjaa
open Go Fw

/-- less: the first different numbers -/
def lesB : List Int → List Int → Bool
  | a :: l, b :: m => if a = b then lesB l m else decide (a < b)
  | _, _ => false
theorem lesB_nil (l : List Int) : lesB l [] = false := by cases l <;> rfl
theorem p43 {x y : AV} {l m : List Int} (hx : asI x = some l) (hy : asI y = some m) : PCall Try.prog 43 [x, y] (.bool (lesB l m)) := by
  have hl := asI_len hx
  refine PCall.of D2ok ok43 (by simp) rfl fun hs' hb => ?_
  simp [A43, R43, alen_of hx]
  refine At.loop (fun (i : Nat) t => i ≤ l.length ∧ t.env 0 = x ∧ t.env 1 = y ∧ t.env 7 = .int .i64 (l.length : Int) ∧ t.env 8 = .int .i64 (i : Int) ∧ lesB (l.drop i) (m.drop i) = lesB l m) (fun i => l.length - i) 0 ?_ ?_
  · exact ⟨by omega, by simp, by simp, by simp, by simp, rfl⟩
  rintro N i t hN ⟨hi, e0, e1, e7, e8, hL⟩
  simp [e7, e8]
  refine At.dec (fun hlt => ?_) (fun hlt => ?_)
  · have i1 := aidx_nat hx hlt (k := .i64)
    rw [List.drop_eq_getElem_cons hlt] at hL
    by_cases hm : i < m.length
    · have hm' : (i : Int) < (m.length : Int) := by omega
      have i2 := aidx_nat hy hm (k := .i64)
      rw [List.drop_eq_getElem_cons hm, lesB] at hL
      by_cases he : l[i] = m[i]
      · rw [if_pos he] at hL
        simp [e0, e1, e8, alen_of hy, hm, hm', i1, i2, he]
        refine hN (i + 1) _ (by omega) ⟨by omega, by simp [e0], by simp [e1], by simp [e7], by simp [wrap_nat1 (show i < _ by omega)], hL⟩
      · rw [if_neg he] at hL
        simp [e0, e1, e8, alen_of hy, hm, hm', i1, i2, he, ← hL]
    · have hm' : ¬ (i : Int) < (m.length : Int) := by omega
      simp [e0, e1, e8, alen_of hy, hm, hm']
      refine hN (i + 1) _ (by omega) ⟨by omega, by simp [e0], by simp [e1], by simp [e7], by simp [wrap_nat1 (show i < _ by omega)], ?_⟩
      rw [← hL, List.drop_eq_nil_of_le (by omega : m.length ≤ i), List.drop_eq_nil_of_le (by omega : m.length ≤ i + 1), lesB_nil, lesB_nil]
  · rw [List.drop_eq_nil_of_le (by omega : l.length ≤ i)] at hL
    have : lesB l m = false := by rw [← hL]; rfl
    simp [this]
/-- the rule of a set: the first places -/
def flN (set : Nat) : Nat → List Int
  | 0 => [0]
  | p + 1 => if p = 0 then [0] else if set.testBit (p - 1) = true then flN set p ++ [(p : Int)] else flN set p
def mkL (set last : Nat) : List Int := flN set last ++ [(last : Int)]
theorem flN_ok (set : Nat) : ∀ p, 1 ≤ p → (flN set p).length ≤ p ∧ flN set p ≠ [] ∧ (∀ n ∈ flN set p, 0 ≤ n ∧ n < p) ∧ (flN set p).Pairwise (· < ·)
  | 0, h => by omega
  | 1, _ => by simp [flN]
  | p + 2, _ => by
    obtain ⟨h1, h2, h3, h4⟩ := flN_ok set (p + 1) (by omega)
    rw [flN, if_neg (by omega)]
    split
    · refine ⟨by simp; omega, by simp, fun n hn => ?_, ?_⟩
      · rcases List.mem_append.1 hn with hn | hn
        · have := h3 n hn; omega
        · rw [List.mem_singleton] at hn; omega
      · rw [List.pairwise_append]
        refine ⟨h4, by simp, fun a ha b hb => ?_⟩
        have := h3 a ha
        rw [List.mem_singleton] at hb; omega
    · exact ⟨by omega, h2, fun n hn => by have := h3 n hn; omega, h4⟩
theorem mkL_ok {set last : Nat} (h : 1 ≤ last) (h2 : last ≤ 60) : Rl (mkL set last) ∧ (mkL set last).length ≤ last + 1 := by
  obtain ⟨h1, _, h3, h4⟩ := flN_ok set last h
  have hl : (mkL set last).length ≤ last + 1 := by simp [mkL]; omega
  refine ⟨⟨by omega, fun n hn => ?_, ?_⟩, hl⟩
  · rcases List.mem_append.1 hn with hn | hn
    · have := h3 n hn; omega
    · rw [List.mem_singleton] at hn; omega
  · unfold mkL
    rw [List.pairwise_append]
    refine ⟨h4, by simp, fun a ha b hb => ?_⟩
    have := h3 a ha
    rw [List.mem_singleton] at hb; omega
/-- one set more -/
def stpL (n last : Nat) (b : Option (List Int)) (set : Nat) : Option (List Int) :=
  if (mkL set last).length = n ∧ clrB (mkL set last) = true ∧ (match b with | none => true | some m => lesB (mkL set last) m) = true then some (mkL set last) else b
def setsL (n last : Nat) : Nat → Option (List Int)
  | 0 => none
  | m + 1 => stpL n last (setsL n last m) m
def runL (n : Nat) : Nat → Option (List Int)
  | 0 => none
  | k + 1 => match runL n k with
    | some l => some l
    | none => setsL n (k + 1) (2 ^ k)
theorem runL_up {n k : Nat} {l : List Int} (h : runL n k = some l) : ∀ j, runL n (k + j) = some l
  | 0 => h
  | j + 1 => by
    show runL n (k + j + 1) = some l
    rw [runL, runL_up h j]
set_option maxRecDepth 100000 in
theorem run2 : runL 2 19 = some (shL 2) := by decide +kernel
set_option maxRecDepth 100000 in
theorem run3 : runL 3 19 = some (shL 3) := by decide +kernel
set_option maxRecDepth 100000 in
theorem run4 : runL 4 19 = some (shL 4) := by decide +kernel
set_option maxRecDepth 100000 in
theorem run5 : runL 5 19 = some (shL 5) := by decide +kernel
/-- the claims about the found rule, for the four numbers of crosses -/
theorem lst_fin : ∀ n : Nat, 2 ≤ n → n ≤ 5 → runL n 19 = some (shL n) ∧ (shL n).length = n ∧ beE (shL n) = 0 ∧ (n * (n - 1) / 2 : Nat) ≤ (shL n).getD (n - 1) 0 ∧ (shL n).getD (n - 1) 0 ≤ 40 ∧ beE ((shL n).take (n - 1) ++ [(shL n).getD (n - 1) 0 + 20]) = 14 := by
  intro n h1 h2
  have : n = 2 ∨ n = 3 ∨ n = 4 ∨ n = 5 := by omega
  rcases this with rfl | rfl | rfl | rfl
  · exact ⟨run2, by decide +kernel⟩
  · exact ⟨run3, by decide +kernel⟩
  · exact ⟨run4, by decide +kernel⟩
  · exact ⟨run5, by decide +kernel⟩
end Go.Proofs.Ytokfmcjepkepjaa
set_option linter.unusedVariables false
set_option linter.unusedSimpArgs false
namespace Go.Proofs.Ytokfmcjepkepjaa
open Go Fw

theorem ctx_rl {C : PCtx} (hC : CtxOk Try.prog C) : ∃ C' : PCtx, CtxOk Try.prog C' ∧ (∀ x l, asI x = some l → Rl l → C' 41 [x] = some (.bool (clrB l))) ∧ ∀ g, ¬ g = 41 → C' g = C g := by
  refine ⟨C.fam (ι := {q : AV × List Int // asI q.1 = some q.2 ∧ Rl q.2}) 41 (fun q => [q.1.1]) (fun q => .bool (clrB q.1.2)), hC.fam fun q => p41 q.2.1 q.2.2, fun x l hx hr => ?_, fun g hg => funext fun a => fam_ne hg⟩
  refine fam_eq (g := fun q : {q : AV × List Int // asI q.1 = some q.2 ∧ Rl q.2} => [q.1.1]) (r := fun q => .bool (clrB q.1.2)) (fun i j e => ?_) ⟨(x, l), hx, hr⟩
  have h1 := i.2.1
  injection e with e
  rw [e, j.2.1] at h1
  injection h1 with h1
  show AV.bool (clrB i.1.2) = .bool (clrB j.1.2)
  rw [h1]
theorem ctx_ls {C : PCtx} (hC : CtxOk Try.prog C) : ∃ C' : PCtx, CtxOk Try.prog C' ∧ (∀ x y l m, asI x = some l → asI y = some m → C' 43 [x, y] = some (.bool (lesB l m))) ∧ ∀ g, ¬ g = 43 → C' g = C g := by
  refine ⟨C.fam (ι := {q : (AV × List Int) × (AV × List Int) // asI q.1.1 = some q.1.2 ∧ asI q.2.1 = some q.2.2}) 43 (fun q => [q.1.1.1, q.1.2.1]) (fun q => .bool (lesB q.1.1.2 q.1.2.2)), hC.fam fun q => p43 q.2.1 q.2.2, fun x y l m hx hy => ?_, fun g hg => funext fun a => fam_ne hg⟩
  refine fam_eq (g := fun q : {q : (AV × List Int) × (AV × List Int) // asI q.1.1 = some q.1.2 ∧ asI q.2.1 = some q.2.2} => [q.1.1.1, q.1.2.1]) (r := fun q => .bool (lesB q.1.1.2 q.1.2.2)) (fun i j e => ?_) ⟨((x, l), (y, m)), hx, hy⟩
  have h1 := i.2.1
  have h2 := i.2.2
  injection e with e1 e
  injection e with e2 e
  rw [e1, j.2.1] at h1
  rw [e2, j.2.2] at h2
  injection h1 with h1
  injection h2 with h2
  show AV.bool (lesB i.1.1.2 i.1.2.2) = .bool (lesB j.1.1.2 j.1.2.2)
  rw [h1, h2]
/-- the best list so far -/
def Bst : Option (List Int) → AV → Prop
  | none, v => v = .nilsl
  | some m, v => ∃ c, v = .sl 1 (ints m) c
theorem Bst.as {m : List Int} {v : AV} (h : Bst (some m) v) (hl : m.length < 4294967296) : asI v = some m := by
  obtain ⟨c, rfl⟩ := h
  exact asI_sl hl
theorem Bst.of {m : List Int} {v : AV} (h : asI v = some m) (hne : m ≠ []) : Bst (some m) v := by
  rcases asI_inv h with ⟨_, h2⟩ | ⟨c, rfl⟩
  · exact absurd h2 hne
  · exact ⟨c, rfl⟩
theorem ite_or {α : Type} (P : Prop) [Decidable P] (a b : α) : (if P then a else b) = a ∨ (if P then a else b) = b := by
  by_cases h : P
  · left; rw [if_pos h]
  · right; rw [if_neg h]
theorem stpL_or (n last : Nat) (b : Option (List Int)) (set : Nat) : stpL n last b set = some (mkL set last) ∨ stpL n last b set = b := by
  rw [stpL.eq_def]
  exact ite_or _ _ _
theorem setsL_len {n last : Nat} (h : 1 ≤ last) (h2 : last ≤ 60) : ∀ (m : Nat) {l : List Int}, setsL n last m = some l → l.length ≤ 61
  | 0, l, h => by cases h
  | m + 1, l, h' => by
    rw [setsL] at h'
    rcases stpL_or n last (setsL n last m) m with e | e
    · rw [e] at h'
      injection h' with h'
      rw [← h']
      have := (mkL_ok (set := m) h h2).2
      omega
    · rw [e] at h'
      exact setsL_len h h2 m h'
theorem bitA {set p : Nat} : ∃ a : Nat, set / 2 ^ p = a ∧ a &&& 1 = (set.testBit p).toNat := ⟨_, rfl, bit64⟩
set_option maxHeartbeats 4000000 in
set_option maxRecDepth 100000 in
theorem p10 {b : Int} (hb0 : 0 ≤ b) (hb1 : b ≤ 255) : PCall Try.prog 10 [.int .u8 b] (.bool true) := by
  obtain ⟨n, hn⟩ : ∃ n : Nat, 2 + b % 4 = (n : Int) := ⟨(2 + b % 4).toNat, by omega⟩
  have hn2 : 2 ≤ n := by omega
  have hn5 : n ≤ 5 := by omega
  have wb : IntKind.i64.wrap b = b := wrap64 (by omega) (by omega)
  have hmod : b.tmod 4 = b % 4 := Int.tmod_eq_emod_of_nonneg hb0
  have wn : IntKind.i64.wrap (2 + b % 4) = (n : Int) := by rw [wrap64 (by omega) (by omega)]; exact hn
  obtain ⟨hrun, hlen, hbe, hge, hle, hbe2⟩ := lst_fin n hn2 hn5
  have hV : shV (n : Int) = .tup [.sl 1 (ints (shL n)) .shared, .int .i64 0] := by rw [shV, if_pos (by simp [btw]; omega)]
  have hSa : asI (.sl 1 (ints (shL (n : Int))) .shared) = some (shL n) := asI_sl (by omega)
  obtain ⟨m1, m2, m3, hm1, hm2, hm3, hm4⟩ : ∃ m1 m2 m3 : Int, IntKind.i64.wrap ((n : Int) - 1) = m1 ∧ IntKind.i64.wrap ((n : Int) * m1) = m2 ∧ IntKind.i64.wrap (m2.tdiv 2) = m3 ∧ m3 = ((n * (n - 1) / 2 : Nat) : Int) := by
    have : n = 2 ∨ n = 3 ∨ n = 4 ∨ n = 5 := by omega
    rcases this with rfl | rfl | rfl | rfl <;> exact ⟨_, _, _, rfl, rfl, rfl, by decide +kernel⟩
  have hm1' : m1 = ((n - 1 : Nat) : Int) := by rw [← hm1, wrap64 (by omega) (by omega)]; omega
  have h32 := p32 (n : Int)
  rw [hV] at h32
  obtain ⟨C1, c1, k36, n1⟩ := ctx_li ((D2ok.pt p16).pt h32) (f := 36) (r := fun l => .int .i64 (beE l)) p36
  obtain ⟨C2, c2, k41, n2⟩ := ctx_rl c1
  obtain ⟨C, hC, k43, n3⟩ := ctx_ls c2
  have k16 : C 16 [] = some (.bool true) := by simp [n3, n2, n1]
  have k32 : C 32 [.int .i64 (n : Int)] = some (.tup [.sl 1 (ints (shL n)) .shared, .int .i64 0]) := by simp [n3, n2, n1]
  have q36 : ∀ x l, asI x = some l → C 36 [x] = some (.int .i64 (beE l)) := fun x l h => by simp [n3, n2, k36 x l h]
  have q41 : ∀ x l, asI x = some l → Rl l → C 41 [x] = some (.bool (clrB l)) := fun x l h h' => by simp [n3, k41 x l h h']
  have k23 : C 23 = SNum := by rw [← D2_23]; funext a; simp [n3, n2, n1]
  refine PCall.of hC ok10 (by simp) rfl fun hs' hb => ?_
  simp [A10, R10, wb, hmod, wn]
  refine At.loop (fun (last : Nat) t => 1 ≤ last ∧ last ≤ 20 ∧ t.env 3 = .int .i64 (n : Int) ∧ t.env 5 = .int .i64 (last : Int) ∧ Bst (runL n (last - 1)) (t.env 4)) (fun last => 20 - last) 1 ?_ ?_
  · exact ⟨by omega, by omega, by simp, by simp, by simp [runL, Bst]⟩
  rintro N last t hN ⟨hl1, hl20, e3, e5, hB⟩
  cases hR : runL n (last - 1) with
  | some m =>
    rw [hR] at hB
    obtain ⟨cp, e4⟩ := hB
    have hm := runL_up hR (19 - (last - 1))
    rw [show last - 1 + (19 - (last - 1)) = 19 by omega, hrun] at hm
    injection hm with hm
    subst hm
    have hSe : asI (.sl 1 (ints (shL (n : Int))) cp) = some (shL n) := asI_sl (by omega)
    have z23 := SNum_i hSa hSe
    have z36 := q36 _ _ hSa
    rw [hbe] at z36
    have hnl : n - 1 < (shL (n : Int)).length := by omega
    have hix := aidx_nat hSa hnl (k := .i64)
    rw [← getD_of hnl] at hix
    have hts := slice_take (asI_asV hSa) (n := n - 1) (k := .i64) (by simp [ints]; omega)
    have aT := asV_take (asI_asV hSa) (n - 1)
    rw [show (ints (shL (n : Int))).take (n - 1) = ints ((shL n).take (n - 1)) by simp [ints, List.map_take]] at aT
    rw [← hm1'] at hix hts
    generalize hz : (shL (n : Int)).getD (n - 1) 0 = z at *
    have hz3 : ¬ z < m3 := by omega
    have wz : IntKind.i64.wrap (z + 20) = z + 20 := wrap64 (by omega) (by omega)
    simp [e3, e4, e5, k32, k23, z23, z36, hix, hm1, hm2, hm3, hz3, astoAll, si, hts]
    refine At.cp1 (q := .sl 1 [.int .i64 (z + 20)] .exact) (ys := [z + 20]) aT (asV_sl (by simp)) (by simp; omega) fun y1 hs1 hh1 hn1 b1 => ?_
    simp [e3, e4, hix, hm1, wz, astoAll, si]
    refine At.cp2 b1 (by simp) (by simp) fun y2 hs3 hh3 hn3 b3 => ?_
    have w36 := q36 _ _ b3
    rw [hbe2] at w36
    simp [w36, k16]
  | none =>
    rw [hR] at hB
    have e4 : t.env 4 = .nilsl := hB
    have hne : last ≠ 20 := by
      intro h
      subst h
      rw [show 20 - 1 = 19 from rfl, hrun] at hR
      cases hR
    have hlt : last < 20 := by omega
    have hlt' : (last : Int) < 20 := by omega
    have wl1 : IntKind.i64.wrap ((last : Int) - 1) = ((last - 1 : Nat) : Int) := by rw [wrap64 (by omega) (by omega)]; omega
    have hsh := shl64 (kd := 0) (n := last - 1) (k := .i64) (by omega)
    have hpw := pow64 (n := last - 1) (by omega)
    have hpw2 : 2 ^ (last - 1) ≤ 2 ^ 19 := Nat.pow_le_pow_right (by omega) (by omega)
    have hrl : runL n last = setsL n last (2 ^ (last - 1)) := by
      obtain ⟨k, rfl⟩ : ∃ k, last = k + 1 := ⟨last - 1, by omega⟩
      rw [show k + 1 - 1 = k by omega] at hR
      rw [runL, hR]; rfl
    generalize hM : 2 ^ (last - 1) = M at *
    simp [e4, e5, hlt, hlt']
    refine At.loop (fun (set : Nat) t => set ≤ M ∧ t.env 3 = .int .i64 (n : Int) ∧ t.env 5 = .int .i64 (last : Int) ∧ t.env 6 = .int .i64 (set : Int) ∧ Bst (setsL n last set) (t.env 4)) (fun set => M - set) 0 ?_ ?_
    · exact ⟨by omega, by simp [e3], by simp [e5], by simp, by simp [setsL, Bst, e4]⟩
    rintro N2 set t hN2 ⟨hsm, e3, e5, e6, hB⟩
    simp [e5, e6, wl1, hsh]
    refine At.dec (fun hlt2 => ?_) (fun hlt2 => ?_)
    · simp
      refine At.loop (fun (p : Nat) t => 1 ≤ p ∧ p ≤ last ∧ t.env 3 = .int .i64 (n : Int) ∧ t.env 5 = .int .i64 (last : Int) ∧ t.env 6 = .int .i64 (set : Int) ∧ t.env 8 = .int .i64 (p : Int) ∧ Bst (setsL n last set) (t.env 4) ∧ Grow t.hs (t.env 7) (flN set p)) (fun p => last - p) 1 ?_ ?_
      · refine ⟨by omega, by omega, by simp [e3], by simp [e5], by simp [e6], by simp, by simpa using hB, ⟨?_, ?_⟩⟩
        · simp [Fresh]
        · simp
          exact asI_sl (l := [0]) (by simp)
      rintro N3 p t hN3 ⟨hp1, hpl, e3, e5, e6, e8, hB, hG⟩
      simp [e5, e8]
      refine At.dec (fun hlt3 => ?_) (fun hlt3 => ?_)
      · have wp1 : IntKind.i64.wrap ((p : Int) - 1) = ((p - 1 : Nat) : Int) := by rw [wrap64 (by omega) (by omega)]; omega
        have hshr := shr64 (kd := 0) (a := set) (n := p - 1) (k := .i64) (by omega)
        obtain ⟨a, ha1, ha2⟩ := bitA (set := set) (p := p - 1)
        rw [ha1] at hshr
        have hal : a ≤ set := by rw [← ha1]; exact Nat.div_le_self _ _
        have hand := and64 (kd := 0) (a := a) (b := 1) (by omega) (by omega)
        rw [ha2] at hand
        have hfl := (flN_ok set p hp1).1
        have hfc : flN set (p + 1) = if set.testBit (p - 1) = true then flN set p ++ [(p : Int)] else flN set p := by rw [flN, if_neg (by omega)]
        cases hbit : set.testBit (p - 1) with
        | true =>
          rw [hbit, if_pos rfl] at hfc
          rw [hbit] at hand
          have hand' : abin 0 .and (.int .i64 (a : Int)) (.int .i64 1) = some (.int .i64 1) := hand
          obtain ⟨y, hs2, a1, a2, a3⟩ := hG.add (by omega) (p : Int)
          simp [e6, e8, wp1, hshr, hand', astoAll, si, a1]
          refine hN3 (p + 1) _ (by omega) ⟨by omega, by omega, by simp [e3], by simp [e5], by simp [e6], by simp [wrap_nat1 (show p < _ by omega)], by simpa using hB, ?_⟩
          rw [hfc]
          simpa using a2
        | false =>
          rw [hbit] at hfc
          simp only [Bool.false_eq_true, if_false] at hfc
          rw [hbit] at hand
          have hand' : abin 0 .and (.int .i64 (a : Int)) (.int .i64 1) = some (.int .i64 0) := hand
          simp [e6, e8, wp1, hshr, hand']
          refine hN3 (p + 1) _ (by omega) ⟨by omega, by omega, by simp [e3], by simp [e5], by simp [e6], by simp [wrap_nat1 (show p < _ by omega)], by simpa using hB, ?_⟩
          rw [hfc]
          simpa using hG
      · have : p = last := by omega
        subst this
        obtain ⟨hR1, hR2⟩ := mkL_ok (set := set) hl1 (by omega)
        have hfl := (flN_ok set p hl1).1
        obtain ⟨y, hs2, a1, a2, a3⟩ := hG.add (by omega) (p : Int)
        have hya : asI y = some (mkL set p) := a2.as
        have aly := alen_of hya
        have y41 := q41 _ _ hya hR1
        have hmne : mkL set p ≠ [] := by simp [mkL]
        have hst : setsL n p (set + 1) = stpL n p (setsL n p set) set := rfl
        have hws : IntKind.i64.wrap ((set : Int) + 1) = ((set + 1 : Nat) : Int) := wrap_nat1 (show set < _ by omega)
        simp [e5, astoAll, si, a1]
        have keep : ∀ t' : AS, t'.env 3 = .int .i64 (n : Int) → t'.env 5 = .int .i64 (p : Int) → t'.env 6 = .int .i64 ((set + 1 : Nat) : Int) → setsL n p (set + 1) = setsL n p set → t'.env 4 = t.env 4 → At (N2 t') := by
          intro t' f3 f5 f6 f7 f4
          exact hN2 (set + 1) _ (by omega) ⟨by omega, f3, f5, f6, by rw [f7, f4]; exact hB⟩
        have take' : ∀ t' : AS, t'.env 3 = .int .i64 (n : Int) → t'.env 5 = .int .i64 (p : Int) → t'.env 6 = .int .i64 ((set + 1 : Nat) : Int) → setsL n p (set + 1) = some (mkL set p) → t'.env 4 = y → At (N2 t') := by
          intro t' f3 f5 f6 f7 f4
          exact hN2 (set + 1) _ (by omega) ⟨by omega, f3, f5, f6, by rw [f7, f4]; exact Bst.of hya hmne⟩
        by_cases hln : (mkL set p).length = n
        · have hln' : ((mkL set p).length : Int) = (n : Int) := by omega
          cases hcl : clrB (mkL set p) with
          | false =>
            rw [hcl] at y41
            simp [e3, e6, aly, hln, hln', y41, hws]
            refine keep _ (by simp [e3]) (by simp [e5]) (by simp) ?_ (by simp)
            rw [hst, stpL.eq_def, if_neg (by simp [hcl])]
          | true =>
            rw [hcl] at y41
            cases hS : setsL n p set with
            | none =>
              rw [hS] at hB
              have e4 : t.env 4 = .nilsl := hB
              simp [e3, e4, e6, aly, hln, hln', y41, hws]
              refine take' _ (by simp [e3]) (by simp [e5]) (by simp) ?_ (by simp)
              rw [hst, hS, stpL, if_pos ⟨hln, hcl, rfl⟩]
            | some m =>
              have hml := setsL_len hl1 (by omega) set hS
              rw [hS] at hB
              have hma := hB.as (by omega)
              obtain ⟨cm, e4⟩ := hB
              rw [e4] at hma
              have y43 := k43 _ _ _ _ hya hma
              cases hle2 : lesB (mkL set p) m with
              | true =>
                rw [hle2] at y43
                simp [e3, e4, e6, aly, hln, hln', y41, y43, hws]
                refine take' _ (by simp [e3]) (by simp [e5]) (by simp) ?_ (by simp)
                rw [hst, hS, stpL, if_pos ⟨hln, hcl, hle2⟩]
              | false =>
                rw [hle2] at y43
                simp [e3, e4, e6, aly, hln, hln', y41, y43, hws]
                refine keep _ (by simp [e3]) (by simp [e5]) (by simp) ?_ (by simp [e4])
                rw [hst, hS, stpL, if_neg (by simp [hle2])]
        · have hln' : ¬ ((mkL set p).length : Int) = (n : Int) := by omega
          simp [e3, e6, aly, hln, hln', hws]
          refine keep _ (by simp [e3]) (by simp [e5]) (by simp) ?_ (by simp)
          rw [hst, stpL.eq_def, if_neg (by simp [hln])]
    · have : set = M := by omega
      subst this
      simp [e5]
      refine hN (last + 1) _ (by omega) ⟨by omega, by omega, by simp [e3], by simp [wrap_nat1 (show last < _ by omega)], ?_⟩
      rw [show last + 1 - 1 = last by omega, hrl]
      simpa using hB
theorem least_typed (xs : List AV) (h : Typed [.int .u8] xs) : PCall Try.prog 10 xs (.bool true) := by
  obtain ⟨x, rfl, h1⟩ := h.one
  obtain ⟨a, rfl, ha⟩ := shv_int h1
  obtain ⟨a0, a1⟩ := u8_bd ha
  exact p10 a0 a1
end Go.Proofs.Ytokfmcjepkepjaa
