/-
  A right plan serves its work. Own work.
-/
import Derived.Test.YtokgpcdbpkginaaG8
set_option linter.unusedVariables false
set_option linter.unusedSimpArgs false
namespace Go.Proofs.Ytokgpcdbpkginaa
open Go Fw

/-- the entries for places that are taken -/
def usP (l : List Int) : List (AV × AV) := (l.filter fun v => decide (v ≠ -1)).map fun v => (.int .i64 v, .bool true)
theorem usP_snoc {l : List Int} {j : Nat} (hj : j < l.length) : usP (l.take (j + 1)) = if l[j] = -1 then usP (l.take j) else usP (l.take j) ++ [(.int .i64 l[j], .bool true)] := by
  unfold usP
  rw [take_snoc hj, List.filter_append, List.map_append]
  by_cases h : l[j] = -1
  · simp [h]
  · simp [h]
theorem alook_no {k : Int} : ∀ {vs : List Int} {i : Nat}, (∀ v ∈ vs, v ≠ k) → alook 0 (.int .i64 k) (vs.map fun v => (AV.int .i64 v, AV.bool true)) i = some none
  | [], i, _ => rfl
  | v :: vs, i, h => by
    have h1 : ¬ k = v := fun e => h v (by simp) e.symm
    simp only [List.map_cons, alook, akeq, and_self, if_true, h1, decide_false]
    exact alook_no fun v hv => h v (by simp [hv])
theorem not_before {l : List Int} {j : Nat} (hj : j < l.length) (h : l.count l[j] ≤ 1) : l[j] ∉ l.take j := by
  intro hm
  have h1 : 1 ≤ (l.take j).count l[j] := List.one_le_count_iff.2 hm
  have h2 : 1 ≤ (l.drop j).count l[j] := List.one_le_count_iff.2 (by rw [List.mem_drop_iff_getElem]; exact ⟨0, by omega, by simp⟩)
  have h3 : ∀ v, l.count v = (l.take j).count v + (l.drop j).count v := fun v => by rw [← List.count_append, List.take_append_drop]
  have := h3 l[j]
  omega
theorem look_no {l : List Int} {j : Nat} (hj : j < l.length) (h : l.count l[j] ≤ 1) {hs : HS} {mm : Nat} (hm : hs.mp mm = some (usP (l.take j))) : amem (.look 0 false (.bool false)) hs [.mp mm, .int .i64 l[j]] = some (.bool false, hs) := by
  have : alook 0 (.int .i64 l[j]) (usP (l.take j)) 0 = some none := alook_no fun v hv e => by
    have := (List.mem_filter.1 hv).1
    rw [e] at this
    exact not_before hj h this
  simp only [amem, amlook, aments, hm, akey, beq_self_eq_true, this, Option.map_some, Bool.false_eq_true, if_false]
theorem upd_no {l : List Int} {j : Nat} (hj : j < l.length) (h : l.count l[j] ≤ 1) {hs : HS} {mm : Nat} (hm : hs.mp mm = some (usP (l.take j))) : amem (.mupd 0) hs [.mp mm, .int .i64 l[j], .bool true] = some (.undef, { hs with mp := fun i => if i = mm then some (usP (l.take j) ++ [(.int .i64 l[j], .bool true)]) else hs.mp i }) := by
  have : alook 0 (.int .i64 l[j]) (usP (l.take j)) 0 = some none := alook_no fun v hv e => by
    have := (List.mem_filter.1 hv).1
    rw [e] at this
    exact not_before hj h this
  simp only [amem, amupd, hm, akey, beq_self_eq_true, AV.sto, AV.leaf, Bool.and_self, amput, this, Option.map_some]
theorem len_us {l : List Int} {hs : HS} {mm : Nat} (hm : hs.mp mm = some (usP l)) : amem .mlen hs [.mp mm] = some (.int .i64 ((l.filter fun v => decide (v ≠ -1)).length : Nat), hs) := by
  simp only [amem, amlen, aments, hm, Option.map_some, usP, List.length_map]
theorem remG_bd {m : List (List Int)} (hw : OkW m) {seats : Int} {p : List (Int × List Int)} (hg : ∀ s ∈ p, StepOk m seats s) {i k : Nat} (hi : i < m.length) : - (1100 * (p.length : Int)) ≤ remP m p i k ∧ remP m p i k ≤ 30 := by
  induction p with
  | nil =>
    have := hw.el (List.getElem_mem hi) k
    have e : remP m [] i k = (m[i]).getD k 0 := by simp only [remP, xg]; rw [getD_row hi]
    rw [e]; simp only [List.length_nil]; omega
  | cons s p ih =>
    have h1 := ih fun s hs => hg s (by simp [hs])
    have h2 := hg s (by simp)
    have := h2.h1
    have := h2.h2
    simp only [remP, List.length_cons, Int.natCast_add, Int.natCast_one]
    split <;> omega
set_option maxHeartbeats 4000000 in
theorem p34 {x : AV} {m : List (List Int)} {R : Nat → AV} (hx : IsM x m R) (hw : OkW m) {seats : Int} (hse : 1 ≤ seats ∧ seats ≤ 6) {y : AV} {p : List (Int × List Int)} (hy : IsP y p) (hg : Good m seats p) :
    PCall Try.prog 34 [x, .int .i64 seats, y] (.tup [.int .i64 (short m seats), .bool true]) := by
  have hr6 := hw.r6
  have hr1 := hw.r1
  have hc1 : 1 ≤ cols m := hw.c1
  have hc6 : cols m ≤ 6 := hw.c6
  have hpl := hg.len
  have hps : ∀ i, 0 ≤ psum p i ∧ psum p i ≤ 220000 := fun i => by
    unfold psum
    have := sum_bd (b := 1100) (l := (p.take i).map Prod.fst) (fun n hn => by
      obtain ⟨s, hs, rfl⟩ := List.mem_map.1 hn
      have := hg.st s (List.mem_of_mem_take hs)
      exact ⟨by have := this.h1; omega, this.h2⟩)
    rw [List.length_map, List.length_take] at this
    omega
  refine PCall.of D0ok ok34 (by simp) rfl fun hs hb => ?_
  have hmk : amake false 1 [.nilsl] hs (.int .i64 (m.length : Int)) (.int .i64 (m.length : Int)) = some (.msl false 1 hs.nh 0 m.length true, hs.blk (List.replicate m.length .nilsl)) := amake_eq (by omega)
  generalize hQ : hs.nh = Q at hmk
  have hL0 : LeftM (hs.blk (List.replicate m.length .nilsl)) Q m.length (cols m) (dR m []) 0 := LeftM.zero (by rw [← hQ, HS.blk_new]) (by rw [HS.blk_nh]; omega)
  have hN0 : (hs.blk (List.replicate m.length AV.nilsl)).nh = Q + 1 := by rw [HS.blk_nh, hQ]
  generalize hs.blk (List.replicate m.length .nilsl) = hs0 at *
  simp [A34, R34, hx.len, hmk]
  refine At.loop (fun (r : Nat) s => r ≤ m.length ∧ s.env 0 = x ∧ s.env 1 = .int .i64 seats ∧ s.env 2 = y ∧ s.env 8 = .msl false 1 Q 0 m.length true ∧ s.env 24 = .int .i64 (m.length : Int) ∧ s.env 25 = .int .i64 (r : Int) ∧
    LeftM s.hs Q m.length (cols m) (dR m []) r ∧ s.hs.nh = Q + 1 + r) (fun r => m.length - r) 0 ?_ ?_
  · exact ⟨by omega, by simp, by simp, by simp, by simp, by simp, by simp, by simpa using hL0, by simp [hN0]⟩
  rintro N r s hN ⟨hr, e0, e1, e2, e8, e24, e25, hL, hnh⟩
  simp [e24, e25]
  refine At.dec (fun hlt => ?_) (fun hlt => ?_)
  · have hr' : r < m.length := by omega
    have hrow := hw.rows hx hr'
    have hrl := hw.len hr'
    obtain ⟨tk, hap⟩ := appm_copy hrow (by omega) (by omega) s.hs
    have x1 : aidxS 1 (.msl false 1 Q 0 m.length true) (.int .i64 (r : Int)) = some (.ref Q r) := aidx_msln hr'
    obtain ⟨hp, st, hL', ho'⟩ := hL.add hr' hnh (l := m[r]) (dR_0 hw hr') hrl (nt := s.hs.nt + 1) (k := s.hs.nt) (tk := tk) (mp := s.hs.mp)
    generalize hz : ints m[r] = z at *
    simp [e0, e8, e25, astoAll, hx.get hr', hx.ld hr', hap, x1, st]
    exact hN (r + 1) _ (by omega) ⟨by omega, by simp [e0], by simp [e1], by simp [e2], by simp [e8], by simp [e24], by simp [wrap_nat1 (show r < _ by omega)], by simpa using hL', by simp; omega⟩
  have hr' : r = m.length := by omega
  subst hr'
  simp [e2, hy.len]
  refine At.loop (fun (t : Nat) s => t ≤ p.length ∧ s.env 0 = x ∧ s.env 1 = .int .i64 seats ∧ s.env 8 = .msl false 1 Q 0 m.length true ∧ s.env 10 = .int .i64 (psum p t) ∧ s.env 38 = y ∧ s.env 39 = .int .i64 (p.length : Int) ∧ s.env 40 = .int .i64 (t : Int) ∧
    LeftM s.hs Q m.length (cols m) (dR m (p.take t)) m.length) (fun t => p.length - t) 0 ?_ ?_
  · exact ⟨by omega, by simp [e0], by simp [e1], by simp [e8], by simp [psum], by simp, by simp, by simp, by simpa using hL⟩
  clear hL e0 e1 e2 e8 e24 e25 hN hnh hlt hL0 hN0 hmk
  rintro N2 t s hN2 ⟨ht, e0, e1, e8, e10, e38, e39, e40, hL⟩
  simp [e39, e40]
  refine At.dec (fun hlt2 => ?_) (fun hlt2 => ?_)
  · have ht' : t < p.length := by omega
    obtain ⟨a, g1, ha⟩ := hy.get t ht'
    have hso := hg.st p[t] (List.getElem_mem ht')
    have htk := take_snoc ht'
    have hh1 : ¬ p[t].1 < 1 := by have := hso.h1; omega
    have hh2 : ¬ 10000 < p[t].1 := by have := hso.h2; omega
    have hst := store_ag (hp := fun k => if k = s.hs.nh then some [.int .i64 0, .nilsl] else s.hs.heap k) (i := s.hs.nh) (u1 := .int .i64 0) (u2 := .nilsl) (v1 := .int .i64 p[t].1) (v2 := a) (by simp)
    have hld : ∀ hp, aload hp true 2 (.ptr (.agg [.int .i64 p[t].1, a])) = some (.agg [.int .i64 p[t].1, a]) := fun hp => rfl
    have hal := alen_of ha
    rw [hso.len] at hal
    have wp : IntKind.i64.wrap (psum p t + p[t].1) = psum p (t + 1) := by
      have h1 := hps (t + 1)
      have h2 : psum p (t + 1) = psum p t + p[t].1 := by
        unfold psum; rw [htk, List.map_append, List.sum_append]; simp
      rw [← h2]; exact wrap64 (by omega) (by omega)
    have hnh := hL.nh
    simp [e0, e10, e38, e40, g1, hld, hst, la, fa, apart, hh1, hh2, hal, hx.len, wp, amem]
    generalize hc : s.hs.nh = c at *
    refine At.loop (fun (j : Nat) s2 => j ≤ m.length ∧ s2.env 0 = x ∧ s2.env 1 = .int .i64 seats ∧ s2.env 8 = .msl false 1 Q 0 m.length true ∧ s2.env 10 = .int .i64 (psum p (t + 1)) ∧ s2.env 38 = y ∧ s2.env 39 = .int .i64 (p.length : Int) ∧ s2.env 40 = .int .i64 (t : Int) ∧
      s2.env 12 = .ref c 0 ∧ s2.env 13 = .mp (c + 1) ∧ s2.env 66 = a ∧ s2.env 67 = .int .i64 (m.length : Int) ∧ s2.env 68 = .int .i64 (j : Int) ∧ s2.hs.heap c = some [.int .i64 p[t].1, a] ∧ s2.hs.mp (c + 1) = some (usP (p[t].2.take j)) ∧
      LeftM s2.hs Q m.length (cols m) (fun r => if r < j then dR m (p.take (t + 1)) r else dR m (p.take t) r) m.length) (fun j => m.length - j) 0 ?_ ?_
    · refine ⟨by omega, by simp [e0], by simp [e1], by simp [e8], by simp, by simp [e38], by simp [e39], by simp [e40], by simp, by simp, by simp, by simp, by simp, by simp, by simp [usP], ?_⟩
      have hD : (fun r => if r < 0 then dR m (p.take (t + 1)) r else dR m (p.take t) r) = dR m (p.take t) := by funext r; rw [if_neg (by omega)]
      rw [hD]
      refine hL.up (fun j _ hj => ?_) (by simp; omega)
      simp
      rw [if_neg (by omega), if_neg (by omega)]
    clear hst e0 e1 e8 e10 e38 e39 e40 hL hc
    rintro N3 j s2 hN3 ⟨hj, e0, e1, e8, e10, e38, e39, e40, e12, e13, e66, e67, e68, hcell, hmp, hL⟩
    simp [e67, e68]
    refine At.dec (fun hlt3 => ?_) (fun hlt3 => ?_)
    · have hj' : j < m.length := by omega
      have hja : j < p[t].2.length := by rw [hso.len]; exact hj'
      have wj : IntKind.i64.wrap ((j : Int) + 1) = ((j + 1 : Nat) : Int) := wrap_nat1 (by omega)
      have hgj : p[t].2.getD j 0 = p[t].2[j] := getD_of hja
      have hus := usP_snoc hja
      by_cases hid : p[t].2[j] = -1
      · rw [if_pos hid] at hus
        simp [e66, e68, aidx_nat ha hja, hid]
        refine hN3 (j + 1) _ (by omega) ⟨by omega, by simp [e0], by simp [e1], by simp [e8], by simp [e10], by simp [e38], by simp [e39], by simp [e40], by simp [e12], by simp [e13], by simp [e66], by simp [e67], by simp [wj], by simp [hcell], by simp [hmp, hus], ?_⟩
        have hD : (fun r => if r < j + 1 then dR m (p.take (t + 1)) r else dR m (p.take t) r) = (fun r => if r < j then dR m (p.take (t + 1)) r else dR m (p.take t) r) := by
          funext r
          by_cases e2 : r = j
          · subst e2
            rw [if_pos (by omega), if_neg (by omega), htk, dR_same (by rw [hgj, hid])]
          · by_cases e3 : r < j
            · rw [if_pos (by omega), if_pos e3]
            · rw [if_neg (by omega), if_neg e3]
        rw [hD]; simpa using hL
      · rw [if_neg hid] at hus
        have hpl2 := hso.pl p[t].2[j] (List.getElem_mem hja)
        obtain ⟨k, hk, e⟩ : ∃ k : Nat, k < cols m ∧ p[t].2[j] = (k : Int) := ⟨(p[t].2[j]).toNat, by omega, by omega⟩
        have hone := hso.one k hk
        have hcnt : p[t].2.count p[t].2[j] ≤ 1 := by rw [e]; exact hone
        have hlk := look_no hja hcnt hmp
        have hup := upd_no hja hcnt hmp
        rw [e] at hlk hup hus
        have rl0 : alenK false (R 0) = some (.int .i64 (cols m : Int)) := by rw [hx.rlen (show 0 < m.length by omega), hw.len (show 0 < m.length by omega)]
        obtain ⟨kk, ldr⟩ := hL.get hj' hj'
        have hrow := hL.row j hj'
        rw [if_neg (by omega)] at hrow
        have hkd : k < (dR m (p.take t) j).length := by rw [dR_len]; exact hk
        have hldc := ld_ints hrow hkd
        rw [dR_get] at hldc
        have hst := st_ints (v := remP m (p.take t) j k - p[t].1) hrow hkd
        rw [dR_set hk (by rw [hgj, e]), ← htk] at hst
        have hb := remG_bd hw (fun s hs => hg.st s (List.mem_of_mem_take hs)) (p := p.take t) (k := k) hj'
        have htl : (p.take t).length ≤ 149 := by rw [List.length_take]; omega
        have hb1 := hso.h2
        have hb2 := hso.h1
        have wc : IntKind.i64.wrap (remP m (p.take t) j k - p[t].1) = remP m (p.take t) j k - p[t].1 := wrap64 (by omega) (by omega)
        have x1 : aidxS 1 (.msl false 1 Q 0 m.length true) (.int .i64 (j : Int)) = some (.ref Q j) := aidx_msln hj'
        have x2 : aidxS 1 (.osl false 1 (Q + 1 + j) (cols m) kk) (.int .i64 (k : Int)) = some (.ref (Q + 1 + j) k) := by simp [aidxS, hk]
        have hnh2 := hL.nh
        have k1 : ¬ (k : Int) = -1 := by omega
        have k0 : ¬ (k : Int) < 0 := by omega
        have k2 : ¬ (cols m : Int) ≤ (k : Int) := by omega
        have k3 : ¬ cols m ≤ k := by omega
        generalize hz : ints (dR m (p.take (t + 1)) j) = z at hst
        have hcq : ¬ c = Q + 1 + j := by omega
        simp [e0, e8, e12, e13, e66, e68, aidx_nat ha hja, e, k0, k1, k2, k3, hx.get0 (show 0 < m.length by omega), hx.ld (show 0 < m.length by omega), rl0, hlk, hup, x1, ldr, x2, hldc, fa, la, hcell, apart, wc]
        simp [hst, e68]
        refine hN3 (j + 1) _ (by omega) ⟨by omega, by simp [e0], by simp [e1], by simp [e8], by simp [e10], by simp [e38], by simp [e39], by simp [e40], by simp [e12], by simp [e13], by simp [e66], by simp [e67], by simp [wj], by simp [hcell, hcq], by simp [hus], ?_⟩
        have hD : (fun r => if r < j + 1 then dR m (p.take (t + 1)) r else dR m (p.take t) r) = fun r => if r = j then dR m (p.take (t + 1)) j else (if r < j then dR m (p.take (t + 1)) r else dR m (p.take t) r) := by
          funext r
          by_cases e2 : r = j
          · subst e2; rw [if_pos (by omega), if_pos rfl]
          · rw [if_neg e2]
            by_cases e3 : r < j
            · rw [if_pos (by omega), if_pos e3]
            · rw [if_neg (by omega), if_neg e3]
        rw [hD]
        simp only [put_hs, hs_mk]
        exact hL.put hj' (dR_len _ _ _) (by simp only; rw [if_pos trivial, hz]) (fun r hr => by simp only; rw [if_neg hr]) (Nat.le_refl _)
    · have hj' : j = m.length := by omega
      subst hj'
      rw [show p[t].2.take m.length = p[t].2 from List.take_of_length_le (by rw [hso.len]; exact Nat.le_refl _)] at hmp
      have hln := len_us hmp
      have hfew := hso.few
      generalize ((p[t].2.filter fun v => decide (v ≠ -1)).length) = fw at *
      have hfw : ¬ seats < (fw : Int) := by omega
      simp [e1, e13, e40, hln, hfw]
      refine hN2 (t + 1) _ (by omega) ⟨by omega, by simp [e0], by simp [e1], by simp [e8], by simp [e10], by simp [e38], by simp [e39], by simp [wrap_nat1 (show t < _ by omega)], ?_⟩
      refine ⟨by simpa using hL.cell, fun r hr => ?_, fun r hr => dR_len _ _ _, by simpa using hL.nh⟩
      have := hL.row r hr
      rw [if_pos hr] at this
      simpa using this
  · have ht' : t = p.length := by omega
    subst ht'
    rw [List.take_length] at hL
    have hpt : psum p p.length = short m seats := by rw [psum, List.take_length]; exact hg.tot
    rw [hpt] at e10
    simp [e8]
    refine At.loop (fun (r : Nat) s => r ≤ m.length ∧ s.env 10 = .int .i64 (short m seats) ∧ s.env 109 = .msl false 1 Q 0 m.length true ∧ s.env 110 = .int .i64 (m.length : Int) ∧ s.env 111 = .int .i64 (r : Int) ∧
      LeftM s.hs Q m.length (cols m) (dR m p) m.length) (fun r => m.length - r) 0 ?_ ?_
    · exact ⟨by omega, by simp [e10], by simp, by simp, by simp, by simpa using hL⟩
    clear hL hN2 e0 e1 e8 e10 e38 e39 e40 hlt2
    rintro N4 r s4 hN4 ⟨hr, e10, e109, e110, e111, hL⟩
    simp [e110, e111]
    refine At.dec (fun hlt4 => ?_) (fun hlt4 => ?_)
    · have hr' : r < m.length := by omega
      have x1 : aidxS 1 (.msl false 1 Q 0 m.length true) (.int .i64 (r : Int)) = some (.ref Q r) := aidx_msln hr'
      obtain ⟨kk, ldr⟩ := hL.get hr' hr'
      have hal : alenK false (.osl false 1 (Q + 1 + r) (cols m) kk) = some (.int .i64 (cols m : Int)) := rfl
      simp [e109, e111, x1, ldr, hal]
      refine At.loop (fun (k : Nat) s => k ≤ cols m ∧ s.env 10 = .int .i64 (short m seats) ∧ s.env 109 = .msl false 1 Q 0 m.length true ∧ s.env 110 = .int .i64 (m.length : Int) ∧ s.env 111 = .int .i64 (r : Int) ∧ s.env 115 = .osl false 1 (Q + 1 + r) (cols m) kk ∧ s.env 116 = .int .i64 (cols m : Int) ∧ s.env 117 = .int .i64 (k : Int) ∧
        LeftM s.hs Q m.length (cols m) (dR m p) m.length) (fun k => cols m - k) 0 ?_ ?_
      · exact ⟨by omega, by simp [e10], by simp [e109], by simp [e110], by simp [e111], by simp, by simp, by simp, by simpa using hL⟩
      clear hL e10 e109 e110 e111 ldr
      rintro N5 k s5 hN5 ⟨hk, e10, e109, e110, e111, e115, e116, e117, hL⟩
      simp [e116, e117]
      refine At.dec (fun hlt5 => ?_) (fun hlt5 => ?_)
      · have hk' : k < cols m := by omega
        have x2 : aidxS 1 (.osl false 1 (Q + 1 + r) (cols m) kk) (.int .i64 (k : Int)) = some (.ref (Q + 1 + r) k) := by simp [aidxS, hk']
        have hldc := ld_ints (hL.row r hr') (show k < (dR m p r).length by rw [dR_len]; exact hk')
        rw [dR_get, hg.rem r k hr' hk'] at hldc
        simp [e115, e117, x2, hldc]
        exact hN5 (k + 1) _ (by omega) ⟨by omega, by simp [e10], by simp [e109], by simp [e110], by simp [e111], by simp [e115], by simp [e116], by simp [wrap_nat1 (show k < _ by omega)], by simpa using hL⟩
      · simp [e111]
        exact hN4 (r + 1) _ (by omega) ⟨by omega, by simp [e10], by simp [e109], by simp [e110], by simp [wrap_nat1 (show r < _ by omega)], by simpa using hL⟩
    · simp [e10]
end Go.Proofs.Ytokgpcdbpkginaa
