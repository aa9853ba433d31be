/-
  HoursWait, joined. Own work.
-/
import Derived.Test.YtokgpcdbpkginaaG12
set_option linter.unusedVariables false
set_option linter.unusedSimpArgs false
namespace Go.Proofs.Ytokgpcdbpkginaa
open Go Fw

theorem wait_frz {hs : HS} {q R : Nat} {h : Int} {p : List (Int × List Int)} {k : Nat} {c : Cap} (hq : hs.heap q = some (ints (List.replicate R (-1)))) :
    frz hs.heap 2 (.sl 2 ((p.take k).map stepV ++ [.agg [.int .i64 h, .msl false 1 q 0 R true]] ++ (p.drop k).map stepV) c) = .sl 2 ((waitP R p k h).map stepV) c := by
  have hid : ∀ l : List (Int × List Int), (l.map stepV).map (frzC (frzL hs.heap 1)) = l.map stepV := fun l => by
    rw [List.map_map]
    apply List.map_congr_left
    intro s _
    simp only [Function.comp, stepV, frzC_agg, List.map_cons, List.map_nil, frzL_int]
    rw [frzL_noM (noM_ints 1 s.2 .exact)]
  have hm : frzL hs.heap 1 (.msl false 1 q 0 R true) = .sl 1 (ints (List.replicate R (-1))) .exact := by
    have := ints_cont (List.replicate R (-1))
    rw [List.length_replicate] at this
    rw [frzL_msl hq this, map_frz_ints]; rfl
  rw [frz_sl, frzL_sls]
  congr 1
  rw [List.map_append, List.map_append, hid, hid]
  simp [waitP, stepV, hm]
def modW (a n : Nat) : Nat := a % n
def useB (l : List Int) : Bool := l.any fun v => !decide (v = -1)
theorem useB_0 (l : List Int) : useB (l.take 0) = false := rfl
theorem useB_s {l : List Int} {d : Nat} (hd : d < l.length) : useB (l.take (d + 1)) = (useB (l.take d) || !decide (l[d] = -1)) := any_take_succ hd
set_option maxHeartbeats 4000000 in
theorem p7 (u : Nat → Nat) (hu : ∀ j, u j < 256) (a b : Nat) (ha : a < 256) (hb : b < 256) : PCall Try.prog 7 [benV u, .int .u8 (a : Int), .int .u8 (b : Int)] (.bool true) := by
  have q30 := p30 u hu (most := 9) (by omega)
  have hx := isMU u 9
  have hw := mU_ok u (most := 9) (by omega)
  have hS := sN_bd u
  generalize hM : mU u 9 = m at *
  generalize hX : madV m = x at *
  generalize hR : (fun i => shR (m.getD i [])) = R at *
  generalize hSN : ((sN u : Nat) : Int) = S at *
  have hS6 : 1 ≤ S ∧ S ≤ 6 := by omega
  have hr6 := hw.r6
  have hr1 := hw.r1
  have hch := chsE_zero.2 ⟨hw, hS6⟩
  have hG := plan_good hw hS6
  have hP := plan_len m hw hS6
  have hpl := hG.len
  have bsh := short_bd hw hS6
  have q33 := p33 hx hw hS6
  have q16 := p16 hx S
  rw [plnV, if_pos hch] at q16
  have q23 := p23 hx S
  rw [busV, if_pos hch] at q23
  have q34 := p34 hx hw hS6 hP hG
  have hptk := fun {k : Nat} (hk : k ≤ (planP m S).length) => pl_take (planP m S) (by omega) hk
  have hpdr := fun {k : Nat} (hk : k ≤ (planP m S).length) => pl_drop (planP m S) (by omega) hk
  have hrow : ∀ s ∈ planP m S, s.2.length = m.length := fun s hs => (hG.st s hs).len
  generalize hp : planP m S = p at *
  generalize hy : planV p = y at *
  have hx1 : asI (outV 1 (ints (posI (arts m) (short m S)))) = some (posI (arts m) (short m S)) := asI_outV (by have := posT_len (arts m) (short m S) (arts m).length; unfold posI; rw [arts_len] at *; omega)
  have hx2 : asI (outV 1 (ints (posI (machs m) (short m S)))) = some (posI (machs m) (short m S)) := asI_outV (by have := posT_len (machs m) (short m S) (machs m).length; have := hw.c6; have : cols m ≤ 6 := this; unfold posI; rw [machs_len] at *; omega)
  generalize outV 1 (ints (posI (arts m) (short m S))) = x1 at *
  generalize outV 1 (ints (posI (machs m) (short m S))) = x2 at *
  obtain ⟨C0, hC0, k20, n20⟩ := ctx20 (((((D0ok.pt q30).pt p15).pt q16).pt q23).pt q33 |>.pt q34) hx S
  obtain ⟨C, hC, k22, n22⟩ := ctx22 hC0 hx S
  obtain ⟨E, hE, e30, e15, e16, e23, e33, e34, e20, e22⟩ : ∃ E, CtxOk Try.prog E ∧ E 30 [benV u, .int .i64 9] = some (.tup [x, .int .i64 S]) ∧ E 15 [] = some (.bool true) ∧ E 16 [x, .int .i64 S] = some (.tup [y, .int .i64 0]) ∧ E 23 [x, .int .i64 S] = some (.tup [x1, x2, .int .i64 0]) ∧ E 33 [x, .int .i64 S] = some (.int .i64 (short m S)) ∧ E 34 [x, .int .i64 S, y] = some (.tup [.int .i64 (short m S), .bool true]) ∧
      (∀ y q, IsP y q → E 20 [x, .int .i64 S, y] = some (lenV m S q)) ∧ (∀ y q, IsP y q → E 22 [x, .int .i64 S, y] = some (.int .i64 (verE m S q))) := by
    refine ⟨C, hC, ?_, ?_, ?_, ?_, ?_, ?_, fun y q h => by rw [n22 20 (by decide)]; exact k20 y q h, k22⟩
    all_goals (rw [n22 _ (by decide), n20 _ (by decide)]; simp)
  have a33 : ∀ hs, alcall E 33 hs [x, .int .i64 S] = some (.int .i64 (short m S)) := fun hs => alcall_of (by simp [hx.frz, e33]) rfl
  refine PCall.of hE ok7 (by simp) rfl fun hs hbr => ?_
  have hsb : (benV u).sto = true := rfl
  have hmk : amake false 1 [.int .i64 0] hs (.int .i64 (m.length : Int)) (.int .i64 (m.length : Int)) = some (.msl false 1 hs.nh 0 m.length true, hs.blk (List.replicate m.length (.int .i64 0))) := amake_eq (by omega)
  rw [ints_rep, ← repL_0] at hmk
  have hc0 : (hs.blk (ints (repL m.length 0))).heap hs.nh = some (ints (repL m.length 0)) := by rw [HS.blk_new]
  generalize hs.blk (ints (repL m.length 0)) = hs0 at *
  generalize hs.nh = q at *
  rw [A7_eq]
  simp [A7x, hsb, ben_l, e30, e16, e23, a33, e34, hx.len, hmk]
  refine At.loop (fun (i : Nat) s => i ≤ m.length ∧ s.env 1 = .int .u8 (a : Int) ∧ s.env 2 = .int .u8 (b : Int) ∧ s.env 7 = x ∧ s.env 8 = .int .i64 S ∧ s.env 9 = y ∧ s.env 11 = x1 ∧ s.env 12 = x2 ∧ s.env 14 = .int .i64 (short m S) ∧ s.env 17 = .msl false 1 q 0 m.length true ∧ s.env 92 = .int .i64 (m.length : Int) ∧ s.env 93 = .int .i64 (i : Int) ∧ s.hs.heap q = some (ints (repL m.length i))) (fun i => m.length - i) 0 ?_ ?_
  · exact ⟨by omega, by simp, by simp, by simp, by simp, by simp, by simp, by simp, by simp, by simp, by simp, by simp, by simp [hc0]⟩
  rintro N i s hN ⟨hi, e1, e2, e7, e8, e9, e11, e12, e14, e17, e92, e93, hq⟩
  simp [e92, e93]
  refine At.dec (fun hlt => ?_) (fun hlt => ?_)
  · have hi' : i < m.length := by omega
    have x1' : aidxS 1 (.msl false 1 q 0 m.length true) (.int .i64 (i : Int)) = some (.ref q i) := aidx_msln hi'
    have st := st_ints (v := -1) hq (show i < (repL m.length i).length by rw [repL_len (by omega)]; exact hi')
    rw [repL_s hi'] at st
    generalize hz : ints (repL m.length (i + 1)) = z at *
    simp [e17, e93, x1', st]
    exact hN (i + 1) _ (by omega) ⟨by omega, by simp [e1], by simp [e2], by simp [e7], by simp [e8], by simp [e9], by simp [e11], by simp [e12], by simp [e14], by simp [e17], by simp [e92], by simp [wrap_nat1 (show i < _ by omega)], by simp [hz]⟩
  have hi' : i = m.length := by omega
  subst hi'
  rw [repL_n] at hq
  clear hN e92 e93 hlt
  have ca : IntKind.i64.wrap (a : Int) = a := wrap_nat (by omega)
  have cb : IntKind.i64.wrap (b : Int) = b := wrap_nat (by omega)
  have wl : IntKind.i64.wrap ((p.length : Int) + 1) = (p.length : Int) + 1 := wrap64 (by omega) (by omega)
  have nz : ¬ (p.length : Int) + 1 = 0 := by omega
  have t1 : (a : Int).tmod ((p.length : Int) + 1) = (modW a (p.length + 1) : Int) := rfl
  have t2 : (b : Int).tmod 9 = (modW b 9 : Int) := rfl
  have hk : modW a (p.length + 1) ≤ p.length := by have := Nat.mod_lt a (show 0 < p.length + 1 by omega); unfold modW; omega
  have hh : modW b 9 < 9 := Nat.mod_lt b (by omega)
  generalize modW a (p.length + 1) = k at *
  generalize modW b 9 = h9 at *
  have w9 : IntKind.i64.wrap (1 + (h9 : Int)) = 1 + (h9 : Int) := wrap64 (by omega) (by omega)
  obtain ⟨z1, s1, v1⟩ := hptk hk
  obtain ⟨z2, s2, v2⟩ := hpdr hk
  obtain ⟨c1, hs1, ap1, fr1, sm1⟩ := app_sl (hs := s.hs) (xs := []) (c := .exact) trivial v1 (by simp; omega)
  rw [List.nil_append] at ap1 fr1
  have vm : asV 2 (.sl 2 [.agg [.int .i64 (1 + (h9 : Int)), .msl false 1 q 0 m.length true]] .exact) = some [.agg [.int .i64 (1 + (h9 : Int)), .msl false 1 q 0 m.length true]] := asV_sl (by simp)
  obtain ⟨c2, hs2, ap2, fr2, sm2⟩ := app_sl fr1 vm (by simp; omega)
  obtain ⟨c3, hs3, ap3, fr3, sm3⟩ := app_sl fr2 v2 (by simp; omega)
  have hq3 : hs3.heap q = some (ints (List.replicate m.length (-1))) := by rw [sm3.heap, sm2.heap, sm1.heap]; exact hq
  have hWl : ((p.take k).map stepV ++ [AV.agg [.int .i64 (1 + (h9 : Int)), .msl false 1 q 0 m.length true]] ++ (p.drop k).map stepV).length = p.length + 1 := by simp; omega
  have hfz := wait_frz (h := 1 + (h9 : Int)) (p := p) (k := k) (c := c3) hq3
  have hwv := wait_ver hw hS6 hG hk (h := 1 + (h9 : Int)) (by omega)
  have hlv : lenV m S (waitP m.length p k (1 + (h9 : Int))) = .tup [.int .i64 (short m S + 1 + (h9 : Int)), .int .i64 0] := by
    rw [lenV, if_pos hwv.1, hwv.2.1, Int.add_assoc]
  have hip : IsP (.sl 2 ((waitP m.length p k (1 + (h9 : Int))).map stepV) c3) (waitP m.length p k (1 + (h9 : Int))) := isP_sl (by rw [waitP_len _ _ _ hk]; omega) (fun s hs => by
    simp only [waitP, List.mem_append, List.mem_singleton] at hs
    rcases hs with (hs | hs) | hs
    · have := hrow s (List.mem_of_mem_take hs); omega
    · rw [hs]; simp; omega
    · have := hrow s (List.mem_of_mem_drop hs); omega)
  generalize (p.take k).map stepV ++ [AV.agg [.int .i64 (1 + (h9 : Int)), .msl false 1 q 0 m.length true]] ++ (p.drop k).map stepV = W at *
  generalize (p.take k).map stepV ++ [AV.agg [.int .i64 (1 + (h9 : Int)), .msl false 1 q 0 m.length true]] = W2 at *
  generalize (p.take k).map stepV = W1 at *
  have a20 : alcall E 20 hs3 [x, .int .i64 S, .sl 2 W c3] = some (.tup [.int .i64 (short m S + 1 + (h9 : Int)), .int .i64 0]) := alcall_of (by simp only [List.map_cons, List.map_nil, hx.frz, frz_int, hfz, e20 _ _ hip, hlv]) rfl
  have a22 : alcall E 22 hs3 [x, .int .i64 S, .sl 2 W c3] = some (.int .i64 14) := alcall_of (by simp only [List.map_cons, List.map_nil, hx.frz, frz_int, hfz, e22 _ _ hip, hwv.2.2]) rfl
  have wv1 : IntKind.i64.wrap (short m S + 1) = short m S + 1 := wrap64 (by omega) (by omega)
  have wv2 : IntKind.i64.wrap (short m S + 1 + (h9 : Int)) = short m S + 1 + (h9 : Int) := wrap64 (by omega) (by omega)
  have h200 : (W.length : Int) ≤ 200 := by omega
  have csl : ∀ sz xs c, (AV.sl sz xs c).cells = [.sl sz xs c] := fun _ _ _ => rfl
  simp [e1, e2, e7, e8, e9, e14, e17, hP.len, ca, cb, wl, nz, t1, t2, w9, astoAll, s1, s2, ap1, afill, setL, si, ci, sm, cm, sa, Fw.ca, ap2, ap3]
  rcases Nat.lt_or_ge k p.length with hkl | hkl
  rotate_left
  · have hkl2 : ¬ (k : Int) < (p.length : Int) := by omega
    have hkl3 : ¬ k < p.length := by omega
    by_cases hp0 : 0 < p.length
    · simp [h200, a20, a22, e1, e2, e7, e8, e9, e14, wv1, cb, t2, wv2, hP.len, hp0, hkl2, hkl3]
      exact tail7 hE e15 hx hw hS6 hG hP hx1 hx2 (by simp [e7]) (by simp [e9]) (by simp [e11]) (by simp [e12]) (by simp [e14])
    · simp [h200, a20, a22, e1, e2, e7, e8, e9, e14, wv1, cb, t2, wv2, hP.len, hp0, hkl2, hkl3]
      exact tail7 hE e15 hx hw hS6 hG hP hx1 hx2 (by simp [e7]) (by simp [e9]) (by simp [e11]) (by simp [e12]) (by simp [e14])
  have hp0 : 0 < p.length := by omega
  have wk1 : IntKind.i64.wrap ((k : Int) + 1) = ((k + 1 : Nat) : Int) := wrap_nat1 (by omega)
  obtain ⟨z3, s3, v3⟩ := hpdr (k := k + 1) (by omega)
  obtain ⟨z4, s4, v4⟩ := hptk (k := k) (by omega)
  obtain ⟨d1, hd1, aq1, fq1, sq1⟩ := app_sl (hs := hs3) (xs := []) (c := .exact) trivial v4 (by simp; omega)
  rw [List.nil_append] at aq1 fq1
  obtain ⟨d2, hd2, aq2, fq2, sq2⟩ := app_sl fq1 v3 (by simp; omega)
  have hle : (p.take k).map stepV ++ (p.drop (k + 1)).map stepV = (lessP p k).map stepV := by rw [lessP, List.map_append]
  rw [hle] at aq2 fq2
  have hip2 : IsP (.sl 2 ((lessP p k).map stepV) d2) (lessP p k) := isP_sl (by simp [lessP]; omega) (fun s hs => by
    simp only [lessP, List.mem_append] at hs
    rcases hs with hs | hs
    · have := hrow s (List.mem_of_mem_take hs); omega
    · have := hrow s (List.mem_of_mem_drop hs); omega)
  have b22 : ∀ hs, alcall E 22 hs [x, .int .i64 S, .sl 2 ((lessP p k).map stepV) d2] = some (.int .i64 (verE m S (lessP p k))) := fun hs => alcall_of (by simp only [List.map_cons, List.map_nil, hx.frz, frz_int, hip2.frz, e22 _ _ hip2]) rfl
  have hlv13 := less_ver hw hS6 hG hkl
  obtain ⟨ak, g1, g2⟩ := hP.get k hkl
  have hrk := hrow p[k] (List.getElem_mem hkl)
  rw [s4] at s1
  injection s1 with s1
  subst s1
  generalize (lessP p k).map stepV = W5 at *
  generalize (p.take k).map stepV = W6 at *
  rw [Int.natCast_add, Int.natCast_one] at s3 wk1
  simp [h200, a20, a22, e1, e2, e7, e8, e9, e14, wv1, cb, t2, wv2, hP.len, hp0, hkl, s4, aq1, wk1, s3, aq2, g1, asI_ld g2, alen_of g2, astoAll]
  refine At.loop (fun (d : Nat) s => d ≤ p[k].2.length ∧ s.env 7 = x ∧ s.env 8 = .int .i64 S ∧ s.env 9 = y ∧ s.env 11 = x1 ∧ s.env 12 = x2 ∧ s.env 14 = .int .i64 (short m S) ∧ s.env 23 = .sl 2 W5 d2 ∧ s.env 24 = .bool (useB (p[k].2.take d)) ∧ s.env 175 = ak ∧ s.env 176 = .int .i64 (p[k].2.length : Int) ∧ s.env 177 = .int .i64 (d : Int)) (fun d => p[k].2.length - d) 0 ?_ ?_
  · exact ⟨by omega, by simp [e7], by simp [e8], by simp [e9], by simp [e11], by simp [e12], by simp [e14], by simp, by simp [useB], by simp, by simp, by simp⟩
  rintro N d s5 hN ⟨hd, f7, f8, f9, f11, f12, f14, f23, f24, f175, f176, f177⟩
  simp [f176, f177]
  refine At.dec (fun hlt5 => ?_) (fun hlt5 => ?_)
  · have hd' : d < p[k].2.length := by omega
    have hat := useB_s hd'
    have wd : IntKind.i64.wrap ((d : Int) + 1) = ((d + 1 : Nat) : Int) := wrap_nat1 (by omega)
    cases hB1 : useB (p[k].2.take d) with
    | true =>
      rw [hB1] at hat f24
      simp only [Bool.true_or] at hat
      simp [f24, f175, f177, aidx_nat g2 hd']
      exact hN (d + 1) _ (by omega) ⟨by omega, by simp [f7], by simp [f8], by simp [f9], by simp [f11], by simp [f12], by simp [f14], by simp [f23], by simp [hat], by simp [f175], by simp [f176], by simp [wd]⟩
    | false =>
      rw [hB1] at hat f24
      by_cases hv : p[k].2[d] = -1
      · simp only [hv, decide_true, Bool.not_true, Bool.or_false] at hat
        simp [f24, f175, f177, aidx_nat g2 hd', hv]
        exact hN (d + 1) _ (by omega) ⟨by omega, by simp [f7], by simp [f8], by simp [f9], by simp [f11], by simp [f12], by simp [f14], by simp [f23], by simp [hat], by simp [f175], by simp [f176], by simp [wd]⟩
      · simp only [hv, decide_false, Bool.not_false, Bool.or_true] at hat
        simp [f24, f175, f177, aidx_nat g2 hd', hv]
        exact hN (d + 1) _ (by omega) ⟨by omega, by simp [f7], by simp [f8], by simp [f9], by simp [f11], by simp [f12], by simp [f14], by simp [f23], by simp [hat], by simp [f175], by simp [f176], by simp [wd]⟩
  · have hd' : d = p[k].2.length := by omega
    subst hd'
    rw [List.take_length] at f24
    cases hB : useB p[k].2 with
    | false =>
      rw [hB] at f24
      simp [f24]
      exact tail7 hE e15 hx hw hS6 hG hP hx1 hx2 (by simp [f7]) (by simp [f9]) (by simp [f11]) (by simp [f12]) (by simp [f14])
    | true =>
      rw [hB] at f24
      have h13 := hlv13 (by
        obtain ⟨v, hv, hne⟩ := List.any_eq_true.1 hB
        exact ⟨v, hv, by simpa using hne⟩)
      simp [f24, f7, f8, f23, b22, h13]
      exact tail7 hE e15 hx hw hS6 hG hP hx1 hx2 (by simp [f7]) (by simp [f9]) (by simp [f11]) (by simp [f12]) (by simp [f14])
theorem wait_typed (xs : List AV) (h : Typed [TBe, .int .u8, .int .u8] xs) : PCall Try.prog 7 xs (.bool true) := by
  obtain ⟨x, y, z, rfl, h1, h2, h3⟩ := h.three
  obtain ⟨u, hu, rfl⟩ := ben_typed h1
  obtain ⟨n, hn, rfl⟩ := u8_typed h2
  obtain ⟨k, hk, rfl⟩ := u8_typed h3
  exact p7 u hu n k hn hk
end Go.Proofs.Ytokgpcdbpkginaa
