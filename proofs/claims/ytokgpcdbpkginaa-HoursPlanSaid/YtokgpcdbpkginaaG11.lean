/-
  HoursPlan, walked. Own work.
-/
import Derived.Test.YtokgpcdbpkginaaG10
set_option linter.unusedVariables false
set_option linter.unusedSimpArgs false
namespace Go.Proofs.Ytokgpcdbpkginaa
open Go Fw

theorem whyB {m : List (List Int)} {seats : Int} (hw : OkW m) (hse : 1 ≤ seats ∧ seats ≤ 6) {w k : Nat} (h : IsWhy m seats w k) : bndV m seats (w : Int) (k : Int) = .tup [.int .i64 (short m seats), .int .i64 0] := by
  have h1 := h.lt
  have h2 := h.w3
  have hb : inB m seats (w : Int) (k : Int) := by
    simp [inB, btw]
    omega
  rw [bndV, if_pos (chsE_zero.2 ⟨hw, hse⟩), if_pos hb]
  simp only [Int.toNat_natCast, h.eq]
theorem frz_ms {hp : Nat → Option (List AV)} {q n : Nat} {l : List Int} (h : hp q = some (ints l)) (hn : n = l.length) (k : Nat) : frz hp (k + 1) (.msl false 1 q 0 n true) = .sl 1 (ints l) .exact := by
  subst hn
  rw [frz_msl, frzL_msl h (ints_cont l), map_frz_ints]; rfl
set_option maxHeartbeats 2000000 in
theorem p13 (u : Nat → Nat) (hu : ∀ j, u j < 256) : PCall Try.prog 13 [benV u] (.bool true) := by
  have q30 := p30 u hu (most := 30) (by omega)
  have hx := isMU u 30
  have hw := mU_ok u (most := 30) (by omega)
  have hS := sN_bd u
  generalize hM : mU u 30 = m at *
  generalize hX : madV m = x at *
  generalize hR : (fun i => shR (m.getD i [])) = R at *
  generalize hSN : ((sN u : Nat) : Int) = S at *
  have hS6 : 1 ≤ S ∧ S ≤ 6 := by omega
  have hch := chsE_zero.2 ⟨hw, hS6⟩
  have hG := plan_good hw hS6
  have hP := plan_len m hw hS6
  have hpl := hG.len
  obtain ⟨w0, k0, hW⟩ := isWhy_ex hw hS6
  have q33 := p33 hx hw hS6
  have q40 := p40 hx
  rw [sumsR, if_pos (chkE_zero.2 hw)] at q40
  have q32 := p32 hx S
  rw [shV_ok hw hS6] at q32
  have q16 := p16 hx S
  rw [plnV, if_pos hch] at q16
  have q42 := p42 hx S hw hS6 hW
  have q44 := p44 hx S (w0 : Int) (k0 : Int)
  rw [whyB hw hS6 hW] at q44
  have q34 := p34 hx hw hS6 hP hG
  have gv := good_ver hw hS6 hG
  have q20 := p20 hx S hP
  rw [lenV, if_pos gv.1, hG.tot] at q20
  have q22 := p22 hx S hP
  rw [gv.2] at q22
  have hsto : (planV (planP m S)).sto = true := outI_sto
  generalize hpp : planV (planP m S) = y at *
  obtain ⟨C, hC, k29, n29⟩ := ctx29 ((((((((((D0ok.pt q30).pt p15).pt q33).pt q40).pt q32).pt q16).pt q42).pt q44).pt q34).pt q20 |>.pt q22)
  obtain ⟨E, hE, e30, e15, e33, e40, e32, e16, e42, e44, e34, e20, e22, e29⟩ : ∃ E, CtxOk Try.prog E ∧ E 30 [benV u, .int .i64 30] = some (.tup [x, .int .i64 S]) ∧ E 15 [] = some (.bool true) ∧ E 33 [x, .int .i64 S] = some (.int .i64 (short m S)) ∧
      E 40 [x] = some (.tup [.sl 1 (ints (arts m)) .shared, .sl 1 (ints (machs m)) .shared, .int .i64 0]) ∧ E 32 [x, .int .i64 S] = some (.tup [.int .i64 (short m S), .int .i64 0]) ∧ E 16 [x, .int .i64 S] = some (.tup [y, .int .i64 0]) ∧ E 42 [x, .int .i64 S] = some (whyK w0 k0) ∧
      E 44 [x, .int .i64 S, .agg [.int .i64 (w0 : Int), .int .i64 (k0 : Int)]] = some (.tup [.int .i64 (short m S), .int .i64 0]) ∧ E 34 [x, .int .i64 S, y] = some (.tup [.int .i64 (short m S), .bool true]) ∧ E 20 [x, .int .i64 S, y] = some (.tup [.int .i64 (short m S), .int .i64 0]) ∧ E 22 [x, .int .i64 S, y] = some (.int .i64 0) ∧
      (∀ x y l n, asI x = some l → asI y = some n → E 29 [x, y] = some (.bool (decide (l = n)))) := by
    refine ⟨C, hC, ?_, ?_, ?_, ?_, ?_, ?_, ?_, ?_, ?_, ?_, ?_, k29⟩
    all_goals (rw [n29 _ (by decide)]; simp)
  have a33 : ∀ hs, alcall E 33 hs [x, .int .i64 S] = some (.int .i64 (short m S)) := fun hs => alcall_of (by simp [hx.frz, e33]) rfl
  have a32 : ∀ hs, alcall E 32 hs [x, .int .i64 S] = some (.tup [.int .i64 (short m S), .int .i64 0]) := fun hs => alcall_of (by simp [hx.frz, e32]) rfl
  have a20 : ∀ hs, alcall E 20 hs [x, .int .i64 S, y] = some (.tup [.int .i64 (short m S), .int .i64 0]) := fun hs => alcall_of (by simp [hx.frz, hP.frz, e20]) rfl
  have a22 : ∀ hs, alcall E 22 hs [x, .int .i64 S, y] = some (.int .i64 0) := fun hs => alcall_of (by simp [hx.frz, hP.frz, e22]) rfl
  refine PCall.of hE ok13 (by simp) rfl fun hs hb => ?_
  have hsb : (benV u).sto = true := rfl
  simp [A13, R13, hsb, ben_l, e30, a33, e40]
  refine At.hc (p35 hx hw _) ?_ (fun v hs' ⟨a, h, _⟩ => by cases h)
  rintro v hs1 ⟨a, hv, hB⟩
  injection hv with hv; subst hv
  simp at hB
  have al := arts_len m
  have ml := machs_len m
  have hr6 := hw.r6
  have hc6 : cols m ≤ 6 := hw.c6
  have ha := hB.out.asI (by omega)
  have b1 : ∀ hs, alcall E 29 hs [.sl 1 (ints (arts m)) .shared, a] = some (.bool true) := fun hs => alcall_of (by
    simp only [List.map_cons, List.map_nil, frz_asI ha, frz_asI (asI_sl (c := .shared) (l := arts m) (by omega))]
    rw [e29 _ _ (arts m) (arts m) (asI_sl (by omega)) ha]; simp) rfl
  have hcl := hB.cell
  have b2 : ∀ hs2 : HS, hs2.heap hs.nh = some (ints (machs m)) → alcall E 29 hs2 [.sl 1 (ints (machs m)) .shared, .msl false 1 hs.nh 0 (cols m) true] = some (.bool true) := fun hs2 h2 => alcall_of (by
    simp only [List.map_cons, List.map_nil, frz_ms h2 ml.symm, frz_asI (asI_sl (c := .shared) (l := machs m) (by omega))]
    rw [e29 _ _ (machs m) (machs m) (asI_sl (by omega)) (asI_sl (by omega))]; simp) rfl
  have hnn := hB.nh
  have h200 : ¬ (200 : Int) < (planP m S).length := by omega
  simp [bdsV, a32, e16, e42, whyK, e44, b1, hP.len, store_ag]
  rw [b2 _ (by simp only; rw [if_neg (by omega), if_neg (by omega)]; exact hcl)]
  simp [hP.len, h200, e34, a20, a22, e15]
theorem plan_typed (xs : List AV) (h : Typed [TBe] xs) : PCall Try.prog 13 xs (.bool true) := by
  obtain ⟨x, rfl, h1⟩ := h.one
  obtain ⟨u, hu, rfl⟩ := ben_typed h1
  exact p13 u hu
end Go.Proofs.Ytokgpcdbpkginaa
