/-
  Racks of rods. Own work.
  Missing rods. Own work.
  Missing: the whole. Own work.
  Freedom. Own work.
  Reachability along arrows, and the number of groups. Own work.
  The examples of the chapter hold: evaluated. Own work.
  Arguments that are racks. Own work.
  The examples: evaluated. Own work.
-/
import Derived.Test.YtecbbbocjmdfgaaG1
import Derived.Test.YtecbbbocjmdfgaaFw4
import Derived.Test.YtecbbbocjmdfgaaFw3
set_option linter.unusedVariables false
set_option linter.unusedSimpArgs false
namespace Go.Proofs.Ytecbbbocjmdfgaa
open Go Fw

theorem PCall.asF {P : Program} {f : FuncId} {args : List AV} {r : AV} (hp : PCall P f args r) (hs : HS) : FCall P f args hs fun e h => e = .ret r ∧ h = hs := by
  refine ⟨(hp.run ⟨fun _ => none, 0, 0, fun _ => false⟩ ⟨fun _ => rfl, fun _ => rfl⟩).ok, fun c w vs hi hv => (hp.sound hi hv).mono ?_⟩
  rintro e w' ⟨v, c', rfl, h1, h2, h3⟩
  exact ⟨.ret r, hs, c', ⟨rfl, rfl⟩, h1, h2, h3⟩
def brA (b : Br) : AV := .agg [.int .i64 b.1, .int .i64 b.2.1, .int .i64 b.2.2]
theorem p78 {C : PCtx} (hC : CtxOk Try.prog C) (b : Br) : PCall Try.prog 78 [brA b] (.bool (!decide (b.2.2 = 0))) := by
  refine PCall.of hC ok78 (by simp) rfl fun hs' hb => ?_
  have f2 : afaddr false 1 2 (.ptr (brA b)) = some (.ptr (.int .i64 b.2.2)) := rfl
  have hst : (brA b).sto = true := rfl
  simp [A78, R78, hst, f2]
def allRod (l : List Br) : Bool := l.all fun b => decide (b.2.2 = 0)
/-- the first that is no rod, or -1 -/
def rodI (l : List Br) : Int := if allRod l = true then -1 else (l.findIdx fun b => !decide (b.2.2 = 0) : Nat)
theorem rodI_neg {l : List Br} : 0 ≤ rodI l ↔ allRod l = false := by
  unfold rodI
  cases allRod l <;> simp
theorem p81 {C : PCtx} (hC : CtxOk Try.prog C) {x : AV} {l : List Br} (hx : asB x = some l) : PCall Try.prog 81 [x, .fn (.func 78) [] []] (.int .i64 (rodI l)) := by
  have hl := (asB_inv hx).2.2
  have hld : ∀ h (b : Br), aload h true 3 (.ptr (.agg [.int .i64 b.1, .int .i64 b.2.1, .int .i64 b.2.2])) = some (brA b) := fun _ _ => rfl
  by_cases ha : allRod l = true
  · have hrod : rodI l = -1 := by simp [rodI, ha]
    rw [hrod]
    refine PCall.of hC ok81 (by simp) rfl fun hs' hb => ?_
    have hall : ∀ i (h : i < l.length), decide (l[i].2.2 = 0) = true := fun i h => (List.all_eq_true.1 ha) _ (List.getElem_mem h)
    simp [A81, R81, blen hx]
    refine At.loop (fun (i : Nat) s => i ≤ l.length ∧ s.env 0 = x ∧ s.env 1 = .fn (.func 78) [] [] ∧ s.env 7 = .int .i64 (l.length : Int) ∧ s.env 8 = .int .i64 (i : Int)) (fun i => l.length - i) 0 (by simp) ?_
    rintro N i s hN ⟨hi, e0, e1, e7, e8⟩
    simp [e7, e8]
    refine At.dec (fun h => ?_) (fun h => ?_)
    · have hi' : i < l.length := by omega
      simp [e0, e1, e8, bidx hx hi', hld]
      refine At.hc (PCall.asF (p78 hC l[i]) s.hs) ?_ ?_
      · rintro v hs2 ⟨hv, rfl⟩
        injection hv with hv; subst hv
        have h0 : l[i].2.2 = 0 := by simpa using hall i hi'
        simp [h0, e8]
        refine hN (i + 1) _ (by omega) ⟨by omega, ?_⟩
        simp [e0, e1, e7, wrap_nat1 (show i < _ by omega)]
      · rintro v hs2 ⟨hv, _⟩; cases hv
    · simp
  · have ha' : allRod l = false := by simpa using ha
    -- the first that is no rod
    have hex : ∃ i, ∃ h : i < l.length, l[i].2.2 ≠ 0 ∧ ∀ j (hj : j < l.length), j < i → l[j].2.2 = 0 := by
      have key : ∀ m, (∃ i, ∃ h : i < l.length, i ≤ m ∧ l[i].2.2 ≠ 0) → ∃ i, ∃ h : i < l.length, l[i].2.2 ≠ 0 ∧ ∀ j (hj : j < l.length), j < i → l[j].2.2 = 0 := by
        intro m
        induction m with
        | zero => rintro ⟨i, h, h1, h2⟩; exact ⟨i, h, h2, fun j _ hj => by omega⟩
        | succ m ih =>
          rintro ⟨i, h, h1, h2⟩
          by_cases hs : ∃ i, ∃ h : i < l.length, i ≤ m ∧ l[i].2.2 ≠ 0
          · exact ih hs
          · refine ⟨i, h, h2, fun j hj hji => ?_⟩
            apply Classical.byContradiction
            intro hne
            exact hs ⟨j, hj, by omega, hne⟩
      unfold allRod at ha'
      rw [List.all_eq_false] at ha'
      obtain ⟨b, hb, hbn⟩ := ha'
      obtain ⟨i, hi, rfl⟩ := List.getElem_of_mem hb
      exact key i ⟨i, hi, Nat.le_refl _, by simpa using hbn⟩
    obtain ⟨k, hk, hkn, hmin⟩ := hex
    have hrod : rodI l = (k : Int) := by
      have : l.findIdx (fun b => !decide (b.2.2 = 0)) = k := (List.findIdx_eq hk).2 ⟨by simp [hkn], fun j hj => by simp [hmin j (by omega) hj]⟩
      simp [rodI, ha', this]
    rw [hrod]
    refine PCall.of hC ok81 (by simp) rfl fun hs' hb => ?_
    simp [A81, R81, blen hx]
    refine At.loop (fun (i : Nat) s => i ≤ k ∧ s.env 0 = x ∧ s.env 1 = .fn (.func 78) [] [] ∧ s.env 7 = .int .i64 (l.length : Int) ∧ s.env 8 = .int .i64 (i : Int)) (fun i => k - i) 0 (by simp) ?_
    rintro N i s hN ⟨hi, e0, e1, e7, e8⟩
    simp [e7, e8]
    refine At.dec (fun h => ?_) (fun h => ?_)
    · have hi' : i < l.length := by omega
      simp [e0, e1, e8, bidx hx hi', hld]
      refine At.hc (PCall.asF (p78 hC l[i]) s.hs) ?_ ?_
      · rintro v hs2 ⟨hv, rfl⟩
        injection hv with hv; subst hv
        by_cases hik : i = k
        · subst hik
          simp [hkn, e8]
        · have h0 : l[i].2.2 = 0 := hmin i hi' (by omega)
          simp [h0, e8]
          refine hN (i + 1) _ (by omega) ⟨by omega, ?_⟩
          simp [e0, e1, e7, wrap_nat1 (show i < _ by omega)]
      · rintro v hs2 ⟨hv, _⟩; cases hv
    · omega
def SIdx : List AV → Option AV
  | [x, .fn (.func 78) [] []] => (asB x).map fun l => .int .i64 (rodI l)
  | _ => none
theorem c81 : ∀ a r, SIdx a = some r → PCall Try.prog 81 a r := by
  intro a r h
  unfold SIdx at h
  split at h <;> (try (cases h; done))
  obtain ⟨l, h1, rfl⟩ := optmap_some h
  exact p81 CtxOk.nil h1
def D11 : PCtx := D9.add 81 SIdx
theorem D11ok : CtxOk Try.prog D11 := D9ok.add c81
@[simp] theorem D11_81 : D11 81 = SIdx := id rfl
theorem p77 {x : AV} {l : List Br} (hx : asB x = some l) : PCall Try.prog 77 [x, .fn (.func 78) [] []] (.bool (!allRod l)) := by
  refine PCall.of D11ok ok77 (by simp) rfl fun hs' hb => ?_
  simp [A77, R77, SIdx, hx]
  cases h : allRod l with
  | true => simp [rodI, h]
  | false => simp [rodI, h]
def SHasR : List AV → Option AV
  | [x, .fn (.func 78) [] []] => (asB x).map fun l => .bool (!allRod l)
  | _ => none
theorem c77 : ∀ a r, SHasR a = some r → PCall Try.prog 77 a r := by
  intro a r h
  unfold SHasR at h
  split at h <;> (try (cases h; done))
  obtain ⟨l, h1, rfl⟩ := optmap_some h
  exact p77 h1
def D12 : PCtx := D11.add 77 SHasR
theorem D12ok : CtxOk Try.prog D12 := D11ok.add c77
@[simp] theorem D12_77 : D12 77 = SHasR := id rfl
@[simp] theorem D12_25 : D12 25 = SChkR := id rfl
/-- the error of a rack that is to have rods alone -/
def rodE (R : Rk) : Int := if chkR R = 0 then (if allRod R.b = true then 0 else 10) else chkR R
theorem p62 {x : AV} {R : Rk} (hx : asR x = some R) : PCall Try.prog 62 [x] (.int .i64 (rodE R)) := by
  obtain ⟨v1, v2, v3, v4, v5, v6, v7, v8⟩ := RkV.of hx
  refine PCall.of D12ok ok62 (by simp) rfl fun hs' hb => ?_
  by_cases h : chkR R = 0
  · cases ha : allRod R.b with
    | true => simp [A62, R62, v2, v3, v6, v7, SChkR_i hx, h, SHasR, v8, ha, rodE]
    | false => simp [A62, R62, v2, v3, v6, v7, SChkR_i hx, h, SHasR, v8, ha, rodE]
  · simp [A62, R62, v2, v3, SChkR_i hx, h, rodE]
end Go.Proofs.Ytecbbbocjmdfgaa
set_option linter.unusedVariables false
set_option linter.unusedSimpArgs false
namespace Go.Proofs.Ytecbbbocjmdfgaa
open Go Fw

/-- slices.Clone: a list that may be appended to -/
theorem p63 {x : AV} {l : List Br} (hx : asB x = some l) (hl : l.length ≤ 1000) (hs : HS) : FCall Try.prog 63 [x] hs fun e hs' => ∃ y, e = .ret y ∧ Fresh hs' y ∧ asB y = some l ∧ SameMem hs hs' ∧
    ∀ {z : AV}, Fresh hs z → Fresh hs' z ∧ Apart y z := by
  refine FCall.of_body D9ok ok63 (by simp) (At.i ?_)
  have hV := (asB_inv hx).1
  rcases (asB_inv hx).2.1 with ⟨rfl, rfl⟩ | ⟨c, rfl⟩
  · simp [A63, R63]
    exact At.of ⟨trivial, .refl _⟩
  · obtain ⟨y, hs2, b1, b2, b3, b4, b5, b6, b7⟩ := append_fresh (sz := 3) (hs := hs) (x := .sl 3 [] .exact) (q := .sl 3 (brs l) c) (l := []) (ys := brs l) trivial rfl rfl hV (by simp; omega)
    have hy : asB y = some l := by
      rcases b5 with ⟨rfl, h0⟩ | ⟨k, rfl⟩
      · have : l = [] := List.map_eq_nil_iff.1 h0
        subst this; rfl
      · exact asB_sl (asB_inv hx).2.2
    simp [A63, R63, astoAll, b1]
    exact At.of ⟨b2, hy, b6, fun hz => b7 hz (fun k h => by simp [tk] at h)⟩
/-- memory of Missing: the rack that grows, and the rods that were added -/
structure MisM (R : Rk) (m o : Nat) (lm lo : List Br) (hs : HS) (y z : AV) : Prop where
  more : hs.heap m = some [.int .i64 R.r, .int .i64 R.c, y]
  out : hs.heap o = some [z]
  fy : Fresh hs y
  ay : asB y = some lm
  oz : Outs 3 hs z (brs lo)
  apart : Apart y z
  ne : m ≠ o
  lt1 : m < hs.nh
  lt2 : o < hs.nh
def misOk (R : Rk) (b : Br) (lm : List Br) : Bool := (togS (frF ⟨R.r, R.c, lm⟩ (-1)).arr b.1.toNat (R.r.toNat + R.c.toNat)).testBit (R.r.toNat + b.2.1.toNat)
def D13 : PCtx := D12
theorem p64 {x : AV} {R : Rk} (hx : asR x = some R) {b : Br} (hb : okB R.r R.c b) {m o : Nat} {lm lo : List Br} (hR : OkR ⟨R.r, R.c, lm⟩) (hl : lm.length ≤ 900) (hlo : lo.length ≤ 900) {hs : HS} {y z : AV} (h : MisM R m o lm lo hs y z) :
    FCall Try.prog 64 [brA b, .ref m 0, .ptr x, .ref o 0] hs fun e hs' => ∃ y' z', e = .ret (.tup []) ∧ hs.nh ≤ hs'.nh ∧ (∀ i, i < hs.nh → i ≠ m → i ≠ o → hs'.heap i = hs.heap i) ∧
      MisM R m o (if misOk R b lm then lm else lm ++ [b]) (if misOk R b lm then lo else lo ++ [b]) hs' y' z' := by
  obtain ⟨v1, v2, v3, v4, v5, v6, v7, v8⟩ := RkV.of hx
  obtain ⟨hm, ho, hfy, hay, hoz, hap, hne, hlt1, hlt2⟩ := h
  obtain ⟨k1, k2, k3, k4, k5, k6⟩ := hb
  have r1 := hR.r1
  have r6 := hR.r6
  have c1 := hR.c1
  have c6 := hR.c6
  simp only at r1 r6 c1 c6
  refine FCall.of_body D12ok ok64 (by simp) (At.i ?_)
  have hmr := asR_mk (r := R.r) (c := R.c) hay
  have hst : (brA b).sto = true := rfl
  obtain ⟨ρ, hρ⟩ : ∃ ρ : Nat, b.1 = (ρ : Int) := ⟨b.1.toNat, by omega⟩
  obtain ⟨κ, hκ⟩ : ∃ κ : Nat, R.r + b.2.1 = (κ : Int) := ⟨(R.r + b.2.1).toNat, by omega⟩
  have hwk : IntKind.i64.wrap (κ : Int) = (κ : Int) := wrap64 (by omega) (by omega)
  have g0 : afaddr false 1 0 (.ptr (brA b)) = some (.ptr (.int .i64 b.1)) := rfl
  have g1 : afaddr false 1 1 (.ptr (brA b)) = some (.ptr (.int .i64 b.2.1)) := rfl
  have gl : ∀ h, aload h true 3 (.ptr (brA b)) = some (brA b) := fun _ => rfl
  have hfr := SFrame_i hmr hR (-1)
  have hF := asF_frV (x := .agg [.int .i64 R.r, .int .i64 R.c, y]) hR (-1)
  have hD54 : D12 54 = SFrame := rfl
  have hD57 : D12 57 = STog := rfl
  have hD56 : D12 56 = SHas := rfl
  obtain ⟨bb, hbb⟩ : ∃ bb, brV (.agg [.int .i64 R.r, .int .i64 R.c, y]) = bb := ⟨_, rfl⟩
  have hV : frV (.agg [.int .i64 R.r, .int .i64 R.c, y]) ⟨R.r, R.c, lm⟩ (-1) = .agg [.int .i64 R.r, .int .i64 R.c, bb, .sl 1 (us (frF ⟨R.r, R.c, lm⟩ (-1)).arr) .exact] := by rw [frV, hbb]
  have hlen : (frF ⟨R.r, R.c, lm⟩ (-1)).arr.length = R.r.toNat + R.c.toNat := by simp only [frF, arrS_len]
  have hT := STog_i hF (i := ρ) (by rw [hlen]; omega)
  rw [hV, hlen] at hT
  have htl := togS_lt (arr := (frF ⟨R.r, R.c, lm⟩ (-1)).arr) (i := ρ) (k := R.r.toNat + R.c.toNat) (by omega)
  have hH := SHas_i htl (show κ < 16 by omega)
  have hok : misOk R b lm = (togS (frF ⟨R.r, R.c, lm⟩ (-1)).arr ρ (R.r.toNat + R.c.toNat)).testBit κ := by
    unfold misOk
    rw [show b.1.toNat = ρ by omega, show R.r.toNat + b.2.1.toNat = κ by omega]
  rw [hV] at hfr
  generalize frF ⟨R.r, R.c, lm⟩ (-1) = F at *
  have n1 : ¬ m = hs.nh := by omega
  have n2 : ¬ o = hs.nh := by omega
  simp [A64, R64, hst, la, hm, apart, hD54, hD57, hD56, hfr, astore, sa, ca, setL, env_none, g0, g1, gl, v4, hρ, hκ, hwk, hT, hH]
  rw [← hok]
  have frc : ∀ {hs1 hs2 : HS} {v : AV}, hs2.tok = hs1.tok → hs2.nt = hs1.nt → Fresh hs1 v → Fresh hs2 v := by
    intro hs1 hs2 v e1 e2 hf
    cases v with
    | sl sz xs c => cases c with
      | own k => have hf' : hs1.tok k = true ∧ k < hs1.nt := hf
                 exact ⟨by rw [e1]; exact hf'.1, by rw [e2]; exact hf'.2⟩
      | exact => trivial
      | shared => exact hf
    | nilsl => trivial
    | _ => exact hf
  cases hmo : misOk R b lm with
  | true =>
    simp
    refine At.of ⟨fun i hi h1 h2 => by simp [show ¬ i = hs.nh by omega], y, z, ⟨by simp [n1, hm], by simp [n2, ho], frc rfl rfl hfy, hay, hoz.cong rfl rfl, hap, hne, by show m < hs.nh + 1; omega, by show o < hs.nh + 1; omega⟩⟩
  | false =>
    have hq : asV 3 (.sl 3 [brA b] .exact) = some [brA b] := asV_sl (by simp)
    have hbs : (brA b).share = brA b := share_br b
    generalize hH1 : ({ heap := (fun k => if k = hs.nh then some [.int .i64 R.r, .int .i64 R.c, bb, .sl 1 (us F.arr) .exact] else if k = hs.nh then some [.int .i64 0, .int .i64 0, .nilsl, .nilsl] else hs.heap k), nh := hs.nh + 1, nt := hs.nt, tok := hs.tok } : HS) = hs1
    have t1 : hs1.tok = hs.tok := by rw [← hH1]
    have t2 : hs1.nt = hs.nt := by rw [← hH1]
    have t3 : hs1.nh = hs.nh + 1 := by rw [← hH1]
    have t4 : ∀ i, i < hs.nh → hs1.heap i = hs.heap i := fun i hi => by rw [← hH1]; simp [show ¬ i = hs.nh by omega]
    have hoz1 : Outs 3 hs1 z (brs lo) := hoz.cong t1 t2
    have hfy1 : Fresh hs1 y := frc t1 t2 hfy
    obtain ⟨xs0, hz1, hz2, hz3⟩ : ∃ xs0, aelems z = some xs0 ∧ aszOk 3 z = true ∧ xs0.map AV.share = brs lo := by
      rcases hoz.inv with ⟨rfl, e⟩ | ⟨xs, k, rfl, _, e, _⟩
      · exact ⟨[], rfl, rfl, by rw [e]; rfl⟩
      · exact ⟨xs, rfl, by simp [aszOk], e⟩
    have hzlen : xs0.length = lo.length := by
      have := congrArg List.length hz3
      simpa using this
    obtain ⟨hay1, hay2, _⟩ := asB_inv hay
    obtain ⟨e1, e2⟩ := elems_of hay1
    obtain ⟨z2, hs2, b1, b2, b3, b4, b5, b6, b7⟩ := append_fresh (sz := 3) hoz1.fresh hz1 hz2 hq (by simp; omega)
    obtain ⟨c1, c2⟩ := b7 hfy1 hap.symm
    obtain ⟨y2, hs3, d1, d2, d3, d4, d5, d6, d7⟩ := append_fresh (sz := 3) c1 e1 e2 hq (by simp; omega)
    obtain ⟨f1, f2⟩ := d7 b2 c2.symm
    have hz2e : ∃ k, z2 = .sl 3 (xs0 ++ [brA b]) (.own k) := by
      rcases b5 with ⟨_, h0⟩ | h0
      · cases h0
      · exact h0
    have hy2e : ∃ k, y2 = .sl 3 (brs lm ++ [brA b]) (.own k) := by
      rcases d5 with ⟨_, h0⟩ | h0
      · cases h0
      · exact h0
    obtain ⟨kz, rfl⟩ := hz2e
    obtain ⟨ky, rfl⟩ := hy2e
    have hbs3 : brs lm ++ [brA b] = brs (lm ++ [b]) := by simp [brs, brA]
    have bh := b6.heap
    have bn := b6.nh
    have dh := d6.heap
    have dn := d6.nh
    subst hH1
    simp only at bh bn b1
    have g12 : (brA b).cells.length = 3 := rfl
    have sS : ∀ (sz : Nat) (xs : List AV) (c : Cap), (AV.sl sz xs c).sto = true := fun _ _ _ => rfl
    have cS : ∀ (sz : Nat) (xs : List AV) (c : Cap), (AV.sl sz xs c).cells = [.sl sz xs c] := fun _ _ _ => rfl
    simp [la, n1, n2, ho, hm, apart, gl, astoAll, hst, g12, b1, fa, bh, d1, dh, astore, sS, cS, setL, env_none, hne, Ne.symm hne]
    have hnn : hs3.nh = hs.nh + 1 := by rw [dn, bn]
    refine At.of ⟨by omega, fun i hi h1 h2 => by simp [h1, h2, show ¬ i = hs.nh by omega], .sl 3 (brs lm ++ [brA b]) (.own ky), .sl 3 (xs0 ++ [brA b]) (.own kz), ⟨by simp, by simp [Ne.symm hne], frc rfl rfl d2, ?_, ⟨frc rfl rfl f1, ?_⟩, f2, hne, by show m < hs3.nh; omega, by show o < hs3.nh; omega⟩⟩
    · rw [hbs3]; exact asB_sl (by simp; omega)
    · have : (xs0 ++ [brA b]).map AV.share = brs (lo ++ [b]) := by
        rw [List.map_append, hz3]; simp [brs, brA]
      rw [share_sl, this, outV_ne (by simp)]
      rfl
/-- Missing, by value: the rack's braces with what was added, and what was added -/
def misStep (R : Rk) (b : Br) (p : List Br × List Br) : List Br × List Br := if misOk R b p.1 = true then p else (p.1 ++ [b], p.2 ++ [b])
def misC (R : Rk) : Nat → List Br × List Br
  | 0 => (R.b, [])
  | k + 1 => misStep R (0, (k : Int), 0) (misC R k)
def misR (R : Rk) (c : Nat) : Nat → List Br × List Br
  | 0 => misC R c
  | k + 1 => misStep R ((k : Int), 0, 0) (misR R c k)
/-- the missing rods -/
def misL (R : Rk) : List Br := (misR R R.c.toNat R.r.toNat).2
def miV (R : Rk) : AV := if rodE R = 0 then .tup [outV 3 (brs (misL R)), .int .i64 0] else .tup [.nilsl, .int .i64 (rodE R)]
structure MisI (R : Rk) (n : Nat) (p : List Br × List Br) : Prop where
  ok : OkR ⟨R.r, R.c, p.1⟩
  l1 : p.1.length ≤ R.b.length + n
  l2 : p.2.length ≤ n
theorem MisI.step {R : Rk} {n : Nat} {p : List Br × List Br} (h : MisI R n p) {b : Br} (hb : okB R.r R.c b) : MisI R (n + 1) (misStep R b p) := by
  unfold misStep
  split
  · exact ⟨h.ok, by have := h.l1; omega, by have := h.l2; omega⟩
  · refine ⟨⟨h.ok.r1, h.ok.r6, h.ok.c1, h.ok.c6, fun x hx => ?_⟩, by have := h.l1; simp; omega, by have := h.l2; simp; omega⟩
    rcases List.mem_append.1 hx with hx | hx
    · exact h.ok.b x hx
    · simp only [List.mem_singleton] at hx
      subst hx; exact hb
theorem misC_inv {R : Rk} (h : OkR R) : ∀ {k : Nat}, (k : Int) ≤ R.c → MisI R k (misC R k)
  | 0, _ => ⟨h, by simp [misC], by simp [misC]⟩
  | k + 1, hk => (misC_inv h (k := k) (by omega)).step (by have := h.r1; unfold okB; simp; omega)
theorem misR_inv {R : Rk} (h : OkR R) {c : Nat} (hc : (c : Int) ≤ R.c) : ∀ {k : Nat}, (k : Int) ≤ R.r → MisI R (c + k) (misR R c k)
  | 0, _ => misC_inv h hc
  | k + 1, hk => (misR_inv h hc (k := k) (by omega)).step (by have := h.c1; unfold okB; simp; omega)
def SRod : List AV → Option AV
  | [x] => (asR x).map fun R => .int .i64 (rodE R)
  | _ => none
theorem SRod_i {x : AV} {R : Rk} (hx : asR x = some R) : SRod [x] = some (.int .i64 (rodE R)) := by simp [SRod, hx]
theorem c62 : ∀ a r, SRod a = some r → PCall Try.prog 62 a r := by
  intro a r h
  unfold SRod at h
  split at h <;> (try (cases h; done))
  obtain ⟨R, h1, rfl⟩ := optmap_some h
  exact p62 h1
def D14 : PCtx := D12.add 62 SRod
theorem D14ok : CtxOk Try.prog D14 := D12ok.add c62
@[simp] theorem D14_62 : D14 62 = SRod := id rfl
theorem rodE_zero {R : Rk} : rodE R = 0 → chkR R = 0 := by
  unfold rodE
  split
  · rename_i h; exact fun _ => h
  · exact id
theorem miV_plain (R : Rk) : (miV R).plain = true := by
  unfold miV
  split
  · simp only [AV.plain, plainL, plain_outB, Bool.and_self]
  · rfl
end Go.Proofs.Ytecbbbocjmdfgaa
set_option linter.unusedVariables false
set_option linter.unusedSimpArgs false
namespace Go.Proofs.Ytecbbbocjmdfgaa
open Go Fw

/-- the rack was copied -/
structure FM (x : AV) (R : Rk) (s : AS) : Prop where
  e1 : s.env 1 = .ptr x
  h : ∃ a y, s.env 5 = .ref a 0 ∧ s.hs.heap a = some [.int .i64 R.r, .int .i64 R.c, y] ∧ a < s.hs.nh ∧ Fresh s.hs y ∧ asB y = some R.b
theorem fresh_cong {hs1 hs2 : HS} {v : AV} (e1 : hs2.tok = hs1.tok) (e2 : hs2.nt = hs1.nt) (hf : Fresh hs1 v) : Fresh hs2 v := by
  cases v with
  | sl sz xs c => cases c with
    | own k => have hf' : hs1.tok k = true ∧ k < hs1.nt := hf
               exact ⟨by rw [e1]; exact hf'.1, by rw [e2]; exact hf'.2⟩
    | exact => trivial
    | shared => exact hf
  | nilsl => trivial
  | _ => exact hf
theorem asB_cells {y : AV} {l : List Br} (h : asB y = some l) : y.cells = [y] ∧ y.sto = true := by
  rcases (asB_inv h).2.1 with ⟨e, _⟩ | ⟨c, e⟩ <;> rw [e] <;> exact ⟨rfl, rfl⟩
theorem p29 {x : AV} {R : Rk} (hx : asR x = some R) : PCall Try.prog 29 [x] (miV R) := by
  obtain ⟨v1, v2, v3, v4, v5, v6, v7, v8⟩ := RkV.of hx
  refine PCall.of D14ok ok29 (by simp) (miV_plain R) fun hs' hb => ?_
  by_cases hr : rodE R = 0
  rotate_left
  · simp [A29, R29, v2, v3, SRod_i hx, hr, miV]
  obtain ⟨hok, hlen⟩ := chkR_zero.1 (rodE_zero hr)
  have hres : miV R = .tup [outV 3 (brs (misL R)), .int .i64 0] := by rw [miV, if_pos hr]
  rw [hres]
  simp [A29, R29, v2, v3, SRod_i hx, hr]
  refine At.any_to (FM x R) ?_ ?_
  · refine At.any_q 0 endN_p rfl rfl rfl ?_
    simp [v4]
    refine At.any_l 1 endN_p rfl rfl ⟨_, rfl⟩ ?_
    simp
    refine At.any_q 2 endN_p rfl rfl rfl ?_
    simp [v5]
    refine At.any_l 3 endN_p rfl rfl ⟨_, rfl⟩ ?_
    simp
    refine At.any_q 4 endN_p rfl rfl rfl ?_
    simp [v6]
    refine At.any_l 5 endN_p rfl rfl ⟨_, rfl⟩ ?_
    simp [v7]
    refine At.any_2 6 8 rfl rfl rfl ?_ ?_
    · simp
      refine At.hc (p63 v8 (by omega) _) ?_ ?_
      · rintro v hs2 ⟨y2, hv, q1, q2, q3, q4⟩
        injection hv with hv; subst hv
        obtain ⟨c1, c2⟩ := asB_cells q2
        refine At.any_q 7 endN_p rfl rfl rfl ?_
        simp [afill, si, ci, c1, c2, setL]
        refine At.any_o 8 rfl rfl ?_
        simp
        refine At.any_o 9 rfl rfl ?_
        simp [astore, sa, ca, c2, setL]
        refine At.any_e rfl ?_
        simp
        exact At.of ⟨by simp, hs2.nh, v, by simp, by simp, by simp, fresh_cong rfl rfl q1, q2⟩
      · rintro v hs2 ⟨y2, hv, _⟩; cases hv
    · simp
      refine At.any_o 6 rfl rfl ?_
      simp
      refine At.hc (p63 v8 (by omega) _) ?_ ?_
      · rintro v hs2 ⟨y2, hv, q1, q2, q3, q4⟩
        injection hv with hv; subst hv
        obtain ⟨c1, c2⟩ := asB_cells q2
        refine At.any_q 7 endN_p rfl rfl rfl ?_
        simp [afill, si, ci, c1, c2, setL]
        refine At.any_o 9 rfl rfl ?_
        simp [astore, q3.heap, sa, ca, c2, setL]
        refine At.any_e rfl ?_
        simp
        exact At.of ⟨by simp, hs'.nh, v, by simp, by simp, by simp [q3.nh], fresh_cong rfl rfl q1, q2⟩
      · rintro v hs2 ⟨y2, hv, _⟩; cases hv
  · rintro s ⟨e1, m, y, e5, ha, hlt, hf, hy⟩
    have hr1 := hok.r1
    have hr6 := hok.r6
    have hc1 := hok.c1
    have hc6 := hok.c6
    obtain ⟨r, hrr⟩ : ∃ r : Nat, R.r = (r : Int) := ⟨R.r.toNat, by omega⟩
    obtain ⟨c, hcc⟩ : ∃ c : Nat, R.c = (c : Int) := ⟨R.c.toNat, by omega⟩
    have hml : misL R = (misR R c r).2 := by rw [misL, hrr, hcc]; rfl
    simp [e1, e5, v5]
    generalize ho : s.hs.nh = o
    refine At.loop (fun (k : Nat) s => k ≤ c ∧ s.env 1 = .ptr x ∧ s.env 6 = .ref o 0 ∧ s.env 7 = .fn (.func 64) [] [.ref m 0, .ptr x, .ref o 0] ∧ s.env 25 = .int .i64 R.c ∧ s.env 26 = .int .i64 (k : Int) ∧ ∃ y z, MisM R m o (misC R k).1 (misC R k).2 s.hs y z) (fun k => c - k) 0 ?_ ?_
    · simp [e1]
      exact ⟨y, .nilsl, by simp [show ¬ m = o by omega, ha, misC], by simp, fresh_cong rfl rfl hf, hy, .nil, by simp, by omega, by show m < o + 1; omega, by show o < o + 1; omega⟩
    rintro N k s1 hN ⟨hk, g1, g6, g7, g25, g26, y1, z1, hM⟩
    simp [g26, g25, hcc]
    refine At.dec (fun hlt => ?_) (fun hlt => ?_)
    · simp [g7, g26, afill, si, ci, setL]
      have hi := misC_inv hok (k := k) (by omega)
      have hb : okB R.r R.c (0, (k : Int), 0) := by unfold okB; simp; omega
      refine At.hc (p64 hx hb hi.ok (by have := hi.l1; omega) (by have := hi.l2; omega) hM) ?_ ?_
      · rintro v hs2 ⟨y2, z2, hv, h1, h2, h3⟩
        injection hv with hv; subst hv
        simp [g26]
        refine hN (k + 1) _ (by omega) ⟨by omega, ?_⟩
        simp [g1, g6, g7, g25, wrap_nat1 (show k < _ by omega)]
        refine ⟨y2, z2, ?_⟩
        simp only [misC, misStep]
        cases hmo : misOk R (0, (k : Int), 0) (misC R k).1 <;> simp [hmo] at h3 ⊢ <;> exact h3
      · rintro v hs2 ⟨y2, z2, hv, _⟩; cases hv
    · have hkc : k = c := by omega
      subst hkc
      simp [g1, v4]
      refine At.loop (fun (i : Nat) s => i ≤ r ∧ s.env 1 = .ptr x ∧ s.env 6 = .ref o 0 ∧ s.env 7 = .fn (.func 64) [] [.ref m 0, .ptr x, .ref o 0] ∧ s.env 35 = .int .i64 R.r ∧ s.env 36 = .int .i64 (i : Int) ∧ ∃ y z, MisM R m o (misR R k i).1 (misR R k i).2 s.hs y z) (fun i => r - i) 0 ?_ ?_
      · simp [g1, g6, g7]
        exact ⟨y1, z1, hM⟩
      rintro N2 i s2 hN2 ⟨hi, f1, f6, f7, f35, f36, y3, z3, hM3⟩
      simp [f36, f35, hrr]
      refine At.dec (fun hlt2 => ?_) (fun hlt2 => ?_)
      · simp [f7, f36, afill, si, ci, setL]
        have hi' := misR_inv hok (c := k) (by omega) (k := i) (by omega)
        have hb : okB R.r R.c ((i : Int), 0, 0) := by unfold okB; simp; omega
        refine At.hc (p64 hx hb hi'.ok (by have := hi'.l1; omega) (by have := hi'.l2; omega) hM3) ?_ ?_
        · rintro v hs2 ⟨y2, z2, hv, h1, h2, h3⟩
          injection hv with hv; subst hv
          simp [f36]
          refine hN2 (i + 1) _ (by omega) ⟨by omega, ?_⟩
          simp [f1, f6, f7, f35, wrap_nat1 (show i < _ by omega)]
          refine ⟨y2, z2, ?_⟩
          simp only [misR, misStep]
          cases hmo : misOk R ((i : Int), 0, 0) (misR R k i).1 <;> simp [hmo] at h3 ⊢ <;> exact h3
        · rintro v hs2 ⟨y2, z2, hv, _⟩; cases hv
      · have hir : i = r := by omega
        subst hir
        have hl : aload s2.hs.heap false 1 (.ref o 0) = some z3 := load_one hM3.out
        simp [f6, hl, hml, hM3.oz.sh]
end Go.Proofs.Ytecbbbocjmdfgaa
set_option linter.unusedVariables false
set_option linter.unusedSimpArgs false
namespace Go.Proofs.Ytecbbbocjmdfgaa
open Go Fw

def SMiss : List AV → Option AV
  | [x] => (asR x).map miV
  | _ => none
theorem SMiss_i {x : AV} {R : Rk} (hx : asR x = some R) : SMiss [x] = some (miV R) := by simp [SMiss, hx]
theorem c29 : ∀ a r, SMiss a = some r → PCall Try.prog 29 a r := by
  intro a r h
  unfold SMiss at h
  split at h <;> (try (cases h; done))
  obtain ⟨R, h1, rfl⟩ := optmap_some h
  exact p29 h1
def D15 : PCtx := D14.add 29 SMiss
theorem D15ok : CtxOk Try.prog D15 := D14ok.add c29
@[simp] theorem D15_29 : D15 29 = SMiss := id rfl
@[simp] theorem D15_62 : D15 62 = SRod := id rfl
/-- freedom: how many rods are missing -/
def fdR (R : Rk) : Int := if rodE R = 0 then ((misL R).length : Int) else 0
def fdV (R : Rk) : AV := .tup [.int .i64 (fdR R), .int .i64 (rodE R)]
theorem alen_outB {l : List AV} {sz : Nat} : alenK false (outV sz l) = some (.int .i64 (l.length : Int)) := by
  cases l <;> rfl
theorem p27 {x : AV} {R : Rk} (hx : asR x = some R) : PCall Try.prog 27 [x] (fdV R) := by
  obtain ⟨v1, v2, v3, v4, v5, v6, v7, v8⟩ := RkV.of hx
  refine PCall.of D15ok ok27 (by simp) rfl fun hs' hb => ?_
  by_cases hr : rodE R = 0
  · simp [A27, R27, v2, v3, SMiss_i hx, miV, fdV, fdR, hr, alen_outB]
  · simp [A27, R27, v2, v3, SMiss_i hx, miV, fdV, fdR, hr]
def SFree : List AV → Option AV
  | [x] => (asR x).map fdV
  | _ => none
theorem SFree_i {x : AV} {R : Rk} (hx : asR x = some R) : SFree [x] = some (fdV R) := by simp [SFree, hx]
theorem c27 : ∀ a r, SFree a = some r → PCall Try.prog 27 a r := by
  intro a r h
  unfold SFree at h
  split at h <;> (try (cases h; done))
  obtain ⟨R, h1, rfl⟩ := optmap_some h
  exact p27 h1
def D16 : PCtx := D15.add 27 SFree
theorem D16ok : CtxOk Try.prog D16 := D15ok.add c27
@[simp] theorem D16_27 : D16 27 = SFree := id rfl
@[simp] theorem D16_29 : D16 29 = SMiss := id rfl
@[simp] theorem D16_54 : D16 54 = SFrame := id rfl
@[simp] theorem D16_57 : D16 57 = STog := id rfl
@[simp] theorem D16_56 : D16 56 = SHas := id rfl
@[simp] theorem D16_60 : D16 60 = SBtw := id rfl
@[simp] theorem D16_62 : D16 62 = SRod := id rfl
end Go.Proofs.Ytecbbbocjmdfgaa
set_option linter.unusedVariables false
set_option linter.unusedSimpArgs false
namespace Go.Proofs.Ytecbbbocjmdfgaa
open Go Fw

inductive Rt (E : Nat → Nat → Prop) : Nat → Nat → Prop
  | refl (x : Nat) : Rt E x x
  | tail {x y z : Nat} (h : Rt E x y) (e : E y z) : Rt E x z
theorem Rt.trans {E : Nat → Nat → Prop} {x y z : Nat} (h : Rt E x y) (k : Rt E y z) : Rt E x z := by
  induction k with
  | refl => exact h
  | tail _ e ih => exact .tail ih e
theorem Rt.one {E : Nat → Nat → Prop} {x y : Nat} (h : E x y) : Rt E x y := .tail (.refl x) h
theorem Rt.mono {E E' : Nat → Nat → Prop} (h : ∀ x y, E x y → E' x y) {x y : Nat} (k : Rt E x y) : Rt E' x y := by
  induction k with
  | refl => exact .refl _
  | tail _ e ih => exact .tail ih (h _ _ e)
theorem Rt.symm {E : Nat → Nat → Prop} (h : ∀ x y, E x y → E y x) {x y : Nat} (k : Rt E x y) : Rt E y x := by
  induction k with
  | refl => exact .refl _
  | tail _ e ih => exact (Rt.one (h _ _ e)).trans ih
/-- a set that arrows do not leave -/
theorem Rt.closed {E : Nat → Nat → Prop} {S : Nat → Prop} (h : ∀ x y, E x y → S x → S y) {x y : Nat} (k : Rt E x y) : S x → S y := by
  induction k with
  | refl => exact id
  | tail _ e ih => exact fun hx => h _ _ e (ih hx)
def Ed (R : Rk) (x y : Nat) : Prop := ∃ b ∈ R.b, edge R.r.toNat b x y
abbrev nR (R : Rk) : Nat := R.r.toNat + R.c.toNat
theorem Ed.lt {R : Rk} (h : OkR R) {x y : Nat} (he : Ed R x y) : x < nR R ∧ y < nR R := by
  obtain ⟨b, hb, he⟩ := he
  exact edge_lt h hb he
theorem Rt.lt {R : Rk} (h : OkR R) {x y : Nat} (k : Rt (Ed R) x y) (hx : x < nR R) : y < nR R := by
  induction k with
  | refl => exact hx
  | tail _ e ih => exact (e.lt h).2
theorem rc_iff {R : Rk} (h : OkR R) {x y : Nat} (hx : x < nR R) : rcR R x y = true ↔ Rt (Ed R) x y := by
  constructor
  · refine fw_sound _ _ (Q := Rt (Ed R)) (fun a b c h1 h2 => h1.trans h2) (fun a b h0 => ?_) _ x y
    rcases (mxS_spec _ _ _ (Nat.le_refl _) a b).1 h0 with rfl | ⟨j, hj, _, he⟩
    · exact .refl a
    · exact .one ⟨_, List.getElem_mem hj, he⟩
  · intro k
    have hs := same_of h (-1) (R' := R) rfl rfl (fun x y => arrow_all)
    induction k with
    | refl => exact hs.refl _
    | tail k e ih =>
      obtain ⟨b, hb, he⟩ := e
      obtain ⟨j, hj, rfl⟩ := List.getElem_of_mem hb
      obtain ⟨l1, l2⟩ := edge_lt h hb he
      exact hs.trans _ _ _ hx l1 l2 ih (fw_le _ _ _ _ _ ((mxS_spec _ _ _ (Nat.le_refl _) _ _).2 (.inr ⟨j, hj, hj, he⟩)))
def Both (R : Rk) (x y : Nat) : Prop := Rt (Ed R) x y ∧ Rt (Ed R) y x
theorem both_iff {R : Rk} (h : OkR R) {x y : Nat} (hx : x < nR R) (hy : y < nR R) : bothM (rcR R) x y = true ↔ Both R x y := by
  simp only [bothM, Bool.and_eq_true, rc_iff h hx, rc_iff h hy, Both]
theorem misOk_iff {R : Rk} {lm : List Br} (h : OkR ⟨R.r, R.c, lm⟩) {b : Br} (hb : okB R.r R.c b) : misOk R b lm = true ↔ Both ⟨R.r, R.c, lm⟩ b.1.toNat (R.r.toNat + b.2.1.toNat) := by
  obtain ⟨k1, k2, k3, k4, _⟩ := hb
  have hs := same_of h (-1) (R' := ⟨R.r, R.c, lm⟩) rfl rfl (fun x y => arrow_all)
  have hx : b.1.toNat < nR ⟨R.r, R.c, lm⟩ := by simp only [nR]; omega
  have hy : R.r.toNat + b.2.1.toNat < nR ⟨R.r, R.c, lm⟩ := by simp only [nR]; omega
  unfold misOk
  rw [tog_bit hs hx (Nat.le_refl _), both_iff h hx hy]
  exact ⟨fun h => h.2, fun h => ⟨hy, h⟩⟩
/-! counting groups -/
def nc (B : Nat → Nat → Bool) (n : Nat) : Nat := (List.range n).countP fun i => !(List.range i).any fun j => B j i
theorem countP_one {p q : Nat → Bool} {m : Nat} (hp : p m = true) (hq : q m = false) : ∀ {n : Nat}, m < n → (∀ i, i < n → i ≠ m → q i = p i) → (List.range n).countP p = (List.range n).countP q + 1 := by
  intro n
  induction n with
  | zero => intro h; omega
  | succ n ih =>
    intro hm h
    rw [List.range_succ, List.countP_append, List.countP_append]
    by_cases hmn : m = n
    · subst hmn
      have : (List.range m).countP p = (List.range m).countP q := List.countP_congr fun i hi => by
        have hi : i < m := by simpa using hi
        rw [h i (by omega) (by omega)]
      simp [this, hp, hq]
    · have := ih (by omega) (fun i hi => h i (by omega))
      have hn := h n (by omega) (Ne.symm hmn)
      simp only [List.countP_singleton, hn]
      omega
theorem least_of {p : Nat → Prop} {x : Nat} (hx : p x) : ∃ m, m ≤ x ∧ p m ∧ ∀ j, j < m → ¬ p j := by
  induction x using Nat.strongRecOn with
  | _ x ih =>
    by_cases h : ∃ j, j < x ∧ p j
    · obtain ⟨j, hj, hpj⟩ := h
      obtain ⟨m, h1, h2, h3⟩ := ih j hj hpj
      exact ⟨m, by omega, h2, h3⟩
    · exact ⟨x, Nat.le_refl _, hx, fun j hj hpj => h ⟨j, hj, hpj⟩⟩
/-- an equivalence on the first n -/
structure Eqv (B : Nat → Nat → Bool) (n : Nat) : Prop where
  refl : ∀ x, x < n → B x x = true
  symm : ∀ x y, x < n → y < n → B x y = true → B y x = true
  trans : ∀ x y z, x < n → y < n → z < n → B x y = true → B y z = true → B x z = true
theorem rep_iff {B : Nat → Nat → Bool} {i : Nat} : (!(List.range i).any fun j => B j i) = true ↔ ∀ j, j < i → B j i = false := by
  simp [List.any_eq_false]
theorem nc_merge' {B B' : Nat → Nat → Bool} {n : Nat} (h : Eqv B n) {a b ra rb : Nat} (ha : a < n) (hb : b < n) (hra : ra < n) (hrb : rb < n) (h1 : B ra a = true) (h2 : ∀ j, j < ra → B j a = false) (h3 : B rb b = true) (h4 : ∀ j, j < rb → B j b = false)
    (hlt : ra < rb) (h' : ∀ x y, x < n → y < n → (B' x y = true ↔ B x y = true ∨ (B x a = true ∧ B b y = true) ∨ (B x b = true ∧ B a y = true))) : nc B n = nc B' n + 1 := by
  refine countP_one (m := rb) ?_ ?_ hrb ?_
  · rw [rep_iff]
    intro j hj
    cases hb1 : B j rb with
    | false => rfl
    | true => have := h.trans j rb b (by omega) hrb hb hb1 h3; rw [h4 j hj] at this; cases this
  · have : B' ra rb = true := (h' ra rb hra hrb).2 (.inr (.inl ⟨h1, h.symm rb b hrb hb h3⟩))
    simp only [Bool.not_eq_false', List.any_eq_true, List.mem_range]
    exact ⟨ra, hlt, this⟩
  · intro i hi hne
    rw [Bool.eq_iff_iff, rep_iff, rep_iff]
    constructor
    · intro hr j hj
      have := hr j hj
      cases hb1 : B j i with
      | false => rfl
      | true => rw [(h' j i (by omega) hi).2 (.inl hb1)] at this; cases this
    · intro hr j hj
      cases hb1 : B' j i with
      | false => rfl
      | true =>
        exfalso
        have hjn : j < n := by omega
        rcases (h' j i hjn hi).1 hb1 with h5 | ⟨h5, h6⟩ | ⟨h5, h6⟩
        · rw [hr j hj] at h5; cases h5
        · rcases Nat.lt_trichotomy i rb with h7 | h7 | h7
          · have := h4 i h7
            rw [h.symm b i hb hi h6] at this; cases this
          · exact hne h7
          · have := hr rb h7
            rw [h.trans rb b i hrb hb hi h3 h6] at this; cases this
        · have hjr : rb ≤ j := by
            rcases Nat.lt_or_ge j rb with h7 | h7
            · rw [h4 j h7] at h5; cases h5
            · exact h7
          have := hr ra (by omega)
          rw [h.trans ra a i hra ha hi h1 h6] at this; cases this
theorem nc_merge {B B' : Nat → Nat → Bool} {n : Nat} (h : Eqv B n) {a b : Nat} (ha : a < n) (hb : b < n) (hab : B a b = false)
    (h' : ∀ x y, x < n → y < n → (B' x y = true ↔ B x y = true ∨ (B x a = true ∧ B b y = true) ∨ (B x b = true ∧ B a y = true))) : nc B n = nc B' n + 1 := by
  obtain ⟨ra, r1, r2, r3⟩ := least_of (p := fun x => B x a = true) (h.refl a ha)
  obtain ⟨rb, s1, s2, s3⟩ := least_of (p := fun x => B x b = true) (h.refl b hb)
  have r3' : ∀ j, j < ra → B j a = false := fun j hj => by simpa using r3 j hj
  have s3' : ∀ j, j < rb → B j b = false := fun j hj => by simpa using s3 j hj
  rcases Nat.lt_trichotomy ra rb with hlt | heq | hlt
  · exact nc_merge' h ha hb (by omega) (by omega) r2 r3' s2 s3' hlt h'
  · subst heq
    have := h.trans a ra b ha (by omega) hb (h.symm ra a (by omega) ha r2) s2
    rw [hab] at this; cases this
  · exact nc_merge' h hb ha (by omega) (by omega) s2 s3' r2 r3' hlt (fun x y hx hy => by rw [h' x y hx hy, or_comm (a := B x a = true ∧ B b y = true)])
theorem nc_congr {B B' : Nat → Nat → Bool} {n : Nat} (h : ∀ x y, x < n → y < n → B' x y = B x y) : nc B n = nc B' n := by
  refine List.countP_congr fun i hi => ?_
  have hi : i < n := by simpa using hi
  rw [rep_iff, rep_iff]
  exact ⟨fun hr j hj => by rw [h j i (by omega) hi]; exact hr j hj, fun hr j hj => by rw [← h j i (by omega) hi]; exact hr j hj⟩
theorem gm_len {R : Rk} (h : OkR R) : (gmR R).length = nc (bothM (rcR R)) (nR R) := by
  have hs := same_of h (-1) (R' := R) rfl rfl (fun x y => arrow_all)
  have key : ∀ i, i ≤ nR R → (grpM (rcR R) (nR R) R.r.toNat i).2.length = nc (bothM (rcR R)) i := by
    intro i
    induction i with
    | zero => intro _; rfl
    | succ i ih =>
      intro hi
      have h3 := (grp_same (r := R.r.toNat) hs (i := i) (Nat.le_of_succ_le hi)).2.2 i hi
      have hc : nc (bothM (rcR R)) (i + 1) = nc (bothM (rcR R)) i + if (!(List.range i).any fun j => bothM (rcR R) j i) = true then 1 else 0 := by
        unfold nc
        rw [List.range_succ, List.countP_append, List.countP_singleton]
      rw [hc, ← ih (by omega)]
      simp only [grpM]
      by_cases ht : (grpM (rcR R) (nR R) R.r.toNat i).1 i = true
      · rw [if_pos ht, if_neg]
        · rfl
        · rw [rep_iff]
          intro hr
          obtain ⟨j, hj, hb⟩ := h3.1 ht
          rw [hr j hj] at hb; cases hb
      · rw [if_neg ht, if_pos]
        · simp
        · rw [rep_iff]
          intro j hj
          cases hb : bothM (rcR R) j i with
          | false => rfl
          | true => exact absurd (h3.2 ⟨j, hj, hb⟩) ht
  exact key _ (Nat.le_refl _)
theorem eqv_both {R : Rk} (h : OkR R) : Eqv (bothM (rcR R)) (nR R) where
  refl := fun x hx => (both_iff h hx hx).2 ⟨.refl x, .refl x⟩
  symm := fun x y hx hy hb => by rw [both_symm]; exact hb
  trans := fun x y z hx hy hz h1 h2 => (both_iff h hx hz).2 ⟨((both_iff h hx hy).1 h1).1.trans ((both_iff h hy hz).1 h2).1, ((both_iff h hy hz).1 h2).2.trans ((both_iff h hx hy).1 h1).2⟩
/-! racks of rods -/
theorem allRod_iff {l : List Br} : allRod l = true ↔ ∀ b ∈ l, b.2.2 = 0 := by simp [allRod]
theorem Ed.symm {R : Rk} (h : allRod R.b = true) {x y : Nat} (he : Ed R x y) : Ed R y x := by
  obtain ⟨b, hb, he⟩ := he
  have hk := allRod_iff.1 h b hb
  refine ⟨b, hb, ?_⟩
  unfold edge at he ⊢
  rw [hk] at he ⊢
  rcases he with ⟨_, h1, h2⟩ | ⟨_, h1, h2⟩
  · exact .inr ⟨by decide, h2, h1⟩
  · exact .inl ⟨by decide, h2, h1⟩
theorem both_rod {R : Rk} (h : allRod R.b = true) {x y : Nat} : Both R x y ↔ Rt (Ed R) x y := ⟨fun h => h.1, fun k => ⟨k, k.symm fun _ _ => Ed.symm h⟩⟩
/-- the rack with one brace more -/
abbrev addR (R : Rk) (b : Br) : Rk := ⟨R.r, R.c, R.b ++ [b]⟩
theorem ed_add {R : Rk} {b : Br} {x y : Nat} : Ed (addR R b) x y ↔ Ed R x y ∨ edge R.r.toNat b x y := by
  simp only [Ed, List.mem_append, List.mem_singleton]
  constructor
  · rintro ⟨b', h | h, he⟩
    · exact .inl ⟨b', h, he⟩
    · subst h; exact .inr he
  · rintro (⟨b', h, he⟩ | he)
    · exact ⟨b', .inl h, he⟩
    · exact ⟨b, .inr rfl, he⟩
theorem ok_add {R : Rk} (h : OkR R) {b : Br} (hb : okB R.r R.c b) : OkR (addR R b) := ⟨h.r1, h.r6, h.c1, h.c6, fun x hx => by
  rcases List.mem_append.1 hx with hx | hx
  · exact h.b x hx
  · simp only [List.mem_singleton] at hx; subst hx; exact hb⟩
theorem rod_add {R : Rk} (h : allRod R.b = true) {b : Br} (hb : b.2.2 = 0) : allRod (addR R b).b = true := by
  rw [allRod_iff] at h ⊢
  intro x hx
  rcases List.mem_append.1 hx with hx | hx
  · exact h x hx
  · simp only [List.mem_singleton] at hx; subst hx; exact hb
theorem rt_add {R : Rk} {b : Br} (hb : b.2.2 = 0) {x y : Nat} : Rt (Ed (addR R b)) x y ↔ Rt (Ed R) x y ∨ (Rt (Ed R) x b.1.toNat ∧ Rt (Ed R) (R.r.toNat + b.2.1.toNat) y) ∨ (Rt (Ed R) x (R.r.toNat + b.2.1.toNat) ∧ Rt (Ed R) b.1.toNat y) := by
  have e1 : Ed (addR R b) b.1.toNat (R.r.toNat + b.2.1.toNat) := ed_add.2 (.inr (.inl ⟨by rw [hb]; decide, rfl, rfl⟩))
  have e2 : Ed (addR R b) (R.r.toNat + b.2.1.toNat) b.1.toNat := ed_add.2 (.inr (.inr ⟨by rw [hb]; decide, rfl, rfl⟩))
  have up : ∀ {x y}, Rt (Ed R) x y → Rt (Ed (addR R b)) x y := fun k => k.mono fun _ _ h => ed_add.2 (.inl h)
  constructor
  · intro k
    induction k with
    | refl => exact .inl (.refl _)
    | tail k e ih =>
      rcases ed_add.1 e with e | ⟨_, rfl, rfl⟩ | ⟨_, rfl, rfl⟩
      · rcases ih with h | ⟨h, h2⟩ | ⟨h, h2⟩
        · exact .inl (.tail h e)
        · exact .inr (.inl ⟨h, .tail h2 e⟩)
        · exact .inr (.inr ⟨h, .tail h2 e⟩)
      · rcases ih with h | ⟨h, h2⟩ | ⟨h, h2⟩
        · exact .inr (.inl ⟨h, .refl _⟩)
        · exact .inr (.inl ⟨h, .refl _⟩)
        · exact .inl h
      · rcases ih with h | ⟨h, h2⟩ | ⟨h, h2⟩
        · exact .inr (.inr ⟨h, .refl _⟩)
        · exact .inl h
        · exact .inr (.inr ⟨h, .refl _⟩)
  · rintro (h | ⟨h, h2⟩ | ⟨h, h2⟩)
    · exact up h
    · exact ((up h).tail e1).trans (up h2)
    · exact ((up h).tail e2).trans (up h2)
/-- a rod takes one group away, or none -/
theorem gm_add {R : Rk} (h : OkR R) (hr : allRod R.b = true) {b : Br} (hb : okB R.r R.c b) (hk : b.2.2 = 0) :
    (gmR R).length = (gmR (addR R b)).length + if misOk R b R.b = true then 0 else 1 := by
  have h' := ok_add h hb
  have hr' := rod_add hr hk
  have hn : nR (addR R b) = nR R := rfl
  have ha : b.1.toNat < nR R := by obtain ⟨k1, k2, k3, k4, _⟩ := hb; simp only [nR]; omega
  have hbk : R.r.toNat + b.2.1.toNat < nR R := by obtain ⟨k1, k2, k3, k4, _⟩ := hb; simp only [nR]; omega
  have hmo : misOk R b R.b = true ↔ Rt (Ed R) b.1.toNat (R.r.toNat + b.2.1.toNat) := by rw [misOk_iff h hb, both_rod hr]
  have hB : ∀ {x y}, x < nR R → y < nR R → (bothM (rcR R) x y = true ↔ Rt (Ed R) x y) := fun hx hy => by rw [both_iff h hx hy, both_rod hr]
  have hB' : ∀ {x y}, x < nR R → y < nR R → (bothM (rcR (addR R b)) x y = true ↔ Rt (Ed (addR R b)) x y) := fun hx hy => by rw [both_iff h' hx hy, both_rod hr']
  rw [gm_len h, gm_len h', hn]
  by_cases hm : misOk R b R.b = true
  · rw [if_pos hm]
    have hab := hmo.1 hm
    have hba := hab.symm fun _ _ => Ed.symm hr
    refine nc_congr fun x y hx hy => ?_
    rw [Bool.eq_iff_iff, hB hx hy, hB' hx hy, rt_add hk]
    exact ⟨fun h => by
      rcases h with h | ⟨h, h2⟩ | ⟨h, h2⟩
      · exact h
      · exact (h.trans hab).trans h2
      · exact (h.trans hba).trans h2, .inl⟩
  · rw [if_neg hm]
    refine nc_merge (eqv_both h) ha hbk ?_ fun x y hx hy => ?_
    · cases hc : bothM (rcR R) b.1.toNat (R.r.toNat + b.2.1.toNat) with
      | false => rfl
      | true => exact absurd (hmo.2 ((hB ha hbk).1 hc)) hm
    · rw [hB hx hy, hB hx ha, hB hbk hy, hB hx hbk, hB ha hy, hB' hx hy, rt_add hk]
end Go.Proofs.Ytecbbbocjmdfgaa
set_option linter.unusedVariables false
set_option linter.unusedSimpArgs false
namespace Go.Proofs.Ytecbbbocjmdfgaa
open Go Fw

def SStR : List AV → Option AV
  | [x] => (asR x).map stV
  | _ => none
def SGpR : List AV → Option AV
  | [x] => (asR x).map gpV
  | _ => none
theorem c17 : ∀ a r, SStR a = some r → PCall Try.prog 17 a r := by
  intro a r h
  unfold SStR at h
  split at h <;> (try (cases h; done))
  obtain ⟨R, h1, rfl⟩ := optmap_some h
  exact p17 h1
theorem c19 : ∀ a r, SGpR a = some r → PCall Try.prog 19 a r := by
  intro a r h
  unfold SGpR at h
  split at h <;> (try (cases h; done))
  obtain ⟨R, h1, rfl⟩ := optmap_some h
  exact p19 h1
def deLs : List AV → Option (List (List Int))
  | [] => some []
  | x :: xs => match asI x, deLs xs with
    | some l, some ls => some (l :: ls)
    | _, _ => none
theorem deLs_inv : ∀ {xs : List AV} {ls : List (List Int)}, deLs xs = some ls → xs.length = ls.length ∧ ∀ (i : Nat) (h : i < xs.length), asI xs[i] = some (ls.getD i [])
  | [], ls, h => by simp only [deLs] at h; injection h with h; subst h; exact ⟨rfl, fun i h => by simp at h⟩
  | x :: xs, ls, h => by
    simp only [deLs] at h
    split at h <;> (try (cases h; done))
    rename_i l ls' h1 h2
    injection h with h; subst h
    obtain ⟨h3, h4⟩ := deLs_inv h2
    refine ⟨by simp [h3], fun i hi => ?_⟩
    cases i with
    | zero => simpa using h1
    | succ i => simpa using h4 i (by simpa using hi)
def SCat : List AV → Option AV
  | [.sl 1 xs _] => (deLs xs).bind fun ls => if (catL (fun i => ls.getD i []) xs.length).length ≤ 1000000 ∧ xs.length ≤ 1000 then some (outV 1 (ints (catL (fun i => ls.getD i []) xs.length))) else none
  | _ => none
theorem c68 : ∀ a r, SCat a = some r → PCall Try.prog 68 a r := by
  intro a r h
  unfold SCat at h
  split at h <;> (try (cases h; done))
  obtain ⟨ls, h1, h2⟩ := Option.bind_eq_some_iff.1 h
  split at h2 <;> (try (cases h2; done))
  rename_i hc
  injection h2 with h2; subst h2
  exact p68 (deLs_inv h1).2 (fun i hi => Nat.le_trans (catL_le _ hi) hc.1) hc.2

def T05 : FuncId → Option Entry
  | 14 => some (.code A14 R14 83)
  | 15 => some (.code A15 R15 169)
  | 21 => some (.code A21 R21 37)
  | 23 => some (.code A23 R23 43)
  | 24 => some (.code A24 R24 26)
  | 30 => some (.code A30 R30 59)
  | 32 => some (.code A32 R32 49)
  | 34 => some (.code A34 R34 32)
  | 40 => some (.code A40 R40 85)
  | 46 => some (.code A46 R46 65)
  | 49 => some (.code A49 R49 3)
  | 50 => some (.code A50 R50 5)
  | 51 => some (.code A51 R51 35)
  | 52 => some (.code A52 R52 3)
  | 53 => some (.code A53 R53 4)
  | 62 => some (.code A62 R62 14)
  | 65 => some (.code A65 R65 65)
  | 66 => some (.code A66 R66 9)
  | 67 => some (.code A67 R67 57)
  | 69 => some (.code A69 R69 9)
  | 70 => some (.code A70 R70 6)
  | 71 => some (.code A71 R71 25)
  | 72 => some (.code A72 R72 25)
  | 77 => some (.code A77 R77 9)
  | 78 => some (.code A78 R78 6)
  | 80 => some (.code A80 R80 19)
  | 81 => some (.code A81 R81 19)
  | 17 => some (.spec SStR)
  | 19 => some (.spec SGpR)
  | 25 => some (.spec SChkR)
  | 27 => some (.spec SFree)
  | 29 => some (.spec SMiss)
  | 54 => some (.spec SFrame)
  | 55 => some (.spec SStf)
  | 56 => some (.spec SHas)
  | 57 => some (.spec STog)
  | 60 => some (.spec SBtw)
  | 68 => some (.spec SCat)
  | 74 => some (.spec SFrom)
  | 75 => some (.spec SAll)
  | _ => none
theorem T05ok : TOk Try.prog T05 := by
  intro f x h
  unfold T05 at h
  split at h <;> (try (cases h; done)) <;> (injection h with h; subst h)
  · exact ⟨_, _, ok14⟩
  · exact ⟨_, _, ok15⟩
  · exact ⟨_, _, ok21⟩
  · exact ⟨_, _, ok23⟩
  · exact ⟨_, _, ok24⟩
  · exact ⟨_, _, ok30⟩
  · exact ⟨_, _, ok32⟩
  · exact ⟨_, _, ok34⟩
  · exact ⟨_, _, ok40⟩
  · exact ⟨_, _, ok46⟩
  · exact ⟨_, _, ok49⟩
  · exact ⟨_, _, ok50⟩
  · exact ⟨_, _, ok51⟩
  · exact ⟨_, _, ok52⟩
  · exact ⟨_, _, ok53⟩
  · exact ⟨_, _, ok62⟩
  · exact ⟨_, _, ok65⟩
  · exact ⟨_, _, ok66⟩
  · exact ⟨_, _, ok67⟩
  · exact ⟨_, _, ok69⟩
  · exact ⟨_, _, ok70⟩
  · exact ⟨_, _, ok71⟩
  · exact ⟨_, _, ok72⟩
  · exact ⟨_, _, ok77⟩
  · exact ⟨_, _, ok78⟩
  · exact ⟨_, _, ok80⟩
  · exact ⟨_, _, ok81⟩
  · exact c17
  · exact c19
  · exact c25
  · exact c27
  · exact c29
  · exact c54
  · exact c55
  · exact c56
  · exact c57
  · exact c60 CtxOk.nil
  · exact c68
  · exact c74
  · exact c75

theorem p15 : PCall Try.prog 15 [] (.bool true) := evTrue T05ok (L := 40) (n := 12) (by decide +kernel)
end Go.Proofs.Ytecbbbocjmdfgaa
set_option linter.unusedVariables false
set_option linter.unusedSimpArgs false
namespace Go.Proofs.Ytecbbbocjmdfgaa
open Go Fw

def TBr : Ty := .st (.fcons (.int .i64) (.fcons (.int .i64) (.fcons (.int .i64) .fnil)))
def TRk : Ty := .st (.fcons (.int .i64) (.fcons (.int .i64) (.fcons (.sl TBr) .fnil)))
theorem shv_three {k1 k2 k3 : IntKind} {x : AV} (h : ShV (.st (.fcons (.int k1) (.fcons (.int k2) (.fcons (.int k3) .fnil)))) x) : ∃ a b c, x = .agg [.int k1 a, .int k2 b, .int k3 c] ∧ (Lit.int k1 a).wf = true ∧ (Lit.int k2 b).wf = true ∧ (Lit.int k3 c).wf = true := by
  obtain ⟨cs, rfl, h1⟩ := shv_agg rfl h
  obtain ⟨u, v, rfl, hu, hv⟩ := sh_cons (show Sh (.fcons _ _) cs from h1)
  obtain ⟨u2, v2, rfl, hu2, hv2⟩ := sh_cons hv
  obtain ⟨u3, v3, rfl, hu3, hv3⟩ := sh_cons hv2
  obtain ⟨a, rfl, ha⟩ := sh_int hu
  obtain ⟨b, rfl, hb⟩ := sh_int hu2
  obtain ⟨c, rfl, hc⟩ := sh_int hu3
  rw [sh_nil hv3]
  exact ⟨a, b, c, rfl, ha, hb, hc⟩
theorem brs_of : ∀ {xs : List AV}, (∀ y ∈ xs, ShV TBr y) → ∃ l : List Br, xs = brs l
  | [], _ => ⟨[], rfl⟩
  | y :: xs, h => by
    obtain ⟨a, b, c, rfl, _⟩ := shv_three (h y (by simp))
    obtain ⟨l, rfl⟩ := brs_of (xs := xs) fun z hz => h z (by simp [hz])
    exact ⟨(a, b, c) :: l, rfl⟩
theorem rack_typed {x : AV} (h : ShV TRk x) : (∃ R, asR x = some R ∧ R.b.length ≤ 60) ∨ ∃ r c l, x = .agg [.int .i64 r, .int .i64 c, .sl 3 (brs l) .shared] ∧ 60 < l.length := by
  obtain ⟨cs, rfl, h1⟩ := shv_agg rfl h
  obtain ⟨u, v, rfl, hu, hv⟩ := sh_cons (show Sh (.fcons _ _) cs from h1)
  obtain ⟨u2, v2, rfl, hu2, hv2⟩ := sh_cons hv
  obtain ⟨u3, v3, rfl, hu3, hv3⟩ := sh_cons hv2
  obtain ⟨a, rfl, ha⟩ := sh_int hu
  obtain ⟨b, rfl, hb⟩ := sh_int hu2
  rw [sh_nil hv3]
  rcases (show u3 = [.nilsl] ∨ ∃ xs, u3 = [.sl TBr.size xs .shared] ∧ xs.length ≤ Go.maxLen ∧ ∀ x ∈ xs, ShV TBr x from hu3) with rfl | ⟨xs, rfl, hl, hx⟩
  · exact .inl ⟨⟨a, b, []⟩, rfl, by simp⟩
  · obtain ⟨l, rfl⟩ := brs_of hx
    rcases Nat.lt_or_ge 60 l.length with h' | h'
    · exact .inr ⟨a, b, l, rfl, h'⟩
    · exact .inl ⟨⟨a, b, l⟩, asR_mk (asB_sl (by omega)), h'⟩
theorem p3l {r c : Int} {l : List Br} (hl : 60 < l.length) : PCall Try.prog 3 [.agg [.int .i64 r, .int .i64 c, .sl 3 (brs l) .shared]] (.bool true) := by
  refine PCall.of (D10ok p15) ok3 (by simp) rfl fun hs' hb => ?_
  have e1 : (AV.agg [.int .i64 r, .int .i64 c, .sl 3 (brs l) .shared]).sto = true := rfl
  have e2 : afaddr false 1 2 (.ptr (.agg [.int .i64 r, .int .i64 c, .sl 3 (brs l) .shared])) = some (.ptr (.sl 3 (brs l) .shared)) := rfl
  have e3 : ∀ h, aload h false 1 (.ptr (.sl 3 (brs l) .shared)) = some (.sl 3 (brs l) .shared) := fun _ => rfl
  simp [A3, R3, e1, e2, e3]
  refine At.dec (fun h => ?_) (fun h => ?_)
  · simp
  · omega
theorem stiff_typed (xs : List AV) (h : Typed [TRk] xs) : PCall Try.prog 3 xs (.bool true) := by
  obtain ⟨x, rfl, hx⟩ := h.one
  rcases rack_typed hx with ⟨R, hR, _⟩ | ⟨r, c, l, rfl, hl⟩
  · exact p3 p15 hR
  · exact p3l hl
end Go.Proofs.Ytecbbbocjmdfgaa
set_option linter.unusedVariables false
set_option linter.unusedSimpArgs false
namespace Go.Proofs.Ytecbbbocjmdfgaa
open Go Fw

theorem p14 : PCall Try.prog 14 [] (.bool true) := evTrue T05ok (L := 40) (n := 12) (by decide +kernel)
theorem known_typed (xs : List AV) (h : Typed [] xs) : PCall Try.prog 14 xs (.bool true) := by
  rw [h.nil]
  exact p14
end Go.Proofs.Ytecbbbocjmdfgaa
