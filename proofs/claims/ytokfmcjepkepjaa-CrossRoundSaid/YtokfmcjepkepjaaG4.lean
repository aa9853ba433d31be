/-
  Rules for rollers, after the reference; Roller. Own work.
  Shortest rules: theory, and the search with bits. Own work.
  Shortest rules: the walks; the laws of shortest rules and of the examples. Own work.
-/
import Derived.Test.YtokfmcjepkepjaaG3
set_option linter.unusedVariables false
set_option linter.unusedSimpArgs false
namespace Go.Proofs.Ytokfmcjepkepjaa
open Go Fw

theorem blF_rep (n : Nat) : List.replicate n (AV.bool false) = blF n fun _ => false := by
  unfold blF
  rw [List.map_const', List.length_range]
theorem blF_congr {n : Nat} {f g : Nat → Bool} (h : ∀ j, j < n → f j = g j) : blF n f = blF n g := by
  unfold blF
  apply List.map_congr_left
  intro j hj
  rw [h j (by simpa using hj)]
/-- marks of the first ways -/
def mkW (ws : List Int) (i : Nat) (j : Nat) : Bool := (ws.take i).any fun w => decide (j = w.toNat)
theorem mkW_c {ws : List Int} {i : Nat} (h : i < ws.length) (j : Nat) : mkW ws (i + 1) j = (if j = ws[i].toNat then true else mkW ws i j) := by
  unfold mkW
  rw [any_take_succ h]
  by_cases hj : j = ws[i].toNat
  · simp [hj]
  · simp [hj]
theorem mkW_all {l : List Int} {size : Int} (j : Nat) : mkW ((resG l.length 0).map (wyN l size)) ((resG l.length 0).map (wyN l size)).length j = usW l size j := by
  unfold mkW usW
  rw [List.take_length, List.any_map]; rfl
theorem p70 {size : Int} (hs1 : 2 ≤ size) (hs2 : size ≤ 40) : ∀ (r : Nat) {x : AV} {l : List Int} {cr : Nat}, asI x = some l → l.length + r = cr → cr ≤ 60 → l ≠ [] → (∀ n ∈ l, 0 ≤ n ∧ n < size) → l.Pairwise (· < ·) → (r = 0 → ∃ k, x = .sl 1 (ints l) (.own k)) → PCall Try.prog 70 [x, .int .i64 (cr : Int), .int .i64 size] (fsV (ext (roA size) (size - 1) r l)) := by
  intro r
  induction r with
  | zero =>
    intro x l cr hx hlr hcr hne hbd hasc hown
    obtain ⟨k, rfl⟩ := hown rfl
    have hlen : alenK false (.sl 1 (ints l) (.own k)) = some (.int .i64 (cr : Int)) := by rw [alen_of hx, ← hlr]; simp
    refine PCall.of D2ok ok70 (by simp) (fsV_plain _) fun hs' hb => ?_
    generalize hX : AV.sl 1 (ints l) (.own k) = X at *
    have hXs : X.share = .sl 1 (ints l) .shared := by rw [← hX, share_sl, share_ints]; rfl
    simp only [ext]
    simp [A70, R70, hlen]
    rw [hXs]; rfl
  | succ r ih =>
    intro x l cr hx hlr hcr hne hbd hasc hown
    have hlp := List.length_pos_iff.2 hne
    have hsm : Sm l := fun n hn => by have := hbd n hn; omega
    obtain ⟨n, hn⟩ : ∃ n, l.length = n + 1 := ⟨l.length - 1, by omega⟩
    have hlen : alenK false x = some (.int .i64 (l.length : Int)) := alen_of hx
    have hlc : ¬ ((l.length : Int) = (cr : Int)) := by omega
    have hlc' : ¬ (l.length = cr) := by omega
    have hwn : IntKind.i64.wrap ((l.length : Int) - 1) = (n : Int) := by rw [wrap64 (by omega) (by omega)]; omega
    have hlast : aidxS 1 x (.int .i64 (n : Int)) = some (.ptr (.int .i64 (lastN l))) := by
      obtain ⟨l', q, rfl⟩ := snoc_of hne
      have hnl : n = l'.length := by simpa using hn.symm
      have := aidx_nat hx (i := l'.length) (by simp) (k := .i64)
      rw [hnl, lastN_snoc]
      simpa using this
    have hlb : 0 ≤ lastN l ∧ lastN l < size ∧ ∀ a ∈ l, a ≤ lastN l := by
      obtain ⟨l', q, rfl⟩ := snoc_of hne
      rw [lastN_snoc]
      have := hbd q (by simp)
      refine ⟨this.1, this.2, fun a ha => ?_⟩
      rcases List.mem_append.1 ha with ha | ha
      · have := (List.pairwise_append.1 hasc).2.2 a ha q (by simp); omega
      · rw [List.mem_singleton.1 ha]; exact Int.le_refl _
    have hws : IntKind.i64.wrap (lastN l + 1) = lastN l + 1 := wrap64 (by omega) (by omega)
    have hB : ∀ q : Int, lastN l < q → q < size → (∀ n ∈ l ++ [q], 0 ≤ n ∧ n < size) ∧ (l ++ [q]).Pairwise (· < ·) := fun q h1 h2 => by
      refine ⟨fun m hm => ?_, List.pairwise_append.2 ⟨hasc, by simp, fun a ha b hb => ?_⟩⟩
      · rcases List.mem_append.1 hm with hm | hm
        · exact hbd m hm
        · rw [List.mem_singleton.1 hm]; omega
      · rw [List.mem_singleton.1 hb]
        have := hlb.2.2 a ha; omega
    obtain ⟨ws, hws0⟩ : ∃ ws, ws = (resG l.length 0).map (wyN l size) := ⟨_, rfl⟩
    have hwl : ws.length ≤ 4096 := by rw [hws0]; simpa using resG_len (n := l.length) (by omega)
    have hwb : ∀ w ∈ ws, 0 ≤ w ∧ w < size := fun w hw => by
      rw [hws0] at hw
      obtain ⟨p, hp, rfl⟩ := List.mem_map.1 hw
      obtain ⟨g1, g2, _⟩ := mem_resG.1 hp
      exact wyN_bd (by omega) hbd g1 g2
    have hwI : asI (outV 1 (ints ws)) = some ws := asI_outV (by omega)
    obtain ⟨C, hC, k72, k70⟩ : ∃ C, CtxOk Try.prog C ∧ C 72 [x, .int .i64 size] = some (.tup [outV 2 (prs (resG l.length 0)), outV 1 (ints ws)]) ∧ ∀ (t : Nat) (q : Int), lastN l < q → q < size → C 70 [.sl 1 (ints (l ++ [q])) (.own t), .int .i64 (cr : Int), .int .i64 size] = some (fsV (ext (roA size) (size - 1) r (l ++ [q]))) := by
      refine ⟨_, (CtxOk.nil.pt (hws0 ▸ p72 hx hsm (by omega) (by omega) (by omega))).fam (ι := { w : Nat × Int // lastN l < w.2 ∧ w.2 < size }) (g := fun w => [.sl 1 (ints (l ++ [w.1.2])) (.own w.1.1), .int .i64 (cr : Int), .int .i64 size]) (r := fun w => fsV (ext (roA size) (size - 1) r (l ++ [w.1.2]))) (fun w => ih (asI_sl (by simp; omega)) (by simp; omega) hcr (by simp) (hB w.1.2 w.2.1 w.2.2).1 (hB w.1.2 w.2.1 w.2.2).2 (fun _ => ⟨_, rfl⟩)), by rw [fam_ne (by decide)]; simp, fun t q h1 h2 => ?_⟩
      exact fam_eq (ι := { w : Nat × Int // lastN l < w.2 ∧ w.2 < size }) (g := fun w => [.sl 1 (ints (l ++ [w.1.2])) (.own w.1.1), .int .i64 (cr : Int), .int .i64 size]) (r := fun w => fsV (ext (roA size) (size - 1) r (l ++ [w.1.2]))) (fun i j h => by
          have h1 := congrArg (fun z => match z with | [AV.sl _ ys _, _, _] => ys.getLastD .nilsl | _ => .nilsl) h
          simp [ints] at h1
          rw [h1]) ⟨(t, q), h1, h2⟩
    generalize outV 2 (prs (resG l.length 0)) = PV at *
    generalize hWV : outV 1 (ints ws) = WV at *
    obtain ⟨sz, hsz⟩ : ∃ sz : Nat, size = (sz : Int) := ⟨size.toNat, by omega⟩
    have hmk := fun hs : HS => amake_eq (z := .bool false) (hs := hs) (k1 := .i64) (k2 := .i64) (n := sz) (by omega)
    rw [← hsz] at hmk
    refine PCall.of hC ok70 (by simp) (fsV_plain _) fun hs' hb => ?_
    rw [ext_s]
    simp [A70, R70, hlen, hlc, hlc', k72, hwn, hlast, hws]
    refine At.loop (fun (p : Int) s => lastN l + 1 ≤ p ∧ p ≤ size ∧ s.env 0 = x ∧ s.env 1 = .int .i64 (cr : Int) ∧ s.env 2 = .int .i64 size ∧ s.env 8 = WV ∧ s.env 9 = .int .i64 p ∧ tryF (roA size) (size - 1) r l (lastN l + 1) = tryF (roA size) (size - 1) r l p) (fun p => (size - p).toNat) (lastN l + 1) ?_ ?_
    · exact ⟨by omega, by omega, by simp, by simp, by simp, by simp, by simp, rfl⟩
    rintro N p s hN ⟨hp1, hp2, e0, e1, e2, e8, e9, hf⟩
    by_cases hle : p < size
    rotate_left
    · rw [tryF_n (p := p) (by omega)] at hf
      rw [hf]
      simp [e2, e9, hle, fsV]
    rw [tryF_c (p := p) (by omega)] at hf
    have hwp : IntKind.i64.wrap (p + 1) = p + 1 := wrap64 (by omega) (by omega)
    simp [e2, e9, hle, hmk]
    generalize hb0 : s.hs.nh = b
    refine At.loop (fun (i : Nat) s => i ≤ ws.length ∧ s.env 0 = x ∧ s.env 1 = .int .i64 (cr : Int) ∧ s.env 2 = .int .i64 size ∧ s.env 8 = WV ∧ s.env 9 = .int .i64 p ∧ s.env 10 = .msl false 1 b 0 sz true ∧ s.env 11 = .int .i64 (i : Int) ∧ s.hs.heap b = some (blF sz (mkW ws i))) (fun i => ws.length - i) 0 ?_ ?_
    · refine ⟨by omega, by simp [e0], by simp [e1], by simp [e2], by simp [e8], by simp [e9], by simp [hb0], by simp, ?_⟩
      have : mkW ws 0 = fun _ => false := by funext j; simp [mkW]
      rw [this, ← blF_rep, ← hb0]
      simp
    rintro N2 i s hN2 ⟨hi, e0, e1, e2, e8, e9, e10, e11, w1⟩
    simp [e8, e11, alen_of hwI]
    refine At.dec (fun hlt2 => ?_) (fun hlt2 => ?_)
    · have hi' : i < ws.length := by omega
      have hbi := hwb ws[i] (List.getElem_mem _)
      obtain ⟨d, hd⟩ : ∃ d : Nat, ws[i] = (d : Int) := ⟨ws[i].toNat, by omega⟩
      have hds : d < sz := by omega
      have hsu : blF sz (mkW ws (i + 1)) = blF sz (fun j => if j = d then true else mkW ws i j) := blF_congr fun j _ => by rw [mkW_c hi', hd]; simp
      have hix := aidx_nat hwI hi' (k := .i64)
      rw [hd] at hix
      simp [e8, e10, e11, hix, hds, bl_sc w1 hds]
      refine hN2 (i + 1) _ (by omega) ⟨by omega, by simp [e0], by simp [e1], by simp [e2], by simp [e8], by simp [e9], by simp [e10], by simp [wrap_nat1 (show i < _ by omega)], by rw [hsu]; simp⟩
    have hie : i = ws.length := by omega
    subst hie
    have hus : blF sz (mkW ws ws.length) = blF sz (usW l size) := blF_congr fun j _ => by rw [hws0]; exact mkW_all j
    rw [hus] at w1
    clear hN2 hus
    simp
    refine At.loop (fun (i : Nat) s => i ≤ l.length ∧ s.env 0 = x ∧ s.env 1 = .int .i64 (cr : Int) ∧ s.env 2 = .int .i64 size ∧ s.env 8 = WV ∧ s.env 9 = .int .i64 p ∧ s.env 10 = .msl false 1 b 0 sz true ∧ s.env 13 = .int .i64 (i : Int) ∧ ∃ g f, s.env 12 = .bool g ∧ s.hs.heap b = some (blF sz f) ∧ roA size (l ++ [p]) = roF size p (l.drop i) g f) (fun i => l.length - i) 0 ?_ ?_
    · exact ⟨by omega, by simp [e0], by simp [e1], by simp [e2], by simp [e8], by simp [e9], by simp [e10], by simp, true, usW l size, by simp, by simpa using w1, by rw [roA_snoc]; simp⟩
    rintro N2 i s hN2 ⟨hi, e0, e1, e2, e8, e9, e10, e13, g, f, e12, w1, hga⟩
    simp [e0, e13, hlen]
    refine At.dec (fun hlt3 => ?_) (fun hlt3 => ?_)
    · have hi' : i < l.length := by omega
      have hbi := hbd l[i] (List.getElem_mem _)
      have hlq := hlb.2.2 l[i] (List.getElem_mem _)
      rw [List.drop_eq_getElem_cons hi', roF] at hga
      obtain ⟨d, hd⟩ : ∃ d : Nat, p - l[i] = (d : Int) := ⟨(p - l[i]).toNat, by omega⟩
      obtain ⟨e, he⟩ : ∃ e : Nat, size - (d : Int) = (e : Int) := ⟨(size - (d : Int)).toNat, by omega⟩
      have hwd : IntKind.i64.wrap (p - l[i]) = (d : Int) := by rw [wrap64 (by omega) (by omega), hd]
      have hwe : IntKind.i64.wrap (size - (d : Int)) = (e : Int) := by rw [wrap64 (by omega) (by omega), he]
      have hds : d < sz := by omega
      have hes : e < sz := by omega
      rw [hd, he] at hga
      simp only [Int.toNat_natCast] at hga
      have ld := bl_ld w1 hds
      have le := bl_ld w1 hes
      have hde : decide (2 * (d : Int) ≠ size) = !decide (d = e) := by
        rw [Bool.eq_iff_iff]; simp; omega
      rw [hde] at hga
      have hst1 := bl_sc (b := true) w1 hds
      have hst2 := bl_sc (hp := fun k => if k = b then some (blF sz fun j => if j = d then true else f j) else s.hs.heap k) (q := b) (n := sz) (f := fun j => if j = d then true else f j) (i := e) (b := true) (by simp) hes
      simp at hst1 hst2
      have hwi := wrap_nat1 (show i < 9223372036854775807 by omega)
      have fin : ∀ (g' : Bool) (s' : AS), s'.env 0 = x → s'.env 1 = .int .i64 (cr : Int) → s'.env 2 = .int .i64 size → s'.env 8 = WV → s'.env 9 = .int .i64 p → s'.env 10 = .msl false 1 b 0 sz true → s'.env 12 = .bool g' → s'.env 13 = .int .i64 ((i + 1 : Nat) : Int) → s'.hs.heap b = some (blF sz fun j => decide (j = e) || (decide (j = d) || f j)) → (g && !f d && !f e && !decide (d = e)) = g' → At (N2 s') :=
        fun g' s' a0 a1 a2 a8 a9 a10 a12 a13 aw hg => hN2 (i + 1) s' (by omega) ⟨by omega, a0, a1, a2, a8, a9, a10, a13, g', _, a12, aw, by rw [hga, hg]⟩
      cases hg : g with
      | false =>
        rw [hg] at e12 fin
        simp [e0, e2, e9, e10, e12, e13, aidx_nat hx hi', hwd, hwe, hds, hes, hst1, hst2]
        exact fin false _ (by simp [e0]) (by simp [e1]) (by simp [e2]) (by simp [e8]) (by simp [e9]) (by simp [e10]) (by simp) (by simp [hwi]) (by simp) (by simp)
      | true =>
        rw [hg] at e12 fin
        cases hfd : f d with
        | true =>
          rw [hfd] at ld
          simp [e0, e2, e9, e10, e12, e13, aidx_nat hx hi', hwd, hwe, hds, hes, hst1, hst2, ld]
          exact fin false _ (by simp [e0]) (by simp [e1]) (by simp [e2]) (by simp [e8]) (by simp [e9]) (by simp [e10]) (by simp) (by simp [hwi]) (by simp) (by simp [hfd])
        | false =>
          rw [hfd] at ld
          cases hfe : f e with
          | true =>
            rw [hfe] at le
            simp [e0, e2, e9, e10, e12, e13, aidx_nat hx hi', hwd, hwe, hds, hes, hst1, hst2, ld, le]
            exact fin false _ (by simp [e0]) (by simp [e1]) (by simp [e2]) (by simp [e8]) (by simp [e9]) (by simp [e10]) (by simp) (by simp [hwi]) (by simp) (by simp [hfe])
          | false =>
            rw [hfe] at le
            have hdi : decide ((d : Int) ≠ (e : Int)) = !decide (d = e) := by rw [Bool.eq_iff_iff]; simp; omega
            simp [e0, e2, e9, e10, e12, e13, aidx_nat hx hi', hwd, hwe, hds, hes, hst1, hst2, ld, le]
            exact fin (!decide (d = e)) _ (by simp [e0]) (by simp [e1]) (by simp [e2]) (by simp [e8]) (by simp [e9]) (by simp [e10]) (by simp; try omega) (by simp [hwi]) (by simp) (by simp [hfd, hfe])
    · have hie : i = l.length := by omega
      subst hie
      rw [List.drop_length, roF] at hga
      subst hga
      cases hgr : roA size (l ++ [p]) with
      | false =>
        rw [hgr] at hf e12
        simp only [Bool.false_eq_true, if_false] at hf
        simp [e9, e12, hwp]
        refine hN (p + 1) _ (by omega) ⟨by omega, by omega, by simp [e0], by simp [e1], by simp [e2], by simp [e8], by simp, hf⟩
      | true =>
        rw [hgr] at hf e12
        rw [if_pos rfl] at hf
        simp [e0, e9, e12, astoAll]
        refine At.snoc hx hne (by omega) ?_
        rintro y hs2 m1 hK
        simp [e9, astoAll, si]
        refine hK ?_
        rintro Y hs3 ⟨t, hY⟩ m2
        have k70' := k70 t p (by omega) hle
        rw [← hY] at k70'
        simp [e1, e2, k70']
        cases hgo : ext (roA size) (size - 1) r (l ++ [p]) with
        | none =>
          rw [hgo, Option.none_or] at hf
          simp [fsV, e9, hwp]
          refine hN (p + 1) _ (by omega) ⟨by omega, by omega, by simp [e0], by simp [e1], by simp [e2], by simp [e8], by simp, hf⟩
        | some L =>
          rw [hgo, Option.some_or] at hf
          rw [hf]
          simp [fsV]
def roV (cr size : Int) : AV := if btw 2 cr 6 = true ∧ btw 2 size 40 = true then (match ext (roA size) (size - 1) (cr.toNat - 1) [0] with | none => .tup [.nilsl, .int .i64 14] | some l => .tup [.sl 1 (ints l) .shared, .int .i64 0]) else .tup [.nilsl, .int .i64 4]
theorem roV_plain (cr size : Int) : (roV cr size).plain = true := by
  unfold roV
  split
  · split
    · rfl
    · simp [AV.plain, plainL, plain_ints]
  · rfl
theorem p34 (cr size : Int) : PCall Try.prog 34 [.int .i64 cr, .int .i64 size] (roV cr size) := by
  have hpl := roV_plain cr size
  by_cases hb : btw 2 cr 6 = true ∧ btw 2 size 40 = true
  rotate_left
  · have hR : roV cr size = .tup [.nilsl, .int .i64 4] := by rw [roV, if_neg hb]
    refine PCall.of D2ok ok34 (by simp) hpl fun hs' hbb => ?_
    rw [hR]
    cases h1 : btw 2 cr 6 with
    | false => simp [A34, R34, si, h1]
    | true =>
      cases h2 : btw 2 size 40 with
      | true => exact absurd ⟨h1, h2⟩ hb
      | false => simp [A34, R34, si, h1, h2]
  obtain ⟨h1, h2⟩ := hb
  have b1 : 2 ≤ cr ∧ cr ≤ 6 := by simpa [btw] using h1
  have b2 : 2 ≤ size ∧ size ≤ 40 := by simpa [btw] using h2
  obtain ⟨n, rfl⟩ : ∃ n : Nat, cr = (n : Int) := ⟨cr.toNat, by omega⟩
  have hw : IntKind.i64.wrap (size - 1) = size - 1 := wrap64 (by omega) (by omega)
  obtain ⟨C, hC, k63, k54⟩ : ∃ C, CtxOk Try.prog C ∧ C 63 [.int .i64 (n : Int), .int .i64 (size - 1), .fn (.func 66) [] [.ptr (.int .i64 size)]] = some (fsV (ext (roA size) (size - 1) (n - 1) [0])) ∧ C 54 = SBtw :=
    ⟨_, D2ok.pt (f63r (cr := n) (size := size) (by omega) (by omega) b2.1 b2.2), by simp, by rw [← D2_54]; funext a; simp⟩
  have hR : roV (n : Int) size = (match ext (roA size) (size - 1) (n - 1) [0] with | none => .tup [.nilsl, .int .i64 14] | some l => .tup [.sl 1 (ints l) .shared, .int .i64 0]) := by rw [roV, if_pos ⟨h1, h2⟩]; rfl
  refine PCall.of hC ok34 (by simp) hpl fun hs' hbb => ?_
  rw [hR]
  cases hE : ext (roA size) (size - 1) (n - 1) [0] with
  | none =>
    rw [hE] at k63
    simp [A34, R34, si, k54, h1, h2, hw, k63, fsV]
  | some l =>
    rw [hE] at k63
    simp [A34, R34, si, k54, h1, h2, hw, k63, fsV]
theorem p35 (cr size : Int) : PCall Try.prog 35 [.int .i64 cr, .int .i64 size] (roV cr size) := by
  have hpl := roV_plain cr size
  by_cases hb : btw 2 cr 6 = true ∧ btw 2 size 40 = true
  rotate_left
  · have hR : roV cr size = .tup [.nilsl, .int .i64 4] := by rw [roV, if_neg hb]
    refine PCall.of D2ok ok35 (by simp) hpl fun hs' hbb => ?_
    rw [hR]
    cases h1 : btw 2 cr 6 with
    | false => simp [A35, R35, h1]
    | true =>
      cases h2 : btw 2 size 40 with
      | true => exact absurd ⟨h1, h2⟩ hb
      | false => simp [A35, R35, h1, h2]
  obtain ⟨h1, h2⟩ := hb
  have b1 : 2 ≤ cr ∧ cr ≤ 6 := by simpa [btw] using h1
  have b2 : 2 ≤ size ∧ size ≤ 40 := by simpa [btw] using h2
  obtain ⟨n, rfl⟩ : ∃ n : Nat, cr = (n : Int) := ⟨cr.toNat, by omega⟩
  have hx0 : asI (.sl 1 [.int .i64 0] .exact) = some [0] := rfl
  obtain ⟨C, hC, k70, k53⟩ : ∃ C, CtxOk Try.prog C ∧ C 70 [.sl 1 [.int .i64 0] .exact, .int .i64 (n : Int), .int .i64 size] = some (fsV (ext (roA size) (size - 1) (n - 1) [0])) ∧ C 53 = SIs :=
    ⟨_, D2ok.pt (p70 b2.1 b2.2 (n - 1) (cr := n) hx0 (by simp; omega) (by omega) (by simp) (fun m hm => by rw [List.mem_singleton.1 hm]; omega) (by simp) (fun h => by omega)), by simp, by rw [← D2_53]; funext a; simp⟩
  have hR : roV (n : Int) size = (match ext (roA size) (size - 1) (n - 1) [0] with | none => .tup [.nilsl, .int .i64 14] | some l => .tup [.sl 1 (ints l) .shared, .int .i64 0]) := by rw [roV, if_pos ⟨h1, h2⟩]; rfl
  have hst : astoAll 1 [AV.int .i64 0] = true := by simp [astoAll]
  refine PCall.of hC ok35 (by simp) hpl fun hs' hbb => ?_
  rw [hR]
  cases hE : ext (roA size) (size - 1) (n - 1) [0] with
  | none =>
    rw [hE] at k70
    simp [A35, R35, k53, h1, h2, hst, k70, fsV]
  | some l =>
    rw [hE] at k70
    simp [A35, R35, k53, h1, h2, hst, k70, fsV]
end Go.Proofs.Ytokfmcjepkepjaa
set_option linter.unusedVariables false
set_option linter.unusedSimpArgs false
namespace Go.Proofs.Ytokfmcjepkepjaa
open Go Fw

theorem fs_congr {α β : Type} {f g : α → Option β} : ∀ {L : List α}, (∀ q ∈ L, f q = g q) → L.findSome? f = L.findSome? g
  | [], _ => rfl
  | a :: L, h => by
    rw [List.findSome?_cons, List.findSome?_cons, h a (by simp), fs_congr (L := L) fun q hq => h q (by simp [hq])]
theorem cand_mem {a last q : Int} : q ∈ cand a last ↔ a ≤ q ∧ q ≤ last := by
  unfold cand
  simp only [List.mem_map, List.mem_range]
  constructor
  · rintro ⟨i, hi, rfl⟩; omega
  · intro ⟨h1, h2⟩; exact ⟨(q - a).toNat, by omega, by omega⟩
theorem ext_mono {acc : List Int → Bool} {a b : Int} (hab : a ≤ b) : ∀ (r : Nat) (l : List Int), ext acc b r l = none → ext acc a r l = none
  | 0, l, h => by cases h
  | r + 1, l, h => by
    simp only [ext, List.findSome?_eq_none_iff] at h ⊢
    intro q hq
    obtain ⟨h1, h2⟩ := cand_mem.1 hq
    have := h q (cand_mem.2 ⟨h1, by omega⟩)
    split at this
    · rename_i ha
      rw [if_pos ha]; exact ext_mono hab r _ this
    · rename_i ha
      rw [if_neg ha]
theorem gro_none {last : Int} : ∀ (r : Nat) (l : List Int), ext grA last r l = none → gro last r l = none
  | 0, l, h => by cases h
  | r + 1, l, h => by
    simp only [ext, gro, List.findSome?_eq_none_iff] at h ⊢
    intro q hq
    have := h q hq
    split at this
    · rename_i ha
      rw [if_pos ha]; exact gro_none r _ this
    · rename_i ha
      rw [if_neg ha]
theorem gro_ext {last : Int} : ∀ (r : Nat) (l : List Int), ext grA (last - 1) r l = none → gro last r l = ext grA last r l
  | 0, l, h => by cases h
  | r + 1, l, h => by
    simp only [ext, List.findSome?_eq_none_iff] at h
    simp only [ext, gro]
    refine fs_congr fun q hq => ?_
    obtain ⟨h1, h2⟩ := cand_mem.1 hq
    by_cases hql : q ≤ last - 1
    · have := h q (cand_mem.2 ⟨h1, hql⟩)
      split at this
      · rename_i ha
        rw [if_pos ha, if_pos ha]
        exact gro_ext r _ this
      · rename_i ha
        rw [if_neg ha, if_neg ha]
    · have hq : q = last := by omega
      subst hq
      by_cases ha : grA (l ++ [q]) = true
      · rw [if_pos ha, if_pos ha]
        cases r with
        | zero => simp [gro, ext, lastN_snoc]
        | succ r =>
          simp only [gro, ext, lastN_snoc]
          rw [cand_n (by omega)]; rfl
      · rw [if_neg ha, if_neg ha]
/-! the search with bits: bit i of pos says that p - i is in the list, bit d of dist that d is measured -/
def lpB (rec : Nat → Nat → Nat → Option (List Nat)) (pos dist p : Nat) : Nat → Nat → Option (List Nat)
  | 0, _ => none
  | k + 1, s =>
    if (pos <<< s) &&& dist = 0 then
      match rec ((pos <<< s) ||| 1) (dist ||| (pos <<< s)) (p + s) with
      | some L => some L
      | none => lpB rec pos dist p k (s + 1)
    else lpB rec pos dist p k (s + 1)
def goB (last : Nat) : Nat → Nat → Nat → Nat → Option (List Nat)
  | 0, _, _, p => some [p]
  | r + 1, pos, dist, p => (lpB (goB last r) pos dist p (last - p) 1).map (p :: ·)
structure BI (l : List Int) (pos dist p : Nat) : Prop where
  hp : ∀ i, pos.testBit i = true ↔ i ≤ p ∧ (((p - i : Nat) : Int)) ∈ l
  hd : ∀ d, dist.testBit d = true ↔ measB l (d : Int) = true
  bd : ∀ n ∈ l, 0 ≤ n ∧ n ≤ (p : Int)
  asc : l.Pairwise (· < ·)
  last : lastN l = (p : Int)
theorem measB_iff {l : List Int} {d : Int} : measB l d = true ↔ ∃ i j, ∃ (h1 : i < j) (h2 : j < l.length), l[j] - l[i] = d := by
  unfold measB
  rw [List.any_eq_true]
  constructor
  · rintro ⟨p, hp, e⟩
    obtain ⟨h1, h2⟩ := mem_resF.1 hp
    refine ⟨p.1, p.2, h1, h2, ?_⟩
    have : dsN l p = d := by simpa using e
    rw [dsN, getD_of h2, getD_of (by omega)] at this
    exact this
  · rintro ⟨i, j, h1, h2, e⟩
    refine ⟨(i, j), mem_resF.2 ⟨h1, h2⟩, ?_⟩
    rw [decide_eq_true_eq, dsN, getD_of h2, getD_of (by omega)]
    exact e
theorem measB_snoc {l : List Int} {q d : Int} : measB (l ++ [q]) d = true ↔ measB l d = true ∨ ∃ a ∈ l, q - a = d := by
  rw [measB_iff, measB_iff]
  constructor
  · rintro ⟨i, j, h1, h2, e⟩
    simp only [List.length_append, List.length_cons, List.length_nil] at h2
    by_cases hj : j < l.length
    · left
      refine ⟨i, j, h1, hj, ?_⟩
      rw [List.getElem_append_left hj, List.getElem_append_left (by omega)] at e
      exact e
    · right
      have hj' : j = l.length := by omega
      subst hj'
      refine ⟨l[i], List.getElem_mem _, ?_⟩
      rw [List.getElem_append_left h1] at e
      simpa using e
  · rintro (⟨i, j, h1, h2, e⟩ | ⟨a, ha, e⟩)
    · refine ⟨i, j, h1, by simp; omega, ?_⟩
      rw [List.getElem_append_left h2, List.getElem_append_left (by omega)]
      exact e
    · obtain ⟨i, hi, rfl⟩ := List.getElem_of_mem ha
      refine ⟨i, l.length, hi, by simp, ?_⟩
      rw [List.getElem_append_left hi]
      simpa using e
theorem BI.shift {l : List Int} {pos dist p : Nat} (h : BI l pos dist p) {s : Nat} (hs : 1 ≤ s) (j : Nat) : (pos <<< s).testBit j = true ↔ ∃ a ∈ l, ((p + s : Nat) : Int) - a = (j : Int) := by
  rw [Nat.testBit_shiftLeft]
  simp only [Bool.and_eq_true, decide_eq_true_eq]
  constructor
  · rintro ⟨h1, h2⟩
    obtain ⟨h3, h4⟩ := (h.hp _).1 h2
    exact ⟨_, h4, by omega⟩
  · rintro ⟨a, ha, e⟩
    have hb := h.bd a ha
    refine ⟨by omega, (h.hp _).2 ⟨by omega, ?_⟩⟩
    have : ((p - (j - s) : Nat) : Int) = a := by omega
    rw [this]; exact ha
theorem BI.acc {l : List Int} {pos dist p : Nat} (h : BI l pos dist p) {s : Nat} (hs : 1 ≤ s) : ((pos <<< s) &&& dist = 0) ↔ grA (l ++ [((p + s : Nat) : Int)]) = true := by
  rw [grA_snoc]
  simp only [Bool.not_eq_true', List.any_eq_false]
  constructor
  · intro h0 a ha hm
    have hb := h.bd a ha
    obtain ⟨j, hj⟩ : ∃ j : Nat, ((p + s : Nat) : Int) - a = (j : Int) := ⟨p + s - a.toNat, by omega⟩
    rw [hj] at hm
    have : ((pos <<< s) &&& dist).testBit j = true := by
      rw [Nat.testBit_and, (h.shift hs j).2 ⟨a, ha, hj⟩, (h.hd j).2 hm]; rfl
    rw [h0] at this
    simp at this
  · intro hno
    apply Nat.eq_of_testBit_eq
    intro j
    rw [Nat.zero_testBit, Nat.testBit_and]
    cases h1 : (pos <<< s).testBit j with
    | false => rfl
    | true =>
      obtain ⟨a, ha, e⟩ := (h.shift hs j).1 h1
      cases h2 : dist.testBit j with
      | false => rfl
      | true =>
        have := (h.hd j).1 h2
        rw [← e] at this
        exact absurd this (hno a ha)
theorem BI.next {l : List Int} {pos dist p : Nat} (h : BI l pos dist p) {s : Nat} (hs : 1 ≤ s) : BI (l ++ [((p + s : Nat) : Int)]) ((pos <<< s) ||| 1) (dist ||| (pos <<< s)) (p + s) := by
  refine ⟨fun i => ?_, fun d => ?_, fun n hn => ?_, ?_, lastN_snoc _ _⟩
  · rw [Nat.testBit_or, Bool.or_eq_true]
    constructor
    · rintro (h1 | h1)
      · obtain ⟨a, ha, e⟩ := (h.shift hs i).1 h1
        have hb := h.bd a ha
        refine ⟨by omega, List.mem_append_left _ ?_⟩
        have : ((p + s - i : Nat) : Int) = a := by omega
        rw [this]; exact ha
      · have : i = 0 := by
          rw [Nat.testBit_one_eq_true_iff_self_eq_zero] at h1
          exact h1
        subst this
        exact ⟨by omega, by simp⟩
    · rintro ⟨h1, h2⟩
      rcases List.mem_append.1 h2 with h2 | h2
      · left
        exact (h.shift hs i).2 ⟨_, h2, by omega⟩
      · right
        have := List.mem_singleton.1 h2
        have : i = 0 := by omega
        subst this; rfl
  · rw [Nat.testBit_or, Bool.or_eq_true, measB_snoc, h.hd, h.shift hs]
  · rcases List.mem_append.1 hn with hn | hn
    · have := h.bd n hn; omega
    · rw [List.mem_singleton.1 hn]; omega
  · refine List.pairwise_append.2 ⟨h.asc, by simp, fun a ha b hb => ?_⟩
    rw [List.mem_singleton.1 hb]
    have := h.bd a ha; omega
theorem goB_eq {last : Nat} : ∀ (r : Nat) {l : List Int} {pos dist p : Nat}, BI (l ++ [(p : Int)]) pos dist p → ext grA (last : Int) r (l ++ [(p : Int)]) = (goB last r pos dist p).map fun t => l ++ t.map fun (n : Nat) => (n : Int)
  | 0, l, pos, dist, p, h => by simp [ext, goB]
  | r + 1, l, pos, dist, p, h => by
    have key : ∀ k s, 1 ≤ s → k + s = last - p + 1 ∨ k = 0 ∧ last < p + s → tryF grA (last : Int) r (l ++ [(p : Int)]) ((p + s : Nat) : Int) = (lpB (goB last r) pos dist p k s).map fun t => (l ++ [(p : Int)]) ++ t.map fun (n : Nat) => (n : Int) := by
      intro k
      induction k with
      | zero =>
        intro s hs hk
        rw [tryF_n (by omega)]; rfl
      | succ k ih =>
        intro s hs hk
        have hkl : p + s ≤ last := by omega
        have hn := ih (s + 1) (by omega) (by omega)
        rw [tryF_c (by omega)]
        rw [show ((p + s : Nat) : Int) + 1 = ((p + (s + 1) : Nat) : Int) by omega, hn]
        simp only [lpB]
        by_cases ha : (pos <<< s) &&& dist = 0
        · rw [if_pos ((h.acc hs).1 ha), if_pos ha, goB_eq r (h.next hs)]
          cases goB last r ((pos <<< s) ||| 1) (dist ||| (pos <<< s)) (p + s) with
          | none => simp
          | some L => simp
        · rw [if_neg (fun e => ha ((h.acc hs).2 e)), if_neg ha]
    have h1 := key (last - p) 1 (by omega) (by omega)
    rw [ext_s, h.last, show (p : Int) + 1 = ((p + 1 : Nat) : Int) by omega, h1]
    simp only [goB, Option.map_map]
    congr 1
    funext t
    simp
theorem bi_0 : BI ([] ++ [((0 : Nat) : Int)]) 1 0 0 := by
  refine ⟨fun i => ?_, fun d => ?_, ?_, ?_, rfl⟩
  · rw [Nat.testBit_one_eq_true_iff_self_eq_zero]
    constructor
    · rintro rfl; simp
    · rintro ⟨h, _⟩; omega
  · rw [Nat.zero_testBit]
    constructor
    · intro h; cases h
    · intro h
      obtain ⟨i, j, h1, h2, _⟩ := measB_iff.1 h
      simp at h2; omega
  · intro n hn
    simp at hn; omega
  · simp
theorem ext_goB (last r : Nat) : ext grA (last : Int) r [0] = (goB last r 1 0 0).map fun t => t.map fun (n : Nat) => (n : Int) := by
  have := goB_eq (last := last) r (l := []) (p := 0) bi_0
  simpa using this
theorem v2a : goB 0 1 1 0 0 = none := by decide +kernel
theorem v2b : goB 1 1 1 0 0 = some [0, 1] := by decide +kernel
theorem v3a : goB 2 2 1 0 0 = none := by decide +kernel
theorem v3b : goB 3 2 1 0 0 = some [0, 1, 3] := by decide +kernel
theorem v4a : goB 5 3 1 0 0 = none := by decide +kernel
theorem v4b : goB 6 3 1 0 0 = some [0, 1, 4, 6] := by decide +kernel
theorem v5a : goB 10 4 1 0 0 = none := by decide +kernel
theorem v5b : goB 11 4 1 0 0 = some [0, 1, 4, 9, 11] := by decide +kernel
theorem v6a : goB 16 5 1 0 0 = none := by decide +kernel
theorem v6b : goB 17 5 1 0 0 = some [0, 1, 4, 10, 12, 17] := by decide +kernel
theorem v7a : goB 24 6 1 0 0 = none := by decide +kernel
theorem v7b : goB 25 6 1 0 0 = some [0, 1, 4, 10, 18, 23, 25] := by decide +kernel
end Go.Proofs.Ytokfmcjepkepjaa
set_option linter.unusedVariables false
set_option linter.unusedSimpArgs false
namespace Go.Proofs.Ytokfmcjepkepjaa
open Go Fw

/-- the shortest rules -/
def shL (n : Int) : List Int :=
  if n = 2 then [0, 1] else if n = 3 then [0, 1, 3] else if n = 4 then [0, 1, 4, 6] else if n = 5 then [0, 1, 4, 9, 11] else if n = 6 then [0, 1, 4, 10, 12, 17] else [0, 1, 4, 10, 18, 23, 25]
def shV (n : Int) : AV := if btw 2 n 7 = true then .tup [.sl 1 (ints (shL n)) .shared, .int .i64 0] else .tup [.nilsl, .int .i64 4]
theorem shV_plain (n : Int) : (shV n).plain = true := by
  unfold shV
  split
  · simp [AV.plain, plainL, plain_ints]
  · rfl
/-- what a number of crosses gives: where the search begins, and where it ends -/
structure ShI (n c0 b : Nat) (v : List Int) : Prop where
  n2 : 2 ≤ n ∧ n ≤ 7
  cb : c0 ≤ b ∧ b ≤ 60
  w1 : ∃ m1 m2 : Int, IntKind.i64.wrap ((n : Int) - 1) = m1 ∧ IntKind.i64.wrap ((n : Int) * m1) = m2 ∧ IntKind.i64.wrap (m2.tdiv 2) = (c0 : Int)
  no : ext grA ((b : Int) - 1) (n - 1) [0] = none
  ys : ext grA (b : Int) (n - 1) [0] = some v
  hv : shL (n : Int) = v
theorem ShI.mk' {n c0 b : Nat} {v : List Nat} {m1 m2 : Int} (h1 : 2 ≤ n ∧ n ≤ 7) (h2 : c0 ≤ b ∧ b ≤ 60 ∧ 1 ≤ b) (a1 : IntKind.i64.wrap ((n : Int) - 1) = m1) (a2 : IntKind.i64.wrap ((n : Int) * m1) = m2) (a3 : IntKind.i64.wrap (m2.tdiv 2) = (c0 : Int))
    (g1 : goB (b - 1) (n - 1) 1 0 0 = none) (g2 : goB b (n - 1) 1 0 0 = some v) (hv : shL (n : Int) = v.map fun (n : Nat) => (n : Int)) : ShI n c0 b (v.map fun (n : Nat) => (n : Int)) := by
  refine ⟨h1, ⟨h2.1, h2.2.1⟩, ⟨m1, m2, a1, a2, a3⟩, ?_, ?_, hv⟩
  · have := ext_goB (b - 1) (n - 1)
    rw [g1, show ((b - 1 : Nat) : Int) = (b : Int) - 1 by omega] at this
    exact this
  · rw [ext_goB, g2]; rfl
theorem shI {n : Nat} (h : 2 ≤ n ∧ n ≤ 7) : ∃ c0 b v, ShI n c0 b v := by
  rcases (show n = 2 ∨ n = 3 ∨ n = 4 ∨ n = 5 ∨ n = 6 ∨ n = 7 by omega) with rfl | rfl | rfl | rfl | rfl | rfl
  · exact ⟨1, 1, _, ShI.mk' (m1 := 1) (m2 := 2) (by decide) (by decide) (by decide) (by decide) (by decide) v2a v2b rfl⟩
  · exact ⟨3, 3, _, ShI.mk' (m1 := 2) (m2 := 6) (by decide) (by decide) (by decide) (by decide) (by decide) v3a v3b rfl⟩
  · exact ⟨6, 6, _, ShI.mk' (m1 := 3) (m2 := 12) (by decide) (by decide) (by decide) (by decide) (by decide) v4a v4b rfl⟩
  · exact ⟨10, 11, _, ShI.mk' (m1 := 4) (m2 := 20) (by decide) (by decide) (by decide) (by decide) (by decide) v5a v5b rfl⟩
  · exact ⟨15, 17, _, ShI.mk' (m1 := 5) (m2 := 30) (by decide) (by decide) (by decide) (by decide) (by decide) v6a v6b rfl⟩
  · exact ⟨21, 25, _, ShI.mk' (m1 := 6) (m2 := 42) (by decide) (by decide) (by decide) (by decide) (by decide) v7a v7b rfl⟩
theorem p32 (n : Int) : PCall Try.prog 32 [.int .i64 n] (shV n) := by
  by_cases hb : btw 2 n 7 = true
  rotate_left
  · refine PCall.of D2ok ok32 (by simp) (shV_plain n) fun hs' hbb => ?_
    rw [shV, if_neg hb]
    rw [Bool.not_eq_true] at hb
    simp [A32, R32, hb]
  have b1 : 2 ≤ n ∧ n ≤ 7 := by simpa [btw] using hb
  obtain ⟨k, rfl⟩ : ∃ k : Nat, n = (k : Int) := ⟨n.toNat, by omega⟩
  obtain ⟨c0, b, v, ⟨hn, hcb, ⟨m1, m2, a1, a2, a3⟩, hno, hys, hv⟩⟩ := shI (n := k) (by omega)
  obtain ⟨C, hC, k63, k54⟩ : ∃ C, CtxOk Try.prog C ∧ (∀ c : Nat, c ≤ 60 → C 63 [.int .i64 (k : Int), .int .i64 (c : Int), .fn (.func 64) [] []] = some (fsV (ext grA (c : Int) (k - 1) [0]))) ∧ C 54 = SBtw :=
    ⟨_, D2ok.fam (ι := { c : Nat // c ≤ 60 }) (g := fun c => [.int .i64 (k : Int), .int .i64 (c.1 : Int), .fn (.func 64) [] []]) (fun c => f63g (cr := k) (last := (c.1 : Int)) (by omega) (by omega) (by omega) (by have := c.2; omega)),
      fun c hc => fam_eq (ι := { c : Nat // c ≤ 60 }) (g := fun c => [.int .i64 (k : Int), .int .i64 (c.1 : Int), .fn (.func 64) [] []]) (r := fun c => fsV (ext grA (c.1 : Int) (k - 1) [0])) (fun i j h => by
        simp at h
        have : i.1 = j.1 := by omega
        rw [this]) ⟨c, hc⟩, by rw [← D2_54]; funext a; simp⟩
  refine PCall.of hC ok32 (by simp) (shV_plain _) fun hs' hbb => ?_
  rw [shV, if_pos hb, hv]
  have k0 := k63 c0 (by omega)
  simp [A32, R32, k54, hb, a1, a2, a3, k0]
  refine At.loop (fun (c : Nat) s => c0 ≤ c ∧ c ≤ b ∧ s.env 0 = .int .i64 (k : Int) ∧ s.env 4 = .int .i64 (c : Int) ∧ s.env 5 = fsV (ext grA (c : Int) (k - 1) [0])) (fun c => b - c) c0 ?_ ?_
  · exact ⟨by omega, by omega, by simp, by simp, by simp⟩
  rintro N c s hN ⟨hc1, hc2, e0, e4, e5⟩
  by_cases hc : c = b
  · subst hc
    rw [hys] at e5
    simp [e5, fsV]
  · have : ext grA (c : Int) (k - 1) [0] = none := ext_mono (by omega) _ _ hno
    rw [this] at e5
    have k1 := k63 (c + 1) (by omega)
    have hw := wrap_nat1 (show c < 9223372036854775807 by omega)
    simp only [Int.natCast_add, Int.cast_ofNat_Int] at k1 hw
    simp [e0, e4, e5, fsV, hw, k1]
    refine hN (c + 1) _ (by omega) ⟨by omega, by omega, by simp [e0], by simp, by simp [fsV]⟩
theorem p33 (n : Int) : PCall Try.prog 33 [.int .i64 n] (shV n) := by
  by_cases hb : btw 2 n 7 = true
  rotate_left
  · refine PCall.of D2ok ok33 (by simp) (shV_plain n) fun hs' hbb => ?_
    rw [shV, if_neg hb]
    rw [Bool.not_eq_true] at hb
    simp [A33, R33, hb]
  have b1 : 2 ≤ n ∧ n ≤ 7 := by simpa [btw] using hb
  obtain ⟨k, rfl⟩ : ∃ k : Nat, n = (k : Int) := ⟨n.toNat, by omega⟩
  obtain ⟨c0, b, v, ⟨hn, hcb, ⟨m1, m2, a1, a2, a3⟩, hno, hys, hv⟩⟩ := shI (n := k) (by omega)
  have hx0 : asI (.sl 1 [.int .i64 0] .exact) = some [0] := rfl
  obtain ⟨C, hC, k65, k53⟩ : ∃ C, CtxOk Try.prog C ∧ (∀ c : Nat, c ≤ 60 → C 65 [.sl 1 [.int .i64 0] .exact, .int .i64 (k : Int), .int .i64 (c : Int)] = some (fsV (gro (c : Int) (k - 1) [0]))) ∧ C 53 = SIs :=
    ⟨_, D2ok.fam (ι := { c : Nat // c ≤ 60 }) (g := fun c => [.sl 1 [.int .i64 0] .exact, .int .i64 (k : Int), .int .i64 (c.1 : Int)]) (fun c => p65 (last := (c.1 : Int)) (by omega) (by have := c.2; omega) (k - 1) (cr := k) hx0 (by simp; omega) (by omega) (by simp) (fun m hm => by rw [List.mem_singleton.1 hm]; omega) (fun m hm => by rw [List.mem_singleton.1 hm]; omega) (fun h => by omega)),
      fun c hc => fam_eq (ι := { c : Nat // c ≤ 60 }) (g := fun c => [.sl 1 [.int .i64 0] .exact, .int .i64 (k : Int), .int .i64 (c.1 : Int)]) (r := fun c => fsV (gro (c.1 : Int) (k - 1) [0])) (fun i j h => by
        simp at h
        have : i.1 = j.1 := by omega
        rw [this]) ⟨c, hc⟩, by rw [← D2_53]; funext a; simp⟩
  have hst : astoAll 1 [AV.int .i64 0] = true := by simp [astoAll]
  refine PCall.of hC ok33 (by simp) (shV_plain _) fun hs' hbb => ?_
  rw [shV, if_pos hb, hv]
  simp [A33, R33, k53, hb, a1, a2, a3]
  refine At.loop (fun (c : Nat) s => c0 ≤ c ∧ c ≤ b ∧ s.env 0 = .int .i64 (k : Int) ∧ s.env 4 = .int .i64 (c : Int)) (fun c => b - c) c0 ?_ ?_
  · exact ⟨by omega, by omega, by simp, by simp⟩
  rintro N c s hN ⟨hc1, hc2, e0, e4⟩
  have k1 := k65 c (by omega)
  by_cases hc : c = b
  · subst hc
    rw [gro_ext _ _ hno, hys] at k1
    simp [e0, e4, hst, k1, fsV]
  · have : ext grA (c : Int) (k - 1) [0] = none := ext_mono (by omega) _ _ hno
    rw [gro_none _ _ this] at k1
    simp [e0, e4, hst, k1, fsV]
    refine hN (c + 1) _ (by omega) ⟨by omega, by omega, by simp [e0], by simp [wrap_nat1 (show c < _ by omega)]⟩
theorem shL_ok {n : Nat} (h : 2 ≤ n ∧ n ≤ 7) : 0 < (shL (n : Int)).length ∧ (shL (n : Int)).length ≤ 8 ∧ Sm (shL (n : Int)) ∧ (shL (n : Int)).getD 0 0 = 0 ∧ 0 ≤ lenN (shL (n : Int)) ∧ lenN (shL (n : Int)) ≤ 60 := by
  rcases (show n = 2 ∨ n = 3 ∨ n = 4 ∨ n = 5 ∨ n = 6 ∨ n = 7 by omega) with rfl | rfl | rfl | rfl | rfl | rfl <;> decide
def beE (l : List Int) : Int := if chkE l = 0 then (if 7 < l.length then 2 else if clrB l = true then (if lenN (shL l.length) < lenN l then 14 else 0) else 13) else chkE l
theorem p36 {x : AV} {l : List Int} (hx : asI x = some l) : PCall Try.prog 36 [x] (.int .i64 (beE l)) := by
  by_cases he : chkE l = 0
  rotate_left
  · obtain ⟨C, hC, k24⟩ : ∃ C, CtxOk Try.prog C ∧ C 24 [x] = some (.int .i64 (chkE l)) := ⟨_, CtxOk.nil.pt (p24 hx), by simp⟩
    have hE : beE l = chkE l := by rw [beE, if_neg he]
    refine PCall.of hC ok36 (by simp) rfl fun hs' hb => ?_
    rw [hE]
    simp [A36, R36, k24, he]
  have hok := chkE_zero.1 he
  have h8 := hok.eight
  have h2 := hok.two
  by_cases h7 : 7 < l.length
  · obtain ⟨C, hC, k24⟩ : ∃ C, CtxOk Try.prog C ∧ C 24 [x] = some (.int .i64 (chkE l)) := ⟨_, CtxOk.nil.pt (p24 hx), by simp⟩
    have hE : beE l = 2 := by rw [beE, if_pos he, if_pos h7]
    have h7' : (7 : Int) < (l.length : Int) := by omega
    refine PCall.of hC ok36 (by simp) rfl fun hs' hb => ?_
    rw [hE]
    simp [A36, R36, k24, he, alen_of hx, h7, h7']
  have h7' : ¬ (7 : Int) < (l.length : Int) := by omega
  obtain ⟨g1, g2, g3, g4, g5, g6⟩ := shL_ok (n := l.length) (by omega)
  have hbt : btw 2 (l.length : Int) 7 = true := by simp [btw]; omega
  have hsI : asI (.sl 1 (ints (shL (l.length : Int))) .shared) = some (shL (l.length : Int)) := asI_sl (by omega)
  obtain ⟨C, hC, k24, k59, k32, k71⟩ : ∃ C, CtxOk Try.prog C ∧ C 24 [x] = some (.int .i64 (chkE l)) ∧ C 59 [x] = some (.bool (clrB l)) ∧ C 32 [.int .i64 (l.length : Int)] = some (shV (l.length : Int)) ∧ C 71 = S71 :=
    ⟨_, (((D2ok.add c71).pt (p24 hx)).pt (p59 hx hok.sm (by omega))).pt (p32 (l.length : Int)), by simp, by simp, by simp, by funext a; simp [PCtx.add]⟩
  have l1 := S71_i hx (by omega) hok.sm
  have l2 := S71_i hsI g1 g3
  rw [shV, if_pos hbt] at k32
  refine PCall.of hC ok36 (by simp) rfl fun hs' hb => ?_
  generalize AV.sl 1 (ints (shL (l.length : Int))) .shared = SV at *
  cases hcl : clrB l with
  | false =>
    have hE : beE l = 13 := by rw [beE, if_pos he, if_neg h7, if_neg (by rw [hcl]; simp)]
    rw [hE]
    rw [hcl] at k59
    simp [A36, R36, k24, he, alen_of hx, h7, h7', k59]
  | true =>
    have hE : beE l = if lenN (shL l.length) < lenN l then 14 else 0 := by rw [beE, if_pos he, if_neg h7, if_pos hcl]
    rw [hE]
    rw [hcl] at k59
    simp [A36, R36, k24, he, alen_of hx, h7, h7', k59, k32, k71, l1, l2]
    refine At.dec (fun h => ?_) (fun h => ?_)
    · simp [h]
    · simp [h]
theorem p37 {x : AV} {l : List Int} (hx : asI x = some l) : PCall Try.prog 37 [x] (.int .i64 (beE l)) := by
  by_cases he : chkE l = 0
  rotate_left
  · obtain ⟨C, hC, k25⟩ : ∃ C, CtxOk Try.prog C ∧ C 25 [x] = some (.int .i64 (chkE l)) := ⟨_, CtxOk.nil.pt (p25 hx), by simp⟩
    have hE : beE l = chkE l := by rw [beE, if_neg he]
    refine PCall.of hC ok37 (by simp) rfl fun hs' hb => ?_
    rw [hE]
    simp [A37, R37, k25, he]
  have hok := chkE_zero.1 he
  have h8 := hok.eight
  have h2 := hok.two
  by_cases h7 : 7 < l.length
  · obtain ⟨C, hC, k25⟩ : ∃ C, CtxOk Try.prog C ∧ C 25 [x] = some (.int .i64 (chkE l)) := ⟨_, CtxOk.nil.pt (p25 hx), by simp⟩
    have hE : beE l = 2 := by rw [beE, if_pos he, if_pos h7]
    have h7' : (7 : Int) < (l.length : Int) := by omega
    refine PCall.of hC ok37 (by simp) rfl fun hs' hb => ?_
    rw [hE]
    simp [A37, R37, k25, he, alen_of hx, h7, h7']
  have h7' : ¬ (7 : Int) < (l.length : Int) := by omega
  obtain ⟨g1, g2, g3, g4, g5, g6⟩ := shL_ok (n := l.length) (by omega)
  have hbt : btw 2 (l.length : Int) 7 = true := by simp [btw]; omega
  obtain ⟨SV, hSV⟩ : ∃ SV, SV = AV.sl 1 (ints (shL (l.length : Int))) .shared := ⟨_, rfl⟩
  have hsI : asI SV = some (shL (l.length : Int)) := by rw [hSV]; exact asI_sl (by omega)
  obtain ⟨C, hC, k25, k61, k33⟩ : ∃ C, CtxOk Try.prog C ∧ C 25 [x] = some (.int .i64 (chkE l)) ∧ C 61 [x] = some (.bool (clrB l)) ∧ C 33 [.int .i64 (l.length : Int)] = some (shV (l.length : Int)) :=
    ⟨_, ((D2ok.pt (p25 hx)).pt (p61 hx hok.sm (by omega))).pt (p33 (l.length : Int)), by simp, by simp, by simp⟩
  rw [shV, if_pos hbt, ← hSV] at k33
  have hlast : l.length - 1 < l.length := by omega
  have hwl : IntKind.i64.wrap ((l.length : Int) - 1) = ((l.length - 1 : Nat) : Int) := by rw [wrap64 (by omega) (by omega)]; omega
  have hix := aidx_nat hx hlast (k := .i64)
  have hix0 := aidx_nat hx (show 0 < l.length by omega) (k := .i64)
  rw [show ((0 : Nat) : Int) = 0 from rfl] at hix0
  have bl1 := hok.bd l[l.length - 1] (List.getElem_mem _)
  have bl0 := hok.bd l[0] (List.getElem_mem _)
  have hwd : IntKind.i64.wrap (l[l.length - 1] - l[0]) = lenN l := by rw [wrap64 (by omega) (by omega), lenN, getD_of hlast, getD_of (by omega)]
  generalize hS : shL (l.length : Int) = S at *
  have hSl : S.length - 1 < S.length := by omega
  have hwS : IntKind.i64.wrap ((S.length : Int) - 1) = ((S.length - 1 : Nat) : Int) := by rw [wrap64 (by omega) (by omega)]; omega
  have hixS := aidx_nat hsI hSl (k := .i64)
  have hlS : S[S.length - 1] = lenN S := by rw [lenN, g4, getD_of hSl]; omega
  rw [hlS] at hixS
  refine PCall.of hC ok37 (by simp) rfl fun hs' hb => ?_
  cases hcl : clrB l with
  | false =>
    have hE : beE l = 13 := by rw [beE, if_pos he, if_neg h7, if_neg (by rw [hcl]; simp)]
    rw [hE]
    rw [hcl] at k61
    simp [A37, R37, k25, he, alen_of hx, h7, h7', k61]
  | true =>
    have hE : beE l = if lenN S < lenN l then 14 else 0 := by rw [beE, if_pos he, if_neg h7, if_pos hcl, hS]
    rw [hE]
    rw [hcl] at k61
    simp [A37, R37, k25, he, alen_of hx, h7, h7', k61, k33, hwl, hix, hix0, hwd, alen_of hsI, hwS, hixS]
    refine At.dec (fun h => ?_) (fun h => ?_)
    · simp [h]
    · simp [h]
theorem shV_li (n : Int) : LiR (shV n) := by
  unfold shV
  split
  · rename_i hb
    have b1 : 2 ≤ n ∧ n ≤ 7 := by simpa [btw] using hb
    obtain ⟨k, rfl⟩ : ∃ k : Nat, n = (k : Int) := ⟨n.toNat, by omega⟩
    have := shL_ok (n := k) (by omega)
    exact ⟨_, _, _, rfl, asI_sl (by omega)⟩
  · exact ⟨_, _, _, rfl, asI_nil⟩
theorem ext_len {acc : List Int → Bool} {last : Int} : ∀ (r : Nat) {l L : List Int}, ext acc last r l = some L → L.length = l.length + r
  | 0, l, L, h => by simp only [ext] at h; injection h with h; subst h; rfl
  | r + 1, l, L, h => by
    simp only [ext] at h
    obtain ⟨q, hq, h⟩ := List.exists_of_findSome?_eq_some h
    split at h
    · have := ext_len r h
      simp only [List.length_append, List.length_cons, List.length_nil] at this
      omega
    · cases h
theorem roV_li (cr size : Int) : LiR (roV cr size) := by
  unfold roV
  split
  · rename_i hb
    have b1 : 2 ≤ cr ∧ cr ≤ 6 := by simpa [btw] using hb.1
    cases hE : ext (roA size) (size - 1) (cr.toNat - 1) [0] with
    | none => exact ⟨_, _, _, rfl, asI_nil⟩
    | some L =>
      have := ext_len _ hE
      simp only [List.length_cons, List.length_nil] at this
      exact ⟨_, _, _, rfl, asI_sl (by omega)⟩
  · exact ⟨_, _, _, rfl, asI_nil⟩
theorem p6 {x : AV} {l : List Int} (hx : asI x = some l) (n cr size : Int) : PCall Try.prog 6 [x, .int .i64 n, .int .i64 cr, .int .i64 size] (.bool true) := by
  obtain ⟨⟨x1, e1, A1, h1, a1⟩⟩ := shV_li n
  obtain ⟨⟨x2, e2, A2, h2, a2⟩⟩ := roV_li cr size
  obtain ⟨C, hC, k16, k32, k33, k34, k35, k36, k37, k23⟩ : ∃ C, CtxOk Try.prog C ∧ C 16 [] = some (.bool true) ∧ C 32 [.int .i64 n] = some (.tup [x1, .int .i64 e1]) ∧ C 33 [.int .i64 n] = some (.tup [x1, .int .i64 e1]) ∧ C 34 [.int .i64 cr, .int .i64 size] = some (.tup [x2, .int .i64 e2]) ∧ C 35 [.int .i64 cr, .int .i64 size] = some (.tup [x2, .int .i64 e2]) ∧ C 36 [x] = some (.int .i64 (beE l)) ∧ C 37 [x] = some (.int .i64 (beE l)) ∧ C 23 = SNum :=
    ⟨_, ((((((D2ok.pt p16).pt (h1 ▸ p32 n)).pt (h1 ▸ p33 n)).pt (h2 ▸ p34 cr size)).pt (h2 ▸ p35 cr size)).pt (p36 hx)).pt (p37 hx), by simp, by simp, by simp, by simp, by simp, by simp, by simp, by rw [← D2_23]; funext a; simp⟩
  have n1 := SNum_i a1 a1
  have n2 := SNum_i a2 a2
  refine PCall.of hC ok6 (by simp) rfl fun hs' hb => ?_
  by_cases h40 : 40 < l.length
  · have := big40 h40
    simp [A6, R6, alen_of hx, this, h40, k16]
  have h40' : ¬ ((40 : Int) < (l.length : Int)) := by omega
  simp [A6, R6, alen_of hx, h40, h40', k32, k33, k34, k35, k36, k37, k23, n1, n2, k16]
theorem p6_big {x : AV} {n : Nat} (hx : alenK false x = some (.int .i64 (n : Int))) (h : 40 < n) (n1 n2 n3 : Int) : PCall Try.prog 6 [x, .int .i64 n1, .int .i64 n2, .int .i64 n3] (.bool true) := by
  obtain ⟨C, hC, k16⟩ : ∃ C, CtxOk Try.prog C ∧ C 16 [] = some (.bool true) := ⟨_, D2ok.pt p16, by simp⟩
  refine PCall.of hC ok6 (by simp) rfl fun hs' hb => ?_
  have h' : (40 : Int) < (n : Int) := by omega
  simp [A6, R6, hx, h, h', k16]
theorem shortest_typed (xs : List AV) (h : Typed [TL, .int .i64, .int .i64, .int .i64] xs) : PCall Try.prog 6 xs (.bool true) := by
  obtain ⟨x, y, z, u, rfl, hx, hy, hz, hu⟩ := h.four
  obtain ⟨n1, rfl, _⟩ := shv_int hy
  obtain ⟨n2, rfl, _⟩ := shv_int hz
  obtain ⟨n3, rfl, _⟩ := shv_int hu
  obtain ⟨n, hn, h40 | ⟨_, l, hl⟩⟩ := ints_typed hx
  · exact p6_big hn h40 _ _ _
  · exact p6 hl n1 n2 n3
def S32 : List AV → Option AV
  | [.int .i64 n] => some (shV n)
  | _ => none
theorem c32 : ∀ a r, S32 a = some r → PCall Try.prog 32 a r := by
  intro a r h
  unfold S32 at h
  split at h <;> (try (cases h; done))
  injection h with h; subst h
  exact p32 _
def S16 : List AV → Option AV
  | [] => some (.bool true)
  | _ => none
theorem c16 : ∀ a r, S16 a = some r → PCall Try.prog 16 a r := by
  intro a r h
  unfold S16 at h
  split at h <;> (try (cases h; done))
  injection h with h; subst h
  exact p16
def T12 : FuncId → Option Entry
  | 15 => some (.code A15 R15 105)
  | 44 => some (.code A44 R44 4)
  | 16 => some (.spec S16)
  | 23 => some (.spec SNum)
  | 24 => some (.spec SChk)
  | 26 => some (.spec (L1n coR))
  | 28 => some (.spec SLo)
  | 32 => some (.spec S32)
  | _ => none
theorem T12ok : TOk Try.prog T12 := by
  intro f x h
  unfold T12 at h
  split at h <;> (try (cases h; done)) <;> (injection h with h; subst h)
  · exact ⟨_, _, ok15⟩
  · exact ⟨_, _, ok44⟩
  · exact c16
  · exact c23
  · exact c24
  · exact L1n_c p26
  · exact c28
  · exact c32
theorem p15 : PCall Try.prog 15 [] (.bool true) := evTrue T12ok (L := 40) (n := 6) (by decide +kernel)
theorem known_typed (xs : List AV) (h : Typed [] xs) : PCall Try.prog 15 xs (.bool true) := by
  rw [h.nil]
  exact p15
end Go.Proofs.Ytokfmcjepkepjaa
