/-
  Pieces of strips and shorter ends: the law's contract. Own work.
-/
import Derived.Test.YtedpcenghofpoaaDoorGE
import Derived.Test.YtedpcenghofpoaaDoorC2
import Derived.Test.YtedpcenghofpoaaDoorFx5
set_option linter.unusedVariables false
set_option linter.unusedSimpArgs false
namespace Go.Proofs.YtedpcenghofpoaaDoor
open Go Fw

theorem sl_part {x : AV} {l : List Int} (hx : asI x = some l) {i j : Nat} (hi : i ≤ j) (hj : j ≤ l.length) : ∃ y, aslice 1 x (some (.int .i64 (i : Int))) (some (.int .i64 (j : Int))) none = some y ∧ asI y = some ((l.take j).drop i) := by
  have hll := asI_len hx
  rcases asI_inv hx with ⟨rfl, rfl⟩ | ⟨c, rfl⟩
  · obtain rfl : j = 0 := by simpa using hj
    obtain rfl : i = 0 := by omega
    exact ⟨.nilsl, by simp [aslice, aidx, asliceN], rfl⟩
  · refine ⟨.sl 1 (ints ((l.take j).drop i)) .shared, ?_, asI_sl (by rw [List.length_drop, List.length_take]; omega)⟩
    have : (ints l).length = l.length := by simp [ints]
    simp only [aslice, aidx, asliceL, if_true]
    rw [if_pos (by omega)]
    simp [ints]
theorem ints_get {l : List Int} {i : Nat} (h : i < l.length) : (ints l)[i]? = some (.int .i64 (gI l i)) := by rw [gI_of h]; simp [ints, h]
theorem ord_none {l : List Int} {f : List UInt8} (hc : chk l f = 0) (h : foldL l f = []) : ordV l f = .tup [.nilsl, .int .i64 14] := by
  unfold ordV; rw [if_neg (by simp [hc]), if_pos h]
theorem ord_some {l : List Int} {f : List UInt8} (hc : chk l f = 0) (h : foldL l f ≠ []) : ∃ o, ordV l f = .tup [outV 1 (ints o), .int .i64 0] ∧ liesR l f o = 0 ∧ asI (outV 1 (ints o)) = some o ∧ (foldL l f).head? = some o := by
  obtain ⟨hm, _, _⟩ := chk_0 hc
  obtain ⟨m1, m2, m3, m4⟩ := meas_0 hm
  cases hF : foldL l f with
  | nil => exact absurd hF h
  | cons o r =>
    have ho : o ∈ foldL l f := by rw [hF]; simp
    obtain ⟨h1, h2, h3⟩ := foldL_iff.1 ho
    refine ⟨o, ?_, ?_, asI_outV (by rw [h1.len]; omega), rfl⟩
    · unfold ordV; rw [if_neg (by simp [hc]), if_neg h, hF]; rfl
    · rw [liesR_ord hc h1, if_pos ⟨h3, h2⟩]
theorem afill2 {y : AV} {l : List Int} {f : List UInt8} (hy : asI y = some l) : afill [.nilsl, .str (bs [])] [(0, 1, y), (1, 1, .str (bs f))] = some [y, .str (bs f)] := by
  simp [afill, setL, asI_cells hy, asI_sto hy]; exact ⟨⟨rfl, rfl⟩, rfl⟩
theorem appm_copy {hs : HS} {x : AV} {l : List Int} (hx : asI x = some l) (hne : l ≠ []) (hl : l.length ≤ 1000000) :
    aappm 1 hs (.sl 1 [] .exact) x = some (.osl false 1 hs.nh l.length hs.nt, { hs with heap := fun i => if i = hs.nh then some (ints l) else hs.heap i, nh := hs.nh + 1, nt := hs.nt + 1, tok := fun t => if t = hs.nt then true else hs.tok t }) := by
  obtain ⟨e1, e2⟩ := elems_of (asI_asV hx)
  have e1' : aelemsH hs.heap x = some (ints l) := by
    rcases asI_inv hx with ⟨rfl, rfl⟩ | ⟨c, rfl⟩
    · rfl
    · rfl
  have e3 : aelemsH hs.heap (.sl 1 [] .exact) = some [] := rfl
  have e4 : (ints l).length = l.length := by simp [ints]
  unfold aappm
  rw [e3, e1']
  simp only
  rw [if_pos ⟨rfl, rfl, e2, by rw [e4]; simp; omega⟩, if_neg (by simpa [ints] using hne), List.nil_append, flat_ints, e4]
  have : agOf (ints l) = false := by
    cases l with
    | nil => rfl
    | cons a r => rfl
  rw [this]
  simp only [List.length_nil, Nat.zero_add]
  rfl
/-- what the second part leaves -/
structure DE (b b13 b14 q kk : Nat) (s : AS) (v z : AV) (f f1 : List UInt8) (c0 c1 : Int) (L : List Int) (n : Nat) : Prop where
  e7 : s.env 7 = .ptr (.agg [.int .u8 c0, .int .u8 c1])
  e9 : s.env 9 = .ref b 0
  e10 : s.env 10 = .int .i64 (n : Int)
  e13 : s.env 13 = .ref b13 0
  e14 : s.env 14 = .ref b14 0
  h9 : s.hs.heap b = some [v, .str (bs f)]
  h13 : s.hs.heap b13 = some [z, .str (bs f1)]
  h14 : s.hs.heap b14 = some [.osl false 1 q n kk, .str (bs f)]
  hq : s.hs.heap q = some (ints L)
  n1 : b ≠ q
  n2 : b13 ≠ q
  n3 : b14 ≠ q
/-- what the first part leaves -/
structure DC (b : Nat) (s : AS) (v : AV) (f : List UInt8) (c0 c1 : Int) (l : List Int) (i j : Nat) : Prop where
  e7 : s.env 7 = .ptr (.agg [.int .u8 c0, .int .u8 c1])
  e9 : s.env 9 = .ref b 0
  e10 : s.env 10 = .int .i64 (l.length : Int)
  e11 : s.env 11 = .int .i64 (i : Int)
  e12 : s.env 12 = .int .i64 (j : Int)
  h9 : s.hs.heap b = some [v, .str (bs f)]
  nh : b < s.hs.nh
theorem p9 {x : AV} {es : List Int} (hx : IsU8 x es) {g g1 g2 c0 c1 : Nat} (hg : g < 256) (hg1 : g1 < 256) (hg2 : g2 < 256) (hc0 : c0 < 256) (hc1 : c1 < 256) :
    PCall Tryd.prog 9 [.agg [x, .int .u8 (g : Int)], .int .u8 (g1 : Int), .int .u8 (g2 : Int), .agg [.int .u8 (c0 : Int), .int .u8 (c1 : Int)]] (.bool true) := by
  have hck := chk_made es g hx.2
  have hli := lenV_i es
  obtain ⟨C, hC, h15, h43, h42, h44, h39, up⟩ := ctxL
  obtain ⟨hms, hfl, hfv⟩ := chk_0 hck
  obtain ⟨m1, m2, m3, m4⟩ := meas_0 hms
  have hm1 := h39 hx hg
  unfold madeV at hm1
  have hal := alen_of hli
  have hld := asI_ld hli
  have hst := asI_sto hli
  have hcl := asI_cells hli
  have hxs : x.sto = true := by rcases hx.1 with ⟨rfl, _⟩ | rfl <;> rfl
  have hxc : x.cells = [x] := by rcases hx.1 with ⟨rfl, _⟩ | rfl <;> rfl
  have h23 : ∀ {z : AV} {o : List Int} {f : List UInt8}, asI z = some o → C 23 [.agg [z, .str (bs f)]] = some (ordV o f) := fun {z o f} hz => by
    rw [up 23 (by decide) (by decide) (by decide) (by decide) (by decide)]; exact CA_23 hz
  have h21 : ∀ {y z : AV} {l o : List Int} {f : List UInt8}, asI y = some l → asI z = some o → C 21 [.agg [y, .str (bs f)], z] = some (.int .i64 (liesR l f o)) := fun {y z l o f} hy hz => by
    rw [up 21 (by decide) (by decide) (by decide) (by decide) (by decide)]; exact CA_21 hy hz
  generalize mkF g ((mkL es).length - 1) = f at *
  generalize lenV es = v at *
  generalize mkL es = l at *
  refine PCall.of hC okB9 (by simp) rfl fun hs hb => ?_
  simp only [AB9, RB9]
  have ld0 : aload (fun i => if i = hs.nh then some [v, .str (bs f)] else if i = hs.nh then some [.nilsl, .str (bs [])] else hs.heap i) false 1 (.ref hs.nh 0) = some v := ldc (ys := [v, .str (bs f)]) (by simp) rfl
  have wg1 : IntKind.i64.wrap (g1 : Int) = (g1 : Int) := wrap64 (by omega) (by omega)
  have wg2 : IntKind.i64.wrap (g2 : Int) = (g2 : Int) := wrap64 (by omega) (by omega)
  have r1 := rem64 (kd := 0) (k := .i64) (a := g1) (b := l.length) (by omega)
  have hil : g1 % l.length < l.length := Nat.mod_lt _ (by omega)
  generalize g1 % l.length = i at r1 hil
  have ws : IntKind.i64.wrap ((l.length : Int) - (i : Int)) = ((l.length - i : Nat) : Int) := by rw [wrap64 (by omega) (by omega)]; omega
  have r2 := rem64 (kd := 0) (k := .i64) (a := g2) (b := l.length - i) (by omega)
  have hjl : g2 % (l.length - i) < l.length - i := Nat.mod_lt _ (by omega)
  generalize g2 % (l.length - i) = d at r2 hjl
  have w1 := wrap_nat1 (show i < _ by omega)
  obtain ⟨j, hj⟩ : ∃ j, j = i + 1 + d := ⟨_, rfl⟩
  have wj : IntKind.i64.wrap (((i + 1 : Nat) : Int) + (d : Int)) = (j : Int) := by rw [wrap64 (by omega) (by omega)]; omega
  generalize ((i + 1 : Nat) : Int) = i1 at w1 wj
  generalize ((l.length - i : Nat) : Int) = li at ws r2
  rw [At.awp_seq]
  simp [hxs, AV.sto, AV.leaf, -At.awp_seq]
  rw [At.awp_seq]
  simp [hm1, -At.awp_seq]
  rw [At.awp_seq]
  simp [fa, ld0, hal, -At.awp_seq]
  rw [At.awp_seq]
  simp [wg1, r1, -abin_rem, -At.awp_seq]
  rw [At.awp_seq]
  refine At.cut (fun s => DC hs.nh s v f c0 c1 l i j) ?_ ?_
  · simp [wg2, w1, ws, r2, wj, -abin_rem]
    exact ⟨rfl, rfl, rfl, rfl, rfl, by simp, by simp⟩
  rintro s ⟨e7, e9, e10, e11, e12, h9, hnh⟩
  clear r1 r2 wj ws w1 wg1 wg2 ld0
  have hij : i < j := by omega
  have hjn : j ≤ l.length := by omega
  obtain ⟨y44, hy44, hy44i⟩ := sl_part hli (i := i) (j := j) (by omega) hjn
  have hpl : ((l.take j).drop i).length = j - i := by rw [List.length_drop, List.length_take]; omega
  have hpne : (l.take j).drop i ≠ [] := by intro e; rw [e] at hpl; simp at hpl; omega
  have ld9 : ∀ hp : Nat → Option (List AV), hp hs.nh = some [v, .str (bs f)] → aload hp false 1 (.ref hs.nh 0) = some v := fun hp h => ldc (ys := [v, .str (bs f)]) h rfl
  have ld9f : ∀ hp : Nat → Option (List AV), hp hs.nh = some [v, .str (bs f)] → aload hp false 1 (.ref hs.nh 1) = some (.str (bs f)) := fun hp h => ldc (ys := [v, .str (bs f)]) h rfl
  have wj1 : IntKind.i64.wrap ((j : Int) - 1) = ((j - 1 : Nat) : Int) := by rw [wrap64 (by omega) (by omega)]; omega
  have ss : ∀ hs, amem (.ssl true true) hs [.str (bs f), .int .i64 (i : Int), .int .i64 ((j - 1 : Nat) : Int)] = some (.str (bs ((f.take (j - 1)).drop i)), hs) := fun hs => ssl_lh (by omega) (by omega)
  generalize hj1 : ((j - 1 : Nat) : Int) = j1 at wj1 ss
  rw [At.awp_seq, At.awp_rega]
  refine At.any_to (fun s' => DC hs.nh s' v f c0 c1 l i j ∧ ∃ z, s'.env 13 = .ref s.hs.nh 0 ∧ s'.hs.heap s.hs.nh = some [z, .str (bs ((f.take (j - 1)).drop i))] ∧ asI z = some ((l.take j).drop i) ∧ s'.hs.nh = s.hs.nh + 1) ?_ ?_
  · refine At.any_q 0 endN_p rfl rfl rfl ?_
    simp
    refine At.any_q 1 endN_p rfl rfl rfl ?_
    simp [e9, fa]
    refine At.any_r 2 endN_p rfl rfl ⟨hs.nh, 0, by simp, hnh⟩ ?_
    simp [ld9 _ h9]
    refine At.any_q 3 endN_p rfl rfl rfl ?_
    simp [e11]
    refine At.any_q 4 endN_p rfl rfl rfl ?_
    simp [e12]
    refine At.any_q 5 endN_p rfl rfl rfl ?_
    simp [hy44]
    refine At.any_q 7 endN_p rfl rfl rfl ?_
    simp [e9, fa]
    refine At.any_r 8 endN_p rfl rfl ⟨hs.nh, 1, by simp, hnh⟩ ?_
    simp [ld9f _ h9]
    refine At.any_q 9 endN_p rfl rfl rfl ?_
    simp [e11]
    refine At.any_q 10 endN_p rfl rfl rfl ?_
    simp [e12]
    refine At.any_q 11 endN_p rfl rfl rfl ?_
    simp [wj1]
    refine At.any_q 12 endN_p rfl rfl rfl ?_
    simp [ss]
    have hcp : ∀ hs : HS, ∃ y hs', aappend 1 hs (.sl 1 [] .exact) y44 = some (y, hs') ∧ asI y = some ((l.take j).drop i) ∧ SameMem hs hs' := fun hs => by
      obtain ⟨y, hs', a1, a2, a3, _⟩ := copy_outs (hs := hs) hy44i hpne (by omega)
      exact ⟨y, hs', a1, a2.asI (by omega), a3⟩
    refine At.any_2 6 14 rfl rfl rfl ?_ ?_
    · obtain ⟨y, hs', a1, a2, a3⟩ := hcp s.hs
      have st := st2_of (hp := fun i => if i = s.hs.nh then some [.nilsl, .str (bs [])] else hs'.heap i) (i := s.hs.nh) (u := .nilsl) (v := .str (bs [])) (by simp) y (.str (bs ((f.take (j - 1)).drop i)))
      have ne1 : ¬ hs.nh = s.hs.nh := by omega
      simp [a1]
      refine At.any_q 13 endN_p rfl rfl rfl ?_
      simp [afill2 a2]
      refine At.any_o 14 rfl rfl ?_
      simp
      refine At.any_o 15 rfl rfl ?_
      rw [a3.nh]
      simp [st]
      refine At.any_e rfl ?_
      simp
      exact At.of ⟨⟨e7, e9, e10, e11, e12, by simp [ne1, a3.heap, h9], by show hs.nh < s.hs.nh + 1; omega⟩, a2⟩
    · obtain ⟨y, hs', a1, a2, a3⟩ := hcp ⟨fun k => if k = s.hs.nh then some [.nilsl, .str (bs [])] else s.hs.heap k, s.hs.nh + 1, s.hs.nt, s.hs.tok, s.hs.mp⟩
      have hh := a3.heap
      have hn := a3.nh
      simp only at hh hn
      have st := st2_of (hp := hs'.heap) (i := s.hs.nh) (u := .nilsl) (v := .str (bs [])) (by rw [hh]; simp) y (.str (bs ((f.take (j - 1)).drop i)))
      have ne1 : ¬ hs.nh = s.hs.nh := by omega
      simp
      refine At.any_o 6 rfl rfl ?_
      simp [a1]
      refine At.any_o 13 rfl rfl ?_
      simp [afill2 a2]
      refine At.any_o 15 rfl rfl ?_
      simp [st]
      refine At.any_e rfl ?_
      simp
      exact At.of ⟨⟨e7, e9, e10, e11, e12, by simp [ne1, hh, h9], by show hs.nh < hs'.nh; omega⟩, a2, hn⟩
  have hb13 : s.hs.nh = s.hs.nh := rfl
  generalize hb13e : s.hs.nh = b13 at *
  clear e7 e9 e10 e11 e12 h9
  rintro s2 ⟨⟨e7, e9, e10, e11, e12, h9, hnh2⟩, z, e13, h13, hz, hn13⟩
  have hlne : l ≠ [] := by intro e; rw [e] at m1; simp at m1
  simp only [At.thenQ_n]
  rw [At.awp_seq, At.awp_rega]
  refine At.any_to (fun s' => ∃ b14 q kk, DE hs.nh b13 b14 q kk s' v z f ((f.take (j - 1)).drop i) c0 c1 l l.length) ?_ ?_
  · refine At.any_q 0 endN_p rfl rfl rfl ?_
    simp
    refine At.any_q 1 endN_p rfl rfl rfl ?_
    simp [e9, fa]
    refine At.any_r 2 endN_p rfl rfl ⟨hs.nh, 0, by simp, hnh2⟩ ?_
    simp [ld9 _ h9]
    refine At.any_q 4 endN_p rfl rfl rfl ?_
    simp [e9, fa]
    have ap : ∀ hs : HS, _ := fun hs => appm_copy (hs := hs) hli hlne (by omega)
    have bl : ∀ q kk, afill [.nilsl, .str (bs [])] [(0, 1, .osl false 1 q l.length kk), (1, 1, .str (bs f))] = some [.osl false 1 q l.length kk, .str (bs f)] := fun _ _ => rfl
    refine At.any_3 3 5 7 rfl rfl rfl rfl ?_ ?_ ?_
    · simp [ap]
      refine At.any_r 5 endN_p rfl rfl ⟨hs.nh, 1, by simp, by show hs.nh < s2.hs.nh + 1; omega⟩ ?_
      simp [ld9f (fun i => if i = s2.hs.nh then some (ints l) else s2.hs.heap i) (by simp [show ¬ hs.nh = s2.hs.nh by omega, h9])]
      refine At.any_q 6 endN_p rfl rfl rfl ?_
      simp [bl]
      refine At.any_o 7 rfl rfl ?_
      simp
      refine At.any_o 8 rfl rfl ?_
      simp [st2_of (hp := fun i => if i = s2.hs.nh + 1 then some [.nilsl, .str (bs [])] else if i = s2.hs.nh then some (ints l) else s2.hs.heap i) (i := s2.hs.nh + 1) (u := .nilsl) (v := .str (bs [])) (by simp)]
      refine At.any_e rfl ?_
      simp
      exact At.of ⟨s2.hs.nh + 1, s2.hs.nh, s2.hs.nt, e7, e9, e10, e13, rfl, by simp [show ¬ hs.nh = s2.hs.nh + 1 by omega, show ¬ hs.nh = s2.hs.nh by omega, h9], by simp [show ¬ b13 = s2.hs.nh + 1 by omega, show ¬ b13 = s2.hs.nh by omega, h13], by simp, by simp, by omega, by omega, by omega⟩
    · simp [ld9f _ h9]
      refine At.any_2 3 7 rfl rfl rfl ?_ ?_
      · simp [ap]
        refine At.any_q 6 endN_p rfl rfl rfl ?_
        simp [bl]
        refine At.any_o 7 rfl rfl ?_
        simp
        refine At.any_o 8 rfl rfl ?_
        simp [st2_of (hp := fun i => if i = s2.hs.nh + 1 then some [.nilsl, .str (bs [])] else if i = s2.hs.nh then some (ints l) else s2.hs.heap i) (i := s2.hs.nh + 1) (u := .nilsl) (v := .str (bs [])) (by simp)]
        refine At.any_e rfl ?_
        simp
        exact At.of ⟨s2.hs.nh + 1, s2.hs.nh, s2.hs.nt, e7, e9, e10, e13, rfl, by simp [show ¬ hs.nh = s2.hs.nh + 1 by omega, show ¬ hs.nh = s2.hs.nh by omega, h9], by simp [show ¬ b13 = s2.hs.nh + 1 by omega, show ¬ b13 = s2.hs.nh by omega, h13], by simp, by simp, by omega, by omega, by omega⟩
      · simp
        refine At.any_o 3 rfl rfl ?_
        simp [ap]
        refine At.any_o 6 rfl rfl ?_
        simp [bl]
        refine At.any_o 8 rfl rfl ?_
        simp [st2_of (hp := fun i => if i = s2.hs.nh + 1 then some (ints l) else if i = s2.hs.nh then some [.nilsl, .str (bs [])] else s2.hs.heap i) (i := s2.hs.nh) (u := .nilsl) (v := .str (bs [])) (by simp)]
        refine At.any_e rfl ?_
        simp
        exact At.of ⟨s2.hs.nh, s2.hs.nh + 1, s2.hs.nt, e7, e9, e10, e13, rfl, by simp [show ¬ hs.nh = s2.hs.nh + 1 by omega, show ¬ hs.nh = s2.hs.nh by omega, h9], by simp [show ¬ b13 = s2.hs.nh + 1 by omega, show ¬ b13 = s2.hs.nh by omega, h13], by simp, by simp, by omega, by omega, by omega⟩
    · simp
      have h9b : (fun i => if i = s2.hs.nh then some [AV.nilsl, .str (bs [])] else s2.hs.heap i) hs.nh = some [v, .str (bs f)] := by simp [show ¬ hs.nh = s2.hs.nh by omega, h9]
      refine At.any_2 3 5 rfl rfl rfl ?_ ?_
      · simp [ap]
        refine At.any_o 5 rfl rfl ?_
        simp [ld9f (fun i => if i = s2.hs.nh + 1 then some (ints l) else if i = s2.hs.nh then some [AV.nilsl, .str (bs [])] else s2.hs.heap i) (by simp [show ¬ hs.nh = s2.hs.nh + 1 by omega, show ¬ hs.nh = s2.hs.nh by omega, h9])]
        refine At.any_o 6 rfl rfl ?_
        simp [bl]
        refine At.any_o 8 rfl rfl ?_
        simp [st2_of (hp := fun i => if i = s2.hs.nh + 1 then some (ints l) else if i = s2.hs.nh then some [.nilsl, .str (bs [])] else s2.hs.heap i) (i := s2.hs.nh) (u := .nilsl) (v := .str (bs [])) (by simp)]
        refine At.any_e rfl ?_
        simp
        exact At.of ⟨s2.hs.nh, s2.hs.nh + 1, s2.hs.nt, e7, e9, e10, e13, rfl, by simp [show ¬ hs.nh = s2.hs.nh + 1 by omega, show ¬ hs.nh = s2.hs.nh by omega, h9], by simp [show ¬ b13 = s2.hs.nh + 1 by omega, show ¬ b13 = s2.hs.nh by omega, h13], by simp, by simp, by omega, by omega, by omega⟩
      · simp [ld9f (fun i => if i = s2.hs.nh then some [AV.nilsl, AV.str (bs [])] else s2.hs.heap i) h9b]
        refine At.any_o 3 rfl rfl ?_
        simp [ap]
        refine At.any_o 6 rfl rfl ?_
        simp [bl]
        refine At.any_o 8 rfl rfl ?_
        simp [st2_of (hp := fun i => if i = s2.hs.nh + 1 then some (ints l) else if i = s2.hs.nh then some [.nilsl, .str (bs [])] else s2.hs.heap i) (i := s2.hs.nh) (u := .nilsl) (v := .str (bs [])) (by simp)]
        refine At.any_e rfl ?_
        simp
        exact At.of ⟨s2.hs.nh, s2.hs.nh + 1, s2.hs.nt, e7, e9, e10, e13, rfl, by simp [show ¬ hs.nh = s2.hs.nh + 1 by omega, show ¬ hs.nh = s2.hs.nh by omega, h9], by simp [show ¬ b13 = s2.hs.nh + 1 by omega, show ¬ b13 = s2.hs.nh by omega, h13], by simp, by simp, by omega, by omega, by omega⟩
  clear e7 e9 e10 e11 e12 h9 e13 h13 hn13 hnh2 s2
  rintro s ⟨b14, q, kk, e7, e9, e10, e13, e14, h9, h13, h14, hq, n1, n2, n3⟩
  simp only [At.thenQ_n]
  have hpos : ∀ k, k < l.length → 1 ≤ gI l k ∧ gI l k ≤ 350 := fun k hk => m3 _ (by rw [gI_of hk]; exact List.getElem_mem _)
  have wc0 : IntKind.i64.wrap (c0 : Int) = (c0 : Int) := wrap64 (by omega) (by omega)
  have wc1 : IntKind.i64.wrap (c1 : Int) = (c1 : Int) := wrap64 (by omega) (by omega)
  rw [At.awp_seq]
  obtain ⟨a, ha⟩ : ∃ a, gI l 0 - (c0 : Int).tmod (gI l 0) = a := ⟨_, rfl⟩
  have k0 := cut1 (hpos 0 (by omega)).1 (c := (c0 : Int)) (by omega)
  have p0 := hpos 0 (by omega)
  rw [ha] at k0
  have hl1 : ∀ k, k < l.length → 1 ≤ gI (l.set 0 a) k ∧ gI (l.set 0 a) k ≤ 350 := fun k hk => by
    rw [gI_put (by omega)]
    have := hpos k hk
    split <;> omega
  refine At.cut (fun s' => DE hs.nh b13 b14 q kk s' v z f ((f.take (j - 1)).drop i) c0 c1 (l.set 0 a) l.length) ?_ ?_
  · have wd : IntKind.i64.wrap (gI l 0 - (c0 : Int).tmod (gI l 0)) = a := by rw [ha]; exact wrap64 (by omega) (by omega)
    have l14 : aload s.hs.heap false 1 (.ref b14 0) = some (.osl false 1 q l.length kk) := ldc h14 rfl
    have ix0 : aidxS 1 (.osl false 1 q l.length kk) (.int .i64 0) = some (.ref q 0) := osl_ix (i := 0) (by omega)
    have lq : aload s.hs.heap false 1 (.ref q 0) = some (.int .i64 (gI l 0)) := ldc hq (by rw [gI_of (by omega)]; simp [ints])
    have ia : aidxA 2 false 1 (.ptr (.agg [.int .u8 (c0 : Int), .int .u8 (c1 : Int)])) (.int .i64 0) = some (.ptr (.int .u8 (c0 : Int))) := rfl
    have st := store_cell (v := .int .i64 a) (o := 0) hq (by simp [ints]; omega) rfl
    have hset : (ints l).set 0 (.int .i64 a) = ints (l.set 0 a) := by simp [ints, List.map_set]
    rw [hset] at st
    have hne0 : gI l 0 ≠ 0 := by omega
    simp [e7, e14, fa, l14, ix0, lq, ia, wc0, hne0, wd, st]
    exact ⟨e7, e9, e10, e13, e14, by simp [n1, h9], by simp [n2, h13], by simp [n3, h14], by simp, n1, n2, n3⟩
  clear e7 e9 e10 e13 e14 h9 h13 h14 hq s
  rintro s ⟨e7, e9, e10, e13, e14, h9, h13, h14, hq, _, _, _⟩
  have hL1 : (l.set 0 a).length = l.length := List.length_set
  obtain ⟨b, hb'⟩ : ∃ b, gI (l.set 0 a) (l.length - 1) - (c1 : Int).tmod (gI (l.set 0 a) (l.length - 1)) = b := ⟨_, rfl⟩
  have k1 := cut1 (hl1 (l.length - 1) (by omega)).1 (c := (c1 : Int)) (by omega)
  have p1 := hl1 (l.length - 1) (by omega)
  rw [hb'] at k1
  have hsh : (l.set 0 a).set (l.length - 1) b = shorter l c0 c1 := by unfold shorter; rw [ha, hb']
  rw [At.awp_seq]
  refine At.cut (fun s' => DE hs.nh b13 b14 q kk s' v z f ((f.take (j - 1)).drop i) c0 c1 (shorter l c0 c1) l.length) ?_ ?_
  · have wn : IntKind.i64.wrap ((l.length : Int) - 1) = ((l.length - 1 : Nat) : Int) := by rw [wrap64 (by omega) (by omega)]; omega
    have wd : IntKind.i64.wrap (gI (l.set 0 a) (l.length - 1) - (c1 : Int).tmod (gI (l.set 0 a) (l.length - 1))) = b := by rw [hb']; exact wrap64 (by omega) (by omega)
    have l14 : aload s.hs.heap false 1 (.ref b14 0) = some (.osl false 1 q l.length kk) := ldc h14 rfl
    have ix0 : aidxS 1 (.osl false 1 q l.length kk) (.int .i64 ((l.length - 1 : Nat) : Int)) = some (.ref q (l.length - 1)) := osl_ix (i := l.length - 1) (by omega)
    have lq : aload s.hs.heap false 1 (.ref q (l.length - 1)) = some (.int .i64 (gI (l.set 0 a) (l.length - 1))) := ldc hq (ints_get (by omega))
    have ia : aidxA 2 false 1 (.ptr (.agg [.int .u8 (c0 : Int), .int .u8 (c1 : Int)])) (.int .i64 1) = some (.ptr (.int .u8 (c1 : Int))) := rfl
    have st := store_cell (v := .int .i64 b) (o := l.length - 1) hq (by simp [ints]; omega) rfl
    have hset : (ints (l.set 0 a)).set (l.length - 1) (.int .i64 b) = ints (shorter l c0 c1) := by rw [← hsh]; simp [ints, List.map_set]
    rw [hset] at st
    have hne0 : gI (l.set 0 a) (l.length - 1) ≠ 0 := by omega
    generalize gI (l.set 0 a) (l.length - 1) = gg at *
    generalize ((l.length - 1 : Nat) : Int) = nn at wn ix0
    simp [e7, e10, e14, fa, wn, l14, ix0, lq, ia, wc1, hne0, wd, st]
    exact ⟨e7, e9, e10, e13, e14, by simp [n1, h9], by simp [n2, h13], by simp [n3, h14], by simp, n1, n2, n3⟩
  clear e7 e9 e10 e13 e14 h9 h13 h14 hq s
  rintro s ⟨e7, e9, e10, e13, e14, h9, h13, h14, hq, _, _, _⟩
  have hckp : chk ((l.take j).drop i) ((f.take (j - 1)).drop i) = 0 := piece_chk hck hij hjn
  have hcks : chk (shorter l c0 c1) f = 0 := shorter_chk hck (by omega) (by omega)
  have l9 : aload s.hs.heap true 2 (.ref hs.nh 0) = some (.agg [v, .str (bs f)]) := load_ref2 h9
  have hcall := FCall.melt (q := q) (l := shorter l c0 c1) ((p25 hli f).fcall s.hs) hq
  rw [cntV_0 hck] at hcall
  have hmz : mq q (shorter l c0 c1) z = z := by
    rcases asI_inv hz with ⟨rfl, _⟩ | ⟨c, rfl⟩ <;> rfl
  have h13 : (s.hs.melt q (shorter l c0 c1)).heap b13 = some [z, .str (bs ((f.take (j - 1)).drop i))] := by
    simp only [HS.melt]
    rw [if_neg n2, h13]
    simp only [Option.map_some, List.map_cons, List.map_nil, hmz]
    rfl
  have h14 : (s.hs.melt q (shorter l c0 c1)).heap b14 = some [.sl 1 (ints (shorter l c0 c1)) .shared, .str (bs f)] := by
    simp only [HS.melt]
    rw [if_neg n3, h14]
    simp [mq, shorter_len]
  have hsi : asI (.sl 1 (ints (shorter l c0 c1)) .shared) = some (shorter l c0 c1) := asI_sl (by rw [shorter_len]; omega)
  generalize s.hs.melt q (shorter l c0 c1) = hsM at *
  have l13 : aload hsM.heap true 2 (.ref b13 0) = some (.agg [z, .str (bs ((f.take (j - 1)).drop i))]) := load_ref2 h13
  have l14 : aload hsM.heap true 2 (.ref b14 0) = some (.agg [.sl 1 (ints (shorter l c0 c1)) .shared, .str (bs f)]) := load_ref2 h14
  have q13 := h23 (f := (f.take (j - 1)).drop i) hz
  have q14 := h23 (f := f) hsi
  have fin := piece_flat hck hij hjn
  have fis := shorter_flat (c0 := c0) (c1 := c1) hck (by omega) (by omega)
  rw [At.awp_seq]
  simp [e9, l9, -At.awp_seq]
  refine At.hc hcall ?_ ?_
  rotate_left
  · rintro v hs3 ⟨hv, _⟩; cases hv
  rintro v2 hs3 ⟨hv, rfl⟩
  injection hv with hv; subst hv
  have hcn : cnt l f = 0 ↔ foldL l f = [] := by unfold cnt; exact List.length_eq_zero_iff
  by_cases hp : foldL ((l.take j).drop i) ((f.take (j - 1)).drop i) = []
  · have hl0 : foldL l f = [] := Classical.byContradiction fun h => fin h hp
    rw [ord_none hckp hp] at q13
    rw [hcn.2 hl0]
    by_cases hs' : foldL (shorter l c0 c1) f = []
    · rw [ord_none hcks hs'] at q14
      simp [e13, e14, l13, l14, q13, q14, h15]
    · obtain ⟨o, ho, hlo, hoi, _⟩ := ord_some hcks hs'
      rw [ho] at q14
      have k14 := h21 (f := f) hsi hoi
      rw [hlo] at k14
      simp [e13, e14, l13, l14, q13, q14, h15, k14]
  · obtain ⟨o, ho, hlo, hoi, _⟩ := ord_some hckp hp
    rw [ho] at q13
    have k13 := h21 (f := (f.take (j - 1)).drop i) hz hoi
    rw [hlo] at k13
    by_cases hs' : foldL (shorter l c0 c1) f = []
    · have hl0 : foldL l f = [] := Classical.byContradiction fun h => fis h hs'
      rw [ord_none hcks hs'] at q14
      rw [hcn.2 hl0]
      simp [e13, e14, l13, l14, q13, q14, h15, k13]
    · obtain ⟨o2, ho2, hlo2, hoi2, _⟩ := ord_some hcks hs'
      rw [ho2] at q14
      have k14 := h21 (f := f) hsi hoi2
      rw [hlo2] at k14
      by_cases hc : (cnt l f : Int) < 1
      · simp [e13, e14, l13, l14, q13, q14, h15, k13, k14, hc]
      · simp [e13, e14, l13, l14, q13, q14, h15, k13, k14, hc]
theorem piece_typed (xs : List AV) (h : Typed [TMap, .int .u8, .int .u8, .ar 2 (.int .u8)] xs) : PCall Tryd.prog 9 xs (.bool true) := by
  obtain ⟨x, a, b, c, rfl, hx, ha, hb, hc⟩ := h.four
  obtain ⟨y, es, g, rfl, h1, h2⟩ := map_typed hx
  obtain ⟨g1, rfl, h3⟩ := arg_u8 ha
  obtain ⟨g2, rfl, h4⟩ := arg_u8 hb
  obtain ⟨cs, rfl, hs⟩ := shv_agg (T := .ar 2 (.int .u8)) rfl hc
  obtain ⟨ls, rfl, h5, h6⟩ := hs
  match ls, h5, h6 with
  | [p, r], _, h6 =>
    obtain ⟨n1, rfl, w1⟩ := sh_int (h6 p (by simp))
    obtain ⟨n2, rfl, w2⟩ := sh_int (h6 r (by simp))
    obtain ⟨c0, rfl, h7⟩ := u8_nat w1
    obtain ⟨c1, rfl, h8⟩ := u8_nat w2
    exact p9 h1 h2 h3 h4 h7 h8
end Go.Proofs.YtedpcenghofpoaaDoor
