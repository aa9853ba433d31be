/-
  Codes of any size, and their numbers. Own work.
-/
import Derived.Test.YtdcpkgedaflnmaaGreatDoorH4
set_option linter.unusedVariables false
set_option linter.unusedSimpArgs false
namespace Go.Proofs.YtdcpkgedaflnmaaGreatDoor.Sn
open Go Fw Se

/-- the figures while k of them are written -/
def outG (L n i k : Nat) : List Int := List.replicate (L - k) 0 ++ dgs n k i
theorem outG_len {L n i k : Nat} (hk : k ≤ L) : (outG L n i k).length = L := by simp [outG, dgs_len]; omega
theorem outG_set {L n i k : Nat} (hk : k < L) : (outG L n i k).set (L - 1 - k) ((i / n ^ k % n : Nat) : Int) = outG L n i (k + 1) := by
  unfold outG
  have e : List.replicate (L - k) (0 : Int) = List.replicate (L - 1 - k) 0 ++ [0] := by
    rw [show L - k = (L - 1 - k) + 1 by omega, List.replicate_succ']
  rw [e, List.append_assoc, List.set_append_right _ _ (by simp), dgs_cons]
  simp only [List.length_replicate, Nat.sub_self, List.singleton_append, List.set_cons_zero]
  rw [show L - (k + 1) = L - 1 - k by omega]
/-- the code of a number, of so many figures and one -/
def codeG (m : List (List Int)) (L i : Nat) : List Int := dgs m.length L i ++ [zD m (aft m (dgs m.length L i) 0).toNat]
theorem codeG_len (m : List (List Int)) (L i : Nat) : (codeG m L i).length = L + 1 := by simp [codeG, dgs_len]
theorem codeG_bd {m : List (List Int)} (g : GoodT m) (L i : Nat) : ∀ a ∈ codeG m L i, 0 ≤ a ∧ a < m.length := by
  intro a ha
  have hn := g.n2
  rcases List.mem_append.1 ha with h | h
  · exact dgs_bd (by omega) L i a h
  · rw [List.mem_singleton.1 h]
    have hb := aft_bd g (l := dgs m.length L i) (s := 0) (dgs_bd (by omega) L i) ⟨by omega, by omega⟩
    have := zD_spec g (s := (aft m (dgs m.length L i) 0).toNat) (by omega)
    exact ⟨this.1, this.2.1⟩
theorem codeG_right {m : List (List Int)} (g : GoodT m) (L i : Nat) : aft m (codeG m L i) 0 = 0 := by
  have hn := g.n2
  have hb := aft_bd g (l := dgs m.length L i) (s := 0) (dgs_bd (by omega) L i) ⟨by omega, by omega⟩
  have := zD_spec g (s := (aft m (dgs m.length L i) 0).toNat) (by omega)
  unfold codeG
  rw [aft_app]
  exact this.2.2
theorem codeG_val {m : List (List Int)} (g : GoodT m) {L i : Nat} (hi : i < m.length ^ L) : valL m.length ((codeG m L i).take L) = (i : Int) := by
  have hn := g.n2
  unfold codeG
  rw [List.take_append_of_le_length (by rw [dgs_len]; exact Nat.le_refl _), List.take_of_length_le (by rw [dgs_len]; exact Nat.le_refl _)]
  exact dgs_val (by omega) L i hi
set_option maxHeartbeats 2000000 in
theorem p22g {x : AV} {m : List (List Int)} (hx : asM x = some m) (g : GoodT m) {L i : Nat} (hL1 : 1 ≤ L) (hL : L ≤ 8) (hi : i < m.length ^ L) (hib : i < 1000000000) : PCall Tryz.prog 22 [x, .int .i64 ((L + 1 : Nat) : Int), .int .i64 (i : Int)] (.tup [shR (codeG m L i), .int .i64 0]) := by
  obtain ⟨sz, hsz⟩ : ∃ sz, sz = L + 1 := ⟨_, rfl⟩
  rw [← hsz]
  obtain ⟨R, hM⟩ := asM.isM hx
  have hn2 := g.n2
  have hn10 := g.n10
  have hlen := hM.len
  obtain ⟨C, hC, k57, n⟩ := ctx_pt E1ok 57 _ _ (p69 hx g)
  have k58 : C 58 = SB := by rw [n 58 (by decide)]; rfl
  have b1 : btw 2 (sz : Int) 12 = true := btw_iff.2 ⟨by omega, by omega⟩
  have w9 : IntKind.i64.wrap ((sz : Int) - 1) = (L : Int) := by rw [show (sz : Int) - 1 = (L : Int) by omega]; exact wrap64 (by omega) (by omega)
  have hpl : (AV.tup [shR (codeG m L i), .int .i64 0]).plain = true := by
    have := plain_ints (codeG m L i)
    simp [shR, AV.plain, plainL] at this ⊢
    exact this
  refine PCall.of hC ok22 (by simp) hpl fun hs hb => ?_
  have hmk : amake false 1 [.int .i64 0] hs (.int .i64 (L : Int)) (.int .i64 (L : Int)) = some (.msl false 1 hs.nh 0 L true, hs.blk (List.replicate L (.int .i64 0))) := amake_eq (n := L) (by omega)
  have hneg : ¬ (i : Int) < 0 := by omega
  generalize hq0 : hs.nh = q at hmk
  simp [A22, R22, k57, k58, b1, w9, hneg, hmk]
  have w7 : IntKind.i64.wrap ((L : Int) - 1) = ((L - 1 : Nat) : Int) := by rw [show (L : Int) - 1 = ((L - 1 : Nat) : Int) by omega]; exact wrap64 (by omega) (by omega)
  obtain ⟨L1, hL1'⟩ : ∃ L1, L1 = L - 1 := ⟨_, rfl⟩
  rw [← hL1'] at w7
  refine At.loop (fun (k : Nat) s => k ≤ L ∧ s.env 0 = x ∧ s.env 2 = .int .i64 ((i / m.length ^ k : Nat) : Int) ∧ s.env 9 = .msl false 1 q 0 L true ∧ s.env 29 = .int .i64 (L : Int) ∧ s.env 30 = .int .i64 (k : Int) ∧ s.hs.heap q = some (ints (outG L m.length i k))) (fun k => L - k) 0 ?_ ?_
  · refine ⟨by omega, by simp, by simp, by simp, by simp, by simp, ?_⟩
    simp [← hq0, outG, dgs, ints]
  rintro N k s hN ⟨hk, e0, e2, e9, e29, e30, hq⟩
  simp [e29, e30]
  refine At.dec (fun hlt => ?_) (fun hlt => ?_)
  · have hk' : k < L := by omega
    have h1 : i / m.length ^ k < 4611686018427387904 := Nat.lt_of_le_of_lt (Nat.div_le_self _ _) (by omega)
    have r1 : abin 0 .rem (.int .i64 ((i / m.length ^ k : Nat) : Int)) (.int .i64 (m.length : Int)) = some (.int .i64 ((i / m.length ^ k % m.length : Nat) : Int)) := rem64 (by omega)
    have r2 : abin 0 .quo (.int .i64 ((i / m.length ^ k : Nat) : Int)) (.int .i64 (m.length : Int)) = some (.int .i64 ((i / m.length ^ k / m.length : Nat) : Int)) := quo64 (by omega) h1
    rw [Nat.div_div_eq_div_mul, ← Nat.pow_succ] at r2
    have wk : IntKind.i64.wrap ((L1 : Int) - (k : Int)) = ((L1 - k : Nat) : Int) := by rw [wrap64 (by omega) (by omega)]; omega
    have ix : aidxS 1 (.msl false 1 q 0 L true) (.int .i64 ((L1 - k : Nat) : Int)) = some (.ref q (L1 - k)) := aidx_msln (by omega)
    have st := store_cell (v := .int .i64 ((i / m.length ^ k % m.length : Nat) : Int)) (o := L1 - k) hq (by rw [ints_len, outG_len hk]; omega) rfl
    have hset : (ints (outG L m.length i k)).set (L1 - k) (.int .i64 ((i / m.length ^ k % m.length : Nat) : Int)) = ints (outG L m.length i (k + 1)) := by
      rw [← outG_set hk', ← hL1']
      simp [ints, List.map_set]
    rw [hset] at st
    generalize hcc : ints (outG L m.length i (k + 1)) = cells at *
    obtain ⟨z1, hz1⟩ : ∃ z1 : Int, z1 = ((L1 - k : Nat) : Int) := ⟨_, rfl⟩
    rw [← hz1] at wk ix
    obtain ⟨z2, hz2⟩ : ∃ z2 : Int, z2 = ((i / m.length ^ k % m.length : Nat) : Int) := ⟨_, rfl⟩
    rw [← hz2] at r1 st
    obtain ⟨z3, hz3⟩ : ∃ z3 : Int, z3 = ((i / m.length ^ (k + 1) : Nat) : Int) := ⟨_, rfl⟩
    rw [← hz3] at r2
    obtain ⟨z4, hz4⟩ : ∃ z4 : Int, z4 = ((i / m.length ^ k : Nat) : Int) := ⟨_, rfl⟩
    rw [← hz4] at r1 r2 e2
    simp [e0, e2, e9, e30, hlen, w7, wk, ix, r1, r2, st, -abin_rem, -abin_quo]
    exact hN (k + 1) _ (by omega) ⟨by omega, by simp [e0], by rw [← hz3]; simp, by simp [e9], by simp [e29], by simp [wrap_nat1 (show k < _ by omega)], by simp [hcc]⟩
  · have : L = k := by omega
    subst this
    have hz : i / m.length ^ L = 0 := Nat.div_eq_of_lt hi
    rw [hz] at e2
    have ho : outG L m.length i L = dgs m.length L i := by simp [outG]
    rw [ho] at hq
    have h59 := p59 hx g (z := .sl 1 (ints (dgs m.length L i)) .exact) (l := dgs m.length L i) (asI_sl (by rw [dgs_len]; omega)) (dgs_bd (by omega) L i) (by rw [dgs_len]; omega)
    have hfz : [x, AV.msl false 1 q 0 L true].map (frz s.hs.heap 2) = [x, .sl 1 (ints (dgs m.length L i)) .exact] := by
      have e1 := hM.frz s.hs.heap 2
      have e2 : frz s.hs.heap 2 (.msl false 1 q 0 L true) = .sl 1 (ints (dgs m.length L i)) .exact := by
        show frzL s.hs.heap 2 (.msl false 1 q 0 L true) = _
        rw [frzL_msl hq (mcont_full (by rw [ints_len, dgs_len])), if_pos rfl, map_frz_ints]
      simp only [List.map_cons, List.map_nil, e1, e2]
    rw [← hfz] at h59
    have hc := FCall.lent2 (hs := s.hs) h59
    simp [e0, e2, e9]
    refine At.hc hc ?_ ?_
    rotate_left
    · rintro r hs' ⟨hr, _⟩; cases hr
    rintro r hs' ⟨hr, rfl⟩
    injection hr with hr; subst hr
    have hcode : ints (codeG m L i) = ints (dgs m.length L i) ++ [.int .i64 (zD m (aft m (dgs m.length L i) 0).toNat)] := by simp [codeG, ints]
    generalize zD m (aft m (dgs m.length L i) 0).toNat = d at *
    have hil : (ints (dgs m.length L i)).length = L := by rw [ints_len, dgs_len]
    have hsc : (ints (codeG m L i)).map AV.share = ints (codeG m L i) := share_ints _
    have ap : aappend 1 s.hs (.msl false 1 q 0 L true) (.sl 1 [.int .i64 d] .exact) = some (.sl 1 (ints (codeG m L i)) (.own s.hs.nt), { s.hs with nt := s.hs.nt + 1, tok := fun t => if t = s.hs.nt then true else s.hs.tok t }) := by
      rw [hcode]
      unfold aappend
      have e1 : aelemsH s.hs.heap (.msl false 1 q 0 L true) = some (ints (dgs m.length L i)) := by
        show (s.hs.heap q).bind (mcont false 1 0 L) = _
        rw [hq, Option.bind_some, mcont_full hil]
      have e2 : aelemsH s.hs.heap (.sl 1 [.int .i64 d] .exact) = some [.int .i64 d] := rfl
      rw [e1, e2]
      simp only
      rw [if_pos ⟨rfl, rfl, by rw [hil]; simp; omega⟩, if_neg (by simp)]
    generalize hcc : ints (codeG m L i) = cells at *
    simp [e9, astoAll, ap, shR]
    rw [hsc, hcc]
theorem p23g {x : AV} {m : List (List Int)} (hx : asM x = some m) (g : GoodT m) {z : AV} {L i : Nat} (hz : asI z = some (codeG m L i)) (hL1 : 1 ≤ L) (hL : L ≤ 8) (hi : i < m.length ^ L) : PCall Tryz.prog 23 [x, z] (.tup [.int .i64 (i : Int), .int .i64 0]) := by
  obtain ⟨R, hM⟩ := asM.isM hx
  have hlen := codeG_len m L i
  have l0 := leaf_ld hM.leaf
  have h24 := p24 hx g hz (codeG_bd g L i) (by omega) (by omega) (codeG_right g L i)
  have h60 := p60 hx g (asI_take hz L) (fun a ha => codeG_bd g L i a (List.mem_of_mem_take ha)) (by rw [List.length_take]; omega)
  rw [codeG_val g hi] at h60
  obtain ⟨C1, hC1, k24, _⟩ := ctx_pt CtxOk.nil 24 _ _ h24
  obtain ⟨C, hC, k60, n⟩ := ctx_pt hC1 60 _ _ h60
  have k24' : C 24 [x, z] = some (.int .i64 0) := by rw [n 24 (by decide)]; exact k24
  have st : aslice 1 z none (some (.int .i64 (L : Int))) none = some (takeV L z) := slice_take (n := L) (asI_asV hz) (by rw [ints_len, hlen]; omega)
  have al := alen_of hz
  rw [hlen] at al
  obtain ⟨sz, hsz⟩ : ∃ sz, sz = L + 1 := ⟨_, rfl⟩
  rw [← hsz] at al
  have hst : x.sto = true := by rcases hM.form with ⟨rfl, _⟩ | ⟨c, rfl⟩ <;> rfl
  refine PCall.of hC ok23 (by simp) rfl fun hs hb => ?_
  have w8 : IntKind.i64.wrap ((sz : Int) - 1) = (L : Int) := by rw [show (sz : Int) - 1 = (L : Int) by omega]; exact wrap64 (by omega) (by omega)
  simp [A23, R23, hst, l0, k24', al, w8, st, k60]
end Go.Proofs.YtdcpkgedaflnmaaGreatDoor.Sn
