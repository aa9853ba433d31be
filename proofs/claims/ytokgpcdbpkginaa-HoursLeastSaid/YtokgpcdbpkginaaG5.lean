/-
  A work made from numbers. Own work.
  The law's own sums and bound. Own work.
  The law's own bound. Own work.
  Lengths and seats: the plain law; HoursSeats, walked. Own work.
  A bench as an argument; HoursSeats from its arguments. Own work.
-/
import Derived.Test.YtokgpcdbpkginaaG3
import Derived.Test.YtokgpcdbpkginaaFx4
set_option linter.unusedVariables false
set_option linter.unusedSimpArgs false
namespace Go.Proofs.Ytokgpcdbpkginaa
open Go Fw

/-- a bench: nineteen small numbers -/
def uL (u : Nat → Nat) : List AV := (List.range 19).map fun j => .int .u8 (u j : Int)
def benV (u : Nat → Nat) : AV := .agg (uL u)
def rN (u : Nat → Nat) : Nat := 1 + u 0 % 4
def cN (u : Nat → Nat) : Nat := 1 + u 1 % 4
def sN (u : Nat → Nat) : Nat := 1 + u 2 % 5
def hrN (u : Nat → Nat) (most i k : Nat) : Int := ((u (3 + (4 * i + k)) % (most + 1) : Nat) : Int)
def rowU (u : Nat → Nat) (most i : Nat) : List Int := (List.range (cN u)).map (hrN u most i)
def mU (u : Nat → Nat) (most : Nat) : List (List Int) := (List.range (rN u)).map (rowU u most)
def shR (l : List Int) : AV := .sl 1 (ints l) .shared
def madV (M : List (List Int)) : AV := .sl 1 (M.map shR) .exact
theorem rN_bd (u : Nat → Nat) : 1 ≤ rN u ∧ rN u ≤ 4 := by unfold rN; omega
theorem cN_bd (u : Nat → Nat) : 1 ≤ cN u ∧ cN u ≤ 4 := by unfold cN; omega
theorem sN_bd (u : Nat → Nat) : 1 ≤ sN u ∧ sN u ≤ 5 := by unfold sN; omega
theorem mU_len (u : Nat → Nat) (most : Nat) : (mU u most).length = rN u := by simp [mU]
theorem rowU_len (u : Nat → Nat) (most i : Nat) : (rowU u most i).length = cN u := by simp [rowU]
theorem mU_get {u : Nat → Nat} {most i : Nat} (h : i < (mU u most).length) : (mU u most)[i] = rowU u most i := by simp [mU]
theorem rowU_get {u : Nat → Nat} {most i k : Nat} (h : k < (rowU u most i).length) : (rowU u most i)[k] = hrN u most i k := by simp [rowU]
theorem hrN_bd (u : Nat → Nat) (most i k : Nat) : 0 ≤ hrN u most i k ∧ hrN u most i k ≤ most := by
  unfold hrN
  have := Nat.mod_lt (u (3 + (4 * i + k))) (show 0 < most + 1 by omega)
  omega
theorem mU_ok (u : Nat → Nat) {most : Nat} (h : most ≤ 30) : OkW (mU u most) := by
  have h0 : ((mU u most).getD 0 []).length = cN u := by
    have := rN_bd u
    rw [List.getD_eq_getElem?_getD, List.getElem?_eq_getElem (by rw [mU_len]; omega), mU_get]; exact rowU_len _ _ _
  have hm := rN_bd u
  have hc := cN_bd u
  refine ⟨by rw [mU_len]; omega, by rw [mU_len]; omega, by omega, by omega, fun r hr => ?_, fun r hr n hn => ?_⟩
  · rw [h0]
    simp only [mU, List.mem_map] at hr
    obtain ⟨i, _, rfl⟩ := hr
    exact rowU_len _ _ _
  · simp only [mU, List.mem_map] at hr
    obtain ⟨i, _, rfl⟩ := hr
    simp only [rowU, List.mem_map] at hn
    obtain ⟨k, _, rfl⟩ := hn
    have := hrN_bd u most i k
    omega
theorem isMad {M : List (List Int)} (h : M.length ≤ 1000) (hr : ∀ r ∈ M, r.length ≤ 1000) : IsM (madV M) M (fun i => shR (M.getD i [])) := by
  have e : madV M = .sl 1 ((List.range M.length).map fun i => shR (M.getD i [])) .exact := by
    unfold madV
    congr 1
    apply List.ext_getElem
    · simp
    · intro i h1 h2
      have h3 : i < M.length := by simpa using h1
      simp [List.getD, h3]
  rw [e]
  refine isM_sl (by omega) fun i hi => ?_
  have := hr _ (List.getElem_mem hi)
  rw [List.getD_eq_getElem?_getD, List.getElem?_eq_getElem hi]
  exact rowI_of (asI_sl (by simp only [Option.getD_some]; omega))
theorem isMU (u : Nat → Nat) (most : Nat) : IsM (madV (mU u most)) (mU u most) (fun i => shR ((mU u most).getD i [])) := isMad (by rw [mU_len]; have := rN_bd u; omega) fun r hr => by
  simp only [mU, List.mem_map] at hr
  obtain ⟨i, _, rfl⟩ := hr
  rw [rowU_len]; have := cN_bd u; omega
theorem madV_plain (M : List (List Int)) : (madV M).plain = true := by
  have : ∀ M : List (List Int), plainL (M.map shR) = true := by
    intro M
    induction M with
    | nil => rfl
    | cons a M ih => simp only [List.map_cons, plainL, Bool.and_eq_true]; exact ⟨plain_ints a, ih⟩
  exact this M
theorem uL_len (u : Nat → Nat) : (uL u).length = 19 := by simp [uL]
theorem uL_get (u : Nat → Nat) {j : Nat} (h : j < 19) : (uL u)[j]? = some (.int .u8 (u j : Int)) := by simp [uL, h]
theorem ben_f (u : Nat → Nat) {j : Nat} (h : j < 19) : afaddr false 1 j (.ptr (benV u)) = some (.ptr (.int .u8 (u j : Int))) := by
  simp only [afaddr, benV, AV.cells, apart, Bool.false_eq_true, if_false, uL_get u h, Option.map_some]
def hrV (u : Nat → Nat) : AV := .agg (((uL u).drop 3).take 16)
theorem ben_h (u : Nat → Nat) : afaddr true 16 3 (.ptr (benV u)) = some (.ptr (hrV u)) := by
  simp only [afaddr, benV, AV.cells, apart, if_true, uL_len]; rfl
theorem ben_i (u : Nat → Nat) {j : Nat} (h : j < 16) : aidxA 16 false 1 (.ptr (hrV u)) (.int .i64 (j : Int)) = some (.ptr (.int .u8 (u (3 + j) : Int))) := by
  have h2 : (((uL u).drop 3).take 16)[j]? = some (.int .u8 (u (3 + j) : Int)) := by
    rw [List.getElem?_take, if_pos h, List.getElem?_drop, uL_get u (by omega)]
  simp only [aidxA, show (0 : Int) ≤ (j : Int) by omega, show (j : Int) < ((16 : Nat) : Int) by omega, and_self, if_true, Int.toNat_natCast, Nat.mul_one, afaddr, hrV, AV.cells, apart, Bool.false_eq_true, if_false, h2, Option.map_some]
theorem ben_l (u : Nat → Nat) (hp : Nat → Option (List AV)) : aload hp true 19 (.ptr (benV u)) = some (benV u) := by
  simp only [aload, benV, AV.cells, apart, if_true, List.drop_zero, Nat.zero_add, uL_len, Nat.le_refl, if_true]
  rw [List.take_of_length_le (by rw [uL_len]; exact Nat.le_refl _)]
theorem p30 (u : Nat → Nat) (hu : ∀ j, u j < 256) {most : Nat} (hm : most ≤ 1000) : PCall Try.prog 30 [benV u, .int .i64 (most : Int)] (.tup [madV (mU u most), .int .i64 (sN u : Int)]) := by
  have c0 : ∀ j, IntKind.i64.wrap (u j : Int) = (u j : Int) := fun j => wrap_nat (by have := hu j; omega)
  have w0 : IntKind.i64.wrap (1 + (u 0 : Int).tmod 4) = (rN u : Int) := by
    rw [show (u 0 : Int).tmod 4 = ((u 0 % 4 : Nat) : Int) from rfl, wrap64 (by omega) (by omega)]; unfold rN; omega
  have w1 : IntKind.i64.wrap (1 + (u 1 : Int).tmod 4) = (cN u : Int) := by
    rw [show (u 1 : Int).tmod 4 = ((u 1 % 4 : Nat) : Int) from rfl, wrap64 (by omega) (by omega)]; unfold cN; omega
  have w2 : IntKind.i64.wrap (1 + (u 2 : Int).tmod 5) = (sN u : Int) := by
    rw [show (u 2 : Int).tmod 5 = ((u 2 % 5 : Nat) : Int) from rfl, wrap64 (by omega) (by omega)]; unfold sN; omega
  have hr := rN_bd u
  have hc := cN_bd u
  have hmk : ∀ hs : HS, amake false 1 [.nilsl] hs (.int .i64 (rN u : Int)) (.int .i64 (rN u : Int)) = some (.msl false 1 hs.nh 0 (rN u) true, hs.blk (List.replicate (rN u) .nilsl)) := fun hs => amake_eq (by omega)
  refine PCall.ofZ D0ok ok30 (by simp) (by simp [AV.plain, plainL, madV_plain]) fun hs hb => ?_
  have hsto : (benV u).sto = true := rfl
  generalize hq : hs.nh = q at hmk
  simp [A30, R30, hsto, ben_f u, c0, w0, w1, hmk, hq]
  refine At.loop (fun (i : Nat) s => i ≤ rN u ∧ s.env 1 = .int .i64 (most : Int) ∧ s.env 2 = .ptr (benV u) ∧ s.env 7 = .int .i64 (cN u : Int) ∧ s.env 8 = .msl false 1 q 0 (rN u) true ∧ s.env 24 = .int .i64 (rN u : Int) ∧ s.env 25 = .int .i64 (i : Int) ∧
    ∃ cs, s.hs.heap q = some cs ∧ cs.length = rN u ∧ (∀ j (h : j < cs.length), j < i → ∃ k, cs[j] = .sl 1 (ints (rowU u most j)) (.own k)) ∧ (∀ j (h : j < cs.length), i ≤ j → cs[j] = .nilsl)) (fun i => rN u - i) 0 ?_ ?_
  · exact ⟨by omega, by simp, by simp, by simp, by simp, by simp, by simp, List.replicate (rN u) .nilsl, by simp [← hq], by simp, fun j h hj => by omega, fun j h _ => by simp⟩
  rintro N i s hN ⟨hi, e1, e2, e7, e8, e24, e25, cs, hh, hl, hd, hz⟩
  simp [e24, e25]
  refine At.dec (fun hlt => ?_) (fun hlt => ?_)
  · have hi' : i < rN u := by omega
    simp [e25]
    refine At.loop (fun (k : Nat) s => k ≤ cN u ∧ s.env 1 = .int .i64 (most : Int) ∧ s.env 2 = .ptr (benV u) ∧ s.env 7 = .int .i64 (cN u : Int) ∧ s.env 8 = .msl false 1 q 0 (rN u) true ∧ s.env 24 = .int .i64 (rN u : Int) ∧ s.env 25 = .int .i64 (i : Int) ∧ s.env 9 = .int .i64 (i : Int) ∧ s.env 10 = .int .i64 (k : Int) ∧
      ∃ cs, ∃ hl : cs.length = rN u, s.hs.heap q = some cs ∧ (∀ j (h : j < cs.length), j < i → ∃ k, cs[j] = .sl 1 (ints (rowU u most j)) (.own k)) ∧ Outs 1 s.hs (cs[i]'(by omega)) (ints ((rowU u most i).take k)) ∧ (∀ j (h : j < cs.length), i < j → cs[j] = .nilsl)) (fun k => cN u - k) 0 ?_ ?_
    · exact ⟨by omega, by simp [e1], by simp [e2], by simp [e7], by simp [e8], by simp [e24], by simp [e25], by simp, by simp, cs, hl, by simp [hh], hd, by rw [hz i (by omega) (Nat.le_refl _)]; exact .nil, fun j h hj => hz j h (by omega)⟩
    rintro N2 k s2 hN2 ⟨hk, f1, f2, f7, f8, f24, f25, f9, f10, cs2, gl, gh, gd, go, gz⟩
    simp [f7, f10]
    refine At.dec (fun hlt2 => ?_) (fun hlt2 => ?_)
    · have hk' : k < cN u := by omega
      have hi2 : i < cs2.length := by omega
      have x1 : aidxS 1 (.msl false 1 q 0 (rN u) true) (.int .i64 (i : Int)) = some (.ref q i) := aidx_msln hi'
      have ld : aload s2.hs.heap false 1 (.ref q i) = some cs2[i] := load_cell gh hi2
      have wm : IntKind.i64.wrap (4 * (i : Int)) = 4 * (i : Int) := wrap64 (by omega) (by omega)
      have wa : IntKind.i64.wrap (4 * (i : Int) + (k : Int)) = 4 * (i : Int) + (k : Int) := wrap64 (by omega) (by omega)
      have xa : aidxA 16 false 1 (.ptr (hrV u)) (.int .i64 (4 * (i : Int) + (k : Int))) = some (.ptr (.int .u8 (u (3 + (4 * i + k)) : Int))) := by
        have := ben_i u (j := 4 * i + k) (by omega)
        rw [Int.natCast_add, Int.natCast_mul] at this
        exact this
      have wo : IntKind.i64.wrap ((most : Int) + 1) = (most : Int) + 1 := wrap64 (by omega) (by omega)
      have nz : ¬ (most : Int) + 1 = 0 := by omega
      have tm : (u (3 + (4 * i + k)) : Int).tmod ((most : Int) + 1) = hrN u most i k := rfl
      have hrl : ((rowU u most i).take k).length ≤ 1000000 := by rw [List.length_take, rowU_len]; omega
      obtain ⟨y, hs', ap, o2, sm⟩ := go.add1 hrl (hrN u most i k)
      have hn : (rowU u most i).take k ++ [hrN u most i k] = (rowU u most i).take (k + 1) := by
        rw [take_snoc (by rw [rowU_len]; omega), rowU_get]
      rw [hn] at o2
      have yl : y.leaf = true := by
        rcases o2.inv with ⟨rfl, _⟩ | ⟨xs, k', rfl, _⟩ <;> rfl
      have st : astore hs'.heap 1 (.ref q i) y = _ := store_cell (by rw [sm.heap]; exact gh) hi2 yl
      simp [f1, f2, f8, f9, f10, x1, ld, wm, wa, xa, ben_h u, c0, wo, nz, tm, astoAll, si, ci, ap, st]
      refine hN2 (k + 1) _ (by omega) ⟨by omega, by simp [f1], by simp [f2], by simp [f7], by simp [f8], by simp [f24], by simp [f25], by simp [f9], by simp [wrap_nat1 (show k < _ by omega)], cs2.set i y, by rw [List.length_set]; exact gl, by simp, fun j h hj => ?_, ?_, fun j h hj => ?_⟩
      · rw [List.length_set] at h
        rw [List.getElem_set_ne (by omega)]; exact gd j h hj
      · rw [List.getElem_set_self]
        exact o2.cong rfl rfl
      · rw [List.length_set] at h
        rw [List.getElem_set_ne (by omega)]; exact gz j h hj
    · have hk' : k = cN u := by omega
      simp [f25]
      refine hN (i + 1) _ (by omega) ⟨by omega, by simp [f1], by simp [f2], by simp [f7], by simp [f8], by simp [f24], by simp [wrap_nat1 (show i < _ by omega)], cs2, by simp [gh], gl, fun j h hj => ?_, fun j h hj => gz j h (by omega)⟩
      by_cases hji : j = i
      · subst hji
        rw [hk', List.take_of_length_le (by rw [rowU_len]; exact Nat.le_refl _)] at go
        rcases go.inv with ⟨_, h2⟩ | ⟨xs, k', h1, _, h3, _⟩
        · have := congrArg List.length h2
          rw [ints_len, rowU_len, List.length_nil] at this
          omega
        · exact ⟨k', by rw [h1, share_ints_inv h3]⟩
      · exact gd j h (by omega)
  · have hi' : i = rN u := by omega
    subst hi'
    simp [e2, e8, ben_f u, c0, w2]
    have hfr : (frzL s.hs.heap 2 (.msl false 1 q 0 (rN u) true)).share = madV (mU u most) := by
      rw [frzL_msl hh (mcont_full hl)]
      simp only [if_true, share_sl, madV, capshare_e, List.map_map]
      congr 1
      apply List.ext_getElem
      · simp [hl, mU_len]
      · intro j h1 h2
        have h3 : j < cs.length := by simpa using h1
        obtain ⟨k, hk⟩ := hd j h3 (by omega)
        have : frzC (frzL s.hs.heap 1) (.sl 1 (ints (rowU u most j)) (.own k)) = .sl 1 (ints (rowU u most j)) (.own k) := frzC_noM (noM_ints _ _ _) rfl
        simp [hk, this, mU, shR]
    simpa using hfr
end Go.Proofs.Ytokgpcdbpkginaa
set_option linter.unusedVariables false
set_option linter.unusedSimpArgs false
namespace Go.Proofs.Ytokgpcdbpkginaa
open Go Fw

/-- a work whose hours may be more than a work's -/
structure OkG (m : List (List Int)) : Prop where
  r1 : 1 ≤ m.length
  r6 : m.length ≤ 6
  c1 : 1 ≤ (m.getD 0 []).length
  c6 : (m.getD 0 []).length ≤ 6
  row : ∀ r ∈ m, r.length = (m.getD 0 []).length
  bd : ∀ r ∈ m, ∀ h ∈ r, 0 ≤ h ∧ h ≤ 1000
theorem OkW.g {m : List (List Int)} (h : OkW m) : OkG m := ⟨h.r1, h.r6, h.c1, h.c6, h.row, fun r hr n hn => by have := h.bd r hr n hn; omega⟩
theorem OkG.rows {m : List (List Int)} (h : OkG m) {x : AV} {R : Nat → AV} (hx : IsM x m R) {i : Nat} (hi : i < m.length) : asI (R i) = some m[i] :=
  rowI_ne (hx.row i hi) (by have := h.row m[i] (List.getElem_mem _); have := h.c1; omega)
theorem OkG.len {m : List (List Int)} (h : OkG m) {i : Nat} (hi : i < m.length) : (m[i]).length = cols m := h.row m[i] (List.getElem_mem _)
theorem OkG.art {m : List (List Int)} (h : OkG m) : ∀ n ∈ arts m, 0 ≤ n ∧ n ≤ 6000 := by
  intro n hn
  obtain ⟨r, hr, rfl⟩ := List.mem_map.1 hn
  have := sum_bd (b := 1000) (h.bd r hr)
  have h1 := h.row r hr
  have h2 := h.c6
  omega
theorem OkG.el {m : List (List Int)} (h : OkG m) {r : List Int} (hr : r ∈ m) (k : Nat) : 0 ≤ r.getD k 0 ∧ r.getD k 0 ≤ 1000 := by
  rcases Nat.lt_or_ge k r.length with h' | h'
  · have := h.bd r hr r[k] (List.getElem_mem _)
    simpa [List.getD, h'] using this
  · simp [List.getD, List.getElem?_eq_none h']
theorem OkG.tot {m : List (List Int)} (h : OkG m) : 0 ≤ tot m ∧ tot m ≤ 36000 := by
  have := sum_bd (l := arts m) (b := 6000) h.art
  have h2 := h.r6
  rw [arts_len] at this
  unfold Ytokgpcdbpkginaa.tot
  omega
theorem colG_bd {m : List (List Int)} (h : OkG m) (k i : Nat) : 0 ≤ colT m k i ∧ colT m k i ≤ 6000 := by
  have := sum_bd (b := 1000) (l := (m.take i).map fun r => r.getD k 0) (fun n hn => by
    obtain ⟨r, hr, rfl⟩ := List.mem_map.1 hn
    exact h.el (List.mem_of_mem_take hr) k)
  have h2 := h.r6
  rw [List.length_map, List.length_take] at this
  unfold colT
  have h3 : (min i m.length : Nat) ≤ 6 := by omega
  omega
/-- machines' sums under way: i rows, and k numbers of the next one -/
def mcT (m : List (List Int)) (i k : Nat) : List Int := (List.range (cols m)).map fun j => colT m j i + if j < k then (m.getD i []).getD j 0 else 0
theorem mcT_len (m : List (List Int)) (i k : Nat) : (mcT m i k).length = cols m := by simp [mcT]
theorem mcT_get {m : List (List Int)} {i k j : Nat} (h : j < (mcT m i k).length) : (mcT m i k)[j] = colT m j i + if j < k then (m.getD i []).getD j 0 else 0 := by simp [mcT]
theorem mcT_00 (m : List (List Int)) : mcT m 0 0 = List.replicate (cols m) 0 := by
  rw [mcT, List.eq_replicate_iff]
  refine ⟨by simp, fun b hb => ?_⟩
  obtain ⟨j, _, rfl⟩ := List.mem_map.1 hb
  simp [colT]
theorem mcT_row {m : List (List Int)} {i : Nat} (hi : i < m.length) : mcT m i (cols m) = mcT m (i + 1) 0 := by
  unfold mcT
  apply List.map_congr_left
  intro j hj
  have hj := List.mem_range.1 hj
  have : m.getD i [] = m[i] := by simp [List.getD, hi]
  simp [hj, colT_s hi, List.getElem?_eq_getElem hi]
theorem mcT_set {m : List (List Int)} {i k : Nat} {v : Int} (hk : k < cols m) (hv : v = colT m k i + (m.getD i []).getD k 0) : (mcT m i k).set k v = mcT m i (k + 1) := by
  apply List.ext_getElem
  · simp [mcT_len]
  · intro j h1 h2
    rw [List.getElem_set, mcT_get]
    split
    · rename_i e; subst e; rw [mcT_get, hv, if_pos (by omega)]
    · rename_i e
      rw [mcT_get]
      congr 1
      by_cases h : j < k
      · rw [if_pos h, if_pos (by omega)]
      · rw [if_neg h, if_neg (by omega)]
theorem mcT_end (m : List (List Int)) : mcT m m.length 0 = machs m := by
  unfold mcT machs
  apply List.map_congr_left
  intro j _
  simp [colT, colN]
theorem rowT_bd {m : List (List Int)} (h : OkG m) {i : Nat} (hi : i < m.length) (k : Nat) : 0 ≤ ((m[i]).take k).sum ∧ ((m[i]).take k).sum ≤ 6000 := by
  have h1 := sum_le (l := m[i]) (fun n hn => (h.bd _ (List.getElem_mem hi) n hn).1) k
  have h2 := h.art (m[i]).sum (List.mem_map.2 ⟨_, List.getElem_mem hi, rfl⟩)
  omega
theorem totT_bd {m : List (List Int)} (h : OkG m) (i : Nat) : 0 ≤ ((arts m).take i).sum ∧ ((arts m).take i).sum ≤ 36000 := by
  have h1 := sum_le (l := arts m) (fun n hn => (h.art n hn).1) i
  have h2 := h.tot
  unfold tot at h2
  omega
structure BdsR (m : List (List Int)) (hs : HS) (a : AV) (hs' : HS) : Prop where
  out : Outs 1 hs' a (ints (arts m))
  cell : hs'.heap hs.nh = some (ints (machs m))
  nh : hs'.nh = hs.nh + 1
  old : ∀ j, j < hs.nh → hs'.heap j = hs.heap j
def bdsV (m : List (List Int)) (q : Nat) (a : AV) : AV := .tup [a, .msl false 1 q 0 (cols m) true, .int .i64 (tot m)]
theorem g35 {x : AV} {m : List (List Int)} {R : Nat → AV} (hx : IsM x m R) (hw : OkG m) (hs : HS) :
    FCall Try.prog 35 [x] hs fun e hs' => ∃ a, e = .ret (bdsV m hs.nh a) ∧ BdsR m hs a hs' := by
  have hr1 := hw.r1
  have hr6 := hw.r6
  have hc1 := hw.c1
  have hc6 := hw.c6
  have hcol : cols m = (m.getD 0 []).length := rfl
  refine FCall.ofAt D0ok ok35 (by simp) ?_
  have h0 : 0 < m.length := by omega
  have rl0 : alenK false (R 0) = some (.int .i64 (cols m : Int)) := by rw [hx.rlen h0, hw.len h0]
  have hmk : amake false 1 [.int .i64 0] hs (.int .i64 (cols m : Int)) (.int .i64 (cols m : Int)) = some (.msl false 1 hs.nh 0 (cols m) true, hs.blk (List.replicate (cols m) (.int .i64 0))) := amake_eq (by omega)
  rw [ints_rep, ← mcT_00] at hmk
  generalize hq : hs.nh = q at *
  have hc0 : (hs.blk (ints (mcT m 0 0))).heap q = some (ints (mcT m 0 0)) := by rw [← hq, HS.blk_new]
  have hold : ∀ j, j < q → (hs.blk (ints (mcT m 0 0))).heap j = hs.heap j := fun j hj => HS.blk_old (by omega)
  have hnh : (hs.blk (ints (mcT m 0 0))).nh = q + 1 := by rw [HS.blk_nh, hq]
  generalize hs.blk (ints (mcT m 0 0)) = hs0 at *
  simp [A35, R35, hx.get0 h0, hx.ld h0, rl0, hmk, hx.len]
  refine At.loop (fun (i : Nat) s => i ≤ m.length ∧ s.env 0 = x ∧ s.env 3 = .msl false 1 q 0 (cols m) true ∧ s.env 4 = .int .i64 ((arts m).take i).sum ∧ s.env 15 = x ∧ s.env 16 = .int .i64 (m.length : Int) ∧ s.env 17 = .int .i64 (i : Int) ∧
    s.hs.heap q = some (ints (mcT m i 0)) ∧ s.hs.nh = q + 1 ∧ (∀ j, j < q → s.hs.heap j = hs.heap j) ∧ Outs 1 s.hs (s.env 2) (ints ((arts m).take i))) (fun i => m.length - i) 0 ?_ ?_
  · exact ⟨by omega, by simp, by simp, by simp, by simp, by simp, by simp, by simp [hc0], by simp [hnh], fun j hj => by simp [hold j hj], by simpa using Outs.nil⟩
  rintro N i s hN ⟨hi, e0, e3, e4, e15, e16, e17, hh, hn, ho, hu⟩
  simp [e16, e17]
  refine At.dec (fun hlt => ?_) (fun hlt => ?_)
  · have hi' : i < m.length := by omega
    have hrow := hw.rows hx hi'
    have hrl := hw.len hi'
    simp [e15, e17, hx.get hi', hx.ld hi', alen_of hrow, hrl]
    refine At.loop (fun (k : Nat) s => k ≤ cols m ∧ s.env 0 = x ∧ s.env 3 = .msl false 1 q 0 (cols m) true ∧ s.env 4 = .int .i64 ((arts m).take i).sum ∧ s.env 15 = x ∧ s.env 16 = .int .i64 (m.length : Int) ∧ s.env 17 = .int .i64 (i : Int) ∧ s.env 7 = .int .i64 ((m[i]).take k).sum ∧ s.env 21 = R i ∧ s.env 22 = .int .i64 (cols m : Int) ∧ s.env 23 = .int .i64 (k : Int) ∧
      s.hs.heap q = some (ints (mcT m i k)) ∧ s.hs.nh = q + 1 ∧ (∀ j, j < q → s.hs.heap j = hs.heap j) ∧ Outs 1 s.hs (s.env 2) (ints ((arts m).take i))) (fun k => cols m - k) 0 ?_ ?_
    · exact ⟨by omega, by simp [e0], by simp [e3], by simp [e4], by simp [e15], by simp [e16], by simp [e17], by simp, by simp, by simp, by simp, by simp [hh], by simp [hn], fun j hj => by simp [ho j hj], by simpa using hu⟩
    rintro N2 k s2 hN2 ⟨hk, f0, f3, f4, f15, f16, f17, f7, f21, f22, f23, gh, gn, go, gu⟩
    simp [f22, f23]
    refine At.dec (fun hlt2 => ?_) (fun hlt2 => ?_)
    · have hk' : k < cols m := by omega
      have hkr : k < (m[i]).length := by omega
      have x1 : aidxS 1 (.msl false 1 q 0 (cols m) true) (.int .i64 (k : Int)) = some (.ref q k) := aidx_msln hk'
      have hkm : k < (ints (mcT m i k)).length := by rw [ints_len, mcT_len]; exact hk'
      have ld : aload s2.hs.heap false 1 (.ref q k) = some (.int .i64 ((mcT m i k)[k]'(by rw [mcT_len]; exact hk'))) := by
        rw [load_cell gh hkm]; simp [ints]
      have hv : (mcT m i k)[k]'(by rw [mcT_len]; exact hk') = colT m k i := by rw [mcT_get]; simp
      rw [hv] at ld
      have gE : (m.getD i []).getD k 0 = (m[i])[k] := by simp [List.getD, hi', hkr]
      have bE := hw.bd _ (List.getElem_mem hi') (m[i])[k] (List.getElem_mem hkr)
      have bC := colG_bd hw k i
      have wc : IntKind.i64.wrap (colT m k i + (m[i])[k]) = colT m k i + (m[i])[k] := wrap64 (by omega) (by omega)
      have bR := rowT_bd hw hi' k
      have wr : IntKind.i64.wrap (((m[i]).take k).sum + (m[i])[k]) = ((m[i]).take k).sum + (m[i])[k] := wrap64 (by omega) (by omega)
      have st : astore s2.hs.heap 1 (.ref q k) (.int .i64 (colT m k i + (m[i])[k])) = some (fun z => if z = q then some (ints (mcT m i (k + 1))) else s2.hs.heap z) := by
        rw [store_cell gh hkm rfl, ints_set, mcT_set hk' (by rw [gE])]
      simp [f3, f7, f21, f23, x1, ld, wc, wr, aidx_nat hrow hkr, st]
      refine hN2 (k + 1) _ (by omega) ⟨by omega, by simp [f0], by simp [f3], by simp [f4], by simp [f15], by simp [f16], by simp [f17], by simp [sum_take hkr], by simp [f21], by simp [f22], by simp [wrap_nat1 (show k < _ by omega)], by simp, by simp [gn], fun j hj => ?_, ?_⟩
      · simp [go j hj, Nat.ne_of_lt hj]
      · have := gu.cong (hs' := { s2.hs with heap := fun z => if z = q then some (ints (mcT m i (k + 1))) else s2.hs.heap z }) rfl rfl
        simpa using this
    · have hk' : k = cols m := by omega
      subst hk'
      rw [show (m[i]).take (cols m) = m[i] from List.take_of_length_le (by omega)] at f7
      have hia : i < (arts m).length := by rw [arts_len]; exact hi'
      have hai : (arts m)[i] = (m[i]).sum := by simp [arts]
      have htl : ((arts m).take i).length ≤ 1000000 := by rw [List.length_take, arts_len]; omega
      obtain ⟨y, hs', ap, o2, sm⟩ := gu.add1 htl (m[i]).sum
      have hn2 : (arts m).take i ++ [(m[i]).sum] = (arts m).take (i + 1) := by rw [take_snoc hia, hai]
      rw [hn2] at o2
      have b1 := totT_bd hw (i + 1)
      rw [sum_take hia, hai] at b1
      have wt : IntKind.i64.wrap (((arts m).take i).sum + (m[i]).sum) = ((arts m).take i).sum + (m[i]).sum := wrap64 (by omega) (by omega)
      simp [f4, f7, f17, astoAll, si, ci, ap, wt]
      refine hN (i + 1) _ (by omega) ⟨by omega, by simp [f0], by simp [f3], by simp [sum_take hia, hai], by simp [f15], by simp [f16], by simp [wrap_nat1 (show i < _ by omega)], by simp [sm.heap, gh, mcT_row hi'], by simp [sm.nh, gn], fun j hj => by simp [sm.heap, go j hj], by simpa using o2⟩
  · have hi' : i = m.length := by omega
    subst hi'
    rw [mcT_end] at hh
    rw [show (arts m).take m.length = arts m from List.take_of_length_le (by rw [arts_len]; exact Nat.le_refl _)] at hu e4
    simp [e3, e4]
    exact At.of ⟨s.env 2, rfl, hu, by rw [hq]; exact hh, by rw [hq]; exact hn, fun j hj => ho j (by omega)⟩
theorem p35 {x : AV} {m : List (List Int)} {R : Nat → AV} (hx : IsM x m R) (hw : OkW m) (hs : HS) :
    FCall Try.prog 35 [x] hs fun e hs' => ∃ a, e = .ret (bdsV m hs.nh a) ∧ BdsR m hs a hs' := g35 hx hw.g hs
end Go.Proofs.Ytokgpcdbpkginaa
set_option linter.unusedVariables false
set_option linter.unusedSimpArgs false
namespace Go.Proofs.Ytokgpcdbpkginaa
open Go Fw

theorem ints_app (l l2 : List Int) : ints l ++ ints l2 = ints (l ++ l2) := by simp [ints]
theorem app_rd {hs : HS} {x q : AV} {l l2 : List Int} {n : Nat} (h : Outs 1 hs x (ints l)) (hq : RdI n hs.heap q l2) (hl : l.length + l2.length ≤ 1000000) :
    ∃ y hs', aappend 1 hs x q = some (y, hs') ∧ Outs 1 hs' y (ints (l ++ l2)) ∧ SameMem hs hs' := by
  obtain ⟨q1, q2⟩ := hq.elems
  have hne : ints l2 = [] ↔ l2 = [] := by simp [ints]
  rcases h.inv with ⟨rfl, h2⟩ | ⟨xs, k, rfl, htk, h2, h3⟩
  · have hl0 : l = [] := by simpa [ints] using h2
    subst hl0
    unfold aappend
    rw [q1, show aelemsH hs.heap .nilsl = some [] from rfl]
    simp only [q2]
    rw [if_pos ⟨rfl, trivial, by simp only [List.length_nil, ints_len]; omega⟩]
    by_cases e : l2 = []
    · subst e
      exact ⟨_, _, rfl, .nil, .refl _⟩
    · rw [if_neg (fun h => e (hne.1 h))]
      refine ⟨_, _, rfl, ⟨by simp [Fresh], ?_⟩, ⟨rfl, rfl⟩⟩
      rw [outV_ne (fun h => e (by simpa using hne.1 h))]
      simp [share_ints]
  · have hx := share_ints_inv h2
    subst hx
    unfold aappend
    rw [q1, show aelemsH hs.heap (.sl 1 (ints l) (.own k)) = some (ints l) from rfl]
    simp only [q2]
    rw [if_pos ⟨rfl, trivial, by simp only [ints_len]; omega⟩]
    by_cases e : l2 = []
    · subst e
      exact ⟨_, _, rfl, by simpa using h, .refl _⟩
    · rw [if_neg (fun h => e (hne.1 h)), if_pos htk.1]
      refine ⟨_, _, rfl, ⟨by simp [Fresh], ?_⟩, ⟨rfl, rfl⟩⟩
      rw [outV_ne (by simp [ints, e]), share_sl, List.map_append, share_ints, share_ints, capshare_o, ints_app]
theorem gtr_mx (a b : Int) (l : List Int) : gtr (max a b) l = max a (gtr b l) := gtr_max l a b
theorem upG_bd {m : List (List Int)} (hw : OkG m) {seats : Int} (hse : 1 ≤ seats ∧ seats ≤ 6) : 0 ≤ upN m seats ∧ upN m seats ≤ 36005 := by
  have ht := hw.tot
  unfold upN
  have h1 : 0 ≤ (tot m + seats - 1) / seats := Int.ediv_nonneg (by omega) (by omega)
  have h2 : (tot m + seats - 1) / seats ≤ tot m + seats - 1 := Int.ediv_le_self _ (by omega)
  omega
theorem gtr_short {m : List (List Int)} (hw : OkG m) {seats : Int} (hse : 1 ≤ seats ∧ seats ≤ 6) : gtr (upN m seats) (arts m ++ machs m) = short m seats := by
  have hu := upG_bd hw hse
  have h1 := gtr_mx (upN m seats) 0 (arts m)
  rw [show max (upN m seats) 0 = upN m seats by omega] at h1
  have h2 := gtr_mx (max (upN m seats) (gtr 0 (arts m))) 0 (machs m)
  rw [show max (max (upN m seats) (gtr 0 (arts m))) 0 = max (upN m seats) (gtr 0 (arts m)) by omega] at h2
  rw [gtr_app, h1, h2]
  unfold short
  omega
theorem gtr_line {m : List (List Int)} : gtr 0 (arts m ++ machs m) = max (gtr 0 (arts m)) (gtr 0 (machs m)) := by
  have h1 := gtr_ge (arts m) 0
  have h2 := gtr_mx (gtr 0 (arts m)) 0 (machs m)
  rw [show max (gtr 0 (arts m)) 0 = gtr 0 (arts m) by omega] at h2
  rw [gtr_app, h2]
theorem g33 {x : AV} {m : List (List Int)} {R : Nat → AV} (hx : IsM x m R) (hw : OkG m) {seats : Int} (hse : 1 ≤ seats ∧ seats ≤ 6) : PCall Try.prog 33 [x, .int .i64 seats] (.int .i64 (short m seats)) := by
  refine PCall.of D0ok ok33 (by simp) rfl fun hs hb => ?_
  simp [A33, R33]
  refine At.hc (g35 hx hw hs) ?_ (fun v hs' ⟨a, h, _⟩ => by cases h)
  rintro v hs' ⟨a, hv, hB⟩
  injection hv with hv; subst hv
  have ht := hw.tot
  have hse0 : ¬ seats = 0 := by omega
  have w1 : IntKind.i64.wrap (tot m + seats) = tot m + seats := wrap64 (by omega) (by omega)
  have w2 : IntKind.i64.wrap (tot m + seats - 1) = tot m + seats - 1 := wrap64 (by omega) (by omega)
  have w3 : (tot m + seats - 1).tdiv seats = upN m seats := Int.tdiv_eq_ediv_of_nonneg (by omega)
  have hu := upG_bd hw hse
  have w4 : IntKind.i64.wrap (upN m seats) = upN m seats := wrap64 (by omega) (by omega)
  have al := arts_len m
  have ml := machs_len m
  have hr6 := hw.r6
  have hc6 : cols m ≤ 6 := hw.c6
  have hrd : RdI (hs.nh + 1) hs'.heap (.msl false 1 hs.nh 0 (cols m) true) (machs m) := ⟨by omega, .inr (.inr ⟨hs.nh, true, by rw [ml], by omega, hB.cell⟩)⟩
  obtain ⟨y, hs2, ap, o2, sm⟩ := app_rd hB.out hrd (by omega)
  have hy := o2.asI (by simp; omega)
  generalize hL : arts m ++ machs m = L at *
  have hLl : L.length ≤ 12 := by rw [← hL]; simp; omega
  simp [bdsV, w1, w2, hse0, w3, w4, ap, alen_of hy]
  refine At.loop (fun (i : Nat) s => i ≤ L.length ∧ s.env 8 = .int .i64 (gtr (upN m seats) (L.take i)) ∧ s.env 25 = y ∧ s.env 26 = .int .i64 (L.length : Int) ∧ s.env 27 = .int .i64 (i : Int)) (fun i => L.length - i) 0 ?_ ?_
  · exact ⟨by omega, by simp [gtr], by simp, by simp, by simp⟩
  rintro N i s hN ⟨hi, e8, e25, e26, e27⟩
  simp [e26, e27]
  refine At.dec (fun hlt => ?_) (fun hlt => ?_)
  · have hi' : i < L.length := by omega
    simp [e8, e25, e27, aidx_nat hy hi']
    refine hN (i + 1) _ (by omega) ⟨by omega, by simp [gtr_snoc hi', Int.max_def], by simp [e25], by simp [e26], by simp [wrap_nat1 (show i < _ by omega)]⟩
  · have : i = L.length := by omega
    subst this
    have := gtr_short hw hse
    rw [hL] at this
    simp [e8, this]
theorem p33 {x : AV} {m : List (List Int)} {R : Nat → AV} (hx : IsM x m R) (hw : OkW m) {seats : Int} (hse : 1 ≤ seats ∧ seats ≤ 6) : PCall Try.prog 33 [x, .int .i64 seats] (.int .i64 (short m seats)) := g33 hx hw.g hse
end Go.Proofs.Ytokgpcdbpkginaa
set_option linter.unusedVariables false
set_option linter.unusedSimpArgs false
namespace Go.Proofs.Ytokgpcdbpkginaa
open Go Fw

theorem upN_le {m : List (List Int)} {s t : Int} (hs : 1 ≤ s) : upN m s ≤ t ↔ tot m ≤ s * t := by
  unfold upN
  have h := @Int.ediv_lt_iff_lt_mul (tot m + s - 1) (t + 1) s (by omega)
  rw [Int.add_mul, Int.one_mul, Int.mul_comm t s] at h
  omega
theorem tot_arts {m : List (List Int)} (hw : OkW m) : tot m ≤ m.length * maxL m := by
  have := sum_bd (l := arts m) (b := maxL m) (fun n hn => ⟨(hw.art n hn).1, by have := gtr_el (a := 0) hn; unfold maxL; omega⟩)
  rw [arts_len] at this
  exact this.2
theorem tot_machs {m : List (List Int)} (hw : OkW m) : tot m ≤ cols m * maxL m := by
  have := sum_bd (l := machs m) (b := maxL m) (fun n hn => ⟨(hw.mach n hn).1, by have := gtr_el (a := 0) hn; unfold maxL; omega⟩)
  rw [machs_len, hw.tot2] at this
  exact this.2
theorem short_eq (m : List (List Int)) (s : Int) : short m s = max (maxL m) (upN m s) := rfl
theorem short_many {m : List (List Int)} (hw : OkW m) {s : Int} (hs : (m.length : Int) ≤ s ∨ (cols m : Int) ≤ s) : short m s = maxL m := by
  have h1 := tot_arts hw
  have h2 := tot_machs hw
  have h0 := (maxL_bd hw).1
  have hr := hw.r1
  have hc : 1 ≤ cols m := hw.c1
  have : tot m ≤ s * maxL m := by
    rcases hs with h | h
    · exact Int.le_trans h1 (Int.mul_le_mul_of_nonneg_right h h0)
    · exact Int.le_trans h2 (Int.mul_le_mul_of_nonneg_right h h0)
  have := (upN_le (m := m) (s := s) (t := maxL m) (by omega)).2 this
  rw [short_eq]; omega
theorem el_sum {l : List Int} (h : ∀ n ∈ l, 0 ≤ n) {x : Int} (hx : x ∈ l) : x ≤ l.sum := by
  induction l with
  | nil => cases hx
  | cons a l ih =>
    have ha := h a (by simp)
    have hl := (sum_le (l := l) (fun n hn => h n (by simp [hn])) 0).1
    simp only [List.take_zero, List.sum_nil] at hl
    rw [List.sum_cons]
    rcases List.mem_cons.1 hx with rfl | hx
    · omega
    · have := ih (fun n hn => h n (by simp [hn])) hx
      omega
theorem maxL_tot {m : List (List Int)} (hw : OkW m) : maxL m ≤ tot m := by
  have ht := hw.tot.1
  have h1 : gtr 0 (arts m) ≤ tot m := gtr_bd ht fun n hn => el_sum (fun n hn => (hw.art n hn).1) hn
  have h2 : gtr 0 (machs m) ≤ tot m := gtr_bd ht fun n hn => by
    have := el_sum (fun n hn => (hw.mach n hn).1) hn
    rwa [hw.tot2] at this
  unfold maxL; omega
theorem short_one {m : List (List Int)} (hw : OkW m) : short m 1 = tot m := by
  have h1 := maxL_tot hw
  have : upN m 1 = tot m := by unfold upN; rw [Int.ediv_one]; omega
  rw [short_eq, this]; omega
theorem maxL_pos {m : List (List Int)} (hw : OkW m) (h : tot m ≠ 0) : 1 ≤ maxL m := by
  have := sum_le_mx (fun n hn => (hw.art n hn).1) h
  unfold maxL; omega
theorem eno_law {m : List (List Int)} (hw : OkW m) {s t : Int} (hs : 1 ≤ s) (ht : maxL m ≤ t) : short m s ≤ t ↔ ceilN (tot m) t ≤ s := by
  have h0 := (maxL_bd hw).1
  have htt := hw.tot.1
  rw [short_eq]
  have h1 := upN_le (m := m) (s := s) (t := t) hs
  have h2 : max (maxL m) (upN m s) ≤ t ↔ tot m ≤ s * t := by rw [← h1]; omega
  rw [h2]
  unfold ceilN
  split
  · rename_i h
    rw [h]
    have := Int.mul_nonneg (show 0 ≤ s by omega) (show 0 ≤ t by omega)
    omega
  · rename_i h
    have hp := maxL_pos hw h
    have h3 := @Int.ediv_lt_iff_lt_mul (tot m - 1) s t (by omega)
    omega
theorem eno_6 {m : List (List Int)} (hw : OkW m) {t : Int} (ht : maxL m ≤ t) : 0 ≤ ceilN (tot m) t ∧ ceilN (tot m) t ≤ 6 := by
  have h0 := (maxL_bd hw).1
  refine ⟨(ceil_bd hw.tot fun h => by have := maxL_pos hw h; omega).1, ?_⟩
  refine (eno_law hw (by omega) ht).1 ?_
  rw [short_many hw (s := 6) (.inl (by have := hw.r6; omega))]
  exact ht
theorem ceil_z {n t : Int} (hn : 0 ≤ n) (ht : n ≠ 0 → 1 ≤ t) : ceilN n t = 0 ↔ n = 0 := by
  unfold ceilN
  split
  · rename_i h; simp [h]
  · rename_i h
    have := ht h
    have h2 : 0 ≤ (n - 1) / t := Int.ediv_nonneg (by omega) (by omega)
    omega

/-- Shortest at one work, with any seats -/
theorem ctx32s {C : PCtx} (hC : CtxOk Try.prog C) {x : AV} {m : List (List Int)} {R : Nat → AV} (hx : IsM x m R) : ∃ C', CtxOk Try.prog C' ∧ (∀ s : Int, C' 32 [x, .int .i64 s] = some (shV m s)) ∧ ∀ g, ¬ g = 32 → C' g = C g := by
  refine ⟨C.fam (ι := Int) 32 (fun s => [x, .int .i64 s]) (fun s => shV m s), hC.fam fun s => p32 hx s, fun s => ?_, fun g hg => funext fun b => fam_ne hg⟩
  refine fam_eq (g := fun s : Int => [x, .int .i64 s]) (r := fun s => shV m s) (fun i j e => ?_) s
  injection e with _ e
  injection e with e _
  injection e with _ e
  rw [e]
theorem shV_ok {m : List (List Int)} (hw : OkW m) {s : Int} (hs : 1 ≤ s ∧ s ≤ 6) : shV m s = .tup [.int .i64 (short m s), .int .i64 0] := by
  rw [shV, if_pos (chsE_zero.2 ⟨hw, hs⟩)]
/-- a walk over two lists of sums that finds the greatest number -/
theorem p9 (u : Nat → Nat) (hu : ∀ j, u j < 256) (L : Nat) (hL : L < 256) : PCall Try.prog 9 [benV u, .int .u8 (L : Int)] (.bool true) := by
  have q30 := p30 u hu (most := 7) (by omega)
  have hx := isMU u 7
  have hw := mU_ok u (most := 7) (by omega)
  have hb9 := sN_bd u
  have hml := mU_len u 7
  have hr4 := rN_bd u
  have hc4 : cols (mU u 7) ≤ 4 := by have := hw.len (i := 0) (by omega); rw [mU_get, rowU_len] at this; have := cN_bd u; omega
  have q27 := p27 hx (t := ((L % 40 : Nat) : Int)) (by omega)
  generalize hM : mU u 7 = m at *
  generalize hX : madV m = x at *
  obtain ⟨C, hC, k32, n32⟩ := ctx32s (((D0ok.pt q30).pt q27).pt p15) hx
  obtain ⟨E, hE, e30, e27, e15, a32⟩ : ∃ E, CtxOk Try.prog E ∧ E 30 [benV u, .int .i64 7] = some (.tup [x, .int .i64 (sN u : Int)]) ∧ E 27 [x, .int .i64 ((L % 40 : Nat) : Int)] = some (enoV m ((L % 40 : Nat) : Int)) ∧ E 15 [] = some (.bool true) ∧
      (∀ hs (s : Int), 1 ≤ s ∧ s ≤ 6 → alcall E 32 hs [x, .int .i64 s] = some (.tup [.int .i64 (short m s), .int .i64 0])) := by
    refine ⟨C, hC, by rw [n32 30 (by decide)]; simp, by rw [n32 27 (by decide)]; simp, by rw [n32 15 (by decide)]; simp, fun hs s h => alcall_of (by simp [hx.frz, k32, shV_ok hw h]) rfl⟩
  refine PCall.of hE ok9 (by simp) rfl fun hs hb => ?_
  have hsto : (benV u).sto = true := rfl
  simp [A9, R9, hsto, ben_l, e30]
  refine At.hc (p35 hx hw _) ?_ (fun v hs' ⟨a, h, _⟩ => by cases h)
  rintro v hs1 ⟨a, hv, hB⟩
  injection hv with hv; subst hv
  simp at hB
  have al := arts_len m
  have ml := machs_len m
  have hr6 := hw.r6
  have hr1 := hw.r1
  have hc1 : 1 ≤ cols m := hw.c1
  have ha := hB.out.asI (by omega)
  obtain ⟨y1, hs2, ap1, o1, sm1, kt1⟩ := copy_outs (hs := hs1) ha (by intro h; rw [h] at al; simp at al; omega) (by omega)
  have hrd : RdI (hs.nh + 1) hs2.heap (.msl false 1 hs.nh 0 (cols m) true) (machs m) := ⟨by omega, .inr (.inr ⟨hs.nh, true, by rw [ml], by omega, by rw [sm1.heap]; exact hB.cell⟩)⟩
  obtain ⟨y, hs3, ap2, o2, sm2⟩ := app_rd o1 hrd (by omega)
  have hy := o2.asI (by simp; omega)
  generalize hLL : arts m ++ machs m = LL at *
  have hLl : LL.length ≤ 12 := by rw [← hLL]; simp; omega
  simp [bdsV, astoAll, ap1, ap2, alen_of hy]
  refine At.loop (fun (i : Nat) s => i ≤ LL.length ∧ s.env 1 = .int .u8 (L : Int) ∧ s.env 5 = x ∧ s.env 7 = a ∧ s.env 8 = .msl false 1 hs.nh 0 (cols m) true ∧ s.env 9 = .int .i64 (tot m) ∧ s.env 10 = .int .i64 (gtr 0 (LL.take i)) ∧ s.env 38 = y ∧ s.env 39 = .int .i64 (LL.length : Int) ∧ s.env 40 = .int .i64 (i : Int)) (fun i => LL.length - i) 0 ?_ ?_
  · exact ⟨by omega, by simp, by simp, by simp, by simp, by simp, by simp [gtr], by simp, by simp, by simp⟩
  rintro N i s hN ⟨hi, e1, e5, e7, e8, e9, e10, e38, e39, e40⟩
  simp [e39, e40]
  refine At.dec (fun hlt => ?_) (fun hlt => ?_)
  · have hi' : i < LL.length := by omega
    simp [e10, e38, e40, aidx_nat hy hi']
    refine hN (i + 1) _ (by omega) ⟨by omega, by simp [e1], by simp [e5], by simp [e7], by simp [e8], by simp [e9], by simp [gtr_snoc hi', Int.max_def], by simp [e38], by simp [e39], by simp [wrap_nat1 (show i < _ by omega)]⟩
  have hil : i = LL.length := by omega
  subst hil
  rw [List.take_length, ← hLL, gtr_line] at e10
  change s.env 10 = .int .i64 (maxL m) at e10
  have hmn : 1 ≤ (if m.length ≤ cols m then (m.length : Int) else (cols m : Int)) ∧ (if m.length ≤ cols m then (m.length : Int) else (cols m : Int)) ≤ 6 := by split <;> omega
  have hm1 := fun hs => a32 hs _ hmn
  have hsm : short m (if m.length ≤ cols m then (m.length : Int) else (cols m : Int)) = maxL m := short_many hw (by split <;> omega)
  have h11 := fun hs => a32 hs 1 (by omega)
  have hso := short_one hw
  have cL : IntKind.i64.wrap (L : Int) = L := wrap_nat (by omega)
  have cM : (L : Int).tmod 40 = ((L % 40 : Nat) : Int) := rfl
  have hT0 : (0 : Int) ≤ ((L % 40 : Nat) : Int) := by omega
  simp [e5, e7, e8, alen_of ha, al, hm1, hsm, h11, hso, e9, e10, e1, cL]
  rw [cM]
  generalize hT : ((L % 40 : Nat) : Int) = T at *
  simp [e5, e27]
  rcases Int.lt_or_le T (maxL m) with hlt2 | hge
  · rw [enoV_14 (chkE_zero.2 hw) (by omega) hlt2]
    simp [e10, hlt2, e15]
  · rw [enoV_ok (chkE_zero.2 hw) (by omega) (by omega)]
    have h6 := eno_6 hw hge
    have hlaw : ∀ s : Int, 1 ≤ s → (short m s ≤ T ↔ ceilN (tot m) T ≤ s) := fun s h => eno_law hw h hge
    have hz := ceil_z (n := tot m) (t := T) hw.tot.1 (fun h => by have := maxL_pos hw h; omega)
    generalize ceilN (tot m) T = c at *
    have hT5 : ¬ T < maxL m := by omega
    have hc0 : ¬ c < 0 := by omega
    have hc6 : ¬ 6 < c := by omega
    simp [e10, hT5, hc0, hc6]
    refine At.loop (fun (i : Nat) s => 1 ≤ i ∧ i ≤ 7 ∧ s.env 5 = x ∧ s.env 9 = .int .i64 (tot m) ∧ s.env 17 = .int .i64 T ∧ s.env 18 = .int .i64 c ∧ s.env 20 = .int .i64 (i : Int)) (fun i => 7 - i) 1 ?_ ?_
    · exact ⟨by omega, by omega, by simp [e5], by simp [e9], by simp, by simp, by simp⟩
    rintro N2 i s2 hN2 ⟨hi1, hi7, f5, f9, f17, f18, f20⟩
    simp [f20]
    refine At.dec (fun hlt3 => ?_) (fun hlt3 => ?_)
    · have h32 := fun hs => a32 hs (i : Int) (by omega)
      have hl := hlaw (i : Int) (by omega)
      simp [f5, f17, f18, f20, h32]
      by_cases hc : c ≤ (i : Int)
      · have hs := hl.2 hc
        simp [hc, hs, f20]
        refine hN2 (i + 1) _ (by omega) ⟨by omega, by omega, by simp [f5], by simp [f9], by simp [f17], by simp [f18], by simp [wrap_nat1 (show i < _ by omega)]⟩
      · have hs : ¬ short m (i : Int) ≤ T := fun h => hc (hl.1 h)
        simp [hc, hs, f20]
        refine hN2 (i + 1) _ (by omega) ⟨by omega, by omega, by simp [f5], by simp [f9], by simp [f17], by simp [f18], by simp [wrap_nat1 (show i < _ by omega)]⟩
    · by_cases h0 : tot m = 0
      · have := hz.2 h0
        simp [f18, f9, h0, this, e15]
      · have : ¬ c = 0 := fun h => h0 (hz.1 h)
        simp [f18, f9, h0, this, e15]
end Go.Proofs.Ytokgpcdbpkginaa
set_option linter.unusedVariables false
set_option linter.unusedSimpArgs false
namespace Go.Proofs.Ytokgpcdbpkginaa
open Go Fw

def TBe : Ty := .st (.fcons (.int .u8) (.fcons (.int .u8) (.fcons (.int .u8) (.fcons (.ar 16 (.int .u8)) .fnil))))
theorem u8_wf {n : Int} (h : (Lit.int .u8 n).wf = true) : 0 ≤ n ∧ n < 256 := by
  have h : IntKind.u8.min ≤ n ∧ n ≤ IntKind.u8.max := by simpa [Lit.wf] using h
  rw [show IntKind.u8.min = 0 by decide, show IntKind.u8.max = 255 by decide] at h
  omega
theorem u8_flat : ∀ {ls : List (List AV)}, (∀ l ∈ ls, Sh (.int .u8) l) → ∃ ns : List Int, ls.flatten = ns.map (AV.int .u8) ∧ ns.length = ls.length ∧ ∀ n ∈ ns, 0 ≤ n ∧ n < 256
  | [], _ => ⟨[], rfl, rfl, fun n h => by simp at h⟩
  | l :: ls, h => by
    obtain ⟨ns, h1, h2, h3⟩ := u8_flat (ls := ls) fun l hl => h l (by simp [hl])
    obtain ⟨n, rfl, hn⟩ := sh_int (h l (by simp))
    refine ⟨n :: ns, by simp [h1], by simp [h2], fun k hk => ?_⟩
    rcases List.mem_cons.1 hk with rfl | hk
    · exact u8_wf hn
    · exact h3 k hk
theorem ben_typed {x : AV} (h : ShV TBe x) : ∃ u : Nat → Nat, (∀ j, u j < 256) ∧ x = benV u := by
  obtain ⟨cs, rfl, hc⟩ := shv_agg rfl h
  obtain ⟨_, r1, rfl, ⟨a, rfl, ha⟩, hc1⟩ := sh_cons (f := .int .u8) (r := .fcons (.int .u8) (.fcons (.int .u8) (.fcons (.ar 16 (.int .u8)) .fnil))) hc
  obtain ⟨_, r2, rfl, ⟨b, rfl, hb⟩, hc2⟩ := sh_cons hc1
  obtain ⟨_, r3, rfl, ⟨c, rfl, hd⟩, hc3⟩ := sh_cons hc2
  obtain ⟨_, r4, rfl, ⟨ls, rfl, hl, hls⟩, hc4⟩ := sh_cons hc3
  rw [sh_nil hc4]
  obtain ⟨ns, h1, h2, h3⟩ := u8_flat hls
  have ha := u8_wf ha
  have hb := u8_wf hb
  have hd := u8_wf hd
  let ms : List Int := a :: b :: c :: ns
  have hm : ∀ n ∈ ms, 0 ≤ n ∧ n < 256 := fun n hn => by
    simp only [ms, List.mem_cons] at hn
    rcases hn with rfl | rfl | rfl | hn
    · exact ha
    · exact hb
    · exact hd
    · exact h3 n hn
  have hml : ms.length = 19 := by simp [ms, h2, hl]
  refine ⟨fun j => (ms.getD j 0).toNat, fun j => ?_, ?_⟩
  · rcases Nat.lt_or_ge j ms.length with hj | hj
    · have := hm ms[j] (List.getElem_mem hj)
      simp only [List.getD_eq_getElem?_getD, List.getElem?_eq_getElem hj, Option.getD_some]
      omega
    · simp [List.getD, List.getElem?_eq_none hj]
  · have e : [AV.int .u8 a] ++ ([AV.int .u8 b] ++ ([AV.int .u8 c] ++ (ls.flatten ++ []))) = ms.map (AV.int .u8) := by rw [h1]; simp [ms]
    rw [e]
    unfold benV uL
    congr 1
    apply List.ext_getElem
    · simp [hml]
    · intro j h4 h5
      have hj : j < ms.length := by simpa using h4
      have := hm ms[j] (List.getElem_mem hj)
      simp only [List.getElem_map, List.getElem_range, List.getD_eq_getElem?_getD, List.getElem?_eq_getElem hj, Option.getD_some]
      rw [show ((ms[j].toNat : Nat) : Int) = ms[j] by omega]
theorem u8_typed {x : AV} (h : ShV (.int .u8) x) : ∃ n : Nat, n < 256 ∧ x = .int .u8 (n : Int) := by
  obtain ⟨n, rfl, hn⟩ := shv_int h
  have := u8_wf hn
  exact ⟨n.toNat, by omega, by rw [show ((n.toNat : Nat) : Int) = n by omega]⟩
theorem seats_typed (xs : List AV) (h : Typed [TBe, .int .u8] xs) : PCall Try.prog 9 xs (.bool true) := by
  obtain ⟨x, y, rfl, h1, h2⟩ := h.two
  obtain ⟨u, hu, rfl⟩ := ben_typed h1
  obtain ⟨n, hn, rfl⟩ := u8_typed h2
  exact p9 u hu n hn
end Go.Proofs.Ytokgpcdbpkginaa
