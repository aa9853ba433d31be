/-
  The laws of pairs, of what is seen, of places, and of arrows around a roller. Own work.
-/
import Derived.Test.YtokfmcjepkepjaaG2
set_option linter.unusedVariables false
set_option linter.unusedSimpArgs false
namespace Go.Proofs.Ytokfmcjepkepjaa
open Go Fw

structure LiR (v : AV) : Prop where
  ex : ∃ x e A, v = .tup [x, .int .i64 e] ∧ asI x = some A
theorem wiL_len (l : List Int) (is : Bool) : (wiL l is).length ≤ (lenN l).toNat := by
  unfold wiL
  rw [List.length_map]
  exact Nat.le_trans (List.length_filter_le _ _) (by simp)
theorem diR_li (l : List Int) (is : Bool) : LiR (diR l is) := by
  unfold diR
  split
  · rename_i he
    have := (chkE_zero.1 he).len60
    have h2 := wiL_len l is
    exact ⟨_, _, _, rfl, asI_outV (by omega)⟩
  · exact ⟨_, _, _, rfl, asI_nil⟩
theorem loL_len (l : List Int) (w : Int) (m : List Int) : (loL l w m).length ≤ 121 := by
  unfold loL loF
  rw [List.length_map]
  exact Nat.le_trans (List.length_filter_le _ _) (by simp)
theorem loR_li (l : List Int) (w : Int) (m : List Int) : LiR (loR l w m) := by
  unfold loR
  split
  · have := loL_len l w m
    exact ⟨_, _, _, rfl, asI_outV (by omega)⟩
  · exact ⟨_, _, _, rfl, asI_nil⟩
theorem plF_len (l : List Int) (most : Int) : (plF l most 0).length ≤ most.toNat + 1 := by
  unfold plF
  rw [List.length_map]
  exact Nat.le_trans (List.length_filter_le _ _) (by simp)
theorem plR_li (l : List Int) (most : Int) : LiR (plR l most) := by
  unfold plR
  split
  · rename_i he
    have : most.toNat ≤ 60 := by
      unfold plE at he
      repeat' split at he
      all_goals (try (simp at he; done))
      · rename_i hb
        have : 0 ≤ most ∧ most ≤ 60 := by simpa [btw] using hb
        omega
      · rename_i h; exact absurd he h
    have h2 := plF_len l most
    exact ⟨_, _, _, rfl, asI_outV (by omega)⟩
  · exact ⟨_, _, _, rfl, asI_nil⟩
theorem twiR_form (l : List Int) : ∃ e V, twiR l = twR e V := by
  unfold twiR
  split
  · exact ⟨_, _, rfl⟩
  · exact ⟨_, _, rfl⟩
theorem arR_form (l : List Int) (size : Int) : ∃ e V, arR l size = twR e V := by
  unfold arR
  split
  · exact ⟨_, _, rfl⟩
  · exact ⟨_, _, rfl⟩
theorem one_eq (V : Option (Pr × Pr)) : abin 6 .eql (.agg (one' V)) (.agg (one' V)) = some (.bool true) := by
  obtain ⟨a, b, h⟩ := one_len V
  rw [h, abin_pair]; simp
theorem two_eq (V : Option (Pr × Pr)) : abin 6 .eql (.agg (two' V)) (.agg (two' V)) = some (.bool true) := by
  obtain ⟨a, b, h⟩ := two_len V
  rw [h, abin_pair]; simp
theorem big40 {l : List Int} (h : 40 < l.length) : (40 : Int) < (l.length : Int) := by omega
theorem p3 {x : AV} {l : List Int} (hx : asI x = some l) : PCall Try.prog 3 [x] (.bool true) := by
  obtain ⟨e, V, hV⟩ := twiR_form l
  obtain ⟨⟨x1, e1, A1, h1, a1⟩⟩ := diR_li l true
  obtain ⟨⟨x2, e2, A2, h2, a2⟩⟩ := diR_li l false
  obtain ⟨C, hC, k16, k17, k18, k19, k20, k21, k22, k23, k24, k25⟩ : ∃ C, CtxOk Try.prog C ∧ C 16 [] = some (.bool true) ∧ C 17 [x] = some (twR e V) ∧ C 18 [x] = some (twR e V) ∧ C 19 [x] = some (.tup [x1, .int .i64 e1]) ∧ C 20 [x] = some (.tup [x1, .int .i64 e1]) ∧ C 21 [x] = some (.tup [x2, .int .i64 e2]) ∧ C 22 [x] = some (.tup [x2, .int .i64 e2]) ∧ C 23 = SNum ∧ C 24 [x] = some (.int .i64 (chkE l)) ∧ C 25 [x] = some (.int .i64 (chkE l)) :=
    ⟨_, ((((((((D2ok.pt p16).pt (hV ▸ p17 hx)).pt (hV ▸ p18 hx)).pt (h1 ▸ p19 hx)).pt (h1 ▸ p20 hx)).pt (h2 ▸ p21 hx)).pt (h2 ▸ p22 hx)).pt (p24 hx)).pt (p25 hx), by simp, by simp, by simp, by simp, by simp, by simp, by simp, by rw [← D2_23]; funext a; simp, by simp, by simp⟩
  have n1 := SNum_i a1 a1
  have n2 := SNum_i a2 a2
  refine PCall.of hC ok3 (by simp) rfl fun hs' hb => ?_
  generalize hr : hs'.nh = r
  have hne : ¬ r = r + 1 := by omega
  have ne2 : ¬ r = r + 1 + 1 := by omega
  have ne3 : ¬ r = r + 1 + 1 + 1 := by omega
  have ne4 : ¬ r + 1 = r + 1 + 1 + 1 := by omega
  by_cases h40 : 40 < l.length
  · have := big40 h40
    simp [A3, R3, alen_of hx, this, h40, k16]
  have h40' : ¬ ((40 : Int) < (l.length : Int)) := by omega
  simp [A3, R3, alen_of hx, h40, h40', k17, twR, hr]
  refine At.one none (by simp [one', zz, hne]) ?_
  simp
  refine At.tw2 none (by simp [two', zz, hne]) ?_
  simp [k18, twR]
  refine At.one none (by simp [one', zz]) ?_
  simp
  refine At.tw2 none (by simp [two', zz]) ?_
  simp [k19, k20, k21, k22, la, hne, ne2, ne3, ne4, one_ap, two_ap, one_eq, two_eq, k23, n1, n2, k24, k25, k16]
theorem p4 {x y : AV} {l m : List Int} (hx : asI x = some l) (hy : asI y = some m) (sh w : Int) : PCall Try.prog 4 [x, .int .i64 sh, .int .i64 w, y] (.bool true) := by
  obtain ⟨⟨x1, e1, A1, h1, a1⟩⟩ := loR_li l w m
  obtain ⟨C, hC, k16, k26, k27, k28, k29, k23⟩ : ∃ C, CtxOk Try.prog C ∧ C 16 [] = some (.bool true) ∧ C 26 [x, .int .i64 sh] = some (coR l sh) ∧ C 27 [x, .int .i64 sh] = some (coR l sh) ∧ C 28 [x, .int .i64 w, y] = some (.tup [x1, .int .i64 e1]) ∧ C 29 [x, .int .i64 w, y] = some (.tup [x1, .int .i64 e1]) ∧ C 23 = SNum :=
    ⟨_, ((((D2ok.pt p16).pt (p26 hx sh)).pt (p27 hx sh)).pt (h1 ▸ p28 hx hy w)).pt (h1 ▸ p29 hx hy w), by simp, by simp, by simp, by simp, by simp, by rw [← D2_23]; funext a; simp⟩
  have n1 := SNum_i a1 a1
  refine PCall.of hC ok4 (by simp) rfl fun hs' hb => ?_
  by_cases h40 : 40 < l.length
  · have := big40 h40
    simp [A4, R4, alen_of hx, this, h40, k16]
  have h40' : ¬ ((40 : Int) < (l.length : Int)) := by omega
  by_cases h41 : 40 < m.length
  · have := big40 h41
    simp [A4, R4, alen_of hx, alen_of hy, h40, h40', this, h41, k16]
  have h41' : ¬ ((40 : Int) < (m.length : Int)) := by omega
  simp [A4, R4, alen_of hx, alen_of hy, h40, h40', h41, h41', k26, k27, k28, k29, coR, k23, n1, k16]
theorem p5 {x : AV} {l : List Int} (hx : asI x = some l) (most : Int) : PCall Try.prog 5 [x, .int .i64 most] (.bool true) := by
  obtain ⟨⟨x1, e1, A1, h1, a1⟩⟩ := plR_li l most
  obtain ⟨C, hC, k16, k30, k31, k23⟩ : ∃ C, CtxOk Try.prog C ∧ C 16 [] = some (.bool true) ∧ C 30 [x, .int .i64 most] = some (.tup [x1, .int .i64 e1]) ∧ C 31 [x, .int .i64 most] = some (.tup [x1, .int .i64 e1]) ∧ C 23 = SNum :=
    ⟨_, ((D2ok.pt p16).pt (h1 ▸ p30 hx most)).pt (h1 ▸ p31 hx most), by simp, by simp, by simp, by rw [← D2_23]; funext a; simp⟩
  have n1 := SNum_i a1 a1
  refine PCall.of hC ok5 (by simp) rfl fun hs' hb => ?_
  by_cases h40 : 40 < l.length
  · have := big40 h40
    simp [A5, R5, alen_of hx, this, h40, k16]
  have h40' : ¬ ((40 : Int) < (l.length : Int)) := by omega
  simp [A5, R5, alen_of hx, h40, h40', k30, k31, k23, n1, k16]
theorem p7 {x : AV} {l : List Int} (hx : asI x = some l) (size : Int) : PCall Try.prog 7 [x, .int .i64 size] (.bool true) := by
  obtain ⟨e, V, hV⟩ := arR_form l size
  obtain ⟨C, hC, k16, k38, k39⟩ : ∃ C, CtxOk Try.prog C ∧ C 16 [] = some (.bool true) ∧ C 38 [x, .int .i64 size] = some (twR e V) ∧ C 39 [x, .int .i64 size] = some (twR e V) :=
    ⟨_, ((D2ok.pt p16).pt (hV ▸ p38 hx size)).pt (hV ▸ p39 hx size), by simp, by simp, by simp⟩
  refine PCall.of hC ok7 (by simp) rfl fun hs' hb => ?_
  generalize hr : hs'.nh = r
  have hne : ¬ r = r + 1 := by omega
  have ne2 : ¬ r = r + 1 + 1 := by omega
  have ne3 : ¬ r = r + 1 + 1 + 1 := by omega
  have ne4 : ¬ r + 1 = r + 1 + 1 + 1 := by omega
  by_cases h40 : 40 < l.length
  · have := big40 h40
    simp [A7, R7, alen_of hx, this, h40, k16]
  have h40' : ¬ ((40 : Int) < (l.length : Int)) := by omega
  simp [A7, R7, alen_of hx, h40, h40', k38, twR, hr]
  refine At.one none (by simp [one', zz, hne]) ?_
  simp
  refine At.tw2 none (by simp [two', zz, hne]) ?_
  simp [k39, twR]
  refine At.one none (by simp [one', zz]) ?_
  simp
  refine At.tw2 none (by simp [two', zz]) ?_
  simp [la, hne, ne2, ne3, ne4, one_ap, two_ap, one_eq, two_eq, k16]
theorem p3_big {x : AV} {n : Nat} (hx : alenK false x = some (.int .i64 (n : Int))) (h : 40 < n) : PCall Try.prog 3 [x] (.bool true) := by
  obtain ⟨C, hC, k16⟩ : ∃ C, CtxOk Try.prog C ∧ C 16 [] = some (.bool true) := ⟨_, D2ok.pt p16, by simp⟩
  refine PCall.of hC ok3 (by simp) rfl fun hs' hb => ?_
  have h' : (40 : Int) < (n : Int) := by omega
  simp [A3, R3, hx, h, h', k16]
theorem p5_big {x : AV} {n : Nat} (hx : alenK false x = some (.int .i64 (n : Int))) (h : 40 < n) (n1 : Int) : PCall Try.prog 5 [x, .int .i64 n1] (.bool true) := by
  obtain ⟨C, hC, k16⟩ : ∃ C, CtxOk Try.prog C ∧ C 16 [] = some (.bool true) := ⟨_, D2ok.pt p16, by simp⟩
  refine PCall.of hC ok5 (by simp) rfl fun hs' hb => ?_
  have h' : (40 : Int) < (n : Int) := by omega
  simp [A5, R5, hx, h, h', k16]
theorem p7_big {x : AV} {n : Nat} (hx : alenK false x = some (.int .i64 (n : Int))) (h : 40 < n) (n1 : Int) : PCall Try.prog 7 [x, .int .i64 n1] (.bool true) := by
  obtain ⟨C, hC, k16⟩ : ∃ C, CtxOk Try.prog C ∧ C 16 [] = some (.bool true) := ⟨_, D2ok.pt p16, by simp⟩
  refine PCall.of hC ok7 (by simp) rfl fun hs' hb => ?_
  have h' : (40 : Int) < (n : Int) := by omega
  simp [A7, R7, hx, h, h', k16]
theorem p4_big {x y : AV} {n : Nat} (hx : alenK false x = some (.int .i64 (n : Int))) (h : 40 < n) (n1 n2 : Int) : PCall Try.prog 4 [x, .int .i64 n1, .int .i64 n2, y] (.bool true) := by
  obtain ⟨C, hC, k16⟩ : ∃ C, CtxOk Try.prog C ∧ C 16 [] = some (.bool true) := ⟨_, D2ok.pt p16, by simp⟩
  refine PCall.of hC ok4 (by simp) rfl fun hs' hb => ?_
  have h' : (40 : Int) < (n : Int) := by omega
  simp [A4, R4, hx, h, h', k16]
theorem p4_big2 {x y : AV} {m n : Nat} (hx : alenK false x = some (.int .i64 (m : Int))) (hm : ¬ 40 < m) (hy : alenK false y = some (.int .i64 (n : Int))) (h : 40 < n) (n1 n2 : Int) : PCall Try.prog 4 [x, .int .i64 n1, .int .i64 n2, y] (.bool true) := by
  obtain ⟨C, hC, k16⟩ : ∃ C, CtxOk Try.prog C ∧ C 16 [] = some (.bool true) := ⟨_, D2ok.pt p16, by simp⟩
  refine PCall.of hC ok4 (by simp) rfl fun hs' hb => ?_
  have h' : (40 : Int) < (n : Int) := by omega
  have hm' : ¬ (40 : Int) < (m : Int) := by omega
  simp [A4, R4, hx, hy, hm, hm', h, h', k16]
def TL : Ty := .sl (.int .i64)
theorem ints_typed {x : AV} (h : ShV TL x) : ∃ n : Nat, alenK false x = some (.int .i64 (n : Int)) ∧ (40 < n ∨ ¬ 40 < n ∧ ∃ l, asI x = some l) := by
  obtain ⟨l, hl, hm, _⟩ := shv_intsK h
  rcases hl with ⟨rfl, rfl⟩ | rfl
  · exact ⟨0, rfl, .inr ⟨by omega, [], rfl⟩⟩
  · refine ⟨l.length, by simp, ?_⟩
    by_cases h40 : 40 < l.length
    · exact .inl h40
    · exact .inr ⟨h40, l, asI_sl (by omega)⟩
theorem pairs_typed (xs : List AV) (h : Typed [TL] xs) : PCall Try.prog 3 xs (.bool true) := by
  obtain ⟨x, rfl, hx⟩ := h.one
  obtain ⟨n, hn, h40 | ⟨_, l, hl⟩⟩ := ints_typed hx
  · exact p3_big hn h40
  · exact p3 hl
theorem seen_typed (xs : List AV) (h : Typed [TL, .int .i64, .int .i64, TL] xs) : PCall Try.prog 4 xs (.bool true) := by
  obtain ⟨x, y, z, u, rfl, hx, hy, hz, hu⟩ := h.four
  obtain ⟨n1, rfl, _⟩ := shv_int hy
  obtain ⟨n2, rfl, _⟩ := shv_int hz
  obtain ⟨n, hn, h40 | ⟨hn40, l, hl⟩⟩ := ints_typed hx
  · exact p4_big hn h40 _ _
  · obtain ⟨k, hk, h40 | ⟨_, m, hm⟩⟩ := ints_typed hu
    · exact p4_big2 hn hn40 hk h40 _ _
    · exact p4 hl hm n1 n2
theorem places_typed (xs : List AV) (h : Typed [TL, .int .i64] xs) : PCall Try.prog 5 xs (.bool true) := by
  obtain ⟨x, y, rfl, hx, hy⟩ := h.two
  obtain ⟨n1, rfl, _⟩ := shv_int hy
  obtain ⟨n, hn, h40 | ⟨_, l, hl⟩⟩ := ints_typed hx
  · exact p5_big hn h40 _
  · exact p5 hl n1
theorem around_typed (xs : List AV) (h : Typed [TL, .int .i64] xs) : PCall Try.prog 7 xs (.bool true) := by
  obtain ⟨x, y, rfl, hx, hy⟩ := h.two
  obtain ⟨n1, rfl, _⟩ := shv_int hy
  obtain ⟨n, hn, h40 | ⟨_, l, hl⟩⟩ := ints_typed hx
  · exact p7_big hn h40 _
  · exact p7 hl n1
end Go.Proofs.Ytokfmcjepkepjaa
