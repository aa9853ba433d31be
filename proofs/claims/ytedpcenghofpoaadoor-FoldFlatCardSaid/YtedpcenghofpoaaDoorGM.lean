/-
  A law of this seat's translation, compacted, held against the loaded program by the kernel. Printed by wip/tools/Gex.lean.
  Flat strips: steps, foldings and the law's own list agree: the law's contract. Own work.
-/
import Derived.Test.YtedpcenghofpoaaDoorC1
import Derived.Test.YtedpcenghofpoaaDoorGK
import Derived.Test.YtedpcenghofpoaaDoorGL
namespace Go.Proofs.YtedpcenghofpoaaDoor
open Go Fw
def A6 : ACode := .seq (.reg [⟨some 1, none, .boxi (.t 0)⟩, ⟨some 2, none, .mv (.c (.bool false))⟩])
  (.seq (.reg [⟨some 15, none, .load true 2 (.t 1)⟩, ⟨some 16, none, .pcall 39 [.t 15]⟩, ⟨some 3, none, .alloc [.nilsl, .str (bs [])]⟩, ⟨none, none, .store 2 (.t 3) (.t 16)⟩])
  (.seq (.reg [⟨some 17, none, .load true 2 (.t 3)⟩, ⟨some 18, none, .pcall 40 [.t 17]⟩, ⟨some 4, none, .mv (.t 18)⟩])
  (.seq (.reg [⟨some 20, none, .load true 2 (.t 3)⟩, ⟨some 21, none, .pcall 23 [.t 20]⟩, ⟨some 19, none, .mv (.t 21)⟩, ⟨some 22, none, .extract (.t 19) 0⟩, ⟨some 23, none, .extract (.t 19) 1⟩, ⟨some 5, none, .mv (.t 22)⟩, ⟨some 6, none, .mv (.t 23)⟩])
  (.seq (.reg [⟨some 25, none, .load true 2 (.t 3)⟩, ⟨some 26, none, .pcall 25 [.t 25]⟩, ⟨some 24, none, .mv (.t 26)⟩, ⟨some 27, none, .extract (.t 24) 0⟩, ⟨some 28, none, .extract (.t 24) 1⟩, ⟨some 7, none, .mv (.t 27)⟩, ⟨some 8, none, .mv (.t 28)⟩])
  (.seq (.reg [⟨some 30, none, .load true 2 (.t 3)⟩, ⟨some 31, none, .pcall 36 [.t 30]⟩, ⟨some 29, none, .mv (.t 31)⟩, ⟨some 32, none, .extract (.t 29) 0⟩, ⟨some 33, none, .extract (.t 29) 1⟩, ⟨some 9, none, .mv (.t 32)⟩, ⟨some 10, none, .mv (.t 33)⟩])
  (.seq (.reg [⟨some 35, none, .load true 2 (.t 3)⟩, ⟨some 36, none, .pcall 37 [.t 35]⟩, ⟨some 34, none, .mv (.t 36)⟩, ⟨some 37, none, .extract (.t 34) 0⟩, ⟨some 38, none, .extract (.t 34) 1⟩, ⟨some 11, none, .alloc [.nilsl, .str (bs [])]⟩, ⟨none, none, .store 2 (.t 11) (.t 37)⟩, ⟨some 12, none, .mv (.t 38)⟩])
  (.seq (.seq (.reg [⟨some 39, none, .mv (.t 8)⟩, ⟨some 40, none, .bin 0 .neq (.t 39) (.c (.int .i64 0))⟩, ⟨some 41, none, .mv (.t 40)⟩, ⟨some 42, some (41, false), .mv (.t 12)⟩, ⟨some 43, some (41, false), .bin 0 .neq (.t 42) (.c (.int .i64 0))⟩, ⟨some 44, none, .pick (.t 41) (.c (.bool true)) (.t 43)⟩, ⟨some 45, none, .mv (.t 44)⟩, ⟨some 46, some (45, false), .mv (.t 7)⟩, ⟨some 47, some (45, false), .mv (.t 4)⟩, ⟨some 48, some (45, false), .len false (.t 47)⟩, ⟨some 49, some (45, false), .bin 0 .neq (.t 46) (.t 48)⟩, ⟨some 50, none, .pick (.t 45) (.c (.bool true)) (.t 49)⟩, ⟨some 51, none, .mv (.t 50)⟩, ⟨some 52, some (51, false), .faddr false 1 0 (.t 11)⟩, ⟨some 53, some (51, false), .load false 1 (.t 52)⟩, ⟨some 54, some (51, false), .len false (.t 53)⟩, ⟨some 55, some (51, false), .bin 0 .lss (.t 54) (.c (.int .i64 1))⟩, ⟨some 56, none, .pick (.t 51) (.c (.bool true)) (.t 55)⟩, ⟨some 57, none, .mv (.t 56)⟩, ⟨some 58, some (57, false), .faddr false 1 0 (.t 11)⟩, ⟨some 59, some (57, false), .load false 1 (.t 58)⟩, ⟨some 60, some (57, false), .len false (.t 59)⟩, ⟨some 61, some (57, false), .faddr false 1 0 (.t 3)⟩, ⟨some 62, some (57, false), .load false 1 (.t 61)⟩, ⟨some 63, some (57, false), .len false (.t 62)⟩, ⟨some 64, some (57, false), .bin 0 .gtr (.t 60) (.t 63)⟩, ⟨some 65, none, .pick (.t 57) (.c (.bool true)) (.t 64)⟩])
  (.cond (.t 65) (.seq (.reg [⟨some 2, none, .mv (.c (.bool false))⟩])
  (.ret)) (.skip)))
  (.seq (.reg [⟨some 67, none, .load true 2 (.t 11)⟩, ⟨some 68, none, .pcall 30 [.t 67]⟩, ⟨some 66, none, .mv (.t 68)⟩, ⟨some 69, none, .extract (.t 66) 0⟩, ⟨some 70, none, .extract (.t 66) 1⟩, ⟨some 13, none, .mv (.t 69)⟩, ⟨some 14, none, .mv (.t 70)⟩])
  (.seq (.seq (.reg [⟨some 71, none, .mv (.t 14)⟩, ⟨some 72, none, .bin 0 .neq (.t 71) (.c (.int .i64 0))⟩, ⟨some 73, none, .mv (.t 72)⟩, ⟨some 74, some (73, false), .mv (.t 13)⟩, ⟨some 75, some (73, false), .len false (.t 74)⟩, ⟨some 76, some (73, false), .bin 0 .gtr (.t 75) (.c (.int .i64 0))⟩, ⟨some 77, none, .pick (.t 73) (.c (.bool true)) (.t 76)⟩, ⟨some 78, none, .mv (.t 77)⟩, ⟨some 79, some (78, false), .faddr false 1 0 (.t 11)⟩, ⟨some 80, some (78, false), .load false 1 (.t 79)⟩, ⟨some 81, some (78, false), .len false (.t 80)⟩, ⟨some 82, some (78, false), .bin 0 .eql (.t 81) (.c (.int .i64 1))⟩, ⟨some 83, some (78, false), .mv (.t 4)⟩, ⟨some 84, some (78, false), .len false (.t 83)⟩, ⟨some 85, some (78, false), .bin 0 .gtr (.t 84) (.c (.int .i64 0))⟩, ⟨some 86, some (78, false), .bin 1 .neq (.t 82) (.t 85)⟩, ⟨some 87, none, .pick (.t 78) (.c (.bool true)) (.t 86)⟩])
  (.cond (.t 87) (.seq (.reg [⟨some 2, none, .mv (.c (.bool false))⟩])
  (.ret)) (.skip)))
  (.seq (.seq (.reg [⟨some 88, none, .mv (.t 4)⟩, ⟨some 89, none, .len false (.t 88)⟩, ⟨some 90, none, .bin 0 .eql (.t 89) (.c (.int .i64 0))⟩])
  (.cond (.t 90) (.seq (.reg [⟨some 91, none, .mv (.t 6)⟩, ⟨some 92, none, .bin 0 .eql (.t 91) (.c (.int .i64 14))⟩, ⟨some 93, none, .mv (.t 92)⟩, ⟨some 94, some (93, true), .mv (.t 10)⟩, ⟨some 95, some (93, true), .bin 0 .eql (.t 94) (.c (.int .i64 14))⟩, ⟨some 96, none, .pick (.t 93) (.t 95) (.c (.bool false))⟩, ⟨some 97, none, .mv (.t 96)⟩, ⟨some 98, some (97, true), .mv (.t 5)⟩, ⟨some 99, some (97, true), .len false (.t 98)⟩, ⟨some 100, some (97, true), .mv (.t 9)⟩, ⟨some 101, some (97, true), .len false (.t 100)⟩, ⟨some 102, some (97, true), .bin 0 .add (.t 99) (.t 101)⟩, ⟨some 103, some (97, true), .bin 0 .eql (.t 102) (.c (.int .i64 0))⟩, ⟨some 104, none, .pick (.t 97) (.t 103) (.c (.bool false))⟩, ⟨some 105, none, .mv (.t 104)⟩, ⟨some 106, some (105, true), .pcall 15 []⟩, ⟨some 107, none, .pick (.t 105) (.t 106) (.c (.bool false))⟩, ⟨some 2, none, .mv (.t 107)⟩])
  (.ret)) (.skip)))
  (.seq (.reg [⟨some 108, none, .mv (.t 6)⟩, ⟨some 109, none, .bin 0 .eql (.t 108) (.c (.int .i64 0))⟩, ⟨some 110, none, .mv (.t 109)⟩, ⟨some 111, some (110, true), .mv (.t 10)⟩, ⟨some 112, some (110, true), .bin 0 .eql (.t 111) (.c (.int .i64 0))⟩, ⟨some 113, none, .pick (.t 110) (.t 112) (.c (.bool false))⟩, ⟨some 114, none, .mv (.t 113)⟩, ⟨some 115, some (114, true), .mv (.t 5)⟩, ⟨some 116, some (114, true), .mv (.t 4)⟩, ⟨some 117, some (114, true), .iaddrS 1 (.t 116) (.c (.int .i64 0))⟩, ⟨some 118, some (114, true), .load false 1 (.t 117)⟩, ⟨some 119, some (114, true), .pcall 29 [.t 115, .t 118]⟩, ⟨some 120, none, .pick (.t 114) (.t 119) (.c (.bool false))⟩, ⟨some 121, none, .mv (.t 120)⟩, ⟨some 122, some (121, true), .load true 2 (.t 3)⟩, ⟨some 123, some (121, true), .mv (.t 5)⟩, ⟨some 124, some (121, true), .pcall 21 [.t 122, .t 123]⟩, ⟨some 125, some (121, true), .bin 0 .eql (.t 124) (.c (.int .i64 0))⟩, ⟨some 126, none, .pick (.t 121) (.t 125) (.c (.bool false))⟩, ⟨some 127, none, .mv (.t 126)⟩, ⟨some 128, some (127, true), .load true 2 (.t 3)⟩, ⟨some 129, some (127, true), .mv (.t 9)⟩, ⟨some 130, some (127, true), .pcall 34 [.t 128, .t 129]⟩, ⟨some 131, some (127, true), .bin 0 .eql (.t 130) (.c (.int .i64 0))⟩, ⟨some 132, none, .pick (.t 127) (.t 131) (.c (.bool false))⟩, ⟨some 133, none, .mv (.t 132)⟩, ⟨some 134, some (133, true), .pcall 15 []⟩, ⟨some 135, none, .pick (.t 133) (.t 134) (.c (.bool false))⟩, ⟨some 2, none, .mv (.t 135)⟩])
  (.ret))))))))))))
def R6 : List ARes := [.t 2]
theorem ok6 : FnOk Tryd.prog 6 [] pureFns A6 R6 136 := ⟨⟨Tryd.f6, _, Tryd.func6, rfl, rfl, by kernel_rfl, by kernel_rfl⟩, by kernel_rfl⟩
end Go.Proofs.YtedpcenghofpoaaDoor
set_option linter.unusedVariables false
set_option linter.unusedSimpArgs false
namespace Go.Proofs.YtedpcenghofpoaaDoor
open Go Fw

theorem ordF_none {l : List Int} {f : List UInt8} (hc : chk l f = 0) (h : foldL l f = []) : ordV l f = .tup [.nilsl, .int .i64 14] := by
  unfold ordV; rw [if_neg (by simp [hc]), if_pos h]
theorem ordF_some {l : List Int} {f : List UInt8} (hc : chk l f = 0) {o : List Int} {r : List (List Int)} (hF : foldL l f = o :: r) : ordV l f = .tup [outV 1 (ints o), .int .i64 0] ∧ liesR l f o = 0 ∧ o.length = l.length := by
  have ho : o ∈ foldL l f := by rw [hF]; simp
  obtain ⟨h1, h2, h3⟩ := foldL_iff.1 ho
  refine ⟨?_, ?_, h1.len⟩
  · unfold ordV; rw [if_neg (by simp [hc]), if_neg (by rw [hF]; simp), hF]; rfl
  · rw [liesR_ord hc h1, if_pos ⟨h3, h2⟩]
set_option maxRecDepth 100000 in
set_option maxHeartbeats 1000000 in
theorem p6 {x : AV} {es : List Int} (hx : IsU8 x es) {g : Nat} (hg : g < 256) : PCall Tryd.prog 6 [.agg [x, .int .u8 (g : Int)]] (.bool true) := by
  have hck := chk_made es g hx.2
  have hli := lenV_i es
  obtain ⟨C1', hC1, h15, h43, h42, h44, h39, up⟩ := ctxL
  obtain ⟨hms, hfl, hfv⟩ := chk_0 hck
  obtain ⟨m1, m2, m3, m4⟩ := meas_0 hms
  obtain ⟨C, hC, h40, n1⟩ := ctx_pt hC1 40 _ _ (p40 hli hck)
  have h15 : C 15 [] = some (.bool true) := by rw [n1 15 (by decide)]; exact h15
  have hm1 : C 39 [.agg [x, .int .u8 (g : Int)]] = some (madeV es g) := by rw [n1 39 (by decide)]; exact h39 hx hg
  have upp : ∀ k, ¬ k = 40 → ¬ k = 15 → ¬ k = 43 → ¬ k = 42 → ¬ k = 44 → ¬ k = 39 → C k = CA k := fun k a b c d e f => by rw [n1 k a, up k b c d e f]
  unfold madeV at hm1
  have hal := alen_of hli
  have hst := asI_sto hli
  have hcl := asI_cells hli
  have hxs : x.sto = true := by rcases hx.1 with ⟨rfl, _⟩ | rfl <;> rfl
  have hxc : x.cells = [x] := by rcases hx.1 with ⟨rfl, _⟩ | rfl <;> rfl
  generalize mkF g ((mkL es).length - 1) = f at *
  generalize lenV es = v at *
  generalize mkL es = l at *
  have h23 : C 23 [.agg [v, .str (bs f)]] = some (ordV l f) := by rw [upp 23 (by decide) (by decide) (by decide) (by decide) (by decide) (by decide)]; exact CA_23 hli
  have h25 : C 25 [.agg [v, .str (bs f)]] = some (cntV l f) := by rw [upp 25 (by decide) (by decide) (by decide) (by decide) (by decide) (by decide)]; exact CA_25 hli
  have h36 : C 36 [.agg [v, .str (bs f)]] = some (stpV l f) := by rw [upp 36 (by decide) (by decide) (by decide) (by decide) (by decide) (by decide)]; exact CA_36 hli
  have h37 : C 37 [.agg [v, .str (bs f)]] = some (stkV l f) := by rw [upp 37 (by decide) (by decide) (by decide) (by decide) (by decide) (by decide)]; exact CA_37 hli
  have h30 : ∀ {z : AV} {l : List Int} {f : List UInt8}, asI z = some l → C 30 [.agg [z, .str (bs f)]] = some (canV l f) := fun hz => by rw [upp 30 (by decide) (by decide) (by decide) (by decide) (by decide) (by decide)]; exact CA_30 hz
  have h29 : ∀ {y z : AV} {a b : List Int}, asI y = some a → asI z = some b → C 29 [y, z] = some (.bool (decide (a = b))) := fun hy hz => by rw [upp 29 (by decide) (by decide) (by decide) (by decide) (by decide) (by decide)]; exact CA_29 hy hz
  have h21 : ∀ {z : AV} {o : List Int}, asI z = some o → C 21 [.agg [v, .str (bs f)], z] = some (.int .i64 (liesR l f o)) := fun hz => by rw [upp 21 (by decide) (by decide) (by decide) (by decide) (by decide) (by decide)]; exact CA_21 hli hz
  have h34 : ∀ {z : AV} {o : List Int}, asI z = some o → C 34 [.agg [v, .str (bs f)], z] = some (.int .i64 (verE l f o)) := fun hz => by rw [upp 34 (by decide) (by decide) (by decide) (by decide) (by decide) (by decide)]; exact CA_34 hli hz
  obtain ⟨hcr, hsr⟩ := redS_left l.length l f hck (Nat.le_refl _)
  have hone := red_one hck
  have hrun := runS_red hck l.length
  have hrl := redS_len l.length l f hck
  obtain ⟨mr1, mr2, _, _⟩ := meas_0 (chk_0 hcr).1
  have hrle : (redS l.length l f).2.1.length ≤ l.length := red_le l.length hck
  refine PCall.of hC ok6 (by simp) rfl fun hs hb => ?_
  rw [cntV_0 hck] at h25
  unfold stkV at h37
  rw [if_pos hck] at h37
  unfold stpV at h36
  rw [if_pos hck] at h36
  generalize hR : redS l.length l f = R at *
  obtain ⟨ss, rl, rf⟩ := R
  simp only at hcr hsr hone hrun hrl mr1 mr2 hrle h36 h37
  have hri := asI_outV (l := rl) (by omega)
  have hsi := asI_outV (l := ss) (by omega)
  have q30 := h30 (f := rf) hri
  rw [canI hcr hsr] at q30
  unfold stV at h37
  simp only [A6, R6]
  have ld3 : aload (fun i => if i = hs.nh then some [v, .str (bs f)] else if i = hs.nh then some [.nilsl, .str (bs [])] else hs.heap i) true 2 (.ref hs.nh 0) = some (.agg [v, .str (bs f)]) := load_ref2 (by simp)
  rw [At.awp_seq]
  simp [hxs, -At.awp_seq]
  rw [At.awp_seq]
  simp [hm1, -At.awp_seq]
  obtain ⟨hs0, hhs0⟩ : ∃ hs0 : HS, hs0 = ⟨fun k => if k = hs.nh then some [v, AV.str (bs f)] else if k = hs.nh then some [AV.nilsl, AV.str (bs [])] else hs.heap k, hs.nh + 1, hs.nt, hs.tok, hs.mp⟩ := ⟨_, rfl⟩
  have g3 : hs0.heap hs.nh = some [v, .str (bs f)] := by rw [hhs0]; simp
  have hnh : hs.nh < hs0.nh := by rw [hhs0]; exact Nat.lt_succ_self _
  rw [← hhs0]
  clear hhs0 ld3
  have l3 : aload hs0.heap true 2 (.ref hs.nh 0) = some (.agg [v, .str (bs f)]) := load_ref2 g3
  have st := st2_of (hp := fun i => if i = hs0.nh then some [.nilsl, .str (bs [])] else hs0.heap i) (i := hs0.nh) (u := .nilsl) (v := .str (bs [])) (by simp) (outV 1 (ints rl)) (.str (bs rf))
  obtain ⟨H1, hH1⟩ : ∃ H1 : Nat → Option (List AV), H1 = fun k => if k = hs0.nh then some [outV 1 (ints rl), .str (bs rf)] else (fun i => if i = hs0.nh then some [.nilsl, .str (bs [])] else hs0.heap i) k := ⟨_, rfl⟩
  rw [← hH1] at st
  have g3b : H1 hs.nh = some [v, .str (bs f)] := by rw [hH1]; simp only; rw [if_neg (by omega), if_neg (by omega)]; exact g3
  have g11 : H1 hs0.nh = some [outV 1 (ints rl), .str (bs rf)] := by rw [hH1]; simp
  clear hH1
  have l3b : aload H1 true 2 (.ref hs.nh 0) = some (.agg [v, .str (bs f)]) := load_ref2 g3b
  have l30 : aload H1 false 1 (.ref hs.nh 0) = some v := ldc g3b rfl
  have l11 : aload H1 true 2 (.ref hs0.nh 0) = some (.agg [outV 1 (ints rl), .str (bs rf)]) := load_ref2 g11
  have l110 : aload H1 false 1 (.ref hs0.nh 0) = some (outV 1 (ints rl)) := ldc g11 rfl
  have har := alen_of hri
  have has := alen_of hsi
  have hF4 : ((foldL l f).map slV).length < 4294967296 := by
    have := perms_len m2
    have h2 := List.length_filter_le (isF l f) (permsL l.length)
    unfold foldL
    rw [List.length_map]; omega
  have hav : asV 1 (lstV l f) = some ((foldL l f).map slV) := asV_outV hF4
  have hal4 : alenK false (lstV l f) = some (.int .i64 ((foldL l f).length : Int)) := by unfold lstV; rw [alen_out, List.length_map]
  generalize hlv : lstV l f = lv at *
  have hcn : cnt l f = (foldL l f).length := rfl
  cases hFo : foldL l f with
  | nil =>
    have h1 : ¬ rl.length = 1 := fun e => (hone.1 e) hFo
    rw [ordF_none hck hFo] at h23
    rw [if_pos (by omega)] at h36
    have hal4 : alenK false lv = some (.int .i64 0) := by rw [hal4, hFo]; rfl
    rw [hcn, hFo] at h25
    have h25 : C 25 [.agg [v, .str (bs f)]] = some (.tup [.int .i64 0, .int .i64 0]) := h25
    have i1 : ¬ (rl.length : Int) < 1 := by omega
    have i2 : ¬ (l.length : Int) < (rl.length : Int) := by omega
    have i3 : ¬ (rl.length : Int) = 1 := by omega
    generalize (rl.length : Int) = a at *
    generalize (l.length : Int) = b at *
    simp [l3, h40, h23, h25, h36, h37, st, l11, l110, l30, l3b, fa, hal, har, hal4, q30, h15, i1, i2, i3, show IntKind.i64.wrap 0 = 0 by decide]
  | cons o r =>
    have h1 : rl.length = 1 := hone.2 (by rw [hFo]; simp)
    obtain ⟨ho1, ho2, ho3⟩ := ordF_some hck hFo
    rw [ho1] at h23
    rw [if_neg (by omega)] at h36
    rw [hFo] at hal4 hav
    rw [hcn, hFo] at h25
    have hix : aidxS 1 lv (.int .i64 ((0 : Nat) : Int)) = some (.ptr (slV o)) := by rw [idxV hav (by simp)]; rfl
    have hix : aidxS 1 lv (.int .i64 0) = some (.ptr (slV o)) := hix
    have hoi := asI_outV (l := o) (by omega)
    have hoj : asI (slV o) = some o := asI_sl (by omega)
    have k29 := h29 hoi hoj
    rw [decide_eq_true rfl] at k29
    have k21 := h21 hoi
    rw [ho2] at k21
    have k34 := h34 hsi
    have hv : verE l f ss = 0 := by unfold verE; rw [hrun]; simp [h1]
    rw [hv] at k34
    have hls := asI_ld hoj
    rw [h1] at har
    have har : alenK false (outV 1 (ints rl)) = some (.int .i64 1) := har
    have i2 : ¬ (l.length : Int) < 1 := by omega
    have i4 : (0 : Int) < ((o :: r).length : Int) := by simp
    have i5 : ¬ ((o :: r).length : Int) = 0 := by omega
    generalize ((o :: r).length : Int) = a at *
    generalize (l.length : Int) = b at *
    simp [l3, h40, h23, h25, h36, h37, st, l11, l110, l30, l3b, fa, hal, har, hal4, q30, h15, i2, i4, i5, hix, hls, k29, k21, k34]
theorem flat_typed (xs : List AV) (h : Typed [TMap] xs) : PCall Tryd.prog 6 xs (.bool true) := by
  obtain ⟨x, rfl, hx⟩ := h.one
  obtain ⟨y, es, g, rfl, h1, h2⟩ := map_typed hx
  exact p6 h1 h2
end Go.Proofs.YtedpcenghofpoaaDoor
