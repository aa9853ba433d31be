/-
  A law of this seat's translation, compacted, held against the loaded program by the kernel. Printed by wip/tools/Gex.lean.
  Lists that lie, against the law's own test: the law's contract. Own work.
-/
import Derived.Test.YtedpcenghofpoaaDoorC1
import Derived.Test.YtedpcenghofpoaaDoorGA
namespace Go.Proofs.YtedpcenghofpoaaDoor
open Go Fw
def A8 : ACode := .seq (.reg [⟨some 3, none, .boxi (.t 0)⟩, ⟨some 6, none, .mv (.c (.bool false))⟩])
  (.seq (.reg [⟨some 19, none, .load true 2 (.t 3)⟩, ⟨some 20, none, .pcall 39 [.t 19]⟩, ⟨some 7, none, .alloc [.nilsl, .str (bs [])]⟩, ⟨none, none, .store 2 (.t 7) (.t 20)⟩])
  (.seq (.reg [⟨some 21, none, .faddr false 1 0 (.t 7)⟩, ⟨some 22, none, .load false 1 (.t 21)⟩, ⟨some 23, none, .len false (.t 22)⟩, ⟨some 8, none, .mv (.t 23)⟩])
  (.seq (.reg [⟨some 9, none, .mv (.c (.nilsl))⟩, ⟨some 10, none, .mv (.c (.nilsl))⟩])
  (.seq (.seq (.reg [⟨some 24, none, .mv (.t 8)⟩, ⟨some 25, none, .mv (.c (.int .i64 0))⟩])
  (.block 0 (.loop (.seq (.reg [⟨some 26, none, .bin 0 .lss (.t 25) (.t 24)⟩])
  (.seq (.cond (.t 26) (.skip) (.exit 0))
  (.seq (.block 1 (.seq (.reg [⟨some 27, none, .mv (.t 25)⟩, ⟨some 11, none, .mv (.t 27)⟩])
  (.reg [⟨some 28, none, .mv (.t 9)⟩, ⟨some 29, none, .mv (.t 11)⟩, ⟨some 30, none, .buildSl 1 [.t 29]⟩, ⟨some 31, none, .append 1 (.t 28) (.t 30)⟩, ⟨some 9, none, .mv (.t 31)⟩])))
  (.reg [⟨some 32, none, .bin 0 .add (.t 25) (.c (.int .i64 1))⟩, ⟨some 25, none, .mv (.t 32)⟩])))))))
  (.seq (.seq (.reg [⟨some 12, none, .mv (.c (.int .i64 0))⟩])
  (.block 2 (.loop (.seq (.seq (.reg [⟨some 33, none, .mv (.t 9)⟩, ⟨some 34, none, .len false (.t 33)⟩, ⟨some 35, none, .bin 0 .gtr (.t 34) (.c (.int .i64 0))⟩])
  (.cond (.t 35) (.skip) (.exit 2)))
  (.seq (.block 3 (.seq (.reg [⟨some 13, none, .mv (.c (.int .i64 0))⟩])
  (.seq (.seq (.reg [⟨some 38, none, .mv (.t 12)⟩, ⟨some 39, none, .mv (.t 1)⟩, ⟨some 40, none, .len false (.t 39)⟩, ⟨some 41, none, .bin 0 .lss (.t 38) (.t 40)⟩])
  (.cond (.t 41) (.reg [⟨some 42, none, .mv (.t 1)⟩, ⟨some 43, none, .mv (.t 12)⟩, ⟨some 44, none, .iaddrS 1 (.t 42) (.t 43)⟩, ⟨some 45, none, .load false 1 (.t 44)⟩, ⟨some 46, none, .conv .i64 (.t 45)⟩, ⟨some 47, none, .mv (.t 9)⟩, ⟨some 48, none, .len false (.t 47)⟩, ⟨some 49, none, .bin 0 .rem (.t 46) (.t 48)⟩, ⟨some 13, none, .mv (.t 49)⟩]) (.skip)))
  (.seq (.reg [⟨some 50, none, .mv (.t 10)⟩, ⟨some 51, none, .mv (.t 9)⟩, ⟨some 52, none, .mv (.t 13)⟩, ⟨some 53, none, .iaddrS 1 (.t 51) (.t 52)⟩, ⟨some 54, none, .load false 1 (.t 53)⟩, ⟨some 55, none, .buildSl 1 [.t 54]⟩, ⟨some 56, none, .append 1 (.t 50) (.t 55)⟩, ⟨some 10, none, .mv (.t 56)⟩])
  (.regd [⟨some 57, none, .buildSl 1 []⟩, ⟨some 58, none, .mv (.t 9)⟩, ⟨some 59, none, .mv (.t 13)⟩, ⟨some 60, none, .slice 1 (.t 58) none (some (.t 59)) none⟩, ⟨some 61, none, .append 1 (.t 57) (.t 60)⟩, ⟨some 62, none, .mv (.t 9)⟩, ⟨some 63, none, .mv (.t 13)⟩, ⟨some 64, none, .bin 0 .add (.t 63) (.c (.int .i64 1))⟩, ⟨some 65, none, .slice 1 (.t 62) (some (.t 64)) none none⟩, ⟨some 66, none, .append 1 (.t 61) (.t 65)⟩, ⟨some 9, none, .mv (.t 66)⟩])))))
  (.reg [⟨some 36, none, .mv (.t 12)⟩, ⟨some 37, none, .bin 0 .add (.t 36) (.c (.int .i64 1))⟩, ⟨some 12, none, .mv (.t 37)⟩]))))))
  (.seq (.reg [⟨some 67, none, .mv (.t 8)⟩, ⟨some 68, none, .make false 1 [.int .i64 0] (.t 67) (.t 67)⟩, ⟨some 14, none, .mv (.t 68)⟩])
  (.seq (.seq (.reg [⟨some 69, none, .mv (.t 10)⟩, ⟨some 70, none, .len false (.t 69)⟩, ⟨some 71, none, .mv (.c (.int .i64 0))⟩])
  (.block 4 (.loop (.seq (.reg [⟨some 72, none, .bin 0 .lss (.t 71) (.t 70)⟩])
  (.seq (.cond (.t 72) (.skip) (.exit 4))
  (.seq (.block 5 (.seq (.reg [⟨some 73, none, .mv (.t 71)⟩, ⟨some 74, none, .iaddrS 1 (.t 69) (.t 71)⟩, ⟨some 75, none, .load false 1 (.t 74)⟩, ⟨some 15, none, .mv (.t 73)⟩, ⟨some 16, none, .mv (.t 75)⟩])
  (.reg [⟨some 76, none, .mv (.t 14)⟩, ⟨some 77, none, .mv (.t 16)⟩, ⟨some 78, none, .mv (.t 15)⟩, ⟨some 79, none, .iaddrS 1 (.t 76) (.t 77)⟩, ⟨none, none, .store 1 (.t 79) (.t 78)⟩])))
  (.reg [⟨some 80, none, .bin 0 .add (.t 71) (.c (.int .i64 1))⟩, ⟨some 71, none, .mv (.t 80)⟩])))))))
  (.seq (.reg [⟨some 81, none, .load true 2 (.t 7)⟩, ⟨some 82, none, .mv (.t 10)⟩, ⟨some 83, none, .pcall 21 [.t 81, .t 82]⟩, ⟨some 17, none, .mv (.t 83)⟩])
  (.seq (.seq (.reg [⟨some 84, none, .mv (.t 17)⟩, ⟨some 85, none, .bin 0 .eql (.t 84) (.c (.int .i64 0))⟩, ⟨some 86, none, .load true 2 (.t 7)⟩, ⟨some 87, none, .mv (.t 14)⟩, ⟨some 88, none, .lcall 41 [.t 86, .t 87]⟩, ⟨some 89, none, .bin 1 .eql (.t 85) (.t 88)⟩, ⟨some 90, none, .mv (.t 89)⟩, ⟨some 91, some (90, false), .mv (.t 17)⟩, ⟨some 92, some (90, false), .bin 0 .neq (.t 91) (.c (.int .i64 0))⟩, ⟨some 93, some (90, false), .mv (.t 92)⟩, ⟨some 94, some (93, true), .mv (.t 17)⟩, ⟨some 95, some (93, true), .bin 0 .neq (.t 94) (.c (.int .i64 13))⟩, ⟨some 96, some (90, false), .pick (.t 93) (.t 95) (.c (.bool false))⟩, ⟨some 97, none, .pick (.t 90) (.c (.bool true)) (.t 96)⟩])
  (.cond (.t 97) (.seq (.reg [⟨some 6, none, .mv (.c (.bool false))⟩])
  (.ret)) (.skip)))
  (.seq (.reg [⟨some 98, none, .faddr false 1 0 (.t 3)⟩, ⟨some 99, none, .load false 1 (.t 98)⟩, ⟨some 100, none, .mv (.t 2)⟩, ⟨some 101, none, .build [.nilsl, .int .u8 0] [(0, 1, (.t 99)), (1, 1, (.t 100))]⟩, ⟨some 102, none, .pcall 39 [.t 101]⟩, ⟨some 18, none, .alloc [.nilsl, .str (bs [])]⟩, ⟨none, none, .store 2 (.t 18) (.t 102)⟩])
  (.seq (.reg [⟨some 103, none, .faddr false 1 1 (.t 18)⟩, ⟨some 104, none, .load false 1 (.t 103)⟩, ⟨some 105, none, .faddr false 1 1 (.t 7)⟩, ⟨some 106, none, .load false 1 (.t 105)⟩, ⟨some 107, none, .bin 0 .eql (.t 104) (.t 106)⟩, ⟨some 108, none, .mv (.t 107)⟩, ⟨some 109, some (108, false), .mv (.t 17)⟩, ⟨some 110, some (108, false), .bin 0 .neq (.t 109) (.c (.int .i64 0))⟩, ⟨some 111, none, .pick (.t 108) (.c (.bool true)) (.t 110)⟩, ⟨some 112, none, .mv (.t 111)⟩, ⟨some 113, some (112, false), .load true 2 (.t 18)⟩, ⟨some 114, some (112, false), .mv (.t 10)⟩, ⟨some 115, some (112, false), .pcall 21 [.t 113, .t 114]⟩, ⟨some 116, some (112, false), .bin 0 .eql (.t 115) (.c (.int .i64 13))⟩, ⟨some 117, none, .pick (.t 112) (.c (.bool true)) (.t 116)⟩, ⟨some 118, none, .mv (.t 117)⟩, ⟨some 119, some (118, true), .pcall 15 []⟩, ⟨some 120, none, .pick (.t 118) (.t 119) (.c (.bool false))⟩, ⟨some 6, none, .mv (.t 120)⟩])
  (.ret))))))))))))
def R8 : List ARes := [.t 6]
theorem ok8 : FnOk Tryd.prog 8 [] pureFns A8 R8 121 := ⟨⟨Tryd.f8, _, Tryd.func8, rfl, rfl, by kernel_rfl, by kernel_rfl⟩, by kernel_rfl⟩
end Go.Proofs.YtedpcenghofpoaaDoor
set_option linter.unusedVariables false
set_option linter.unusedSimpArgs false
namespace Go.Proofs.YtedpcenghofpoaaDoor
open Go Fw

theorem cut_out {x : AV} {l : List Int} (hx : asI x = some l) {i : Nat} (hi : i < l.length) (hl : l.length ≤ 1000) (hs : HS) :
    ∃ y1 z1 hs1 y2 z hs2, aslice 1 x none (some (.int .i64 (i : Int))) none = some y1 ∧ aappend 1 hs (.sl 1 [] .exact) y1 = some (z1, hs1) ∧ aslice 1 x (some (.int .i64 ((i + 1 : Nat) : Int))) none none = some y2 ∧
      aappend 1 hs1 z1 y2 = some (z, hs2) ∧ asI z = some (l.take i ++ l.drop (i + 1)) ∧ SameMem hs hs2 ∧ KeepT hs hs2 := by
  obtain ⟨y1, a1, b1⟩ := sl_take hx (k := i) (by omega)
  obtain ⟨y2, a2, b2⟩ := sl_drop hx (k := i + 1) (by omega)
  have hlt : (l.take i).length = i := by rw [List.length_take]; omega
  have hld : (l.drop (i + 1)).length = l.length - (i + 1) := List.length_drop
  have k2 : ∀ hs : HS, KeepT hs hs := fun hs => ⟨Nat.le_refl _, fun _ _ h => h⟩
  by_cases h1 : l.take i = []
  · rw [h1] at b1
    have e1 : aappend 1 hs (.sl 1 [] .exact) y1 = some (.sl 1 [] .exact, hs) := by
      obtain ⟨p1, p2⟩ := elems_of (asI_asV b1)
      rw [append_eq (xs := []) rfl p1 (by simp [aszOk]) p2 (by simp [ints]), if_pos (by rfl)]
    by_cases h2 : l.drop (i + 1) = []
    · rw [h2] at b2
      have e2 : aappend 1 hs (.sl 1 [] .exact) y2 = some (.sl 1 [] .exact, hs) := by
        obtain ⟨p1, p2⟩ := elems_of (asI_asV b2)
        rw [append_eq (xs := []) rfl p1 (by simp [aszOk]) p2 (by simp [ints]), if_pos (by rfl)]
      exact ⟨y1, _, _, y2, _, _, a1, e1, a2, e2, by rw [h1, h2]; rfl, ⟨rfl, rfl⟩, k2 _⟩
    · obtain ⟨hs', p1, p2, p3, p4, p5⟩ := append_exact (sz := 1) (hs := hs) (xs := []) (q := y2) (ys := ints (l.drop (i + 1))) (asI_asV b2) (by simp [ints]; omega) (by simpa [ints] using h2)
      exact ⟨y1, _, _, y2, _, _, a1, e1, a2, p1, by rw [h1]; simp only [List.nil_append]; exact asI_sl (by omega), p3, p4⟩
  · obtain ⟨hs1, p1, p2, p3, p4, p5⟩ := append_exact (sz := 1) (hs := hs) (xs := []) (q := y1) (ys := ints (l.take i)) (asI_asV b1) (by simp [ints]; omega) (by simpa [ints] using h1)
    obtain ⟨q1, q2⟩ := elems_of (asI_asV b2)
    simp only [List.nil_append] at p1
    by_cases h2 : l.drop (i + 1) = []
    · refine ⟨y1, _, hs1, y2, .sl 1 (ints (l.take i)) (.own hs.nt), hs1, a1, p1, a2, ?_, ?_, p3, p4⟩
      · rw [append_eq (xs := ints (l.take i)) rfl q1 (by simp [aszOk]) q2 (by simp [ints]; omega), if_pos (by rw [h2]; rfl)]
      · rw [h2, List.append_nil]; exact asI_sl (by omega)
    · refine ⟨y1, _, _, y2, .sl 1 (ints (l.take i) ++ ints (l.drop (i + 1))) (.own hs1.nt), { hs1 with nt := hs1.nt + 1, tok := fun t => if t = hs1.nt then true else if t = hs.nt then false else hs1.tok t }, a1, p1, a2, ?_, ?_, ⟨p3.heap, p3.nh⟩, ⟨by show hs.nt ≤ hs1.nt + 1; omega, ?_⟩⟩
      · rw [append_eq (xs := ints (l.take i)) rfl q1 (by simp [aszOk]) q2 (by simp [ints]; omega), if_neg (by simpa [ints] using h2)]
        simp only [appP]
        rw [if_pos p2]
      · have : ints (l.take i) ++ ints (l.drop (i + 1)) = ints (l.take i ++ l.drop (i + 1)) := by simp [ints]
        rw [this]; exact asI_sl (by rw [List.length_append]; omega)
      · intro k hk h
        have := p4.tok k hk h
        show (if k = hs1.nt then true else if k = hs.nt then false else hs1.tok k) = true
        rw [if_neg (by omega), if_neg (by omega)]
        exact this
theorem frzL_asI {h : Nat → Option (List AV)} {n : Nat} {x : AV} {l : List Int} (hx : asI x = some l) : frzL h n x = x := by
  have := frz_asI (h := h) (n := n) hx
  rcases asI_inv hx with ⟨rfl, _⟩ | ⟨c, rfl⟩
  · simp
  · rwa [frz_sl] at this
theorem frzL_str {h : Nat → Option (List AV)} {n : Nat} {l : List UInt8} : frzL h n (.str (bs l)) = .str (bs l) := by cases n <;> rfl
theorem ord_step {n : Nat} {o r : List Int} (h : IsOrd n (o ++ r)) {i : Nat} (hi : i < r.length) : IsOrd n ((o ++ [gI r i]) ++ (r.take i ++ r.drop (i + 1))) := by
  refine List.Perm.trans ?_ h
  rw [List.append_assoc]
  refine List.Perm.append_left o ?_
  have : r = r.take i ++ (gI r i :: r.drop (i + 1)) := by rw [gI_of hi, ← List.drop_eq_getElem_cons hi, List.take_append_drop]
  conv => rhs; rw [this]
  exact (List.perm_middle (a := gI r i) (l₁ := r.take i) (l₂ := r.drop (i + 1))).symm
/-- the context of the law: a strip, and the law's own test -/
theorem ctxD {l : List Int} {f : List UInt8} {v : AV} (hv : asI v = some l) (hc : chk l f = 0) : ∃ C : PCtx, CtxOk Tryd.prog C ∧ C 15 [] = some (.bool true) ∧
    (∀ {x : AV} {es : List Int} {g : Nat}, IsU8 x es → g < 256 → C 39 [.agg [x, .int .u8 (g : Int)]] = some (madeV es g)) ∧
    (∀ {z : AV} {L : List Int}, asI z = some L → L.length = l.length → C 41 [.agg [v, .str (bs f)], z] = some (.bool (!thB l f (gI L)))) ∧
    ∀ g, ¬ g = 15 → ¬ g = 43 → ¬ g = 42 → ¬ g = 44 → ¬ g = 39 → ¬ g = 41 → C g = CA g := by
  obtain ⟨C1', hC1, h15, h43, h42, h44, h39, up⟩ := ctxL
  obtain ⟨hm, hfl, _⟩ := chk_0 hc
  obtain ⟨C, hC, h41, n1⟩ := ctx_fam hC1 41 (fun q : {q : AV × List Int // asI q.1 = some q.2 ∧ q.2.length = l.length} => [.agg [v, .str (bs f)], q.1.1]) (fun q => .bool (!thB l f (gI q.1.2))) (fun q => by
    refine p41 hv hm hfl (h := gI q.1.2) ?_
    rw [q.2.1]
    congr 1
    apply List.ext_getElem
    · rw [hL_len, q.2.2]
    · intro i h1 h2
      simp [hL, gI_of h1]) (by
    rintro ⟨⟨a, b⟩, h1, h2⟩ ⟨⟨c, d⟩, h3, h4⟩ e
    simp at e h1 h3
    subst e
    rw [h1] at h3
    injection h3 with h3
    subst h3; rfl)
  refine ⟨C, hC, ?_, ?_, fun {z L} h1 h2 => h41 ⟨(z, L), h1, h2⟩, fun g a b c d e f => by rw [n1 g f, up g a b c d e]⟩
  · rw [n1 15 (by decide)]; exact h15
  · intro x es g h1 h2; rw [n1 39 (by decide)]; exact h39 h1 h2
/-- what stays through the law -/
structure D8 (hs0 : HS) (s : AS) (x p v : AV) (f : List UInt8) (g g2 n : Nat) : Prop where
  e1 : s.env 1 = p
  e2 : s.env 2 = .int .u8 (g2 : Int)
  e3 : s.env 3 = .ptr (.agg [x, .int .u8 (g : Int)])
  e6 : s.env 6 = .bool false
  e7 : s.env 7 = .ref hs0.nh 0
  e8 : s.env 8 = .int .i64 (n : Int)
  h7 : s.hs.heap hs0.nh = some [v, .str (bs f)]
  nh : hs0.nh < s.hs.nh
theorem p8 {x p : AV} {es ps : List Int} (hx : IsU8 x es) {g g2 : Nat} (hg : g < 256) (hg2 : g2 < 256) (hp : IsU8 p ps) : PCall Tryd.prog 8 [.agg [x, .int .u8 (g : Int)], p, .int .u8 (g2 : Int)] (.bool true) := by
  have hck := chk_made es g hx.2
  have hck2 := chk_made es g2 hx.2
  have hli := lenV_i es
  obtain ⟨C, hC, h15, h39, h41, up⟩ := ctxD hli hck
  obtain ⟨hms, hfl, _⟩ := chk_0 hck
  obtain ⟨m1, m2, m3, m4⟩ := meas_0 hms
  have hm1 := h39 hx hg
  have hm2 := h39 hx hg2
  have h21 : ∀ {z : AV} {o : List Int} {f : List UInt8}, asI z = some o → C 21 [.agg [lenV es, .str (bs f)], z] = some (.int .i64 (liesR (mkL es) f o)) := fun {z o f} hz => by
    rw [up 21 (by decide) (by decide) (by decide) (by decide) (by decide) (by decide)]; exact CA_21 hli hz
  unfold madeV at hm1 hm2
  have hal := alen_of hli
  have hld := asI_ld hli
  have hst := asI_sto hli
  have hcl := asI_cells hli
  have hxld := leaf_ld hx.leaf
  have hxs : x.sto = true := by rcases hx.1 with ⟨rfl, _⟩ | rfl <;> rfl
  have hxc : x.cells = [x] := by rcases hx.1 with ⟨rfl, _⟩ | rfl <;> rfl
  generalize mkF g ((mkL es).length - 1) = f at *
  generalize mkF g2 ((mkL es).length - 1) = f2 at *
  generalize lenV es = v at *
  generalize mkL es = l at *
  refine PCall.of hC ok8 (by simp) rfl fun hs hb => ?_
  simp only [A8, R8]
  rw [At.awp_seq]
  simp [hxs, -At.awp_seq]
  rw [At.awp_seq]
  simp [hm1, -At.awp_seq]
  rw [At.awp_seq]
  have ld0 : aload (fun i => if i = hs.nh then some [v, .str (bs f)] else if i = hs.nh then some [.nilsl, .str (bs [])] else hs.heap i) false 1 (.ref hs.nh 0) = some v := ldc (ys := [v, .str (bs f)]) (by simp) rfl
  simp [fa, ld0, hal, -At.awp_seq]
  rw [At.awp_seq]
  simp [-At.awp_seq]
  rw [At.awp_seq]
  refine At.cut (fun s => D8 hs s x p v f g g2 l.length ∧ s.env 10 = .nilsl ∧ ∃ z, s.env 9 = z ∧ asI z = some (hL l.length fun k => (k : Int))) ?_ ?_
  · simp
    refine At.loop (fun (i : Nat) s => i ≤ l.length ∧ D8 hs s x p v f g g2 l.length ∧ s.env 10 = .nilsl ∧ s.env 24 = .int .i64 (l.length : Int) ∧ s.env 25 = .int .i64 (i : Int) ∧ Outs 1 s.hs (s.env 9) (ints (hL i fun k => (k : Int)))) (fun i => l.length - i) 0 ?_ ?_
    · simp
      exact ⟨⟨rfl, rfl, rfl, rfl, rfl, rfl, by simp, by simp⟩, .nil⟩
    rintro N i s hN ⟨hi, ⟨e1, e2, e3, e6, e7, e8, h7, hnh⟩, e10, e24, e25, ho⟩
    simp [e24, e25]
    refine At.dec (fun hlt => ?_) (fun hlt => ?_)
    · have w1 := wrap_nat1 (show i < _ by omega)
      obtain ⟨y, hs', a1, a2, a3⟩ := ho.add1 (by rw [hL_len]; omega) (i : Int)
      have hLs : hL (i + 1) (fun k => (k : Int)) = hL i (fun k => (k : Int)) ++ [(i : Int)] := by simp only [hL]; rw [List.range_succ, List.map_append]; rfl
      rw [← hLs] at a2
      simp [e25, astoAll, sto_in, cel_in, a1]
      refine hN (i + 1) _ (by omega) ⟨by omega, ⟨e1, e2, e3, e6, e7, e8, by rw [← h7]; exact congrFun a3.heap _, by show hs.nh < hs'.nh; rw [a3.nh]; exact hnh⟩, ?_⟩
      simp [e10, e24, w1]
      exact a2
    · have : i = l.length := by omega
      subst this
      simp
      exact At.of ⟨⟨e1, e2, e3, e6, e7, e8, h7, hnh⟩, e10, ho.asI (by rw [hL_len]; omega)⟩
  rintro s ⟨⟨e1, e2, e3, e6, e7, e8, h7, hnh⟩, e10, z, e9, hz⟩
  rw [At.awp_seq]
  refine At.cut (fun s => D8 hs s x p v f g g2 l.length ∧ ∃ o z, s.env 10 = z ∧ asI z = some o ∧ IsOrd l.length o) ?_ ?_
  · simp
    refine At.loop (fun (q : List Int × List Int) s => D8 hs s x p v f g g2 l.length ∧ s.env 12 = .int .i64 (q.1.length : Int) ∧ Outs 1 s.hs (s.env 10) (ints q.1) ∧ (∃ z, s.env 9 = z ∧ asI z = some q.2) ∧ IsOrd l.length (q.1 ++ q.2)) (fun q => q.2.length) ([], hL l.length fun k => (k : Int)) ?_ ?_
    · simp [e10]
      exact ⟨⟨e1, e2, e3, e6, e7, e8, h7, hnh⟩, .nil, by rw [e9]; exact hz, List.Perm.refl _⟩
    clear e1 e2 e3 e6 e7 e8 h7 hnh e10 e9 hz z s
    rintro N ⟨o, r⟩ s hN ⟨⟨e1, e2, e3, e6, e7, e8, h7, hnh⟩, e12, ho, ⟨z, e9, hz⟩, hor⟩
    simp only at e12 ho hz hor
    have hlen := hor.len
    rw [List.length_append] at hlen
    have halz := alen_of hz
    have hc0 : decide ((0 : Int) < (r.length : Int)) = decide (0 < r.length) := by rw [Bool.eq_iff_iff]; simp only [decide_eq_true_eq]; omega
    rw [At.awp_seq, At.awp_seq]
    simp [e9, halz, -At.awp_seq]
    by_cases hr : r = []
    · subst hr
      simp
      rw [List.append_nil] at hor
      exact At.of ⟨⟨e1, e2, e3, e6, e7, e8, h7, hnh⟩, o, ho.asI (by omega), hor⟩
    have hr0 : 0 < r.length := List.length_pos_iff.2 hr
    simp [hr0, -At.awp_seq]
    rw [At.awp_seq]
    simp [-At.awp_seq]
    rw [At.awp_seq]
    simp [-At.awp_seq]
    rw [At.awp_seq]
    refine At.cut (fun s => D8 hs s x p v f g g2 l.length ∧ s.env 12 = .int .i64 (o.length : Int) ∧ Outs 1 s.hs (s.env 10) (ints o) ∧ s.env 9 = z ∧ ∃ k : Nat, s.env 13 = .int .i64 (k : Int) ∧ k < r.length) ?_ ?_
    · have halp := hp.len
      have hcp : decide ((o.length : Int) < (ps.length : Int)) = decide (o.length < ps.length) := by rw [Bool.eq_iff_iff]; simp only [decide_eq_true_eq]; omega
      by_cases h1 : o.length < ps.length
      · have hix := hp.get h1
        have hbd := hp.2 (gI ps o.length) (by rw [gI_of h1]; exact List.getElem_mem _)
        have wc : IntKind.i64.wrap (gI ps o.length) = gI ps o.length := wrap64 (by omega) (by omega)
        simp [e1, e9, e12, halp, halz, h1, hix, wc, show ¬ (r.length : Int) = 0 by omega, hr]
        refine At.of ⟨⟨e1, e2, e3, e6, e7, e8, h7, hnh⟩, ho, ((gI ps o.length).tmod r.length).toNat, ?_, ?_⟩
        · congr 1
          exact (Int.toNat_of_nonneg (Int.tmod_nonneg _ hbd.1)).symm
        · have := Int.tmod_lt_of_pos (gI ps o.length) (show (0 : Int) < r.length by omega)
          have := Int.tmod_nonneg (r.length : Int) hbd.1
          omega
      · simp [e1, e9, e12, halp, halz, h1]
        exact At.of ⟨⟨e1, e2, e3, e6, e7, e8, h7, hnh⟩, ho, 0, rfl, hr0⟩
    clear e1 e2 e3 e6 e7 e8 h7 hnh e12 e9 ho s
    rintro s ⟨⟨e1, e2, e3, e6, e7, e8, h7, hnh⟩, e12, ho, e9, k, e13, hk⟩
    have hix := idx_g hz hk (k := .i64)
    obtain ⟨y, hs', a1, a2, a3⟩ := ho.add1 (by omega) (gI r k)
    obtain ⟨y1, z1, hs1, y2, z2, hs2, b1, b2, b3, b4, b5, b6, b7⟩ := cut_out hz hk (by omega) hs'
    have w1 := wrap_nat1 (show k < _ by omega)
    have w2 := wrap_nat1 (show o.length < _ by omega)
    generalize hk1 : ((k + 1 : Nat) : Int) = k1 at w1 b3
    simp [e9, e12, e13, hix, astoAll, sto_in, cel_in, a1, b1, b2, w1, b3, b4]
    refine hN (o ++ [gI r k], r.take k ++ r.drop (k + 1)) _ (by simp only [List.length_append, List.length_take, List.length_drop]; omega) ⟨⟨e1, e2, e3, e6, e7, e8, ?_, ?_⟩, ?_, ?_, ?_, ?_⟩
    · show hs2.heap hs.nh = _
      rw [b6.heap, a3.heap]; exact h7
    · show hs.nh < hs2.nh
      rw [b6.nh, a3.nh]; exact hnh
    · simp [w2]
    · exact a2.keep b7
    · exact ⟨z2, rfl, b5⟩
    · exact ord_step hor hk
  clear e1 e2 e3 e6 e7 e8 h7 hnh e10 e9 hz z s
  rintro s ⟨⟨e1, e2, e3, e6, e7, e8, h7, hnh⟩, o, zo, e10, hzo, hord⟩
  have hol := hord.len
  have halo := alen_of hzo
  have mk : amake false 1 [.int .i64 0] s.hs (.int .i64 (l.length : Int)) (.int .i64 (l.length : Int)) = some (.msl false 1 s.hs.nh 0 l.length true, s.hs.blk (List.replicate l.length (.int .i64 0))) := amake_eq (by omega)
  have hz : List.replicate l.length (.int .i64 0) = ints (hL l.length (hO (o.take 0))) := by
    apply List.ext_getElem?
    intro j
    simp only [ints, hL, List.getElem?_map, List.getElem?_range, List.take_zero]
    by_cases hj : j < l.length
    · simp [hj, hO]
    · simp [hj]
  rw [hz] at mk
  rw [At.awp_seq]
  simp [e8, mk, -At.awp_seq]
  rw [At.awp_seq]
  generalize hbs : s.hs = hs0 at *
  refine At.cut (fun s => s.env 2 = .int .u8 (g2 : Int) ∧ s.env 3 = .ptr (.agg [x, .int .u8 (g : Int)]) ∧ s.env 7 = .ref hs.nh 0 ∧ s.env 10 = zo ∧ s.env 14 = .msl false 1 hs0.nh 0 l.length true ∧ s.hs = hs0.blk (ints (hL l.length (hO o)))) ?_ ?_
  · simp [e10, halo]
    refine At.loop (fun (i : Nat) s => i ≤ l.length ∧ s.env 2 = .int .u8 (g2 : Int) ∧ s.env 3 = .ptr (.agg [x, .int .u8 (g : Int)]) ∧ s.env 7 = .ref hs.nh 0 ∧ s.env 10 = zo ∧ s.env 14 = .msl false 1 hs0.nh 0 l.length true ∧ s.env 69 = zo ∧ s.env 70 = .int .i64 (l.length : Int) ∧ s.env 71 = .int .i64 (i : Int) ∧ s.hs = hs0.blk (ints (hL l.length (hO (o.take i))))) (fun i => l.length - i) 0 ?_ ?_
    · simp [e2, e3, e7, e10, hol]
    clear e1 e2 e3 e6 e7 e8 h7 e10 hbs s
    rintro N i s hN ⟨hi, e2, e3, e7, e10, e14, e69, e70, e71, ehs⟩
    simp [e70, e71]
    refine At.dec (fun hlt => ?_) (fun hlt => ?_)
    · have hi' : i < o.length := by omega
      have hix := idx_g hzo hi' (k := .i64)
      obtain ⟨a, ha⟩ : ∃ a : Nat, gI o i = (a : Int) := ⟨(gI o i).toNat, by have := hord.rng (gI o i) (by rw [gI_of hi']; exact List.getElem_mem _); omega⟩
      have har := hord.rng (gI o i) (by rw [gI_of hi']; exact List.getElem_mem _)
      rw [ha] at hix har
      have hal2 : a < l.length := by omega
      have hnt : (a : Int) ∉ o.take i := by
        rw [← ha, gI_of hi']
        intro hm
        obtain ⟨j, hj, e⟩ := List.mem_take_iff_getElem.1 hm
        have := (List.getElem_inj hord.nd).1 e
        omega
      have ix : aidxS 1 (.msl false 1 hs0.nh 0 l.length true) (.int .i64 (a : Int)) = some (.ref hs0.nh a) := aidx_msln hal2
      have st : astore (hs0.blk (ints (hL l.length (hO (o.take i))))).heap 1 (.ref hs0.nh a) (.int .i64 (i : Int)) = some (fun k => if k = hs0.nh then some ((ints (hL l.length (hO (o.take i)))).set a (.int .i64 (i : Int))) else (hs0.blk (ints (hL l.length (hO (o.take i))))).heap k) := store_cell (by simp) (by rw [ints_len, hL_len]; exact hal2) rfl
      have hnew : hL l.length (hO (o.take (i + 1))) = hL l.length fun j => if j = a then (i : Int) else hO (o.take i) j := by
        refine hL_cong fun k _ => ?_
        rw [take_snoc hi', ← gI_of hi', ha, hO_snoc hnt]
        simp [Nat.min_eq_left (Nat.le_of_lt hi')]
      rw [hL_set hal2] at st
      rw [← hnew] at st
      have fin : ∀ st' : HS, st' = (hs0.blk (ints (hL l.length (hO (o.take i))))).upd hs0.nh (ints (hL l.length (hO (o.take (i + 1))))) → st' = hs0.blk (ints (hL l.length (hO (o.take (i + 1))))) := fun st' e => by rw [e, HS.upd_blk]
      generalize hy2 : ints (hL l.length (hO (o.take (i + 1)))) = y2 at st fin
      have w1 := wrap_nat1 (show i < _ by omega)
      generalize hb : hs0.blk (ints (hL l.length (hO (o.take i)))) = hb1 at *
      simp [ehs, e14, e69, e71, hix, ix, st]
      refine hN (i + 1) _ (by omega) ⟨by omega, ?_⟩
      rw [hy2]
      simp [e2, e3, e7, e10, e14, e69, e70, w1]
      exact fin _ rfl
    · have : i = o.length := by omega
      subst this
      rw [List.take_length] at ehs
      simp
      exact At.of ⟨e2, e3, e7, e10, e14, ehs⟩
  clear e1 e2 e3 e6 e7 e8 e10 hbs mk hz s
  rintro s ⟨e2, e3, e7, e10, e14, ehs⟩
  have hv1 : ∀ c ∈ f, c = 118 ∨ c = 109 := fun c hcm => by have := (fmv_iff f).1 (chk_0 hck).2.2 c hcm; simp at this; exact this.symm
  have hth : thB l f (gI (hL l.length (hO o))) = (decide (crsL (hO o) (l.length - 1) = f) && fitB l (hO o)) := by
    have e : ∀ k, k < l.length → gI (hL l.length (hO o)) k = hO o k := fun k hk => gI_hL hk
    rw [thB_eq hms hfl hv1, crsL_cong (n := l.length - 1) (fun k hk => e k (by omega)), fitB_cong e]
  have k41 := h41 (z := .sl 1 (ints (hL l.length (hO o))) .shared) (L := hL l.length (hO o)) (asI_sl (by rw [hL_len]; omega)) (hL_len _ _)
  obtain ⟨c, hfz⟩ := frz_heights (hp := (hs0.blk (ints (hL l.length (hO o)))).heap) (b := hs0.nh) (L := hL l.length (hO o)) (n := l.length) (by simp) (hL_len _ _)
  have k41 := h41 (z := .sl 1 (ints (hL l.length (hO o))) c) (L := hL l.length (hO o)) (asI_sl (by rw [hL_len]; omega)) (hL_len _ _)
  have a41 : alcall C 41 (hs0.blk (ints (hL l.length (hO o)))) [.agg [v, .str (bs f)], .msl false 1 hs0.nh 0 l.length true] = some (.bool !thB l f (gI (hL l.length (hO o)))) := by
    unfold alcall
    rw [show [AV.agg [v, .str (bs f)], AV.msl false 1 hs0.nh 0 l.length true].map (frz (hs0.blk (ints (hL l.length (hO o)))).heap 2) = [.agg [v, .str (bs f)], .sl 1 (ints (hL l.length (hO o))) c] by
      rw [List.map_cons, List.map_cons, hfz, frz_agg, List.map_cons, List.map_cons, frzL_asI hli, frzL_str]; rfl, k41]
    rfl
  have h7 : (hs0.blk (ints (hL l.length (hO o)))).heap hs.nh = some [v, .str (bs f)] := by rw [HS.blk_old (by omega)]; exact h7
  rw [← ehs] at a41 h7
  rw [hth] at a41
  have l7 : aload s.hs.heap true 2 (.ref hs.nh 0) = some (.agg [v, .str (bs f)]) := load_ref2 h7
  have q1 := h21 (f := f) hzo
  have q2 := h21 (f := f2) hzo
  rw [liesR_ord hck hord] at q1
  rw [liesR_ord hck2 hord] at q2
  have nhs : hs.nh < s.hs.nh := by rw [ehs]; show hs.nh < hs0.nh + 1; omega
  clear ehs hth k41
  generalize crsL (hO o) (l.length - 1) = cr at *
  generalize fitB l (hO o) = fb at *
  have ne1 : ¬ hs.nh = s.hs.nh := by omega
  have l18 : aload (fun k => if k = s.hs.nh then some [v, .str (bs f2)] else if k = s.hs.nh then some [.nilsl, .str (bs [])] else s.hs.heap k) false 1 (.ref s.hs.nh 1) = some (.str (bs f2)) := ldc (ys := [v, .str (bs f2)]) (by simp) rfl
  have l18w : aload (fun k => if k = s.hs.nh then some [v, .str (bs f2)] else if k = s.hs.nh then some [.nilsl, .str (bs [])] else s.hs.heap k) true 2 (.ref s.hs.nh 0) = some (.agg [v, .str (bs f2)]) := load_ref2 (by simp)
  have l7s : aload (fun k => if k = s.hs.nh then some [v, .str (bs f2)] else if k = s.hs.nh then some [.nilsl, .str (bs [])] else s.hs.heap k) false 1 (.ref hs.nh 1) = some (.str (bs f)) := ldc (ys := [v, .str (bs f)]) (by simp only [ne1, if_false]; exact h7) rfl
  have hfin : cr = f ∧ fb = true ∨ ((decide (cr = f) && fb) = false ∧ ¬ (cr = f ∧ fb = true)) := by
    by_cases h1 : cr = f <;> cases fb <;> simp [h1]
  rcases hfin with ⟨rfl, rfl⟩ | ⟨h1, h2⟩
  · by_cases h3 : f2 = cr
    · subst h3
      simp [e2, e3, e7, e10, e14, l7, q1, a41, fa, hxld, hxc, hxs, afill, setL, hm2, l18, l18w, l7s, q2, h15]
    · have h3' : ¬ cr = f2 := fun e => h3 e.symm
      rw [if_neg (fun h => h3' h.1)] at q2
      simp [e2, e3, e7, e10, e14, l7, q1, a41, fa, hxld, hxc, hxs, afill, setL, hm2, l18, l18w, l7s, q2, h15, h3]
  · rw [h1] at a41
    rw [if_neg h2] at q1
    by_cases h3 : f2 = f
    · subst h3
      simp [e2, e3, e7, e10, e14, l7, q1, a41, fa, hxld, hxc, hxs, afill, setL, hm2, l18, l18w, l7s, h15]
    · simp [h3, e2, e3, e7, e10, e14, l7, q1, a41, fa, hxld, hxc, hxs, afill, setL, hm2, l18, l18w, l7s, h15]
theorem lies_typed (xs : List AV) (h : Typed [TMap, .sl (.int .u8), .int .u8] xs) : PCall Tryd.prog 8 xs (.bool true) := by
  obtain ⟨x, p, c, rfl, hx, hp, hc⟩ := h.three
  obtain ⟨y, es, g, rfl, h1, h2⟩ := map_typed hx
  obtain ⟨ps, h3⟩ := IsU8.of hp
  obtain ⟨g2, rfl, h4⟩ := arg_u8 hc
  exact p8 h1 h2 h4 h3
end Go.Proofs.YtedpcenghofpoaaDoor
