/-
  A law of this seat's translation, compacted, held against the loaded program by the kernel. Printed by wip/tools/Gex.lean.
  Whichever steps are done: the law's contract. Own work.
-/
import Derived.Test.YtedpcenghofpoaaDoorC1
import Derived.Test.YtedpcenghofpoaaDoorGK
import Derived.Test.YtedpcenghofpoaaDoorGO
import Derived.Test.YtedpcenghofpoaaDoorFx4
namespace Go.Proofs.YtedpcenghofpoaaDoor
open Go Fw
def A7 : ACode := .seq (.reg [⟨some 2, none, .boxi (.t 0)⟩, ⟨some 4, none, .mv (.c (.bool false))⟩])
  (.seq (.reg [⟨some 18, none, .load true 2 (.t 2)⟩, ⟨some 19, none, .pcall 39 [.t 18]⟩, ⟨some 5, none, .alloc [.nilsl, .str (bs [])]⟩, ⟨none, none, .store 2 (.t 5) (.t 19)⟩])
  (.seq (.reg [⟨some 20, none, .load true 2 (.t 5)⟩, ⟨some 21, none, .pcall 40 [.t 20]⟩, ⟨some 22, none, .len false (.t 21)⟩, ⟨some 23, none, .bin 0 .gtr (.t 22) (.c (.int .i64 0))⟩, ⟨some 6, none, .mv (.t 23)⟩])
  (.seq (.reg [⟨some 7, none, .mv (.c (.nilsl))⟩])
  (.seq (.reg [⟨some 24, none, .load true 2 (.t 5)⟩, ⟨some 8, none, .alloc [.nilsl, .str (bs [])]⟩, ⟨none, none, .store 2 (.t 8) (.t 24)⟩])
  (.seq (.seq (.reg [⟨some 9, none, .mv (.c (.int .i64 0))⟩])
  (.block 0 (.loop (.seq (.seq (.reg [⟨some 25, none, .mv (.t 9)⟩, ⟨some 26, none, .bin 0 .lss (.t 25) (.c (.int .i64 7))⟩])
  (.cond (.t 26) (.skip) (.exit 0)))
  (.seq (.block 1 (.seq (.reg [⟨some 30, none, .load true 2 (.t 8)⟩, ⟨some 31, none, .pcall 30 [.t 30]⟩, ⟨some 29, none, .mv (.t 31)⟩, ⟨some 32, none, .extract (.t 29) 0⟩, ⟨some 33, none, .extract (.t 29) 1⟩, ⟨some 10, none, .mv (.t 32)⟩, ⟨some 11, none, .mv (.t 33)⟩])
  (.seq (.seq (.reg [⟨some 34, none, .mv (.t 11)⟩, ⟨some 35, none, .bin 0 .neq (.t 34) (.c (.int .i64 0))⟩])
  (.cond (.t 35) (.seq (.reg [⟨some 4, none, .mv (.c (.bool false))⟩])
  (.ret)) (.skip)))
  (.seq (.seq (.reg [⟨some 36, none, .mv (.t 10)⟩, ⟨some 37, none, .len false (.t 36)⟩, ⟨some 38, none, .bin 0 .eql (.t 37) (.c (.int .i64 0))⟩])
  (.cond (.t 38) (.exit 0) (.skip)))
  (.seq (.reg [⟨some 39, none, .mv (.t 10)⟩, ⟨some 40, none, .iaddrS 1 (.t 39) (.c (.int .i64 0))⟩, ⟨some 41, none, .load false 1 (.t 40)⟩, ⟨some 12, none, .mv (.t 41)⟩])
  (.seq (.seq (.reg [⟨some 42, none, .mv (.t 9)⟩, ⟨some 43, none, .mv (.t 1)⟩, ⟨some 44, none, .len false (.t 43)⟩, ⟨some 45, none, .bin 0 .lss (.t 42) (.t 44)⟩])
  (.cond (.t 45) (.reg [⟨some 46, none, .mv (.t 10)⟩, ⟨some 47, none, .mv (.t 1)⟩, ⟨some 48, none, .mv (.t 9)⟩, ⟨some 49, none, .iaddrS 1 (.t 47) (.t 48)⟩, ⟨some 50, none, .load false 1 (.t 49)⟩, ⟨some 51, none, .conv .i64 (.t 50)⟩, ⟨some 52, none, .mv (.t 10)⟩, ⟨some 53, none, .len false (.t 52)⟩, ⟨some 54, none, .bin 0 .rem (.t 51) (.t 53)⟩, ⟨some 55, none, .iaddrS 1 (.t 46) (.t 54)⟩, ⟨some 56, none, .load false 1 (.t 55)⟩, ⟨some 12, none, .mv (.t 56)⟩]) (.skip)))
  (.seq (.reg [⟨some 58, none, .load true 2 (.t 8)⟩, ⟨some 59, none, .mv (.t 12)⟩, ⟨some 60, none, .pcall 32 [.t 58, .t 59]⟩, ⟨some 57, none, .mv (.t 60)⟩, ⟨some 61, none, .extract (.t 57) 0⟩, ⟨some 62, none, .extract (.t 57) 1⟩, ⟨some 13, none, .alloc [.nilsl, .str (bs [])]⟩, ⟨none, none, .store 2 (.t 13) (.t 61)⟩, ⟨some 14, none, .mv (.t 62)⟩])
  (.seq (.seq (.reg [⟨some 63, none, .mv (.t 14)⟩, ⟨some 64, none, .bin 0 .neq (.t 63) (.c (.int .i64 0))⟩, ⟨some 65, none, .mv (.t 64)⟩, ⟨some 66, some (65, false), .faddr false 1 0 (.t 13)⟩, ⟨some 67, some (65, false), .load false 1 (.t 66)⟩, ⟨some 68, some (65, false), .len false (.t 67)⟩, ⟨some 69, some (65, false), .faddr false 1 0 (.t 8)⟩, ⟨some 70, some (65, false), .load false 1 (.t 69)⟩, ⟨some 71, some (65, false), .len false (.t 70)⟩, ⟨some 72, some (65, false), .bin 0 .geq (.t 68) (.t 71)⟩, ⟨some 73, none, .pick (.t 65) (.c (.bool true)) (.t 72)⟩, ⟨some 74, none, .mv (.t 73)⟩, ⟨some 75, some (74, false), .faddr false 1 0 (.t 13)⟩, ⟨some 76, some (74, false), .load false 1 (.t 75)⟩, ⟨some 77, some (74, false), .len false (.t 76)⟩, ⟨some 78, some (74, false), .bin 0 .lss (.t 77) (.c (.int .i64 1))⟩, ⟨some 79, none, .pick (.t 74) (.c (.bool true)) (.t 78)⟩, ⟨some 80, none, .mv (.t 79)⟩, ⟨some 81, some (80, false), .faddr false 1 1 (.t 13)⟩, ⟨some 82, some (80, false), .load false 1 (.t 81)⟩, ⟨some 83, some (80, false), .len true (.t 82)⟩, ⟨some 84, some (80, false), .faddr false 1 0 (.t 13)⟩, ⟨some 85, some (80, false), .load false 1 (.t 84)⟩, ⟨some 86, some (80, false), .len false (.t 85)⟩, ⟨some 87, some (80, false), .bin 0 .sub (.t 86) (.c (.int .i64 1))⟩, ⟨some 88, some (80, false), .bin 0 .neq (.t 83) (.t 87)⟩, ⟨some 89, none, .pick (.t 80) (.c (.bool true)) (.t 88)⟩])
  (.cond (.t 89) (.seq (.reg [⟨some 4, none, .mv (.c (.bool false))⟩])
  (.ret)) (.skip)))
  (.seq (.seq (.reg [⟨some 90, none, .faddr false 1 0 (.t 13)⟩, ⟨some 91, none, .load false 1 (.t 90)⟩, ⟨some 92, none, .len false (.t 91)⟩, ⟨some 93, none, .mv (.c (.int .i64 0))⟩])
  (.block 2 (.loop (.seq (.reg [⟨some 94, none, .bin 0 .lss (.t 93) (.t 92)⟩])
  (.seq (.cond (.t 94) (.skip) (.exit 2))
  (.seq (.block 3 (.seq (.reg [⟨some 95, none, .iaddrS 1 (.t 91) (.t 93)⟩, ⟨some 96, none, .load false 1 (.t 95)⟩, ⟨some 16, none, .mv (.t 96)⟩])
  (.seq (.reg [⟨some 97, none, .mv (.t 16)⟩, ⟨some 98, none, .bin 0 .lss (.t 97) (.c (.int .i64 1))⟩, ⟨some 99, none, .mv (.t 98)⟩, ⟨some 100, some (99, false), .mv (.t 16)⟩, ⟨some 101, some (99, false), .bin 0 .gtr (.t 100) (.c (.int .i64 100))⟩, ⟨some 102, none, .pick (.t 99) (.c (.bool true)) (.t 101)⟩])
  (.cond (.t 102) (.seq (.reg [⟨some 4, none, .mv (.c (.bool false))⟩])
  (.ret)) (.skip)))))
  (.reg [⟨some 103, none, .bin 0 .add (.t 93) (.c (.int .i64 1))⟩, ⟨some 93, none, .mv (.t 103)⟩])))))))
  (.seq (.seq (.reg [⟨some 104, none, .load true 2 (.t 13)⟩, ⟨some 105, none, .pcall 40 [.t 104]⟩, ⟨some 106, none, .len false (.t 105)⟩, ⟨some 107, none, .bin 0 .gtr (.t 106) (.c (.int .i64 0))⟩, ⟨some 108, none, .mv (.t 6)⟩, ⟨some 109, none, .bin 1 .neq (.t 107) (.t 108)⟩])
  (.cond (.t 109) (.seq (.reg [⟨some 4, none, .mv (.c (.bool false))⟩])
  (.ret)) (.skip)))
  (.seq (.reg [⟨some 110, none, .mv (.t 7)⟩, ⟨some 111, none, .mv (.t 12)⟩, ⟨some 112, none, .buildSl 1 [.t 111]⟩, ⟨some 113, none, .append 1 (.t 110) (.t 112)⟩, ⟨some 7, none, .mv (.t 113)⟩])
  (.reg [⟨some 114, none, .load true 2 (.t 13)⟩, ⟨none, none, .store 2 (.t 8) (.t 114)⟩]))))))))))))
  (.reg [⟨some 27, none, .mv (.t 9)⟩, ⟨some 28, none, .bin 0 .add (.t 27) (.c (.int .i64 1))⟩, ⟨some 9, none, .mv (.t 28)⟩]))))))
  (.seq (.reg [⟨some 17, none, .mv (.c (.int .i64 22))⟩])
  (.seq (.seq (.reg [⟨some 115, none, .mv (.t 6)⟩])
  (.cond (.t 115) (.reg [⟨some 17, none, .mv (.c (.int .i64 0))⟩]) (.skip)))
  (.seq (.reg [⟨some 116, none, .faddr false 1 0 (.t 8)⟩, ⟨some 117, none, .load false 1 (.t 116)⟩, ⟨some 118, none, .len false (.t 117)⟩, ⟨some 119, none, .bin 0 .eql (.t 118) (.c (.int .i64 1))⟩, ⟨some 120, none, .mv (.t 6)⟩, ⟨some 121, none, .bin 1 .eql (.t 119) (.t 120)⟩, ⟨some 122, none, .mv (.t 121)⟩, ⟨some 123, some (122, true), .load true 2 (.t 5)⟩, ⟨some 124, some (122, true), .mv (.t 7)⟩, ⟨some 125, some (122, true), .pcall 34 [.t 123, .t 124]⟩, ⟨some 126, some (122, true), .mv (.t 17)⟩, ⟨some 127, some (122, true), .bin 0 .eql (.t 125) (.t 126)⟩, ⟨some 128, none, .pick (.t 122) (.t 127) (.c (.bool false))⟩, ⟨some 129, none, .mv (.t 128)⟩, ⟨some 130, some (129, true), .pcall 15 []⟩, ⟨some 131, none, .pick (.t 129) (.t 130) (.c (.bool false))⟩, ⟨some 4, none, .mv (.t 131)⟩])
  (.ret)))))))))
def R7 : List ARes := [.t 4]
theorem ok7 : FnOk Tryd.prog 7 [] pureFns A7 R7 132 := ⟨⟨Tryd.f7, _, Tryd.func7, rfl, rfl, by kernel_rfl, by kernel_rfl⟩, by kernel_rfl⟩
end Go.Proofs.YtedpcenghofpoaaDoor
set_option linter.unusedVariables false
set_option linter.unusedSimpArgs false
namespace Go.Proofs.YtedpcenghofpoaaDoor
open Go Fw

/-- what stays through the law's loop -/
structure D7 (b5 b8 : Nat) (v w : AV) (f : List UInt8) (ok : Bool) (k : Nat) (z : AV) (f2 : List UInt8) (d : AV) (ss : List Int) (s : AS) : Prop where
  e1 : s.env 1 = w
  e5 : s.env 5 = .ref b5 0
  e6 : s.env 6 = .bool ok
  e7 : s.env 7 = d
  e8 : s.env 8 = .ref b8 0
  e9 : s.env 9 = .int .i64 (k : Int)
  h5 : s.hs.heap b5 = some [v, .str (bs f)]
  h8 : s.hs.heap b8 = some [z, .str (bs f2)]
  od : Outs 1 s.hs d (ints ss)
  n5 : b5 < s.hs.nh
  n8 : b8 < s.hs.nh
  ne : b5 ≠ b8
def J7 (b5 b8 : Nat) (v w : AV) (l : List Int) (f : List UInt8) (ok : Bool) (s : AS) : Prop := ∃ k z f2 d ss l2, D7 b5 b8 v w f ok k z f2 d ss s ∧ asI z = some l2 ∧ P7 l f k ss l2 f2 ∧ fstC l2 f2 = none
def K7 (b5 b8 : Nat) (v w : AV) (f : List UInt8) (ok : Bool) (k : Nat) (z : AV) (l2 : List Int) (f2 : List UInt8) (d : AV) (ss : List Int) (s : AS) : Prop := ∃ i : Nat, s.env 12 = .int .i64 (i : Int) ∧ i < l2.length ∧ canB l2 f2 i = true ∧ D7 b5 b8 v w f ok k z f2 d ss s
def L7 (b3 : Nat) (z3 : AV) (f3 : List UInt8) (i : Nat) (D : AS → Prop) (s : AS) : Prop := D s ∧ s.env 12 = .int .i64 (i : Int) ∧ s.env 13 = .ref b3 0 ∧ s.hs.heap b3 = some [z3, .str (bs f3)] ∧ b3 < s.hs.nh
theorem sum30 {es : List Int} (h : ∀ a ∈ es, 0 ≤ a ∧ a ≤ 255) : (mkL es).sum ≤ 30 := by
  have n2 := (mkL_len es).2
  have hb : ∀ n ∈ mkL es, 1 ≤ n ∧ n ≤ 5 := by
    intro n hn
    unfold mkL at hn
    split at hn
    · simp at hn; omega
    · obtain ⟨a, ha, rfl⟩ := List.mem_map.1 hn
      exact len1_bd (h a (List.mem_of_mem_take ha)).1
  have hs : ∀ (l : List Int), (∀ n ∈ l, 1 ≤ n ∧ n ≤ 5) → l.sum ≤ 5 * l.length := by
    intro l
    induction l with
    | nil => simp
    | cons a l ih =>
      intro h
      have h1 := h a (by simp)
      have h2 := ih fun n hn => h n (by simp [hn])
      simp; omega
  have := hs _ hb
  omega
set_option maxRecDepth 100000 in
set_option maxHeartbeats 1000000 in
theorem p7 {x w : AV} {es ws : List Int} (hx : IsU8 x es) {g : Nat} (hg : g < 256) (hw : IsU8 w ws) : PCall Tryd.prog 7 [.agg [x, .int .u8 (g : Int)], w] (.bool true) := by
  have hck := chk_made es g hx.2
  have hli := lenV_i es
  obtain ⟨C1', hC1, h15, h43, h42, h44, h39, up⟩ := ctxL
  obtain ⟨hms, hfl, hfv⟩ := chk_0 hck
  obtain ⟨m1, m2, m3, m4⟩ := meas_0 hms
  have hl6 := (mkL_len es).2
  have hsum : (mkL es).sum ≤ 30 := sum30 hx.2
  obtain ⟨C, hC, h40f, n1⟩ := ctx_fam hC1 40 (fun i : { p : AV × List Int × List UInt8 // asI p.1 = some p.2.1 ∧ chk p.2.1 p.2.2 = 0 } => [.agg [i.1.1, .str (bs i.1.2.2)]]) (fun i => lstV i.1.2.1 i.1.2.2) (fun i => p40 i.2.1 i.2.2) (fun i j h => by
    obtain ⟨⟨a, b, c⟩, h1, h2⟩ := i
    obtain ⟨⟨a2, b2, c2⟩, h3, h4⟩ := j
    simp only [List.cons.injEq, AV.agg.injEq, AV.str.injEq, and_true] at h
    obtain ⟨rfl, h⟩ := h
    simp only at h1 h3
    rw [h1] at h3
    injection h3 with h3
    obtain rfl : c = c2 := bs_inj.1 h
    subst h3
    rfl)
  have h40 : ∀ {z : AV} {l : List Int} {f : List UInt8}, asI z = some l → chk l f = 0 → C 40 [.agg [z, .str (bs f)]] = some (lstV l f) := fun {z l f} hz hc => h40f ⟨(z, l, f), hz, hc⟩
  have h15 : C 15 [] = some (.bool true) := by rw [n1 15 (by decide)]; exact h15
  have hm1 : C 39 [.agg [x, .int .u8 (g : Int)]] = some (madeV es g) := by rw [n1 39 (by decide)]; exact h39 hx hg
  have upp : ∀ k, ¬ k = 40 → ¬ k = 15 → ¬ k = 43 → ¬ k = 42 → ¬ k = 44 → ¬ k = 39 → C k = CA k := fun k a b c d e f => by rw [n1 k a, up k b c d e f]
  unfold madeV at hm1
  have hal := alen_of hli
  have hxs : x.sto = true := by rcases hx.1 with ⟨rfl, _⟩ | rfl <;> rfl
  have hxc : x.cells = [x] := by rcases hx.1 with ⟨rfl, _⟩ | rfl <;> rfl
  generalize mkF g ((mkL es).length - 1) = f at *
  generalize lenV es = v at *
  generalize mkL es = l at *
  have h30 : ∀ {z : AV} {l : List Int} {f : List UInt8}, asI z = some l → C 30 [.agg [z, .str (bs f)]] = some (canV l f) := fun hz => by rw [upp 30 (by decide) (by decide) (by decide) (by decide) (by decide) (by decide)]; exact CA_30 hz
  have h32 : ∀ {z : AV} {l : List Int} {f : List UInt8}, asI z = some l → ∀ i, C 32 [.agg [z, .str (bs f)], .int .i64 i] = some (doV (doR l f i)) := fun hz i => by rw [upp 32 (by decide) (by decide) (by decide) (by decide) (by decide) (by decide)]; exact CA_32 hz i
  have h34 : ∀ {z : AV} {o : List Int}, asI z = some o → C 34 [.agg [v, .str (bs f)], z] = some (.int .i64 (verE l f o)) := fun hz => by rw [upp 34 (by decide) (by decide) (by decide) (by decide) (by decide) (by decide)]; exact CA_34 hli hz
  have hal4 : ∀ {l : List Int} {f : List UInt8}, alenK false (lstV l f) = some (.int .i64 ((foldL l f).length : Int)) := by intro l f; unfold lstV; rw [alen_out, List.length_map]
  refine PCall.of hC ok7 (by simp) rfl fun hs hb => ?_
  simp only [A7, R7]
  rw [At.awp_seq]
  simp [hxs, -At.awp_seq]
  rw [At.awp_seq]
  simp [hm1, -At.awp_seq]
  obtain ⟨hs0, hhs0⟩ : ∃ hs0 : HS, hs0 = ⟨fun k => if k = hs.nh then some [v, AV.str (bs f)] else if k = hs.nh then some [AV.nilsl, AV.str (bs [])] else hs.heap k, hs.nh + 1, hs.nt, hs.tok, hs.mp⟩ := ⟨_, rfl⟩
  have g3 : hs0.heap hs.nh = some [v, .str (bs f)] := by rw [hhs0]; simp
  have hnh : hs.nh < hs0.nh := by rw [hhs0]; exact Nat.lt_succ_self _
  rw [← hhs0]
  clear hhs0
  have l3 : aload hs0.heap true 2 (.ref hs.nh 0) = some (.agg [v, .str (bs f)]) := load_ref2 g3
  rw [At.awp_seq]
  simp [l3, h40 hli hck, hal4, -At.awp_seq]
  rw [At.awp_seq]
  simp [-At.awp_seq]
  rw [At.awp_seq]
  have st := st2_of (hp := fun i => if i = hs0.nh then some [.nilsl, .str (bs [])] else hs0.heap i) (i := hs0.nh) (u := .nilsl) (v := .str (bs [])) (by simp) v (.str (bs f))
  simp [l3, st, -At.awp_seq]
  obtain ⟨hs1, hhs1⟩ : ∃ hs1 : HS, hs1 = ⟨fun k => if k = hs0.nh then some [v, AV.str (bs f)] else if k = hs0.nh then some [AV.nilsl, AV.str (bs [])] else hs0.heap k, hs0.nh + 1, hs0.nt, hs0.tok, hs0.mp⟩ := ⟨_, rfl⟩
  have g5 : hs1.heap hs.nh = some [v, .str (bs f)] := by rw [hhs1]; simp only; rw [if_neg (by omega), if_neg (by omega)]; exact g3
  have g8 : hs1.heap hs0.nh = some [v, .str (bs f)] := by rw [hhs1]; simp
  have gn : hs1.nh = hs0.nh + 1 := by rw [hhs1]
  rw [← hhs1]
  clear hhs1 st l3 g3
  have hflat : ∀ {l : List Int} {f : List UInt8}, chk l f = 0 → (0 < (foldL l f).length ↔ Fla l f) := fun hc => by rw [List.length_pos_iff]; exact flat_iff hc
  obtain ⟨ok, hok⟩ : ∃ ok : Bool, ok = decide (0 < (foldL l f).length) := ⟨_, rfl⟩
  rw [← hok]
  rw [At.awp_seq]
  refine At.cut (J7 hs.nh hs0.nh v w l f ok) ?_ ?_
  · simp
    refine At.loop (fun (k : Nat) s => ∃ z f2 d ss l2, D7 hs.nh hs0.nh v w f ok k z f2 d ss s ∧ asI z = some l2 ∧ P7 l f k ss l2 f2) (fun k => l.length - k) 0 ?_ ?_
    · refine ⟨v, f, .nilsl, [], l, ⟨?_, ?_, ?_, ?_, ?_, ?_, g5, g8, .nil, (show hs.nh < hs1.nh by omega), (show hs0.nh < hs1.nh by omega), by omega⟩, hli, P7.nil hck hsum⟩ <;> simp
    rintro N k s hN ⟨z, f2, d, ss, l2, ⟨e1, e5, e6, e7, e8, e9, h5, h8, od, n5, n8, ne⟩, hz, hP⟩
    have hk7 : (k : Int) < 7 := by have := hP.len; omega
    obtain ⟨hm2, hfl2, hfv2⟩ := chk_0 hP.ck
    obtain ⟨q1, q2, q3, q4⟩ := meas_0 hm2
    have l8 : aload s.hs.heap true 2 (.ref hs0.nh 0) = some (.agg [z, .str (bs f2)]) := load_ref2 h8
    have l80 : aload s.hs.heap false 1 (.ref hs0.nh 0) = some z := ldc h8 rfl
    have hcv : canV l2 f2 = .tup [outV 1 (ints (canL l2 f2 l2.length)), .int .i64 0] := by unfold canV; rw [if_pos hP.ck]
    have k30 := h30 (f := f2) hz
    rw [hcv] at k30
    have hcl := canL_len l2 f2 l2.length
    have hci := asI_outV (l := canL l2 f2 l2.length) (by omega)
    have hcg := fun j h => can_get (l := l2) (f := f2) (j := j) h
    have hcn := can_none (l := l2) (f := f2)
    have hce := alen_of hci
    generalize canL l2 f2 l2.length = c at *
    generalize outV 1 (ints c) = cv at *
    rw [At.awp_seq, At.awp_seq]
    simp [e9, hk7, -At.awp_seq]
    rw [At.awp_seq]
    simp [-At.awp_seq]
    rw [At.awp_seq]
    simp [e8, l8, k30, -At.awp_seq]
    rw [At.awp_seq, At.awp_seq]
    simp [-At.awp_seq]
    rw [At.awp_seq, At.awp_seq]
    by_cases hc0 : c = []
    · subst hc0
      have hce : alenK false cv = some (.int .i64 0) := hce
      simp [hce]
      exact At.of ⟨k, z, f2, d, ss, l2, ⟨e1, e5, e6, e7, e8, e9, h5, h8, od, n5, n8, ne⟩, hz, hP, hcn rfl⟩
    have hcp : 0 < c.length := List.length_pos_iff.2 hc0
    have hc1 : ¬ (c.length : Int) = 0 := by omega
    have ix0 : aidxS 1 cv (.int .i64 0) = some (.ptr (.int .i64 (gI c 0))) := idx_g hci (i := 0) hcp
    simp [hce, hc0, -At.awp_seq]
    rw [At.awp_seq]
    simp [ix0, -At.awp_seq]
    rw [At.awp_seq]
    refine At.cut (K7 hs.nh hs0.nh v w f ok k z l2 f2 d ss) ?_ ?_
    · simp [e1, e9, hw.len]
      refine At.dec (fun hlt => ?_) (fun hlt => ?_)
      · have hkl : k < ws.length := by omega
        have ixw := hw.get hkl
        have hb : 0 ≤ gI ws k ∧ gI ws k ≤ 255 := by rw [gI_of hkl]; exact hw.2 _ (List.getElem_mem _)
        obtain ⟨t, ht⟩ : ∃ t : Nat, gI ws k = (t : Int) := ⟨(gI ws k).toNat, by omega⟩
        rw [ht] at ixw
        have wt : IntKind.i64.wrap (t : Int) = (t : Int) := wrap64 (by omega) (by omega)
        have r9 : abin 0 .rem (.int .i64 (t : Int)) (.int .i64 (c.length : Int)) = some (.int .i64 ((t % c.length : Nat) : Int)) := rem64 hcp
        have hj : t % c.length < c.length := Nat.mod_lt _ hcp
        have ixj := idx_g hci (k := .i64) hj
        obtain ⟨i, i1, i2, i3⟩ := hcg _ hj
        rw [i1] at ixj
        generalize ((t % c.length : Nat) : Int) = tj at *
        simp [e1, e9, ixw, wt, hce, r9, ixj, -abin_rem]
        exact At.of ⟨i, rfl, i2, i3, e1, e5, e6, e7, e8, e9, h5, h8, od, n5, n8, ne⟩
      · obtain ⟨i, i1, i2, i3⟩ := hcg 0 hcp
        simp [i1]
        exact At.of ⟨i, rfl, i2, i3, e1, e5, e6, e7, e8, e9, h5, h8, od, n5, n8, ne⟩
    clear e1 e5 e6 e7 e8 e9 h5 h8 od n5 n8 ne l8 l80 s
    rintro s ⟨i, e12, hi, hcan, ⟨e1, e5, e6, e7, e8, e9, h5, h8, od, n5, n8, ne⟩⟩
    have l8 : aload s.hs.heap true 2 (.ref hs0.nh 0) = some (.agg [z, .str (bs f2)]) := load_ref2 h8
    have k32 := h32 (f := f2) hz (i : Int)
    rw [doR_of hP.ck hi hcan] at k32
    have hP3 := hP.step hi hcan
    obtain ⟨_, hlt3⟩ := chk_step hP.ck hi hcan
    obtain ⟨l3, hl3⟩ : ∃ l3, l3 = (stepL l2 f2 i).1 := ⟨_, rfl⟩
    obtain ⟨f3, hf3⟩ : ∃ f3, f3 = (stepL l2 f2 i).2 := ⟨_, rfl⟩
    rw [← hl3, ← hf3] at hP3
    rw [← hl3] at hlt3
    have k32 : C 32 [.agg [z, .str (bs f2)], .int .i64 (i : Int)] = some (.tup [.agg [outV 1 (ints l3), .str (bs f3)], .int .i64 0]) := by rw [k32, hl3, hf3]; rfl
    clear hl3 hf3
    obtain ⟨hm3, hfl3, hfv3⟩ := chk_0 hP3.ck
    obtain ⟨r1, r2, r3, r4⟩ := meas_0 hm3
    have hz3 := asI_outV (l := l3) (by omega)
    have hlen3 := alen_of hz3
    have hl3s : (outV 1 (ints l3)).leaf = true := outV_leaf l3
    generalize outV 1 (ints l3) = z3 at *
    have st := st2_of (hp := fun j => if j = s.hs.nh then some [.nilsl, .str (bs [])] else s.hs.heap j) (i := s.hs.nh) (u := .nilsl) (v := .str (bs [])) (by simp) z3 (.str (bs f3))
    rw [At.awp_seq]
    simp [e8, e12, l8, k32, st, -At.awp_seq]
    obtain ⟨b3, hb3⟩ : ∃ b3, b3 = s.hs.nh := ⟨_, rfl⟩
    obtain ⟨hs3, hhs3⟩ : ∃ hs3 : HS, hs3 = ⟨fun k => if k = s.hs.nh then some [z3, AV.str (bs f3)] else if k = s.hs.nh then some [AV.nilsl, AV.str (bs [])] else s.hs.heap k, s.hs.nh + 1, s.hs.nt, s.hs.tok, s.hs.mp⟩ := ⟨_, rfl⟩
    have h5c : hs3.heap hs.nh = some [v, .str (bs f)] := by rw [hhs3]; simp only; rw [if_neg (by omega), if_neg (by omega)]; exact h5
    have h8c : hs3.heap hs0.nh = some [z, .str (bs f2)] := by rw [hhs3]; simp only; rw [if_neg (by omega), if_neg (by omega)]; exact h8
    have h3c : hs3.heap b3 = some [z3, .str (bs f3)] := by rw [hhs3, hb3]; simp
    have od3 : Outs 1 hs3 d (ints ss) := by rw [hhs3]; exact od.cong rfl rfl
    have n53 : hs.nh < hs3.nh := by rw [hhs3]; exact Nat.lt_succ_of_lt n5
    have n83 : hs0.nh < hs3.nh := by rw [hhs3]; exact Nat.lt_succ_of_lt n8
    have n33 : b3 < hs3.nh := by rw [hhs3, hb3]; exact Nat.lt_succ_self _
    have nb8 : b3 ≠ hs0.nh := by omega
    have nb5 : b3 ≠ hs.nh := by omega
    rw [← hhs3, ← hb3]
    clear hhs3 st l8
    have l8d : aload hs3.heap false 1 (.ref hs0.nh 0) = some z := ldc h8c rfl
    have l30 : aload hs3.heap false 1 (.ref b3 0) = some z3 := ldc h3c rfl
    have l31 : aload hs3.heap false 1 (.ref b3 1) = some (.str (bs f3)) := ldc h3c rfl
    have hz2 := alen_of hz
    have i1 : ¬ (l2.length : Int) ≤ (l3.length : Int) := by omega
    have i2 : ¬ (l3.length : Int) < 1 := by omega
    have i3 : IntKind.i64.wrap ((l3.length : Int) - 1) = (f3.length : Int) := by rw [wrap64 (by omega) (by omega)]; omega
    have hl3 : 0 < l3.length := by omega
    rw [At.awp_seq, At.awp_seq]
    simp [fa, l8d, l30, l31, e8, hz2, hlen3, i1, i2, i3, -At.awp_seq]
    rw [At.awp_seq]
    refine At.cut (L7 b3 z3 f3 i (D7 hs.nh hs0.nh v w f ok k z f2 d ss)) ?_ ?_
    · simp [fa, l30, hlen3]
      refine At.loop (fun (m : Nat) t => m ≤ l3.length ∧ t.env 91 = z3 ∧ t.env 92 = .int .i64 (l3.length : Int) ∧ t.env 93 = .int .i64 (m : Int) ∧ D7 hs.nh hs0.nh v w f ok k z f2 d ss t ∧ t.env 12 = .int .i64 (i : Int) ∧ t.env 13 = .ref b3 0 ∧ t.hs.heap b3 = some [z3, .str (bs f3)] ∧ b3 < t.hs.nh) (fun m => l3.length - m) 0 ?_ ?_
      · refine ⟨by omega, ?_, ?_, ?_, ⟨?_, ?_, ?_, ?_, ?_, ?_, h5c, h8c, od3, n53, n83, ne⟩, ?_, ?_, h3c, n33⟩ <;> simp [e1, e5, e6, e7, e8, e9, e12]
      clear e1 e5 e6 e7 e8 e9 e12 h5 h8 od n5 n8 h5c h8c h3c od3 n53 n83 n33 l8d l30 l31
      rintro N m t hN ⟨hm, e91, e92, e93, ⟨e1, e5, e6, e7, e8, e9, h5, h8, od, n5, n8, _⟩, c12, c13, ch, cn⟩
      simp [e91, e92, e93]
      refine At.dec (fun hlt => ?_) (fun hlt => ?_)
      · have hml : m < l3.length := by omega
        have ixm := idx_g hz3 (k := .i64) hml
        have hb : 1 ≤ gI l3 m ∧ gI l3 m ≤ 30 := by
          rw [gI_of hml]; exact ⟨(r3 _ (List.getElem_mem _)).1, Int.le_trans (le_sum r3 _ (List.getElem_mem _)) hP3.sum⟩
        have w1 := wrap_nat1 (show m < _ by omega)
        generalize gI l3 m = y at *
        simp [e91, e93, ixm, show ¬ y < 1 by omega, show ¬ 100 < y by omega, w1]
        refine hN (m + 1) _ (by omega) ?_
        exact ⟨by omega, e91, e92, rfl, ⟨e1, e5, e6, e7, e8, e9, h5, h8, od, n5, n8, ne⟩, c12, c13, ch, cn⟩
      · simp
        exact At.of ⟨⟨e1, e5, e6, e7, e8, e9, h5, h8, od, n5, n8, ne⟩, c12, c13, ch, cn⟩
    clear e1 e5 e6 e7 e8 e9 e12 h5 h8 od n5 n8 h5c h8c h3c od3 n53 n83 n33 l8d l30 l31 s hs3 hb3
    rintro s ⟨⟨e1, e5, e6, e7, e8, e9, h5, h8, od, n5, n8, _⟩, c12, c13, ch, cn⟩
    have lw : aload s.hs.heap true 2 (.ref b3 0) = some (.agg [z3, .str (bs f3)]) := load_ref2 ch
    have k40 := h40 hz3 hP3.ck
    have hokk : decide (0 < (foldL l3 f3).length) = ok := by rw [hok, decide_eq_decide, hflat hck, hflat hP3.ck]; exact hP3.fla.symm
    rw [At.awp_seq, At.awp_seq]
    simp [c13, lw, k40, hal4, e6, hokk, -At.awp_seq]
    obtain ⟨y, hs', a1, a2, a3⟩ := od.add1 (by have := hP.len; have := hP.sl; omega) (i : Int)
    have g5' : hs'.heap hs.nh = some [v, .str (bs f)] := by rw [a3.heap]; exact h5
    have g8' : hs'.heap hs0.nh = some [z, .str (bs f2)] := by rw [a3.heap]; exact h8
    have g3' : hs'.heap b3 = some [z3, .str (bs f3)] := by rw [a3.heap]; exact ch
    have n5' : hs.nh < hs'.nh := by rw [a3.nh]; exact n5
    have n8' : hs0.nh < hs'.nh := by rw [a3.nh]; exact n8
    have l3' : aload hs'.heap true 2 (.ref b3 0) = some (.agg [z3, .str (bs f3)]) := load_ref2 g3'
    have st := st2_of g8' z3 (.str (bs f3))
    have w1 := wrap_nat1 (show k < _ by omega)
    rw [At.awp_seq]
    simp [e7, c12, a1, sto_in, cel_in, astoAll, -At.awp_seq]
    simp [c13, l3', st, e8, e9, w1]
    refine hN (k + 1) _ (by have := hP.len; omega) ⟨z3, f3, y, ss ++ [(i : Int)], l3, ⟨?_, ?_, ?_, ?_, ?_, ?_, ?_, ?_, ?_, n5', n8', ne⟩, hz3, hP3⟩
    · simp [e1]
    · simp [e5]
    · simp [e6]
    · simp
    · simp [e8]
    · simp
    · show (if hs.nh = hs0.nh then _ else _) = _; rw [if_neg ne]; exact g5'
    · simp
    · exact a2.cong rfl rfl
  clear g5 g8 gn hnh
  rintro s ⟨k, z, f2, d, ss, l2, ⟨e1, e5, e6, e7, e8, e9, h5, h8, od, n5, n8, ne⟩, hz, hP, hno⟩
  have hst := stuck_one hP.ck hno
  have l80 : aload s.hs.heap false 1 (.ref hs0.nh 0) = some z := ldc h8 rfl
  have l5 : aload s.hs.heap true 2 (.ref hs.nh 0) = some (.agg [v, .str (bs f)]) := load_ref2 h5
  obtain ⟨hm2, _, _⟩ := chk_0 hP.ck
  obtain ⟨q1, q2, _, _⟩ := meas_0 hm2
  have hdi := od.asI (by have := hP.len; have := hP.sl; omega)
  have k34 := h34 hdi
  have hz2 := alen_of hz
  have hv : verE l f ss = if l2.length = 1 then 0 else 22 := by
    unfold verE; rw [hP.run]
    by_cases h1 : l2.length = 1
    · simp [h1]
    · rw [if_pos ⟨rfl, by show 1 < l2.length; omega⟩, if_neg h1]
  rw [hv] at k34
  have hokl : ok = decide (l2.length = 1) := by rw [hok, decide_eq_decide, hflat hck, hP.fla, hst]
  by_cases h1 : l2.length = 1
  · rw [if_pos h1] at k34
    rw [decide_eq_true h1] at hokl
    rw [h1] at hz2
    have hz2 : alenK false z = some (.int .i64 1) := hz2
    subst hokl
    simp [e6, e8, e7, e5, fa, l80, l5, hz2, k34, h15]
  · rw [if_neg h1] at k34
    rw [decide_eq_false h1] at hokl
    have h1' : ¬ (l2.length : Int) = 1 := by omega
    subst hokl
    simp [e6, e8, e7, e5, fa, l80, l5, hz2, h1', k34, h15]
theorem any_typed (xs : List AV) (h : Typed [TMap, .sl (.int .u8)] xs) : PCall Tryd.prog 7 xs (.bool true) := by
  obtain ⟨x, w, rfl, hx, hw⟩ := h.two
  obtain ⟨y, es, g, rfl, h1, h2⟩ := map_typed hx
  obtain ⟨ws, hws⟩ := IsU8.of hw
  exact p7 h1 h2 hws
end Go.Proofs.YtedpcenghofpoaaDoor
