/-
  Powers of digits by chains: the plain law. Own work.
  Powers of digits by chains: the law's contract. Own work.
  Powers of digits by chains: whatever the arguments. Own work.
-/
import Derived.Test.YtdcpkgedaflnmaaDoorGA
import Derived.Test.YtdcpkgedaflnmaaDoorFx4
set_option linter.unusedVariables false
set_option linter.unusedSimpArgs false
namespace Go.Proofs.YtdcpkgedaflnmaaDoor
open Go Fw
open Se (gI)

/-- what a chain to k and its ways are -/
structure WayC (k : Nat) (c : List Int) (w : List (Int × Int)) : Prop where
  chk : Tr.chk c = 0
  pos : 1 ≤ c.length
  len : c.length ≤ 8
  last : gI c (c.length - 1) = (k : Int)
  one : gI c 0 = 1
  bd : ∀ i, i < c.length → 1 ≤ gI c i ∧ gI c i ≤ 46
  wl : w.length = c.length - 1
  way : ∀ i, i + 1 < c.length → ∃ a b : Nat, w[i]? = some ((a : Int), (b : Int)) ∧ a ≤ i ∧ b ≤ i ∧ gI c a + gI c b = gI c (i + 1)
def okW (c : List Int) (w : List (Int × Int)) (i : Nat) : Bool := match w[i]? with
  | some (a, b) => decide (0 ≤ a) && decide (a ≤ (i : Int)) && decide (0 ≤ b) && decide (b ≤ (i : Int)) && decide (gI c a.toNat + gI c b.toNat = gI c (i + 1))
  | none => false
def okC (k : Nat) (c : List Int) (w : List (Int × Int)) : Bool :=
  decide (Tr.chk c = 0) && decide (1 ≤ c.length) && decide (c.length ≤ 8) && decide (gI c (c.length - 1) = (k : Int)) && decide (gI c 0 = 1) &&
    (List.range c.length).all (fun i => decide (1 ≤ gI c i) && decide (gI c i ≤ 46)) && decide (w.length = c.length - 1) && (List.range (c.length - 1)).all (okW c w)
theorem okC_way {k : Nat} {c : List Int} {w : List (Int × Int)} (h : okC k c w = true) : WayC k c w := by
  simp only [okC, Bool.and_eq_true, decide_eq_true_eq, List.all_eq_true, List.mem_range] at h
  obtain ⟨⟨⟨⟨⟨⟨⟨h1, h2⟩, h3⟩, h4⟩, h5⟩, h6⟩, h7⟩, h8⟩ := h
  refine ⟨h1, h2, h3, h4, h5, h6, h7, fun i hi => ?_⟩
  have := h8 i (by omega)
  unfold okW at this
  split at this
  · rename_i a b hab
    simp only [Bool.and_eq_true, decide_eq_true_eq] at this
    obtain ⟨⟨⟨⟨q1, q2⟩, q3⟩, q4⟩, q5⟩ := this
    refine ⟨a.toNat, b.toNat, ?_, by omega, by omega, q5⟩
    rw [hab, Int.toNat_of_nonneg q1, Int.toNat_of_nonneg q3]
  · cases this
theorem chain_ok : ∀ k, k < 12 → okC (k + 1) (Tr.hdL ((k + 1 : Nat) : Int) []) (Tr.waysP (Tr.hdL ((k + 1 : Nat) : Int) [])) = true := by decide +kernel
theorem chain_way {k : Nat} (h1 : 1 ≤ k) (h2 : k ≤ 12) : WayC k (Tr.hdL (k : Int) []) (Tr.waysP (Tr.hdL (k : Int) [])) := by
  have := chain_ok (k - 1) (by omega)
  rw [show k - 1 + 1 = k by omega] at this
  exact okC_way this

/-- the state after e times the digit d -/
def pw (T : List (List Int)) (d : Nat) (e : Int) (s : Int) : Int := Se.aft T (List.replicate e.toNat (d : Int)) s
theorem pw_one (T : List (List Int)) (d : Nat) (s : Nat) : pw T d 1 (s : Int) = Se.mI T s d := rfl
theorem pw_add {T : List (List Int)} {d : Nat} {a b : Int} (ha : 0 ≤ a) (hb : 0 ≤ b) (s : Int) : pw T d b (pw T d a s) = pw T d (a + b) s := by
  unfold pw
  rw [← Se.aft_app]
  congr 1
  rw [show (a + b).toNat = a.toNat + b.toNat by omega, List.replicate_append_replicate]
theorem pw_bd {T : List (List Int)} (g : Se.GoodT T) {d : Nat} (hd : d < T.length) {e s : Int} (hs : 0 ≤ s ∧ s < T.length) : 0 ≤ pw T d e s ∧ pw T d e s < T.length := by
  refine Se.aft_bd g (fun a ha => ?_) hs
  have := List.eq_of_mem_replicate ha
  omega
/-- what so many copies make of each state -/
def rowM (T : List (List Int)) (d : Nat) (c : List Int) (j : Nat) : List Int := (List.range T.length).map fun (s : Nat) => pw T d (gI c j) (s : Int)
theorem rowM_len (T : List (List Int)) (d : Nat) (c : List Int) (j : Nat) : (rowM T d c j).length = T.length := by simp [rowM]
theorem rowM_get {T : List (List Int)} {d : Nat} {c : List Int} {j s : Nat} (h : s < T.length) : gI (rowM T d c j) s = pw T d (gI c j) (s : Int) := by
  rw [Se.gI_of (by rw [rowM_len]; exact h)]; simp [rowM]
theorem rowM_take {T : List (List Int)} {d : Nat} {c : List Int} {j s : Nat} (h : s < T.length) : (rowM T d c j).take s ++ [pw T d (gI c j) (s : Int)] = (rowM T d c j).take (s + 1) := by
  rw [take_snoc (by rw [rowM_len]; exact h)]; simp [rowM]
end Go.Proofs.YtdcpkgedaflnmaaDoor
set_option linter.unusedVariables false
set_option linter.unusedSimpArgs false
namespace Go.Proofs.YtdcpkgedaflnmaaDoor
open Go Fw
open Se (gI)

theorem ctx4 {x y : AV} {es ms : List Int} (hx : Se.IsU8 x es) (hy : Se.IsU8 y ms) {n k d : Nat} (hn2 : 2 ≤ n) (hn : n ≤ 10) (hk1 : 1 ≤ k) (hk : k ≤ 12) (hd : d < n) {c : List Int} {w : List (Int × Int)} (hc : c = Tr.hdL (k : Int) []) (hw : w = Tr.waysP c) (hchk : Tr.chk c = 0) (hcl : c.length ≤ 8) :
    ∃ C : PCtx, CtxOk Tryd.prog C ∧ C 12 [.int .i64 (n : Int), x, y] = some (Se.madV (Se.tabT n es ms)) ∧ C 13 [.int .i64 (k : Int)] = some (.tup [Tr.chV c, .int .i64 0]) ∧ C 14 [Tr.chV c] = some (.tup [outV 2 (prs w), .int .i64 0]) ∧
      C 16 [] = some (.bool true) ∧ ∀ z, asI z = some (List.replicate k (d : Int)) → C 15 [Se.madV (Se.tabT n es ms), z] = some (.tup [.int .i64 (pw (Se.tabT n es ms) d (k : Int) 0), .int .i64 0]) := by
  have h13 := Tr.p25 (k : Int)
  have e13 : Tr.chainR (k : Int) = .tup [Tr.chV c, .int .i64 0] := by unfold Tr.chainR; rw [if_pos (by simp [Tr.btw]; omega), hc]
  rw [e13] at h13
  have h14 := Tr.p16 (Tr.asI_chV (c := c) (by omega))
  have e14 : Tr.waysR c = .tup [outV 2 (prs w), .int .i64 0] := by unfold Tr.waysR; rw [if_pos hchk, hw]
  rw [e14] at h14
  obtain ⟨C1, hC1, k12, _⟩ := ctx_pt CtxOk.nil 12 _ _ (Se.p12 hx hy (n := n) (by omega) hn)
  obtain ⟨C2, hC2, k13, n2⟩ := ctx_pt hC1 13 _ _ h13
  obtain ⟨C3, hC3, k14, n3⟩ := ctx_pt hC2 14 _ _ h14
  obtain ⟨C4, hC4, k16, n4⟩ := ctx_pt hC3 16 _ _ Cw.p16
  obtain ⟨C, hC, k15, n5⟩ := ctx_fam hC4 15 (fun z : {z : AV // asI z = some (List.replicate k (d : Int))} => [Se.madV (Se.tabT n es ms), z.1]) (fun _ => .tup [.int .i64 (pw (Se.tabT n es ms) d (k : Int) 0), .int .i64 0])
    (fun z => Se.p15 (Se.tab_as hn es ms) (Se.tab_good hn2 hn es ms) z.2 (fun a ha => by rw [Se.tabT_len]; have := List.eq_of_mem_replicate ha; omega) (by simpa using hk)) (fun _ _ _ => rfl)
  refine ⟨C, hC, ?_, ?_, ?_, ?_, fun z hz => k15 ⟨z, hz⟩⟩
  · rw [n5 12 (by decide), n4 12 (by decide), n3 12 (by decide), n2 12 (by decide)]; exact k12
  · rw [n5 13 (by decide), n4 13 (by decide), n3 13 (by decide)]; exact k13
  · rw [n5 14 (by decide), n4 14 (by decide)]; exact k14
  · rw [n5 16 (by decide)]; exact k16
theorem At.gen {K : AS → Prop} {s0 : AS} (J : AS → Prop) (h : J s0) (h2 : ∀ s, J s → At (K s)) : At (K s0) := h2 s0 h
def rpl (k d : Nat) : List Int := List.replicate k (d : Int)
/-- rows that are made, and the one under way -/
structure M4 (q : Nat) (T : List (List Int)) (d : Nat) (c : List Int) (i s : Nat) (hs : HS) : Prop where
  nh : q < hs.nh
  ex : ∃ cs : List AV, ∃ hl : cs.length = c.length, ∃ hi : i < c.length, hs.heap q = some cs ∧ (∀ j (h : j < cs.length), j < i → ∃ k, cs[j] = .sl 1 (ints (rowM T d c j)) (.own k)) ∧
    Outs 1 hs (cs[i]'(by omega)) (ints ((rowM T d c i).take s)) ∧ (∀ j (h : j < cs.length), i < j → cs[j] = .nilsl)
theorem M4.cong {q : Nat} {T : List (List Int)} {d : Nat} {c : List Int} {i s : Nat} {hs hs' : HS} (h : M4 q T d c i s hs) (h1 : hs'.heap q = hs.heap q) (h2 : hs.nh ≤ hs'.nh) (h3 : hs'.tok = hs.tok) (h4 : hs'.nt = hs.nt) : M4 q T d c i s hs' := by
  obtain ⟨a, cs, hl, hi, b1, b2, b3, b4⟩ := h
  exact ⟨by omega, cs, hl, hi, by rw [h1]; exact b1, b2, b3.cong h3 h4, b4⟩
theorem M4.new {T : List (List Int)} {d : Nat} {c : List Int} (hc : 1 ≤ c.length) (hs : HS) : M4 hs.nh T d c 0 0 (hs.blk (List.replicate c.length .nilsl)) :=
  ⟨by simp, List.replicate c.length .nilsl, by simp, hc, by simp, fun j h hj => by omega, by simpa using Outs.nil, fun j h hj => by simp⟩
theorem M4.done {q : Nat} {T : List (List Int)} {d : Nat} {c : List Int} {i : Nat} {hs : HS} (h : M4 q T d c i T.length hs) (hT : 2 ≤ T.length) : ∃ cs : List AV, ∃ hl : cs.length = c.length, hs.heap q = some cs ∧ (∀ j (h : j < cs.length), j ≤ i → ∃ k, cs[j] = .sl 1 (ints (rowM T d c j)) (.own k)) ∧ (∀ j (h : j < cs.length), i < j → cs[j] = .nilsl) := by
  obtain ⟨a, cs, hl, hi, b1, b2, b3, b4⟩ := h
  refine ⟨cs, hl, b1, fun j hj hji => ?_, b4⟩
  by_cases e : j = i
  · subst e
    rw [List.take_of_length_le (by rw [rowM_len]; exact Nat.le_refl _)] at b3
    rcases b3.inv with ⟨_, h2⟩ | ⟨xs, k', h1, _, h3, _⟩
    · have := congrArg List.length h2
      rw [ints_len, rowM_len, List.length_nil] at this
      omega
    · exact ⟨k', by rw [h1, share_ints_inv h3]⟩
  · exact b2 j hj (by omega)
theorem M4.next {q : Nat} {T : List (List Int)} {d : Nat} {c : List Int} {i : Nat} {hs : HS} (h : M4 q T d c i T.length hs) (hT : 2 ≤ T.length) (h1 : i + 1 < c.length) : M4 q T d c (i + 1) 0 hs := by
  obtain ⟨cs, hl, b1, b2, b3⟩ := h.done hT
  refine ⟨h.nh, cs, hl, h1, b1, fun j hj hji => b2 j hj (by omega), ?_, fun j hj hji => b3 j hj (by omega)⟩
  rw [b3 (i + 1) (by omega) (by omega)]
  exact .nil
theorem M4.rowl {q : Nat} {T : List (List Int)} {d : Nat} {c : List Int} {i s : Nat} {hs : HS} (h : M4 q T d c i s hs) {a : Nat} (ha : a < i) (hT : T.length ≤ 1000) : ∃ y, aload hs.heap false 1 (.ref q a) = some y ∧ asI y = some (rowM T d c a) := by
  obtain ⟨_, cs, hl, hi, b1, b2, b3, b4⟩ := h
  obtain ⟨k, hk⟩ := b2 a (by omega) ha
  refine ⟨cs[a]'(by omega), load_cell b1 (by omega), ?_⟩
  rw [hk]
  exact asI_sl (by rw [rowM_len]; omega)
theorem M4.add {q : Nat} {T : List (List Int)} {d : Nat} {c : List Int} {i s : Nat} {hs : HS} (h : M4 q T d c i s hs) (h1 : s < T.length) (hT : T.length ≤ 1000) : ∃ y0 y hs' hp', aload hs.heap false 1 (.ref q i) = some y0 ∧
    aappend 1 hs y0 (.sl 1 [.int .i64 (pw T d (gI c i) (s : Int))] .exact) = some (y, hs') ∧ astore hs'.heap 1 (.ref q i) y = some hp' ∧ hs'.nh = hs.nh ∧ (∀ k, k ≠ q → hp' k = hs.heap k) ∧
    ∀ hs2 : HS, hs2.heap = hp' → hs2.tok = hs'.tok → hs2.nt = hs'.nt → hs2.nh = hs'.nh → M4 q T d c i (s + 1) hs2 := by
  obtain ⟨a, cs, hl, hi, b1, b2, b3, b4⟩ := h
  have hi2 : i < cs.length := by omega
  obtain ⟨y, hs', ap, o2, sm⟩ := b3.add1 (by rw [List.length_take, rowM_len]; omega) (pw T d (gI c i) (s : Int))
  rw [rowM_take h1] at o2
  have yl : y.leaf = true := by
    rcases o2.inv with ⟨rfl, _⟩ | ⟨xs, k', rfl, _⟩ <;> rfl
  refine ⟨_, y, hs', _, load_cell b1 hi2, ap, store_cell (by rw [sm.heap]; exact b1) hi2 yl, sm.nh, fun k hk => by simp [hk, sm.heap], fun hs2 e1 e2 e3 e4 => ⟨by rw [e4, sm.nh]; exact a, cs.set i y, by rw [List.length_set]; exact hl, hi, by rw [e1]; simp, fun j hj hji => ?_, ?_, fun j hj hji => ?_⟩⟩
  · rw [List.length_set] at hj
    rw [List.getElem_set_ne (by omega)]; exact b2 j hj hji
  · rw [List.getElem_set_self]
    exact o2.cong e2 e3
  · rw [List.length_set] at hj
    rw [List.getElem_set_ne (by omega)]; exact b4 j hj hji
/-- registers that stay -/
structure E4 (T : List (List Int)) (d k : Nat) (c : List Int) (q : Nat) (ways : AV) (s : AS) : Prop where
  e11 : s.env 11 = .int .i64 (T.length : Int)
  e12 : s.env 12 = .int .i64 (k : Int)
  e13 : s.env 13 = Se.madV T
  e14 : s.env 14 = .int .i64 (d : Int)
  e15 : s.env 15 = Tr.chV c
  e17 : s.env 17 = ways
  e19 : s.env 19 = .msl false 1 q 0 c.length true
set_option maxHeartbeats 1000000 in
theorem p4 {x y : AV} {es ms : List Int} (hx : Se.IsU8 x es) (hy : Se.IsU8 y ms) {b dg cp : Nat} (hb8 : b < 256) (hd8 : dg < 256) (hc8 : cp < 256) : PCall Tryd.prog 4 [.int .u8 (b : Int), x, y, .int .u8 (dg : Int), .int .u8 (cp : Int)] (.bool true) := by
  obtain ⟨n, hn⟩ : ∃ n, n = 2 + b % 5 := ⟨_, rfl⟩
  obtain ⟨k, hk⟩ : ∃ k, k = 1 + cp % 12 := ⟨_, rfl⟩
  obtain ⟨d, hd⟩ : ∃ d, d = dg % n := ⟨_, rfl⟩
  have hn2 : 2 ≤ n := by omega
  have hn6 : n ≤ 6 := by omega
  have hk1 : 1 ≤ k := by omega
  have hk12 : k ≤ 12 := by omega
  have hdn : d < n := by rw [hd]; exact Nat.mod_lt _ (by omega)
  have hW := chain_way hk1 hk12
  obtain ⟨c, hc⟩ : ∃ c, c = Tr.hdL (k : Int) [] := ⟨_, rfl⟩
  obtain ⟨w, hw⟩ : ∃ w, w = Tr.waysP c := ⟨_, rfl⟩
  rw [← hc, ← hw] at hW
  obtain ⟨C, hC, k12, k13, k14, k16, k15⟩ := ctx4 hx hy hn2 (by omega) hk1 hk12 hdn hc hw hW.chk hW.len
  have hT := Se.tab_good hn2 (by omega) es ms
  have hTi := Se.tab_as (n := n) (by omega) es ms
  have hTl := Se.tabT_len n es ms
  generalize Se.tabT n es ms = T at *
  subst hTl
  clear hc hw
  obtain ⟨R, hM⟩ := asM.isM hTi
  have hcp := hW.pos
  have hcl := hW.len
  have hci : asI (Tr.chV c) = some c := Tr.asI_chV (by omega)
  have hcal := alen_of hci
  have hwl : (prs w).length = w.length := by simp
  have hwi : asV 2 (outV 2 (prs w)) = some (prs w) := asV_outV (by have := hW.wl; omega)
  have hwal := lenV hwi
  rw [hwl, hW.wl] at hwal
  generalize outV 2 (prs w) = vw at *
  have r5 : abin 0 .rem (.int .i64 (b : Int)) (.int .i64 5) = some (.int .i64 ((b % 5 : Nat) : Int)) := rem64 (b := 5) (by decide)
  have r12 : abin 0 .rem (.int .i64 (cp : Int)) (.int .i64 12) = some (.int .i64 ((cp % 12 : Nat) : Int)) := rem64 (b := 12) (by decide)
  have rn : abin 0 .rem (.int .i64 (dg : Int)) (.int .i64 (T.length : Int)) = some (.int .i64 (d : Int)) := by rw [hd]; exact rem64 (by omega)
  have wb : IntKind.i64.wrap (b : Int) = (b : Int) := wrap_nat (by omega)
  have wc : IntKind.i64.wrap (cp : Int) = (cp : Int) := wrap_nat (by omega)
  have wd : IntKind.i64.wrap (dg : Int) = (dg : Int) := wrap_nat (by omega)
  have wn : IntKind.i64.wrap (2 + ((b % 5 : Nat) : Int)) = (T.length : Int) := by rw [wrap64 (by omega) (by omega)]; omega
  have wk : IntKind.i64.wrap (1 + ((cp % 12 : Nat) : Int)) = (k : Int) := by rw [wrap64 (by omega) (by omega)]; omega
  generalize ((b % 5 : Nat) : Int) = z1 at *
  generalize ((cp % 12 : Nat) : Int) = z2 at *
  refine PCall.of hC ok4 (by simp) rfl fun hs hb => ?_
  simp only [A4, R4]
  rw [At.awp_seq]
  simp [-At.awp_seq]
  rw [At.awp_seq]
  simp [wb, wc, r5, r12, wn, wk, -abin_rem, -At.awp_seq]
  rw [At.awp_seq]
  simp [k12, -At.awp_seq]
  rw [At.awp_seq]
  simp [wd, rn, -abin_rem, -At.awp_seq]
  rw [At.awp_seq]
  simp [k13, -At.awp_seq]
  rw [At.awp_seq]
  simp [k14, -At.awp_seq]
  have hc0 : ¬ c.length = 0 := by omega
  have hc0' : ¬ (c.length : Int) = 0 := by omega
  have hcne : ¬ c = [] := fun e => hc0 (by rw [e]; rfl)
  have wl1 : IntKind.i64.wrap ((c.length : Int) - 1) = ((c.length - 1 : Nat) : Int) := by rw [wrap64 (by omega) (by omega)]; omega
  have ixl := Se.idx_g hci (k := .i64) (i := c.length - 1) (by omega)
  rw [hW.last] at ixl
  have hmk : ∀ hs : HS, amake false 1 [.nilsl] hs (.int .i64 (c.length : Int)) (.int .i64 (c.length : Int)) = some (.msl false 1 hs.nh 0 c.length true, hs.blk (List.replicate c.length .nilsl)) := fun hs => amake_eq (by omega)
  obtain ⟨cl1, hcl1⟩ : ∃ cl1 : Int, cl1 = ((c.length - 1 : Nat) : Int) := ⟨_, rfl⟩
  rw [← hcl1] at wl1 ixl hwal
  rw [At.awp_seq, At.awp_seq]
  simp [hcal, hcne, hwal, wl1, ixl, -At.awp_seq]
  rw [At.awp_seq]
  simp [hcal, hmk, -At.awp_seq]
  rw [At.awp_seq]
  refine At.cut (fun s => E4 T d k c hs.nh vw s ∧ M4 hs.nh T d c 0 T.length s.hs) ?_ ?_
  · simp
    refine At.loop (fun (i : Nat) s => i ≤ T.length ∧ E4 T d k c hs.nh vw s ∧ s.env 20 = .int .i64 (i : Int) ∧ M4 hs.nh T d c 0 i s.hs) (fun i => T.length - i) 0 ?_ ?_
    · exact ⟨by omega, ⟨by simp, by simp, by simp, by simp, by simp, by simp, by simp⟩, by simp, M4.new hcp hs⟩
    rintro N i s hN ⟨hi, E, e20, M⟩
    simp [e20, E.e11]
    refine At.dec (fun hlt => ?_) (fun hlt => ?_)
    · have hi' : i < T.length := by omega
      obtain ⟨y0, y, hs', hp', m1, m2, m3, m4, m5, m6⟩ := M.add hi' (by omega)
      rw [hW.one, pw_one] at m2
      have x1 : aidxS 1 (.msl false 1 hs.nh 0 c.length true) (.int .i64 0) = some (.ref hs.nh 0) := aidx_msln (n := 0) hcp
      have g1 := hM.get (k := .i64) hi'
      have l1 := hM.ld hi'
      have r1 := Se.row_get hM (k := .i64) hi' (d := d) (by rw [hT.row i hi']; exact hdn)
      simp [E.e19, E.e13, E.e14, e20, x1, m1, g1, l1, r1, m2, m3, astoAll]
      refine hN (i + 1) _ (by omega) ⟨by omega, ⟨by simp [E.e11], by simp [E.e12], by simp [E.e13], by simp [E.e14], by simp [E.e15], by simp [E.e17], by simp [E.e19]⟩, by simp [wrap_nat1 (show i < _ by omega)], m6 _ rfl rfl rfl rfl⟩
    · have : i = T.length := by omega
      subst this
      simp
      exact At.of ⟨⟨by simp [E.e11], by simp [E.e12], by simp [E.e13], by simp [E.e14], by simp [E.e15], by simp [E.e17], by simp [E.e19]⟩, M⟩
  rintro s ⟨E, M⟩
  rw [At.awp_seq]
  refine At.cut (fun s => E4 T d k c hs.nh vw s ∧ M4 hs.nh T d c (c.length - 1) T.length s.hs) ?_ ?_
  · simp [E.e17, hwal]
    refine At.loop (fun (j : Nat) s => j + 1 ≤ c.length ∧ E4 T d k c hs.nh vw s ∧ s.env 105 = vw ∧ s.env 106 = .int .i64 cl1 ∧ s.env 107 = .int .i64 (j : Int) ∧ M4 hs.nh T d c j T.length s.hs) (fun j => c.length - j) 0 ?_ ?_
    · exact ⟨by omega, ⟨by simp [E.e11], by simp [E.e12], by simp [E.e13], by simp [E.e14], by simp [E.e15], by simp [E.e17], by simp [E.e19]⟩, by simp, by simp, by simp, M⟩
    clear E M s
    rintro N j s hN ⟨hj, E, e105, e106, e107, M⟩
    simp [e107, e106, hcl1]
    refine At.dec (fun hlt => ?_) (fun hlt => ?_)
    rotate_left
    · have : j = c.length - 1 := by omega
      subst this
      simp
      exact At.of ⟨⟨by simp [E.e11], by simp [E.e12], by simp [E.e13], by simp [E.e14], by simp [E.e15], by simp [E.e17], by simp [E.e19]⟩, M⟩
    have hj' : j + 1 < c.length := by omega
    obtain ⟨a, b, hw1, ha, hb2, hab⟩ := hW.way j hj'
    have hjw : j < w.length := by rw [hW.wl]; omega
    have ixw := idxV hwi (k := .i64) (i := j) (by rw [hwl]; exact hjw)
    have hge : (prs w)[j]'(by rw [hwl]; exact hjw) = .agg [.int .i64 (a : Int), .int .i64 (b : Int)] := by
      have := List.getElem?_eq_getElem hjw
      rw [hw1] at this
      injection this with this
      simp [prs, ← this]
    rw [hge] at ixw
    simp [-At.awp_seq]
    rw [At.awp_seq]
    refine At.cut (fun s => E4 T d k c hs.nh vw s ∧ s.env 105 = vw ∧ s.env 106 = .int .i64 cl1 ∧ s.env 107 = .int .i64 (j : Int) ∧ M4 hs.nh T d c (j + 1) T.length s.hs) ?_ ?_
    · simp only [At.awp_block]
      rw [At.awp_seq]
      simp [e105, e106, e107, ixw, -At.awp_seq]
      have hne : ¬ s.hs.nh = hs.nh := by have := M.nh; omega
      refine At.gen (fun s' => E4 T d k c hs.nh vw s' ∧ s'.env 105 = vw ∧ s'.env 106 = .int .i64 cl1 ∧ s'.env 107 = .int .i64 (j : Int) ∧ s'.env 21 = .int .i64 (j : Int) ∧ s'.env 22 = .ref s.hs.nh 0 ∧ s'.hs.heap s.hs.nh = some [.int .i64 (a : Int), .int .i64 (b : Int)] ∧ M4 hs.nh T d c (j + 1) 0 s'.hs) ?_ ?_
      · refine ⟨⟨by simp [E.e11], by simp [E.e12], by simp [E.e13], by simp [E.e14], by simp [E.e15], by simp [E.e17], by simp [E.e19]⟩, by simp [e105], by simp [e106], by simp [e107], by simp, by simp, by simp, ?_⟩
        exact (M.next hT.n2 hj').cong (by simp [Ne.symm hne]) (by simp) rfl rfl
      generalize s.hs.nh = p at hne
      clear E M e105 e106 e107 s hN
      rintro s ⟨E, e105, e106, e107, e21, e22, hp, M⟩
      have xA0 : aidxA 2 false 1 (.ref p 0) (.int .i64 0) = some (.ref p 0) := Se.aA (k := 0) (by decide)
      have xA1 : aidxA 2 false 1 (.ref p 0) (.int .i64 1) = some (.ref p 1) := Se.aA (k := 1) (by decide)
      have lA0 : aload s.hs.heap false 1 (.ref p 0) = some (.int .i64 (a : Int)) := load_cell hp (by simp)
      have lA1 : aload s.hs.heap false 1 (.ref p 1) = some (.int .i64 (b : Int)) := load_cell hp (by simp)
      have ca := Se.idx_g hci (k := .i64) (i := a) (by omega)
      have cb := Se.idx_g hci (k := .i64) (i := b) (by omega)
      have cj := Se.idx_g hci (k := .i64) (i := j + 1) hj'
      have ba := hW.bd a (by omega)
      have bb := hW.bd b (by omega)
      have wab : IntKind.i64.wrap (gI c a + gI c b) = gI c (j + 1) := by rw [wrap64 (by omega) (by omega)]; exact hab
      have wj := wrap_nat1 (show j < _ by omega)
      have na : ¬ j < a := by omega
      have nb : ¬ j < b := by omega
      obtain ⟨j1, hj1⟩ : ∃ j1 : Int, j1 = ((j + 1 : Nat) : Int) := ⟨_, rfl⟩
      rw [← hj1] at cj wj
      have na0 : ¬ (a : Int) < 0 := by omega
      have nb0 : ¬ (b : Int) < 0 := by omega
      rw [At.awp_seq, At.awp_seq]
      simp [e21, e22, E.e15, xA0, xA1, lA0, lA1, ca, cb, cj, wab, wj, na, nb, na0, nb0]
      refine At.loop (fun (t : Nat) s' => t ≤ T.length ∧ E4 T d k c hs.nh vw s' ∧ s'.env 105 = vw ∧ s'.env 106 = .int .i64 cl1 ∧ s'.env 107 = .int .i64 (j : Int) ∧ s'.env 21 = .int .i64 (j : Int) ∧ s'.env 22 = .ref p 0 ∧ s'.env 23 = .int .i64 (t : Int) ∧ s'.hs.heap p = some [.int .i64 (a : Int), .int .i64 (b : Int)] ∧ M4 hs.nh T d c (j + 1) t s'.hs) (fun t => T.length - t) 0 ?_ ?_
      · exact ⟨by omega, ⟨by simp [E.e11], by simp [E.e12], by simp [E.e13], by simp [E.e14], by simp [E.e15], by simp [E.e17], by simp [E.e19]⟩, by simp [e105], by simp [e106], by simp [e107], by simp [e21], by simp [e22], by simp, hp, M⟩
      clear E M e105 e106 e107 e21 e22 hp lA0 lA1 s
      rintro N t s hN ⟨ht, E, e105, e106, e107, e21, e22, e23, hp, M⟩
      simp [e23, E.e11]
      refine At.dec (fun hlt2 => ?_) (fun hlt2 => ?_)
      · have ht' : t < T.length := by omega
        have lA0 : aload s.hs.heap false 1 (.ref p 0) = some (.int .i64 (a : Int)) := load_cell hp (by simp)
        have lA1 : aload s.hs.heap false 1 (.ref p 1) = some (.int .i64 (b : Int)) := load_cell hp (by simp)
        obtain ⟨ya, la, ia⟩ := M.rowl (a := a) (by omega) (by omega)
        obtain ⟨yb, lb, ib⟩ := M.rowl (a := b) (by omega) (by omega)
        obtain ⟨y0, y, hs', hp', m1, m2, m3, m4, m5, m6⟩ := M.add ht' (by omega)
        have xa : aidxS 1 (.msl false 1 hs.nh 0 c.length true) (.int .i64 (a : Int)) = some (.ref hs.nh a) := aidx_msln (by omega)
        have xb : aidxS 1 (.msl false 1 hs.nh 0 c.length true) (.int .i64 (b : Int)) = some (.ref hs.nh b) := aidx_msln (by omega)
        have xj : aidxS 1 (.msl false 1 hs.nh 0 c.length true) (.int .i64 j1) = some (.ref hs.nh (j + 1)) := by rw [hj1]; exact aidx_msln hj'
        have g1 := Se.idx_g ia (k := .i64) (i := t) (by rw [rowM_len]; exact ht')
        rw [rowM_get ht'] at g1
        obtain ⟨q1, q2⟩ := pw_bd hT hdn (e := gI c a) (s := (t : Int)) ⟨by omega, by omega⟩
        obtain ⟨v, hv⟩ : ∃ v : Nat, pw T d (gI c a) (t : Int) = (v : Int) := ⟨(pw T d (gI c a) (t : Int)).toNat, by omega⟩
        rw [hv] at g1 q2
        have g2 := Se.idx_g ib (k := .i64) (i := v) (by rw [rowM_len]; omega)
        rw [rowM_get (by omega), ← hv, pw_add (by omega) (by omega), hab] at g2
        rw [hv] at g2
        generalize pw T d (gI c (j + 1)) (t : Int) = g at *
        simp [E.e19, e21, e22, e23, wj, xa, xb, xj, m1, la, lb, g1, g2, xA0, xA1, lA0, lA1, m2, m3, astoAll]
        exact hN (t + 1) _ (by omega) ⟨by omega, ⟨by simp [E.e11], by simp [E.e12], by simp [E.e13], by simp [E.e14], by simp [E.e15], by simp [E.e17], by simp [E.e19]⟩, by simp [e105], by simp [e106], by simp [e107], by simp [e21], by simp [e22], by simp [wrap_nat1 (show t < _ by omega)], by simpa [m5 p hne] using hp, m6 _ rfl rfl rfl rfl⟩
      · have : t = T.length := by omega
        subst this
        simp
        exact At.of ⟨⟨by simp [E.e11], by simp [E.e12], by simp [E.e13], by simp [E.e14], by simp [E.e15], by simp [E.e17], by simp [E.e19]⟩, e105, e106, e107, M⟩
    clear E M e105 e106 e107 
    rintro s ⟨E, e105, e106, e107, M⟩
    simp [e107]
    refine hN (j + 1) _ (by omega) ⟨by omega, ⟨by simp [E.e11], by simp [E.e12], by simp [E.e13], by simp [E.e14], by simp [E.e15], by simp [E.e17], by simp [E.e19]⟩, by simp [e105], by simp [e106], by simp [wrap_nat1 (show j < _ by omega)], M⟩
  rintro s ⟨E, M⟩
  rw [At.awp_seq]
  simp [-At.awp_seq]
  rw [At.awp_seq]
  obtain ⟨cs, csl, hq, hrow, _⟩ := M.done hT.n2
  obtain ⟨kr, hkr⟩ := hrow (c.length - 1) (by omega) (Nat.le_refl _)
  refine At.cut (fun s => s.env 13 = Se.madV T ∧ s.env 19 = .msl false 1 hs.nh 0 c.length true ∧ s.hs.heap hs.nh = some cs ∧ Outs 1 s.hs (s.env 24) (ints (rpl k d))) ?_ ?_
  · simp
    refine At.loop (fun (i : Nat) s => i ≤ k ∧ s.env 12 = .int .i64 (k : Int) ∧ s.env 14 = .int .i64 (d : Int) ∧ s.env 13 = Se.madV T ∧ s.env 19 = .msl false 1 hs.nh 0 c.length true ∧ s.env 25 = .int .i64 (i : Int) ∧ s.hs.heap hs.nh = some cs ∧ Outs 1 s.hs (s.env 24) (ints (rpl i d))) (fun i => k - i) 0 ?_ ?_
    · exact ⟨by omega, by simp [E.e12], by simp [E.e14], by simp [E.e13], by simp [E.e19], by simp, by simp [hq], Outs.nil⟩
    clear E M s hq
    rintro N i s hN ⟨hi, e12, e14, e13, e19, e25, hq, ho⟩
    simp [e25, e12]
    refine At.dec (fun hlt => ?_) (fun hlt => ?_)
    · obtain ⟨y, hs', a1, a2, a3⟩ := ho.add1 (by simp [rpl]; omega) (d : Int)
      have hrep : rpl i d ++ [(d : Int)] = rpl (i + 1) d := List.replicate_succ'.symm
      rw [hrep] at a2
      simp [e14, e25, astoAll, a1]
      exact hN (i + 1) _ (by omega) ⟨by omega, by simp [e12], by simp [e14], by simp [e13], by simp [e19], by simp [wrap_nat1 (show i < _ by omega)], by simpa [a3.heap] using hq, by simpa using a2⟩
    · have : i = k := by omega
      subst this
      simp
      exact At.of ⟨e13, e19, hq, ho⟩
  clear E M hq s
  rintro s ⟨e13, e19, hq, ho⟩
  have h15 := k15 (s.env 24) (ho.asI (by simp [rpl]; omega))
  have xr : aidxS 1 (.msl false 1 hs.nh 0 c.length true) (.int .i64 cl1) = some (.ref hs.nh (c.length - 1)) := by rw [hcl1]; exact aidx_msln (by omega)
  have lr : aload s.hs.heap false 1 (.ref hs.nh (c.length - 1)) = some (.sl 1 (ints (rowM T d c (c.length - 1))) (.own kr)) := by rw [load_cell hq (by omega), hkr]
  have g := Se.idx_g (asI_sl (l := rowM T d c (c.length - 1)) (c := .own kr) (by rw [rowM_len]; omega)) (k := .i64) (i := 0) (by rw [rowM_len]; omega)
  rw [rowM_get (by omega), hW.last] at g
  have g' : aidxS 1 (.sl 1 (ints (rowM T d c (c.length - 1))) (.own kr)) (.int .i64 0) = some (.ptr (.int .i64 (pw T d (k : Int) 0))) := g
  clear g
  generalize AV.sl 1 (ints (rowM T d c (c.length - 1))) (.own kr) = vr at *
  generalize pw T d (k : Int) 0 = pv at *
  have lm : alenK false (.msl false 1 hs.nh 0 c.length true) = some (.int .i64 (c.length : Int)) := rfl
  rw [At.awp_seq]
  simp [e13, h15, -At.awp_seq]
  rw [At.awp_seq]
  simp [e19, lm, wl1, xr, lr, g', k16]
end Go.Proofs.YtdcpkgedaflnmaaDoor
set_option linter.unusedVariables false
set_option linter.unusedSimpArgs false
namespace Go.Proofs.YtdcpkgedaflnmaaDoor
open Go Fw

theorem powered_typed (xs : List AV) (h : Typed [.int .u8, .sl (.int .u8), .sl (.int .u8), .int .u8, .int .u8] xs) : PCall Tryd.prog 4 xs (.bool true) := by
  obtain ⟨a, b, c, d, e, rfl, ha, hb, hc, hd, he⟩ := h.five
  obtain ⟨m, hm, rfl⟩ := Se.u8_nat ha
  obtain ⟨es, hes⟩ := Se.IsU8.of hb
  obtain ⟨ms, hms⟩ := Se.IsU8.of hc
  obtain ⟨n, hn, rfl⟩ := Se.u8_nat hd
  obtain ⟨o, ho, rfl⟩ := Se.u8_nat he
  exact p4 hes hms hm hn ho
end Go.Proofs.YtdcpkgedaflnmaaDoor
