/-
  Steps as long as there are any. Own work.
  Steps keep whether a strip lies flat; a strip without steps is one segment or does not: the plain law. Own work.
-/
import Derived.Test.YtdcpkgedaflnmaaGreatDoorG1
import Derived.Test.YtdcpkgedaflnmaaGreatDoorG7
import Derived.Test.YtdcpkgedaflnmaaGreatDoorG8
set_option linter.unusedVariables false
set_option linter.unusedSimpArgs false
namespace Go.Proofs.YtdcpkgedaflnmaaGreatDoor.Fo
open Go Fw

def SCanV : AV → List Int → List UInt8 → Option AV := fun _ l f => some (canV l f)
def C6 : PCtx := C5.add 120 (SS SCanV)
theorem C6ok : CtxOk Tryz.prog C6 := C5ok.add (SS_ok fun x l s r hx e => by simp only [SCanV] at e; injection e with e; subst e; exact p30 hx s)
@[simp] theorem C6_30 : C6 120 = SS SCanV := id rfl
@[simp] theorem C6_32 : C6 121 = SDo := id rfl
@[simp] theorem C6_61 : C6 69 = S61 := id rfl
theorem canV_i {x : AV} {l : List Int} (hx : asI x = some l) {f : List UInt8} : SS SCanV [.agg [x, .str (bs f)]] = some (canV l f) := SS_i hx
/-- one more round of reduced -/
theorem redS_step {n : Nat} {l : List Int} {f : List UInt8} {i : Nat} (h : fstC l f = some i) : redS (n + 1) l f = ((i : Int) :: (redS n (stepL l f i).1 (stepL l f i).2).1, (redS n (stepL l f i).1 (stepL l f i).2).2) := by
  simp only [redS, h]
theorem redS_stop {n : Nat} {l : List Int} {f : List UInt8} (h : fstC l f = none) : redS n l f = ([], l, f) := by
  cases n with
  | zero => rfl
  | succ n => simp only [redS, h]
def redV (l : List Int) (f : List UInt8) : AV := if chk l f = 0 then .tup [outV 1 (ints (redS l.length l f).1), stV (redS l.length l f).2.1 (redS l.length l f).2.2, .int .i64 0] else .tup [.nilsl, stV [] [], .int .i64 (chk l f)]
theorem redV_plain (l : List Int) (f : List UInt8) : (redV l f).plain = true := by
  unfold redV
  split
  · simp only [AV.plain, plainL, plain_outV, stV_plain, Bool.and_self]
  · rfl
theorem doR_of {l : List Int} {f : List UInt8} (hc : chk l f = 0) {i : Nat} (hi : i < l.length) (hcan : canB l f i = true) : doR l f (i : Int) = (0, stepL l f i) := by
  have h1 := (canB_spec hcan).1
  simp [doR, hc, h1, hcan, show (i : Int) < (l.length : Int) by omega]
theorem st2_of {hp : Nat → Option (List AV)} {i : Nat} {u v : AV} (h : hp i = some [u, v]) (a b : AV) : astore hp 2 (.ref i 0) (.agg [a, b]) = some (fun k => if k = i then some [a, b] else hp k) := by simp [astore, h, AV.sto, AV.cells, setL]
theorem p70 {x : AV} {l : List Int} (hx : asI x = some l) (f : List UInt8) : PCall Tryz.prog 70 [.agg [x, .str (bs f)]] (redV l f) := by
  refine PCall.of C6ok ok70 (by simp) (redV_plain l f) fun hs hb => ?_
  have ld0 : aload (fun i => if i = hs.nh + 1 then some [.nilsl, .str (bs [])] else if i = hs.nh then some [x, .str (bs f)] else hs.heap i) true 2 (.ref hs.nh 0) = some (.agg [x, .str (bs f)]) := load_ref2 (by simp)
  by_cases hc : chk l f = 0
  rotate_left
  · simp [A70, R70, cel_agg, ld0, canV_i hx, canV, hc]
    refine At.loop (fun (_ : Unit) s => s.env 7 = .int .i64 (chk l f) ∧ s.env 3 = .ref (hs.nh + 1) 0 ∧ s.hs.heap (hs.nh + 1) = some [.nilsl, .str (bs [])]) (fun _ => 0) () ?_ ?_
    · simp
    rintro N _ s hN ⟨e7, e3, eh⟩
    have st := st2_of eh .nilsl (.str (bs []))
    have ld : aload (fun k => if k = hs.nh + 1 then some [.nilsl, .str (bs [])] else s.hs.heap k) true 2 (.ref (hs.nh + 1) 0) = some (.agg [.nilsl, .str (bs [])]) := load_ref2 (by simp)
    have ov : outV 1 [] = .nilsl := rfl
    simp [e7, e3, hc, st, redV, stV, aResult, aResL, aRes, ld, ov]
  obtain ⟨m1, m2, _, _⟩ := meas_0 (chk_0 hc).1
  simp [A70, R70, cel_agg, ld0, canV_i hx, canV, hc]
  refine At.loop (fun (q : List Int × List Int × List UInt8 × Nat) s => (∃ z, s.hs.heap hs.nh = some [z, .str (bs q.2.2.1)] ∧ asI z = some q.2.1) ∧ s.hs.heap (hs.nh + 1) = some [.nilsl, .str (bs [])] ∧ chk q.2.1 q.2.2.1 = 0 ∧ q.2.1.length ≤ q.2.2.2 ∧ q.1.length + q.2.2.2 ≤ 7 ∧
      redS l.length l f = (q.1 ++ (redS q.2.2.2 q.2.1 q.2.2.1).1, (redS q.2.2.2 q.2.1 q.2.2.1).2) ∧ s.env 1 = .ref hs.nh 0 ∧ s.env 3 = .ref (hs.nh + 1) 0 ∧ s.env 7 = .int .i64 0 ∧ s.env 6 = outV 1 (ints (canL q.2.1 q.2.2.1 q.2.1.length)) ∧ Outs 1 s.hs (s.env 5) (ints q.1)) (fun q => q.2.2.2) ([], l, f, l.length) ?_ ?_
  · simp [hc, m2]
    exact ⟨hx, .nil⟩
  rintro N ⟨done, l1, f1, n⟩ s hN ⟨⟨z, hz, hzi⟩, hrb, hc1, hn, hdn, hr, e1, e3, e7, e6, ho⟩
  simp only at hz hzi hc1 hn hdn hr e6 ho
  obtain ⟨m1', m2', _, _⟩ := meas_0 (chk_0 hc1).1
  cases hf : fstC l1 f1 with
  | none =>
    rw [redS_stop hf, List.append_nil] at hr
    rw [canL_nil hf] at e6
    have e6' : s.env 6 = .nilsl := e6
    have st := st2_of hrb
    have ldz : aload s.hs.heap false 1 (.ref hs.nh 0) = some z := load_r0 hz
    have lds : aload s.hs.heap false 1 (.ref hs.nh 1) = some (.str (bs f1)) := load_r1 hz
    have hone := one_outV l1
    have hs1 := S61_i hzi (by intro h; rw [h] at m1'; simp at m1') (by omega)
    have hsh := ho.sh
    have ld : aload (fun k => if k = hs.nh + 1 then some [outV 1 (ints l1), .str (bs f1)] else s.hs.heap k) true 2 (.ref (hs.nh + 1) 0) = some (.agg [outV 1 (ints l1), .str (bs f1)]) := load_ref2 (by simp)
    simp [e1, e3, e7, e6', ldz, lds, hs1, fill_zs hone, st, redV, hc, hr, stV, aResult, aResL, aRes, ld, hsh]
  | some i =>
    obtain ⟨hil, hcan⟩ := fstC_some hf
    obtain ⟨rest, hrest⟩ := canL_cons hf
    obtain ⟨hc2, hlt2⟩ := chk_step hc1 hil hcan
    obtain ⟨n, rfl⟩ : ∃ k, n = k + 1 := ⟨n - 1, by omega⟩
    rw [redS_step hf] at hr
    rw [hrest] at e6
    have hx6 : asI (s.env 6) = some ((i : Int) :: rest) := by
      rw [e6]
      have : ((i : Int) :: rest).length < 4294967296 := by
        have := canL_len l1 f1 l1.length
        rw [hrest] at this
        omega
      exact asI_outV this
    have hal := alen_of hx6
    have hix := aidx_of (k := .i64) (n := 0) hx6 (by omega) (v := (i : Int)) rfl
    obtain ⟨y, hs', a1, a2, a3⟩ := ho.add1 (by omega) (i : Int)
    have hz' : hs'.heap hs.nh = some [z, .str (bs f1)] := by rw [a3.heap]; exact hz
    have hrb' : hs'.heap (hs.nh + 1) = some [.nilsl, .str (bs [])] := by rw [a3.heap]; exact hrb
    have ldz : aload hs'.heap true 2 (.ref hs.nh 0) = some (.agg [z, .str (bs f1)]) := load_ref2 hz'
    have hd := doR_of hc1 hil hcan
    have st := st2_of hz'
    have ld2 : ∀ a b, aload (fun k => if k = hs.nh then some [a, b] else hs'.heap k) true 2 (.ref hs.nh 0) = some (.agg [a, b]) := fun a b => load_ref2 (by simp)
    have hl2 : (stepL l1 f1 i).1.length ≤ 7 := by omega
    have hoi := asI_outV (l := (stepL l1 f1 i).1) (by omega)
    generalize hs6 : s.env 6 = v6 at hal hix
    generalize hs5 : s.env 5 = v5 at a1
    simp [e1, e7, hs6, hs5, hal, hix, sto_in, cel_in, astoAll, a1, ldz, SDo_i hzi, hd, doV, stV, st, ld2, canV_i hoi, canV, hc2]
    refine hN (done ++ [(i : Int)], (stepL l1 f1 i).1, (stepL l1 f1 i).2, n) _ (by simp) ?_
    simp [e1, e3, hc2, hrb', hr]
    have a2' : Outs 1 hs' y (List.map (AV.int .i64) done ++ [.int .i64 (i : Int)]) := by simpa [ints] using a2
    exact ⟨hoi, by omega, by omega, a2'.cong rfl rfl⟩
/-- steps that leave one segment -/
def stpV (l : List Int) (f : List UInt8) : AV := if chk l f = 0 then (if 1 < (redS l.length l f).2.1.length then .tup [.nilsl, .int .i64 14] else .tup [outV 1 (ints (redS l.length l f).1), .int .i64 0]) else .tup [.nilsl, .int .i64 (chk l f)]
def SRed : AV → List Int → List UInt8 → Option AV := fun _ l f => some (redV l f)
def C7 : PCtx := C6.add 70 (SS SRed)
theorem C7ok : CtxOk Tryz.prog C7 := C6ok.add (SS_ok fun x l s r hx e => by simp only [SRed] at e; injection e with e; subst e; exact p70 hx s)
@[simp] theorem C7_70 : C7 70 = SS SRed := id rfl
theorem redV_i {x : AV} {l : List Int} (hx : asI x = some l) {f : List UInt8} : SS SRed [.agg [x, .str (bs f)]] = some (redV l f) := SS_i hx
theorem redS_len : ∀ (n : Nat) (l : List Int) (f : List UInt8), chk l f = 0 → (redS n l f).2.1.length ≤ 7 ∧ (redS n l f).1.length ≤ n
  | 0, l, f, hc => by
    obtain ⟨_, m2, _, _⟩ := meas_0 (chk_0 hc).1
    exact ⟨m2, by simp [redS]⟩
  | n + 1, l, f, hc => by
    cases hf : fstC l f with
    | none =>
      obtain ⟨_, m2, _, _⟩ := meas_0 (chk_0 hc).1
      rw [redS_stop hf]
      exact ⟨m2, by simp⟩
    | some i =>
      obtain ⟨hil, hcan⟩ := fstC_some hf
      have := redS_len n _ _ (chk_step hc hil hcan).1
      rw [redS_step hf]
      exact ⟨this.1, by simp; exact this.2⟩
theorem stpV_plain (l : List Int) (f : List UInt8) : (stpV l f).plain = true := by
  unfold stpV
  split
  · split
    · rfl
    · simp only [AV.plain, plainL, plain_outV, Bool.and_self]
  · rfl
theorem p36 {x : AV} {l : List Int} (hx : asI x = some l) (f : List UInt8) : PCall Tryz.prog 28 [.agg [x, .str (bs f)]] (stpV l f) := by
  refine PCall.of C7ok ok36 (by simp) (stpV_plain l f) fun hs hb => ?_
  have ov : outV 1 [] = .nilsl := rfl
  by_cases hc : chk l f = 0
  rotate_left
  · simp [A36, R36, redV_i hx, redV, hc, stpV, stV, ov]
  obtain ⟨q1, q2⟩ := redS_len l.length l f hc
  have hoi := asI_outV (l := (redS l.length l f).2.1) (by omega)
  have ld : ∀ b, aload (fun i => if i = hs.nh then some [outV 1 (ints (redS l.length l f).2.1), b] else if i = hs.nh then some [.nilsl, .str (bs [])] else hs.heap i) false 1 (.ref hs.nh 0) = some (outV 1 (ints (redS l.length l f).2.1)) := fun b => load_r0 (y := b) (by simp)
  have hal := alen_of hoi
  by_cases h1 : 1 < (redS l.length l f).2.1.length
  · have h1' : (1 : Int) < ((redS l.length l f).2.1.length : Int) := by omega
    simp [A36, R36, redV_i hx, redV, hc, stpV, stV, hal, h1, h1']
  · have h1' : ¬ (1 : Int) < ((redS l.length l f).2.1.length : Int) := by omega
    simp [A36, R36, redV_i hx, redV, hc, stpV, stV, hal, h1, h1']
end Go.Proofs.YtdcpkgedaflnmaaGreatDoor.Fo
set_option linter.unusedVariables false
set_option linter.unusedSimpArgs false
namespace Go.Proofs.YtdcpkgedaflnmaaGreatDoor.Fo
open Go Fw

def Fla (l : List Int) (f : List UInt8) : Prop := Fl.Flat l.length (gI l) (fB f)
theorem redS_left : ∀ (n : Nat) (l : List Int) (f : List UInt8), chk l f = 0 → l.length ≤ n → chk (redS n l f).2.1 (redS n l f).2.2 = 0 ∧ fstC (redS n l f).2.1 (redS n l f).2.2 = none
  | 0, l, f, hc, hn => by
    obtain ⟨m1, _, _, _⟩ := meas_0 (chk_0 hc).1
    omega
  | n + 1, l, f, hc, hn => by
    cases hf : fstC l f with
    | none => rw [redS_stop hf]; exact ⟨hc, hf⟩
    | some i =>
      obtain ⟨hil, hcan⟩ := fstC_some hf
      obtain ⟨h1, h2⟩ := chk_step hc hil hcan
      rw [redS_step hf]
      exact redS_left n _ _ h1 (by omega)
theorem flat_congr {n : Nat} {L M : Nat → Int} {f g : Nat → Bool} (hL : ∀ i, i < n → M i = L i) (hf : ∀ i, i + 1 < n → g i = f i) : Fl.Flat n L f ↔ Fl.Flat n M g :=
  ⟨Fl.Flat.cong hL hf, Fl.Flat.cong (fun i hi => (hL i hi).symm) fun i hi => (hf i hi).symm⟩
theorem getI_drop {l : List Int} {n i : Nat} : gI (l.drop n) i = gI l (i + n) := by
  unfold gI
  rw [List.getD_eq_getElem?_getD, List.getD_eq_getElem?_getD, List.getElem?_drop, Nat.add_comm]
theorem getI_take {l : List Int} {n i : Nat} (h : i < n) : gI (l.take n) i = gI l i := by
  unfold gI
  rw [List.getD_eq_getElem?_getD, List.getD_eq_getElem?_getD, List.getElem?_take, if_pos h]
theorem getF_drop {l : List UInt8} {n i : Nat} : gF (l.drop n) i = gF l (i + n) := by
  unfold gF
  rw [List.getD_eq_getElem?_getD, List.getD_eq_getElem?_getD, List.getElem?_drop, Nat.add_comm]
theorem getF_take {l : List UInt8} {n i : Nat} (h : i < n) : gF (l.take n) i = gF l i := by
  unfold gF
  rw [List.getD_eq_getElem?_getD, List.getD_eq_getElem?_getD, List.getElem?_take, if_pos h]
theorem getI_app {a b : List Int} {i : Nat} : gI (a ++ b) i = if i < a.length then gI a i else gI b (i - a.length) := by
  unfold gI
  rw [List.getD_eq_getElem?_getD, List.getElem?_append]
  split <;> rw [List.getD_eq_getElem?_getD]
theorem getF_app {a b : List UInt8} {i : Nat} : gF (a ++ b) i = if i < a.length then gF a i else gF b (i - a.length) := by
  unfold gF
  rw [List.getD_eq_getElem?_getD, List.getElem?_append]
  split <;> rw [List.getD_eq_getElem?_getD]
theorem gF_or {f : List UInt8} (hv : fmv f = true) {i : Nat} (h : i < f.length) : gF f i = 118 ∨ gF f i = 109 := by
  rw [gF_of h]; exact fmv_or hv _ (List.getElem_mem _)
theorem step_flat {l : List Int} {f : List UInt8} (hc : chk l f = 0) {i : Nat} (hi : i < l.length) (hcan : canB l f i = true) : Fla l f ↔ Fla (stepL l f i).1 (stepL l f i).2 := by
  obtain ⟨hm, hfl, hfv⟩ := chk_0 hc
  obtain ⟨m1, m2, m3, m4⟩ := meas_0 hm
  obtain ⟨c1, c2, c3, c4⟩ := canB_spec hcan
  have pos : ∀ k, k < l.length → 1 ≤ gI l k := fun k hk => by rw [gI_of hk]; exact (m3 _ (List.getElem_mem _)).1
  unfold Fla stepL
  by_cases h0 : i = 0
  · subst h0
    rw [if_pos rfl]
    simp only
    obtain ⟨n, hn⟩ : ∃ n, l.length = n + 1 := ⟨l.length - 1, by omega⟩
    have h1 : (l.drop 1).length = n := by rw [List.length_drop]; omega
    rw [hn, h1, Fl.flat_first (by omega) (fun k hk => pos k (by omega)) (c3 (by omega))]
    exact flat_congr (fun k hk => getI_drop) fun k hk => by unfold fB; rw [getF_drop]
  rw [if_neg h0]
  by_cases hl : i + 1 = l.length
  · rw [if_pos hl]
    simp only
    obtain ⟨m, hmm⟩ : ∃ m, l.length = m + 2 := ⟨l.length - 2, by omega⟩
    have h1 : (l.take (l.length - 1)).length = m + 1 := by rw [List.length_take]; omega
    have him : i = m + 1 := by omega
    have := c2 (by omega)
    rw [him] at this
    rw [h1, hmm, Fl.flat_last (fun k hk => pos k (by omega)) (by simpa using this)]
    exact flat_congr (fun k hk => getI_take (by omega)) fun k hk => by unfold fB; rw [getF_take (by omega)]
  rw [if_neg hl]
  simp only
  obtain ⟨m, hmm⟩ : ∃ m, l.length = m + 2 := ⟨l.length - 2, by omega⟩
  obtain ⟨a, ha⟩ : ∃ a, i = a + 1 := ⟨i - 1, by omega⟩
  subst ha
  have g1 := c2 (by omega)
  have g2 := c3 (by omega)
  have g3 : gF f a ≠ gF f (a + 1) := by
    rcases c4 with h | h | h
    · omega
    · omega
    · exact h
  simp only [Nat.add_sub_cancel] at g1 ⊢
  have hfb : fB f a ≠ fB f (a + 1) := by
    unfold fB
    intro e
    rw [decide_eq_decide] at e
    rcases gF_or hfv (show a < f.length by omega) with x | x <;> rcases gF_or hfv (show a + 1 < f.length by omega) with y | y
    · exact g3 (by rw [x, y])
    · have := e.1 x; rw [y] at this; cases this
    · have := e.2 y; rw [x] at this; cases this
    · exact g3 (by rw [x, y])
  have h1 : (l.take a ++ [gI l a - gI l (a + 1) + gI l (a + 1 + 1)] ++ l.drop (a + 1 + 2)).length = m := by
    simp only [List.length_append, List.length_take, List.length_drop, List.length_cons, List.length_nil]; omega
  rw [h1, hmm, Fl.flat_crimp (by omega) (fun k hk => pos k (by omega)) g1 g2 hfb]
  have la : (l.take a).length = a := by rw [List.length_take]; omega
  have lf : (f.take a).length = a := by rw [List.length_take]; omega
  refine flat_congr (fun k hk => ?_) fun k hk => ?_
  · rw [List.append_assoc, getI_app, la]
    by_cases h2 : k < a
    · rw [if_pos h2, Fl.crp_lt h2, getI_take h2]
    · rw [if_neg h2]
      by_cases h3 : k = a
      · subst h3; rw [Fl.crp_eq]; simp [gI]
      · rw [Fl.crp_gt (by omega), getI_app, if_neg (by simp; omega), getI_drop]
        congr 1
        simp; omega
  · unfold fB Fl.crf
    rw [getF_app, lf]
    by_cases h2 : k < a
    · rw [if_pos h2, if_pos h2, getF_take h2]
    · rw [if_neg h2, if_neg h2, getF_drop]
      have : k - a + (a + 1 + 1) = k + 2 := by omega
      rw [this]
theorem flat_one {l : List Int} {f : List UInt8} (h : l.length = 1) : Fla l f := by
  unfold Fla
  rw [h]
  exact ⟨fun _ => 0, ⟨fun i k hi => by omega, fun i k hi => by omega, fun i k hi hk _ => by omega⟩, fun i hi => by omega⟩
theorem stuck_one {l : List Int} {f : List UInt8} (hc : chk l f = 0) (hs : fstC l f = none) : Fla l f ↔ l.length = 1 := by
  obtain ⟨hm, hfl, hfv⟩ := chk_0 hc
  obtain ⟨m1, m2, m3, m4⟩ := meas_0 hm
  have pos : ∀ k, k < l.length → 1 ≤ gI l k := fun k hk => by rw [gI_of hk]; exact (m3 _ (List.getElem_mem _)).1
  refine ⟨fun hF => ?_, flat_one⟩
  apply Classical.byContradiction
  intro hne
  have hno : ∀ k, k < l.length → canB l f k = false := fun k hk => by
    unfold fstC at hs
    rw [List.find?_eq_none] at hs
    simpa using hs k (List.mem_range.2 hk)
  have hn0 := hno 0 (by omega)
  have hn1 := hno (l.length - 1) (by omega)
  refine Fl.stuck (n := l.length) (f := fB f) (by omega) pos hF ?_ ?_ ?_
  · unfold canB at hn0
    simp [hne] at hn0
    omega
  · unfold canB at hn1
    have e1 : l.length - 1 - 1 = l.length - 2 := by omega
    simp [hne, e1, show l.length - 1 + 1 = l.length by omega] at hn1
    exact hn1.2
  · intro k h1 h2 h3 h4
    have := hno k (by omega)
    unfold canB at this
    simp [hne, show ¬ gI l (k - 1) < gI l k by omega, show ¬ gI l (k + 1) < gI l k by omega, show ¬ k = 0 by omega, show ¬ k + 1 = l.length by omega] at this
    unfold fB; rw [this]
theorem red_flat : ∀ (n : Nat) {l : List Int} {f : List UInt8}, chk l f = 0 → (Fla l f ↔ Fla (redS n l f).2.1 (redS n l f).2.2)
  | 0, l, f, _ => Iff.rfl
  | n + 1, l, f, hc => by
    cases hf : fstC l f with
    | none => rw [redS_stop hf]
    | some i =>
      obtain ⟨hi, hcan⟩ := fstC_some hf
      rw [redS_step hf, step_flat hc hi hcan]
      exact red_flat n (chk_step hc hi hcan).1
theorem red_one {l : List Int} {f : List UInt8} (hc : chk l f = 0) : (redS l.length l f).2.1.length = 1 ↔ foldL l f ≠ [] := by
  obtain ⟨h1, h2⟩ := redS_left l.length l f hc (Nat.le_refl _)
  rw [← stuck_one h1 h2, ← red_flat l.length hc]
  exact (flat_iff hc).symm
end Go.Proofs.YtdcpkgedaflnmaaGreatDoor.Fo
