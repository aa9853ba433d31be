/-
  Steps as long as there are any. Own work.
  A context with all functions of the layer and of the reference; the examples of the chapter hold. Own work.
  Strips by numbers: the walk. Own work.
-/
import Derived.Test.YtedpcenghofpoaaDoorG1
import Derived.Test.YtedpcenghofpoaaDoorG4
import Derived.Test.YtedpcenghofpoaaDoorFx4
set_option linter.unusedVariables false
set_option linter.unusedSimpArgs false
namespace Go.Proofs.YtedpcenghofpoaaDoor
open Go Fw

def SCanV : AV → List Int → List UInt8 → Option AV := fun _ l f => some (canV l f)
def C6 : PCtx := (C5.add 30 (SS SCanV)).add 31 (SS SCanV)
theorem C6ok : CtxOk Tryd.prog C6 := (C5ok.add (SS_ok fun x l s r hx e => by simp only [SCanV] at e; injection e with e; subst e; exact p30 hx s)).add (SS_ok fun x l s r hx e => by simp only [SCanV] at e; injection e with e; subst e; exact p31 hx s)
@[simp] theorem C6_30 : C6 30 = SS SCanV := id rfl
@[simp] theorem C6_31 : C6 31 = SS SCanV := id rfl
@[simp] theorem C6_32 : C6 32 = SDo := id rfl
@[simp] theorem C6_61 : C6 61 = S61 := id rfl
@[simp] theorem C6_69 : C6 69 = S69 := id rfl
theorem canV_i {x : AV} {l : List Int} (hx : asI x = some l) {f : List UInt8} : SS SCanV [.agg [x, .str (bs f)]] = some (canV l f) := SS_i hx
/-- one more round of reduced -/
theorem redS_step {n : Nat} {l : List Int} {f : List UInt8} {i : Nat} (h : fstC l f = some i) : redS (n + 1) l f = ((i : Int) :: (redS n (stepL l f i).1 (stepL l f i).2).1, (redS n (stepL l f i).1 (stepL l f i).2).2) := by
  simp only [redS, h]
theorem redS_stop {n : Nat} {l : List Int} {f : List UInt8} (h : fstC l f = none) : redS n l f = ([], l, f) := by
  cases n with
  | zero => rfl
  | succ n => simp only [redS, h]
def redV (l : List Int) (f : List UInt8) : AV := if chk l f = 0 then .tup [outV 1 (ints (redS l.length l f).1), stV (redS l.length l f).2.1 (redS l.length l f).2.2, .int .i64 0] else .tup [.nilsl, stV [] [], .int .i64 (chk l f)]
theorem redV_plain (l : List Int) (f : List UInt8) : (redV l f).plain = true := by
  unfold redV
  split
  · simp only [AV.plain, plainL, plain_outV, stV_plain, Bool.and_self]
  · rfl
theorem doR_of {l : List Int} {f : List UInt8} (hc : chk l f = 0) {i : Nat} (hi : i < l.length) (hcan : canB l f i = true) : doR l f (i : Int) = (0, stepL l f i) := by
  have h1 := (canB_spec hcan).1
  simp [doR, hc, h1, hcan, show (i : Int) < (l.length : Int) by omega]
theorem st2_of {hp : Nat → Option (List AV)} {i : Nat} {u v : AV} (h : hp i = some [u, v]) (a b : AV) : astore hp 2 (.ref i 0) (.agg [a, b]) = some (fun k => if k = i then some [a, b] else hp k) := by simp [astore, h, AV.sto, AV.cells, setL]
theorem p70 {x : AV} {l : List Int} (hx : asI x = some l) (f : List UInt8) : PCall Tryd.prog 70 [.agg [x, .str (bs f)]] (redV l f) := by
  refine PCall.of C6ok ok70 (by simp) (redV_plain l f) fun hs hb => ?_
  have ld0 : aload (fun i => if i = hs.nh + 1 then some [.nilsl, .str (bs [])] else if i = hs.nh then some [x, .str (bs f)] else hs.heap i) true 2 (.ref hs.nh 0) = some (.agg [x, .str (bs f)]) := load_ref2 (by simp)
  by_cases hc : chk l f = 0
  rotate_left
  · simp [A70, R70, cel_agg, ld0, canV_i hx, canV, hc]
    refine At.loop (fun (_ : Unit) s => s.env 7 = .int .i64 (chk l f) ∧ s.env 3 = .ref (hs.nh + 1) 0 ∧ s.hs.heap (hs.nh + 1) = some [.nilsl, .str (bs [])]) (fun _ => 0) () ?_ ?_
    · simp
    rintro N _ s hN ⟨e7, e3, eh⟩
    have st := st2_of eh .nilsl (.str (bs []))
    have ld : aload (fun k => if k = hs.nh + 1 then some [.nilsl, .str (bs [])] else s.hs.heap k) true 2 (.ref (hs.nh + 1) 0) = some (.agg [.nilsl, .str (bs [])]) := load_ref2 (by simp)
    have ov : outV 1 [] = .nilsl := rfl
    simp [e7, e3, hc, st, redV, stV, aResult, aResL, aRes, ld, ov]
  obtain ⟨m1, m2, _, _⟩ := meas_0 (chk_0 hc).1
  simp [A70, R70, cel_agg, ld0, canV_i hx, canV, hc]
  refine At.loop (fun (q : List Int × List Int × List UInt8 × Nat) s => (∃ z, s.hs.heap hs.nh = some [z, .str (bs q.2.2.1)] ∧ asI z = some q.2.1) ∧ s.hs.heap (hs.nh + 1) = some [.nilsl, .str (bs [])] ∧ chk q.2.1 q.2.2.1 = 0 ∧ q.2.1.length ≤ q.2.2.2 ∧ q.1.length + q.2.2.2 ≤ 7 ∧
      redS l.length l f = (q.1 ++ (redS q.2.2.2 q.2.1 q.2.2.1).1, (redS q.2.2.2 q.2.1 q.2.2.1).2) ∧ s.env 1 = .ref hs.nh 0 ∧ s.env 3 = .ref (hs.nh + 1) 0 ∧ s.env 7 = .int .i64 0 ∧ s.env 6 = outV 1 (ints (canL q.2.1 q.2.2.1 q.2.1.length)) ∧ Outs 1 s.hs (s.env 5) (ints q.1)) (fun q => q.2.2.2) ([], l, f, l.length) ?_ ?_
  · simp [hc, m2]
    exact ⟨hx, .nil⟩
  rintro N ⟨done, l1, f1, n⟩ s hN ⟨⟨z, hz, hzi⟩, hrb, hc1, hn, hdn, hr, e1, e3, e7, e6, ho⟩
  simp only at hz hzi hc1 hn hdn hr e6 ho
  obtain ⟨m1', m2', _, _⟩ := meas_0 (chk_0 hc1).1
  cases hf : fstC l1 f1 with
  | none =>
    rw [redS_stop hf, List.append_nil] at hr
    rw [canL_nil hf] at e6
    have e6' : s.env 6 = .nilsl := e6
    have st := st2_of hrb
    have ldz : aload s.hs.heap false 1 (.ref hs.nh 0) = some z := load_r0 hz
    have lds : aload s.hs.heap false 1 (.ref hs.nh 1) = some (.str (bs f1)) := load_r1 hz
    have hone := one_outV l1
    have hs1 := S61_i hzi (by intro h; rw [h] at m1'; simp at m1') (by omega)
    have hsh := ho.sh
    have ld : aload (fun k => if k = hs.nh + 1 then some [outV 1 (ints l1), .str (bs f1)] else s.hs.heap k) true 2 (.ref (hs.nh + 1) 0) = some (.agg [outV 1 (ints l1), .str (bs f1)]) := load_ref2 (by simp)
    simp [e1, e3, e7, e6', ldz, lds, hs1, fill_zs hone, st, redV, hc, hr, stV, aResult, aResL, aRes, ld, hsh]
  | some i =>
    obtain ⟨hil, hcan⟩ := fstC_some hf
    obtain ⟨rest, hrest⟩ := canL_cons hf
    obtain ⟨hc2, hlt2⟩ := chk_step hc1 hil hcan
    obtain ⟨n, rfl⟩ : ∃ k, n = k + 1 := ⟨n - 1, by omega⟩
    rw [redS_step hf] at hr
    rw [hrest] at e6
    have hx6 : asI (s.env 6) = some ((i : Int) :: rest) := by
      rw [e6]
      have : ((i : Int) :: rest).length < 4294967296 := by
        have := canL_len l1 f1 l1.length
        rw [hrest] at this
        omega
      exact asI_outV this
    have hal := alen_of hx6
    have hix := aidx_of (k := .i64) (n := 0) hx6 (by omega) (v := (i : Int)) rfl
    obtain ⟨y, hs', a1, a2, a3⟩ := ho.add1 (by omega) (i : Int)
    have hz' : hs'.heap hs.nh = some [z, .str (bs f1)] := by rw [a3.heap]; exact hz
    have hrb' : hs'.heap (hs.nh + 1) = some [.nilsl, .str (bs [])] := by rw [a3.heap]; exact hrb
    have ldz : aload hs'.heap true 2 (.ref hs.nh 0) = some (.agg [z, .str (bs f1)]) := load_ref2 hz'
    have hd := doR_of hc1 hil hcan
    have st := st2_of hz'
    have ld2 : ∀ a b, aload (fun k => if k = hs.nh then some [a, b] else hs'.heap k) true 2 (.ref hs.nh 0) = some (.agg [a, b]) := fun a b => load_ref2 (by simp)
    have hl2 : (stepL l1 f1 i).1.length ≤ 7 := by omega
    have hoi := asI_outV (l := (stepL l1 f1 i).1) (by omega)
    generalize hs6 : s.env 6 = v6 at hal hix
    generalize hs5 : s.env 5 = v5 at a1
    simp [e1, e7, hs6, hs5, hal, hix, sto_in, cel_in, astoAll, a1, ldz, SDo_i hzi, hd, doV, stV, st, ld2, canV_i hoi, canV, hc2]
    refine hN (done ++ [(i : Int)], (stepL l1 f1 i).1, (stepL l1 f1 i).2, n) _ (by simp) ?_
    simp [e1, e3, hc2, hrb', hr]
    have a2' : Outs 1 hs' y (List.map (AV.int .i64) done ++ [.int .i64 (i : Int)]) := by simpa [ints] using a2
    exact ⟨hoi, by omega, by omega, a2'.cong rfl rfl⟩
/-- steps that leave one segment -/
def stpV (l : List Int) (f : List UInt8) : AV := if chk l f = 0 then (if 1 < (redS l.length l f).2.1.length then .tup [.nilsl, .int .i64 14] else .tup [outV 1 (ints (redS l.length l f).1), .int .i64 0]) else .tup [.nilsl, .int .i64 (chk l f)]
def stkV (l : List Int) (f : List UInt8) : AV := if chk l f = 0 then .tup [stV (redS l.length l f).2.1 (redS l.length l f).2.2, .int .i64 0] else .tup [stV [] [], .int .i64 (chk l f)]
def SRed : AV → List Int → List UInt8 → Option AV := fun _ l f => some (redV l f)
def C7 : PCtx := C6.add 70 (SS SRed)
theorem C7ok : CtxOk Tryd.prog C7 := C6ok.add (SS_ok fun x l s r hx e => by simp only [SRed] at e; injection e with e; subst e; exact p70 hx s)
@[simp] theorem C7_70 : C7 70 = SS SRed := id rfl
@[simp] theorem C7_69 : C7 69 = S69 := id rfl
@[simp] theorem C7_31 : C7 31 = SS SCanV := id rfl
theorem redV_i {x : AV} {l : List Int} (hx : asI x = some l) {f : List UInt8} : SS SRed [.agg [x, .str (bs f)]] = some (redV l f) := SS_i hx
theorem redS_len : ∀ (n : Nat) (l : List Int) (f : List UInt8), chk l f = 0 → (redS n l f).2.1.length ≤ 7 ∧ (redS n l f).1.length ≤ n
  | 0, l, f, hc => by
    obtain ⟨_, m2, _, _⟩ := meas_0 (chk_0 hc).1
    exact ⟨m2, by simp [redS]⟩
  | n + 1, l, f, hc => by
    cases hf : fstC l f with
    | none =>
      obtain ⟨_, m2, _, _⟩ := meas_0 (chk_0 hc).1
      rw [redS_stop hf]
      exact ⟨m2, by simp⟩
    | some i =>
      obtain ⟨hil, hcan⟩ := fstC_some hf
      have := redS_len n _ _ (chk_step hc hil hcan).1
      rw [redS_step hf]
      exact ⟨this.1, by simp; exact this.2⟩
theorem stpV_plain (l : List Int) (f : List UInt8) : (stpV l f).plain = true := by
  unfold stpV
  split
  · split
    · rfl
    · simp only [AV.plain, plainL, plain_outV, Bool.and_self]
  · rfl
theorem stkV_plain (l : List Int) (f : List UInt8) : (stkV l f).plain = true := by
  unfold stkV
  split
  · simp only [AV.plain, plainL, stV_plain, Bool.and_self]
  · rfl
theorem p36 {x : AV} {l : List Int} (hx : asI x = some l) (f : List UInt8) : PCall Tryd.prog 36 [.agg [x, .str (bs f)]] (stpV l f) := by
  refine PCall.of C7ok ok36 (by simp) (stpV_plain l f) fun hs hb => ?_
  have ov : outV 1 [] = .nilsl := rfl
  by_cases hc : chk l f = 0
  rotate_left
  · simp [A36, R36, redV_i hx, redV, hc, stpV, stV, ov]
  obtain ⟨q1, q2⟩ := redS_len l.length l f hc
  have hoi := asI_outV (l := (redS l.length l f).2.1) (by omega)
  have ld : ∀ b, aload (fun i => if i = hs.nh then some [outV 1 (ints (redS l.length l f).2.1), b] else if i = hs.nh then some [.nilsl, .str (bs [])] else hs.heap i) false 1 (.ref hs.nh 0) = some (outV 1 (ints (redS l.length l f).2.1)) := fun b => load_r0 (y := b) (by simp)
  have hal := alen_of hoi
  by_cases h1 : 1 < (redS l.length l f).2.1.length
  · have h1' : (1 : Int) < ((redS l.length l f).2.1.length : Int) := by omega
    simp [A36, R36, redV_i hx, redV, hc, stpV, stV, hal, h1, h1']
  · have h1' : ¬ (1 : Int) < ((redS l.length l f).2.1.length : Int) := by omega
    simp [A36, R36, redV_i hx, redV, hc, stpV, stV, hal, h1, h1']
theorem st2_two (hp : Nat → Option (List AV)) (n : Nat) (a b u v c d e g : AV) : astore (fun k => if k = n + 1 then some [a, b] else if k = n + 1 then some [u, v] else if k = n then some [c, d] else hp k) 2 (.ref n 0) (.agg [e, g]) =
    some (fun k => if k = n then some [e, g] else (fun k => if k = n + 1 then some [a, b] else if k = n + 1 then some [u, v] else if k = n then some [c, d] else hp k) k) := st2_of (u := c) (v := d) (by simp) e g
theorem p37 {x : AV} {l : List Int} (hx : asI x = some l) (f : List UInt8) : PCall Tryd.prog 37 [.agg [x, .str (bs f)]] (stkV l f) := by
  refine PCall.of C7ok ok37 (by simp) (stkV_plain l f) fun hs hb => ?_
  have ov : outV 1 [] = .nilsl := rfl
  by_cases hc : chk l f = 0
  · simp [A37, R37, redV_i hx, redV, hc, stkV, stV, st2_two]
  · simp [A37, R37, redV_i hx, redV, hc, stkV, stV, ov, st2_two]
/-- what the reference leaves -/
theorem p38 {x : AV} {l : List Int} (hx : asI x = some l) (f : List UInt8) (hxs : chk l f = 0 → x.share = outV 1 (ints l)) : PCall Tryd.prog 38 [.agg [x, .str (bs f)]] (stkV l f) := by
  refine PCall.of C7ok ok38 (by simp) (stkV_plain l f) fun hs hb => ?_
  have ov : outV 1 [] = .nilsl := rfl
  have ld0 : aload (fun i => if i = hs.nh + 1 then some [.nilsl, .str (bs [])] else if i = hs.nh then some [x, .str (bs f)] else hs.heap i) true 2 (.ref hs.nh 0) = some (.agg [x, .str (bs f)]) := load_ref2 (by simp)
  by_cases hc : chk l f = 0
  rotate_left
  · simp [A38, R38, cel_agg, ld0, canV_i hx, canV, hc]
    refine At.loop (fun (_ : Unit) s => s.env 5 = .int .i64 (chk l f) ∧ s.env 2 = .ref (hs.nh + 1) 0 ∧ s.hs.heap (hs.nh + 1) = some [.nilsl, .str (bs [])]) (fun _ => 0) () ?_ ?_
    · simp
    rintro N _ s hN ⟨e7, e3, eh⟩
    have st := st2_of eh .nilsl (.str (bs []))
    have ld : aload (fun k => if k = hs.nh + 1 then some [.nilsl, .str (bs [])] else s.hs.heap k) true 2 (.ref (hs.nh + 1) 0) = some (.agg [.nilsl, .str (bs [])]) := load_ref2 (by simp)
    simp [e7, e3, hc, st, stkV, stV, aResult, aResL, aRes, ld, ov]
  obtain ⟨m1, m2, _, _⟩ := meas_0 (chk_0 hc).1
  simp [A38, R38, cel_agg, ld0, canV_i hx, canV, hc]
  refine At.loop (fun (q : List Int × List UInt8 × Nat) s => (∃ z, s.hs.heap hs.nh = some [z, .str (bs q.2.1)] ∧ asI z = some q.1 ∧ z.share = outV 1 (ints q.1)) ∧ s.hs.heap (hs.nh + 1) = some [.nilsl, .str (bs [])] ∧ chk q.1 q.2.1 = 0 ∧ q.1.length ≤ q.2.2 ∧ q.2.2 ≤ 7 ∧
      (redS l.length l f).2 = (redS q.2.2 q.1 q.2.1).2 ∧ s.env 1 = .ref hs.nh 0 ∧ s.env 2 = .ref (hs.nh + 1) 0 ∧ s.env 5 = .int .i64 0 ∧ s.env 4 = outV 1 (ints (canL q.1 q.2.1 q.1.length))) (fun q => q.2.2) (l, f, l.length) ?_ ?_
  · simp [hc, m2]
    exact ⟨hx, hxs hc⟩
  rintro N ⟨l1, f1, n⟩ s hN ⟨⟨z, hz, hzi, hzs⟩, hrb, hc1, hn, hdn, hr, e1, e2, e5, e4⟩
  simp only at hz hzi hzs hc1 hn hdn hr e4
  obtain ⟨m1', m2', _, _⟩ := meas_0 (chk_0 hc1).1
  have ldz : aload s.hs.heap true 2 (.ref hs.nh 0) = some (.agg [z, .str (bs f1)]) := load_ref2 hz
  cases hf : fstC l1 f1 with
  | none =>
    rw [redS_stop hf] at hr
    rw [canL_nil hf] at e4
    have e4' : s.env 4 = .nilsl := e4
    have st := st2_of hrb
    have ld : aload (fun k => if k = hs.nh + 1 then some [z, .str (bs f1)] else s.hs.heap k) true 2 (.ref (hs.nh + 1) 0) = some (.agg [z, .str (bs f1)]) := load_ref2 (by simp)
    simp [e1, e2, e5, e4', ldz, st, stkV, hc, hr, stV, aResult, aResL, aRes, ld, hzs]
  | some i =>
    obtain ⟨hil, hcan⟩ := fstC_some hf
    obtain ⟨rest, hrest⟩ := canL_cons hf
    obtain ⟨hc2, hlt2⟩ := chk_step hc1 hil hcan
    obtain ⟨n, rfl⟩ : ∃ k, n = k + 1 := ⟨n - 1, by omega⟩
    rw [redS_step hf] at hr
    rw [hrest] at e4
    have hx6 : asI (s.env 4) = some ((i : Int) :: rest) := by
      rw [e4]
      have : ((i : Int) :: rest).length < 4294967296 := by
        have := canL_len l1 f1 l1.length
        rw [hrest] at this
        omega
      exact asI_outV this
    have hal := alen_of hx6
    have hix := aidx_of (k := .i64) (n := 0) hx6 (by omega) (v := (i : Int)) rfl
    have h2 := (canB_spec hcan).1
    have h69 := S69_i hzi hc1 (by omega) hil
    unfold stV at h69
    have st := st2_of hz
    have ld2 : ∀ a b, aload (fun k => if k = hs.nh then some [a, b] else s.hs.heap k) true 2 (.ref hs.nh 0) = some (.agg [a, b]) := fun a b => load_ref2 (by simp)
    have hl2 : (stepL l1 f1 i).1.length ≤ 7 := by omega
    have hoi := asI_outV (l := (stepL l1 f1 i).1) (by omega)
    generalize hs4 : s.env 4 = v6 at hal hix
    simp [e1, e2, e5, hs4, hal, hix, ldz, h69, st, ld2, canV_i hoi, canV, hc2]
    refine hN ((stepL l1 f1 i).1, (stepL l1 f1 i).2, n) _ (by simp) ?_
    simp [e1, e2, hc2, hrb, hr]
    exact ⟨hoi, by omega, by omega⟩
end Go.Proofs.YtedpcenghofpoaaDoor
set_option linter.unusedVariables false
set_option linter.unusedSimpArgs false
namespace Go.Proofs.YtedpcenghofpoaaDoor
open Go Fw

/-- whether two lists are equal -/
theorem p29 {x y : AV} {a b : List Int} (hx : asI x = some a) (hy : asI y = some b) : PCall Tryd.prog 29 [x, y] (.bool (decide (a = b))) := by
  refine PCall.of CtxOk.nil ok29 (by simp) rfl fun hs hb => ?_
  have h1 := asI_len hx
  have h2 := asI_len hy
  simp only [A29, R29]
  by_cases hl : a.length = b.length
  rotate_left
  · have hne : ¬ a = b := fun e => hl (by rw [e])
    simp [alen_of hx, alen_of hy, show ¬ (a.length : Int) = (b.length : Int) by omega, hne, hl]
  simp [alen_of hx, alen_of hy, hl]
  refine At.loop (fun (i : Nat) s => i ≤ a.length ∧ a.take i = b.take i ∧ s.env 0 = x ∧ s.env 1 = y ∧ s.env 5 = .int .i64 (i : Int)) (fun i => a.length - i) 0 ?_ ?_
  · simp
  rintro N i s hN ⟨hi, htk, e0, e1, e5⟩
  simp [e0, e5, alen_of hx]
  refine At.dec (fun hlt => ?_) (fun hlt => ?_)
  · have hi' : i < a.length := by omega
    have hj' : i < b.length := by omega
    simp [e0, e1, e5, aidx_nat hx hi', aidx_nat hy hj']
    by_cases hc : a[i] = b[i]
    · have w1 := wrap_nat1 (show i < _ by omega)
      simp [hc, e5, w1]
      refine hN (i + 1) _ (by omega) ⟨by omega, take_eq_succ hi' hj' htk hc, ?_⟩
      simp [e0, e1]
    · have hne : ¬ a = b := fun e => hc (by simp [e])
      simp [hc, hne]
  · have : i = a.length := by omega
    subst this
    rw [List.take_length, hl, List.take_length] at htk
    simp [htk]
/-! all functions -/
def SPl : AV → List Int → List UInt8 → Option AV := fun _ l f => some (plcV l f)
def SOd : AV → List Int → List UInt8 → Option AV := fun _ l f => some (ordV l f)
def SCt : AV → List Int → List UInt8 → Option AV := fun _ l f => some (cntV l f)
def SSt : AV → List Int → List UInt8 → Option AV := fun _ l f => some (stpV l f)
def SSk : AV → List Int → List UInt8 → Option AV := fun _ l f => some (stkV l f)
def SAl : List AV → Option AV
  | [x] => (asI x).map allV
  | _ => none
def SLL (g : List Int → List UInt8 → List Int → Int) : List AV → Option AV
  | [.agg [x, .str s], y] => match asI x, asI y with
    | some l, some o => some (.int .i64 (g l s.data.toList o))
    | _, _ => none
  | _ => none
theorem SLL_i {g : List Int → List UInt8 → List Int → Int} {x y : AV} {l o : List Int} (hx : asI x = some l) (hy : asI y = some o) {f : List UInt8} : SLL g [.agg [x, .str (bs f)], y] = some (.int .i64 (g l f o)) := by simp [SLL, hx, hy, bs_list]
theorem SLL_ok {k : FuncId} {g : List Int → List UInt8 → List Int → Int} (h : ∀ x y l f o, asI x = some l → asI y = some o → PCall Tryd.prog k [.agg [x, .str (bs f)], y] (.int .i64 (g l f o))) : ∀ a r, SLL g a = some r → PCall Tryd.prog k a r := by
  intro a r e
  unfold SLL at e
  split at e <;> (try (cases e; done))
  rename_i x s y
  split at e <;> (try (cases e; done))
  rename_i l o hl ho
  injection e with e; subst e
  rw [← bs_of s]
  exact h x y l _ o hl ho
def SNu : List AV → Option AV
  | [x, y] => match asI x, asI y with
    | some a, some b => some (.bool (decide (a = b)))
    | _, _ => none
  | _ => none
theorem SNu_i {x y : AV} {a b : List Int} (hx : asI x = some a) (hy : asI y = some b) : SNu [x, y] = some (.bool (decide (a = b))) := by simp [SNu, hx, hy]
theorem SNu_ok : ∀ a r, SNu a = some r → PCall Tryd.prog 29 a r := by
  intro a r e
  unfold SNu at e
  split at e <;> (try (cases e; done))
  split at e <;> (try (cases e; done))
  rename_i l o hl ho
  injection e with e; subst e
  exact p29 hl ho
theorem SAl_ok {k : FuncId} (h : ∀ x l, asI x = some l → PCall Tryd.prog k [x] (allV l)) : ∀ a r, SAl a = some r → PCall Tryd.prog k a r := by
  intro a r e
  unfold SAl at e
  split at e <;> (try (cases e; done))
  rename_i x
  cases hl : asI x with
  | none => simp [hl] at e
  | some l => simp [hl] at e; subst e; exact h _ _ hl
theorem SVA_ok {k : FuncId} {v : List Int → List UInt8 → AV} (h : ∀ x l f, asI x = some l → PCall Tryd.prog k [.agg [x, .str (bs f)]] (v l f)) : ∀ a r, SS (fun _ l f => some (v l f)) a = some r → PCall Tryd.prog k a r :=
  SS_ok fun x l s r hx e => by injection e with e; subst e; exact h x l s hx
def CA : PCtx := (((((((((((((((C7.add 17 (SS SPl)).add 18 (SS SPl)).add 21 (SLL liesR)).add 22 (SLL liesR)).add 23 (SS SOd)).add 24 (SS SOd)).add 25 (SS SCt)).add 26 (SS SCt)).add 27 SAl).add 28 SAl).add 29 SNu).add 34 (SLL verE)).add 35 (SLL verE)).add 36 (SS SSt)).add 37 (SS SSk))
theorem CAok : CtxOk Tryd.prog CA := (((((((((((((((C7ok.add (SVA_ok fun x l f hx => p17 hx f)).add (SVA_ok fun x l f hx => p18 hx f)).add (SLL_ok fun x y l f o hx hy => p21 hx f hy)).add (SLL_ok fun x y l f o hx hy => p22 hx f hy)).add (SVA_ok fun x l f hx => p23 hx f)).add (SVA_ok fun x l f hx => p24 hx f)).add
  (SVA_ok fun x l f hx => p25 hx f)).add (SVA_ok fun x l f hx => p26 hx f)).add (SAl_ok fun x l hx => p27 hx)).add (SAl_ok fun x l hx => p28 hx)).add SNu_ok).add (SLL_ok fun x y l f o hx hy => p34 hx f hy)).add (SLL_ok fun x y l f o hx hy => p35 hx f hy)).add (SVA_ok fun x l f hx => p36 hx f)).add (SVA_ok fun x l f hx => p37 hx f))
section
variable {x y : AV} {l o : List Int} {f : List UInt8}
theorem CA_17 (hx : asI x = some l) : CA 17 [.agg [x, .str (bs f)]] = some (plcV l f) := SS_i hx
theorem CA_18 (hx : asI x = some l) : CA 18 [.agg [x, .str (bs f)]] = some (plcV l f) := SS_i hx
theorem CA_19 (hx : asI x = some l) : CA 19 [.agg [x, .str (bs f)]] = some (.int .i64 (chk l f)) := SS_i hx
theorem CA_20 (hx : asI x = some l) : CA 20 [.agg [x, .str (bs f)]] = some (.int .i64 (chk l f)) := SS_i hx
theorem CA_21 (hx : asI x = some l) (hy : asI y = some o) : CA 21 [.agg [x, .str (bs f)], y] = some (.int .i64 (liesR l f o)) := SLL_i hx hy
theorem CA_22 (hx : asI x = some l) (hy : asI y = some o) : CA 22 [.agg [x, .str (bs f)], y] = some (.int .i64 (liesR l f o)) := SLL_i hx hy
theorem CA_23 (hx : asI x = some l) : CA 23 [.agg [x, .str (bs f)]] = some (ordV l f) := SS_i hx
theorem CA_24 (hx : asI x = some l) : CA 24 [.agg [x, .str (bs f)]] = some (ordV l f) := SS_i hx
theorem CA_25 (hx : asI x = some l) : CA 25 [.agg [x, .str (bs f)]] = some (cntV l f) := SS_i hx
theorem CA_26 (hx : asI x = some l) : CA 26 [.agg [x, .str (bs f)]] = some (cntV l f) := SS_i hx
theorem CA_27 (hx : asI x = some l) : CA 27 [x] = some (allV l) := by show SAl [x] = _; simp [SAl, hx]
theorem CA_28 (hx : asI x = some l) : CA 28 [x] = some (allV l) := by show SAl [x] = _; simp [SAl, hx]
theorem CA_29 (hx : asI x = some l) (hy : asI y = some o) : CA 29 [x, y] = some (.bool (decide (l = o))) := SNu_i hx hy
theorem CA_30 (hx : asI x = some l) : CA 30 [.agg [x, .str (bs f)]] = some (canV l f) := SS_i hx
theorem CA_31 (hx : asI x = some l) : CA 31 [.agg [x, .str (bs f)]] = some (canV l f) := SS_i hx
theorem CA_32 (hx : asI x = some l) (i : Int) : CA 32 [.agg [x, .str (bs f)], .int .i64 i] = some (doV (doR l f i)) := SDo_i hx
theorem CA_33 (hx : asI x = some l) (i : Int) : CA 33 [.agg [x, .str (bs f)], .int .i64 i] = some (doV (doR l f i)) := SDo_i hx
theorem CA_34 (hx : asI x = some l) (hy : asI y = some o) : CA 34 [.agg [x, .str (bs f)], y] = some (.int .i64 (verE l f o)) := SLL_i hx hy
theorem CA_35 (hx : asI x = some l) (hy : asI y = some o) : CA 35 [.agg [x, .str (bs f)], y] = some (.int .i64 (verE l f o)) := SLL_i hx hy
theorem CA_36 (hx : asI x = some l) : CA 36 [.agg [x, .str (bs f)]] = some (stpV l f) := SS_i hx
theorem CA_37 (hx : asI x = some l) : CA 37 [.agg [x, .str (bs f)]] = some (stkV l f) := SS_i hx
end
def exV (l : List Int) : AV := .sl 1 (ints l) .exact
theorem exV_i {l : List Int} (h : l.length < 1000) : asI (exV l) = some l := asI_sl (by omega)
theorem p44 (l : List Int) : PCall Tryd.prog 44 [exV l] (exV l) := by
  refine PCall.of CtxOk.nil ok44 (by simp) (plain_ints l) fun hs hb => ?_
  simp [A44, R44, exV]
theorem ctx44 {C : PCtx} (hC : CtxOk Tryd.prog C) : ∃ C', CtxOk Tryd.prog C' ∧ (∀ l, C' 44 [exV l] = some (exV l)) ∧ ∀ g, ¬ g = 44 → C' g = C g :=
  ctx_fam hC 44 (fun l => [exV l]) (fun l => exV l) (fun l => p44 l) (fun l l' e => by simpa using e)
def sV : AV := .agg [exV [3, 1, 2], .str (bs [118, 109])]
def tV : AV := .agg [exV [2, 1, 1, 2], .str (bs [118, 118, 118])]
theorem p43 : PCall Tryd.prog 43 [] sV := by
  obtain ⟨C, hC, h44, _⟩ := ctx44 CtxOk.nil
  refine PCall.of hC ok43 (by simp) rfl fun hs hb => ?_
  have h := h44 [3, 1, 2]
  simp only [exV, ints, List.map_cons, List.map_nil] at h
  simp [A43, R43, astoAll, sto_in, cel_in, h, afill, sto_sl, cel_sl, AV.sto, AV.cells, setL, sV, exV, ints]
theorem p42 : PCall Tryd.prog 42 [] tV := by
  obtain ⟨C, hC, h44, _⟩ := ctx44 CtxOk.nil
  refine PCall.of hC ok42 (by simp) rfl fun hs hb => ?_
  have h := h44 [2, 1, 1, 2]
  simp only [exV, ints, List.map_cons, List.map_nil] at h
  simp [A42, R42, astoAll, sto_in, cel_in, h, afill, sto_sl, cel_sl, AV.sto, AV.cells, setL, tV, exV, ints]
set_option maxRecDepth 100000 in
theorem p15 : PCall Tryd.prog 15 [] (.bool true) := by
  obtain ⟨C1', hC1, h44, n1⟩ := ctx44 CAok
  obtain ⟨C2', hC2, h43, n2⟩ := ctx_pt hC1 43 _ _ p43
  obtain ⟨C, hC, h42, n3⟩ := ctx_pt hC2 42 _ _ p42
  have up : ∀ g, ¬ g = 42 → ¬ g = 43 → ¬ g = 44 → C g = CA g := fun g a b c => by rw [n3 g a, n2 g b, n1 g c]
  have h43 : C 43 [] = some (.agg [.sl 1 [.int .i64 3, .int .i64 1, .int .i64 2] .exact, .str (bs [118, 109])]) := by rw [n3 43 (by decide)]; exact h43
  have h42 : C 42 [] = some (.agg [.sl 1 [.int .i64 2, .int .i64 1, .int .i64 1, .int .i64 2] .exact, .str (bs [118, 118, 118])]) := h42
  have h44 : ∀ l, C 44 [exV l] = some (exV l) := fun l => by rw [n3 44 (by decide), n2 44 (by decide)]; exact h44 l
  have a1 : C 44 [.sl 1 [.int .i64 1, .int .i64 1, .int .i64 1] .exact] = some (.sl 1 [.int .i64 1, .int .i64 1, .int .i64 1] .exact) := h44 [1, 1, 1]
  have a2 : C 44 [.sl 1 [.int .i64 2, .int .i64 1, .int .i64 1, .int .i64 2] .exact] = some (.sl 1 [.int .i64 2, .int .i64 1, .int .i64 1, .int .i64 2] .exact) := h44 [2, 1, 1, 2]
  have a3 : C 44 [.sl 1 [.int .i64 0, .int .i64 1, .int .i64 2] .exact] = some (.sl 1 [.int .i64 0, .int .i64 1, .int .i64 2] .exact) := h44 [0, 1, 2]
  have a4 : C 44 [.sl 1 [.int .i64 1] .exact] = some (.sl 1 [.int .i64 1] .exact) := h44 [1]
  have a5 : C 44 [.sl 1 [.int .i64 4] .exact] = some (.sl 1 [.int .i64 4] .exact) := h44 [4]
  have a6 : C 44 [.sl 1 [.int .i64 1, .int .i64 0, .int .i64 2] .exact] = some (.sl 1 [.int .i64 1, .int .i64 0, .int .i64 2] .exact) := h44 [1, 0, 2]
  have b17 : C 17 [.agg [.sl 1 [.int .i64 3, .int .i64 1, .int .i64 2] .exact, .str (bs [118, 109])]] = some (.tup [.sl 2 [.agg [.int .i64 0, .int .i64 3], .agg [.int .i64 2, .int .i64 3], .agg [.int .i64 2, .int .i64 4]] .shared, .int .i64 0]) := by
    rw [up 17 (by decide) (by decide) (by decide), CA_17 (l := [3, 1, 2]) rfl]; congr 1
  have b23 : C 23 [.agg [.sl 1 [.int .i64 3, .int .i64 1, .int .i64 2] .exact, .str (bs [118, 109])]] = some (.tup [.sl 1 [.int .i64 0, .int .i64 1, .int .i64 2] .shared, .int .i64 0]) := by
    rw [up 23 (by decide) (by decide) (by decide), CA_23 (l := [3, 1, 2]) rfl]; congr 1
  have b23t : C 23 [.agg [.sl 1 [.int .i64 2, .int .i64 1, .int .i64 1, .int .i64 2] .exact, .str (bs [118, 118, 118])]] = some (.tup [.nilsl, .int .i64 14]) := by
    rw [up 23 (by decide) (by decide) (by decide), CA_23 (l := [2, 1, 1, 2]) rfl]; congr 1
  have b30 : C 30 [.agg [.sl 1 [.int .i64 3, .int .i64 1, .int .i64 2] .exact, .str (bs [118, 109])]] = some (.tup [.sl 1 [.int .i64 1] .shared, .int .i64 0]) := by
    rw [up 30 (by decide) (by decide) (by decide), CA_30 (l := [3, 1, 2]) rfl]; congr 1
  have b32 : C 32 [.agg [.sl 1 [.int .i64 3, .int .i64 1, .int .i64 2] .exact, .str (bs [118, 109])], .int .i64 1] = some (.tup [.agg [.sl 1 [.int .i64 4] .shared, .str (bs [])], .int .i64 0]) := by
    rw [up 32 (by decide) (by decide) (by decide), CA_32 (l := [3, 1, 2]) rfl]; congr 1
  have b322 : C 32 [.agg [.sl 1 [.int .i64 3, .int .i64 1, .int .i64 2] .exact, .str (bs [118, 109])], .int .i64 2] = some (.tup [.agg [.nilsl, .str (bs [])], .int .i64 13]) := by
    rw [up 32 (by decide) (by decide) (by decide), CA_32 (l := [3, 1, 2]) rfl]; congr 1
  have b36 : C 36 [.agg [.sl 1 [.int .i64 3, .int .i64 1, .int .i64 2] .exact, .str (bs [118, 109])]] = some (.tup [.sl 1 [.int .i64 1] .shared, .int .i64 0]) := by
    rw [up 36 (by decide) (by decide) (by decide), CA_36 (l := [3, 1, 2]) rfl]; congr 1
  have b25 : C 25 [.agg [.sl 1 [.int .i64 1, .int .i64 1, .int .i64 1] .exact, .str (bs [118, 118])]] = some (.tup [.int .i64 2, .int .i64 0]) := by
    rw [up 25 (by decide) (by decide) (by decide), CA_25 (l := [1, 1, 1]) rfl]; congr 1
  have b27 : C 27 [.sl 1 [.int .i64 2, .int .i64 1, .int .i64 1, .int .i64 2] .exact] = some (.tup [.int .i64 6, .int .i64 0]) := by
    rw [up 27 (by decide) (by decide) (by decide), CA_27 (l := [2, 1, 1, 2]) rfl]; congr 1
  have b37 : C 37 [.agg [.sl 1 [.int .i64 2, .int .i64 1, .int .i64 1, .int .i64 2] .exact, .str (bs [118, 118, 118])]] = some (.tup [.agg [.sl 1 [.int .i64 2, .int .i64 1, .int .i64 1, .int .i64 2] .shared, .str (bs [118, 118, 118])], .int .i64 0]) := by
    rw [up 37 (by decide) (by decide) (by decide), CA_37 (l := [2, 1, 1, 2]) rfl]; congr 1
  have b29a : C 29 [.sl 1 [.int .i64 0, .int .i64 1, .int .i64 2] .shared, .sl 1 [.int .i64 0, .int .i64 1, .int .i64 2] .exact] = some (.bool true) := by
    rw [up 29 (by decide) (by decide) (by decide), CA_29 (l := [0, 1, 2]) (o := [0, 1, 2]) rfl rfl]; congr 1
  have b29b : C 29 [.sl 1 [.int .i64 1] .shared, .sl 1 [.int .i64 1] .exact] = some (.bool true) := by
    rw [up 29 (by decide) (by decide) (by decide), CA_29 (l := [1]) (o := [1]) rfl rfl]; congr 1
  have b29c : C 29 [.sl 1 [.int .i64 4] .shared, .sl 1 [.int .i64 4] .exact] = some (.bool true) := by
    rw [up 29 (by decide) (by decide) (by decide), CA_29 (l := [4]) (o := [4]) rfl rfl]; congr 1
  have b34 : C 34 [.agg [.sl 1 [.int .i64 3, .int .i64 1, .int .i64 2] .exact, .str (bs [118, 109])], .sl 1 [.int .i64 1] .shared] = some (.int .i64 0) := by
    rw [up 34 (by decide) (by decide) (by decide), CA_34 (l := [3, 1, 2]) (o := [1]) rfl rfl]; congr 1
  have b21 : C 21 [.agg [.sl 1 [.int .i64 3, .int .i64 1, .int .i64 2] .exact, .str (bs [118, 109])], .sl 1 [.int .i64 0, .int .i64 1, .int .i64 2] .exact] = some (.int .i64 0) := by
    rw [up 21 (by decide) (by decide) (by decide), CA_21 (l := [3, 1, 2]) (o := [0, 1, 2]) rfl rfl]; congr 1
  have b21b : C 21 [.agg [.sl 1 [.int .i64 3, .int .i64 1, .int .i64 2] .exact, .str (bs [118, 109])], .sl 1 [.int .i64 1, .int .i64 0, .int .i64 2] .exact] = some (.int .i64 13) := by
    rw [up 21 (by decide) (by decide) (by decide), CA_21 (l := [3, 1, 2]) (o := [1, 0, 2]) rfl rfl]; congr 1
  refine PCall.of hC ok15 (by simp) rfl fun hs hb => ?_
  simp only [A15, R15]
  simp [h43, b17, b23, h42, b23t, b30, b32, b322, b36, a1, a2, b25, b27, b37, a3, a4, a5, a6, b29a, b29b, b29c, b34, b21, b21b, astoAll, sto_in, cel_in, sto_sl, cel_sl, afill, setL, AV.sto, AV.cells, aidxS, la, apart, show ¬ hs.nh = hs.nh + 1 + 1 by omega]

end Go.Proofs.YtedpcenghofpoaaDoor
set_option linter.unusedVariables false
set_option linter.unusedSimpArgs false
namespace Go.Proofs.YtedpcenghofpoaaDoor
open Go Fw

def IsU8 (x : AV) (l : List Int) : Prop := (x = .nilsl ∧ l = [] ∨ x = .sl 1 (l.map (AV.int .u8)) .shared) ∧ ∀ a ∈ l, 0 ≤ a ∧ a ≤ 255
theorem IsU8.of {x : AV} (h : ShV (.sl (.int .u8)) x) : ∃ l, IsU8 x l := by
  obtain ⟨l, h1, h2, h3⟩ := shv_intsK h
  exact ⟨l, h1, fun a ha => u8_bd (h3 a ha)⟩
theorem IsU8.len {x : AV} {l : List Int} (h : IsU8 x l) : alenK false x = some (.int .i64 l.length) := by
  rcases h.1 with ⟨rfl, rfl⟩ | rfl
  · rfl
  · simp [alenK]
theorem IsU8.get {x : AV} {l : List Int} (h : IsU8 x l) {i : Nat} (hi : i < l.length) : aidxS 1 x (.int .i64 (i : Int)) = some (.ptr (.int .u8 (gI l i))) := by
  rcases h.1 with ⟨rfl, rfl⟩ | rfl
  · simp at hi
  · simp [aidxS, hi, gI_of hi]
theorem IsU8.leaf {x : AV} {l : List Int} (h : IsU8 x l) : x.leaf = true := by
  rcases h.1 with ⟨rfl, rfl⟩ | rfl <;> rfl
theorem bv8 (n : Nat) : BitVec.ofInt 8 (n : Int) = BitVec.ofNat 8 n := BitVec.ofInt_natCast 8 n
theorem wrapu8 {n : Nat} (h : n < 256) : IntKind.u8.wrap (n : Int) = n := by
  simp only [IntKind.wrap, IntKind.bits, IntKind.signed, Bool.false_and, Bool.false_eq_true, if_false]
  omega
theorem shr8 {kd a n : Nat} (h : n < 8) : abin kd .shr (.int .u8 (a : Int)) (.int .i64 (n : Int)) = some (.int .u8 ((a / 2 ^ n : Nat) : Int)) := by
  rw [abin_shr (by omega)]
  simp only [Int.toNat_natCast, IntKind.bits, Nat.min_eq_left (Nat.le_of_lt h)]
  rw [Int.fdiv_eq_ediv_of_nonneg _ (by exact_mod_cast Nat.zero_le _)]
  norm_cast
theorem and8 {kd b : Nat} (hb : b < 256) : abin kd .and (.int .u8 (b : Int)) (.int .u8 1) = some (.int .u8 ((b % 2 : Nat) : Int)) := by
  have e : (BitVec.ofInt 8 (b : Int) &&& BitVec.ofInt 8 (1 : Int)).toNat = b % 2 := by
    rw [show (1 : Int) = ((1 : Nat) : Int) from rfl, bv8, bv8, BitVec.toNat_and, BitVec.toNat_ofNat, BitVec.toNat_ofNat, Nat.mod_eq_of_lt (by omega), Nat.mod_eq_of_lt (by omega), Nat.and_one_is_mod]
  show some (AV.int IntKind.u8 (IntKind.u8.wrap ((BitVec.ofInt 8 (b : Int) &&& BitVec.ofInt 8 (1 : Int)).toNat : Int))) = _
  rw [e, wrapu8 (by omega)]
/-- lengths and creases of a strip by numbers -/
def len1 (n : Int) : Int := 1 + n.tmod 5
def mkL (es : List Int) : List Int := if es = [] then [2] else (es.take 6).map len1
def mkF (g n : Nat) : List UInt8 := (List.range n).map fun i => if g / 2 ^ i % 2 = 0 then 109 else 118
theorem mkF_succ (g n : Nat) : mkF g (n + 1) = mkF g n ++ [if g / 2 ^ n % 2 = 0 then 109 else 118] := by simp [mkF, List.range_succ]
theorem mkF_len (g n : Nat) : (mkF g n).length = n := by simp [mkF]
def lenV (es : List Int) : AV := if es = [] then exV [2] else outV 1 (ints (mkL es))
def madeV (es : List Int) (g : Nat) : AV := .agg [lenV es, .str (bs (mkF g ((mkL es).length - 1)))]
theorem len1_bd {n : Int} (h0 : 0 ≤ n) : 1 ≤ len1 n ∧ len1 n ≤ 5 := by
  unfold len1
  rw [Int.tmod_eq_emod_of_nonneg h0]
  omega
theorem mkL_len (es : List Int) : 1 ≤ (mkL es).length ∧ (mkL es).length ≤ 6 := by
  unfold mkL
  split
  · simp
  · rename_i h
    have : es.length ≠ 0 := fun e => h (List.length_eq_zero_iff.1 e)
    rw [List.length_map, List.length_take]; omega
theorem lenV_i (es : List Int) : asI (lenV es) = some (mkL es) := by
  unfold lenV mkL
  split
  · rfl
  · exact asI_outV (by rw [List.length_map, List.length_take]; omega)
theorem madeV_plain (es : List Int) (g : Nat) : (madeV es g).plain = true := by
  unfold madeV lenV
  split
  · rfl
  · simp only [AV.plain, plainL, plain_outV, Bool.and_self]
def ltk (es : List Int) (i : Nat) : List Int := (es.take i).map len1
theorem ltk_len (es : List Int) (i : Nat) : (ltk es i).length = min i es.length := by unfold ltk; rw [List.length_map, List.length_take]
theorem p39 {x : AV} {es : List Int} (hx : IsU8 x es) {g : Nat} (hg : g < 256) : PCall Tryd.prog 39 [.agg [x, .int .u8 (g : Int)]] (madeV es g) := by
  obtain ⟨C, hC, h44, _⟩ := ctx44 CtxOk.nil
  refine PCall.of hC ok39 (by simp) (madeV_plain es g) fun hs hb => ?_
  have hal := hx.len
  have ldx := leaf_ld hx.leaf
  have hxc : x.cells = [x] := by rcases hx.1 with ⟨rfl, _⟩ | rfl <;> rfl
  have hxs : x.sto = true := by rcases hx.1 with ⟨rfl, _⟩ | rfl <;> rfl
  simp only [A39, R39]
  rw [At.awp_seq]
  simp [hxs, -At.awp_seq]
  rw [At.awp_seq]
  simp [-At.awp_seq]
  rw [At.awp_seq]
  refine At.cut (fun s => s.env 1 = .ptr (.agg [x, .int .u8 (g : Int)]) ∧ s.env 2 = .ref hs.nh 0 ∧ s.env 3 = .ref (hs.nh + 1) 0 ∧ s.hs.heap hs.nh = some [.nilsl, .str (bs [])] ∧
    ∃ y, s.hs.heap (hs.nh + 1) = some [y, .str (bs [])] ∧ Outs 1 s.hs y (ints (ltk es 6))) ?_ ?_
  · simp
    refine At.loop (fun (i : Nat) s => i ≤ es.length ∧ i ≤ 6 ∧ s.env 1 = .ptr (.agg [x, .int .u8 (g : Int)]) ∧ s.env 2 = .ref hs.nh 0 ∧ s.env 3 = .ref (hs.nh + 1) 0 ∧ s.env 4 = .int .i64 (i : Int) ∧ s.hs.heap hs.nh = some [.nilsl, .str (bs [])] ∧
      ∃ y, s.hs.heap (hs.nh + 1) = some [y, .str (bs [])] ∧ Outs 1 s.hs y (ints (ltk es i))) (fun i => es.length - i) 0 ?_ ?_
    · simp
      exact .nil
    rintro N i s hN ⟨hi, hi6, e1, e2, e3, e4, hb0, y, hb1, ho⟩
    simp [e1, e4, ldx, hal]
    by_cases hlt : i < es.length ∧ i < 6
    · obtain ⟨h1, h2⟩ := hlt
      have hix := hx.get h1
      have hbd := hx.2 (gI es i) (by rw [gI_of h1]; exact List.getElem_mem _)
      have ld0 : aload s.hs.heap false 1 (.ref (hs.nh + 1) 0) = some y := ldc hb1 rfl
      have wc : IntKind.i64.wrap (gI es i) = gI es i := wrap8 hbd.1 hbd.2
      have wl : IntKind.i64.wrap (1 + (gI es i).tmod 5) = len1 (gI es i) := by
        have := len1_bd hbd.1
        unfold len1 at this ⊢
        exact wrap64 (by omega) (by omega)
      have h5 : ((gI es i).tmod 5 = (gI es i).tmod 5) := rfl
      obtain ⟨y2, hs', a1, a2, a3⟩ := ho.add1 (by rw [ltk_len]; omega) (len1 (gI es i))
      have hst : y2.sto = true ∧ y2.cells = [y2] ∧ y2.leaf = true := by
        obtain ⟨xs, hxs⟩ := aappend_own a1
        subst hxs
        exact ⟨rfl, rfl, rfl⟩
      have hb1' : hs'.heap (hs.nh + 1) = some [y, .str (bs [])] := by rw [a3.heap]; exact hb1
      have st := store_cell (v := y2) (o := 0) hb1' (by simp) hst.2.2
      have htk : ltk es (i + 1) = ltk es i ++ [len1 (gI es i)] := by unfold ltk; rw [take_snoc h1, List.map_append, gI_of h1]; rfl
      have w1 := wrap_nat1 (show i < _ by omega)
      have hi6' : (i : Int) < 6 := by omega
      have hie : (i : Int) < (es.length : Int) := by omega
      simp only [List.set_cons_zero] at st
      simp [e1, e3, e4, h1, h2, hi6', hie, ldx, fa, ld0, hix, wc, wl, astoAll, sto_in, cel_in, a1, st, w1]
      refine hN (i + 1) _ (by omega) ⟨by omega, by omega, ?_⟩
      simp [e1, e2, e3, a3.heap, hb0]
      have := a2.cong (hs' := ⟨fun k => if k = hs.nh + 1 then some [y2, .str (bs [])] else s.hs.heap k, hs'.nh, hs'.nt, hs'.tok, hs'.mp⟩) rfl rfl
      rw [htk]
      exact this
    · have hts : ltk es i = ltk es 6 := by
        by_cases h : i = 6
        · rw [h]
        · unfold ltk; rw [List.take_of_length_le (by omega), List.take_of_length_le (by omega)]
      rw [hts] at ho
      by_cases hl1 : i < es.length
      · have hl2 : ¬ i < 6 := fun h => hlt ⟨hl1, h⟩
        simp [e1, e2, e3, e4, hl1, hl2, show ¬ (i : Int) < 6 by omega, show (i : Int) < (es.length : Int) by omega]
        exact ⟨hb0, y, hb1, ho⟩
      · simp [e1, e2, e3, e4, hl1, show ¬ (i : Int) < (es.length : Int) by omega]
        exact ⟨hb0, y, hb1, ho⟩
  rintro s ⟨e1, e2, e3, hb0, y, hb1, ho⟩
  have hyi := ho.asI (by rw [ltk_len]; omega)
  have ld0 : aload s.hs.heap false 1 (.ref (hs.nh + 1) 0) = some y := ldc hb1 rfl
  rw [At.awp_seq]
  refine At.cut (fun s => s.env 1 = .ptr (.agg [x, .int .u8 (g : Int)]) ∧ s.env 2 = .ref hs.nh 0 ∧ s.env 3 = .ref (hs.nh + 1) 0 ∧ s.hs.heap hs.nh = some [.nilsl, .str (bs [])] ∧
    ∃ z, s.hs.heap (hs.nh + 1) = some [z, .str (bs [])] ∧ asI z = some (mkL es) ∧ z.share = lenV es) ?_ ?_
  · have hz : (ltk es 6).length = 0 ↔ es = [] := by
      rw [ltk_len]
      constructor
      · intro h; exact List.length_eq_zero_iff.1 (by omega)
      · intro h; rw [h]; rfl
    have hly := alen_of hyi
    by_cases he : es = []
    · rw [hz.2 he] at hly
      have h2 : C 44 [.sl 1 [.int .i64 2] .exact] = some (.sl 1 [.int .i64 2] .exact) := h44 [2]
      have st := store_cell (v := .sl 1 [.int .i64 2] .exact) (o := 0) hb1 (by simp) rfl
      simp only [List.set_cons_zero] at st
      simp [e1, e2, e3, fa, ld0, hly, astoAll, sto_in, cel_in, h2, st, hb0]
      subst he
      exact ⟨rfl, rfl⟩
    · have hn : ¬ ((ltk es 6).length : Int) = 0 := fun h => he (hz.1 (by omega))
      have hne : ¬ ltk es 6 = [] := fun h => hn (by rw [h]; rfl)
      have hm : mkL es = ltk es 6 := by unfold mkL ltk; rw [if_neg he]
      have hv : lenV es = outV 1 (ints (mkL es)) := by unfold lenV; rw [if_neg he]
      rw [hv, hm]
      have hsh := ho.sh
      generalize ltk es 6 = L at *
      simp [e1, e2, e3, fa, ld0, hly, hn, hne, hb0]
      exact ⟨y, hb1, hyi, hsh⟩
  rintro s ⟨e1, e2, e3, hb0, z, hb1, hzi, hzs⟩
  obtain ⟨n1, n2⟩ := mkL_len es
  have hal2 := alen_of hzi
  have ldz : aload s.hs.heap false 1 (.ref (hs.nh + 1) 0) = some z := ldc hb1 rfl
  have wn : IntKind.i64.wrap (((mkL es).length : Int) - 1) = (((mkL es).length - 1 : Nat) : Int) := by rw [wrap64 (by omega) (by omega)]; omega
  have hzs2 : z.sto = true ∧ z.cells = [z] := ⟨asI_sto hzi, asI_cells hzi⟩
  have hmv : madeV es g = .agg [lenV es, .str (bs (mkF g ((mkL es).length - 1)))] := rfl
  rw [hmv, ← hzs]
  have hle : (mkL es).length - 1 ≤ 5 := by omega
  generalize (mkL es).length - 1 = n at wn hle ⊢
  simp [e1, e2, e3, fa, ldz, hal2, wn]
  refine At.loop (fun (i : Nat) s => i ≤ n ∧ s.env 1 = .ptr (.agg [x, .int .u8 (g : Int)]) ∧ s.env 2 = .ref hs.nh 0 ∧ s.env 3 = .ref (hs.nh + 1) 0 ∧ s.env 40 = .int .i64 (n : Int) ∧ s.env 41 = .int .i64 (i : Int) ∧ s.hs.heap hs.nh = some [.nilsl, .str (bs [])] ∧
    s.hs.heap (hs.nh + 1) = some [z, .str (bs (mkF g i))]) (fun i => n - i) 0 ?_ ?_
  · simp [e1, e2, e3, hb0, hb1]
    rfl
  clear ldz hal2 wn hb0 hb1 e1 e2 e3
  rintro N i s hN ⟨hi, e1, e2, e3, e40, e41, hb0, hb1⟩
  simp [e40, e41]
  refine At.dec (fun hlt => ?_) (fun hlt => ?_)
  · have hi' : i < n := by omega
    have ld1 : aload s.hs.heap false 1 (.ref (hs.nh + 1) 1) = some (.str (bs (mkF g i))) := ldc hb1 rfl
    have sh := shr8 (kd := 0) (a := g) (n := i) (by omega)
    have hdb : g / 2 ^ i < 256 := Nat.lt_of_le_of_lt (Nat.div_le_self _ _) hg
    have an := and8 (kd := 0) hdb
    have w1 := wrap_nat1 (show i < _ by omega)
    have hsu := mkF_succ g i
    have hml := mkF_len g i
    obtain ⟨b, hbe, hbc⟩ : ∃ b : Nat, g / 2 ^ i % 2 = b ∧ (b = 0 ∨ b = 1) := ⟨_, rfl, by omega⟩
    have z1 : amem (.ssl true false) s.hs [.str (bs [109, 118]), .int .u8 (b : Int)] = some (.str (bs ([109, 118].drop b)), s.hs) := ssl_l (by rcases hbc with rfl | rfl <;> decide)
    have z2 : amem (.ssl false true) s.hs [.str (bs ([109, 118].drop b)), .int .i64 ((1 : Nat) : Int)] = some (.str (bs (([109, 118].drop b).take 1)), s.hs) := ssl_h (by rcases hbc with rfl | rfl <;> decide)
    have hc1 : ([109, 118].drop b).take 1 = [if g / 2 ^ i % 2 = 0 then (109 : UInt8) else 118] := by rw [hbe]; rcases hbc with rfl | rfl <;> rfl
    rw [hc1, ← hbe] at z2
    rw [← hbe] at z1
    have hadd : abin 0 .add (.str (bs (mkF g i))) (.str (bs [if g / 2 ^ i % 2 = 0 then (109 : UInt8) else 118])) = some (.str (bs (mkF g (i + 1)))) := by rw [hsu]; exact abin_sadd (by rw [hml]; simp; omega)
    have st := store_cell (v := .str (bs (mkF g (i + 1)))) (o := 1) hb1 (by simp) rfl
    simp only [List.set_cons_succ, List.set_cons_zero] at st
    generalize [if g / 2 ^ i % 2 = 0 then (109 : UInt8) else 118] = ch at z2 hadd
    generalize hdr : ([109, 118] : List UInt8).drop (g / 2 ^ i % 2) = dr at z1 z2
    generalize ((g / 2 ^ i % 2 : Nat) : Int) = bi at an z1
    generalize ((g / 2 ^ i : Nat) : Int) = gi at sh an
    have z2' : amem (.ssl false true) s.hs [.str (bs dr), .int .i64 1] = some (.str (bs ch), s.hs) := z2
    simp [e1, e3, e41, fa, ld1, sh, an, z1, z2', hadd, st, w1]
    refine hN (i + 1) _ (by omega) ⟨by omega, ?_⟩
    simp [e1, e2, e3, e40, hb0]
  · have hin : i = n := by omega
    subst hin
    have ldb : aload s.hs.heap true 2 (.ref (hs.nh + 1) 0) = some (.agg [z, .str (bs (mkF g i))]) := load_ref2 hb1
    have st := st2_of hb0 z (.str (bs (mkF g i)))
    have ld2 : aload (fun k => if k = hs.nh then some [z, .str (bs (mkF g i))] else s.hs.heap k) true 2 (.ref hs.nh 0) = some (.agg [z, .str (bs (mkF g i))]) := load_ref2 (by simp)
    simp [e2, e3, ldb, st, aResult, aResL, aRes, ld2]
end Go.Proofs.YtedpcenghofpoaaDoor
