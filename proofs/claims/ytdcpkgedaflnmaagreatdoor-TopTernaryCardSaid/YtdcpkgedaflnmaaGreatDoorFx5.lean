/-
  From a contract of a law to its row, where the row lists package-level variables that the law's run does not read. Own work, after the worked example 'mapy'; over any program.
  Aggregates in memory: whole blocks, and entries of tables. Own work.
  Calls that read the caller's mutable slices and return a tuple of scalars; a mutable slice that lasts from a call on. Own work; over any program.
  A slice of numbers that a walk of the kit's make hands back, read by value. Own work; over any program.
  A region in a round of a loop over an iterator, by the by-value reading. Own work; over any program.
-/
import Derived.Test.YtdcpkgedaflnmaaGreatDoorFx4
import Derived.LaidMore
import Derived.Laws.AppendOwn
import Derived.Test.YtdcpkgedaflnmaaGreatDoorFx2
import Derived.OrdersIn
import Derived.TacticsIn
import Derived.RangeFuncCalls
set_option linter.unusedVariables false
set_option linter.unusedSimpArgs false
namespace Fw
open Go Go.ChangeShapes Go.WideShapes Go.ChangeAt Go.RowKit

theorem law_laid {C : Checked} {os : Os} {f : FuncId} {fn : Func} {s : ChangeSpec} {conds : List PathCond} {H : Type} {enc : TypeId × Value → H} {X : World → Prop} (Ts : List Ty) (tb : TypeId)
    (hX : ∀ (w w' : World), w.heap = w'.heap → X w → X w')
    (own : ownKnob C.prog.godebug = none) (started : os.Started) (noInit : C.prog.inits.idxOf? f = none) (hfn : C.prog.funcs[f]? = some fn)
    (witness : ∃ (w : World) (tape : Tape) (i : Input), w.os = os ∧ (w.forCall tape i).Shaped C.prog ∧ i.vars = [] ∧ Input.okWide C.prog (w.forCall tape i) .any w.heap.size f i ∧
      ((s.pre enc C.prog fn conds false (w.forCall tape i).memory i.args ∧ X (w.forCall tape i).memory) ∧ sizedMet enc C.prog fn (OpenSpec.ofChange s) false (w.forCall tape i).memory i.args) ∧ ({} : Assume).holds C.prog (lone (Frame.enter C.prog f i.args .normal) [] (w.forCall tape i)))
    (hvars : s.vars = []) (hlen : fn.params.toList.length = Ts.length) (hok : (fn.params.toList.zip Ts).all (fun p => (p.2.ok C.prog false).1 p.1) = true)
    (hspec : ∀ ds : List (DataW H), ds.length = Ts.length → s.fn H ds = { results := [.lit (.bool true)], args := ds })
    (hres : fn.resultTypes = #[tb]) (htb : C.prog.underlying tb = some .bool)
    (h : ∀ xs, Typed Ts xs → PCall C.prog f xs (.bool true)) :
    ReturnsInHanded {} C os f .any (fun w args => (s.pre enc C.prog fn conds false w args ∧ X w) ∧ sizedMet enc C.prog fn (OpenSpec.ofChange s) false w args) (s.post enc C.prog fn false true false false) := by
  refine returnsInHanded_of_change_and (C := C) (X := fun w _ => X w) (fun w w' _ hh hx => hX w w' hh hx) own started noInit hfn witness ?_
  intro W base args ds gs before hval hW hcnd _ _ _
  have hW' := hW
  obtain ⟨p, q, hA, hV, rfl, hfz, hnd⟩ := hW
  rw [hvars] at hV
  obtain ⟨rfl, rfl⟩ := trodVars_none hV
  obtain ⟨xs, g1, g2, g3, g4⟩ := open_args (b0 := base) hlen (fun j t T h1 h2 => by
    have := List.all_eq_true.1 hok (t, T) (List.mem_of_getElem? (i := j) (by rw [List.getElem?_zip_eq_some]; exact ⟨h1, h2⟩))
    exact this) (fun j t v h1 h2 => hval j t v (by simpa using h1) (by simpa using h2)) hA
  have hdl : ds.length = Ts.length := by
    have : ∀ {ts : List TypeId} {vs : List Value} {ds : List (DataW H)} {ps : List MemPlace}, DataW.TrodAll enc C.prog W 0 (fun _ => true) true ts vs ds ps → ds.length = ts.length := by
      intro ts
      induction ts with
      | nil => intro vs ds ps h; obtain ⟨rfl, rfl, rfl⟩ := trodAll_nil h; rfl
      | cons t ts ih =>
        intro vs ds ps h
        obtain ⟨v, vs', d, ds', p1, p2, rfl, rfl, rfl, h1, h2⟩ := trodAll_cons h
        simp [ih h2]
    rw [this hA, hlen]
  have hsp := hspec ds hdl
  have hv := g3
  refine (Fw.lift_true (h xs (Typed.of g1 g2)) hv).mono fun e W' ⟨he, hg⟩ => ?_
  subst he
  simp only [List.append_nil] at hW'
  refine ⟨_, rfl, post_same_old (pa := p) (pv := []) hW' (fun _ _ _ => ?_) (fun sp hsp' => ?_) (fun sp hsp' => ?_) (by simp) (hg.frame _) hg.2.1 (ok_one hres rfl (okWide_bool_mk htb _))⟩
  · rw [List.append_nil, hsp, hres]
    exact trodAll_mk1 (shut_bool htb _)
  · rw [List.append_nil, hsp]
    exact g4 W' hg sp hsp'
  · rw [List.append_nil, hsp, hvars]
    exact rfl
end Fw
set_option linter.unusedVariables false
set_option linter.unusedSimpArgs false
namespace Fw
open Go

theorem setL_midB : ∀ (xs old A B : List AV), xs.length = old.length → setL (A ++ old ++ B) A.length xs = A ++ xs ++ B
  | [], old, A, B, h => by
    have : old = [] := List.length_eq_zero_iff.1 (by simpa using h.symm)
    subst this
    rfl
  | x :: xs, [], A, B, h => by simp at h
  | x :: xs, o :: os, A, B, h => by
    have e : (A ++ o :: os ++ B).set A.length x = (A ++ [x]) ++ os ++ B := by
      rw [List.append_assoc, List.set_append_right (h := Nat.le_refl _)]
      simp
    rw [setL, e]
    have := setL_midB xs os (A ++ [x]) B (by simpa using h)
    rw [List.length_append] at this
    simpa using this
theorem sto_agg {hp : Nat → Option (List AV)} {i n : Nat} {ys xs : List AV} (h : hp i = some ys) (hs : (AV.agg xs).sto = true) (hc : (AV.agg xs).cells = xs) (hn : xs.length = n) (hl : ys.length = n) :
    astore hp n (.ref i 0) (.agg xs) = some fun k => if k = i then some xs else hp k := by
  have e : setL ys 0 xs = xs := by
    have := setL_midB xs ys [] [] (by omega)
    simpa using this
  simp [astore, h, hs, hc, hn, hl, e]
theorem ld_agg {hp : Nat → Option (List AV)} {i n : Nat} {ys : List AV} (h : hp i = some ys) (hl : ys.length = n) : aload hp true n (.ref i 0) = some (.agg ys) := by
  subst hl
  simp [aload, h, apart]
/-- entries of five cells each -/
def ent (G : Nat → List AV) (n : Nat) : List AV := ((List.range n).map G).flatten
theorem ent_len {G : Nat → List AV} {z : Nat} (hG : ∀ k, (G k).length = z) : ∀ n, (ent G n).length = z * n
  | 0 => rfl
  | n + 1 => by
    have := ent_len hG n
    simp only [ent, List.range_succ, List.map_append, List.flatten_append, List.length_append] at this ⊢
    rw [this]
    simp [hG, Nat.mul_succ]
theorem ent_add (G : Nat → List AV) (m n : Nat) : ent G (m + n) = ent G m ++ ent (fun i => G (m + i)) n := by
  simp [ent, List.range_add, Function.comp_def]
theorem ent_mid (G : Nat → List AV) {k n : Nat} (h : k < n) : ent G n = ent G k ++ G k ++ ent (fun i => G (k + 1 + i)) (n - (k + 1)) := by
  rw [show n = k + (1 + (n - (k + 1))) by omega, ent_add, ent_add]
  simp only [show k + (1 + (n - (k + 1))) - (k + 1) = n - (k + 1) by omega]
  have e : ent (fun i => G (k + i)) 1 = G k := by simp [ent]
  rw [e, List.append_assoc]
  congr 2
  congr 1
  funext i
  congr 1
  omega
theorem ent_cong {G H : Nat → List AV} {n : Nat} (h : ∀ k, k < n → G k = H k) : ent G n = ent H n := by
  unfold ent
  congr 1
  exact List.map_congr_left fun k hk => h k (List.mem_range.1 hk)
theorem ent_ld {hp : Nat → Option (List AV)} {i z n k : Nat} {G : Nat → List AV} (hG : ∀ k, (G k).length = z) (h : hp i = some (ent G n)) (hk : k < n) : aload hp true z (.ref i (z * k)) = some (.agg (G k)) := by
  have hl := ent_len hG n
  have hle : z * k + z ≤ z * n := by
    have : z * (k + 1) ≤ z * n := Nat.mul_le_mul_left _ hk
    rw [Nat.mul_succ] at this; exact this
  simp only [aload, h, Option.bind_some, apart, if_true]
  rw [if_pos (by rw [hl]; exact hle), ent_mid G hk]
  have h1 : (ent G k).length = z * k := ent_len hG k
  rw [List.append_assoc, List.drop_append_of_le_length (by omega), List.drop_of_length_le (by omega), List.nil_append, List.take_append_of_le_length (by rw [hG]; exact Nat.le_refl _), List.take_of_length_le (by rw [hG]; exact Nat.le_refl _)]
theorem ent_cell {hp : Nat → Option (List AV)} {i z n k o : Nat} {G : Nat → List AV} (hG : ∀ k, (G k).length = z) (h : hp i = some (ent G n)) (hk : k < n) (ho : o < z) : aload hp false 1 (.ref i (z * k + o)) = (G k)[o]? := by
  simp only [aload, h, Option.bind_some, apart]
  have h1 : (ent G k).length = z * k := ent_len hG k
  simp only [Bool.false_eq_true, if_false]
  rw [ent_mid G hk, List.append_assoc, List.getElem?_append_right (by omega), h1, Nat.add_sub_cancel_left, List.getElem?_append_left (by rw [hG]; exact ho)]
theorem ent_sto {hp : Nat → Option (List AV)} {i z n k : Nat} {G : Nat → List AV} {xs : List AV} (hG : ∀ k, (G k).length = z) (h : hp i = some (ent G n)) (hk : k < n) (hs : (AV.agg xs).sto = true) (hc : (AV.agg xs).cells = xs) (hx : xs.length = z) :
    astore hp z (.ref i (z * k)) (.agg xs) = some fun j => if j = i then some (ent (fun j => if j = k then xs else G j) n) else hp j := by
  have hl := ent_len hG n
  have hle : z * k + z ≤ z * n := by
    have : z * (k + 1) ≤ z * n := Nat.mul_le_mul_left _ hk
    rw [Nat.mul_succ] at this; exact this
  have e : setL (ent G n) (z * k) xs = ent (fun j => if j = k then xs else G j) n := by
    have h1 : (ent G k).length = z * k := ent_len hG k
    rw [ent_mid G hk, ← h1, setL_midB _ _ _ _ (by rw [hG]; exact hx), ent_mid (fun j => if j = k then xs else G j) hk]
    rw [if_pos rfl]
    congr 1
    · congr 1
      exact ent_cong fun j hj => by rw [if_neg (by omega)]
    · exact ent_cong fun j hj => by rw [if_neg (by omega)]
  simp only [astore, h, Option.bind_some, hc, e]
  rw [if_pos ⟨hs, hx, by rw [hl]; exact hle⟩]
end Fw
set_option linter.unusedVariables false
namespace Fw
open Go

theorem PCall.loanT {P : Program} {f : FuncId} {args : List AV} {r : AV} {n : Nat} {c : CM} {hs : HS} {w : World} {vs : List Value} (h : PCall P f (args.map (frz hs.heap n)) r) (hsc : ∀ {c c' : CM} {v : Value}, Rep c v r → Rep c' v r) (hi : Inv c hs w) (hv : RepL c vs args) :
    Calls P f vs.toArray w fun e w' => ∃ v c', e = .returned v ∧ Rep c' v r ∧ Inv c' hs w' ∧ Fr c w c' w' := by
  let cp : CM := { c with cl := fun b o => match c.cl b o with | .imm v => .imm v | .blk _ _ => (match w.cell? ⟨b, o, none⟩ with | some v => .imm v | none => .no) | _ => .no, val := fun _ => false }
  let hp : HS := { hs with heap := fun _ => none, tok := fun _ => false, mp := fun _ => none }
  have hnw : ∀ b o, (cp.cl b o).writable = false := by
    intro b o
    simp only [cp]
    split <;> (try split) <;> rfl
  have himm : ∀ b o v, cp.cl b o = .imm v → w.cell? ⟨b, o, none⟩ = some v := by
    intro b o v e
    simp only [cp] at e
    split at e
    · rename_i u hu
      injection e with e; subst e
      exact hi.imm b o u hu
    · split at e
      · rename_i u hu
        injection e with e; subst e; exact hu
      · cases e
    · cases e
  have hip : Inv cp hp w := by
    refine ⟨hi.nh, hi.nt, fun _ => rfl, fun k hk => by simp [cp] at hk, himm, fun b o k e => ?_, fun i ys e => by simp [hp] at e, fun b o hb => ?_, fun i ps e => by simp [hp] at e⟩
    · have := hnw b o; rw [e] at this; cases this
    · simp only [cp, hi.dom b o hb]
  have hk : Knows c cp := ⟨fun b o v e => by simp only [cp, e], rfl, fun _ => rfl, rfl, fun k e => by simp [cp] at e⟩
  have hb : ∀ b o i j v, c.cl b o = .blk i j → w.cell? ⟨b, o, none⟩ = some v → cp.cl b o = .imm v := fun b o i j v e e' => by simp only [cp, e, e']
  have hvp : RepL cp vs (args.map (frz hs.heap n)) := by
    refine ⟨by rw [List.length_map]; exact hv.1, fun j v y hv' hy => ?_⟩
    rw [List.getElem?_map] at hy
    cases hx : args[j]? with
    | none => rw [hx] at hy; cases hy
    | some y0 => rw [hx] at hy; injection hy with hy; subst hy; exact Rep.frz hk hi hb n (hv.2 j v y0 hv' hx)
  refine ((h.run hp ⟨fun _ => rfl, fun _ => rfl⟩).run cp w vs hip hvp).mono ?_
  rintro e w' ⟨ae, hs', c', rfl, he, hi', hf⟩
  cases e with
  | returned v =>
    have he : Rep c' v r := he
    have hcell : ∀ b o v, w.cell? ⟨b, o, none⟩ = some v → w'.cell? ⟨b, o, none⟩ = some v := fun b o v e => hf.cell (hnw b o) e
    have hmap : ∀ (b : Nat) es k, w.heap[b]? = some (.map es k) → w'.heap[b]? = some (.map es k) := fun b es k e => by
      have hb : b < w.heap.size := by
        rcases Nat.lt_or_ge b w.heap.size with h' | h'
        · exact h'
        · rw [Array.getElem?_eq_none h'] at e; cases e
      have := hf.blk b hb
      rw [e] at this
      simp only [FrB] at this
      obtain ⟨es', k', e1, e2⟩ := this
      obtain ⟨rfl, rfl⟩ := e2 (hnw b 0)
      exact e1
    refine ⟨v, c, rfl, hsc he, ⟨hi.nh, hi.nt, hi.tokv, hi.vlt, fun b o v e => hcell _ _ _ (hi.imm b o v e), ?_, ?_, fun b o hb => hi.dom b o (Nat.le_trans hf.size hb), hi.mapsTo (.refl c) (fun _ _ h => h) (fun _ _ e _ => e) hmap⟩, ⟨.refl c, hf.os, hf.out, hf.size, ?_, fun b o hb e => e, hf.frz⟩⟩
    · intro b o k e
      obtain ⟨⟨u, hu⟩, hz⟩ := hi.toks b o k e
      exact ⟨⟨u, hcell _ _ _ hu⟩, by rw [hf.frz _ (World.block_lt_of_cell? w _ hu)]; exact hz⟩
    · intro i ys e
      obtain ⟨h1, h2⟩ := hi.heap i ys e
      refine ⟨h1, fun j y hy => ?_⟩
      obtain ⟨a1, a2, a3, u, a4, a5⟩ := h2 j y hy
      exact ⟨a1, a2, by rw [hf.frz _ (World.block_lt_of_cell? w _ a4)]; exact a3, u, hcell _ _ _ a4, a5⟩
    · intro b hb
      have := hf.blk b hb
      generalize w.heap[b]? = x at this ⊢
      cases x with
      | none => exact this
      | some x =>
        cases x with
        | cells cs e fr =>
          simp only [FrB] at this ⊢
          obtain ⟨cs', h1, h2, h3⟩ := this
          exact ⟨cs', h1, h2, fun o _ => h3 o (hnw b o)⟩
        | map es k =>
          simp only [FrB] at this ⊢
          obtain ⟨es', k', h1, h2⟩ := this
          exact ⟨es', k', h1, fun _ => h2 (hnw b 0)⟩
        | _ => exact this
  | panicked chain => exact he.elim
  | outgrown => exact he.elim
theorem rep_two {c c' : CM} {v : Value} {a b : Int} {k1 k2 : IntKind} (h : Rep c v (.tup [.int k1 a, .int k2 b])) : Rep c' v (.tup [.int k1 a, .int k2 b]) := by
  cases h with
  | tup vs xs hl h =>
    refine .tup vs _ hl fun j v y h1 h2 => ?_
    have := h j v y h1 h2
    match j, h2 with
    | 0, h2 => injection h2 with h2; subst h2; cases this; exact .int _ _
    | 1, h2 => injection h2 with h2; subst h2; cases this; exact .int _ _
/-- a call that reads mutable slices, and returns two numbers -/
theorem FCall.lent2 {P : Program} {f : FuncId} {args : List AV} {hs : HS} {a b : Int} {n : Nat} {k1 k2 : IntKind} (h : PCall P f (args.map (frz hs.heap n)) (.tup [.int k1 a, .int k2 b])) : FCall P f args hs fun e hs' => e = .ret (.tup [.int k1 a, .int k2 b]) ∧ hs' = hs := by
  have hok := (h.run ⟨fun _ => none, 0, 0, fun _ => false, fun _ => none⟩ ⟨fun _ => rfl, fun _ => rfl⟩).ok
  refine ⟨hok, fun c w vs hi hv => (h.loanT rep_two hi hv).mono ?_⟩
  rintro e w' ⟨v, c', rfl, h1, h2, h3⟩
  exact ⟨.ret _, hs, c', ⟨rfl, rfl⟩, h1, h2, h3⟩
end Fw
set_option linter.unusedVariables false
set_option linter.unusedSimpArgs false
namespace Fw
open Go Go.RowKit

end Fw
set_option linter.unusedVariables false
set_option linter.unusedSimpArgs false
namespace Fw
open Go

def isDef : Op → Bool
  | .defer _ => true
  | _ => false
theorem wp_in {l m : Nat} {P : Program} {o : Oper} {a : Act} {w : World} {K K' : Act → World → Prop} {Q : Exit → Act → World → Prop} (hd : isDef o.op = false) (hk : ∀ a w, K a w → K' a w) (h : o.wp P a w K Q) : o.wpIn (Fence.wide.inRound l) m P a w K' Q := by
  refine ⟨fun _ _ => trivial, ?_⟩
  rw [Oper.semAt_eq _ _ _ (fun c e => by rw [e] at hd; cases hd)]
  unfold Oper.wp at h
  generalize (execOp a.eval o).run P w = r at *
  cases r with
  | ok x w' =>
    cases x <;> simp only [Oper.upon] at h <;> (try (exact h.elim))
    case value v => exact hk _ _ h
    case skip => exact hk _ _ h
    case defer d => exact hk _ _ h
    case enter f args =>
      refine ⟨(fun h => by cases h), CallsIn.inRound l (callsIn_wide.2 (h.mono fun e w'' he => ?_))⟩
      cases e <;> first | exact hk _ _ he | exact he
    case row row args =>
      exact ⟨(fun h => by cases h), fun c cs _ => let ⟨v, w', r, s⟩ := h c cs; ⟨v, w', hk _ _ r, stepsIn_wide.2 s⟩⟩
  | halt x w' => cases x <;> simp only [Oper.upon] at h <;> first | exact h | exact h.elim
section
variable {l m : Nat} {P : Program} {ops : Array Oper} {Q : Exit → Act → World → Prop}
theorem op_in (hL : ¬ LetsOut Q) (hd : ∀ (i : Nat) (o : Oper), ops[i]? = some o → isDef o.op = false) {i : Nat} {K K' : Act → World → Prop} (hk : ∀ a w, K a w → K' a w) {a : Act} {w : World} (h : wpOp P ops Q i K a w) : wpOpIn (Fence.wide.inRound l) m P ops Q i K' a w := by
  unfold wpOp at h
  unfold wpOpIn
  cases ho : ops[i]? with
  | none => rw [ho] at h; exact hk _ _ h
  | some o =>
    rw [ho] at h
    simp only at h ⊢
    split at h
    · rename_i hw
      rw [if_pos hw]
      rcases h with h | ⟨_, h⟩
      · exact wp_in (hd i o ho) hk h
      · exact absurd h hL
    · rename_i hw
      rw [if_neg hw]
      exact ⟨fun _ _ => trivial, hk _ _ h⟩
theorem any_in (hL : ¬ LetsOut Q) (hd : ∀ (i : Nat) (o : Oper), ops[i]? = some o → isDef o.op = false) {md : Region.Mode} : ∀ (fuel : Nat) {li : Array Bool} {a : Act} {w : World}, wpAny P md ops Q fuel li a w → wpAnyIn (Fence.wide.inRound l) m P md ops Q fuel li a w
  | 0, li, a, w, h => h
  | fuel + 1, li, a, w, h => ⟨h.1, fun i hi => op_in hL hd (fun a w h => any_in hL hd fuel h) (h.2 i hi)⟩
end
theorem ql_out {n : Nat} {c0 : CM} {w0 : World} {ds : List Deferred} {Q : AEx → AS → Prop} : ¬ LetsOut (QL n c0 w0 ds Q) := by
  rintro ⟨a, w, ae, c, s, _, hm, _⟩
  cases ae <;> exact hm
/-- a region of open order in a round -/
theorem rega_round {P : Program} (hm : P.follows .mixedOrders = true) {C : PCtx} (hC : CtxOk P C) {n : Nat} {muts : List Nat} {pu : List FuncId} {id : Nat} {ops : Array Oper} {xs : List AI} (hxs : cvtL P n muts pu ops (List.range ops.size) = some xs) {ds : List (List Nat)} (hds : ops.toList.map deps = ds) (hd : ops.toList.all (fun o => !isDef o.op) = true) {Q : AEx → AS → Prop}
    {c0 : CM} {w0 : World} {df : List Deferred} {c : CM} {s : AS} {a : Act} {w : World} (h : anyW P C ds xs xs.length [] Q s) (hs : St n c0 w0 df c s a w) (l m : Nat) : (Code.region id ops true).wpIn (Fence.wide.inRound l) m P (QL n c0 w0 df Q) a w := by
  have hlen := (cvtL_get _ _ hxs).1
  simp only [List.length_range] at hlen
  rw [← hlen, ← hds] at h
  refine wpIn_region_any hm (any_in ql_out (fun i o ho => by
    have := List.all_eq_true.1 hd o (by
      obtain ⟨hlt, e⟩ := Array.getElem?_eq_some_iff.1 ho
      rw [← e]
      exact Array.getElem_mem_toList hlt)
    simpa using this) _ ?_)
  have hst : St n c0 w0 df c s a { w with drawn := w.drawn + 1 } := ⟨hs.env, hs.inv.drew, hs.fr.drew, hs.df⟩
  exact every_sound hC hxs ops.size [] (Array.replicate ops.size false) c s a { w with drawn := w.drawn + 1 } (by simp) (fun k => by simp [Array.getElem?_replicate]) h hst
end Fw
