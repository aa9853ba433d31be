/-
  From a contract of a law to its row, where the row lists package-level variables that the law's run does not read. Own work, after the worked example 'mapy'; over any program.
  Aggregates in memory: whole blocks, and entries of tables. Own work.
  A slice of numbers that a walk of the kit's make hands back, read by value. Own work; over any program.
-/
import Derived.Test.YtdcpkgedaflnmaaDoorFx4
import Derived.LaidMore
import Derived.Laws.AppendOwn
set_option linter.unusedVariables false
set_option linter.unusedSimpArgs false
namespace Fw
open Go Go.ChangeShapes Go.WideShapes Go.ChangeAt Go.RowKit

theorem law_laid {C : Checked} {os : Os} {f : FuncId} {fn : Func} {s : ChangeSpec} {conds : List PathCond} {H : Type} {enc : TypeId × Value → H} {X : World → Prop} (Ts : List Ty) (tb : TypeId)
    (hX : ∀ (w w' : World), w.heap = w'.heap → X w → X w') (hG : ∀ w, X w → GX (cm0 w))
    (own : ownKnob C.prog.godebug = none) (started : os.Started) (noInit : C.prog.inits.idxOf? f = none) (hfn : C.prog.funcs[f]? = some fn)
    (witness : ∃ (w : World) (tape : Tape) (i : Input), w.os = os ∧ (w.forCall tape i).Shaped C.prog ∧ i.vars = [] ∧ Input.okWide C.prog (w.forCall tape i) .any w.heap.size f i ∧
      ((s.pre enc C.prog fn conds false (w.forCall tape i).memory i.args ∧ X (w.forCall tape i).memory) ∧ sizedMet enc C.prog fn (OpenSpec.ofChange s) false (w.forCall tape i).memory i.args) ∧ ({} : Assume).holds C.prog (lone (Frame.enter C.prog f i.args .normal) [] (w.forCall tape i)))
    (hvars : s.vars = []) (hlen : fn.params.toList.length = Ts.length) (hok : (fn.params.toList.zip Ts).all (fun p => (p.2.ok C.prog false).1 p.1) = true)
    (hspec : ∀ ds : List (DataW H), ds.length = Ts.length → s.fn H ds = { results := [.lit (.bool true)], args := ds })
    (hres : fn.resultTypes = #[tb]) (htb : C.prog.underlying tb = some .bool)
    (h : ∀ xs, Typed Ts xs → PCall C.prog f xs (.bool true)) :
    ReturnsInHanded {} C os f .any (fun w args => (s.pre enc C.prog fn conds false w args ∧ X w) ∧ sizedMet enc C.prog fn (OpenSpec.ofChange s) false w args) (s.post enc C.prog fn false true false false) := by
  refine returnsInHanded_of_change_and (C := C) (X := fun w _ => X w) (fun w w' _ hh hx => hX w w' hh hx) own started noInit hfn witness ?_
  intro W base args ds gs before hval hW hcnd _ hXW _
  have hW' := hW
  obtain ⟨p, q, hA, hV, rfl, hfz, hnd⟩ := hW
  rw [hvars] at hV
  obtain ⟨rfl, rfl⟩ := trodVars_none hV
  obtain ⟨xs, g1, g2, g3, g4⟩ := open_args (b0 := base) hlen (fun j t T h1 h2 => by
    have := List.all_eq_true.1 hok (t, T) (List.mem_of_getElem? (i := j) (by rw [List.getElem?_zip_eq_some]; exact ⟨h1, h2⟩))
    exact this) (fun j t v h1 h2 => hval j t v (by simpa using h1) (by simpa using h2)) hA
  have hdl : ds.length = Ts.length := by
    have : ∀ {ts : List TypeId} {vs : List Value} {ds : List (DataW H)} {ps : List MemPlace}, DataW.TrodAll enc C.prog W 0 (fun _ => true) true ts vs ds ps → ds.length = ts.length := by
      intro ts
      induction ts with
      | nil => intro vs ds ps h; obtain ⟨rfl, rfl, rfl⟩ := trodAll_nil h; rfl
      | cons t ts ih =>
        intro vs ds ps h
        obtain ⟨v, vs', d, ds', p1, p2, rfl, rfl, rfl, h1, h2⟩ := trodAll_cons h
        simp [ih h2]
    rw [this hA, hlen]
  have hsp := hspec ds hdl
  have hv := g3
  refine (Fw.lift_true (h xs (Typed.of g1 g2)) (hG W hXW) hv).mono fun e W' ⟨he, hg⟩ => ?_
  subst he
  simp only [List.append_nil] at hW'
  refine ⟨_, rfl, post_same_old (pa := p) (pv := []) hW' (fun _ _ _ => ?_) (fun sp hsp' => ?_) (fun sp hsp' => ?_) (by simp) (hg.frame _) hg.2.1 (ok_one hres rfl (okWide_bool_mk htb _))⟩
  · rw [List.append_nil, hsp, hres]
    exact trodAll_mk1 (shut_bool htb _)
  · rw [List.append_nil, hsp]
    exact g4 W' hg sp hsp'
  · rw [List.append_nil, hsp, hvars]
    exact rfl
end Fw
set_option linter.unusedVariables false
set_option linter.unusedSimpArgs false
namespace Fw
open Go

theorem setL_midB : ∀ (xs old A B : List AV), xs.length = old.length → setL (A ++ old ++ B) A.length xs = A ++ xs ++ B
  | [], old, A, B, h => by
    have : old = [] := List.length_eq_zero_iff.1 (by simpa using h.symm)
    subst this
    rfl
  | x :: xs, [], A, B, h => by simp at h
  | x :: xs, o :: os, A, B, h => by
    have e : (A ++ o :: os ++ B).set A.length x = (A ++ [x]) ++ os ++ B := by
      rw [List.append_assoc, List.set_append_right (h := Nat.le_refl _)]
      simp
    rw [setL, e]
    have := setL_midB xs os (A ++ [x]) B (by simpa using h)
    rw [List.length_append] at this
    simpa using this
theorem sto_agg {hp : Nat → Option (List AV)} {i n : Nat} {ys xs : List AV} (h : hp i = some ys) (hs : (AV.agg xs).sto = true) (hc : (AV.agg xs).cells = xs) (hn : xs.length = n) (hl : ys.length = n) :
    astore hp n (.ref i 0) (.agg xs) = some fun k => if k = i then some xs else hp k := by
  have e : setL ys 0 xs = xs := by
    have := setL_midB xs ys [] [] (by omega)
    simpa using this
  simp [astore, h, hs, hc, hn, hl, e]
end Fw
set_option linter.unusedVariables false
set_option linter.unusedSimpArgs false
namespace Fw
open Go Go.RowKit

/-- new cells that stay -/
theorem Inv.ownImm {c : CM} {hs : HS} {w w' : World} (h : Inv c hs w) (hb : Below w.heap.size w w') {g : Nat} (hg : w.heap.size ≤ g) (xs : List Value) (hc : ∀ (j : Nat) (v : Value), xs[j]? = some v → w'.cell? ⟨g, j, none⟩ = some v) :
    ∃ c', Inv c' hs w' ∧ Fr c w c' w' ∧ ∀ (j : Nat) (v : Value), xs[j]? = some v → c'.cl g j = .imm v := by
  obtain ⟨h1, h2⟩ := h.below hb
  let f : Nat → Cl := fun o => match xs[o]? with | some v => .imm v | none => .no
  let c' : CM := { c with cl := c.at g f }
  have hne : ∀ b o, c.cl b o ≠ .no → b ≠ g := fun b o hn e => hn (h.dom b o (by omega))
  have hold : ∀ b o, c.cl b o ≠ .no → c'.cl b o = c.cl b o := fun b o hn => CM.at_ne c f o (hne b o hn)
  have hle : c.le c' := ⟨fun b o v e => by rw [hold b o (by rw [e]; simp)]; exact e, Nat.le_refl _, fun _ _ => rfl, Nat.le_refl _, fun _ _ e => e, fun b o k _ e _ => by rw [hold b o (by rw [e]; simp)]; exact e⟩
  have back : ∀ b o x, x ≠ Cl.no → (∀ v, x ≠ .imm v) → c'.cl b o = x → c.cl b o = x := by
    intro b o x hx hi e
    by_cases hbg : b = g
    · subst hbg
      have e2 : f o = x := by rw [← e]; exact (CM.at_eq c b f o).symm
      simp only [f] at e2
      split at e2
      · exact absurd e2.symm (hi _)
      · exact absurd e2.symm hx
    · rw [← e]; exact (CM.at_ne c f o hbg).symm
  refine ⟨c', ⟨h1.nh, h1.nt, h1.tokv, h1.vlt, fun b o v e => ?_, fun b o k e => h1.toks b o k (back b o _ (by simp) (by simp) e), fun i ys e => ?_, fun b o e => ?_, fun i ps e => ?_, h1.glob.mono hle⟩, ⟨hle, h2.os, h2.out, h2.size, h2.blk, fun b o hb' hno => ?_, h2.frz⟩, fun j v hj => ?_⟩
  · by_cases hbg : b = g
    · subst hbg
      have e2 : f o = .imm v := by rw [← e]; exact (CM.at_eq c b f o).symm
      simp only [f] at e2
      split at e2
      · rename_i u hu
        injection e2 with e2; subst e2
        exact hc o _ hu
      · cases e2
    · exact h1.imm b o v (by rw [← e]; exact (CM.at_ne c f o hbg).symm)
  · obtain ⟨a1, a2⟩ := h1.heap i ys e
    refine ⟨a1, fun j y hy => ?_⟩
    obtain ⟨b1, b2, b3, v, b4, b5⟩ := a2 j y hy
    exact ⟨b1, by rw [hold _ _ (by rw [b2]; simp)]; exact b2, b3, v, b4, b5.mono hle⟩
  · by_cases hbg : b = g
    · subst hbg
      have hx : xs[o]? = none := by
        cases hx : xs[o]? with
        | none => rfl
        | some v => exact absurd (World.block_lt_of_cell? w' _ (hc o v hx)) (by simpa using e)
      show c.at b f b o = .no
      rw [CM.at_eq]
      simp only [f, hx]
    · show c.at g f b o = .no
      rw [CM.at_ne c f o hbg]
      exact h1.dom b o e
  · obtain ⟨a1, a2, es, ck, a3, a4⟩ := h1.maps i ps e
    exact ⟨a1, by rw [hold _ _ (by rw [a2]; simp)]; exact a2, es, ck, a3, a4.mono hle⟩
  · show c.at g f b o = .no
    rw [CM.at_ne c f o (by omega)]; exact hno
  · show c.at g f g j = .imm v
    rw [CM.at_eq]
    simp only [f, hj]
theorem flatI : ∀ l : List Int, flat (ints l) = ints l
  | [] => rfl
  | a :: l => by
    have := flatI l
    simp only [ints, List.map_cons, flat, AV.cells, List.singleton_append] at this ⊢
    rw [this]
theorem PCall.of_row {P : Program} {f : FuncId} {args : List AV} {e : TypeId} {l : List Int} (hok : callOk P f = true)
    (h : ∀ (c : CM) (hs : HS) (w : World) (vs : List Value), Inv c hs w → RepL c vs args → Calls P f vs.toArray w fun r w' => ∃ v, r = .returned v ∧ w'.ownsRow w.heap.size e 1 v l.length (l.map (Value.int .i64)) ∧ (v = .slice none 0 0 ↔ l = []) ∧ Below w.heap.size w w') : PCall P f args (outV 1 (ints l)) := by
  refine ⟨outI_plain l, fun hs hb => ⟨hok, fun c w vs hi hv => (h c hs w vs hi hv).mono ?_⟩⟩
  rintro r w' ⟨v, rfl, hrow, hnil, hbl⟩
  rcases hrow.2 with ⟨rfl, h0⟩ | ⟨g, cap, cur, rfl, hg, hgb, hcap, _, hcs, htk⟩
  · have hl : l = [] := hnil.1 rfl
    subst hl
    obtain ⟨h1, h2⟩ := hi.below hbl
    exact ⟨.ret .nilsl, hs, c, rfl, .nilsl, h1, h2⟩
  · have hl : l ≠ [] := fun e => by have := hnil.2 e; cases this
    obtain ⟨c', h1, h2, h3⟩ := hi.ownImm hbl hg (l.map (Value.int .i64)) (fun j v hj => by
      rw [Nat.mul_one] at htk
      rw [← htk, List.getElem?_take] at hj
      split at hj
      · simp only [World.cell?, hgb]
        simpa using hj
      · cases hj)
    refine ⟨.ret (.sl 1 (ints l) .shared), hs, c', ?_, ?_, h1, h2⟩
    · rw [outV_ne (by simpa [ints] using hl)]
    · have hfl : flat (ints l) = ints l := flatI l
      have := Rep.sl (c := c') g 0 cap 1 (ints l) .shared (l.map (Value.int .i64)) (by rw [hfl]; simp [ints]) (fun x hx => by obtain ⟨a, _, rfl⟩ := List.mem_map.1 hx; rfl) (fun j v hj => by rw [Nat.zero_add]; exact h3 j v hj)
        (fun j v y hv hy => by
          rw [hfl] at hy
          simp only [ints, List.getElem?_map] at hv hy
          cases hlj : l[j]? with
          | none => rw [hlj] at hv; cases hv
          | some a =>
            rw [hlj] at hv hy
            injection hv with hv; injection hy with hy
            subst hv; subst hy
            exact .int .i64 a)
        (fun j y hy => by
          rw [hfl] at hy
          simp only [ints, List.getElem?_map] at hy
          obtain ⟨a, _, rfl⟩ := Option.map_eq_some_iff.1 hy
          rfl)
        (show (ints l).length ≤ cap by simpa [ints] using hcap)
      simp only [ints, List.length_map] at this
      exact this
end Fw
