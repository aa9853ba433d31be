/-
  From a contract of a law to its row, where the row lists package-level variables that the law's run does not read. Own work, after the worked example 'mapy'; over any program.
  Aggregates in memory: whole blocks, and entries of tables. Own work.
-/
import Derived.Test.YtdcpkgedaflnmaaGreatDoorFx4
import Derived.LaidMore
set_option linter.unusedVariables false
set_option linter.unusedSimpArgs false
namespace Fw
open Go Go.ChangeShapes Go.WideShapes Go.ChangeAt Go.RowKit

theorem law_laid {C : Checked} {os : Os} {f : FuncId} {fn : Func} {s : ChangeSpec} {conds : List PathCond} {H : Type} {enc : TypeId × Value → H} {X : World → Prop} (Ts : List Ty) (tb : TypeId)
    (hX : ∀ (w w' : World), w.heap = w'.heap → X w → X w')
    (own : ownKnob C.prog.godebug = none) (started : os.Started) (noInit : C.prog.inits.idxOf? f = none) (hfn : C.prog.funcs[f]? = some fn)
    (witness : ∃ (w : World) (tape : Tape) (i : Input), w.os = os ∧ (w.forCall tape i).Shaped C.prog ∧ i.vars = [] ∧ Input.okWide C.prog (w.forCall tape i) .any w.heap.size f i ∧
      ((s.pre enc C.prog fn conds false (w.forCall tape i).memory i.args ∧ X (w.forCall tape i).memory) ∧ sizedMet enc C.prog fn (OpenSpec.ofChange s) false (w.forCall tape i).memory i.args) ∧ ({} : Assume).holds C.prog (lone (Frame.enter C.prog f i.args .normal) [] (w.forCall tape i)))
    (hvars : s.vars = []) (hlen : fn.params.toList.length = Ts.length) (hok : (fn.params.toList.zip Ts).all (fun p => (p.2.ok C.prog false).1 p.1) = true)
    (hspec : ∀ ds : List (DataW H), ds.length = Ts.length → s.fn H ds = { results := [.lit (.bool true)], args := ds })
    (hres : fn.resultTypes = #[tb]) (htb : C.prog.underlying tb = some .bool)
    (h : ∀ xs, Typed Ts xs → PCall C.prog f xs (.bool true)) :
    ReturnsInHanded {} C os f .any (fun w args => (s.pre enc C.prog fn conds false w args ∧ X w) ∧ sizedMet enc C.prog fn (OpenSpec.ofChange s) false w args) (s.post enc C.prog fn false true false false) := by
  refine returnsInHanded_of_change_and (C := C) (X := fun w _ => X w) (fun w w' _ hh hx => hX w w' hh hx) own started noInit hfn witness ?_
  intro W base args ds gs before hval hW hcnd _ _ _
  have hW' := hW
  obtain ⟨p, q, hA, hV, rfl, hfz, hnd⟩ := hW
  rw [hvars] at hV
  obtain ⟨rfl, rfl⟩ := trodVars_none hV
  obtain ⟨xs, g1, g2, g3, g4⟩ := open_args (b0 := base) hlen (fun j t T h1 h2 => by
    have := List.all_eq_true.1 hok (t, T) (List.mem_of_getElem? (i := j) (by rw [List.getElem?_zip_eq_some]; exact ⟨h1, h2⟩))
    exact this) (fun j t v h1 h2 => hval j t v (by simpa using h1) (by simpa using h2)) hA
  have hdl : ds.length = Ts.length := by
    have : ∀ {ts : List TypeId} {vs : List Value} {ds : List (DataW H)} {ps : List MemPlace}, DataW.TrodAll enc C.prog W 0 (fun _ => true) true ts vs ds ps → ds.length = ts.length := by
      intro ts
      induction ts with
      | nil => intro vs ds ps h; obtain ⟨rfl, rfl, rfl⟩ := trodAll_nil h; rfl
      | cons t ts ih =>
        intro vs ds ps h
        obtain ⟨v, vs', d, ds', p1, p2, rfl, rfl, rfl, h1, h2⟩ := trodAll_cons h
        simp [ih h2]
    rw [this hA, hlen]
  have hsp := hspec ds hdl
  have hv := g3
  refine (Fw.lift_true (h xs (Typed.of g1 g2)) hv).mono fun e W' ⟨he, hg⟩ => ?_
  subst he
  simp only [List.append_nil] at hW'
  refine ⟨_, rfl, post_same_old (pa := p) (pv := []) hW' (fun _ _ _ => ?_) (fun sp hsp' => ?_) (fun sp hsp' => ?_) (by simp) (hg.frame _) hg.2.1 (ok_one hres rfl (okWide_bool_mk htb _))⟩
  · rw [List.append_nil, hsp, hres]
    exact trodAll_mk1 (shut_bool htb _)
  · rw [List.append_nil, hsp]
    exact g4 W' hg sp hsp'
  · rw [List.append_nil, hsp, hvars]
    exact rfl
end Fw
set_option linter.unusedVariables false
set_option linter.unusedSimpArgs false
namespace Fw
open Go

theorem setL_midB : ∀ (xs old A B : List AV), xs.length = old.length → setL (A ++ old ++ B) A.length xs = A ++ xs ++ B
  | [], old, A, B, h => by
    have : old = [] := List.length_eq_zero_iff.1 (by simpa using h.symm)
    subst this
    rfl
  | x :: xs, [], A, B, h => by simp at h
  | x :: xs, o :: os, A, B, h => by
    have e : (A ++ o :: os ++ B).set A.length x = (A ++ [x]) ++ os ++ B := by
      rw [List.append_assoc, List.set_append_right (h := Nat.le_refl _)]
      simp
    rw [setL, e]
    have := setL_midB xs os (A ++ [x]) B (by simpa using h)
    rw [List.length_append] at this
    simpa using this
theorem sto_agg {hp : Nat → Option (List AV)} {i n : Nat} {ys xs : List AV} (h : hp i = some ys) (hs : (AV.agg xs).sto = true) (hc : (AV.agg xs).cells = xs) (hn : xs.length = n) (hl : ys.length = n) :
    astore hp n (.ref i 0) (.agg xs) = some fun k => if k = i then some xs else hp k := by
  have e : setL ys 0 xs = xs := by
    have := setL_midB xs ys [] [] (by omega)
    simpa using this
  simp [astore, h, hs, hc, hn, hl, e]
theorem ld_agg {hp : Nat → Option (List AV)} {i n : Nat} {ys : List AV} (h : hp i = some ys) (hl : ys.length = n) : aload hp true n (.ref i 0) = some (.agg ys) := by
  subst hl
  simp [aload, h, apart]
/-- entries of five cells each -/
def ent (G : Nat → List AV) (n : Nat) : List AV := ((List.range n).map G).flatten
theorem ent_len {G : Nat → List AV} {z : Nat} (hG : ∀ k, (G k).length = z) : ∀ n, (ent G n).length = z * n
  | 0 => rfl
  | n + 1 => by
    have := ent_len hG n
    simp only [ent, List.range_succ, List.map_append, List.flatten_append, List.length_append] at this ⊢
    rw [this]
    simp [hG, Nat.mul_succ]
theorem ent_add (G : Nat → List AV) (m n : Nat) : ent G (m + n) = ent G m ++ ent (fun i => G (m + i)) n := by
  simp [ent, List.range_add, Function.comp_def]
theorem ent_mid (G : Nat → List AV) {k n : Nat} (h : k < n) : ent G n = ent G k ++ G k ++ ent (fun i => G (k + 1 + i)) (n - (k + 1)) := by
  rw [show n = k + (1 + (n - (k + 1))) by omega, ent_add, ent_add]
  simp only [show k + (1 + (n - (k + 1))) - (k + 1) = n - (k + 1) by omega]
  have e : ent (fun i => G (k + i)) 1 = G k := by simp [ent]
  rw [e, List.append_assoc]
  congr 2
  congr 1
  funext i
  congr 1
  omega
theorem ent_cong {G H : Nat → List AV} {n : Nat} (h : ∀ k, k < n → G k = H k) : ent G n = ent H n := by
  unfold ent
  congr 1
  exact List.map_congr_left fun k hk => h k (List.mem_range.1 hk)
theorem ent_ld {hp : Nat → Option (List AV)} {i z n k : Nat} {G : Nat → List AV} (hG : ∀ k, (G k).length = z) (h : hp i = some (ent G n)) (hk : k < n) : aload hp true z (.ref i (z * k)) = some (.agg (G k)) := by
  have hl := ent_len hG n
  have hle : z * k + z ≤ z * n := by
    have : z * (k + 1) ≤ z * n := Nat.mul_le_mul_left _ hk
    rw [Nat.mul_succ] at this; exact this
  simp only [aload, h, Option.bind_some, apart, if_true]
  rw [if_pos (by rw [hl]; exact hle), ent_mid G hk]
  have h1 : (ent G k).length = z * k := ent_len hG k
  rw [List.append_assoc, List.drop_append_of_le_length (by omega), List.drop_of_length_le (by omega), List.nil_append, List.take_append_of_le_length (by rw [hG]; exact Nat.le_refl _), List.take_of_length_le (by rw [hG]; exact Nat.le_refl _)]
theorem ent_cell {hp : Nat → Option (List AV)} {i z n k o : Nat} {G : Nat → List AV} (hG : ∀ k, (G k).length = z) (h : hp i = some (ent G n)) (hk : k < n) (ho : o < z) : aload hp false 1 (.ref i (z * k + o)) = (G k)[o]? := by
  simp only [aload, h, Option.bind_some, apart]
  have h1 : (ent G k).length = z * k := ent_len hG k
  simp only [Bool.false_eq_true, if_false]
  rw [ent_mid G hk, List.append_assoc, List.getElem?_append_right (by omega), h1, Nat.add_sub_cancel_left, List.getElem?_append_left (by rw [hG]; exact ho)]
theorem ent_sto {hp : Nat → Option (List AV)} {i z n k : Nat} {G : Nat → List AV} {xs : List AV} (hG : ∀ k, (G k).length = z) (h : hp i = some (ent G n)) (hk : k < n) (hs : (AV.agg xs).sto = true) (hc : (AV.agg xs).cells = xs) (hx : xs.length = z) :
    astore hp z (.ref i (z * k)) (.agg xs) = some fun j => if j = i then some (ent (fun j => if j = k then xs else G j) n) else hp j := by
  have hl := ent_len hG n
  have hle : z * k + z ≤ z * n := by
    have : z * (k + 1) ≤ z * n := Nat.mul_le_mul_left _ hk
    rw [Nat.mul_succ] at this; exact this
  have e : setL (ent G n) (z * k) xs = ent (fun j => if j = k then xs else G j) n := by
    have h1 : (ent G k).length = z * k := ent_len hG k
    rw [ent_mid G hk, ← h1, setL_midB _ _ _ _ (by rw [hG]; exact hx), ent_mid (fun j => if j = k then xs else G j) hk]
    rw [if_pos rfl]
    congr 1
    · congr 1
      exact ent_cong fun j hj => by rw [if_neg (by omega)]
    · exact ent_cong fun j hj => by rw [if_neg (by omega)]
  simp only [astore, h, Option.bind_some, hc, e]
  rw [if_pos ⟨hs, hx, by rw [hl]; exact hle⟩]
end Fw
