/-
  Each compacted operation's run reads as its abstract result. Own work; over any program.
-/
import Derived.Test.YtnmpdegnpaggkaaFwK
set_option linter.unusedVariables false
set_option linter.unusedSimpArgs false
namespace Fw
open Go

theorem wp_value {P : Program} {o : Oper} {a : Act} {w : World} {next : Act → World → Prop} {Q : Exit → Act → World → Prop} {m : Sem Value} {c : CM} {x : AV} {hs' : HS}
    (he : execOp a.eval o = (do Pure.pure (.value (← m)))) (h : DoneS P c w m x hs')
    (hn : ∀ v w' c', Rep c' v x → Inv c' hs' w' → Fr c w c' w' → next (a.put o.dst v) w') : o.wp P a w next Q := by
  obtain ⟨v, w', c', h1, h2, h3, h4⟩ := h
  unfold Oper.wp
  rw [he]
  simp only [Sem.run_bind, h1, Result.andThen_ok, Sem.run_pure, Oper.upon_value]
  exact hn v w' c' h2 h3 h4
theorem wp_value0 {P : Program} {o : Oper} {a : Act} {w : World} {next : Act → World → Prop} {Q : Exit → Act → World → Prop} {c : CM} {x : AV} {hs' : HS} {v : Value}
    (he : execOp a.eval o = Pure.pure (.value v)) (hr : Rep c v x) (hi : Inv c hs' w)
    (hn : ∀ v w' c', Rep c' v x → Inv c' hs' w' → Fr c w c' w' → next (a.put o.dst v) w') : o.wp P a w next Q := by
  unfold Oper.wp
  rw [he]
  simp only [Sem.run_pure, Oper.upon_value]
  exact hn v w c hr hi (.refl _ _)

theorem optmap_some {α β : Type} {o : Option α} {f : α → β} {b : β} (h : o.map f = some b) : ∃ a, o = some a ∧ f a = b := by
  cases o with
  | none => cases h
  | some a => exact ⟨a, rfl, by simpa using h⟩

theorem kindOf_ok {P : Program} {op : BinOp} {t : TypeId} {x y : Operand} :
    (kindOf P op t x y ≠ 0 → kdOk P t (kindOf P op t x y) = true) ∧ (kindOf P op t x y = 6 → P.eqGuardType P.depth t = false) ∧
    (kindOf P op t x y = 5 → (∃ v, x = .const v) ∨ (∃ v, y = .const v)) := by
  unfold kindOf
  generalize kdBase P t = kd
  have cst : ∀ o, isCst o = true → ∃ v, o = .const v := fun o h => by cases o <;> first | exact ⟨_, rfl⟩ | cases h
  split
  · rename_i h
    rcases h with h | ⟨h1, h2, h3⟩
    · subst h
      exact ⟨fun h => absurd rfl h, fun h => (by cases h), fun h => (by cases h)⟩
    · exact ⟨fun _ => h1, h2, fun h5 => (h3 h5).imp (cst x) (cst y)⟩
  · exact ⟨fun h => absurd rfl h, fun h => (by cases h), fun h => (by cases h)⟩

theorem astoAll_spec {sz : Nat} {xs : List AV} (h : astoAll sz xs = true) : ∀ x ∈ xs, x.sto = true ∧ x.cells.length = sz := by
  induction xs with
  | nil => intro x hx; cases hx
  | cons y ys ih =>
    simp only [astoAll, Bool.and_eq_true, beq_iff_eq] at h
    intro x hx
    rcases List.mem_cons.1 hx with rfl | hx
    · exact h.1
    · exact ih h.2 x hx

theorem setL_mid : ∀ (xs pre a b : List AV), a.length = xs.length → setL (pre ++ a ++ b) pre.length xs = pre ++ xs ++ b
  | [], pre, a, b, h => by
    have : a = [] := List.length_eq_zero_iff.1 h
    subst this; simp [setL]
  | x :: xs, pre, a, b, h => by
    cases a with
    | nil => simp at h
    | cons y a =>
      simp only [setL]
      have e : (pre ++ (y :: a) ++ b).set pre.length x = (pre ++ [x]) ++ a ++ b := by simp
      rw [e]
      have := setL_mid xs (pre ++ [x]) a b (by simpa using h)
      simp only [List.length_append, List.length_cons, List.length_nil, Nat.zero_add] at this
      rw [this]; simp

theorem afill_row (sz : Nat) : ∀ (xs : List AV) (k : Nat) (pre zs : List AV), (∀ x ∈ xs, x.sto = true ∧ x.cells.length = sz) → pre.length = k * sz → zs.length = xs.length * sz →
    afill (pre ++ zs) ((xs.zipIdx k).map fun p => (p.2 * sz, sz, p.1)) = some (pre ++ flat xs)
  | [], k, pre, zs, h, hp, hz => by
    have : zs = [] := List.length_eq_zero_iff.1 (by simpa using hz)
    subst this; simp [afill, flat]
  | x :: xs, k, pre, zs, h, hp, hz => by
    obtain ⟨h1, h2⟩ := h x (by simp)
    simp only [List.length_cons, Nat.add_mul, Nat.one_mul] at hz
    simp only [List.zipIdx_cons, List.map_cons, afill]
    rw [if_pos ⟨h1, h2, by simp [hp]; omega⟩]
    have e : pre ++ zs = pre ++ zs.take sz ++ zs.drop sz := by rw [List.append_assoc, List.take_append_drop]
    rw [e, ← hp, setL_mid x.cells pre (zs.take sz) (zs.drop sz) (by rw [h2, List.length_take]; omega)]
    have := afill_row sz xs (k + 1) (pre ++ x.cells) (zs.drop sz) (fun y hy => h y (by simp [hy])) (by simp [hp, h2, Nat.add_mul]) (by rw [List.length_drop]; omega)
    rw [this]; simp [flat]

theorem cvPlaces_run {P : Program} : ∀ (fs : List Field) (pl : List (Nat × Nat)), cvPlaces P fs = some pl → ∀ w, (fs.mapM fun f => (do Pure.pure (f.offset, ← Go.sizeOf f.type) : Sem (Nat × Nat))).run P w = .ok pl w
  | [], pl, h, w => by simp only [cvPlaces] at h; injection h with h; subst h; rfl
  | f :: fs, pl, h, w => by
    simp only [cvPlaces] at h
    split at h <;> (try (cases h; done))
    rename_i i r h1 h2
    injection h with h; subst h
    have := cvPlaces_run fs r h2 w
    rw [List.mapM_cons]
    simp only [Sem.run_bind, Go.sizeOf, typeInfo, run_program, Result.andThen_ok, h1, Sem.run_pure]
    simp only [Sem.run_bind, Go.sizeOf, typeInfo, run_program] at this
    rw [this]; rfl

theorem cvParts_sound {n : Nat} {c : CM} {a : Act} {s : AS} (he : EnvRep n c a s) {place : Nat → Option (Nat × Nat)} : ∀ {ps : List (Nat × Operand)} {r : List (Nat × Nat × AOpd)}, cvParts n place ps = some r →
    (ps.map fun p => (p.1, a.eval p.2)).length = (r.map fun p => (p.1, p.2.1, s.ev p.2.2)).length ∧
    (∀ (j i : Nat) (v : Value) (off sz : Nat) (x : AV), (ps.map fun p => (p.1, a.eval p.2))[j]? = some (i, v) → (r.map fun p => (p.1, p.2.1, s.ev p.2.2))[j]? = some (off, sz, x) → place i = some (off, sz) ∧ Rep c v x)
  | [], r, h => by simp only [cvParts] at h; injection h with h; subst h; exact ⟨rfl, fun j i v off sz x h => by simp at h⟩
  | (i, o) :: ps, r, h => by
    simp only [cvParts] at h
    split at h <;> (try (cases h; done))
    rename_i off sz x rr h1 h2 h3
    injection h with h; subst h
    obtain ⟨hl, hr⟩ := cvParts_sound he h3
    refine ⟨by simpa using hl, fun j i' v off' sz' x' e1 e2 => ?_⟩
    cases j with
    | zero =>
      simp at e1 e2
      obtain ⟨rfl, rfl⟩ := e1
      obtain ⟨rfl, rfl, rfl⟩ := e2
      exact ⟨h1, cvO_sound h2 he⟩
    | succ j => exact hr j i' v off' sz' x' (by simpa using e1) (by simpa using e2)

theorem cvZero_inv {P : Program} {t : TypeId} {zs : List AV} (h : cvZero P t = some zs) : ∃ i z, P.info? t = some i ∧ i.zero = some z ∧ zcells z = some zs := by
  unfold cvZero at h
  split at h <;> (try (cases h; done))
  rename_i i hi
  split at h <;> (try (cases h; done))
  rename_i z hz
  exact ⟨i, z, hi, hz, h⟩

theorem sound_build {P : Program} {n : Nat} {t : TypeId} {parts : List (Nat × Operand)} {ao : AOp} (h : cvBuild P n t parts = some ao) {C : PCtx} {c : CM} {a : Act} {s : AS} {w : World} (he : EnvRep n c a s) (hi : Inv c s.hs w)
    {x : AV} {hs' : HS} (hx : evalOp C s ao = some (x, hs')) : DoneS P c w (Instr.build t (parts.toArray.map fun p => (p.1, a.eval p.2))) x hs' := by
  unfold cvBuild at h
  split at h <;> (try (cases h; done))
  · rename_i zs fs hz hd
    split at h <;> (try (cases h; done))
    rename_i pl hpl
    obtain ⟨r, hr, rfl⟩ := optmap_some h
    obtain ⟨i, z, h1, h2, h3⟩ := cvZero_inv hz
    obtain ⟨z1, z2⟩ := zcells_rep (c := c) h3
    obtain ⟨q1, q2⟩ := cvParts_sound he hr
    simp only [evalOp] at hx
    obtain ⟨r', hr', e⟩ := optmap_some hx
    injection e with e1 e2; subst e1; subst e2
    obtain ⟨cs', f1, f2, f3⟩ := sound_fill (c := c) _ _ _ zs r' z.cells z1 z2 q1 q2 hr'
    have hpl' := cvPlaces_run fs.toList pl hpl w
    refine .pure hi (v := .agg cs') ?_ ?_
    · have hm : (fs.mapM fun f => (do Pure.pure (f.offset, ← Go.sizeOf f.type) : Sem (Nat × Nat))).run P w = .ok pl.toArray w := by
        rw [Array.mapM_eq_mapM_toList]
        simp only [Sem.run_map, hpl', Result.andThen_ok]
      simp only [Instr.build, Sem.run_bind, zeroValue, typeInfo, run_program, Result.andThen_ok, h1, Sem.run_pure, h2, run_underlying hd, hm]
      have f1' : Instr.fill (fun x => pl.toArray[x]?) z.cells (parts.toArray.map fun p => (p.1, a.eval p.2)).toList = some cs' := by
        simp only [List.map_toArray]
        simpa using f1
      simp only [f1']
      rfl
    · have := Rep.agg (c := c) cs'.toList r' f2.1 f2.2 f3
      simpa using this
  · rename_i zs len e hz hd
    split at h <;> (try (cases h; done))
    rename_i ie hie
    obtain ⟨r, hr, rfl⟩ := optmap_some h
    obtain ⟨i, z, h1, h2, h3⟩ := cvZero_inv hz
    obtain ⟨z1, z2⟩ := zcells_rep (c := c) h3
    obtain ⟨q1, q2⟩ := cvParts_sound he hr
    simp only [evalOp] at hx
    obtain ⟨r', hr', e⟩ := optmap_some hx
    injection e with e1 e2; subst e1; subst e2
    obtain ⟨cs', f1, f2, f3⟩ := sound_fill (c := c) _ _ _ zs r' z.cells z1 z2 q1 q2 hr'
    refine .pure hi (v := .agg cs') ?_ ?_
    · simp only [Instr.build, Sem.run_bind, zeroValue, typeInfo, run_program, Result.andThen_ok, h1, Sem.run_pure, h2, run_underlying hd, Go.sizeOf, hie]
      have f1' : Instr.fill (fun k => some (k * ie.size, ie.size)) z.cells (parts.toArray.map fun p => (p.1, a.eval p.2)).toList = some cs' := by
        simp only [List.map_toArray]
        simpa using f1
      simp only [f1']
      rfl
    · have := Rep.agg (c := c) cs'.toList r' f2.1 f2.2 f3
      simpa using this

theorem inRow_spec {α : Type} (g : Operand → α) : ∀ (k : Nat) (ps : List (Nat × Operand)), inRow k ps = true → (ps.map fun p => (p.1, g p.2)) = ((ps.map fun p => g p.2).zipIdx k).map fun p => (p.2, p.1)
  | k, [], _ => rfl
  | k, (i, o) :: ps, h => by
    simp only [inRow, Bool.and_eq_true, beq_iff_eq] at h
    simp only [List.map_cons, List.zipIdx_cons, List.cons.injEq, Prod.mk.injEq, and_true]
    exact ⟨h.1, inRow_spec g (k + 1) ps h.2⟩

theorem sound_buildSl {P : Program} {n : Nat} {t : TypeId} {len : Nat} {parts : List (Nat × Operand)} {ao : AOp} (h : cvBuildSl P n t len parts = some ao) {C : PCtx} {c : CM} {a : Act} {s : AS} {w : World} (he : EnvRep n c a s) (hi : Inv c s.hs w)
    {x : AV} {hs' : HS} (hx : evalOp C s ao = some (x, hs')) : DoneS P c w (Instr.buildSlice t len (parts.toArray.map fun p => (p.1, a.eval p.2))) x hs' := by
  unfold cvBuildSl at h
  split at h <;> (try (cases h; done))
  rename_i e ods hd hods
  split at h <;> (try (cases h; done))
  rename_i ie hie
  split at h <;> (try (cases h; done))
  rename_i z hz
  split at h <;> (try (cases h; done))
  rename_i hcond
  injection h with h; subst h
  simp only [Bool.and_eq_true, beq_iff_eq, decide_eq_true_eq] at hcond
  obtain ⟨⟨⟨⟨c1, c2⟩, c3⟩, c4⟩, c5⟩ := hcond
  simp only [evalOp] at hx
  split at hx <;> (try (cases hx; done))
  rename_i hall
  injection hx with hx
  injection hx with e1 e2; subst e1; subst e2
  have hspec := astoAll_spec hall
  have hreps : RepL c ((parts.map (·.2)).map a.eval) (ods.map s.ev) := cvOs_sound he hods
  generalize hxs : ods.map s.ev = xs at hspec hreps hall ⊢
  have hxl : xs.length = len := by rw [← hreps.1]; simpa using c2
  obtain ⟨zs, hzs⟩ := Option.isSome_iff_exists.1 c4
  obtain ⟨z1, z2⟩ := zcells_rep (c := c) hzs
  -- the zero row
  let zero : Array Value := if len * ie.size = 0 then #[] else z.cells
  let row : Array Value := (Array.range (len * ie.size)).map (zero[· % zero.size]!)
  let zrow : List AV := (List.range (len * ie.size)).map fun j => zs.getD (j % zs.length) .undef
  have hrow : RepL c row.toList zrow ∧ ∀ (j : Nat) (y : AV), zrow[j]? = some y → y.leaf = true := by
    by_cases h0 : len * ie.size = 0
    · simp only [row, zrow, h0]
      exact ⟨⟨by simp, fun j v y hv => by simp at hv⟩, fun j y hy => by simp at hy⟩
    · have hpos : 0 < z.cells.size := by
        rcases Nat.eq_zero_or_pos z.cells.size with h | h
        · rw [c5] at h; rw [h] at h0; simp at h0
        · exact h
      have hzl : zs.length = z.cells.size := by rw [← z1.1]; simp
      have hget : ∀ j, ∃ y, zs[j % zs.length]? = some y ∧ zs.getD (j % zs.length) .undef = y := fun j => by
        have : j % zs.length < zs.length := Nat.mod_lt _ (by omega)
        exact ⟨zs[j % zs.length], List.getElem?_eq_getElem this, by simp [List.getD, this]⟩
      constructor
      · have e : row.toList = (List.range (len * ie.size)).map fun j => zero[j % zero.size]! := by simp [row]
        rw [e]
        refine RepL.map _ _ _ fun j _ => ?_
        have hz' : zero = z.cells := by simp [zero, h0]
        rw [hz']
        obtain ⟨y, hy1, hy2⟩ := hget j
        rw [hy2]
        have hlt : j % z.cells.size < z.cells.size := Nat.mod_lt _ hpos
        refine z1.2 (j % z.cells.size) _ y ?_ (by rw [hzl] at hy1; exact hy1)
        rw [getElem!_pos z.cells _ hlt]
        simp
      · intro j y hy
        simp only [zrow, List.getElem?_map] at hy
        obtain ⟨j', _, hj'⟩ := optmap_some hy
        obtain ⟨y', hy1, hy2⟩ := hget j'
        rw [hy2] at hj'; subst hj'
        exact z2 _ _ hy1
  have hzrl : zrow.length = xs.length * ie.size := by simp [zrow, hxl]
  have hfill := afill_row ie.size xs 0 [] zrow hspec (by simp) hzrl
  simp only [List.nil_append] at hfill
  have hq := inRow_spec a.eval 0 parts c1
  obtain ⟨cs', f1, f2, f3⟩ := sound_fill (c := c) (fun i => some (i * ie.size, ie.size)) _ (parts.map fun p => (p.1, a.eval p.2)) zrow (flat xs) row hrow.1 hrow.2 (by simp; rw [hxl]; exact c2) (by
    intro j i v off sz x e1 e2
    rw [hq] at e1
    simp only [List.getElem?_map, List.getElem?_zipIdx, Option.map_map] at e1 e2
    obtain ⟨x1, g1, g2⟩ := optmap_some e1
    obtain ⟨x2, g3, g4⟩ := optmap_some e2
    simp at g2 g4
    obtain ⟨rfl, rfl⟩ := g2
    obtain ⟨rfl, rfl, rfl⟩ := g4
    refine ⟨rfl, hreps.2 j _ _ ?_ g3⟩
    simp only [List.map_map, List.getElem?_map]
    simp [g1]) hfill
  obtain ⟨c', i1, i2, i3⟩ := hi.newImm cs' e
  refine ⟨.slice (some ⟨w.heap.size, 0, none⟩) len len, _, c', ?_, ?_, i1, i2⟩
  · have f1' : Instr.fill (fun i => some (i * ie.size, ie.size)) row (parts.toArray.map fun p => (p.1, a.eval p.2)).toList = some cs' := by
      simp only [List.map_toArray]
      simpa using f1
    by_cases h0 : len * ie.size = 0
    · simp only [row, zero, h0, if_true] at f1'
      have hgt : ¬ (0 > 2 ^ 24) := by decide
      simp only [Instr.buildSlice, Sem.run_bind, run_underlying hd, Result.andThen_ok, Go.sizeOf, typeInfo, run_program, hie, Sem.run_pure, zeroValue, h0, hgt, if_false, if_true, f1', newRow, run_newObj]
      rfl
    · simp only [row, zero, h0, if_false] at f1'
      have hgt : ¬ (len * ie.size > 2 ^ 24) := by omega
      simp only [Instr.buildSlice, Sem.run_bind, run_underlying hd, Result.andThen_ok, Go.sizeOf, typeInfo, run_program, hie, Sem.run_pure, zeroValue, hz, hgt, h0, if_false, f1', newRow, run_newObj]
      rfl
  · have := Rep.sl (c := c') w.heap.size 0 xs.length ie.size xs .exact cs'.toList (f2.1) (fun x hx => (hspec x hx).2) (fun j v hj => by rw [Nat.zero_add]; exact i3 j v (by simpa using hj))
      (f2.mono i2.le).2 f3 rfl
    rw [hxl] at this
    exact this
end Fw
