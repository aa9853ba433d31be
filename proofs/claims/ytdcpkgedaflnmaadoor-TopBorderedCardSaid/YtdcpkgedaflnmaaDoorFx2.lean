/-
  Each compacted operation's run reads as its abstract result. Own work; over any program.
  One operation's step under the by-value reading. Own work; over any program.
  Regions and code under the by-value reading: the abstract weakest precondition, and that it is sound. Own work; over any program.
  Regions whose order is open: one run in the order of the text serves every order. Own work; over any program.
  Regions whose order is open, continued: every order is served. Own work; over any program.
  Code and calls under the by-value reading. Own work; over any program.
-/
import Derived.Test.YtdcpkgedaflnmaaDoorFx1
import Derived.Laws.MakeOwn
import Derived.Scope
set_option linter.unusedVariables false
set_option linter.unusedSimpArgs false
namespace Fw
open Go

theorem wp_value {P : Program} {o : Oper} {a : Act} {w : World} {next : Act → World → Prop} {Q : Exit → Act → World → Prop} {m : Sem Value} {c : CM} {x : AV} {hs' : HS}
    (he : execOp a.eval o = (do Pure.pure (.value (← m)))) (h : DoneS P c w m x hs')
    (hn : ∀ v w' c', Rep c' v x → Inv c' hs' w' → Fr c w c' w' → next (a.put o.dst v) w') : o.wp P a w next Q := by
  obtain ⟨v, w', c', h1, h2, h3, h4⟩ := h
  unfold Oper.wp
  rw [he]
  simp only [Sem.run_bind, h1, Result.andThen_ok, Sem.run_pure, Oper.upon_value]
  exact hn v w' c' h2 h3 h4
theorem wp_value0 {P : Program} {o : Oper} {a : Act} {w : World} {next : Act → World → Prop} {Q : Exit → Act → World → Prop} {c : CM} {x : AV} {hs' : HS} {v : Value}
    (he : execOp a.eval o = Pure.pure (.value v)) (hr : Rep c v x) (hi : Inv c hs' w)
    (hn : ∀ v w' c', Rep c' v x → Inv c' hs' w' → Fr c w c' w' → next (a.put o.dst v) w') : o.wp P a w next Q := by
  unfold Oper.wp
  rw [he]
  simp only [Sem.run_pure, Oper.upon_value]
  exact hn v w c hr hi (.refl _ _)

theorem optmap_some {α β : Type} {o : Option α} {f : α → β} {b : β} (h : o.map f = some b) : ∃ a, o = some a ∧ f a = b := by
  cases o with
  | none => cases h
  | some a => exact ⟨a, rfl, by simpa using h⟩

theorem kindOf_ok {P : Program} {op : BinOp} {t : TypeId} {x y : Operand} :
    (kindOf P op t x y ≠ 0 → kdOk P t (kindOf P op t x y) = true) ∧ (10 ≤ kindOf P op t x y → P.eqGuardType P.depth t = false) ∧
    (kindOf P op t x y = 5 → (∃ v, x = .const v) ∨ (∃ v, y = .const v)) := by
  unfold kindOf
  generalize kdBase P t = kd
  have cst : ∀ o, isCst o = true → ∃ v, o = .const v := fun o h => by cases o <;> first | exact ⟨_, rfl⟩ | cases h
  split
  · rename_i h
    rcases h with h | ⟨h1, h2, h3⟩
    · subst h
      exact ⟨fun h => absurd rfl h, fun h => absurd h (by decide), fun h => (by cases h)⟩
    · exact ⟨fun _ => h1, h2, fun h5 => (h3 h5).imp (cst x) (cst y)⟩
  · exact ⟨fun h => absurd rfl h, fun h => absurd h (by decide), fun h => (by cases h)⟩

theorem astoAll_spec {sz : Nat} {xs : List AV} (h : astoAll sz xs = true) : ∀ x ∈ xs, x.sto = true ∧ x.cells.length = sz := by
  induction xs with
  | nil => intro x hx; cases hx
  | cons y ys ih =>
    simp only [astoAll, Bool.and_eq_true, beq_iff_eq] at h
    intro x hx
    rcases List.mem_cons.1 hx with rfl | hx
    · exact h.1
    · exact ih h.2 x hx

theorem setL_mid : ∀ (xs pre a b : List AV), a.length = xs.length → setL (pre ++ a ++ b) pre.length xs = pre ++ xs ++ b
  | [], pre, a, b, h => by
    have : a = [] := List.length_eq_zero_iff.1 h
    subst this; simp [setL]
  | x :: xs, pre, a, b, h => by
    cases a with
    | nil => simp at h
    | cons y a =>
      simp only [setL]
      have e : (pre ++ (y :: a) ++ b).set pre.length x = (pre ++ [x]) ++ a ++ b := by simp
      rw [e]
      have := setL_mid xs (pre ++ [x]) a b (by simpa using h)
      simp only [List.length_append, List.length_cons, List.length_nil, Nat.zero_add] at this
      rw [this]; simp

theorem afill_row (sz : Nat) : ∀ (xs : List AV) (k : Nat) (pre zs : List AV), (∀ x ∈ xs, x.sto = true ∧ x.cells.length = sz) → pre.length = k * sz → zs.length = xs.length * sz →
    afill (pre ++ zs) ((xs.zipIdx k).map fun p => (p.2 * sz, sz, p.1)) = some (pre ++ flat xs)
  | [], k, pre, zs, h, hp, hz => by
    have : zs = [] := List.length_eq_zero_iff.1 (by simpa using hz)
    subst this; simp [afill, flat]
  | x :: xs, k, pre, zs, h, hp, hz => by
    obtain ⟨h1, h2⟩ := h x (by simp)
    simp only [List.length_cons, Nat.add_mul, Nat.one_mul] at hz
    simp only [List.zipIdx_cons, List.map_cons, afill]
    rw [if_pos ⟨h1, h2, by simp [hp]; omega⟩]
    have e : pre ++ zs = pre ++ zs.take sz ++ zs.drop sz := by rw [List.append_assoc, List.take_append_drop]
    rw [e, ← hp, setL_mid x.cells pre (zs.take sz) (zs.drop sz) (by rw [h2, List.length_take]; omega)]
    have := afill_row sz xs (k + 1) (pre ++ x.cells) (zs.drop sz) (fun y hy => h y (by simp [hy])) (by simp [hp, h2, Nat.add_mul]) (by rw [List.length_drop]; omega)
    rw [this]; simp [flat]

theorem cvPlaces_run {P : Program} : ∀ (fs : List Field) (pl : List (Nat × Nat)), cvPlaces P fs = some pl → ∀ w, (fs.mapM fun f => (do Pure.pure (f.offset, ← Go.sizeOf f.type) : Sem (Nat × Nat))).run P w = .ok pl w
  | [], pl, h, w => by simp only [cvPlaces] at h; injection h with h; subst h; rfl
  | f :: fs, pl, h, w => by
    simp only [cvPlaces] at h
    split at h <;> (try (cases h; done))
    rename_i i r h1 h2
    injection h with h; subst h
    have := cvPlaces_run fs r h2 w
    rw [List.mapM_cons]
    simp only [Sem.run_bind, Go.sizeOf, typeInfo, run_program, Result.andThen_ok, h1, Sem.run_pure]
    simp only [Sem.run_bind, Go.sizeOf, typeInfo, run_program] at this
    rw [this]; rfl

theorem cvParts_sound {n : Nat} {c : CM} {a : Act} {s : AS} (he : EnvRep n c a s) {place : Nat → Option (Nat × Nat)} : ∀ {ps : List (Nat × Operand)} {r : List (Nat × Nat × AOpd)}, cvParts n place ps = some r →
    (ps.map fun p => (p.1, a.eval p.2)).length = (r.map fun p => (p.1, p.2.1, s.ev p.2.2)).length ∧
    (∀ (j i : Nat) (v : Value) (off sz : Nat) (x : AV), (ps.map fun p => (p.1, a.eval p.2))[j]? = some (i, v) → (r.map fun p => (p.1, p.2.1, s.ev p.2.2))[j]? = some (off, sz, x) → place i = some (off, sz) ∧ Rep c v x)
  | [], r, h => by simp only [cvParts] at h; injection h with h; subst h; exact ⟨rfl, fun j i v off sz x h => by simp at h⟩
  | (i, o) :: ps, r, h => by
    simp only [cvParts] at h
    split at h <;> (try (cases h; done))
    rename_i off sz x rr h1 h2 h3
    injection h with h; subst h
    obtain ⟨hl, hr⟩ := cvParts_sound he h3
    refine ⟨by simpa using hl, fun j i' v off' sz' x' e1 e2 => ?_⟩
    cases j with
    | zero =>
      simp at e1 e2
      obtain ⟨rfl, rfl⟩ := e1
      obtain ⟨rfl, rfl, rfl⟩ := e2
      exact ⟨h1, cvO_sound h2 he⟩
    | succ j => exact hr j i' v off' sz' x' (by simpa using e1) (by simpa using e2)

theorem cvZero_inv {P : Program} {t : TypeId} {zs : List AV} (h : cvZero P t = some zs) : ∃ i z, P.info? t = some i ∧ i.zero = some z ∧ zcells z = some zs := by
  unfold cvZero at h
  split at h <;> (try (cases h; done))
  rename_i i hi
  split at h <;> (try (cases h; done))
  rename_i z hz
  exact ⟨i, z, hi, hz, h⟩

theorem sound_build {P : Program} {n : Nat} {t : TypeId} {parts : List (Nat × Operand)} {ao : AOp} (h : cvBuild P n t parts = some ao) {C : PCtx} {c : CM} {a : Act} {s : AS} {w : World} (he : EnvRep n c a s) (hi : Inv c s.hs w)
    {x : AV} {hs' : HS} (hx : evalOp C s ao = some (x, hs')) : DoneS P c w (Instr.build t (parts.toArray.map fun p => (p.1, a.eval p.2))) x hs' := by
  unfold cvBuild at h
  split at h <;> (try (cases h; done))
  · rename_i zs fs hz hd
    split at h <;> (try (cases h; done))
    rename_i pl hpl
    obtain ⟨r, hr, rfl⟩ := optmap_some h
    obtain ⟨i, z, h1, h2, h3⟩ := cvZero_inv hz
    obtain ⟨z1, z2⟩ := zcells_rep (c := c) h3
    obtain ⟨q1, q2⟩ := cvParts_sound he hr
    simp only [evalOp] at hx
    obtain ⟨r', hr', e⟩ := optmap_some hx
    injection e with e1 e2; subst e1; subst e2
    obtain ⟨cs', f1, f2, f3⟩ := sound_fill (c := c) _ _ _ zs r' z.cells z1 z2 q1 q2 hr'
    have hpl' := cvPlaces_run fs.toList pl hpl w
    refine .pure hi (v := .agg cs') ?_ ?_
    · have hm : (fs.mapM fun f => (do Pure.pure (f.offset, ← Go.sizeOf f.type) : Sem (Nat × Nat))).run P w = .ok pl.toArray w := by
        rw [Array.mapM_eq_mapM_toList]
        simp only [Sem.run_map, hpl', Result.andThen_ok]
      simp only [Instr.build, Sem.run_bind, zeroValue, typeInfo, run_program, Result.andThen_ok, h1, Sem.run_pure, h2, run_underlying hd, hm]
      have f1' : Instr.fill (fun x => pl.toArray[x]?) z.cells (parts.toArray.map fun p => (p.1, a.eval p.2)).toList = some cs' := by
        simp only [List.map_toArray]
        simpa using f1
      simp only [f1']
      rfl
    · have := Rep.agg (c := c) cs'.toList r' f2.1 f2.2 f3
      simpa using this
  · rename_i zs len e hz hd
    split at h <;> (try (cases h; done))
    rename_i ie hie
    obtain ⟨r, hr, rfl⟩ := optmap_some h
    obtain ⟨i, z, h1, h2, h3⟩ := cvZero_inv hz
    obtain ⟨z1, z2⟩ := zcells_rep (c := c) h3
    obtain ⟨q1, q2⟩ := cvParts_sound he hr
    simp only [evalOp] at hx
    obtain ⟨r', hr', e⟩ := optmap_some hx
    injection e with e1 e2; subst e1; subst e2
    obtain ⟨cs', f1, f2, f3⟩ := sound_fill (c := c) _ _ _ zs r' z.cells z1 z2 q1 q2 hr'
    refine .pure hi (v := .agg cs') ?_ ?_
    · simp only [Instr.build, Sem.run_bind, zeroValue, typeInfo, run_program, Result.andThen_ok, h1, Sem.run_pure, h2, run_underlying hd, Go.sizeOf, hie]
      have f1' : Instr.fill (fun k => some (k * ie.size, ie.size)) z.cells (parts.toArray.map fun p => (p.1, a.eval p.2)).toList = some cs' := by
        simp only [List.map_toArray]
        simpa using f1
      simp only [f1']
      rfl
    · have := Rep.agg (c := c) cs'.toList r' f2.1 f2.2 f3
      simpa using this

theorem inRow_spec {α : Type} (g : Operand → α) : ∀ (k : Nat) (ps : List (Nat × Operand)), inRow k ps = true → (ps.map fun p => (p.1, g p.2)) = ((ps.map fun p => g p.2).zipIdx k).map fun p => (p.2, p.1)
  | k, [], _ => rfl
  | k, (i, o) :: ps, h => by
    simp only [inRow, Bool.and_eq_true, beq_iff_eq] at h
    simp only [List.map_cons, List.zipIdx_cons, List.cons.injEq, Prod.mk.injEq, and_true]
    exact ⟨h.1, inRow_spec g (k + 1) ps h.2⟩

theorem sound_buildSl {P : Program} {n : Nat} {t : TypeId} {len : Nat} {parts : List (Nat × Operand)} {ao : AOp} (h : cvBuildSl P n t len parts = some ao) {C : PCtx} {c : CM} {a : Act} {s : AS} {w : World} (he : EnvRep n c a s) (hi : Inv c s.hs w)
    {x : AV} {hs' : HS} (hx : evalOp C s ao = some (x, hs')) : DoneS P c w (Instr.buildSlice t len (parts.toArray.map fun p => (p.1, a.eval p.2))) x hs' := by
  unfold cvBuildSl at h
  split at h <;> (try (cases h; done))
  rename_i e ods hd hods
  split at h <;> (try (cases h; done))
  rename_i ie hie
  split at h <;> (try (cases h; done))
  rename_i z hz
  split at h <;> (try (cases h; done))
  rename_i hcond
  injection h with h; subst h
  simp only [Bool.and_eq_true, beq_iff_eq, decide_eq_true_eq] at hcond
  obtain ⟨⟨⟨⟨c1, c2⟩, c3⟩, c4⟩, c5⟩ := hcond
  simp only [evalOp] at hx
  split at hx <;> (try (cases hx; done))
  rename_i hall
  injection hx with hx
  injection hx with e1 e2; subst e1; subst e2
  have hspec := astoAll_spec hall
  have hreps : RepL c ((parts.map (·.2)).map a.eval) (ods.map s.ev) := cvOs_sound he hods
  generalize hxs : ods.map s.ev = xs at hspec hreps hall ⊢
  have hxl : xs.length = len := by rw [← hreps.1]; simpa using c2
  obtain ⟨zs, hzs⟩ := Option.isSome_iff_exists.1 c4
  obtain ⟨z1, z2⟩ := zcells_rep (c := c) hzs
  -- the zero row
  let zero : Array Value := if len * ie.size = 0 then #[] else z.cells
  let row : Array Value := (Array.range (len * ie.size)).map (zero[· % zero.size]!)
  let zrow : List AV := (List.range (len * ie.size)).map fun j => zs.getD (j % zs.length) .undef
  have hrow : RepL c row.toList zrow ∧ ∀ (j : Nat) (y : AV), zrow[j]? = some y → y.leaf = true := by
    by_cases h0 : len * ie.size = 0
    · simp only [row, zrow, h0]
      exact ⟨⟨by simp, fun j v y hv => by simp at hv⟩, fun j y hy => by simp at hy⟩
    · have hpos : 0 < z.cells.size := by
        rcases Nat.eq_zero_or_pos z.cells.size with h | h
        · rw [c5] at h; rw [h] at h0; simp at h0
        · exact h
      have hzl : zs.length = z.cells.size := by rw [← z1.1]; simp
      have hget : ∀ j, ∃ y, zs[j % zs.length]? = some y ∧ zs.getD (j % zs.length) .undef = y := fun j => by
        have : j % zs.length < zs.length := Nat.mod_lt _ (by omega)
        exact ⟨zs[j % zs.length], List.getElem?_eq_getElem this, by simp [List.getD, this]⟩
      constructor
      · have e : row.toList = (List.range (len * ie.size)).map fun j => zero[j % zero.size]! := by simp [row]
        rw [e]
        refine RepL.map _ _ _ fun j _ => ?_
        have hz' : zero = z.cells := by simp [zero, h0]
        rw [hz']
        obtain ⟨y, hy1, hy2⟩ := hget j
        rw [hy2]
        have hlt : j % z.cells.size < z.cells.size := Nat.mod_lt _ hpos
        refine z1.2 (j % z.cells.size) _ y ?_ (by rw [hzl] at hy1; exact hy1)
        rw [getElem!_pos z.cells _ hlt]
        simp
      · intro j y hy
        simp only [zrow, List.getElem?_map] at hy
        obtain ⟨j', _, hj'⟩ := optmap_some hy
        obtain ⟨y', hy1, hy2⟩ := hget j'
        rw [hy2] at hj'; subst hj'
        exact z2 _ _ hy1
  have hzrl : zrow.length = xs.length * ie.size := by simp [zrow, hxl]
  have hfill := afill_row ie.size xs 0 [] zrow hspec (by simp) hzrl
  simp only [List.nil_append] at hfill
  have hq := inRow_spec a.eval 0 parts c1
  obtain ⟨cs', f1, f2, f3⟩ := sound_fill (c := c) (fun i => some (i * ie.size, ie.size)) _ (parts.map fun p => (p.1, a.eval p.2)) zrow (flat xs) row hrow.1 hrow.2 (by simp; rw [hxl]; exact c2) (by
    intro j i v off sz x e1 e2
    rw [hq] at e1
    simp only [List.getElem?_map, List.getElem?_zipIdx, Option.map_map] at e1 e2
    obtain ⟨x1, g1, g2⟩ := optmap_some e1
    obtain ⟨x2, g3, g4⟩ := optmap_some e2
    simp at g2 g4
    obtain ⟨rfl, rfl⟩ := g2
    obtain ⟨rfl, rfl, rfl⟩ := g4
    refine ⟨rfl, hreps.2 j _ _ ?_ g3⟩
    simp only [List.map_map, List.getElem?_map]
    simp [g1]) hfill
  obtain ⟨c', i1, i2, i3⟩ := hi.newImm cs' e
  refine ⟨.slice (some ⟨w.heap.size, 0, none⟩) len len, _, c', ?_, ?_, i1, i2⟩
  · have f1' : Instr.fill (fun i => some (i * ie.size, ie.size)) row (parts.toArray.map fun p => (p.1, a.eval p.2)).toList = some cs' := by
      simp only [List.map_toArray]
      simpa using f1
    by_cases h0 : len * ie.size = 0
    · simp only [row, zero, h0, if_true] at f1'
      have hgt : ¬ (0 > 2 ^ 24) := by decide
      simp only [Instr.buildSlice, Sem.run_bind, run_underlying hd, Result.andThen_ok, Go.sizeOf, typeInfo, run_program, hie, Sem.run_pure, zeroValue, h0, hgt, if_false, if_true, f1', newRow, run_newObj]
      rfl
    · simp only [row, zero, h0, if_false] at f1'
      have hgt : ¬ (len * ie.size > 2 ^ 24) := by omega
      simp only [Instr.buildSlice, Sem.run_bind, run_underlying hd, Result.andThen_ok, Go.sizeOf, typeInfo, run_program, hie, Sem.run_pure, zeroValue, hz, hgt, h0, if_false, f1', newRow, run_newObj]
      rfl
  · have := Rep.sl (c := c') w.heap.size 0 xs.length ie.size xs .exact cs'.toList (f2.1) (fun x hx => (hspec x hx).2) (fun j v hj => by rw [Nat.zero_add]; exact i3 j v (by simpa using hj))
      (f2.mono i2.le).2 f3 rfl
    rw [hxl] at this
    exact this
theorem sound_litm {P : Program} {n : Nat} {t : TypeId} {len : Nat} {parts : List (Nat × Operand)} {sz0 : Nat} {ods0 : List AOpd} (h : cvBuildSl P n t len parts = some (.buildSl sz0 ods0)) {c : CM} {a : Act} {s : AS} {w : World} (he : EnvRep n c a s) (hi : Inv c s.hs w)
    {x : AV} {hs' : HS} (hx : alit sz0 s.hs (ods0.map s.ev) = some (x, hs')) : DoneS P c w (Instr.buildSlice t len (parts.toArray.map fun p => (p.1, a.eval p.2))) x hs' := by
  unfold cvBuildSl at h
  split at h <;> (try (cases h; done))
  rename_i e ods hd hods
  split at h <;> (try (cases h; done))
  rename_i ie hie
  split at h <;> (try (cases h; done))
  rename_i z hz
  split at h <;> (try (cases h; done))
  rename_i hcond
  injection h with h
  injection h with h8 h9; subst h8; subst h9
  simp only [Bool.and_eq_true, beq_iff_eq, decide_eq_true_eq] at hcond
  obtain ⟨⟨⟨⟨c1, c2⟩, c3⟩, c4⟩, c5⟩ := hcond
  unfold alit at hx
  split at hx <;> (try (cases hx; done))
  rename_i hall0
  obtain ⟨hall, hne⟩ := hall0
  injection hx with hx
  injection hx with e1 e2; subst e1; subst e2
  have hspec : ∀ x ∈ ods.map s.ev, x.sto = true ∧ x.cells.length = ie.size := fun x hx => by
    have := List.all_eq_true.1 hall x hx
    simpa using this
  have hreps : RepL c ((parts.map (·.2)).map a.eval) (ods.map s.ev) := cvOs_sound he hods
  generalize hxs : ods.map s.ev = xs at hspec hreps hall hne ⊢
  have hxl : xs.length = len := by rw [← hreps.1]; simpa using c2
  obtain ⟨zs, hzs⟩ := Option.isSome_iff_exists.1 c4
  obtain ⟨z1, z2⟩ := zcells_rep (c := c) hzs
  -- the zero row
  let zero : Array Value := if len * ie.size = 0 then #[] else z.cells
  let row : Array Value := (Array.range (len * ie.size)).map (zero[· % zero.size]!)
  let zrow : List AV := (List.range (len * ie.size)).map fun j => zs.getD (j % zs.length) .undef
  have hrow : RepL c row.toList zrow ∧ ∀ (j : Nat) (y : AV), zrow[j]? = some y → y.leaf = true := by
    by_cases h0 : len * ie.size = 0
    · simp only [row, zrow, h0]
      exact ⟨⟨by simp, fun j v y hv => by simp at hv⟩, fun j y hy => by simp at hy⟩
    · have hpos : 0 < z.cells.size := by
        rcases Nat.eq_zero_or_pos z.cells.size with h | h
        · rw [c5] at h; rw [h] at h0; simp at h0
        · exact h
      have hzl : zs.length = z.cells.size := by rw [← z1.1]; simp
      have hget : ∀ j, ∃ y, zs[j % zs.length]? = some y ∧ zs.getD (j % zs.length) .undef = y := fun j => by
        have : j % zs.length < zs.length := Nat.mod_lt _ (by omega)
        exact ⟨zs[j % zs.length], List.getElem?_eq_getElem this, by simp [List.getD, this]⟩
      constructor
      · have e : row.toList = (List.range (len * ie.size)).map fun j => zero[j % zero.size]! := by simp [row]
        rw [e]
        refine RepL.map _ _ _ fun j _ => ?_
        have hz' : zero = z.cells := by simp [zero, h0]
        rw [hz']
        obtain ⟨y, hy1, hy2⟩ := hget j
        rw [hy2]
        have hlt : j % z.cells.size < z.cells.size := Nat.mod_lt _ hpos
        refine z1.2 (j % z.cells.size) _ y ?_ (by rw [hzl] at hy1; exact hy1)
        rw [getElem!_pos z.cells _ hlt]
        simp
      · intro j y hy
        simp only [zrow, List.getElem?_map] at hy
        obtain ⟨j', _, hj'⟩ := optmap_some hy
        obtain ⟨y', hy1, hy2⟩ := hget j'
        rw [hy2] at hj'; subst hj'
        exact z2 _ _ hy1
  have hzrl : zrow.length = xs.length * ie.size := by simp [zrow, hxl]
  have hfill := afill_row ie.size xs 0 [] zrow hspec (by simp) hzrl
  simp only [List.nil_append] at hfill
  have hq := inRow_spec a.eval 0 parts c1
  obtain ⟨cs', f1, f2, f3⟩ := sound_fill (c := c) (fun i => some (i * ie.size, ie.size)) _ (parts.map fun p => (p.1, a.eval p.2)) zrow (flat xs) row hrow.1 hrow.2 (by simp; rw [hxl]; exact c2) (by
    intro j i v off sz x e1 e2
    rw [hq] at e1
    simp only [List.getElem?_map, List.getElem?_zipIdx, Option.map_map] at e1 e2
    obtain ⟨x1, g1, g2⟩ := optmap_some e1
    obtain ⟨x2, g3, g4⟩ := optmap_some e2
    simp at g2 g4
    obtain ⟨rfl, rfl⟩ := g2
    obtain ⟨rfl, rfl, rfl⟩ := g4
    refine ⟨rfl, hreps.2 j _ _ ?_ g3⟩
    simp only [List.map_map, List.getElem?_map]
    simp [g1]) hfill
  have hcl : cs'.toList.length = xs.length * ie.size := by rw [f2.1, flat_length (fun x hx => (hspec x hx).2)]
  obtain ⟨c', i1, i2, i3, i4, i5⟩ := hi.newBlkT cs'.toList (flat xs) #[] e f2 f3 s.hs.heap (fun _ _ h => h) s.hs.tok (fun _ h => h) (len := xs.length) (cap := xs.length) (sz := ie.size) hcl (Nat.le_refl _) (by simp)
  simp only [Array.append_empty] at i1 i2
  refine ⟨.slice (some ⟨w.heap.size, 0, none⟩) len len, _, c', ?_, ?_, i1, i2⟩
  · have f1' : Instr.fill (fun i => some (i * ie.size, ie.size)) row (parts.toArray.map fun p => (p.1, a.eval p.2)).toList = some cs' := by
      simp only [List.map_toArray]
      simpa using f1
    by_cases h0 : len * ie.size = 0
    · simp only [row, zero, h0, if_true] at f1'
      have hgt : ¬ (0 > 2 ^ 24) := by decide
      simp only [Instr.buildSlice, Sem.run_bind, run_underlying hd, Result.andThen_ok, Go.sizeOf, typeInfo, run_program, hie, Sem.run_pure, zeroValue, h0, hgt, if_false, if_true, f1', newRow, run_newObj]
      rfl
    · simp only [row, zero, h0, if_false] at f1'
      have hgt : ¬ (len * ie.size > 2 ^ 24) := by omega
      simp only [Instr.buildSlice, Sem.run_bind, run_underlying hd, Result.andThen_ok, Go.sizeOf, typeInfo, run_program, hie, Sem.run_pure, zeroValue, hz, hgt, h0, if_false, f1', newRow, run_newObj]
      rfl
  · have := Rep.osl (c := c') (agOf xs) ie.size s.hs.nh xs.length xs.length s.hs.nt i3 (by rw [i4]; exact i5)
    rw [i4] at this
    rw [hxl] at this ⊢
    exact this
end Fw
set_option linter.unusedVariables false
set_option linter.unusedSimpArgs false
namespace Fw
open Go
theorem DoneS.lose {P : Program} {c : CM} {w : World} {m : Sem Value} {x : AV} {s' : HS} (h : DoneS P c w m x s') : DoneS P c w m (loseT x) s' := by
  obtain ⟨v, w', c', h1, h2, h3⟩ := h
  refine ⟨v, w', c', h1, ?_, h3⟩
  cases h2 with
  | osl ag sz i len cap k hi hcap => exact Rep.msl ag sz i 0 len cap false hi hcap.1 (by simp)
  | int k n => exact .int k n
  | bool b => exact .bool b
  | str s => exact .str s
  | nilptr => exact .nilptr
  | nilsl => exact .nilsl
  | nilif => exact .nilif
  | nilfn => exact .nilfn
  | ptr b o vs x hl hcl h lf => exact .ptr b o vs x hl hcl h lf
  | ref i off hi => exact .ref i off hi
  | msl ag sz i off len cap ex hi hl he => exact .msl ag sz i off len cap ex hi hl he
  | gsl b o cap sz n k hn hcap => exact .gsl b o cap sz n k hn hcap
  | esl a => exact .esl a
  | nilmp => exact .nilmp
  | mp i hi => exact .mp i hi
  | sl b o cap sz xs cp vs hl hz hcl h lf hcap => exact .sl b o cap sz xs cp vs hl hz hcl h lf hcap
  | agg vs xs hl h lf => exact .agg vs xs hl h lf
  | tup vs xs hl h => exact .tup vs xs hl h
  | fn f v1 v2 x1 x2 hl1 hl2 g1 g2 => exact .fn f v1 v2 x1 x2 hl1 hl2 g1 g2
  | iface t v x h => exact .iface t v x h
theorem rep_glob {c : CM} (h : GX c) : Rep c (.pointer (some ⟨0, 0, none⟩)) (.ptr cntA) := by
  obtain ⟨b, o, cap, h1, h2, h3⟩ := h
  have hfl : flat (cntN.map (AV.int .i64)) = cntN.map (AV.int .i64) := by rfl
  have hg : ∀ (j : Nat) (y : AV), (cntN.map (AV.int .i64))[j]? = some y → ∃ n, cntN[j]? = some n ∧ y = .int .i64 n := fun j y hy => by
    rw [List.getElem?_map] at hy
    rcases hj : cntN[j]? with _ | n
    · rw [hj] at hy; cases hy
    · rw [hj] at hy
      simp only [Option.map_some, Option.some.injEq] at hy
      exact ⟨n, rfl, hy.symm⟩
  have hgv : ∀ (j : Nat) (y : Value), (cntN.map (Value.int .i64))[j]? = some y → ∃ n, cntN[j]? = some n ∧ y = .int .i64 n := fun j y hy => by
    rw [List.getElem?_map] at hy
    rcases hj : cntN[j]? with _ | n
    · rw [hj] at hy; cases hy
    · rw [hj] at hy
      simp only [Option.map_some, Option.some.injEq] at hy
      exact ⟨n, rfl, hy.symm⟩
  have hs : Rep c (.slice (some ⟨b, o, none⟩) 16 cap) cntA := by
    refine Rep.sl b o cap 1 (cntN.map (AV.int .i64)) .shared (cntN.map (Value.int .i64)) (by rw [hfl]; simp) (fun x hx => ?_) (fun j v hv => ?_) (fun j v y hv hy => ?_) (fun j y hy => ?_) h1
    · obtain ⟨n, _, rfl⟩ := List.mem_map.1 hx
      rfl
    · obtain ⟨n, hn, rfl⟩ := hgv j v hv
      exact h3 j n hn
    · rw [hfl] at hy
      obtain ⟨n, hn, rfl⟩ := hgv j v hv
      obtain ⟨m, hm, rfl⟩ := hg j y hy
      rw [hn] at hm
      injection hm with hm
      subst hm
      exact .int _ _
    · rw [hfl] at hy
      obtain ⟨m, hm, rfl⟩ := hg j y hy
      rfl
  refine Rep.ptr 0 0 [.slice (some ⟨b, o, none⟩) 16 cap] cntA rfl (fun j v hv => ?_) (fun j v y hv hy => ?_) (fun j y hy => ?_)
  · match j, hv with
    | 0, hv => simp at hv; subst hv; exact h2
  · match j, hv, hy with
    | 0, hv, hy => simp [cntA, AV.cells] at hv hy; subst hv; subst hy; exact hs
  · match j, hy with
    | 0, hy => simp [cntA, AV.cells] at hy; subst hy; rfl

theorem sound_lenS {P : Program} {t ty e : TypeId} (hd : P.underlying t = some (.slice e)) {c : CM} {s : HS} {w : World} (h : Inv c s w) {v : Value} {p x : AV} (hp : Rep c v p) (hx : alenK false p = some x) : DoneS P c w (Builtin.len_ #[t] ty #[v]) x s := by
  cases hp <;> simp only [alenK] at hx <;> (try (cases hx; done)) <;> (try (simp at hx; done)) <;> simp at hx <;> subst hx
  · exact .pure h (v := .int .i64 0) (by simp [Builtin.len_, run_underlying hd, goInt]) (.int .i64 _)
  · exact .pure h (by simp [Builtin.len_, run_underlying hd, goInt]) (.int .i64 _)
  · exact .pure h (v := .int .i64 0) (by simp [Builtin.len_, run_underlying hd, goInt]) (.int .i64 _)
  · exact .pure h (by simp [Builtin.len_, run_underlying hd, goInt]) (.int .i64 _)
  · exact .pure h (by simp [Builtin.len_, run_underlying hd, goInt]) (.int .i64 _)
theorem sound_lenT {P : Program} {t ty : TypeId} (hd : P.underlying t = some .string) {c : CM} {s : HS} {w : World} (h : Inv c s w) {v : Value} {p x : AV} (hp : Rep c v p) (hx : alenK true p = some x) : DoneS P c w (Builtin.len_ #[t] ty #[v]) x s := by
  cases hp <;> simp only [alenK] at hx <;> (try (cases hx; done)) <;> (try (simp at hx; done)) <;> simp at hx <;> subst hx
  exact .pure h (by simp [Builtin.len_, run_underlying hd, goInt]) (.int .i64 _)

theorem invoke_call {P : Program} {o : Oper} {a : Act} {w : World} {next : Act → World → Prop} {Q : Exit → Act → World → Prop} {cl : Call} (ho : o.op = .call cl) {g : Operand} (hg : cl.callee = .value g)
    {f : FuncId} {v1 v2 : Array Value} (hv : a.eval g = .func (.func f) v1 v2) (hok : callOk P f = true)
    (h : Calls P f (v1 ++ cl.args.map a.eval ++ v2) w fun
      | .returned v, w'' => next (a.put o.dst v) w''
      | .panicked chain, w'' => Q (.panic chain) a w''
      | .outgrown, _ => LetsOut Q) : o.wp P a w next Q := by
  unfold Oper.wp
  have : (execOp a.eval o).run P w = .ok (.enter f (v1 ++ cl.args.map a.eval ++ v2)) w := by
    unfold execOp
    rw [ho]
    simp only [resolve, hg, Deferred.ofValue, hv, Sem.run_bind, Sem.run_pure, Result.andThen_ok, invoke]
    exact run_callFunc hok _ _
  rw [this, Oper.upon_enter]
  exact h

theorem sound_cap {P : Program} {t ty e : TypeId} (hd : P.underlying t = some (.slice e)) {c : CM} {s : HS} {w : World} (h : Inv c s w) {v : Value} {p x : AV} (hp : Rep c v p) (hx : acap p = some x) : DoneS P c w (Builtin.cap_ #[t] ty #[v]) x s := by
  cases hp <;> simp only [acap] at hx <;> (try (cases hx; done))
  case nilsl =>
    injection hx with hx; subst hx
    exact .pure h (v := .int .i64 0) (by simp [Builtin.cap_, run_underlying hd, goInt]) (.int .i64 _)
  case msl ag sz j off len cap ex hj hle he =>
    cases ex <;> simp only at hx <;> (try (cases hx; done))
    injection hx with hx; subst hx
    have := he rfl
    subst this
    exact .pure h (by simp [Builtin.cap_, run_underlying hd, goInt]) (.int .i64 _)
  case sl b o cap sz xs cp vs hl hz hc hr lf hcap =>
    cases cp <;> simp only at hx <;> (try (cases hx; done))
    injection hx with hx; subst hx
    have hce : cap = xs.length := hcap
    subst hce
    exact .pure h (by simp [Builtin.cap_, run_underlying hd, goInt]) (.int .i64 _)
theorem sound_appz {P : Program} {t u ty e : TypeId} {k0 : IntKind} {i : TypeInfo} {z : Value} (ht : P.underlying t = some (.slice e)) (hu : P.underlying u = some (.int k0)) (hi : P.info? e = some i) (hz0 : i.zero = some z) (hzs : z.cells.size = i.size) (hby : i.bytes ≤ 65536) (hbz : i.bytes ≠ 0)
    {c : CM} {s : HS} {w : World} (h : Inv c s w) {v n : Value} {p q x : AV} (hp : Rep c v p) (hq : Rep c n q) {s' : HS} (hx : aappz i.size s p q = some (x, s')) :
    DoneS P c w (Builtin.append_ #[t, u] ty #[v, n]) x s' := by
  unfold aappz at hx
  split at hx <;> (try (cases hx; done))
  rename_i k m
  split at hx <;> (try (cases hx; done))
  rename_i hm
  injection hx with hx
  injection hx with hx1 hx2; subst hx1; subst hx2
  cases hp
  have hqv := hq.int_inv
  subst hqv
  obtain ⟨n, rfl⟩ : ∃ n : Nat, m = (n : Int) := ⟨m.toNat, by omega⟩
  have hn0 : 0 < n := by omega
  have hw : IntKind.i64.wrap (n : Int) = n := by rw [IntKind.wrap_i64]; omega
  have hbytes : (n : Int) * (i.bytes : Int) ≤ 281474976710656 := by
    have h1 : n * i.bytes ≤ 1000000 * 65536 := Nat.mul_le_mul (by omega) hby
    rw [← Int.natCast_mul]
    omega
  have h48 : ¬ (281474976710656 < Builtin.nextslicecap n 0 * i.bytes) := by
    rw [nextslicecap_zero hn0]
    have h1 : n * i.bytes ≤ 1000000 * 65536 := Nat.mul_le_mul (by omega) hby
    omega
  have hge := grownCap_ge w n 0 e
  have hrun : (Builtin.append_ #[t, u] ty #[.slice none 0 0, .int k (n : Int)]).run P w = .ok (.slice (some ⟨w.heap.size, 0, none⟩) n (grownCap w n 0 e)) (w.drew.alloc (.cells (Builtin.zeroCells z.cells n ++ Builtin.zeroCells z.cells (grownCap w n 0 e - n)) e)) := by
    have hnz : n ≠ 0 := by omega
    have c1 : ¬ ((n : Int) < 0) := by omega
    have c2 : ¬ (281474976710656 < (n : Int) * (i.bytes : Int)) := by omega
    have c3 : ¬ (9223372036854775807 < (n : Int)) := by omega
    by_cases hsz : n * i.size = 0
    · have hzc : Builtin.zeroCells z.cells n = #[] := by
        apply Array.eq_empty_of_size_eq_zero
        rw [size_zeroCells, hzs]; exact hsz
      simp [Builtin.append_, run_underlying ht, run_underlying hu, Go.sizeOf, typeInfo, zeroValue, hi, hz0, asInt, asIntOf, hw, hnz, c1, c2, c3, h48, Question.forced, run_firstCells_none, newRow, grownCap, hsz, hzc]
    · simp [Builtin.append_, run_underlying ht, run_underlying hu, Go.sizeOf, typeInfo, zeroValue, hi, hz0, asInt, asIntOf, hw, hnz, c1, c2, c3, h48, Question.forced, run_firstCells_none, newRow, grownCap, hsz]
  obtain ⟨c', h1, h2, h3⟩ := (h.drew).newTok e (vs := []) (xs := []) (sz := i.size) (cap := grownCap w n 0 e) (Builtin.zeroCells z.cells n ++ Builtin.zeroCells z.cells (grownCap w n 0 e - n)) .nil (by simp) (by simp [flat]) (Nat.zero_le _) (by rw [Array.size_append, size_zeroCells, size_zeroCells, hzs, ← Nat.add_mul]; congr 1; simp only [List.length_nil]; omega) s.tok (fun t ht => .inr ht)
  refine ⟨_, _, c', hrun, ?_, by simpa using h1, by simpa using ((Fr.refl c w).drew).trans h2⟩
  generalize hV : (Value.slice (some ⟨w.drew.heap.size, 0, none⟩) ([] : List AV).length (grownCap w n 0 e)) = V at h3
  cases h3 with
  | sl b o cap sz xs cp vs hl hz hc hr lf hcap =>
    injection hV with q1 q2 q3
    injection q1 with q1
    injection q1 with q1 q4 q5
    subst q3; subst q1; subst q4
    exact Rep.gsl (c := c') _ _ _ _ n _ hge hcap
theorem mzs_get {zs : List AV} {n j : Nat} {y : AV} (h : (mzs zs n)[j]? = some y) : j < n ∧ y = zs.getD (j % zs.length) .undef := by
  unfold mzs at h
  rw [List.getElem?_map] at h
  rcases Nat.lt_or_ge j n with hj | hj
  · rw [List.getElem?_range hj] at h
    injection h with h; exact ⟨hj, h.symm⟩
  · rw [List.getElem?_eq_none (by simpa using hj)] at h; cases h
theorem made_rep {c : CM} {z : Value} {zs : List AV} (hz : zcells z = some zs) (n : Nat) (hn : n = 0 ∨ 0 < z.cells.size) : RepL c (madeCells z.cells n).toList (mzs zs n) ∧ ∀ (j : Nat) (y : AV), (mzs zs n)[j]? = some y → y.leaf = true := by
  obtain ⟨z1, z2⟩ := zcells_rep (c := c) hz
  have hl : zs.length = z.cells.size := by have := z1.1; simpa using this.symm
  have hg : ∀ j, j < n → zs[j % zs.length]? = some (zs.getD (j % zs.length) .undef) := fun j hj => by
    have : j % zs.length < zs.length := Nat.mod_lt _ (by omega)
    rw [List.getD_eq_getElem?_getD, List.getElem?_eq_getElem this, Option.getD_some]
  refine ⟨⟨by simp [madeCells, mzs], fun j v y hv hy => ?_⟩, fun j y hy => ?_⟩
  · obtain ⟨hj, rfl⟩ := mzs_get hy
    have hjz : j % z.cells.size < z.cells.size := Nat.mod_lt _ (by omega)
    have hv' : v = z.cells[j % z.cells.size]! := by
      simp only [madeCells, Array.toList_map, Array.toList_range, List.getElem?_map, List.getElem?_range hj, Option.map_some] at hv
      injection hv with hv; exact hv.symm
    refine z1.2 (j % zs.length) v _ ?_ (hg j hj)
    rw [hv', hl]
    simp [hjz]
  · obtain ⟨hj, rfl⟩ := mzs_get hy
    exact z2 _ _ (hg j hj)
theorem sound_make {P : Program} {n : Nat} {t : TypeId} {l k : Operand} {ao : AOp} (hcv : cvMake P n t l k = some ao) {C : PCtx} {c : CM} {a : Act} {s : AS} {w : World} (he : EnvRep n c a s) (hi : Inv c s.hs w)
    {x : AV} {hs' : HS} (hx : evalOp C s ao = some (x, hs')) : DoneS P c w (Instr.makeSlice t (a.eval l) (a.eval k)) x hs' := by
  unfold cvMake at hcv
  split at hcv <;> (try (cases hcv; done))
  rename_i e lo ko h1 h2 h3
  split at hcv <;> (try (cases hcv; done))
  rename_i d i h4 h5
  split at hcv <;> (try (cases hcv; done))
  rename_i z h6
  split at hcv <;> (try (cases hcv; done))
  rename_i zs h7
  split at hcv <;> (try (cases hcv; done))
  rename_i hcond
  injection hcv with hcv; subst hcv
  simp only [Bool.and_eq_true, beq_iff_eq, decide_eq_true_eq] at hcond
  obtain ⟨hzs, hby⟩ := hcond
  simp only [evalOp] at hx
  have r1 := cvO_sound h2 he
  have r2 := cvO_sound h3 he
  generalize a.eval l = v1 at r1 ⊢
  generalize a.eval k = v2 at r2 ⊢
  unfold amake at hx
  split at hx <;> (try (cases hx; done))
  rename_i k1 lv k2 nv e1 e2
  rw [e1] at r1; rw [e2] at r2
  have hv1 := r1.int_inv
  have hv2 := r2.int_inv
  subst hv1; subst hv2
  split at hx <;> (try (cases hx; done))
  rename_i hb
  obtain ⟨b1, b2, b3⟩ := hb
  have hbytes : (i.bytes : Int) * nv ≤ 281474976710656 := by
    have h0 : (i.bytes : Int) ≤ 65536 := by omega
    have h1 := Int.mul_le_mul h0 b3 (by omega) (by omega)
    omega
  have hrun := run_make (P := P) w t e i z h1 h5 h6 k1 k2 lv nv b1 b2 hbytes (by omega)
  have hz0 : ∀ m, m * i.size = 0 ∨ 0 < z.cells.size := fun m => by
    rcases Nat.eq_zero_or_pos i.size with h | h
    · exact .inl (by simp [h])
    · exact .inr (by omega)
  split at hx
  · rename_i hln
    subst hln
    injection hx with hx; injection hx with e1 e2; subst e1; subst e2
    obtain ⟨m1, m2⟩ := made_rep (c := c) h7 (lv.toNat * i.size) (hz0 _)
    obtain ⟨c', i1, i2, i3⟩ := hi.newBlk _ _ e m1 m2
    simp only [Array.toArray_toList] at i1 i2
    refine ⟨_, _, c', hrun, ?_, i1, i2⟩
    have hloc : s.hs.nh < c'.nh := by rw [← i1.nh]; simp
    have h0 : c'.loc s.hs.nh = (w.heap.size, 0) := by
      generalize hv : (Value.pointer (some ⟨w.heap.size, 0, none⟩)) = v at i3
      cases i3 with
      | ref i off hi' =>
        injection hv with hv
        injection hv with hv
        injection hv with q1 q2 q3
        ext
        · exact q1.symm
        · simpa using q2.symm
    have := Rep.msl (c := c') (descAgg d) i.size s.hs.nh 0 lv.toNat lv.toNat true hloc (Nat.le_refl _) (fun _ => rfl)
    rw [h0] at this
    exact this
  · split at hx <;> (try (cases hx; done))
    rename_i hln hl0
    subst hl0
    injection hx with hx; injection hx with e1 e2; subst e1; subst e2
    obtain ⟨c', i1, i2, i3⟩ := hi.newTok e (vs := []) (xs := []) (sz := i.size) (cap := nv.toNat) (madeCells z.cells (nv.toNat * i.size)) .nil (by simp) (by simp [flat]) (Nat.zero_le _) (by simp [size_madeCells]) s.hs.tok (fun t ht => .inr ht)
    refine ⟨_, _, c', hrun, ?_, ?_, ?_⟩
    · simpa using i3
    · simpa using i1
    · simpa using i2

theorem cvOpt_none {n : Nat} {o : Option Operand} (h : cvOpt n o = some none) : o = none := by
  cases o with
  | none => rfl
  | some o =>
    simp only [cvOpt] at h
    cases hx : cvO n o with
    | none => simp [hx] at h
    | some x => simp [hx] at h
theorem mlo_map (f : AOpd → AV) (l h : Option AOpd) : mlo l.isSome ((l.toList ++ h.toList).map f) = l.map f := by
  cases l <;> simp [mlo]
theorem mhi_map (f : AOpd → AV) (l h : Option AOpd) : mhi l.isSome h.isSome ((l.toList ++ h.toList).map f) = h.map f := by
  cases l <;> cases h <;> simp [mhi]
set_option maxHeartbeats 1000000 in
theorem op_det {P : Program} {C : PCtx} (hC : CtxOk P C) {n : Nat} {muts : List Nat} {pu : List FuncId} {o : Oper} {ao : AOp} (hcv : cvtOp P n muts pu o.dst o.op = some ao)
    {s : AS} {x : AV} {hs' : HS} (hx : evalOp C s ao = some (x, hs')) {c : CM} {a : Act} {w : World} (he : EnvRep n c a s) (hi : Inv c s.hs w)
    {next : Act → World → Prop} {Q : Exit → Act → World → Prop} (hn : ∀ v w' c', Rep c' v x → Inv c' hs' w' → Fr c w c' w' → next (a.put o.dst v) w') : o.wp P a w next Q := by
  obtain ⟨dst, op, type, pos, after, guard⟩ := o
  simp only at hcv hn
  cases op with
  | move y =>
    simp only [cvtOp] at hcv
    obtain ⟨y', hy, rfl⟩ := optmap_some hcv
    simp only [evalOp] at hx
    injection hx with hx; injection hx with e1 e2; subst e1; subst e2
    exact wp_value0 rfl (cvO_sound hy he) hi hn
  | assign y =>
    simp only [cvtOp] at hcv
    obtain ⟨y', hy, rfl⟩ := optmap_some hcv
    simp only [evalOp] at hx
    injection hx with hx; injection hx with e1 e2; subst e1; subst e2
    exact wp_value0 rfl (cvO_sound hy he) hi hn
  | pick cc ca cb =>
    simp only [cvtOp] at hcv
    split at hcv <;> (try (cases hcv; done))
    rename_i c' a' b' h1 h2 h3
    injection hcv with hcv; subst hcv
    simp only [evalOp] at hx
    obtain ⟨y, hy, e⟩ := optmap_some hx
    injection e with e1 e2; subst e1; subst e2
    have r1 := cvO_sound h1 he
    have r2 := cvO_sound h2 he
    have r3 := cvO_sound h3 he
    unfold apick at hy
    split at hy <;> (try (cases hy; done))
    rename_i x2 x3 b hb
    injection hy with hy
    rw [hb] at r1
    have hbv := r1.bool_inv
    refine wp_value0 (v := if b then a.eval ca else a.eval cb) (hs' := s.hs) (c := c) (x := y) ?_ ?_ hi hn
    · simp only [execOp, hbv, asBool, pure_bind]
    · cases b
      · simp only [cond_false] at hy; subst hy; exact r3
      · simp only [cond_true] at hy; subst hy; exact r2
  | binOp bop t y z yt =>
    simp only [cvtOp] at hcv
    split at hcv <;> (try (cases hcv; done))
    rename_i y' z' h1 h2
    injection hcv with hcv; subst hcv
    simp only [evalOp] at hx
    obtain ⟨r, hr, e⟩ := optmap_some hx
    injection e with e1 e2; subst e1; subst e2
    obtain ⟨k1, k2, k3⟩ := kindOf_ok (P := P) (op := bop) (t := t) (x := y) (y := z)
    exact wp_value rfl (sound_bin k1 k2 k3 hi (cvO_sound h1 he) (cvO_sound h2 he) hr) hn
  | unOp uop t y =>
    simp only [cvtOp] at hcv
    obtain ⟨y', hy, rfl⟩ := optmap_some hcv
    simp only [evalOp] at hx
    obtain ⟨r, hr, e⟩ := optmap_some hx
    injection e with e1 e2; subst e1; subst e2
    exact wp_value rfl (sound_un hi (cvO_sound hy he) hr) hn
  | convert sr ds y =>
    simp only [cvtOp] at hcv
    split at hcv
    · rename_i d0 k y' h1 h2 h3
      injection hcv with hcv; subst hcv
      simp only [evalOp] at hx
      obtain ⟨r, hr, e⟩ := optmap_some hx
      injection e with e1 e2; subst e1; subst e2
      exact wp_value rfl (sound_conv h1 h2 hi (cvO_sound h3 he) hr) hn
    · unfold cvB2s at hcv
      split at hcv <;> (try (cases hcv; done))
      rename_i e0 y' h1 h2 h3
      split at hcv <;> (try (cases hcv; done))
      rename_i h4
      injection hcv with hcv; subst hcv
      simp only [evalOp, amem, List.map_cons, List.map_nil] at hx
      obtain ⟨r, hr, e⟩ := optmap_some hx
      injection e with e1 e2; subst e1; subst e2
      exact wp_value rfl (sound_b2s h1 h4 h2 hi (cvO_sound h3 he) hr) hn
  | typeAssert y xt t ok =>
    cases ok with
    | false => simp [cvtOp] at hcv
    | true =>
      simp only [cvtOp, cvTass] at hcv
      split at hcv <;> (try (cases hcv; done))
      rename_i d i y' hne h1 h2 h3
      split at hcv <;> (try (cases hcv; done))
      rename_i z h4
      split at hcv <;> (try (cases hcv; done))
      rename_i za h5
      injection hcv with hcv; subst hcv
      simp only [evalOp, amem, List.map_cons, List.map_nil] at hx
      obtain ⟨r, hr, e⟩ := optmap_some hx
      injection e with e1 e2; subst e1; subst e2
      refine wp_value rfl (sound_tass h1 ?_ h2 h4 (absV_rep h5 c) hi (cvO_sound h3 he) hr) hn
      cases d <;> first | rfl | exact absurd rfl (hne _)
  | insert t m k v =>
    simp only [cvtOp, cvMupd] at hcv
    split at hcv <;> (try (cases hcv; done))
    rename_i kt e0 m' k' v' h1 h2 h3 h4
    injection hcv with hcv; subst hcv
    simp only [evalOp, amem, List.map_cons, List.map_nil] at hx
    obtain ⟨r, hr, e⟩ := optmap_some hx
    injection e with e1 e2; subst e1; subst e2
    obtain ⟨w', g1, g2, g3⟩ := sound_mupd h1 hi (cvO_sound h2 he) (cvO_sound h3 he) (cvO_sound h4 he) hr
    unfold Oper.wp
    have : (execOp a.eval ⟨dst, .insert t m k v, type, pos, after, guard⟩).run P w = .ok .skip w' := by
      simp only [execOp, Sem.run_bind, g1, Result.andThen_ok, Sem.run_pure]
    rw [this, Oper.upon_skip]
    exact hn _ w' c (Rep.tup [] [] rfl (fun j v y h => by simp at h)) g2 g3
  | alloc t =>
    simp only [cvtOp] at hcv
    obtain ⟨zs, hz, rfl⟩ := optmap_some hcv
    simp only [evalOp] at hx
    injection hx with hx; injection hx with e1 e2; subst e1; subst e2
    obtain ⟨i, z, h1, h2, h3⟩ := cvZero_inv hz
    obtain ⟨z1, z2⟩ := zcells_rep (c := c) h3
    obtain ⟨c', i1, i2, i3⟩ := hi.newBlk z.cells.toList zs t z1 z2
    have hd : DoneS P c w (Instr.alloc t true (.tuple #[])) (.ref s.hs.nh 0) { s.hs with heap := fun i => if i = s.hs.nh then some zs else s.hs.heap i, nh := s.hs.nh + 1 } := by
      refine ⟨.pointer (some ⟨w.heap.size, 0, none⟩), _, c', ?_, i3, i1, i2⟩
      simp only [Instr.alloc, Sem.run_bind, zeroValue, typeInfo, run_program, Result.andThen_ok, h1, Sem.run_pure, h2, newVar, newRow, run_newObj]
      rfl
    exact wp_value rfl hd hn
  | makeMap t r =>
    cases r with
    | some r => simp [cvtOp] at hcv
    | none =>
      simp only [cvtOp] at hcv
      injection hcv with hcv; subst hcv
      simp only [evalOp, amem, List.map_nil, Option.some.injEq, Prod.mk.injEq] at hx
      obtain ⟨e1, e2⟩ := hx; subst e1; subst e2
      exact wp_value rfl (sound_mkmap hi) hn
  | lookup t y k ck =>
    simp only [cvtOp, cvLook] at hcv
    split at hcv <;> (try (cases hcv; done))
    rename_i kt e0 y' k' h1 h2 h3
    split at hcv <;> (try (cases hcv; done))
    rename_i i h4
    split at hcv <;> (try (cases hcv; done))
    rename_i z h5
    split at hcv <;> (try (cases hcv; done))
    rename_i za h6
    injection hcv with hcv; subst hcv
    simp only [evalOp, amem, List.map_cons, List.map_nil] at hx
    obtain ⟨r, hr, e⟩ := optmap_some hx
    injection e with e1 e2; subst e1; subst e2
    exact wp_value rfl (sound_mlook h1 h4 h5 (absV_rep h6 c) hi (cvO_sound h2 he) (cvO_sound h3 he) hr) hn
  | mapUpdate t m k v =>
    simp only [cvtOp, cvMupd] at hcv
    split at hcv <;> (try (cases hcv; done))
    rename_i kt e0 m' k' v' h1 h2 h3 h4
    injection hcv with hcv; subst hcv
    simp only [evalOp, amem, List.map_cons, List.map_nil] at hx
    obtain ⟨r, hr, e⟩ := optmap_some hx
    injection e with e1 e2; subst e1; subst e2
    obtain ⟨w', g1, g2, g3⟩ := sound_mupd h1 hi (cvO_sound h2 he) (cvO_sound h3 he) (cvO_sound h4 he) hr
    unfold Oper.wp
    have : (execOp a.eval ⟨dst, .mapUpdate t m k v, type, pos, after, guard⟩).run P w = .ok .skip w' := by
      simp only [execOp, Sem.run_bind, g1, Result.andThen_ok, Sem.run_pure]
    rw [this, Oper.upon_skip]
    exact hn _ w' c (Rep.tup [] [] rfl (fun j v y h => by simp at h)) g2 g3
  | makeSlice t l n' =>
    simp only [cvtOp] at hcv
    exact wp_value rfl (sound_make hcv he hi hx) hn
  | box t y =>
    simp only [cvtOp] at hcv
    obtain ⟨y', hy, e⟩ := optmap_some hcv
    have r1 := cvO_sound hy he
    cases hm : isMut muts dst <;> simp only [hm, cond_true, cond_false] at e <;> subst e
    rotate_left
    · simp only [evalOp] at hx
      split at hx <;> (try (cases hx; done))
      rename_i hsto
      injection hx with hx; injection hx with e1 e2; subst e1; subst e2
      exact wp_value rfl (sound_newBlk hi r1 hsto) hn
    · simp only [evalOp] at hx
      split at hx <;> (try (cases hx; done))
      rename_i hsto
      injection hx with hx; injection hx with e1 e2; subst e1; subst e2
      exact wp_value rfl (sound_newImm hi r1 hsto) hn
  | build t ps =>
    simp only [cvtOp] at hcv
    have := sound_build hcv he hi hx
    simp only [Array.toArray_toList] at this
    exact wp_value rfl this hn
  | buildSlice t l ps =>
    simp only [cvtOp] at hcv
    obtain ⟨ao0, hcv1, hao⟩ := optmap_some hcv
    by_cases hspec : ∃ sz xs, ao0 = .buildSl sz xs ∧ isMut muts dst = true
    · obtain ⟨sz, xs, rfl, hm⟩ := hspec
      rw [hm] at hao
      have hao : ao = .mem (.litm sz) xs := hao.symm
      subst hao
      have := sound_litm hcv1 he hi hx
      simp only [Array.toArray_toList] at this
      exact wp_value rfl this hn
    have hao' : ao = ao0 := by
      cases hm : isMut muts dst with
      | false => rw [hm] at hao; exact hao.symm
      | true =>
        rw [hm] at hao
        cases ao0 <;> first | exact hao.symm | exact absurd ⟨_, _, rfl, hm⟩ hspec
    subst hao'
    have := sound_buildSl hcv1 he hi hx
    simp only [Array.toArray_toList] at this
    exact wp_value rfl this hn
  | load t y =>
    simp only [cvtOp, cvLoad] at hcv
    split at hcv <;> (try (cases hcv; done))
    · rename_i d i y' h1 h2 h3
      injection hcv with hcv; subst hcv
      simp only [evalOp] at hx
      obtain ⟨r, hr, e⟩ := optmap_some hx
      injection e with e1 e2; subst e1; subst e2
      exact wp_value rfl (sound_load h1 h2 rfl hi (cvO_sound h3 he) hr) hn
    · rename_i d i h1 h2 h3
      split at hcv <;> (try (cases hcv; done))
      rename_i hg
      injection hcv with hcv; subst hcv
      obtain ⟨g1, g2, g3⟩ := hg
      simp only [evalOp, amem, List.map_nil] at hx
      injection hx with hx
      injection hx with e1 e2; subst e1; subst e2
      have hy : y = .global 0 := by
        unfold isG0 at g1
        split at g1
        · rfl
        · cases g1
      subst hy
      exact wp_value rfl (sound_load h1 h2 rfl hi (rep_glob hi.glob) (by rw [g2, g3]; rfl)) hn
  | store t y z =>
    simp only [cvtOp, cvStore] at hcv
    split at hcv <;> (try (cases hcv; done))
    rename_i i y' z' h1 h2 h3
    injection hcv with hcv; subst hcv
    simp only [evalOp] at hx
    obtain ⟨r, hr, e⟩ := optmap_some hx
    injection e with e1 e2; subst e1; subst e2
    obtain ⟨w', g1, g2, g3⟩ := sound_store h1 hi (cvO_sound h2 he) (cvO_sound h3 he) hr
    unfold Oper.wp
    have : (execOp a.eval ⟨dst, .store t y z, type, pos, after, guard⟩).run P w = .ok .skip w' := by
      simp only [execOp, Sem.run_bind, g1, Result.andThen_ok, Sem.run_pure]
    rw [this, Oper.upon_skip]
    exact hn _ w' c (Rep.tup [] [] rfl (fun j v y h => by simp at h)) g2 g3
  | fieldAddr t y f =>
    simp only [cvtOp, cvFaddr] at hcv
    split at hcv <;> (try (cases hcv; done))
    rename_i fs y' h1 h2
    split at hcv <;> (try (cases hcv; done))
    rename_i fl h3
    split at hcv <;> (try (cases hcv; done))
    rename_i d i h4 h5
    split at hcv <;> (try (cases hcv; done))
    rename_i hz
    injection hcv with hcv; subst hcv
    simp only [evalOp] at hx
    obtain ⟨r, hr, e⟩ := optmap_some hx
    injection e with e1 e2; subst e1; subst e2
    exact wp_value rfl (sound_fieldAddr h1 h3 h5 hz hi (cvO_sound h2 he) hr) hn
  | field t y f =>
    simp only [cvtOp, cvField] at hcv
    split at hcv <;> (try (cases hcv; done))
    rename_i fs y' h1 h2
    split at hcv <;> (try (cases hcv; done))
    rename_i fl h3
    split at hcv <;> (try (cases hcv; done))
    rename_i d i h4 h5
    injection hcv with hcv; subst hcv
    simp only [evalOp] at hx
    obtain ⟨r, hr, e⟩ := optmap_some hx
    injection e with e1 e2; subst e1; subst e2
    exact wp_value rfl (sound_field h1 h3 h4 h5 rfl hi (cvO_sound h2 he) hr) hn
  | indexAddr t y k =>
    simp only [cvtOp, cvIaddr] at hcv
    split at hcv <;> (try (cases hcv; done))
    · rename_i e0 y' k' h1 h2 h3
      split at hcv <;> (try (cases hcv; done))
      rename_i i h4
      injection hcv with hcv; subst hcv
      simp only [evalOp] at hx
      obtain ⟨r, hr, e⟩ := optmap_some hx
      injection e with e1 e2; subst e1; subst e2
      exact wp_value rfl (sound_indexS h1 h4 hi (cvO_sound h2 he) (cvO_sound h3 he) hr) hn
    · rename_i len e0 y' k' h1 h2 h3
      split at hcv <;> (try (cases hcv; done))
      rename_i d i h4 h5
      injection hcv with hcv; subst hcv
      simp only [evalOp] at hx
      obtain ⟨r, hr, e⟩ := optmap_some hx
      injection e with e1 e2; subst e1; subst e2
      exact wp_value rfl (sound_indexA h1 h5 hi (cvO_sound h2 he) (cvO_sound h3 he) hr) hn
  | index t y k =>
    simp only [cvtOp, cvIndex] at hcv
    split at hcv <;> (try (cases hcv; done))
    · rename_i len e0 y' k' h1 h2 h3
      split at hcv <;> (try (cases hcv; done))
      rename_i d i h4 h5
      injection hcv with hcv; subst hcv
      simp only [evalOp] at hx
      obtain ⟨r, hr, e⟩ := optmap_some hx
      injection e with e1 e2; subst e1; subst e2
      exact wp_value rfl (sound_index h1 h4 h5 rfl hi (cvO_sound h2 he) (cvO_sound h3 he) hr) hn
    · rename_i y' k' h1 h2 h3
      injection hcv with hcv; subst hcv
      simp only [evalOp, amem, List.map_cons, List.map_nil] at hx
      obtain ⟨r, hr, e⟩ := optmap_some hx
      injection e with e1 e2; subst e1; subst e2
      exact wp_value rfl (sound_sidx h1 hi (cvO_sound h2 he) (cvO_sound h3 he) hr) hn
  | slice t y lo h' mx =>
    simp only [cvtOp] at hcv
    obtain ⟨ao0, hcv1, hao⟩ := optmap_some hcv
    by_cases hspec : ∃ sz x h2, ao0 = .slice sz x none (some h2) none ∧ isMut muts dst = true
    · obtain ⟨sz, x2, h2, rfl, hm⟩ := hspec
      rw [hm] at hao
      have hao : ao = .mem (.popm sz) [x2, h2] := hao.symm
      subst hao
      unfold cvSlice at hcv1
      split at hcv1 <;> (try (cases hcv1; done)) <;> (try (split at hcv1 <;> (try (cases hcv1; done))))
      rename_i e0 y' l2 h2' m2 h1 h2 h3 h4 h5 _ i h6
      injection hcv1 with hcv1
      injection hcv1 with q1 q2 q3 q4 q5
      subst q1; subst q2; subst q3; subst q4; subst q5
      have hlo := cvOpt_none h3
      have hmx := cvOpt_none h5
      subst hlo; subst hmx
      cases h' with
      | none => simp only [cvOpt] at h4; cases h4
      | some hv =>
        simp only [cvOpt] at h4
        obtain ⟨hv', h7, h8⟩ := optmap_some h4
        injection h8 with h8; subst h8
        simp only [evalOp, amem, List.map_cons, List.map_nil] at hx
        exact wp_value rfl (sound_pop h1 h6 hi (cvO_sound h2 he) (cvO_sound h7 he) hx) hn
    have hao' : ao = ao0 := by
      cases hm : isMut muts dst with
      | false => rw [hm] at hao; exact hao.symm
      | true =>
        rw [hm] at hao
        cases ao0 <;> (try exact hao.symm)
        rename_i sz9 x9 lo9 hi9 mx9
        cases lo9 <;> cases hi9 <;> cases mx9 <;> first | exact hao.symm | exact absurd ⟨_, _, _, rfl, hm⟩ hspec
    subst hao'
    clear hao hspec hcv
    have hcv := hcv1
    clear hcv1
    simp only [cvSlice] at hcv
    split at hcv <;> (try (cases hcv; done))
    · rename_i e0 y' l2 h2' m2 h1 h2 h3 h4 h5
      split at hcv <;> (try (cases hcv; done))
      rename_i i h6
      injection hcv with hcv; subst hcv
      simp only [evalOp] at hx
      obtain ⟨r, hr, e⟩ := optmap_some hx
      injection e with e1 e2; subst e1; subst e2
      exact wp_value rfl (sound_slice h1 h6 hi (cvO_sound h2 he) (cvOpt_sound he h3) (cvOpt_sound he h4) (cvOpt_sound he h5) hr) hn
    · rename_i y' l2 h2' h1 h2 h3 h4 h5
      injection hcv with hcv; subst hcv
      have hmx := cvOpt_none h5
      subst hmx
      simp only [evalOp, amem, List.map_cons, List.map_nil] at hx
      obtain ⟨r, hr, e⟩ := optmap_some hx
      injection e with e1 e2; subst e1; subst e2
      rw [mlo_map, mhi_map] at hr
      exact wp_value rfl (sound_ssl h1 hi (cvO_sound h2 he) (cvOpt_sound he h3) (cvOpt_sound he h4) hr) hn
    · rename_i len e0 y' l2 h2' h1 h2 h3 h4 h5
      split at hcv <;> (try (cases hcv; done))
      rename_i d i h6 h7
      injection hcv with hcv; subst hcv
      have hmx := cvOpt_none h5
      subst hmx
      simp only [evalOp, amem, List.map_cons, List.map_nil] at hx
      obtain ⟨r, hr, e⟩ := optmap_some hx
      injection e with e1 e2; subst e1; subst e2
      rw [mlo_map, mhi_map] at hr
      exact wp_value rfl (sound_asl h1 h7 hi (cvO_sound h2 he) (cvOpt_sound he h3) (cvOpt_sound he h4) hr) hn
  | extract y k =>
    simp only [cvtOp] at hcv
    obtain ⟨y', hy, rfl⟩ := optmap_some hcv
    simp only [evalOp] at hx
    obtain ⟨r, hr, e⟩ := optmap_some hx
    injection e with e1 e2; subst e1; subst e2
    exact wp_value rfl (sound_extract hi (cvO_sound hy he) hr) hn
  | makeFunc f xs ys =>
    simp only [cvtOp] at hcv
    split at hcv <;> (try (cases hcv; done))
    rename_i x' y' h1 h2
    injection hcv with hcv; subst hcv
    simp only [evalOp] at hx
    injection hx with hx; injection hx with e1 e2; subst e1; subst e2
    have r1 := cvOs_sound he h1
    have r2 := cvOs_sound he h2
    have hd : DoneS P c w (Instr.makeFunc f (xs.map a.eval) (ys.map a.eval)) (.fn f (x'.map s.ev) (y'.map s.ev)) s.hs := by
      refine .pure hi (v := .func f (xs.map a.eval) (ys.map a.eval)) rfl ?_
      have := Rep.fn (c := c) f (xs.toList.map a.eval) (ys.toList.map a.eval) _ _ r1.1 r2.1 r1.2 r2.2
      have e1 : (xs.toList.map a.eval).toArray = xs.map a.eval := by apply Array.ext'; simp
      have e2 : (ys.toList.map a.eval).toArray = ys.map a.eval := by apply Array.ext'; simp
      rw [e1, e2] at this
      exact this
    exact wp_value rfl hd hn
  | makeInterface t y =>
    simp only [cvtOp] at hcv
    split at hcv <;> (try (cases hcv; done))
    rename_i d y' hne h1 h2
    injection hcv with hcv; subst hcv
    simp only [evalOp] at hx
    injection hx with hx; injection hx with e1 e2; subst e1; subst e2
    refine wp_value rfl (sound_mkif h1 ?_ hi (cvO_sound h2 he)) hn
    cases d <;> first | rfl | exact absurd rfl (hne _)
  | nilCheck y =>
    simp only [cvtOp] at hcv
    obtain ⟨y', hy, rfl⟩ := optmap_some hcv
    simp only [evalOp] at hx
    obtain ⟨r, hr, e⟩ := optmap_some hx
    injection e with e1 e2; subst e1; subst e2
    have r1 := cvO_sound hy he
    generalize hev : s.ev y' = z at r1 hr
    generalize hav : a.eval y = v at r1
    refine wp_value0 (v := v) (c := c) (x := r) (hs' := s.hs) ?_ ?_ hi hn
    · simp only [execOp, hav]
      cases r1 <;> simp only [anilchk] at hr <;> (try (cases hr; done)) <;> (try rfl)
      rename_i f v1 v2 x1 x2 a1 a2 a3 a4
      cases f <;> simp only [anilchk] at hr <;> (try (cases hr; done)) <;> rfl
    · cases r1 <;> simp only [anilchk] at hr <;> (try (cases hr; done))
      · injection hr with hr; subst hr
        rename_i b o vs y hl hc h lf
        exact .ptr b o vs y hl hc h lf
      · injection hr with hr; subst hr
        rename_i i o hlt
        exact .ref i o hlt
      · rename_i f v1 v2 x1 x2 a1 a2 a3 a4
        cases f <;> simp only [anilchk] at hr <;> (try (cases hr; done))
        injection hr with hr; subst hr
        exact .fn _ v1 v2 x1 x2 a1 a2 a3 a4
  | call cl =>
    simp only [cvtOp] at hcv
    obtain ⟨ao0, hcv1, hao⟩ := optmap_some hcv
    clear hcv
    have hcv := hcv1
    clear hcv1
    by_cases hspec : ∃ sz x' y', ao0 = .append sz x' y' ∧ isMut muts dst = true
    · obtain ⟨sz0, x0, y0, rfl, hm⟩ := hspec
      rw [hm] at hao
      have hao : ao = .mem (.appx sz0) [x0, y0] := hao.symm
      subst hao
      obtain ⟨callee, args, argTypes⟩ := cl
      simp only [cvCall] at hcv
      split at hcv <;> (try (cases hcv; done))
      case h_3 =>
        split at hcv
        rotate_left
        · unfold cvAppz at hcv
          (repeat' split at hcv) <;> cases hcv
        rename_i ao' hcv'
        injection hcv with hcv
        subst hcv
        have hcv := hcv'
        unfold cvAppend at hcv
        split at hcv <;> (try (cases hcv; done))
        rename_i t u y z ht ha
        split at hcv <;> (try (cases hcv; done))
        rename_i htu
        subst htu
        have eT : argTypes = #[t, t] := by apply Array.ext'; simpa using ht
        have eA : args = #[y, z] := by apply Array.ext'; simpa using ha
        subst eT; subst eA
        split at hcv <;> (try (cases hcv; done))
        rename_i e0 y' z' h1 h2 h3
        split at hcv <;> (try (cases hcv; done))
        rename_i i h4
        split at hcv <;> (try (cases hcv; done))
        rename_i zv h5
        split at hcv <;> (try (cases hcv; done))
        rename_i hcond
        injection hcv with hcv
        injection hcv with q1 q2 q3
        subst q1; subst q2; subst q3
        simp only [Bool.and_eq_true, beq_iff_eq, decide_eq_true_eq, bne_iff_ne, ne_eq] at hcond
        simp only [evalOp, amem, List.map_cons, List.map_nil] at hx
        have hrun : execOp a.eval ⟨dst, .call ⟨.builtin .append, #[y, z], #[t, t]⟩, type, pos, after, guard⟩ = (do Pure.pure (.value (← Builtin.append_ #[t, t] type #[a.eval y, a.eval z]))) := by
          simp only [execOp, resolve, pure_bind, invoke, builtin, List.map_toArray, List.map_cons, List.map_nil]
        obtain ⟨r, hr, e⟩ := optmap_some hx
        injection e with e1 e2; subst e1; subst e2
        exact wp_value hrun (DoneS.lose (sound_appm h1 h4 h5 hcond.1.1 hcond.1.2 hcond.2 hi (cvO_sound h2 he) (cvO_sound h3 he) hr)) hn
      all_goals ((try unfold cvLen at hcv); (try unfold cvCap at hcv); (try unfold cvCopy at hcv); (repeat' split at hcv) <;> cases hcv)
    have hao' : ao = ao0 := by
      cases hm : isMut muts dst with
      | false => rw [hm] at hao; exact hao.symm
      | true =>
        rw [hm] at hao
        cases ao0 <;> first | exact hao.symm | exact absurd ⟨_, _, _, rfl, hm⟩ hspec
    subst hao'
    clear hao hspec
    simp only [cvCall] at hcv
    obtain ⟨callee, args, argTypes⟩ := cl
    simp only at hcv
    split at hcv <;> (try (cases hcv; done))
    · -- len
      unfold cvLen at hcv
      split at hcv <;> (try (cases hcv; done))
      rename_i t y ht ha
      have eT : argTypes = #[t] := by apply Array.ext'; simpa using ht
      have eA : args = #[y] := by apply Array.ext'; simpa using ha
      subst eT; subst eA
      have hrun : execOp a.eval ⟨dst, .call ⟨.builtin .len, #[y], #[t]⟩, type, pos, after, guard⟩ = (do Pure.pure (.value (← Builtin.len_ #[t] type #[a.eval y]))) := by
        simp only [execOp, resolve, pure_bind, invoke, builtin, List.map_toArray, List.map_cons, List.map_nil]
      split at hcv <;> (try (cases hcv; done))
      · rename_i e0 y' h1 h2
        injection hcv with hcv; subst hcv
        simp only [evalOp] at hx
        obtain ⟨r, hr, e⟩ := optmap_some hx
        injection e with e1 e2; subst e1; subst e2
        exact wp_value hrun (sound_lenS h1 hi (cvO_sound h2 he) hr) hn
      · rename_i y' h1 h2
        injection hcv with hcv; subst hcv
        simp only [evalOp] at hx
        obtain ⟨r, hr, e⟩ := optmap_some hx
        injection e with e1 e2; subst e1; subst e2
        exact wp_value hrun (sound_lenT h1 hi (cvO_sound h2 he) hr) hn
      · rename_i k0 e0 y' h1 h2
        injection hcv with hcv; subst hcv
        simp only [evalOp, amem, List.map_cons, List.map_nil] at hx
        obtain ⟨r, hr, e⟩ := optmap_some hx
        injection e with e1 e2; subst e1; subst e2
        exact wp_value hrun (sound_mlen h1 hi (cvO_sound h2 he) hr) hn
    · -- copy
      unfold cvCopy at hcv
      split at hcv <;> (try (cases hcv; done))
      rename_i t u y z ht ha
      have eT : argTypes = #[t, u] := by apply Array.ext'; simpa using ht
      have eA : args = #[y, z] := by apply Array.ext'; simpa using ha
      subst eT; subst eA
      split at hcv <;> (try (cases hcv; done))
      rename_i e0 y' z' h1 h2 h3
      split at hcv <;> (try (cases hcv; done))
      rename_i i h4
      injection hcv with hcv; subst hcv
      simp only [evalOp, amem, List.map_cons, List.map_nil] at hx
      have hrun : execOp a.eval ⟨dst, .call ⟨.builtin .copy, #[y, z], #[t, u]⟩, type, pos, after, guard⟩ = (do Pure.pure (.value (← Builtin.copy_ #[t, u] type #[a.eval y, a.eval z]))) := by
        simp only [execOp, resolve, pure_bind, invoke, builtin, List.map_toArray, List.map_cons, List.map_nil]
      exact wp_value hrun (sound_copy h1 h4 hi (cvO_sound h2 he) (cvO_sound h3 he) hx) hn
    · -- append
      split at hcv
      rotate_left
      · -- of so many zero elements
        unfold cvAppz at hcv
        split at hcv <;> (try (cases hcv; done))
        rename_i t u y z ht ha
        have eT : argTypes = #[t, u] := by apply Array.ext'; simpa using ht
        have eA : args = #[y, z] := by apply Array.ext'; simpa using ha
        subst eT; subst eA
        split at hcv <;> (try (cases hcv; done))
        rename_i e0 k0 y' z' h1 h1' h2 h3
        split at hcv <;> (try (cases hcv; done))
        rename_i i h4
        split at hcv <;> (try (cases hcv; done))
        rename_i zv h5
        split at hcv <;> (try (cases hcv; done))
        rename_i hcond
        injection hcv with hcv; subst hcv
        simp only [Bool.and_eq_true, beq_iff_eq, decide_eq_true_eq, bne_iff_ne, ne_eq] at hcond
        simp only [evalOp] at hx
        have hrun : execOp a.eval ⟨dst, .call ⟨.builtin .append, #[y, z], #[t, u]⟩, type, pos, after, guard⟩ = (do Pure.pure (.value (← Builtin.append_ #[t, u] type #[a.eval y, a.eval z]))) := by
          simp only [execOp, resolve, pure_bind, invoke, builtin, List.map_toArray, List.map_cons, List.map_nil]
        exact wp_value hrun (sound_appz h1 h1' h4 h5 hcond.1.1 hcond.1.2 hcond.2 hi (cvO_sound h2 he) (cvO_sound h3 he) hx) hn
      rename_i ao' hcv'
      injection hcv with hcv
      subst hcv
      have hcv := hcv'
      unfold cvAppend at hcv
      split at hcv <;> (try (cases hcv; done))
      rename_i t u y z ht ha
      split at hcv <;> (try (cases hcv; done))
      rename_i htu
      subst htu
      have eT : argTypes = #[t, t] := by apply Array.ext'; simpa using ht
      have eA : args = #[y, z] := by apply Array.ext'; simpa using ha
      subst eT; subst eA
      split at hcv <;> (try (cases hcv; done))
      rename_i e0 y' z' h1 h2 h3
      split at hcv <;> (try (cases hcv; done))
      rename_i i h4
      split at hcv <;> (try (cases hcv; done))
      rename_i zv h5
      split at hcv <;> (try (cases hcv; done))
      rename_i hcond
      injection hcv with hcv; subst hcv
      simp only [Bool.and_eq_true, beq_iff_eq, decide_eq_true_eq, bne_iff_ne, ne_eq] at hcond
      simp only [evalOp] at hx
      have hrun : execOp a.eval ⟨dst, .call ⟨.builtin .append, #[y, z], #[t, t]⟩, type, pos, after, guard⟩ = (do Pure.pure (.value (← Builtin.append_ #[t, t] type #[a.eval y, a.eval z]))) := by
        simp only [execOp, resolve, pure_bind, invoke, builtin, List.map_toArray, List.map_cons, List.map_nil]
      exact wp_value hrun (sound_append h1 h4 h5 hcond.1.1 hcond.1.2 hcond.2 hi (cvO_sound h2 he) (cvO_sound h3 he) hx) hn
    · -- cap
      unfold cvCap at hcv
      split at hcv <;> (try (cases hcv; done))
      rename_i t y ht ha
      have eT : argTypes = #[t] := by apply Array.ext'; simpa using ht
      have eA : args = #[y] := by apply Array.ext'; simpa using ha
      subst eT; subst eA
      have hrun : execOp a.eval ⟨dst, .call ⟨.builtin .cap, #[y], #[t]⟩, type, pos, after, guard⟩ = (do Pure.pure (.value (← Builtin.cap_ #[t] type #[a.eval y]))) := by
        simp only [execOp, resolve, pure_bind, invoke, builtin, List.map_toArray, List.map_cons, List.map_nil]
      split at hcv <;> (try (cases hcv; done))
      rename_i e0 y' h1 h2
      injection hcv with hcv; subst hcv
      simp only [evalOp] at hx
      obtain ⟨r, hr, e⟩ := optmap_some hx
      injection e with e1 e2; subst e1; subst e2
      exact wp_value hrun (sound_cap h1 hi (cvO_sound h2 he) hr) hn
    · -- min
      split at hcv <;> (try (cases hcv; done))
      rename_i y' z' h1
      injection hcv with hcv; subst hcv
      simp only [evalOp] at hx
      obtain ⟨r, hr, e⟩ := optmap_some hx
      injection e with e1 e2; subst e1; subst e2
      have rr := cvOs_sound he h1
      obtain ⟨v1, vs1, e1, r1, rr1⟩ := RepL.cons_inv rr
      obtain ⟨v2, vs2, e2, r2, rr2⟩ := RepL.cons_inv rr1
      have e3 := rr2.nil_inv
      subst e3; subst e2
      have hrun : execOp a.eval ⟨dst, .call ⟨.builtin .min, args, argTypes⟩, type, pos, after, guard⟩ = (do Pure.pure (.value (← Builtin.min_ argTypes type #[v1, v2]))) := by
        have : args.map a.eval = #[v1, v2] := by apply Array.ext'; simpa using e1
        simp only [execOp, resolve, pure_bind, invoke, builtin, this]
      exact wp_value hrun (sound_min hi r1 r2 hr) hn
      rename_i y' z' q' h1
      injection hcv with hcv; subst hcv
      simp only [evalOp, amem, List.map_cons, List.map_nil] at hx
      obtain ⟨r, hr, e⟩ := optmap_some hx
      injection e with e1 e2; subst e1; subst e2
      have rr := cvOs_sound he h1
      obtain ⟨v1, vs1, e1, r1, rr1⟩ := RepL.cons_inv rr
      obtain ⟨v2, vs2, e2, r2, rr2⟩ := RepL.cons_inv rr1
      obtain ⟨v3, vs3, e3, r3, rr3⟩ := RepL.cons_inv rr2
      have e4 := rr3.nil_inv
      subst e4; subst e3; subst e2
      have hrun : execOp a.eval ⟨dst, .call ⟨.builtin .min, args, argTypes⟩, type, pos, after, guard⟩ = (do Pure.pure (.value (← Builtin.min_ argTypes type #[v1, v2, v3]))) := by
        have : args.map a.eval = #[v1, v2, v3] := by apply Array.ext'; simpa using e1
        simp only [execOp, resolve, pure_bind, invoke, builtin, this]
      exact wp_value hrun (sound_min3 hi r1 r2 r3 hr) hn
    · -- max
      split at hcv <;> (try (cases hcv; done))
      rename_i y' z' h1
      injection hcv with hcv; subst hcv
      simp only [evalOp] at hx
      obtain ⟨r, hr, e⟩ := optmap_some hx
      injection e with e1 e2; subst e1; subst e2
      have rr := cvOs_sound he h1
      obtain ⟨v1, vs1, e1, r1, rr1⟩ := RepL.cons_inv rr
      obtain ⟨v2, vs2, e2, r2, rr2⟩ := RepL.cons_inv rr1
      have e3 := rr2.nil_inv
      subst e3; subst e2
      have hrun : execOp a.eval ⟨dst, .call ⟨.builtin .max, args, argTypes⟩, type, pos, after, guard⟩ = (do Pure.pure (.value (← Builtin.max_ argTypes type #[v1, v2]))) := by
        have : args.map a.eval = #[v1, v2] := by apply Array.ext'; simpa using e1
        simp only [execOp, resolve, pure_bind, invoke, builtin, this]
      exact wp_value hrun (sound_max hi r1 r2 hr) hn
      rename_i y' z' q' h1
      injection hcv with hcv; subst hcv
      simp only [evalOp, amem, List.map_cons, List.map_nil] at hx
      obtain ⟨r, hr, e⟩ := optmap_some hx
      injection e with e1 e2; subst e1; subst e2
      have rr := cvOs_sound he h1
      obtain ⟨v1, vs1, e1, r1, rr1⟩ := RepL.cons_inv rr
      obtain ⟨v2, vs2, e2, r2, rr2⟩ := RepL.cons_inv rr1
      obtain ⟨v3, vs3, e3, r3, rr3⟩ := RepL.cons_inv rr2
      have e4 := rr3.nil_inv
      subst e4; subst e3; subst e2
      have hrun : execOp a.eval ⟨dst, .call ⟨.builtin .max, args, argTypes⟩, type, pos, after, guard⟩ = (do Pure.pure (.value (← Builtin.max_ argTypes type #[v1, v2, v3]))) := by
        have : args.map a.eval = #[v1, v2, v3] := by apply Array.ext'; simpa using e1
        simp only [execOp, resolve, pure_bind, invoke, builtin, this]
      exact wp_value hrun (sound_max3 hi r1 r2 r3 hr) hn
    · -- a function by name
      rename_i f
      split at hcv <;> (try (cases hcv; done))
      rename_i xs h1
      have e : (#[] ++ args.map a.eval ++ #[] : Array Value) = (args.toList.map a.eval).toArray := by apply Array.ext'; simp
      have rr := cvOs_sound he h1
      split at hcv
      rotate_left
      · split at hcv <;> injection hcv with hcv <;> subst hcv
        · simp only [evalOp] at hx
          obtain ⟨r, hr, e'⟩ := optmap_some hx
          injection e' with e1 e2; subst e1; subst e2
          unfold alcall at hr
          split at hr <;> (try (cases hr; done))
          rename_i r' hr'
          split at hr <;> (try (cases hr; done))
          rename_i hsc
          injection hr with hr; subst hr
          have hp := hC _ _ _ hr'
          have hok := (hp.run ⟨fun _ => none, 0, 0, fun _ => false, fun _ => none⟩ ⟨fun _ => rfl, fun _ => rfl⟩).ok
          refine invoke_call (P := P) (cl := ⟨.value (.func f), args, argTypes⟩) rfl rfl (f := f) (v1 := #[]) (v2 := #[]) rfl hok ?_
          rw [e]
          refine (hp.loan hsc hi rr).mono ?_
          rintro e w' ⟨v, c', rfl, k1, k2, k3⟩
          exact hn v w' c' k1 k2 k3
        · simp [evalOp] at hx
      · injection hcv with hcv
        subst hcv
        simp only [evalOp] at hx
        obtain ⟨r, hr, e⟩ := optmap_some hx
        injection e with e1 e2; subst e1; subst e2
        have hp := hC _ _ _ hr
        have hok := (hp.run ⟨fun _ => none, 0, 0, fun _ => false, fun _ => none⟩ ⟨fun _ => rfl, fun _ => rfl⟩).ok
        refine invoke_call (P := P) (cl := ⟨.value (.func f), args, argTypes⟩) rfl rfl (f := f) (v1 := #[]) (v2 := #[]) rfl hok ?_
        have e : (#[] ++ args.map a.eval ++ #[] : Array Value) = (args.toList.map a.eval).toArray := by apply Array.ext'; simp
        rw [e]
        refine (hp.sound hi rr).mono ?_
        rintro e w' ⟨v, c', rfl, k1, k2, k3⟩
        exact hn v w' c' k1 k2 k3
    · split at hcv <;> (try (cases hcv; done))
      injection hcv with hcv; subst hcv
      simp [evalOp] at hx
    · split at hcv <;> (try (cases hcv; done))
      injection hcv with hcv; subst hcv
      simp [evalOp] at hx
  | panic y =>
    simp only [cvtOp] at hcv
    obtain ⟨y', hy, rfl⟩ := optmap_some hcv
    simp [evalOp] at hx
  | _ => simp [cvtOp] at hcv
end Fw
set_option linter.unusedVariables false
set_option linter.unusedSimpArgs false
namespace Fw
open Go

structure AI where
  dst : Option Nat
  g : Option (Nat × Bool)
  op : AOp

def wantB : AV → Bool → Bool
  | .bool b', b => b' == b
  | _, _ => false
def AS.want (s : AS) : Option (Nat × Bool) → Bool
  | none => true
  | some (t, b) => wantB (s.env t) b

inductive AEx where
  | normal
  | exit (id : Nat)
  | goto (l : Nat)
  | ret
  | panic (x : AV)

def optK {α : Type} : Option α → (α → Prop) → Prop
  | some a, K => K a
  | none, _ => False
def hcW (P : Program) (f : FuncId) (args : List AV) (dst : Option Nat) (K : AS → Prop) (Q : AEx → AS → Prop) (s : AS) : Prop :=
  FCall P f args s.hs fun e hs' => match e with
    | .ret v => K ((⟨s.env, hs'⟩ : AS).put dst v)
    | .panic v => Q (.panic v) ⟨s.env, hs'⟩
def cvW (P : Program) (x : AV) (args : List AV) (dst : Option Nat) (K : AS → Prop) (Q : AEx → AS → Prop) (s : AS) : Prop :=
  match x with
  | .fn (.func f) xs ys => hcW P f (xs ++ args ++ ys) dst K Q s
  | _ => False
def ivW (P : Program) (ms : List AV) (x : AV) (args : List AV) (dst : Option Nat) (K : AS → Prop) (Q : AEx → AS → Prop) (s : AS) : Prop :=
  match ivF ms x args with
  | some (f, as) => hcW P f as dst K Q s
  | none => False
def pnW (x : AV) (Q : AEx → AS → Prop) (s : AS) : Prop :=
  match x with
  | .iface t v => Q (.panic (.iface t v)) s
  | _ => False
def opW (P : Program) (C : PCtx) (dst : Option Nat) (op : AOp) (K : AS → Prop) (Q : AEx → AS → Prop) (s : AS) : Prop :=
  match op with
  | .hcall f args => hcW P f (args.map s.ev) dst K Q s
  | .callv x args => cvW P (s.ev x) (args.map s.ev) dst K Q s
  | .invk ms x args => ivW P ms (s.ev x) (args.map s.ev) dst K Q s
  | .panic x => pnW (s.ev x) Q s
  | op => optK (evalOp C s op) fun r => K ((⟨s.env, r.2⟩ : AS).put dst r.1)
def condP (b : Bool) (p q : Prop) : Prop := if b = true then p else q
def aiW (P : Program) (C : PCtx) (o : AI) (K : AS → Prop) (Q : AEx → AS → Prop) (s : AS) : Prop :=
  condP (s.want o.g) (opW P C o.dst o.op K Q s) (K (s.put o.dst .undef))
def runW (P : Program) (C : PCtx) : List AI → (AEx → AS → Prop) → AS → Prop
  | [], Q, s => Q .normal s
  | o :: os, Q, s => aiW P C o (runW P C os Q) Q s

/-! soundness of one step -/
def ExM (c : CM) : Exit → AEx → Prop
  | .normal, .normal => True
  | .exit i, .exit j => i = j
  | .goto i, .goto j => i = j
  | .ret, .ret => True
  | .panic ch, .panic x => ∃ v, ch = [{ v := v, recovered := false }] ∧ Rep c v x
  | _, _ => False

structure St (n : Nat) (c0 : CM) (w0 : World) (ds : List Deferred) (c : CM) (s : AS) (a : Act) (w : World) : Prop where
  env : EnvRep n c a s
  inv : Inv c s.hs w
  fr : Fr c0 w0 c w
  df : a.defers = ds

def QL (n : Nat) (c0 : CM) (w0 : World) (ds : List Deferred) (Q : AEx → AS → Prop) : Exit → Act → World → Prop :=
  fun e a w => ∃ ae c s, Q ae s ∧ ExM c e ae ∧ St n c0 w0 ds c s a w
def KL (n : Nat) (c0 : CM) (w0 : World) (ds : List Deferred) (K : AS → Prop) : Act → World → Prop :=
  fun a w => ∃ c s, K s ∧ St n c0 w0 ds c s a w

theorem EnvRep.put {n : Nat} {c c' : CM} {a : Act} {s : AS} (h : EnvRep n c a s) (hl : c.le c') (dst : Option Nat) {v : Value} {x : AV} (hr : Rep c' v x) (hs' : HS) : EnvRep n c' (a.put dst v) ((⟨s.env, hs'⟩ : AS).put dst x) := by
  cases dst with
  | none => exact ⟨h.size, fun t u ht => (h.rep t u ht).mono hl⟩
  | some d =>
    refine ⟨by simpa [Act.put] using h.size, fun t u ht => ?_⟩
    simp only [Act.put] at ht
    simp only [AS.put]
    rw [Array.getElem?_setIfInBounds] at ht
    by_cases hd : d = t
    · subst hd
      simp only [if_true] at ht ⊢
      split at ht <;> (try (cases ht; done))
      injection ht with ht; subst ht; exact hr
    · simp only [hd, if_false] at ht
      rw [if_neg (fun e => hd e.symm)]
      exact (h.rep t u ht).mono hl

theorem St.put {n : Nat} {c0 : CM} {w0 : World} {ds : List Deferred} {c c' : CM} {s : AS} {a : Act} {w w' : World} (h : St n c0 w0 ds c s a w) (dst : Option Nat) {v : Value} {x : AV} {hs' : HS}
    (hr : Rep c' v x) (hi : Inv c' hs' w') (hf : Fr c w c' w') : St n c0 w0 ds c' ((⟨s.env, hs'⟩ : AS).put dst x) (a.put dst v) w' := by
  refine ⟨h.env.put hf.le dst hr hs', ?_, h.fr.trans hf, ?_⟩
  · cases dst <;> exact hi
  · cases dst <;> exact h.df

theorem EnvRep.mono {n : Nat} {c c' : CM} {a : Act} {s : AS} (h : EnvRep n c a s) (hl : c.le c') : EnvRep n c' a s := ⟨h.size, fun t u ht => (h.rep t u ht).mono hl⟩

def special : AOp → Bool
  | .hcall _ _ => true
  | .callv _ _ => true
  | .invk _ _ _ => true
  | .panic _ => true
  | _ => false

theorem cv_special {P : Program} {n : Nat} {muts : List Nat} {pu : List FuncId} {dst : Option Nat} {op : Op} {ao : AOp} (hcv : cvtOp P n muts pu dst op = some ao) (hs : special ao = true) :
    (∃ cl, op = .call cl ∧ ((∃ f xs, cl.callee = .value (.func f) ∧ cvOs n cl.args.toList = some xs ∧ ao = .hcall f xs) ∨ (∃ g x xs, cl.callee = .value g ∧ cvO n g = some x ∧ cvOs n cl.args.toList = some xs ∧ ao = .callv x xs) ∨ (∃ g name x xs, cl.callee = .invoke g name ∧ cvO n g = some x ∧ cvOs n cl.args.toList = some xs ∧ ao = .invk (mths P name) x xs))) ∨
    (∃ y y', op = .panic y ∧ cvO n y = some y' ∧ ao = .panic y') := by
  cases op <;> simp only [cvtOp] at hcv <;> (try (cases hcv; done)) <;> (try (obtain ⟨_, _, e⟩ := optmap_some hcv; subst e; cases hs; done)) <;>
    (try (split at hcv <;> (try (cases hcv; done)) <;> (injection hcv with hcv; subst hcv; cases hs); done))
  case box t y =>
    obtain ⟨_, _, e⟩ := optmap_some hcv
    cases hm : isMut muts dst <;> simp only [hm, cond_true, cond_false] at e <;> subst e <;> cases hs
  case build t ps =>
    unfold cvBuild at hcv
    split at hcv <;> (try (cases hcv; done)) <;> split at hcv <;> (try (cases hcv; done)) <;> (obtain ⟨_, _, e⟩ := optmap_some hcv; subst e; cases hs)
  case buildSlice t l ps =>
    obtain ⟨ao0, hcv, e⟩ := optmap_some hcv
    unfold cvBuildSl at hcv
    split at hcv <;> (try (cases hcv; done))
    split at hcv <;> (try (cases hcv; done))
    split at hcv <;> (try (cases hcv; done))
    split at hcv <;> (try (cases hcv; done)) <;> (injection hcv with hcv; subst hcv; cases hm : isMut muts dst <;> rw [hm] at e <;> simp only [cond_true, cond_false, toL] at e <;> subst e <;> cases hs)
  case makeMap t r => cases r <;> simp only [cvtOp] at hcv <;> first | (cases hcv; done) | (injection hcv with hcv; subst hcv; cases hs)
  case lookup t y k ck =>
    unfold cvLook at hcv
    split at hcv <;> (try (cases hcv; done))
    split at hcv <;> (try (cases hcv; done))
    split at hcv <;> (try (cases hcv; done))
    split at hcv <;> (try (cases hcv; done)) <;> (injection hcv with hcv; subst hcv; cases hs)
  case mapUpdate t m k v =>
    unfold cvMupd at hcv
    split at hcv <;> (try (cases hcv; done)) <;> (injection hcv with hcv; subst hcv; cases hs)
  case insert t m k v =>
    unfold cvMupd at hcv
    split at hcv <;> (try (cases hcv; done)) <;> (injection hcv with hcv; subst hcv; cases hs)
  case convert s d x =>
    split at hcv
    · injection hcv with hcv; subst hcv; cases hs
    · unfold cvB2s at hcv
      split at hcv <;> (try (cases hcv; done))
      split at hcv <;> (try (cases hcv; done)) <;> (injection hcv with hcv; subst hcv; cases hs)
  case typeAssert x xt t ok =>
    cases ok <;> simp only [cvtOp] at hcv <;> (try (cases hcv; done))
    unfold cvTass at hcv
    split at hcv <;> (try (cases hcv; done))
    split at hcv <;> (try (cases hcv; done))
    split at hcv <;> (try (cases hcv; done)) <;> (injection hcv with hcv; subst hcv; cases hs)
  case makeSlice t l k =>
    unfold cvMake at hcv
    split at hcv <;> (try (cases hcv; done))
    split at hcv <;> (try (cases hcv; done))
    split at hcv <;> (try (cases hcv; done))
    split at hcv <;> (try (cases hcv; done))
    split at hcv <;> (try (cases hcv; done)) <;> (injection hcv with hcv; subst hcv; cases hs)
  case load t y =>
    unfold cvLoad at hcv
    split at hcv <;> (try (cases hcv; done))
    · injection hcv with hcv; subst hcv; cases hs
    · split at hcv <;> (try (cases hcv; done))
      injection hcv with hcv; subst hcv; cases hs
  case store t y z => unfold cvStore at hcv; split at hcv <;> (try (cases hcv; done)) <;> (injection hcv with hcv; subst hcv; cases hs)
  case fieldAddr t y f =>
    unfold cvFaddr at hcv
    split at hcv <;> (try (cases hcv; done))
    split at hcv <;> (try (cases hcv; done))
    split at hcv <;> (try (cases hcv; done))
    split at hcv <;> (try (cases hcv; done)) <;> (injection hcv with hcv; subst hcv; cases hs)
  case field t y f =>
    unfold cvField at hcv
    split at hcv <;> (try (cases hcv; done))
    split at hcv <;> (try (cases hcv; done))
    split at hcv <;> (try (cases hcv; done)) <;> (injection hcv with hcv; subst hcv; cases hs)
  case indexAddr t y k =>
    unfold cvIaddr at hcv
    split at hcv <;> (try (cases hcv; done)) <;> split at hcv <;> (try (cases hcv; done)) <;> (injection hcv with hcv; subst hcv; cases hs)
  case index t y k =>
    unfold cvIndex at hcv
    (repeat' split at hcv) <;> (try (cases hcv; done)) <;> (injection hcv with hcv; subst hcv; cases hs)
  case slice t y lo hi mx =>
    obtain ⟨ao0, hcv, e⟩ := optmap_some hcv
    have hns : special ao0 = false := by
      unfold cvSlice at hcv
      (repeat' split at hcv) <;> (try (cases hcv; done)) <;> (injection hcv with hcv; subst hcv; rfl)
    have hnp : special (toP ao0) = special ao0 := by
      cases ao0 <;> try rfl
      rename_i sz x lo hi mx
      cases lo <;> cases hi <;> cases mx <;> rfl
    cases hm : isMut muts dst <;> rw [hm] at e <;> simp only [cond_true, cond_false] at e <;> subst e <;> simp_all
  case panic y =>
    obtain ⟨y', hy, e⟩ := optmap_some hcv
    exact .inr ⟨y, y', rfl, hy, e.symm⟩
  case call cl =>
    left
    refine ⟨cl, rfl, ?_⟩
    obtain ⟨ao0, hcv1, hao⟩ := optmap_some hcv
    have hao' : ao = ao0 := by
      cases hm : isMut muts dst with
      | false => rw [hm] at hao; exact hao.symm
      | true =>
        rw [hm] at hao
        cases ao0 <;> first | exact hao.symm | (exfalso; rw [← hao] at hs; cases hs)
    subst hao'
    clear hcv hao
    have hcv := hcv1
    clear hcv1
    obtain ⟨callee, cargs, argTypes⟩ := cl
    simp only [cvCall] at hcv ⊢
    split at hcv <;> (try (cases hcv; done))
    · unfold cvLen at hcv
      split at hcv <;> (try (cases hcv; done))
      split at hcv <;> (try (cases hcv; done)) <;> (injection hcv with hcv; subst hcv; cases hs)
    · unfold cvCopy at hcv
      split at hcv <;> (try (cases hcv; done))
      split at hcv <;> (try (cases hcv; done))
      split at hcv <;> (try (cases hcv; done)) <;> (injection hcv with hcv; subst hcv; cases hs)
    · split at hcv
      rotate_left
      · unfold cvAppz at hcv
        split at hcv <;> (try (cases hcv; done))
        split at hcv <;> (try (cases hcv; done))
        split at hcv <;> (try (cases hcv; done))
        split at hcv <;> (try (cases hcv; done))
        split at hcv <;> (try (cases hcv; done)) <;> (injection hcv with hcv; subst hcv; cases hs)
      rename_i ao' hcv'
      injection hcv with hcv
      subst hcv
      have hcv := hcv'
      unfold cvAppend at hcv
      split at hcv <;> (try (cases hcv; done))
      split at hcv <;> (try (cases hcv; done))
      split at hcv <;> (try (cases hcv; done))
      split at hcv <;> (try (cases hcv; done))
      split at hcv <;> (try (cases hcv; done))
      split at hcv <;> (try (cases hcv; done)) <;> (injection hcv with hcv; subst hcv; cases hs)
    · unfold cvCap at hcv
      split at hcv <;> (try (cases hcv; done))
      split at hcv <;> (try (cases hcv; done)) <;> (injection hcv with hcv; subst hcv; cases hs)
    · split at hcv <;> (try (cases hcv; done)) <;> (injection hcv with hcv; subst hcv; cases hs)
    · split at hcv <;> (try (cases hcv; done)) <;> (injection hcv with hcv; subst hcv; cases hs)
    · rename_i g
      split at hcv <;> (try (cases hcv; done))
      rename_i xs h1
      split at hcv
      · injection hcv with hcv; subst hcv; cases hs
      · split at hcv <;> injection hcv with hcv <;> subst hcv
        · cases hs
        · exact .inl ⟨g, xs, rfl, h1, rfl⟩
    · rename_i g hne
      split at hcv <;> (try (cases hcv; done))
      rename_i x' xs h1 h2
      injection hcv with hcv; subst hcv
      exact .inr (.inl ⟨g, x', xs, rfl, h1, h2, rfl⟩)
    · rename_i g name
      split at hcv <;> (try (cases hcv; done))
      rename_i x' xs h1 h2
      injection hcv with hcv; subst hcv
      exact .inr (.inr ⟨g, name, x', xs, rfl, h1, h2, rfl⟩)

theorem op_sound {P : Program} {C : PCtx} (hC : CtxOk P C) {n : Nat} {muts : List Nat} {pu : List FuncId} {o : Oper} {ao : AOp} (hcv : cvtOp P n muts pu o.dst o.op = some ao)
    {K : AS → Prop} {Q : AEx → AS → Prop} {c0 : CM} {w0 : World} {ds : List Deferred} {c : CM} {s : AS} {a : Act} {w : World} (h : opW P C o.dst ao K Q s) (hs : St n c0 w0 ds c s a w) :
    o.wp P a w (KL n c0 w0 ds K) (QL n c0 w0 ds Q) := by
  have det : (∃ r, evalOp C s ao = some r ∧ K ((⟨s.env, r.2⟩ : AS).put o.dst r.1)) → o.wp P a w (KL n c0 w0 ds K) (QL n c0 w0 ds Q) := by
    rintro ⟨⟨x, hs'⟩, h1, h2⟩
    exact op_det hC hcv h1 hs.env hs.inv fun v w' c' e1 e2 e3 => ⟨c', _, h2, hs.put o.dst e1 e2 e3⟩
  have viaCall : ∀ (f : FuncId) (args : List AV) (vs : List Value), RepL c vs args → hcW P f args o.dst K Q s →
      callOk P f = true ∧ Calls P f vs.toArray w fun
      | .returned v, w'' => KL n c0 w0 ds K (a.put o.dst v) w''
      | .panicked chain, w'' => QL n c0 w0 ds Q (.panic chain) a w''
      | .outgrown, _ => LetsOut (QL n c0 w0 ds Q) := by
    intro f args vs hv hw
    refine ⟨hw.ok, (hw.run c w vs hs.inv hv).mono ?_⟩
    rintro e w' ⟨ae, hs', c', h1, h2, h3, h4⟩
    cases e with
    | returned v =>
      cases ae with
      | ret x => exact ⟨c', _, h1, hs.put o.dst h2 h3 h4⟩
      | panic x => exact h2.elim
    | panicked ch =>
      cases ae with
      | ret x => exact h2.elim
      | panic x =>
        obtain ⟨v, e, hr⟩ := h2
        exact ⟨.panic x, c', ⟨s.env, hs'⟩, h1, ⟨v, e, hr⟩, ⟨⟨hs.env.size, fun t u ht => (hs.env.rep t u ht).mono h4.le⟩, h3, hs.fr.trans h4, hs.df⟩⟩
    | outgrown => exact h2.elim
  have detcase : (∀ f args, ao ≠ .hcall f args) → (∀ x args, ao ≠ .callv x args) → (∀ ms x args, ao ≠ .invk ms x args) → (∀ x, ao ≠ .panic x) → o.wp P a w (KL n c0 w0 ds K) (QL n c0 w0 ds Q) := by
    intro n1 n2 n4 n3
    refine det ?_
    have : optK (evalOp C s ao) fun r => K ((⟨s.env, r.2⟩ : AS).put o.dst r.1) := by
      unfold opW at h
      split at h
      · exact absurd rfl (n1 _ _)
      · exact absurd rfl (n2 _ _)
      · exact absurd rfl (n4 _ _ _)
      · exact absurd rfl (n3 _)
      · exact h
    cases he : evalOp C s ao with
    | none => rw [he] at this; exact this.elim
    | some r => rw [he] at this; exact ⟨r, rfl, this⟩
  by_cases hsp : special ao = true
  · rcases cv_special hcv hsp with ⟨cl, hop, ⟨f, xs, hcl, hxs, rfl⟩ | ⟨g, x, xs, hcl, hg, hxs, rfl⟩ | ⟨g, name, x, xs, hcl, hg, hxs, rfl⟩⟩ | ⟨y, y', hop, hy, rfl⟩
    · simp only [opW] at h
      have rr := cvOs_sound hs.env hxs
      obtain ⟨hok, hcall⟩ := viaCall f _ _ rr h
      refine invoke_call (P := P) hop hcl (f := f) (v1 := #[]) (v2 := #[]) rfl hok ?_
      have e : (#[] ++ cl.args.map a.eval ++ #[] : Array Value) = (cl.args.toList.map a.eval).toArray := by apply Array.ext'; simp
      rw [e]; exact hcall
    · simp only [opW] at h
      have r1 := cvO_sound hg hs.env
      have rr := cvOs_sound hs.env hxs
      unfold cvW at h
      split at h <;> (try (exact h.elim))
      rename_i f xs' ys' hfx
      rw [hfx] at r1
      generalize hav : a.eval g = v at r1
      cases r1 with
      | fn _ v1 v2 _ _ hl1 hl2 hh1 hh2 =>
        obtain ⟨hok, hcall⟩ := viaCall f _ _ (((RepL.append (c := c) (v1 := v1) (x1 := xs') ⟨hl1, hh1⟩ rr).append (v2 := v2) (x2 := ys') ⟨hl2, hh2⟩)) h
        refine invoke_call (P := P) hop hcl (f := f) (v1 := v1.toArray) (v2 := v2.toArray) hav hok ?_
        have e : (v1.toArray ++ cl.args.map a.eval ++ v2.toArray : Array Value) = (v1 ++ cl.args.toList.map a.eval ++ v2).toArray := by apply Array.ext'; simp
        rw [e]; exact hcall
    · simp only [opW] at h
      have r1 := cvO_sound hg hs.env
      have rr := cvOs_sound hs.env hxs
      unfold ivW at h
      split at h <;> (try (exact h.elim))
      rename_i f as hfx
      unfold ivF at hfx
      split at hfx <;> (try (cases hfx; done))
      rename_i t y hx1
      obtain ⟨f', hm, e⟩ := optmap_some hfx
      injection e with e1 e2; subst e1; subst e2
      have hmm := lookM_mths _ hm
      rw [hx1] at r1
      generalize hav : a.eval g = v at r1
      cases r1 with
      | iface _ vv _ hr =>
        obtain ⟨hok, hcall⟩ := viaCall f' _ _ (RepL.cons hr rr) h
        refine invoke_meth (P := P) hop hcl hav hmm ?_
        have e : (#[vv] ++ cl.args.map a.eval : Array Value) = (vv :: cl.args.toList.map a.eval).toArray := by apply Array.ext'; simp
        rw [e]; exact hcall
    · simp only [opW] at h
      have r1 := cvO_sound hy hs.env
      unfold pnW at h
      split at h <;> (try (exact h.elim))
      rename_i t u hfx
      rw [hfx] at r1
      unfold Oper.wp
      generalize hav : a.eval y = v at r1
      cases r1 with
      | iface _ vv _ hr =>
        have : (execOp a.eval o).run P w = .halt (.panic (.iface t vv)) w := by
          unfold execOp
          rw [hop]
          simp only [hav, Instr.panic, Sem.run_bind, run_goPanic, Result.andThen_halt]
        rw [this, Oper.upon_panic]
        exact ⟨_, c, s, h, ⟨_, rfl, .iface t vv u hr⟩, hs⟩
  · exact detcase (fun _ _ e => hsp (by rw [e]; rfl)) (fun _ _ e => hsp (by rw [e]; rfl)) (fun _ _ _ e => hsp (by rw [e]; rfl)) (fun _ e => hsp (by rw [e]; rfl))

/-! lists of operations -/
def cvG (n : Nat) (ops : Array Oper) : Option (Nat × Bool) → Option (Option (Nat × Bool))
  | none => some none
  | some (j, b) => match (ops[j]?).bind (·.dst) with
    | some t => if t < n then some (some (t, b)) else none
    | none => none
def cvtI (P : Program) (n : Nat) (muts : List Nat) (pu : List FuncId) (ops : Array Oper) (o : Oper) : Option AI :=
  match cvG n ops o.guard, cvtOp P n muts pu o.dst o.op with
  | some g, some op => some ⟨o.dst, g, op⟩
  | _, _ => none
def cvtL (P : Program) (n : Nat) (muts : List Nat) (pu : List FuncId) (ops : Array Oper) : List Nat → Option (List AI)
  | [] => some []
  | i :: is => match ops[i]? with
    | some o => match cvtI P n muts pu ops o, cvtL P n muts pu ops is with
      | some x, some xs => some (x :: xs)
      | _, _ => none
    | none => none

theorem want_sound {n : Nat} {ops : Array Oper} {o : Oper} {g : Option (Nat × Bool)} (hg : cvG n ops o.guard = some g) {c : CM} {a : Act} {s : AS} (he : EnvRep n c a s) : Region.wanted o (yielded ops a.tmps) = s.want g := by
  unfold Region.wanted
  cases hgd : o.guard with
  | none => rw [hgd] at hg; simp only [cvG] at hg; injection hg with hg; subst hg; rfl
  | some jb =>
    obtain ⟨j, b⟩ := jb
    rw [hgd] at hg
    simp only [cvG] at hg
    split at hg <;> (try (cases hg; done))
    rename_i t ht
    split at hg <;> (try (cases hg; done))
    rename_i hlt
    injection hg with hg; subst hg
    have hlt' : t < a.tmps.size := by rw [he.size]; exact hlt
    have hr := he.rep t a.tmps[t] (by simp [hlt'])
    simp only [AS.want, yielded, ht, Option.bind_some]
    rw [Array.getElem?_eq_getElem hlt']
    generalize a.tmps[t] = v at hr
    generalize s.env t = x at hr
    cases hr <;> simp [wantB]

theorem ai_sound {P : Program} {C : PCtx} (hC : CtxOk P C) {n : Nat} {muts : List Nat} {pu : List FuncId} {ops : Array Oper} {i : Nat} {o : Oper} (hi : ops[i]? = some o) {x : AI} (hcv : cvtI P n muts pu ops o = some x)
    {K : AS → Prop} {Q : AEx → AS → Prop} {c0 : CM} {w0 : World} {ds : List Deferred} {c : CM} {s : AS} {a : Act} {w : World} (h : aiW P C x K Q s) (hs : St n c0 w0 ds c s a w) :
    wpOp P ops (QL n c0 w0 ds Q) i (KL n c0 w0 ds K) a w := by
  unfold cvtI at hcv
  split at hcv <;> (try (cases hcv; done))
  rename_i g op hg hop
  injection hcv with hcv; subst hcv
  unfold wpOp
  simp only [hi]
  rw [want_sound hg hs.env]
  unfold aiW condP at h
  simp only at h
  split at h
  · rename_i hw
    rw [if_pos hw]
    exact .inl (op_sound hC hop h hs)
  · rename_i hw
    rw [if_neg hw]
    exact ⟨c, _, h, hs.put o.dst (Rep.tup [] [] rfl (fun j v y h => by simp at h)) hs.inv (.refl _ _)⟩

theorem run_sound {P : Program} {C : PCtx} (hC : CtxOk P C) {n : Nat} {muts : List Nat} {pu : List FuncId} {ops : Array Oper} {Q : AEx → AS → Prop} {c0 : CM} {w0 : World} {ds : List Deferred} :
    ∀ (is : List Nat) (xs : List AI) (c : CM) (s : AS) (a : Act) (w : World), cvtL P n muts pu ops is = some xs → runW P C xs Q s → St n c0 w0 ds c s a w → wpOps P ops (QL n c0 w0 ds Q) is a w
  | [], xs, c, s, a, w, hcv, h, hs => by
    simp only [cvtL] at hcv; injection hcv with hcv; subst hcv
    exact ⟨.normal, c, s, h, trivial, hs⟩
  | i :: is, xs, c, s, a, w, hcv, h, hs => by
    simp only [cvtL] at hcv
    split at hcv <;> (try (cases hcv; done))
    rename_i o ho
    split at hcv <;> (try (cases hcv; done))
    rename_i y ys h1 h2
    injection hcv with hcv; subst hcv
    rw [wpOps_cons]
    refine wpOp_mono ?_ (ai_sound hC ho h1 h hs)
    rintro a' w' ⟨c', s', hK, hs'⟩
    exact run_sound hC is ys c' s' a' w' h2 hK hs'
end Fw
set_option linter.unusedVariables false
set_option linter.unusedSimpArgs false
namespace Fw
open Go

def AOpd.reads : AOpd → List Nat
  | .t n => [n]
  | .c _ => []
def optReads : Option AOpd → List Nat
  | none => []
  | some x => x.reads
def lReads (xs : List AOpd) : List Nat := xs.flatMap AOpd.reads
def AOp.reads : AOp → List Nat
  | .mv x | .un _ x | .conv _ x | .boxi x | .boxm x | .load _ _ x | .faddr _ _ _ x | .field _ _ _ x | .extract x _ | .len _ x | .mkif _ x | .nilchk x | .cap x | .panic x => x.reads
  | .pick c a b => c.reads ++ (a.reads ++ b.reads)
  | .bin _ _ x y | .store _ x y | .iaddrS _ x y | .iaddrA _ _ _ x y | .index _ _ _ x y | .append _ x y | .appm _ x y | .min x y | .max x y | .make _ _ _ x y | .appz _ x y => x.reads ++ y.reads
  | .alloc _ => []
  | .build _ ps => ps.flatMap fun p => p.2.2.reads
  | .buildSl _ xs => lReads xs
  | .slice _ x lo hi mx => x.reads ++ (optReads lo ++ (optReads hi ++ optReads mx))
  | .mkfn _ xs ys => lReads xs ++ lReads ys
  | .pcall _ args | .lcall _ args | .hcall _ args | .mem _ args => lReads args
  | .callv x args => x.reads ++ lReads args
  | .invk _ x args => x.reads ++ lReads args
def AI.reads (o : AI) : List Nat := (match o.g with | none => [] | some (t, _) => [t]) ++ o.op.reads
def MOp.cls : MOp → Nat
  | .sidx | .ssl _ _ | .asl _ _ _ _ _ | .min3 | .max3 | .tass _ _ | .glob => 0
  | .look _ _ _ | .mlen => 1
  | _ => 3
/-- 0: hangs on its operands alone, leaves memory · 1: reads memory · 2: append · 3: all else -/
def AOp.cls : AOp → Nat
  | .load .. => 1
  | .lcall .. => 1
  | .append .. => 2
  | .mem m _ => m.cls
  | .alloc _ | .make .. | .appz .. | .appm .. | .boxm _ | .store .. | .hcall .. | .callv .. | .invk .. | .panic _ => 3
  | _ => 0

def SameOn (l : List Nat) (s s' : AS) : Prop := ∀ t ∈ l, s.env t = s'.env t

theorem ev_congr {x : AOpd} {s s' : AS} (h : SameOn x.reads s s') : s.ev x = s'.ev x := by
  cases x with
  | t n => exact h n (by simp [AOpd.reads])
  | c x => rfl
theorem evs_congr {xs : List AOpd} {s s' : AS} (h : SameOn (lReads xs) s s') : xs.map s.ev = xs.map s'.ev := by
  apply List.map_congr_left
  intro x hx
  exact ev_congr fun t ht => h t (List.mem_flatMap.2 ⟨x, hx, ht⟩)
theorem evo_congr {x : Option AOpd} {s s' : AS} (h : SameOn (optReads x) s s') : x.map s.ev = x.map s'.ev := by
  cases x with
  | none => rfl
  | some x => simp [ev_congr (x := x) h]
theorem SameOn.left {a b : List Nat} {s s' : AS} (h : SameOn (a ++ b) s s') : SameOn a s s' := fun t ht => h t (by simp [ht])
theorem SameOn.right {a b : List Nat} {s s' : AS} (h : SameOn (a ++ b) s s') : SameOn b s s' := fun t ht => h t (by simp [ht])

theorem evalOp_congr (C : PCtx) (op : AOp) {s s' : AS} (h : SameOn op.reads s s') (hh : s.hs = s'.hs) : evalOp C s op = evalOp C s' op := by
  cases op <;> simp only [AOp.reads] at h <;> simp only [evalOp, ← hh]
  case mv x => rw [ev_congr h]
  case pick c a b => rw [ev_congr h.left, ev_congr h.right.left, ev_congr h.right.right]
  case bin kd op x y => rw [ev_congr h.left, ev_congr h.right]
  case un op x => rw [ev_congr h]
  case conv k x => rw [ev_congr h]
  case boxi x => rw [ev_congr h]
  case boxm x => rw [ev_congr h]
  case build zs ps =>
    have : (ps.map fun p => (p.1, p.2.1, s.ev p.2.2)) = (ps.map fun p => (p.1, p.2.1, s'.ev p.2.2)) := by
      apply List.map_congr_left
      intro p hp
      rw [ev_congr fun t ht => h t (List.mem_flatMap.2 ⟨p, hp, ht⟩)]
    rw [this]
  case buildSl sz xs => rw [evs_congr h]
  case load ag sz x => rw [ev_congr h]
  case store sz x y => rw [ev_congr h.left, ev_congr h.right]
  case faddr ag sz off x => rw [ev_congr h]
  case field ag sz off x => rw [ev_congr h]
  case iaddrS sz x y => rw [ev_congr h.left, ev_congr h.right]
  case iaddrA len ag sz x y => rw [ev_congr h.left, ev_congr h.right]
  case index len ag sz x y => rw [ev_congr h.left, ev_congr h.right]
  case slice sz x lo hi mx => rw [ev_congr h.left, evo_congr h.right.left, evo_congr h.right.right.left, evo_congr h.right.right.right]
  case extract x n => rw [ev_congr h]
  case mkfn f xs ys => rw [evs_congr h.left, evs_congr h.right]
  case len st x => rw [ev_congr h]
  case append sz x y => rw [ev_congr h.left, ev_congr h.right]
  case appm sz x y => rw [ev_congr h.left, ev_congr h.right]
  case min x y => rw [ev_congr h.left, ev_congr h.right]
  case max x y => rw [ev_congr h.left, ev_congr h.right]
  case mkif t x => rw [ev_congr h]
  case nilchk x => rw [ev_congr h]
  case pcall f args => rw [evs_congr h]
  case cap x => rw [ev_congr h]
  case mem m xs => rw [evs_congr h]
  case appz sz x y => rw [ev_congr h.left, ev_congr h.right]
  case lcall f args => rw [evs_congr h]
  case make ag sz zs x y => rw [ev_congr h.left, ev_congr h.right]

theorem amem_p {m : MOp} (hm : m.cls = 0) (xs : List AV) (h1 h2 : HS) : amem m h2 xs = (amem m h1 xs).map fun r => (r.1, h2) := by
  cases m <;> simp only [MOp.cls] at hm <;> (try (cases hm; done))
  case min3 =>
    match xs with
    | [x, y, z] => simp [amem, Option.map_map, Function.comp_def]
    | [] => rfl
    | [_] => rfl
    | [_, _] => rfl
    | _ :: _ :: _ :: _ :: _ => rfl
  case max3 =>
    match xs with
    | [x, y, z] => simp [amem, Option.map_map, Function.comp_def]
    | [] => rfl
    | [_] => rfl
    | [_, _] => rfl
    | _ :: _ :: _ :: _ :: _ => rfl
  case glob =>
    match xs with
    | [] => rfl
    | _ :: _ => rfl
  case sidx =>
    match xs with
    | [x, y] => simp [amem, Option.map_map, Function.comp_def]
    | [] => rfl
    | [_] => rfl
    | _ :: _ :: _ :: _ => rfl
  case tass t z =>
    match xs with
    | [x] => simp [amem, Option.map_map, Function.comp_def]
    | [] => rfl
    | _ :: _ :: _ => rfl
  case ssl lo hi =>
    match xs with
    | x :: xs => simp [amem, Option.map_map, Function.comp_def]
    | [] => rfl
  case asl ag sz len lo hi =>
    match xs with
    | x :: xs => simp [amem, Option.map_map, Function.comp_def]
    | [] => rfl
theorem amem_l {m : MOp} (hm : m.cls = 1) (xs : List AV) {h1 h2 : HS} (h : h1.mp = h2.mp) : amem m h2 xs = (amem m h1 xs).map fun r => (r.1, h2) := by
  cases m <;> simp only [MOp.cls] at hm <;> (try (cases hm; done))
  case look kd ck z =>
    match xs with
    | [x, y] => simp [amem, Option.map_map, Function.comp_def, h]
    | [] => rfl
    | [_] => rfl
    | _ :: _ :: _ :: _ => rfl
  case mlen =>
    match xs with
    | [x] => simp [amem, Option.map_map, Function.comp_def, h]
    | [] => rfl
    | _ :: _ :: _ => rfl
theorem evalOp_p (C : PCtx) {op : AOp} (hc : op.cls = 0) (env : Nat → AV) (h1 h2 : HS) : evalOp C ⟨env, h2⟩ op = (evalOp C ⟨env, h1⟩ op).map fun r => (r.1, h2) := by
  have e : ∀ x : AOpd, (⟨env, h2⟩ : AS).ev x = (⟨env, h1⟩ : AS).ev x := fun x => by cases x <;> rfl
  have e2 : ∀ xs : List AOpd, xs.map (⟨env, h2⟩ : AS).ev = xs.map (⟨env, h1⟩ : AS).ev := fun xs => List.map_congr_left fun x _ => e x
  have e3 : ∀ x : Option AOpd, x.map (⟨env, h2⟩ : AS).ev = x.map (⟨env, h1⟩ : AS).ev := fun x => by cases x <;> simp [e]
  by_cases hmem : ∃ m xs, op = .mem m xs
  · obtain ⟨m, xs, rfl⟩ := hmem
    simp only [evalOp, e2]
    exact amem_p hc _ _ _
  have hmem' : ∀ m xs, op ≠ .mem m xs := fun m xs h => hmem ⟨m, xs, h⟩
  cases op <;> (try (exact absurd rfl (hmem' _ _))) <;> simp only [AOp.cls] at hc <;> (try (cases hc; done)) <;> simp only [evalOp, e, e2, e3, Option.map_map, Option.map_some, Function.comp_def] <;> (try (split <;> rfl)) <;> (try rfl)

/-- the outcome of a step that is no call with memory and no panic -/
def resI (C : PCtx) (s : AS) (o : AI) : Option (AV × HS) := if s.want o.g = true then evalOp C s o.op else some (.undef, s.hs)
def AI.spec (o : AI) : Bool := special o.op

theorem want_congr {g : Option (Nat × Bool)} {s s' : AS} (h : SameOn (match g with | none => [] | some (t, _) => [t]) s s') : s.want g = s'.want g := by
  cases g with
  | none => rfl
  | some tb => simp only [AS.want]; rw [h tb.1 (by simp)]
theorem resI_congr (C : PCtx) (o : AI) {s s' : AS} (h : SameOn o.reads s s') (hh : s.hs = s'.hs) : resI C s o = resI C s' o := by
  unfold resI
  rw [want_congr (s' := s') (h.left), evalOp_congr C o.op h.right hh, hh]
theorem resI_p (C : PCtx) {o : AI} (hc : o.op.cls = 0) (env : Nat → AV) (h1 h2 : HS) : resI C ⟨env, h2⟩ o = (resI C ⟨env, h1⟩ o).map fun r => (r.1, h2) := by
  unfold resI
  rw [want_congr (s := ⟨env, h2⟩) (s' := ⟨env, h1⟩) (fun _ _ => rfl)]
  split
  · exact evalOp_p C hc env h1 h2
  · rfl

theorem opW_det {P : Program} {C : PCtx} {dst : Option Nat} {op : AOp} {K : AS → Prop} {Q : AEx → AS → Prop} {s : AS} (h : special op = false) : opW P C dst op K Q s = optK (evalOp C s op) fun r => K ((⟨s.env, r.2⟩ : AS).put dst r.1) := by
  cases op <;> first | rfl | (simp [special] at h)
theorem aiW_det {P : Program} {C : PCtx} {o : AI} {K : AS → Prop} {Q : AEx → AS → Prop} {s : AS} (h : o.spec = false) : aiW P C o K Q s ↔ ∃ r, resI C s o = some r ∧ K ((⟨s.env, r.2⟩ : AS).put o.dst r.1) := by
  unfold aiW condP resI
  split
  · rw [opW_det h]
    cases evalOp C s o.op with
    | none => simp [optK]
    | some r => simp [optK]
  · simp

theorem put_comm (env : Nat → AV) (h : HS) {d1 d2 : Option Nat} (hd : ∀ d, d1 = some d → d2 ≠ some d) (x1 x2 : AV) (h1 h2 : HS) :
    (⟨((⟨env, h1⟩ : AS).put d1 x1).env, h⟩ : AS).put d2 x2 = (⟨((⟨env, h2⟩ : AS).put d2 x2).env, h⟩ : AS).put d1 x1 := by
  cases d1 with
  | none => cases d2 <;> rfl
  | some a =>
    cases d2 with
    | none => rfl
    | some b =>
      have hne : b ≠ a := fun e => hd a rfl (by rw [e])
      simp only [AS.put]
      congr 1
      funext i
      by_cases h1 : i = a
      · by_cases h2 : i = b
        · exact absurd (h2.symm.trans h1) hne
        · subst h1; simp [h2]
      · by_cases h2 : i = b
        · subst h2; simp [h1]
        · simp [h1, h2]
theorem put_hs (s : AS) (d : Option Nat) (x : AV) : (s.put d x).hs = s.hs := by cases d <;> rfl
theorem put_same {l : List Nat} {s : AS} {d : Option Nat} {x : AV} {h : HS} (hd : ∀ t, d = some t → t ∉ l) : SameOn l ((⟨s.env, h⟩ : AS).put d x) s := by
  intro t ht
  cases d with
  | none => rfl
  | some d =>
    simp only [AS.put]
    rw [if_neg]
    intro e
    exact hd d rfl (e ▸ ht)
theorem put_eta (s : AS) (d : Option Nat) (x : AV) : s.put d x = (⟨s.env, s.hs⟩ : AS).put d x := rfl

/-- j and i do not meet -/
def apartI (j i : AI) : Bool :=
  (match j.dst with | none => true | some d => !(i.reads.contains d) && i.dst != some d) &&
  (match i.dst with | none => true | some d => !(j.reads.contains d))
def AOp.fresh : AOp → Bool
  | .alloc _ | .boxm _ | .make .. => true
  | _ => false
def AOp.isLoad : AOp → Bool
  | .load .. => true
  | _ => false
def quietPair (j i : AI) : Bool := (j.op.isLoad && i.op.fresh) || i.op.cls == 0 || j.op.cls == 0 || (i.op.cls ≤ 2 && j.op.cls ≤ 2 && (i.op.cls == 1 || j.op.cls == 1))
theorem apartI_spec {j i : AI} (h : apartI j i = true) : (∀ d, j.dst = some d → d ∉ i.reads) ∧ (∀ d, j.dst = some d → i.dst ≠ some d) ∧ (∀ d, i.dst = some d → d ∉ j.reads) := by
  unfold apartI at h
  simp only [Bool.and_eq_true] at h
  obtain ⟨h1, h2⟩ := h
  refine ⟨fun d hd => ?_, fun d hd => ?_, fun d hd => ?_⟩
  · rw [hd] at h1
    simp only [Bool.and_eq_true, Bool.not_eq_true', bne_iff_ne, ne_eq] at h1
    intro hm
    have := List.contains_iff_mem.2 hm
    rw [this] at h1; exact absurd h1.1 (by simp)
  · rw [hd] at h1
    simp only [Bool.and_eq_true, Bool.not_eq_true', bne_iff_ne, ne_eq] at h1
    exact h1.2
  · rw [hd] at h2
    simp only [Bool.not_eq_true'] at h2
    intro hm
    have := List.contains_iff_mem.2 hm
    rw [this] at h2; exact absurd h2 (by simp)

theorem cls_spec {o : AI} (h : o.op.cls ≤ 2) : o.spec = false := by
  obtain ⟨d, g, op⟩ := o
  cases op <;> first | rfl | (simp [AOp.cls] at h)

/-- an operation of class 0 that is done already: what comes before it in the text goes on as it did -/
theorem aiW_put {P : Program} {C : PCtx} {i j : AI} (hap : apartI j i = true) (hi : i.op.cls = 0) {K K' : AS → Prop} {Q : AEx → AS → Prop} (hQ : ∀ x s, ¬ Q (.panic x) s) {s : AS} {xi : AV}
    (h : aiW P C j K Q s) (hk : ∀ s1, SameOn i.reads s1 s → K s1 → K' (s1.put i.dst xi)) : aiW P C j K' Q (s.put i.dst xi) := by
  obtain ⟨a1, a2, a3⟩ := apartI_spec hap
  have hsame : SameOn j.reads (s.put i.dst xi) s := put_same (h := s.hs) a3
  unfold aiW condP at h ⊢
  rw [want_congr (s' := s) hsame.left]
  have comm : ∀ (x : AV) (hs' : HS), (⟨(s.put i.dst xi).env, hs'⟩ : AS).put j.dst x = ((⟨s.env, hs'⟩ : AS).put j.dst x).put i.dst xi := by
    intro x hs'
    have := put_comm s.env hs' (d1 := i.dst) (d2 := j.dst) (fun d h1 h2 => a2 d h2 h1) xi x s.hs hs'
    rw [put_eta ((⟨s.env, hs'⟩ : AS).put j.dst x), put_hs]
    exact this
  have stay : ∀ (x : AV) (hs' : HS), SameOn i.reads ((⟨s.env, hs'⟩ : AS).put j.dst x) s := fun x hs' => put_same a1
  have call : ∀ f args, hcW P f args j.dst K Q s → hcW P f args j.dst K' Q (s.put i.dst xi) := by
    intro f args hc
    unfold hcW at hc ⊢
    rw [put_hs]
    refine hc.mono fun e hs' he => ?_
    cases e with
    | ret v => simp only at he ⊢; rw [comm]; exact hk _ (stay _ _) he
    | panic v => exact (hQ _ _ he).elim
  split at h
  · rename_i hw
    rw [if_pos hw]
    by_cases hsp : special j.op = true
    · obtain ⟨jd, jg, jop⟩ := j
      cases jop <;> simp only [special] at hsp <;> (try (cases hsp; done))
      case hcall f args =>
        simp only [opW] at h ⊢
        have hr : SameOn (lReads args) (s.put i.dst xi) s := hsame.right
        rw [evs_congr hr]
        exact call _ _ h
      case callv x args =>
        simp only [opW] at h ⊢
        have hr : SameOn (x.reads ++ lReads args) (s.put i.dst xi) s := hsame.right
        rw [evs_congr (SameOn.right hr), ev_congr (SameOn.left hr)]
        unfold cvW at h ⊢
        split at h <;> (try (exact h.elim))
        exact call _ _ h
      case invk ms x args =>
        simp only [opW] at h ⊢
        have hr : SameOn (x.reads ++ lReads args) (s.put i.dst xi) s := hsame.right
        rw [evs_congr (SameOn.right hr), ev_congr (SameOn.left hr)]
        unfold ivW at h ⊢
        split at h <;> (try (exact h.elim))
        exact call _ _ h
      case panic x =>
        simp only [opW] at h ⊢
        unfold pnW at h
        split at h
        · exact (hQ _ _ h).elim
        · exact h.elim
    · have hsp' : special j.op = false := by simpa using hsp
      rw [opW_det hsp'] at h ⊢
      rw [evalOp_congr C j.op hsame.right (put_hs _ _ _)]
      cases he : evalOp C s j.op with
      | none => rw [he] at h; exact h.elim
      | some r => rw [he] at h; simp only [optK] at h ⊢; rw [comm]; exact hk _ (stay _ _) h
  · rename_i hw
    rw [if_neg hw]
    have := comm .undef s.hs
    rw [put_eta (s.put i.dst xi), put_hs, this]
    exact hk _ (stay _ _) h

theorem move_p {P : Program} {C : PCtx} {i : AI} (hi : i.op.cls = 0) {Q : AEx → AS → Prop} (hQ : ∀ x s, ¬ Q (.panic x) s) {post : List AI} {xi : AV} :
    ∀ (pre : List AI) (s : AS), (∀ j ∈ pre, apartI j i = true) → resI C s i = some (xi, s.hs) → runW P C (pre ++ i :: post) Q s → runW P C (pre ++ post) Q (s.put i.dst xi)
  | [], s, _, hr, h => by
    simp only [List.nil_append, runW] at h ⊢
    obtain ⟨r, h1, h2⟩ := (aiW_det (cls_spec (by omega))).1 h
    rw [hr] at h1
    injection h1 with h1; subst h1
    exact h2
  | j :: pre, s, hap, hr, h => by
    simp only [List.cons_append, runW] at h ⊢
    refine aiW_put (hap j (by simp)) hi hQ h fun s1 hs1 h1 => ?_
    refine move_p hi hQ pre s1 (fun k hk => hap k (by simp [hk])) ?_ h1
    have : resI C ⟨s1.env, s.hs⟩ i = some (xi, s.hs) := by rw [← hr]; exact resI_congr C i hs1 rfl
    have h2 := resI_p C hi s1.env s.hs s1.hs
    rw [this] at h2
    exact h2

/-- two neighbours change places: the first is no call -/
theorem swap_det {P : Program} {C : PCtx} {j i : AI} (hap : apartI j i = true) (hj : j.spec = false) (hq : j.op.cls = 0 ∨ (i.op.cls ≤ 2 ∧ j.op.cls ≤ 2 ∧ (i.op.cls = 1 ∨ j.op.cls = 1))) {K : AS → Prop} {Q : AEx → AS → Prop} (hQ : ∀ x s, ¬ Q (.panic x) s) {s : AS}
    (h : aiW P C j (aiW P C i K Q) Q s) : aiW P C i (aiW P C j K Q) Q s := by
  obtain ⟨a1, a2, a3⟩ := apartI_spec hap
  obtain ⟨⟨xj, hj'⟩, h1, h2⟩ := (aiW_det hj).1 h
  have comm : ∀ (xi : AV) (ha hb hc : HS), (⟨((⟨s.env, ha⟩ : AS).put j.dst xj).env, hc⟩ : AS).put i.dst xi = (⟨((⟨s.env, hb⟩ : AS).put i.dst xi).env, hc⟩ : AS).put j.dst xj := fun xi ha hb hc =>
    put_comm s.env hc (fun d h1 h2 => a2 d h1 h2) xj xi ha hb
  have same_i : ∀ hs' : HS, SameOn i.reads ((⟨s.env, hs'⟩ : AS).put j.dst xj) s := fun hs' => put_same a1
  have same_j : ∀ (hs' : HS) (xi : AV), SameOn j.reads ((⟨s.env, hs'⟩ : AS).put i.dst xi) s := fun hs' xi => put_same a3
  rcases hq with hq | ⟨q1, q2, q3⟩
  · -- j hangs on its operands alone
    have hjs : hj' = s.hs := by
      have := resI_p C hq s.env s.hs s.hs
      rw [show (⟨s.env, s.hs⟩ : AS) = s from rfl, h1] at this
      simpa using this
    subst hjs
    have again : ∀ (xi : AV) (hs' : HS), resI C ((⟨s.env, hs'⟩ : AS).put i.dst xi) j = some (xj, hs') := by
      intro xi hs'
      have e1 := resI_congr C j (s := ⟨((⟨s.env, hs'⟩ : AS).put i.dst xi).env, s.hs⟩) (s' := s) (same_j hs' xi) rfl
      have e2 := resI_p C hq ((⟨s.env, hs'⟩ : AS).put i.dst xi).env s.hs hs'
      rw [e1, h1] at e2
      have e3 : (⟨((⟨s.env, hs'⟩ : AS).put i.dst xi).env, hs'⟩ : AS) = (⟨s.env, hs'⟩ : AS).put i.dst xi := by cases i.dst <;> rfl
      rw [e3] at e2
      simpa using e2
    have fin : ∀ (xi : AV) (hs' : HS), K ((⟨((⟨s.env, s.hs⟩ : AS).put j.dst xj).env, hs'⟩ : AS).put i.dst xi) → aiW P C j K Q ((⟨s.env, hs'⟩ : AS).put i.dst xi) := by
      intro xi hs' hk
      refine (aiW_det hj).2 ⟨_, again xi hs', ?_⟩
      rw [comm xi s.hs hs' hs'] at hk
      exact hk
    by_cases hsp : i.spec = true
    · unfold aiW condP at h2 ⊢
      rw [want_congr (s' := s) (same_i _).left] at h2
      have call : ∀ f args, hcW P f args i.dst K Q ((⟨s.env, s.hs⟩ : AS).put j.dst xj) → hcW P f args i.dst (aiW P C j K Q) Q s := by
        intro f args hc
        unfold hcW at hc ⊢
        rw [put_hs] at hc
        refine hc.mono fun e hs' he => ?_
        cases e with
        | ret v => exact fin v hs' he
        | panic v => exact (hQ _ _ he).elim
      split at h2
      · rename_i hw
        rw [if_pos hw]
        have hsm := same_i s.hs
        obtain ⟨jd, jg, jop⟩ := i
        cases jop <;> simp only [AI.spec, special] at hsp <;> (try (cases hsp; done))
        case hcall f args =>
          simp only [opW] at h2 ⊢
          have hr : SameOn (lReads args) ((⟨s.env, s.hs⟩ : AS).put j.dst xj) s := hsm.right
          rw [evs_congr hr] at h2
          exact call _ _ h2
        case callv x args =>
          simp only [opW] at h2 ⊢
          have hr : SameOn (x.reads ++ lReads args) ((⟨s.env, s.hs⟩ : AS).put j.dst xj) s := hsm.right
          rw [evs_congr (SameOn.right hr), ev_congr (SameOn.left hr)] at h2
          unfold cvW at h2 ⊢
          split at h2 <;> (try (exact h2.elim))
          exact call _ _ h2
        case invk ms x args =>
          simp only [opW] at h2 ⊢
          have hr : SameOn (x.reads ++ lReads args) ((⟨s.env, s.hs⟩ : AS).put j.dst xj) s := hsm.right
          rw [evs_congr (SameOn.right hr), ev_congr (SameOn.left hr)] at h2
          unfold ivW at h2 ⊢
          split at h2 <;> (try (exact h2.elim))
          exact call _ _ h2
        case panic x =>
          simp only [opW] at h2
          unfold pnW at h2
          split at h2
          · exact (hQ _ _ h2).elim
          · exact h2.elim
      · rename_i hw
        rw [if_neg hw]
        refine fin .undef s.hs ?_
        rw [put_eta ((⟨s.env, s.hs⟩ : AS).put j.dst xj), put_hs] at h2
        exact h2
    · have hsp' : i.spec = false := by simpa using hsp
      obtain ⟨⟨xi, hi'⟩, g1, g2⟩ := (aiW_det hsp').1 h2
      refine (aiW_det hsp').2 ⟨(xi, hi'), ?_, fin xi hi' g2⟩
      rw [← g1]
      exact (resI_congr C i (same_i s.hs) (put_hs _ _ _)).symm
  · -- a load beside a load or an append
    have hsp' : i.spec = false := cls_spec q1
    obtain ⟨⟨xi, hi'⟩, g1, g2⟩ := (aiW_det hsp').1 h2
    have loadw : ∀ (o : AI), o.op.cls = 1 → ∀ (env : Nat → AV) (ha hb : HS), ha.heap = hb.heap ∧ ha.mp = hb.mp → resI C ⟨env, hb⟩ o = (resI C ⟨env, ha⟩ o).map fun r => (r.1, hb) := by
      intro o ho env ha hb hh
      obtain ⟨d, g, op⟩ := o
      cases op <;> simp only [AOp.cls] at ho <;> (try (cases ho; done))
      case mem m xs =>
        unfold resI
        rw [want_congr (s := ⟨env, hb⟩) (s' := ⟨env, ha⟩) (fun _ _ => rfl)]
        split
        · have : xs.map (⟨env, hb⟩ : AS).ev = xs.map (⟨env, ha⟩ : AS).ev := List.map_congr_left fun x _ => by cases x <;> rfl
          simp only [evalOp, this]
          exact amem_l ho _ hh.2
        · rfl
      case load ag sz x =>
        unfold resI
        rw [want_congr (s := ⟨env, hb⟩) (s' := ⟨env, ha⟩) (fun _ _ => rfl)]
        split
        · have : (⟨env, hb⟩ : AS).ev x = (⟨env, ha⟩ : AS).ev x := by cases x <;> rfl
          simp only [evalOp, Option.map_map, Function.comp_def, this, hh.1]
        · rfl
      case lcall f args =>
        unfold resI
        rw [want_congr (s := ⟨env, hb⟩) (s' := ⟨env, ha⟩) (fun _ _ => rfl)]
        split
        · have : args.map (⟨env, hb⟩ : AS).ev = args.map (⟨env, ha⟩ : AS).ev := List.map_congr_left fun x _ => by cases x <;> rfl
          simp only [evalOp, alcall, Option.map_map, Function.comp_def, this, hh.1]
        · rfl
    have appw : ∀ (o : AI) (s0 : AS) (r : AV × HS), o.op.cls = 2 → resI C s0 o = some r → r.2.heap = s0.hs.heap ∧ r.2.mp = s0.hs.mp := by
      intro o s0 r ho hr
      obtain ⟨d, g, op⟩ := o
      cases op <;> simp only [AOp.cls] at ho <;> (try (cases ho; done))
      case mem m xs => exact absurd ho (by cases m <;> simp [MOp.cls])
      unfold resI at hr
      split at hr
      · simp only [evalOp, aappend] at hr
        split at hr <;> (try (cases hr; done))
        split at hr <;> (try (cases hr; done))
        split at hr
        · injection hr with hr; subst hr; exact ⟨rfl, rfl⟩
        · split at hr <;> (try (cases hr; done)) <;> first
            | (injection hr with hr; subst hr; exact ⟨rfl, rfl⟩)
            | (split at hr <;> (try (cases hr; done)); injection hr with hr; subst hr; exact ⟨rfl, rfl⟩)
      · injection hr with hr; subst hr; exact ⟨rfl, rfl⟩
    have ecl : ∀ o : AI, o.op.cls ≤ 2 → o.op.cls = 0 ∨ o.op.cls = 1 ∨ o.op.cls = 2 := fun o h => by omega
    -- memory after one of them: its heap is as it was
    have hjh : hj'.heap = s.hs.heap ∧ hj'.mp = s.hs.mp := by
      rcases ecl j q2 with c0 | c1 | c2
      · have := resI_p C c0 s.env s.hs s.hs
        rw [show (⟨s.env, s.hs⟩ : AS) = s from rfl, h1] at this
        have : hj' = s.hs := by simpa using this
        rw [this]; exact ⟨rfl, rfl⟩
      · have := loadw j c1 s.env s.hs s.hs ⟨rfl, rfl⟩
        rw [show (⟨s.env, s.hs⟩ : AS) = s from rfl, h1] at this
        have : hj' = s.hs := by simpa using this
        rw [this]; exact ⟨rfl, rfl⟩
      · exact appw j s _ c2 h1
    rcases q3 with q3 | q3
    · -- i is a load
      have e0 : (⟨s.env, hj'⟩ : AS).put j.dst xj = ⟨((⟨s.env, hj'⟩ : AS).put j.dst xj).env, hj'⟩ := by cases j.dst <;> rfl
      have e1 := resI_congr C i (s := (⟨s.env, hj'⟩ : AS).put j.dst xj) (s' := ⟨s.env, hj'⟩) (fun t ht => same_i hj' t ht) (put_hs _ _ _)
      rw [g1] at e1
      have e2 := loadw i q3 s.env hj' s.hs hjh
      rw [← e1] at e2
      have hih : hi' = hj' := by
        have := loadw i q3 s.env hj' hj' ⟨rfl, rfl⟩
        rw [← e1] at this
        simpa using this
      refine (aiW_det hsp').2 ⟨(xi, s.hs), by simpa using e2, ?_⟩
      refine (aiW_det hj).2 ⟨(xj, hj'), ?_, ?_⟩
      · rw [← h1]
        exact resI_congr C j (same_j s.hs xi) (put_hs _ _ _)
      · rw [hih] at g2
        have := comm xi hj' s.hs hj'
        rw [this] at g2
        exact g2
    · -- j is a load
      have hjs : hj' = s.hs := by
        have := loadw j q3 s.env s.hs s.hs ⟨rfl, rfl⟩
        rw [show (⟨s.env, s.hs⟩ : AS) = s from rfl, h1] at this
        simpa using this
      subst hjs
      have e1 := resI_congr C i (same_i s.hs) (put_hs _ _ _)
      rw [g1] at e1
      have hih : hi'.heap = s.hs.heap ∧ hi'.mp = s.hs.mp := by
        rcases ecl i q1 with c0 | c1 | c2
        · have := resI_p C c0 s.env s.hs s.hs
          rw [show (⟨s.env, s.hs⟩ : AS) = s from rfl, ← e1] at this
          have : hi' = s.hs := by simpa using this
          rw [this]; exact ⟨rfl, rfl⟩
        · have := loadw i c1 s.env s.hs s.hs ⟨rfl, rfl⟩
          rw [show (⟨s.env, s.hs⟩ : AS) = s from rfl, ← e1] at this
          have : hi' = s.hs := by simpa using this
          rw [this]; exact ⟨rfl, rfl⟩
        · exact appw i s _ c2 e1.symm
      refine (aiW_det hsp').2 ⟨(xi, hi'), e1.symm, ?_⟩
      refine (aiW_det hj).2 ⟨(xj, hi'), ?_, ?_⟩
      · have e3 : (⟨s.env, hi'⟩ : AS).put i.dst xi = ⟨((⟨s.env, hi'⟩ : AS).put i.dst xi).env, hi'⟩ := by cases i.dst <;> rfl
        have e4 := loadw j q3 ((⟨s.env, hi'⟩ : AS).put i.dst xi).env s.hs hi' ⟨hih.1.symm, hih.2.symm⟩
        have e5 := resI_congr C j (s := ⟨((⟨s.env, hi'⟩ : AS).put i.dst xi).env, s.hs⟩) (s' := s) (same_j hi' xi) rfl
        rw [e5, h1] at e4
        rw [e3]
        simpa using e4
      · have := comm xi s.hs hi' hi'
        rw [this] at g2
        exact g2
/-- nothing lies beyond what has been laid -/
def HS.wf (hs : HS) : Prop := ∀ k, hs.nh ≤ k → hs.heap k = none
theorem fresh_spec {o : AI} (h : o.op.fresh = true) : o.spec = false := by
  obtain ⟨d, g, op⟩ := o
  cases op <;> first | rfl | (simp [AOp.fresh] at h)
theorem load_spec {o : AI} (h : o.op.isLoad = true) : o.spec = false := by
  obtain ⟨d, g, op⟩ := o
  cases op <;> first | rfl | (simp [AOp.isLoad] at h)
theorem amake_heap {ag : Bool} {sz : Nat} {zs : List AV} {hs : HS} {x y : AV} {r : AV × HS} (h : amake ag sz zs hs x y = some r) : (∀ k, k ≠ hs.nh → r.2.heap k = hs.heap k) ∧ (r.2.heap = hs.heap ∧ r.2.nh = hs.nh ∨ r.2.nh = hs.nh + 1) := by
  unfold amake at h
  split at h <;> (try (cases h; done))
  split at h <;> (try (cases h; done))
  split at h
  · injection h with h; subst h
    exact ⟨fun k hk => by simp [hk], .inr rfl⟩
  · split at h <;> (try (cases h; done))
    injection h with h; subst h
    exact ⟨fun k hk => rfl, .inl ⟨rfl, rfl⟩⟩
theorem fresh_heap {C : PCtx} {s : AS} {o : AI} {r : AV × HS} (hf : o.op.fresh = true) (h : resI C s o = some r) : (∀ k, k ≠ s.hs.nh → r.2.heap k = s.hs.heap k) ∧ (r.2.heap = s.hs.heap ∧ r.2.nh = s.hs.nh ∨ r.2.nh = s.hs.nh + 1) := by
  obtain ⟨d, g, op⟩ := o
  unfold resI at h
  split at h
  · cases op <;> simp only [AOp.fresh] at hf <;> (try (cases hf; done)) <;> simp only [evalOp] at h
    · injection h with h; subst h
      exact ⟨fun k hk => by simp [hk], .inr rfl⟩
    · exact amake_heap h
    · split at h <;> (try (cases h; done))
      injection h with h; subst h
      exact ⟨fun k hk => by simp [hk], .inr rfl⟩
  · injection h with h; subst h
    exact ⟨fun _ _ => rfl, .inl ⟨rfl, rfl⟩⟩
theorem load_same {C : PCtx} {s : AS} {o : AI} {r : AV × HS} (hf : o.op.isLoad = true) (h : resI C s o = some r) : r.2 = s.hs := by
  obtain ⟨d, g, op⟩ := o
  unfold resI at h
  split at h
  · cases op <;> simp only [AOp.isLoad] at hf <;> (try (cases hf; done)) <;> simp only [evalOp] at h
    obtain ⟨y, hy, e⟩ := Option.map_eq_some_iff.1 h
    subst e; rfl
  · injection h with h; subst h; rfl
theorem quiet_same {C : PCtx} {s : AS} {o : AI} {r : AV × HS} (hf : o.op.cls = 0) (h : resI C s o = some r) : r.2 = s.hs := by
  have := resI_p C hf s.env s.hs s.hs
  rw [show (⟨s.env, s.hs⟩ : AS) = s from rfl, h] at this
  simp only [Option.map_some, Option.some.injEq] at this
  rw [this]
theorem swap_lf {P : Program} {C : PCtx} {j i : AI} (hap : apartI j i = true) (hj : j.op.isLoad = true) (hi : i.op.fresh = true) {K : AS → Prop} {Q : AEx → AS → Prop} {s : AS} (hwf : s.hs.heap s.hs.nh = none)
    (h : aiW P C j (aiW P C i K Q) Q s) : aiW P C i (aiW P C j K Q) Q s := by
  obtain ⟨a1, a2, a3⟩ := apartI_spec hap
  obtain ⟨⟨xj, hj'⟩, h1, h2⟩ := (aiW_det (load_spec hj)).1 h
  obtain ⟨⟨xi, hi'⟩, g1, g2⟩ := (aiW_det (fresh_spec hi)).1 h2
  have hld : hj' = s.hs ∧ ∀ (env : Nat → AV) (hs2 : HS), SameOn j.reads ⟨env, hs2⟩ s → (∀ k ys, s.hs.heap k = some ys → hs2.heap k = some ys) → resI C ⟨env, hs2⟩ j = some (xj, hs2) := by
    obtain ⟨d, g, op⟩ := j
    cases op <;> simp only [AOp.isLoad] at hj <;> (try (cases hj; done))
    rename_i ag sz x
    unfold resI at h1 ⊢
    have hw : ∀ (env : Nat → AV) (hs2 : HS), SameOn (AI.reads ⟨d, g, .load ag sz x⟩) ⟨env, hs2⟩ s → (⟨env, hs2⟩ : AS).want g = s.want g := fun env hs2 hsm => want_congr hsm.left
    split at h1
    · rename_i hwant
      simp only [evalOp] at h1
      obtain ⟨y, hy, e⟩ := Option.map_eq_some_iff.1 h1
      simp only [Prod.mk.injEq] at e
      obtain ⟨rfl, rfl⟩ := e
      refine ⟨rfl, fun env hs2 hsm hmono => ?_⟩
      simp only at hwant ⊢
      rw [hw env hs2 hsm, if_pos hwant]
      have hx : (⟨env, hs2⟩ : AS).ev x = s.ev x := ev_congr (hsm.right)
      simp only [evalOp, hx]
      have : aload hs2.heap ag sz (s.ev x) = some y := by
        generalize s.ev x = z at hy ⊢
        cases z <;> simp only [aload] at hy ⊢ <;> (try (cases hy; done)) <;> (try exact hy)
        rename_i k off
        cases hk : s.hs.heap k with
        | none => rw [hk] at hy; cases hy
        | some ys => rw [hk] at hy; rw [hmono k ys hk]; exact hy
      rw [this]; rfl
    · rename_i hwant
      injection h1 with h1
      injection h1 with e1 e2
      subst e1; subst e2
      refine ⟨rfl, fun env hs2 hsm hmono => ?_⟩
      simp only at hwant ⊢
      rw [hw env hs2 hsm, if_neg hwant]
  obtain ⟨rfl, hld⟩ := hld
  have same_i : SameOn i.reads ((⟨s.env, s.hs⟩ : AS).put j.dst xj) s := put_same a1
  have e1 := resI_congr C i same_i (put_hs _ _ _)
  rw [g1] at e1
  have hfr := fresh_heap hi e1.symm
  refine (aiW_det (fresh_spec hi)).2 ⟨(xi, hi'), e1.symm, ?_⟩
  refine (aiW_det (load_spec hj)).2 ⟨(xj, hi'), ?_, ?_⟩
  · have := hld ((⟨s.env, hi'⟩ : AS).put i.dst xi).env hi' (fun t ht => put_same (h := hi') a3 t ht) (fun k ys hk => by
      rw [hfr.1 k (fun e => by subst e; rw [hwf] at hk; cases hk)]; exact hk)
    have e3 : (⟨((⟨s.env, hi'⟩ : AS).put i.dst xi).env, hi'⟩ : AS) = (⟨s.env, hi'⟩ : AS).put i.dst xi := by cases i.dst <;> rfl
    rw [e3] at this
    exact this
  · have := put_comm s.env hi' (d1 := j.dst) (d2 := i.dst) (fun d h1 h2 => a2 d h1 h2) xj xi s.hs hi'
    have e4 : (⟨((⟨s.env, s.hs⟩ : AS).put j.dst xj).env, hi'⟩ : AS).put i.dst xi = (⟨((⟨s.env, hi'⟩ : AS).put i.dst xi).env, hi'⟩ : AS).put j.dst xj := this
    rw [← e4]; exact g2
end Fw
set_option linter.unusedVariables false
set_option linter.unusedSimpArgs false
namespace Fw
open Go

/-- what an operation waits for -/
def deps (o : Oper) : List Nat := (o.after.toList.filter (Region.binds .any ·)).map (·.on)
/-- what it waits for, all told: the table up to the i-th -/
def ancs : List (List Nat) → List (List Nat) → List (List Nat)
  | acc, [] => acc
  | acc, d :: ds => ancs (acc ++ [(d ++ d.flatMap (acc.getD · [])).eraseDups]) ds
def ancTab (ops : Array Oper) : List (List Nat) := ancs [] (ops.toList.map deps)
def depsOk : Nat → List (List Nat) → Bool
  | _, [] => true
  | i, d :: ds => d.all (· < i) && depsOk (i + 1) ds
def pairsOk (tab : List (List Nat)) (xs : List AI) : Bool :=
  xs.zipIdx.all fun p => (xs.zipIdx.take p.2).all fun q => (tab.getD p.2 []).contains q.2 || (apartI q.1 p.1 && quietPair q.1 p.1)
def orderOk (ops : Array Oper) (xs : List AI) : Bool := depsOk 0 (ops.toList.map deps) && pairsOk (ancTab ops) xs

/-- closed under waiting -/
def Closed (ds : List (List Nat)) (S : Nat → Prop) : Prop := ∀ (i : Nat) (d : List Nat), S i → ds[i]? = some d → ∀ k ∈ d, S k

theorem ancs_spec (S : Nat → Prop) : ∀ (rest acc done : List (List Nat)), acc.length = done.length → Closed (done ++ rest) S →
    (∀ (i : Nat) (a d : List Nat), acc[i]? = some a → done[i]? = some d → (∀ k ∈ d, S k) → ∀ k ∈ a, S k) →
    ∀ (i : Nat) (a d : List Nat), (ancs acc rest)[i]? = some a → (done ++ rest)[i]? = some d → (∀ k ∈ d, S k) → ∀ k ∈ a, S k
  | [], acc, done, hl, hc, h, i, a, d, ha, hd, hk => by
    simp only [ancs] at ha
    simp only [List.append_nil] at hd
    exact h i a d ha hd hk
  | r :: rest, acc, done, hl, hc, h, i, a, d, ha, hd, hk => by
    simp only [ancs] at ha
    have e : done ++ r :: rest = (done ++ [r]) ++ rest := by simp
    refine ancs_spec S rest _ (done ++ [r]) (by simp [hl]) (by rw [← e]; exact hc) ?_ i a d ha (by rw [← e]; exact hd) hk
    intro i' a' d' ha' hd' hk' k hkm
    rw [List.getElem?_append] at ha' hd'
    by_cases hlt : i' < acc.length
    · rw [if_pos hlt] at ha'
      rw [if_pos (hl ▸ hlt)] at hd'
      exact h i' a' d' ha' hd' hk' k hkm
    · rw [if_neg hlt] at ha'
      rw [if_neg (hl ▸ hlt)] at hd'
      have hi' : i' - acc.length = 0 := by
        rcases Nat.eq_zero_or_pos (i' - acc.length) with h0 | h0
        · exact h0
        · rw [List.getElem?_eq_none (by simp only [List.length_cons, List.length_nil]; omega)] at ha'; cases ha'
      rw [hi'] at ha'
      rw [← hl, hi'] at hd'
      simp only [List.getElem?_cons_zero, Option.some.injEq] at ha' hd'
      subst ha'; subst hd'
      rw [List.mem_eraseDups] at hkm
      rcases List.mem_append.1 hkm with hm | hm
      · exact hk' k hm
      · obtain ⟨j, hj, hkj⟩ := List.mem_flatMap.1 hm
        have hSj := hk' j hj
        cases haj : acc[j]? with
        | none => simp [List.getD, haj] at hkj
        | some aj =>
          have hjl : j < acc.length := by
            rcases Nat.lt_or_ge j acc.length with h' | h'
            · exact h'
            · rw [List.getElem?_eq_none h'] at haj; cases haj
          simp [List.getD, haj] at hkj
          have hdj : done[j]? = some done[j] := List.getElem?_eq_getElem (hl ▸ hjl)
          refine h j aj done[j] haj hdj (fun k' hk'' => hc j done[j] hSj ?_ k' hk'') k hkj
          rw [List.getElem?_append_left (hl ▸ hjl)]; exact hdj

theorem wpOp_outcome {P : Program} {ops : Array Oper} {Q : Exit → Act → World → Prop} {i : Nat} {K : Act → World → Prop} {a : Act} {w : World} (h : wpOp P ops Q i K a w) :
    (∃ a' w', K a' w') ∨ (∃ ch a' w', Q (.panic ch) a' w') ∨ (∃ a' w', Q .outgrown a' w') := by
  unfold wpOp at h
  split at h
  · exact .inl ⟨_, _, h⟩
  · split at h
    · rcases h with h | ⟨_, h⟩
      · unfold Oper.wp at h
        rename_i o _ _
        generalize (execOp a.eval o).run P w = r at h
        cases r with
        | ok nx w' =>
          cases nx <;> simp only [Oper.upon] at h <;> (try (exact h.elim)) <;> (try (exact .inl ⟨_, _, h⟩))
          · obtain ⟨e, w'', fr, hR, _⟩ := h []
            cases e with
            | returned v => exact .inl ⟨_, _, hR⟩
            | panicked ch => exact .inr (.inl ⟨_, _, _, hR⟩)
            | outgrown => exact .inr (.inr hR)
          · obtain ⟨v, w'', hR, _⟩ := h default []
            exact .inl ⟨_, _, hR⟩
        | halt x w' =>
          cases x <;> simp only [Oper.upon] at h <;> (try (exact h.elim))
          exact .inr (.inl ⟨_, _, _, h⟩)
      · exact .inr (.inr h)
    · exact .inl ⟨_, _, h⟩

section
variable {P : Program} {C : PCtx} {n : Nat} {muts : List Nat} {pu : List FuncId} {ops : Array Oper} {xs : List AI} {c0 : CM} {w0 : World} {ds : List Deferred}

theorem cvtL_get : ∀ (is : List Nat) (xs : List AI), cvtL P n muts pu ops is = some xs → is.length = xs.length ∧ ∀ (k i : Nat), is[k]? = some i → ∃ o x, ops[i]? = some o ∧ xs[k]? = some x ∧ cvtI P n muts pu ops o = some x
  | [], xs, h => by simp only [cvtL] at h; injection h with h; subst h; exact ⟨rfl, fun k i h => by simp at h⟩
  | i :: is, xs, h => by
    simp only [cvtL] at h
    split at h <;> (try (cases h; done))
    rename_i o ho
    split at h <;> (try (cases h; done))
    rename_i y ys h1 h2
    injection h with h; subst h
    obtain ⟨hl, hg⟩ := cvtL_get is ys h2
    refine ⟨by simp [hl], fun k i' hk => ?_⟩
    cases k with
    | zero => simp at hk; subst hk; exact ⟨o, y, ho, rfl, h1⟩
    | succ k => exact hg k i' (by simpa using hk)

/-- the operations of a list of indices -/
def sel (xs : List AI) (R : List Nat) : List AI := R.filterMap (xs[·]?)

/-- running what stands before an operation of class 0 brings the run to it: its operands are as they were -/
theorem reach_p (hC : CtxOk P C) (hx : ∀ (i : Nat) (x : AI), xs[i]? = some x → ∃ o, ops[i]? = some o ∧ cvtI P n muts pu ops o = some x) {i : AI} {post : List AI} {Q : AEx → AS → Prop} (hQ : ∀ x s, ¬ Q (.panic x) s) :
    ∀ (R : List Nat) (c : CM) (s : AS) (a : Act) (w : World), (∀ j ∈ R, ∃ x, xs[j]? = some x ∧ apartI x i = true) → runW P C (sel xs R ++ i :: post) Q s → St n c0 w0 ds c s a w →
      ∃ s', SameOn i.reads s' s ∧ aiW P C i (runW P C post Q) Q s'
  | [], c, s, a, w, _, h, hs => ⟨s, fun _ _ => rfl, by simpa [sel, runW] using h⟩
  | j :: R, c, s, a, w, hap, h, hs => by
    obtain ⟨x, hxj, hapx⟩ := hap j (by simp)
    obtain ⟨o, ho, hcv⟩ := hx j x hxj
    have hsel : sel xs (j :: R) = x :: sel xs R := by simp [sel, List.filterMap_cons, hxj]
    rw [hsel] at h
    simp only [List.cons_append, runW] at h
    obtain ⟨a1, a2, a3⟩ := apartI_spec hapx
    -- carry 'the operands of i are as they were' through the step
    have h' : aiW P C x (fun s1 => SameOn i.reads s1 s ∧ runW P C (sel xs R ++ i :: post) Q s1) Q s := by
      unfold aiW condP at h ⊢
      have stay : ∀ (v : AV) (hs' : HS), SameOn i.reads ((⟨s.env, hs'⟩ : AS).put x.dst v) s := fun v hs' => put_same a1
      have call : ∀ f args, hcW P f args x.dst (runW P C (sel xs R ++ i :: post) Q) Q s → hcW P f args x.dst (fun s1 => SameOn i.reads s1 s ∧ runW P C (sel xs R ++ i :: post) Q s1) Q s := by
        intro f args hc
        unfold hcW at hc ⊢
        refine hc.mono fun e hs' he => ?_
        cases e with
        | ret v => exact ⟨stay v hs', he⟩
        | panic v => exact he
      split at h
      · rename_i hw
        rw [if_pos hw]
        by_cases hsp : special x.op = true
        · obtain ⟨jd, jg, jop⟩ := x
          cases jop <;> simp only [special] at hsp <;> (try (cases hsp; done))
          case hcall f args => simp only [opW] at h ⊢; exact call _ _ h
          case callv y args =>
            simp only [opW] at h ⊢
            unfold cvW at h ⊢
            split at h <;> (try (exact h.elim))
            exact call _ _ h
          case invk ms y args =>
            simp only [opW] at h ⊢
            unfold ivW at h ⊢
            split at h <;> (try (exact h.elim))
            exact call _ _ h
          case panic y =>
            simp only [opW] at h ⊢
            exact h
        · have hsp' : special x.op = false := by simpa using hsp
          rw [opW_det hsp'] at h ⊢
          cases he : evalOp C s x.op with
          | none => rw [he] at h; exact h.elim
          | some r => rw [he] at h; exact ⟨stay _ _, h⟩
      · rename_i hw
        rw [if_neg hw]
        exact ⟨by rw [put_eta]; exact stay _ _, h⟩
    rcases wpOp_outcome (ai_sound hC ho hcv h' hs) with ⟨a', w', c', s', ⟨hsame, hrun⟩, hs'⟩ | ⟨ch, a', w', ae, c', s', hq, hm, _⟩ | ⟨a', w', ae, c', s', hq, hm, _⟩
    · obtain ⟨s2, h2, h3⟩ := reach_p hC hx hQ R c' s' a' w' (fun k hk => hap k (by simp [hk])) hrun hs'
      exact ⟨s2, fun t ht => (h2 t ht).trans (hsame t ht), h3⟩
    · cases ae <;> simp only [ExM] at hm
      exact (hQ _ _ hq).elim
    · cases ae <;> simp only [ExM] at hm

theorem move_any (hC : CtxOk P C) (hx : ∀ (i : Nat) (x : AI), xs[i]? = some x → ∃ o, ops[i]? = some o ∧ cvtI P n muts pu ops o = some x) {i : AI} {post : List AI} {Q : AEx → AS → Prop} (hQ : ∀ x s, ¬ Q (.panic x) s) {R : List Nat} {c : CM} {s : AS} {a : Act} {w : World}
    (hap : ∀ j ∈ R, ∃ x, xs[j]? = some x ∧ apartI x i = true ∧ quietPair x i = true) (h : runW P C (sel xs R ++ i :: post) Q s) (hs : St n c0 w0 ds c s a w) : aiW P C i (runW P C (sel xs R ++ post) Q) Q s := by
  by_cases hi : i.op.cls = 0
  · obtain ⟨s', h1, h2⟩ := reach_p hC hx hQ R c s a w (fun j hj => let ⟨x, e1, e2, _⟩ := hap j hj; ⟨x, e1, e2⟩) h hs
    obtain ⟨⟨xi, hi'⟩, g1, g2⟩ := (aiW_det (cls_spec (by omega))).1 h2
    have e1 : resI C ⟨s'.env, s'.hs⟩ i = some (xi, hi') := g1
    have e2 := resI_p C hi s'.env s'.hs s.hs
    rw [e1] at e2
    have e3 : resI C s i = some (xi, s.hs) := by
      rw [← resI_congr C i (s := ⟨s'.env, s.hs⟩) (s' := s) h1 rfl, e2]; rfl
    refine (aiW_det (cls_spec (by omega))).2 ⟨_, e3, ?_⟩
    refine move_p hi hQ (sel xs R) s (fun j hj => ?_) e3 h
    obtain ⟨k, hk, hkj⟩ := List.mem_filterMap.1 hj
    obtain ⟨x, e1, e2, _⟩ := hap k hk
    rw [e1] at hkj; injection hkj with hkj; subst hkj; exact e2
  · have hwf : i.op.fresh = true → s.hs.heap s.hs.nh = none := fun _ => by
      cases hh : s.hs.heap s.hs.nh with
      | none => rfl
      | some ys => have h1 := (hs.inv.heap _ _ hh).1; have h2 := hs.inv.nh; omega
    clear hs
    induction R generalizing s with
    | nil => simpa [sel, runW] using h
    | cons j R ih =>
      obtain ⟨x, hxj, hapx, hqx⟩ := hap j (by simp)
      have hsel : sel xs (j :: R) = x :: sel xs R := by simp [sel, List.filterMap_cons, hxj]
      rw [hsel] at h ⊢
      simp only [List.cons_append, runW] at h ⊢
      unfold quietPair at hqx
      simp only [Bool.or_eq_true, Bool.and_eq_true, beq_iff_eq, decide_eq_true_eq] at hqx
      rcases Bool.eq_false_or_eq_true (x.op.isLoad && i.op.fresh) with hlf | hlf
      · simp only [Bool.and_eq_true] at hlf
        refine swap_lf hapx hlf.1 hlf.2 (hwf hlf.2) ?_
        obtain ⟨r, g1, g2⟩ := (aiW_det (load_spec hlf.1)).1 h
        refine (aiW_det (load_spec hlf.1)).2 ⟨r, g1, ih (fun k hk => hap k (by simp [hk])) g2 ?_⟩
        rw [put_hs]
        simp only
        rw [load_same hlf.1 g1]; exact hwf
      have hlf' : ¬ (x.op.isLoad = true ∧ i.op.fresh = true) := by
        intro h2; rw [h2.1, h2.2] at hlf; cases hlf
      have hq' : x.op.cls = 0 ∨ (i.op.cls ≤ 2 ∧ x.op.cls ≤ 2 ∧ (i.op.cls = 1 ∨ x.op.cls = 1)) := by
        rcases hqx with ((h | h) | h) | h
        · exact absurd h hlf'
        · exact absurd h hi
        · exact .inl h
        · exact .inr ⟨h.1.1, h.1.2, h.2⟩
      have hspx : x.spec = false := cls_spec (by rcases hq' with h | h <;> omega)
      refine swap_det hapx hspx hq' hQ ?_
      obtain ⟨r, g1, g2⟩ := (aiW_det hspx).1 h
      refine (aiW_det hspx).2 ⟨r, g1, ih (fun k hk => hap k (by simp [hk])) g2 fun hfr => ?_⟩
      rw [put_hs]
      simp only
      have hxc : x.op.cls = 0 := by
        rcases hq' with h0 | ⟨h1, _, _⟩
        · exact h0
        · exfalso
          revert h1 hfr
          cases i.op <;> simp [AOp.fresh, AOp.cls]
      rw [quiet_same hxc g1]; exact hwf hfr

def readyL (ds : List (List Nat)) (done : List Nat) : List Nat := (List.range ds.length).filter fun i => !done.contains i && (ds.getD i []).all done.contains
def allW : List Nat → (Nat → Prop) → Prop
  | [], _ => True
  | i :: l, f => f i ∧ allW l f
theorem allW_mem {f : Nat → Prop} : ∀ {l : List Nat}, allW l f → ∀ {i}, i ∈ l → f i
  | [], _, i, hi => by cases hi
  | j :: l, h, i, hi => by
    rcases List.mem_cons.1 hi with rfl | hi
    · exact h.1
    · exact allW_mem h.2 hi
def optW (f : AI → Prop) : Option AI → Prop
  | some x => f x
  | none => False
def anyW (P : Program) (C : PCtx) (ds : List (List Nat)) (xs : List AI) : Nat → List Nat → (AEx → AS → Prop) → AS → Prop
  | 0, done, Q, s => readyL ds done = [] ∧ Q .normal s
  | m + 1, done, Q, s => (readyL ds done = [] → Q .normal s) ∧ allW (readyL ds done) fun i => optW (fun x => aiW P C x (anyW P C ds xs m (i :: done) Q) Q s) xs[i]?

/-- only the last operation of a region may call with memory or panic, and it waits for all others -/
def lastOk (ops : Array Oper) (xs : List AI) : Bool :=
  (xs.dropLast.all fun o => !o.spec) && (List.range (xs.length - 1)).all fun j => ((ancTab ops).getD (xs.length - 1) []).contains j

def endQ (P : Program) (C : PCtx) (L : List AI) (Q : AEx → AS → Prop) : AEx → AS → Prop
  | .normal, s => runW P C L Q s
  | _, _ => False
theorem run_app_det {P : Program} {C : PCtx} {L : List AI} {Q : AEx → AS → Prop} : ∀ (A : List AI) (s : AS), (∀ o ∈ A, o.spec = false) → (runW P C (A ++ L) Q s ↔ runW P C A (endQ P C L Q) s)
  | [], s, _ => Iff.rfl
  | o :: A, s, h => by
    simp only [List.cons_append, runW]
    rw [aiW_det (h o (by simp)), aiW_det (h o (by simp))]
    constructor
    · rintro ⟨r, h1, h2⟩; exact ⟨r, h1, (run_app_det A _ (fun o ho => h o (by simp [ho]))).1 h2⟩
    · rintro ⟨r, h1, h2⟩; exact ⟨r, h1, (run_app_det A _ (fun o ho => h o (by simp [ho]))).2 h2⟩

theorem any_sound (hC : CtxOk P C) (hcv : cvtL P n muts pu ops (List.range ops.size) = some xs) (hok : orderOk ops xs = true) {Q : AEx → AS → Prop} (hQ : (∀ x s, ¬ Q (.panic x) s) ∨ lastOk ops xs = true) :
    ∀ (R : List Nat) (listed : Array Bool) (c : CM) (s : AS) (a : Act) (w : World), R.Pairwise (· < ·) → (∀ i, i ∈ R ↔ i < ops.size ∧ listed[i]? = some false) → listed.size = ops.size →
      Closed (ops.toList.map deps) (fun i => i < ops.size ∧ listed[i]? = some true) →
      runW P C (sel xs R) Q s → St n c0 w0 ds c s a w → wpAny P .any ops (QL n c0 w0 ds Q) R.length listed a w := by
  obtain ⟨hlen, hget⟩ := cvtL_get _ _ hcv
  simp only [List.length_range] at hlen
  have hx : ∀ (i : Nat) (x : AI), xs[i]? = some x → ∃ o, ops[i]? = some o ∧ cvtI P n muts pu ops o = some x := by
    intro i x hxi
    have hi : i < ops.size := by
      rw [hlen]
      rcases Nat.lt_or_ge i xs.length with h' | h'
      · exact h'
      · rw [List.getElem?_eq_none h'] at hxi; cases hxi
    obtain ⟨o, x', h1, h2, h3⟩ := hget i i (by simp [hi])
    rw [hxi] at h2; injection h2 with h2; subst h2
    exact ⟨o, h1, h3⟩
  simp only [orderOk, Bool.and_eq_true] at hok
  obtain ⟨hdo, hpo⟩ := hok
  have hdeps : ∀ (l : List (List Nat)) (b : Nat), depsOk b l = true → ∀ (i : Nat) (d : List Nat), l[i]? = some d → ∀ k ∈ d, k < b + i := by
    intro l
    induction l with
    | nil => intro b _ i d h; simp at h
    | cons d l ih =>
      intro b h i d' hi k hk
      simp only [depsOk, Bool.and_eq_true, List.all_eq_true, decide_eq_true_eq] at h
      cases i with
      | zero => simp at hi; subst hi; exact h.1 k hk
      | succ i => have := ih (b + 1) h.2 i d' (by simpa using hi) k hk; omega
  have dep_of : ∀ (i : Nat) (o : Oper), ops[i]? = some o → (ops.toList.map deps)[i]? = some (deps o) := fun i o h => by simp [h]
  have hrd : ∀ (listed : Array Bool) i, i ∈ Region.ready .any ops listed ↔ (listed.getD i true = false ∧ ∃ o, ops[i]? = some o ∧ ∀ k ∈ deps o, listed.getD k false = true) := by
    intro listed i
    simp only [Region.ready, List.mem_filter, List.mem_range, Bool.and_eq_true, Bool.not_eq_true']
    constructor
    · rintro ⟨h1, h2, h3⟩
      refine ⟨h2, ?_⟩
      rw [Array.getElem?_eq_getElem h1] at h3 ⊢
      simp only [Option.map_some, Option.getD_some, Array.all_eq_true_iff_forall_mem] at h3
      refine ⟨_, rfl, fun k hk => ?_⟩
      obtain ⟨e, he, hek⟩ := List.mem_map.1 hk
      obtain ⟨he1, he2⟩ := List.mem_filter.1 he
      have := h3 e (by simpa using he1)
      rw [he2] at this
      subst hek
      simpa using this
    · rintro ⟨h1, o, h2, h3⟩
      have hi : i < ops.size := by
        rcases Nat.lt_or_ge i ops.size with h' | h'
        · exact h'
        · rw [Array.getElem?_eq_none h'] at h2; cases h2
      refine ⟨hi, h1, ?_⟩
      rw [h2]
      simp only [Option.map_some, Option.getD_some, Array.all_eq_true_iff_forall_mem]
      intro e he
      cases hb : Region.binds .any e with
      | false => rfl
      | true =>
        simp only [Bool.not_true, Bool.false_or]
        exact h3 e.on (List.mem_map.2 ⟨e, List.mem_filter.2 ⟨by simpa using he, hb⟩, rfl⟩)
  intro R
  induction hRl : R.length generalizing R with
  | zero =>
    intro listed c s a w hs1 hs2 hsz hcl h hst
    have hR : R = [] := List.length_eq_zero_iff.1 hRl
    subst hR
    have hrdy : Region.ready .any ops listed = [] := by
      apply List.eq_nil_iff_forall_not_mem.2
      intro i hi
      obtain ⟨h1, o, h2, _⟩ := (hrd listed i).1 hi
      have hi : i < ops.size := by
        rcases Nat.lt_or_ge i ops.size with h' | h'
        · exact h'
        · rw [Array.getElem?_eq_none h'] at h2; cases h2
      have : i ∈ ([] : List Nat) := (hs2 i).2 ⟨hi, by
        have hi' : i < listed.size := by omega
        rw [Array.getElem?_eq_getElem hi']
        simp [hi'] at h1
        rw [h1]⟩
      cases this
    refine ⟨hrdy, .normal, c, s, ?_, trivial, hst⟩
    simpa [sel, runW] using h
  | succ m ih =>
    intro listed c s a w hs1 hs2 hsz hcl h hst
    refine ⟨fun hnil => ?_, fun i hi => ?_⟩
    · -- the first that is left may come up
      exfalso
      cases R with
      | nil => simp at hRl
      | cons r R =>
        obtain ⟨hr1, hr2⟩ := (hs2 r).1 (by simp)
        have hr : r ∈ Region.ready .any ops listed := by
          refine (hrd listed r).2 ⟨by simp [Array.getD_eq_getD_getElem?, hr2], ops[r], by simp [hr1], fun k hk => ?_⟩
          have hk' := hdeps _ 0 hdo r _ (dep_of r ops[r] (by simp [hr1])) k hk
          have hkl : k < listed.size := by omega
          cases hv : listed[k] with
          | true => simp [hkl, hv]
          | false =>
            have hkR : k ∈ r :: R := (hs2 k).2 ⟨by omega, by rw [Array.getElem?_eq_getElem hkl, hv]⟩
            rcases List.mem_cons.1 hkR with e | e
            · omega
            · have := List.rel_of_pairwise_cons hs1 e; omega
        rw [hnil] at hr; cases hr
    · obtain ⟨h1, o, h2, h3⟩ := (hrd listed i).1 hi
      have hin : i < ops.size := by
        rcases Nat.lt_or_ge i ops.size with h' | h'
        · exact h'
        · rw [Array.getElem?_eq_none h'] at h2; cases h2
      have hil : i < listed.size := by omega
      have hlf : listed[i]? = some false := by
        rw [Array.getElem?_eq_getElem hil]
        simp [hil] at h1
        rw [h1]
      have hiR : i ∈ R := (hs2 i).2 ⟨hin, hlf⟩
      obtain ⟨pre, post, rfl⟩ := List.append_of_mem hiR
      obtain ⟨o', x, g1, g2, g3⟩ := hget i i (by simp [hin])
      rw [h2] at g1; injection g1 with g1; subst g1
      have hsel : sel xs (pre ++ i :: post) = sel xs pre ++ x :: sel xs post := by simp [sel, List.filterMap_append, List.filterMap_cons, g2]
      rw [hsel] at h
      have hpw := List.pairwise_append.1 hs1
      have hanc : ∀ j, ((ancTab ops).getD i []).contains j = true → listed[j]? = some true := by
        intro j hc
        have hmem := List.contains_iff_mem.1 hc
        cases hta : (ancTab ops)[i]? with
        | none => simp [List.getD, hta] at hmem
        | some ta =>
          simp [List.getD, hta] at hmem
          exact (ancs_spec (fun i => i < ops.size ∧ listed[i]? = some true) (ops.toList.map deps) [] [] rfl (by simpa using hcl) (fun i a d h => by simp at h) i ta (deps o) hta (by simpa using dep_of i o h2) (fun k hk => by
            have hkt := h3 k hk
            have hki := hdeps _ 0 hdo i _ (dep_of i o h2) k hk
            have hkl : k < listed.size := by omega
            refine ⟨by omega, ?_⟩
            rw [Array.getElem?_eq_getElem hkl]
            simp [hkl] at hkt
            rw [hkt]) j hmem).2
      have hap : ∀ j ∈ pre, ∃ y, xs[j]? = some y ∧ apartI y x = true ∧ quietPair y x = true := by
        intro j hj
        have hji : j < i := hpw.2.2 j hj i (by simp)
        obtain ⟨hj1, hj2⟩ := (hs2 j).1 (by simp [hj])
        have hjx : j < xs.length := by omega
        refine ⟨xs[j], by simp [hjx], ?_⟩
        simp only [pairsOk, List.all_eq_true] at hpo
        have hzi : (x, i) ∈ xs.zipIdx := by
          rw [List.mem_iff_getElem?]
          exact ⟨i, by simp [List.getElem?_zipIdx, g2]⟩
        have hzj : (xs[j], j) ∈ xs.zipIdx.take i := by
          rw [List.mem_iff_getElem?]
          exact ⟨j, by rw [List.getElem?_take_of_lt hji]; simp [List.getElem?_zipIdx, hjx]⟩
        have := hpo (x, i) hzi (xs[j], j) hzj
        simp only [Bool.or_eq_true, Bool.and_eq_true] at this
        rcases this with hc | hc
        · -- j is among what i waits for: it would be listed
          exfalso
          have hmem := List.contains_iff_mem.1 hc
          cases hta : (ancTab ops)[i]? with
          | none => simp [List.getD, hta] at hmem
          | some ta =>
            simp [List.getD, hta] at hmem
            have := ancs_spec (fun i => i < ops.size ∧ listed[i]? = some true) (ops.toList.map deps) [] [] rfl (by simpa using hcl) (fun i a d h => by simp at h) i ta (deps o) hta (by simpa using dep_of i o h2) (fun k hk => by
              have hkt := h3 k hk
              have hki := hdeps _ 0 hdo i _ (dep_of i o h2) k hk
              have hkl : k < listed.size := by omega
              refine ⟨by omega, ?_⟩
              rw [Array.getElem?_eq_getElem hkl]
              simp [hkl] at hkt
              rw [hkt]) j hmem
            rw [hj2] at this
            exact absurd this.2 (by simp)
        · exact hc
      have hm : aiW P C x (runW P C (sel xs pre ++ sel xs post) Q) Q s := by
        rcases hQ with hQ | hl
        · exact move_any hC hx hQ hap h hst
        · simp only [lastOk, Bool.and_eq_true, List.all_eq_true, Bool.not_eq_true'] at hl
          obtain ⟨hl1, hl2⟩ := hl
          have hdet : ∀ j y, j + 1 < xs.length → xs[j]? = some y → y.spec = false := by
            intro j y hj hy
            refine hl1 y (List.mem_iff_getElem?.2 ⟨j, ?_⟩)
            rw [List.getElem?_dropLast, if_pos (by omega)]; exact hy
          by_cases him : i + 1 = xs.length
          · have hpre : pre = [] := by
              cases pre with
              | nil => rfl
              | cons j pre =>
                exfalso
                have hji : j < i := hpw.2.2 j (by simp) i (by simp)
                obtain ⟨hj1, hj2⟩ := (hs2 j).1 (by simp)
                have := hl2 j (by simp; omega)
                rw [show xs.length - 1 = i by omega] at this
                rw [hanc j this] at hj2
                cases hj2
            subst hpre
            simpa [sel, runW] using h
          · have hxd : x.spec = false := hdet i x (by omega) g2
            obtain ⟨B, L, hBL, hB⟩ : ∃ B L, sel xs post = B ++ L ∧ ∀ y ∈ B, y.spec = false := by
              rcases List.eq_nil_or_concat post with rfl | ⟨post', z, rfl⟩
              · exact ⟨[], [], rfl, by simp⟩
              · refine ⟨sel xs post', sel xs [z], by simp [sel, List.filterMap_append], fun y hy => ?_⟩
                obtain ⟨k, hk, hky⟩ := List.mem_filterMap.1 hy
                have hz := ((hs2 z).1 (by simp)).1
                have hkz : k < z := by
                  have h1 := (List.pairwise_cons.1 hpw.2.1).2
                  rw [List.concat_eq_append] at h1
                  exact (List.pairwise_append.1 h1).2.2 k hk z (by simp)
                exact hdet k y (by omega) hky
            have hA : ∀ y ∈ sel xs pre, y.spec = false := by
              intro y hy
              obtain ⟨k, hk, hky⟩ := List.mem_filterMap.1 hy
              have hki : k < i := hpw.2.2 k hk i (by simp)
              have := ((hs2 i).1 (by simp)).1
              exact hdet k y (by omega) hky
            rw [hBL] at h ⊢
            rw [show sel xs pre ++ x :: (B ++ L) = (sel xs pre ++ x :: B) ++ L by simp] at h
            rw [run_app_det _ _ (by
              intro y hy
              rcases List.mem_append.1 hy with hy | hy
              · exact hA y hy
              · rcases List.mem_cons.1 hy with rfl | hy
                · exact hxd
                · exact hB y hy)] at h
            have h4 := move_any hC hx (Q := endQ P C L Q) (fun x s h => h) hap h hst
            obtain ⟨r, r1, r2⟩ := (aiW_det hxd).1 h4
            refine (aiW_det hxd).2 ⟨r, r1, ?_⟩
            rw [← List.append_assoc, run_app_det _ _ (by
              intro y hy
              rcases List.mem_append.1 hy with hy | hy
              · exact hA y hy
              · exact hB y hy)]
            exact r2
      refine wpOp_mono ?_ (ai_sound hC h2 g3 hm hst)
      rintro a' w' ⟨c', s', hK, hs'⟩
      have hgs : ∀ k, (listed.setIfInBounds i true)[k]? = if k = i then some true else listed[k]? := by
        intro k
        rw [Array.getElem?_setIfInBounds]
        by_cases hki : i = k
        · subst hki; simp [hil]
        · rw [if_neg hki, if_neg (fun e => hki e.symm)]
      have hnotpre : i ∉ pre := fun hm => by have := hpw.2.2 i hm i (by simp); omega
      have hnotpost : i ∉ post := fun hm => by have := List.rel_of_pairwise_cons hpw.2.1 hm; omega
      have := ih (pre ++ post) (by simp at hRl ⊢; omega) (listed.setIfInBounds i true) c' s' a' w' ?_ ?_ (by simpa using hsz) ?_ (by
        have : sel xs (pre ++ post) = sel xs pre ++ sel xs post := by simp [sel, List.filterMap_append]
        rw [this]; exact hK) hs'
      · exact this
      · refine List.pairwise_append.2 ⟨hpw.1, (List.pairwise_cons.1 hpw.2.1).2, fun a ha b hb => hpw.2.2 a ha b (by simp [hb])⟩
      · intro k
        rw [hgs]
        by_cases hki : k = i
        · subst hki
          simp only [if_true]
          constructor
          · intro hm
            rcases List.mem_append.1 hm with hm | hm
            · exact absurd hm hnotpre
            · exact absurd hm hnotpost
          · rintro ⟨_, h⟩; cases h
        · rw [if_neg hki, ← hs2 k]
          simp [hki]
      · intro k d hk hd j hj
        obtain ⟨hk1, hk2⟩ := hk
        rw [hgs] at hk2
        rw [hgs]
        by_cases hki : k = i
        · subst hki
          have hdo' : d = deps o := by
            have := dep_of k o h2
            rw [hd] at this; injection this
          subst hdo'
          have hjt := h3 j hj
          have hjk := hdeps _ 0 hdo k _ hd j hj
          have hjl : j < listed.size := by omega
          refine ⟨by omega, ?_⟩
          rw [if_neg (by omega), Array.getElem?_eq_getElem hjl]
          simp [hjl] at hjt
          rw [hjt]
        · rw [if_neg hki] at hk2
          obtain ⟨e1, e2⟩ := hcl k d ⟨hk1, hk2⟩ hd j hj
          refine ⟨e1, ?_⟩
          by_cases hji : j = i
          · rw [if_pos hji]
          · rw [if_neg hji]; exact e2

theorem ready_spec {ops : Array Oper} (listed : Array Bool) (i : Nat) : i ∈ Region.ready .any ops listed ↔ (listed.getD i true = false ∧ ∃ o, ops[i]? = some o ∧ ∀ k ∈ deps o, listed.getD k false = true) := by
  simp only [Region.ready, List.mem_filter, List.mem_range, Bool.and_eq_true, Bool.not_eq_true']
  constructor
  · rintro ⟨h1, h2, h3⟩
    refine ⟨h2, ?_⟩
    rw [Array.getElem?_eq_getElem h1] at h3 ⊢
    simp only [Option.map_some, Option.getD_some, Array.all_eq_true_iff_forall_mem] at h3
    refine ⟨_, rfl, fun k hk => ?_⟩
    obtain ⟨e, he, hek⟩ := List.mem_map.1 hk
    obtain ⟨he1, he2⟩ := List.mem_filter.1 he
    have := h3 e (by simpa using he1)
    rw [he2] at this
    subst hek
    simpa using this
  · rintro ⟨h1, o, h2, h3⟩
    have hi : i < ops.size := by
      rcases Nat.lt_or_ge i ops.size with h' | h'
      · exact h'
      · rw [Array.getElem?_eq_none h'] at h2; cases h2
    refine ⟨hi, h1, ?_⟩
    rw [h2]
    simp only [Option.map_some, Option.getD_some, Array.all_eq_true_iff_forall_mem]
    intro e he
    cases hb : Region.binds .any e with
    | false => rfl
    | true =>
      simp only [Bool.not_true, Bool.false_or]
      exact h3 e.on (List.mem_map.2 ⟨e, List.mem_filter.2 ⟨by simpa using he, hb⟩, rfl⟩)

/-- a region in every order that its waiting allows -/
theorem every_sound (hC : CtxOk P C) (hcv : cvtL P n muts pu ops (List.range ops.size) = some xs) {Q : AEx → AS → Prop} :
    ∀ (m : Nat) (done : List Nat) (listed : Array Bool) (c : CM) (s : AS) (a : Act) (w : World), listed.size = ops.size → (∀ k, k ∈ done ↔ listed[k]? = some true) →
      anyW P C (ops.toList.map deps) xs m done Q s → St n c0 w0 ds c s a w → wpAny P .any ops (QL n c0 w0 ds Q) m listed a w := by
  obtain ⟨hlen, hget⟩ := cvtL_get _ _ hcv
  simp only [List.length_range] at hlen
  have hrd : ∀ (done : List Nat) (listed : Array Bool), listed.size = ops.size → (∀ k, k ∈ done ↔ listed[k]? = some true) → ∀ i, i ∈ Region.ready .any ops listed → i ∈ readyL (ops.toList.map deps) done ∧ i < ops.size := by
    intro done listed hsz hd i hi
    obtain ⟨h1, o, h2, h3⟩ := (ready_spec listed i).1 hi
    have hin : i < ops.size := by
      rcases Nat.lt_or_ge i ops.size with h' | h'
      · exact h'
      · rw [Array.getElem?_eq_none h'] at h2; cases h2
    refine ⟨?_, hin⟩
    simp only [readyL, List.mem_filter, List.mem_range, List.length_map, Array.length_toList, Bool.and_eq_true, Bool.not_eq_true']
    refine ⟨hin, ?_, ?_⟩
    · rw [← Bool.not_eq_true, List.contains_iff_mem, hd i]
      have hil : i < listed.size := by omega
      rw [Array.getElem?_eq_getElem hil]
      simp [hil] at h1
      rw [h1]; simp
    · have : (ops.toList.map deps).getD i [] = deps o := by simp [List.getD, h2]
      rw [this, List.all_eq_true]
      intro k hk
      rw [List.contains_iff_mem, hd k]
      have := h3 k hk
      have hkl : k < listed.size := by
        rcases Nat.lt_or_ge k listed.size with h' | h'
        · exact h'
        · simp [Array.getD_eq_getD_getElem?, Array.getElem?_eq_none h'] at this
      rw [Array.getElem?_eq_getElem hkl]
      simp [hkl] at this
      rw [this]
  have hrd' : ∀ (done : List Nat) (listed : Array Bool), listed.size = ops.size → (∀ k, k ∈ done ↔ listed[k]? = some true) → Region.ready .any ops listed = [] → readyL (ops.toList.map deps) done = [] := by
    intro done listed hsz hd hnil
    apply List.eq_nil_iff_forall_not_mem.2
    intro i hi
    simp only [readyL, List.mem_filter, List.mem_range, List.length_map, Array.length_toList, Bool.and_eq_true, Bool.not_eq_true'] at hi
    obtain ⟨h1, h2, h3⟩ := hi
    have : i ∈ Region.ready .any ops listed := by
      refine (ready_spec listed i).2 ⟨?_, ops[i], by simp [h1], ?_⟩
      · rw [← Bool.not_eq_true, List.contains_iff_mem, hd i] at h2
        have hil : i < listed.size := by omega
        rw [Array.getElem?_eq_getElem hil] at h2
        cases hv : listed[i] with
        | true => rw [hv] at h2; exact absurd rfl h2
        | false => simp [hil, hv]
      · intro k hk
        have e : (ops.toList.map deps).getD i [] = deps ops[i] := by simp [List.getD, h1]
        rw [e, List.all_eq_true] at h3
        have := (hd k).1 (List.contains_iff_mem.1 (h3 k hk))
        simp [Array.getD_eq_getD_getElem?, this]
    rw [hnil] at this; cases this
  intro m
  induction m with
  | zero =>
    intro done listed c s a w hsz hd h hst
    obtain ⟨h1, h2⟩ := h
    refine ⟨?_, .normal, c, s, h2, trivial, hst⟩
    apply List.eq_nil_iff_forall_not_mem.2
    intro i hi
    have := (hrd done listed hsz hd i hi).1
    rw [h1] at this; cases this
  | succ m ih =>
    intro done listed c s a w hsz hd h hst
    obtain ⟨h1, h2⟩ := h
    refine ⟨fun hnil => ⟨.normal, c, s, h1 (hrd' done listed hsz hd hnil), trivial, hst⟩, fun i hi => ?_⟩
    obtain ⟨hr, hin⟩ := hrd done listed hsz hd i hi
    obtain ⟨o, x, g1, g2, g3⟩ := hget i i (by simp [hin])
    have h3 := allW_mem h2 hr
    rw [g2] at h3
    refine wpOp_mono ?_ (ai_sound hC g1 g3 h3 hst)
    rintro a' w' ⟨c', s', hK, hs'⟩
    refine ih (i :: done) _ c' s' a' w' (by simpa using hsz) (fun k => ?_) hK hs'
    rw [Array.getElem?_setIfInBounds]
    by_cases hki : i = k
    · subst hki; simp [show i < listed.size by omega]
    · rw [if_neg hki, ← hd k]
      simp [Ne.symm hki]
end
end Fw
set_option linter.unusedVariables false
set_option linter.unusedSimpArgs false
namespace Fw
open Go

inductive ACode where
  | skip
  | reg (ops : List AI)
  | regd (ops : List AI)
  | regl (ops : List AI)
  | rega (ds : List (List Nat)) (ops : List AI)
  | seq (a b : ACode)
  | cond (c : AOpd) (a b : ACode)
  | block (id : Nat) (b : ACode)
  | loop (b : ACode)
  | scope (b : ACode)
  | exit (id : Nat)
  | label (l : Nat)
  | ret
  | goto (l : Nat)
  | jump (b : ACode) (l1 : Nat) (r1 : ACode) (l2 : Nat) (r2 : ACode)

def thenQ (K : AS → Prop) (Q : AEx → AS → Prop) : AEx → AS → Prop
  | .normal, s => K s
  | e, s => Q e s
def blkQ (id : Nat) (Q : AEx → AS → Prop) : AEx → AS → Prop
  | .exit id', s => if id' = id then Q .normal s else Q (.exit id') s
  | e, s => Q e s
def noPQ (Q : AEx → AS → Prop) : AEx → AS → Prop
  | .panic _, _ => False
  | e, s => Q e s
def noGQ (Q : AEx → AS → Prop) : AEx → AS → Prop
  | .goto _, _ => False
  | e, s => Q e s
/-- jumps, to G -/
def gotoQ (G : Nat → AS → Prop) (Q : AEx → AS → Prop) : AEx → AS → Prop
  | .goto l, s => G l s
  | e, s => Q e s
def jmpG (w1 w2 : (AEx → AS → Prop) → AS → Prop) (l1 l2 : Nat) (Q : AEx → AS → Prop) : Nat → Nat → AS → Prop
  | 0, _, _ => False
  | n + 1, l, s => if l = l1 then w1 (gotoQ (jmpG w1 w2 l1 l2 Q n) Q) s else if l = l2 then w2 (gotoQ (jmpG w1 w2 l1 l2 Q n) Q) s else False
def condV (x : AV) (p q : Prop) : Prop :=
  match x with
  | .bool b => condP b p q
  | _ => False
def loopW (body : (AEx → AS → Prop) → AS → Prop) : Nat → (AEx → AS → Prop) → AS → Prop
  | 0, _, _ => False
  | n + 1, Q, s => body (thenQ (loopW body n Q) Q) s

def awp (P : Program) (C : PCtx) : ACode → (AEx → AS → Prop) → AS → Prop
  | .skip, Q, s => Q .normal s
  | .reg ops, Q, s => runW P C ops Q s
  | .regd ops, Q, s => runW P C ops (noPQ Q) s
  | .regl ops, Q, s => runW P C ops Q s
  | .rega ds ops, Q, s => anyW P C ds ops ops.length [] Q s
  | .seq a b, Q, s => awp P C a (thenQ (awp P C b Q) Q) s
  | .cond c a b, Q, s => condV (s.ev c) (awp P C a Q s) (awp P C b Q s)
  | .block id b, Q, s => awp P C b (blkQ id Q) s
  | .loop b, Q, s => ∃ n, loopW (awp P C b) n Q s
  | .scope b, Q, s => awp P C b (noGQ Q) s
  | .exit id, Q, s => Q (.exit id) s
  | .label _, Q, s => Q .normal s
  | .ret, Q, s => Q .ret s
  | .goto l, Q, s => Q (.goto l) s
  | .jump b l1 r1 l2 r2, Q, s => ∃ n, awp P C b (gotoQ (jmpG (awp P C r1) (awp P C r2) l1 l2 Q n) Q) s

def ACode.hasG : ACode → Bool
  | .goto _ => true
  | .jump _ _ _ _ _ => true
  | .seq a b => a.hasG || b.hasG
  | .cond _ a b => a.hasG || b.hasG
  | .block _ b => b.hasG
  | .loop b => b.hasG
  | .scope b => b.hasG
  | _ => false
def ACode.labs : ACode → List Nat
  | .seq a b => a.labs ++ b.labs
  | .label l => [l]
  | _ => []
def flA : ACode → Nat → Option ACode
  | .seq a b, l => match flA a l with
    | some r => some (.seq r b)
    | none => flA b l
  | .label l', l => if l' = l then some .skip else none
  | _, _ => none
/-- a scope, with jumps or without -/
def mkScope (b : ACode) : Option ACode :=
  if b.hasG = true then match b.labs with
    | [l1] => (flA b l1).map fun r => .jump b l1 r l1 r
    | [l1, l2] => match flA b l1, flA b l2 with
      | some r1, some r2 => some (.jump b l1 r1 l2 r2)
      | _, _ => none
    | _ => none
  else some (.scope b)
theorem mkScope_inv {b ac : ACode} (h : mkScope b = some ac) : ac = .scope b ∨ ∃ l1 r1 l2 r2, ac = .jump b l1 r1 l2 r2 ∧ flA b l1 = some r1 ∧ flA b l2 = some r2 := by
  unfold mkScope at h
  split at h
  · right
    split at h <;> (try (cases h; done))
    · obtain ⟨r, h1, rfl⟩ := optmap_some h
      exact ⟨_, _, _, _, rfl, h1, h1⟩
    · split at h <;> (try (cases h; done))
      rename_i h1 h2
      injection h with h
      exact ⟨_, _, _, _, h.symm, h1, h2⟩
  · injection h with h; exact .inl h.symm

def cvtC (P : Program) (n : Nat) (muts : List Nat) (pu : List FuncId) : Code → Option ACode
  | .skip => some .skip
  | .region _ ops draw =>
    match cvtL P n muts pu ops (List.range ops.size) with
    | some xs => if draw then (if P.follows .mixedOrders then (if orderOk ops xs then (if lastOk ops xs && xs.any (·.spec) then some (.regl xs) else some (.regd xs)) else some (.rega (ops.toList.map deps) xs)) else none) else some (.reg xs)
    | none => none
  | .seq a b => match cvtC P n muts pu a, cvtC P n muts pu b with
    | some x, some y => some (.seq x y)
    | _, _ => none
  | .cond c a b => match cvO n c, cvtC P n muts pu a, cvtC P n muts pu b with
    | some z, some x, some y => some (.cond z x y)
    | _, _, _ => none
  | .block id b => (cvtC P n muts pu b).map (.block id)
  | .loop b => (cvtC P n muts pu b).map .loop
  | .scope b => (cvtC P n muts pu b).bind mkScope
  | .exit id => some (.exit id)
  | .label l => some (.label l)
  | .ret => some .ret
  | .goto l => some (.goto l)
  | _ => none

/-- a scope in which the run may jump, n times at most -/
def JX (P : Program) (c : Code) (Q : Exit → Act → World → Prop) : Nat → Exit → Act → World → Prop
  | 0, .goto _, _, _ => False
  | n + 1, .goto l, a, w => ∃ rest, findLabel c l = some rest ∧ rest.wp P (JX P c Q n) a w
  | _, e, a, w => Q e a w
theorem wp_scope_fuel {P : Program} {c : Code} {Q : Exit → Act → World → Prop} (n : Nat) {a : Act} {w : World} (h : c.wp P (JX P c Q n) a w) : (Code.scope c).wp P Q a w := by
  intro b k cs
  have hg : ∀ l rest, findLabel c l = some rest → gotoIn l (.inScope c :: k) = some (.code rest :: .inScope c :: k) := fun l rest hf => by simp [gotoIn, hf]
  have key : ∀ n m e a₁ w₁, JX P c Q n e a₁ w₁ → Arrives P m b (.inScope c :: k) cs e a₁ w₁ → ∃ e' a' w', Q e' a' w' ∧ Arrives P m b k cs e' a' w' := by
    intro n
    induction n with
    | zero =>
      intro m e a₁ w₁ hq harr
      cases e with
      | normal => exact ⟨.normal, a₁, w₁, hq, Steps.trans harr (.one step_inScope)⟩
      | exit id => exact ⟨.exit id, a₁, w₁, hq, fun k' hk => harr k' (by simp [exitTo, hk])⟩
      | goto l' => exact hq.elim
      | ret => exact ⟨_, a₁, w₁, hq, harr⟩
      | panic ch => exact ⟨_, a₁, w₁, hq, harr⟩
      | outgrown => exact ⟨_, a₁, w₁, hq, harr⟩
    | succ n ih =>
      intro m e a₁ w₁ hq harr
      cases e with
      | normal => exact ⟨.normal, a₁, w₁, hq, Steps.trans harr (.one step_inScope)⟩
      | exit id => exact ⟨.exit id, a₁, w₁, hq, fun k' hk => harr k' (by simp [exitTo, hk])⟩
      | goto l' =>
        obtain ⟨rest, hf, hr⟩ := hq
        obtain ⟨e₂, a₂, w₂, hq₂, harr₂⟩ := hr b (.inScope c :: k) cs
        exact ih m e₂ a₂ w₂ hq₂ (.of_steps (harr _ (hg _ _ hf)) harr₂)
      | ret => exact ⟨_, a₁, w₁, hq, harr⟩
      | panic ch => exact ⟨_, a₁, w₁, hq, harr⟩
      | outgrown => exact ⟨_, a₁, w₁, hq, harr⟩
  obtain ⟨e, a₁, w₁, hq, harr⟩ := h b (.inScope c :: k) cs
  obtain ⟨e', a', w', h1, h2⟩ := key n _ e a₁ w₁ hq harr
  exact ⟨e', a', w', h1, .of_steps (.one step_scope) h2⟩
/-- the rest after a label, in both codes -/
theorem fl_cvt {P : Program} {n : Nat} {muts : List Nat} {pu : List FuncId} : ∀ (code : Code) (ac : ACode), cvtC P n muts pu code = some ac → ∀ l, match findLabel code l, flA ac l with
    | some rest, some r => cvtC P n muts pu rest = some r
    | none, none => True
    | _, _ => False := by
  intro code
  induction code with
  | seq x y ih1 ih2 =>
    intro ac hcv l
    simp only [cvtC] at hcv
    split at hcv <;> (try (cases hcv; done))
    rename_i x' y' h1 h2
    injection hcv with hcv; subst hcv
    have i1 := ih1 x' h1 l
    have i2 := ih2 y' h2 l
    simp only [findLabel, flA]
    cases hx : findLabel x l with
    | some rx =>
      cases hx' : flA x' l with
      | some rx' => rw [hx, hx'] at i1; simp only [cvtC, i1, h2]
      | none => rw [hx, hx'] at i1; exact i1.elim
    | none =>
      cases hx' : flA x' l with
      | some rx' => rw [hx, hx'] at i1; exact i1.elim
      | none => exact i2
  | label l' =>
    intro ac hcv l
    simp only [cvtC] at hcv; injection hcv with hcv; subst hcv
    simp only [findLabel, flA, beq_iff_eq]
    by_cases h : l' = l
    · rw [if_pos h, if_pos h]; rfl
    · rw [if_neg h, if_neg h]; trivial
  | skip => intro ac hcv l; simp only [cvtC] at hcv; injection hcv with hcv; subst hcv; trivial
  | region id ops draw =>
    intro ac hcv l
    simp only [cvtC] at hcv
    split at hcv <;> (try (cases hcv; done))
    repeat' split at hcv
    all_goals first | (injection hcv with hcv; subst hcv; trivial) | (cases hcv; done)
  | cond cc x y =>
    intro ac hcv l
    simp only [cvtC] at hcv
    split at hcv <;> (try (cases hcv; done))
    injection hcv with hcv; subst hcv; trivial
  | block id b =>
    intro ac hcv l
    simp only [cvtC] at hcv
    obtain ⟨b', hb, rfl⟩ := optmap_some hcv
    trivial
  | loop b =>
    intro ac hcv l
    simp only [cvtC] at hcv
    obtain ⟨b', hb, rfl⟩ := optmap_some hcv
    trivial
  | scope b =>
    intro ac hcv l
    simp only [cvtC] at hcv
    obtain ⟨b', hb, h⟩ := Option.bind_eq_some_iff.1 hcv
    rcases mkScope_inv h with rfl | ⟨l1, r1, l2, r2, rfl, _, _⟩ <;> trivial
  | exit id => intro ac hcv l; simp only [cvtC] at hcv; injection hcv with hcv; subst hcv; trivial
  | ret => intro ac hcv l; simp only [cvtC] at hcv; injection hcv with hcv; subst hcv; trivial
  | goto l' => intro ac hcv l; simp only [cvtC] at hcv; injection hcv with hcv; subst hcv; trivial
  | rangeFunc f ps x y => intro ac hcv; simp [cvtC] at hcv
  | refuse why => intro ac hcv; simp [cvtC] at hcv

theorem QL.mono {n : Nat} {c0 : CM} {w0 : World} {ds : List Deferred} {Q Q' : AEx → AS → Prop} (h : ∀ e s, Q e s → Q' e s) {e : Exit} {a : Act} {w : World} (hq : QL n c0 w0 ds Q e a w) : QL n c0 w0 ds Q' e a w :=
  let ⟨ae, c, s, h1, h2⟩ := hq
  ⟨ae, c, s, h _ _ h1, h2⟩
theorem noPQ_le {Q : AEx → AS → Prop} : ∀ e s, noPQ Q e s → Q e s := fun e s h => by cases e <;> first | exact h | exact h.elim

theorem awp_sound {P : Program} {C : PCtx} (hC : CtxOk P C) {n : Nat} {muts : List Nat} {pu : List FuncId} {c0 : CM} {w0 : World} {ds : List Deferred} :
    ∀ (code : Code) (ac : ACode), cvtC P n muts pu code = some ac → ∀ (Q : AEx → AS → Prop) (c : CM) (s : AS) (a : Act) (w : World), awp P C ac Q s → St n c0 w0 ds c s a w → code.wp P (QL n c0 w0 ds Q) a w := by
  let SC : Code → Prop := fun code => ∀ (ac : ACode), cvtC P n muts pu code = some ac → ∀ (Q : AEx → AS → Prop) (c : CM) (s : AS) (a : Act) (w : World), awp P C ac Q s → St n c0 w0 ds c s a w → code.wp P (QL n c0 w0 ds Q) a w
  have hskip : SC .skip := by
    intro ac hcv Q c s a w h hs
    simp only [cvtC] at hcv; injection hcv with hcv; subst hcv
    exact wp_skip ⟨.normal, c, s, h, trivial, hs⟩
  have hseq : ∀ x y, SC x → SC y → SC (.seq x y) := by
    intro x y ih1 ih2 ac hcv Q c s a w h hs
    simp only [cvtC] at hcv
    split at hcv <;> (try (cases hcv; done))
    rename_i x' y' h1 h2
    injection hcv with hcv; subst hcv
    refine wp_seq (wp_mono (ih1 x' h1 _ c s a w h hs) ?_)
    rintro e a' w' ⟨ae, c', s', hq, hm, hs'⟩
    cases ae <;> cases e <;> simp only [ExM] at hm
    · exact ih2 y' h2 Q c' s' a' w' hq hs'
    all_goals (first | exact ⟨_, c', s', hq, hm, hs'⟩ | exact ⟨_, c', s', hq, trivial, hs'⟩)
  suffices H : ∀ code, SC code ∧ ∀ l rest, findLabel code l = some rest → SC rest from fun code => (H code).1
  intro code
  induction code with
  | skip => exact ⟨hskip, fun l rest h => by simp [findLabel] at h⟩
  | region id ops draw =>
    refine ⟨?_, fun l rest h => by simp [findLabel] at h⟩
    intro ac hcv Q c s a w h hs
    simp only [cvtC] at hcv
    split at hcv <;> (try (cases hcv; done))
    rename_i xs hxs
    cases draw with
    | false =>
      simp only [Bool.false_eq_true, if_false] at hcv
      injection hcv with hcv; subst hcv
      exact wp_region (run_sound hC _ _ c s a w hxs h hs)
    | true =>
      simp only [if_true] at hcv
      split at hcv <;> (try (cases hcv; done))
      rename_i hmo
      have hlen := (cvtL_get _ _ hxs).1
      simp only [List.length_range] at hlen
      have hsel : sel xs (List.range ops.size) = xs := by
        unfold sel
        rw [hlen]
        have : ∀ (l : List AI) (k : Nat) (pre : List AI), pre.length = k → ((List.range' k l.length).filterMap fun i => (pre ++ l)[i]?) = l := by
          intro l
          induction l with
          | nil => intro k pre _; rfl
          | cons x l ih =>
            intro k pre hk
            simp only [List.length_cons, List.range'_succ, List.filterMap_cons]
            have : (pre ++ x :: l)[k]? = some x := by rw [List.getElem?_append_right (by omega)]; simp [hk]
            rw [this]
            simp only
            congr 1
            have := ih (k + 1) (pre ++ [x]) (by simp [hk])
            simpa using this
        have h0 := this xs 0 [] rfl
        rw [List.range_eq_range']
        simpa using h0
      have hinv : Inv c s.hs { w with drawn := w.drawn + 1 } := hs.inv.drew
      have hfr : Fr c0 w0 c { w with drawn := w.drawn + 1 } := hs.fr.drew
      have hst : St n c0 w0 ds c s a { w with drawn := w.drawn + 1 } := ⟨hs.env, hinv, hfr, hs.df⟩
      split at hcv
      case isFalse hno =>
        injection hcv with hcv; subst hcv
        refine wp_region_any hmo ?_
        have h' : anyW P C (ops.toList.map deps) xs xs.length [] Q s := h
        rw [← hlen] at h'
        exact every_sound hC hxs ops.size [] (Array.replicate ops.size false) c s a { w with drawn := w.drawn + 1 } (by simp) (fun k => by simp [Array.getElem?_replicate]) h' hst
      rename_i hok
      have go : ∀ Q' : AEx → AS → Prop, ((∀ x s, ¬ Q' (.panic x) s) ∨ lastOk ops xs = true) → (∀ e s, Q' e s → Q e s) → runW P C xs Q' s → (Code.region id ops true).wp P (QL n c0 w0 ds Q) a w := by
        intro Q' hQ' hle h
        refine wp_mono ?_ (fun e a w hq => QL.mono hle hq)
        refine wp_region_any hmo ?_
        have := any_sound (ds := ds) hC hxs hok (Q := Q') hQ' (List.range ops.size) (Array.replicate ops.size false) c s a { w with drawn := w.drawn + 1 } ?_ ?_ (by simp) ?_ (by rw [hsel]; exact h) hst
        · rw [List.length_range] at this; exact this
        · exact List.pairwise_lt_range
        · intro i
          simp only [List.mem_range, Array.getElem?_replicate]
          constructor
          · intro hi; exact ⟨hi, by simp [hi]⟩
          · exact fun h => h.1
        · intro i d hi hd
          have := hi.2
          simp [Array.getElem?_replicate] at this
      split at hcv
      · rename_i hlo
        simp only [Bool.and_eq_true] at hlo
        injection hcv with hcv; subst hcv
        exact go Q (.inr hlo.1) (fun _ _ h => h) h
      · injection hcv with hcv; subst hcv
        exact go (noPQ Q) (.inl fun x s h => h) noPQ_le h
  | seq x y ih1 ih2 =>
    refine ⟨hseq x y ih1.1 ih2.1, fun l rest h => ?_⟩
    simp only [findLabel] at h
    split at h
    · rename_i r hr
      injection h with h; subst h
      exact hseq _ _ (ih1.2 l r hr) ih2.1
    · exact ih2.2 l rest h
  | cond cc x y ih1 ih2 =>
    refine ⟨?_, fun l rest h => by simp [findLabel] at h⟩
    have ih1 := ih1.1
    have ih2 := ih2.1
    intro ac hcv Q c s a w h hs
    simp only [cvtC] at hcv
    split at hcv <;> (try (cases hcv; done))
    rename_i z' x' y' h0 h1 h2
    injection hcv with hcv; subst hcv
    have hr := cvO_sound h0 hs.env
    simp only [awp] at h
    unfold condV at h
    split at h <;> (try (exact h.elim))
    rename_i b hb
    rw [hb] at hr
    refine wp_cond hr.bool_inv ?_
    unfold condP at h
    split at h
    · rename_i hb'
      rw [if_pos hb']
      exact ih1 x' h1 Q c s a w h hs
    · rename_i hb'
      rw [if_neg hb']
      exact ih2 y' h2 Q c s a w h hs
  | block id b ih =>
    refine ⟨?_, fun l rest h => by simp [findLabel] at h⟩
    have ih := ih.1
    intro ac hcv Q c s a w h hs
    simp only [cvtC] at hcv
    obtain ⟨b', hb, rfl⟩ := optmap_some hcv
    refine wp_block (wp_mono (ih b' hb _ c s a w h hs) ?_)
    rintro e a' w' ⟨ae, c', s', hq, hm, hs'⟩
    cases ae <;> cases e <;> simp only [ExM] at hm
    case exit.exit i j =>
      subst hm
      simp only [Exit.inBlock, blkQ] at hq ⊢
      split at hq
      · rename_i he; rw [if_pos he]; exact ⟨.normal, c', s', hq, trivial, hs'⟩
      · rename_i he; rw [if_neg he]; exact ⟨.exit _, c', s', hq, rfl, hs'⟩
    all_goals (first | exact ⟨_, c', s', hq, hm, hs'⟩ | exact ⟨_, c', s', hq, trivial, hs'⟩)
  | loop b ih =>
    refine ⟨?_, fun l rest h => by simp [findLabel] at h⟩
    have ih := ih.1
    intro ac hcv Q c s a w h hs
    simp only [cvtC] at hcv
    obtain ⟨b', hb, rfl⟩ := optmap_some hcv
    obtain ⟨m, h⟩ := h
    intro fb k cs
    have key : ∀ m (c : CM) (s : AS) (a : Act) (w : World), loopW (awp P C b') m Q s → St n c0 w0 ds c s a w →
        ∃ e a' w', QL n c0 w0 ds Q e a' w' ∧ Arrives P (lone (fb.at a (.code b :: .inLoop b :: k)) cs w) fb k cs e a' w' := by
      intro m
      induction m with
      | zero => intro c s a w h; exact h.elim
      | succ m ihm =>
        intro c s a w h hs
        obtain ⟨e, a₁, w₁, ⟨ae, c', s', hq, hm, hs'⟩, harr⟩ := ih b' hb _ c s a w h hs fb (.inLoop b :: k) cs
        cases ae <;> cases e <;> simp only [ExM] at hm
        case normal.normal =>
          obtain ⟨e₂, a₂, w₂, hq₂, harr₂⟩ := ihm c' s' a₁ w₁ hq hs'
          exact ⟨e₂, a₂, w₂, hq₂, .of_steps (Steps.trans harr (.one step_inLoop)) harr₂⟩
        case exit.exit i j => exact ⟨.exit j, a₁, w₁, ⟨.exit i, c', s', hq, hm, hs'⟩, .pass (x := .inLoop b) rfl (fun _ _ => .inl (by simp)) harr⟩
        case goto.goto i j => exact ⟨.goto j, a₁, w₁, ⟨.goto i, c', s', hq, hm, hs'⟩, .pass (x := .inLoop b) rfl (fun _ _ => .inl (by simp)) harr⟩
        case ret.ret => exact ⟨.ret, a₁, w₁, ⟨.ret, c', s', hq, trivial, hs'⟩, .pass (x := .inLoop b) rfl (fun _ _ => .inl (by simp)) harr⟩
        case panic.panic x ch => exact ⟨.panic ch, a₁, w₁, ⟨.panic x, c', s', hq, hm, hs'⟩, .pass (x := .inLoop b) rfl (fun _ _ => .inl (by simp)) harr⟩
    obtain ⟨e, a', w', hq, harr⟩ := key m c s a w h hs
    exact ⟨e, a', w', hq, .of_steps (.one step_loop) harr⟩
  | scope b ih =>
    refine ⟨?_, fun l rest h => by simp [findLabel] at h⟩
    obtain ⟨ih, ihl⟩ := ih
    intro ac hcv Q c s a w h hs
    simp only [cvtC] at hcv
    obtain ⟨b', hb, hmk⟩ := Option.bind_eq_some_iff.1 hcv
    rcases mkScope_inv hmk with rfl | ⟨l1, r1, l2, r2, rfl, f1, f2⟩
    · refine wp_scope_straight (wp_mono (ih b' hb _ c s a w h hs) ?_)
      rintro e a' w' ⟨ae, c', s', hq, hm, hs'⟩
      cases ae <;> cases e <;> simp only [ExM] at hm
      case goto.goto i j => exact hq.elim
      all_goals (first | exact ⟨_, c', s', hq, hm, hs'⟩ | exact ⟨_, c', s', hq, trivial, hs'⟩)
    · obtain ⟨m, h⟩ := h
      have hl : ∀ l r, flA b' l = some r → ∃ rest, findLabel b l = some rest ∧ cvtC P n muts pu rest = some r := by
        intro l r hf
        have := fl_cvt b b' hb l
        rw [hf] at this
        cases hx : findLabel b l with
        | none => rw [hx] at this; exact this.elim
        | some rest => rw [hx] at this; exact ⟨rest, rfl, this⟩
      obtain ⟨k1, g1, g2⟩ := hl _ _ f1
      obtain ⟨k2, g3, g4⟩ := hl _ _ f2
      have key : ∀ m e a w, QL n c0 w0 ds (gotoQ (jmpG (awp P C r1) (awp P C r2) l1 l2 Q m) Q) e a w → JX P b (QL n c0 w0 ds Q) m e a w := by
        intro m
        induction m with
        | zero =>
          rintro e a' w' ⟨ae, c', s', hq, hm, hs'⟩
          cases ae <;> cases e <;> simp only [ExM] at hm
          case goto.goto i j => exact hq.elim
          all_goals (first | exact ⟨_, c', s', hq, hm, hs'⟩ | exact ⟨_, c', s', hq, trivial, hs'⟩)
        | succ m ihm =>
          rintro e a' w' ⟨ae, c', s', hq, hm, hs'⟩
          cases ae <;> cases e <;> simp only [ExM] at hm
          case goto.goto i j =>
            subst hm
            simp only [gotoQ, jmpG] at hq
            simp only [JX]
            split at hq
            · rename_i he; subst he
              exact ⟨k1, g1, wp_mono (ihl _ _ g1 r1 g2 _ c' s' a' w' hq hs') ihm⟩
            · split at hq
              · rename_i he; subst he
                exact ⟨k2, g3, wp_mono (ihl _ _ g3 r2 g4 _ c' s' a' w' hq hs') ihm⟩
              · exact hq.elim
          all_goals (first | exact ⟨_, c', s', hq, hm, hs'⟩ | exact ⟨_, c', s', hq, trivial, hs'⟩)
      exact wp_scope_fuel m (wp_mono (ih b' hb _ c s a w h hs) (key m))
  | exit id =>
    refine ⟨?_, fun l rest h => by simp [findLabel] at h⟩
    intro ac hcv Q c s a w h hs
    simp only [cvtC] at hcv; injection hcv with hcv; subst hcv
    exact wp_exit ⟨.exit id, c, s, h, rfl, hs⟩
  | label l =>
    refine ⟨?_, fun l' rest h => ?_⟩
    · intro ac hcv Q c s a w h hs
      simp only [cvtC] at hcv; injection hcv with hcv; subst hcv
      exact wp_label ⟨.normal, c, s, h, trivial, hs⟩
    · simp only [findLabel] at h
      split at h
      · injection h with h; subst h; exact hskip
      · cases h
  | ret =>
    refine ⟨?_, fun l rest h => by simp [findLabel] at h⟩
    intro ac hcv Q c s a w h hs
    simp only [cvtC] at hcv; injection hcv with hcv; subst hcv
    exact wp_ret ⟨.ret, c, s, h, trivial, hs⟩
  | rangeFunc f ps x y ih1 ih2 => exact ⟨by intro ac hcv; simp [cvtC] at hcv, fun l rest h => by simp [findLabel] at h⟩
  | goto l =>
    refine ⟨?_, fun l rest h => by simp [findLabel] at h⟩
    intro ac hcv Q c s a w h hs
    simp only [cvtC] at hcv; injection hcv with hcv; subst hcv
    exact wp_goto ⟨.goto l, c, s, h, rfl, hs⟩
  | refuse why => exact ⟨by intro ac hcv; simp [cvtC] at hcv, fun l rest h => by simp [findLabel] at h⟩

/-! results, and whole functions -/
inductive ARes where
  | t (n : Nat)
  | cell (ag : Bool) (sz : Nat) (n : Nat)
def cvR (P : Program) (n : Nat) : ResultVar → Option ARes
  | .tmp t => if t < n then some (.t t) else none
  | .cell a t => match P.underlying t, P.info? t with
    | some d, some i => if a < n then some (.cell (descAgg d) i.size a) else none
    | _, _ => none
def cvRs (P : Program) (n : Nat) : List ResultVar → Option (List ARes)
  | [] => some []
  | r :: rs => match cvR P n r, cvRs P n rs with
    | some x, some xs => some (x :: xs)
    | _, _ => none
def aRes (s : AS) : ARes → Option AV
  | .t n => some (s.env n)
  | .cell ag sz n => aload s.hs.heap ag sz (s.env n)
def aResL (s : AS) : List ARes → Option (List AV)
  | [] => some []
  | r :: rs => match aRes s r, aResL s rs with
    | some x, some xs => some (x :: xs)
    | _, _ => none
def aResult (s : AS) (rs : List ARes) : Option AV := (aResL s rs).map fun
  | [x] => x
  | xs => .tup xs

def resOne (a : Act) : ResultVar → Sem Value
  | .tmp t => Pure.pure (a.tmps.getD t undef)
  | .cell ad t => do loadVar t (← asAddr (a.tmps.getD ad undef))

theorem aResL_sound {P : Program} {n : Nat} {c : CM} {s : AS} {a : Act} {w : World} (he : EnvRep n c a s) (hi : Inv c s.hs w) : ∀ (rs : List ResultVar) (ars : List ARes) (xs : List AV), cvRs P n rs = some ars → aResL s ars = some xs →
    ∃ vs, (rs.mapM (resOne a)).run P w = .ok vs w ∧ RepL c vs xs
  | [], ars, xs, h1, h2 => by
    simp only [cvRs] at h1; injection h1 with h1; subst h1
    simp only [aResL] at h2; injection h2 with h2; subst h2
    exact ⟨[], rfl, .nil⟩
  | r :: rs, ars, xs, h1, h2 => by
    simp only [cvRs] at h1
    split at h1 <;> (try (cases h1; done))
    rename_i x ys g1 g2
    injection h1 with h1; subst h1
    simp only [aResL] at h2
    split at h2 <;> (try (cases h2; done))
    rename_i u us k1 k2
    injection h2 with h2; subst h2
    obtain ⟨vs, e1, e2⟩ := aResL_sound he hi rs ys us g2 k2
    rw [List.mapM_cons]
    cases r with
    | tmp t =>
      simp only [cvR] at g1
      split at g1 <;> (try (cases g1; done))
      rename_i ht
      injection g1 with g1; subst g1
      simp only [aRes] at k1
      injection k1 with k1; subst k1
      have ht' : t < a.tmps.size := by rw [he.size]; exact ht
      have := he.rep t a.tmps[t] (by simp [ht'])
      refine ⟨a.tmps[t] :: vs, ?_, .cons this e2⟩
      simp only [resOne, Sem.run_bind, Sem.run_pure, Result.andThen_ok, e1]
      simp [ht']
    | cell ad t =>
      simp only [cvR] at g1
      split at g1 <;> (try (cases g1; done))
      rename_i d i hd hinf
      split at g1 <;> (try (cases g1; done))
      rename_i ht
      injection g1 with g1; subst g1
      simp only [aRes] at k1
      have ht' : ad < a.tmps.size := by rw [he.size]; exact ht
      have hr := he.rep ad a.tmps[ad] (by simp [ht'])
      obtain ⟨v, w', c', f1, f2, f3, f4⟩ := sound_load hd hinf rfl hi hr k1
      have hv : ∃ ad', a.tmps[ad] = .pointer (some ad') := by
        generalize a.tmps[ad] = v at hr
        generalize s.env ad = y at hr k1
        cases hr <;> simp only [aload] at k1 <;> (try (cases k1; done)) <;> exact ⟨_, rfl⟩
      obtain ⟨ad', hv⟩ := hv
      rw [hv] at f1
      simp only [Instr.loadAt, Instr.sureAddr, Sem.run_bind, Sem.run_pure, Result.andThen_ok] at f1
      -- a load leaves the world
      have hw : ∃ v, (loadVar t ad').run P w = .ok v w ∧ Rep c v u := by
        rw [hv] at hr
        generalize hpe : s.env ad = y at hr k1
        cases hr <;> simp only [aload] at k1 <;> (try (cases k1; done))
        case ptr b o vs y hl hc hrr lf =>
          obtain ⟨v, h1, h2⟩ := run_loadVar hd hinf w rfl (b := b) (o := o) ⟨hl, hrr⟩ lf (fun j u hj => hi.imm _ _ _ (hc j u hj)) k1
          exact ⟨v, by simpa using h1, h2⟩
        case ref k off hk =>
          cases hh : s.hs.heap k with
          | none => simp [hh] at k1
          | some ys' =>
            simp [hh] at k1
            obtain ⟨hlt, lf, vs, hr, hc⟩ := hi.readBlk hh
            obtain ⟨v, h1, h2⟩ := run_loadVar hd hinf w rfl hr lf hc k1
            exact ⟨v, h1, h2⟩
      obtain ⟨v2, h1, h2⟩ := hw
      refine ⟨v2 :: vs, ?_, .cons h2 e2⟩
      have hg : a.tmps.getD ad undef = .pointer (some ad') := by
        rw [← hv]; simp [ht']
      simp only [resOne, Sem.run_bind, hg, asAddr, Sem.run_pure, Result.andThen_ok, h1, e1]

theorem results_sound {P : Program} {n : Nat} {c : CM} {s : AS} {a : Act} {w : World} (he : EnvRep n c a s) (hi : Inv c s.hs w) {fn : Func} {ars : List ARes} (h1 : cvRs P n fn.results.toList = some ars) {x : AV} (h2 : aResult s ars = some x) :
    ∃ v, (results fn a.tmps).run P w = .ok v w ∧ Rep c v x := by
  obtain ⟨xs, hx, e⟩ := optmap_some h2
  obtain ⟨vs, h3, h4⟩ := aResL_sound he hi _ _ _ h1 hx
  have hm : (fn.results.mapM (resOne a)).run P w = .ok vs.toArray w := by
    rw [Array.mapM_eq_mapM_toList]
    simp only [Sem.run_map, h3, Result.andThen_ok]
  refine ⟨if h : vs.toArray.size = 1 then vs.toArray[0] else .tuple vs.toArray, ?_, ?_⟩
  · have e0 : results fn a.tmps = (do let vs ← fn.results.mapM (resOne a); Pure.pure (if h : vs.size = 1 then vs[0] else .tuple vs)) := by
      unfold results
      congr 2
    rw [e0]
    simp only [Sem.run_bind, hm, Result.andThen_ok, Sem.run_pure]
  · match xs, vs, h4, e with
    | [y], vs, h4, e =>
      obtain ⟨v, vs', rfl, hv, hvs⟩ := h4.cons_inv
      rw [hvs.nil_inv]
      simp only at e; subst e
      simpa using hv
    | [], vs, h4, e =>
      rw [h4.nil_inv]
      simp only at e; subst e
      simpa using Rep.tup (c := c) [] [] rfl (fun j v y h => by simp at h)
    | y :: y' :: ys, vs, h4, e =>
      have hl : vs.length = ys.length + 2 := by rw [h4.1]; simp
      simp only at e; subst e
      have hne : ¬ vs.toArray.size = 1 := by simp; omega
      rw [dif_neg hne]
      exact .tup vs _ h4.1 h4.2

def argEnv (args : List AV) : Nat → AV := fun i => args.getD i .undef

/-- what a whole body must come to -/
def finQ (rs : List ARes) (R : AEnd → HS → Prop) : AEx → AS → Prop
  | .normal, s => optK (aResult s rs) fun x => R (.ret x) s.hs
  | .ret, s => optK (aResult s rs) fun x => R (.ret x) s.hs
  | .panic x, s => R (.panic x) s.hs
  | _, _ => False

structure FnOk (P : Program) (f : FuncId) (muts : List Nat) (pu : List FuncId) (ac : ACode) (rs : List ARes) (n : Nat) : Prop where
  ex : ∃ fn body, P.funcs[f]? = some fn ∧ fn.body = some body ∧ fn.ntmps = n ∧ cvtC P n muts pu body = some ac ∧ cvRs P n fn.results.toList = some rs
  ok : callOk P f = true

theorem FCall.of_body {P : Program} {C : PCtx} (hC : CtxOk P C) {f : FuncId} {muts : List Nat} {pu : List FuncId} {ac : ACode} {rs : List ARes} {n : Nat} (hf : FnOk P f muts pu ac rs n) {args : List AV} {hs : HS} {R : AEnd → HS → Prop} (hn : args.length ≤ n)
    (h : awp P C ac (finQ rs R) ⟨argEnv args, hs⟩) : FCall P f args hs R := by
  obtain ⟨fn, body, h1, h2, h3, h4, h5⟩ := hf.ex
  refine ⟨hf.ok, fun c w vs hi hv => ?_⟩
  have hvl := hv.1
  have hst : St n c w [] c ⟨argEnv args, hs⟩ { tmps := vs.toArray ++ Array.replicate (fn.ntmps - vs.toArray.size) undef, defers := [] } w := by
    refine ⟨⟨by simp; omega, fun t v ht => ?_⟩, hi, .refl _ _, rfl⟩
    simp only [argEnv]
    rw [Array.getElem?_append] at ht
    split at ht
    · rename_i hlt
      simp at hlt
      have hta : t < args.length := by omega
      rw [List.getD_eq_getElem?_getD, List.getElem?_eq_getElem hta]
      exact hv.2 t v args[t] (by simpa using ht) (List.getElem?_eq_getElem hta)
    · rename_i hlt
      simp at hlt
      rw [Array.getElem?_replicate] at ht
      split at ht <;> (try (cases ht; done))
      injection ht with ht; subst ht
      rw [List.getD_eq_getElem?_getD, List.getElem?_eq_none (by omega)]
      exact Rep.tup [] [] rfl (fun j v y h => by simp at h)
  refine calls_of_wp h1 h2 (wp_mono (awp_sound hC body ac h4 _ c _ _ w h hst) ?_)
  rintro e a' w' ⟨ae, c', s', hq, hm, hs'⟩
  have hret : optK (aResult s' rs) (fun x => R (.ret x) s'.hs) → bodyPost P fn (fun e w' => ∃ ae hs' c', R ae hs' ∧ EndRep c' e ae ∧ Inv c' hs' w' ∧ Fr c w c' w') .ret a' w' := by
    intro hq
    cases hx : aResult s' rs with
    | none => rw [hx] at hq; exact hq.elim
    | some x =>
      rw [hx] at hq
      obtain ⟨v, g1, g2⟩ := results_sound hs'.env hs'.inv h5 hx
      exact ⟨hs'.df, v, g1, .ret x, s'.hs, c', hq, g2, hs'.inv, hs'.fr⟩
  cases ae <;> cases e <;> simp only [ExM] at hm
  · exact hret hq
  · exact hq.elim
  · exact hq.elim
  · exact hret hq
  · exact ⟨hs'.df, .panic _, s'.hs, c', hq, hm, hs'.inv, hs'.fr⟩

theorem PCall.of_body {P : Program} {C : PCtx} (hC : CtxOk P C) {f : FuncId} {muts : List Nat} {pu : List FuncId} {ac : ACode} {rs : List ARes} {n : Nat} (hf : FnOk P f muts pu ac rs n) {args : List AV} {r : AV} (hn : args.length ≤ n) (hp : r.plain = true)
    (h : ∀ hs : HS, hs.bare → awp P C ac (finQ rs fun e _ => e = .ret r) ⟨argEnv args, hs⟩) : PCall P f args r :=
  ⟨hp, fun hs hb => FCall.of_body hC hf hn (h hs hb)⟩
end Fw
