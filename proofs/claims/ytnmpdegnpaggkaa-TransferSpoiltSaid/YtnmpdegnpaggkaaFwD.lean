/-
  The operations of the model on abstract values, and that each one's run reads as its abstract result. Own work; over any program.
-/
import Derived.Test.YtnmpdegnpaggkaaFwC
import Derived.Laws.StructEq
set_option linter.unusedVariables false
set_option linter.unusedSimpArgs false
namespace Fw
open Go

def DoneS (P : Program) (c : CM) (w : World) (m : Sem Value) (x : AV) (s' : HS) : Prop :=
  ∃ v w' c', m.run P w = .ok v w' ∧ Rep c' v x ∧ Inv c' s' w' ∧ Fr c w c' w'

theorem DoneS.pure {P : Program} {c : CM} {s : HS} {w : World} {m : Sem Value} {v : Value} {x : AV} (hi : Inv c s w) (h : m.run P w = .ok v w) (hr : Rep c v x) : DoneS P c w m x s :=
  ⟨v, w, c, h, hr, hi, .refl _ _⟩

theorem Rep.cells {c : CM} {v : Value} {x : AV} (h : Rep c v x) : RepL c v.cells.toList x.cells := by
  cases h with
  | agg vs xs hl h lf => exact ⟨by simpa [Value.cells, AV.cells] using hl, by simpa [Value.cells, AV.cells] using h⟩
  | int k n => exact .cons (.int k n) .nil
  | bool b => exact .cons (.bool b) .nil
  | str b => exact .cons (.str b) .nil
  | nilptr => exact .cons .nilptr .nil
  | nilsl => exact .cons .nilsl .nil
  | nilif => exact .cons .nilif .nil
  | nilfn => exact .cons .nilfn .nil
  | ptr b o vs x hl hc h lf => exact .cons (.ptr b o vs x hl hc h lf) .nil
  | ref i off hi => exact .cons (.ref i off hi) .nil
  | sl b o cap sz xs cp vs hl hz hc h lf hcap => exact .cons (.sl b o cap sz xs cp vs hl hz hc h lf hcap) .nil
  | tup vs xs hl h => exact .cons (.tup vs xs hl h) .nil
  | fn f v1 v2 x1 x2 a1 a2 a3 a4 => exact .cons (.fn f v1 v2 x1 x2 a1 a2 a3 a4) .nil
  | iface t v x h => exact .cons (.iface t v x h) .nil
theorem Rep.cells_leaf {c : CM} {v : Value} {x : AV} (h : Rep c v x) (hs : x.sto = true) : ∀ (j : Nat) (y : AV), x.cells[j]? = some y → y.leaf = true := by
  intro j y hy
  cases h <;> (try (simp [AV.sto] at hs; done)) <;> simp only [AV.cells] at hy
  case agg vs xs hl h lf => exact lf j y hy
  all_goals
    cases j with
    | zero => simp at hy; subst hy; rfl
    | succ j => simp at hy

/-! parts -/
def descAgg : TypeDesc → Bool
  | .struct _ => true
  | .array _ _ => true
  | _ => false
def apart (ag : Bool) (sz off : Nat) (cs : List AV) : Option AV :=
  if ag then (if off + sz ≤ cs.length then some (.agg ((cs.drop off).take sz)) else none)
  else cs[off]?

theorem run_part {P : Program} {t : TypeId} {d : TypeDesc} {i : TypeInfo} (hd : P.underlying t = some d) (hi : P.info? t = some i) (w : World) {ag : Bool} (hag : ag = descAgg d)
    {c : CM} {vs : List Value} {xs : List AV} (h : RepL c vs xs) (lf : ∀ (j : Nat) (y : AV), xs[j]? = some y → y.leaf = true) {off : Nat} {x : AV} (hx : apart ag i.size off xs = some x) :
    ∃ v, (part t vs.toArray off).run P w = .ok v w ∧ Rep c v x := by
  have hisAgg : (isAgg t).run P w = .ok ag w := by
    simp only [isAgg, Sem.run_bind, run_underlying hd, Result.andThen_ok]
    subst hag
    cases d <;> rfl
  simp only [part, Sem.run_bind, hisAgg, Result.andThen_ok]
  unfold apart at hx
  cases ag with
  | true =>
    simp only [if_true] at hx ⊢
    split at hx
    · rename_i hle
      injection hx with hx; subst hx
      refine ⟨.agg (vs.toArray.extract off (off + i.size)), by simp [Go.sizeOf, typeInfo, hi], ?_⟩
      have := Rep.agg ((vs.drop off).take i.size) ((xs.drop off).take i.size) (by simp [h.1]) (fun j v y h1 h2 => ((h.drop off).take i.size).2 j v y h1 h2) (fun j y hy => by
        rw [List.getElem?_take] at hy
        split at hy
        · rw [List.getElem?_drop] at hy; exact lf _ _ hy
        · cases hy)
      have e : (vs.toArray.extract off (off + i.size)) = ((vs.drop off).take i.size).toArray := by
        apply Array.ext'
        simp [List.extract_eq_take_drop]
      rw [e]; exact this
    · cases hx
  | false =>
    simp only [Bool.false_eq_true, if_false] at hx ⊢
    obtain ⟨v, hv, hr⟩ := h.get hx
    exact ⟨v, by simp [hv], hr⟩

/-! loads -/
def aload (hp : Nat → Option (List AV)) (ag : Bool) (sz : Nat) : AV → Option AV
  | .ptr x => apart ag sz 0 x.cells
  | .ref i off => (hp i).bind fun ys => apart ag sz off ys
  | _ => none

theorem run_loadVar {P : Program} {t : TypeId} {d : TypeDesc} {i : TypeInfo} (hd : P.underlying t = some d) (hi : P.info? t = some i) (w : World) {ag : Bool} (hag : ag = descAgg d)
    {c : CM} {b o : Nat} {vs : List Value} {xs : List AV} (h : RepL c vs xs) (lf : ∀ (j : Nat) (y : AV), xs[j]? = some y → y.leaf = true)
    (hc : ∀ (j : Nat) (v : Value), vs[j]? = some v → w.cell? ⟨b, o + j, none⟩ = some v) {off : Nat} {x : AV} (hx : apart ag i.size off xs = some x) :
    ∃ v, (loadVar t ⟨b, o + off, none⟩).run P w = .ok v w ∧ Rep c v x := by
  have hisAgg : (isAgg t).run P w = .ok ag w := by
    simp only [isAgg, Sem.run_bind, run_underlying hd, Result.andThen_ok]
    subst hag
    cases d <;> rfl
  simp only [loadVar, Sem.run_bind, hisAgg, Result.andThen_ok]
  unfold apart at hx
  cases ag with
  | true =>
    simp only [if_true] at hx ⊢
    split at hx
    · rename_i hle
      injection hx with hx; subst hx
      have hlen : ((vs.drop off).take i.size).length = i.size := by simp [h.1]; omega
      have hrun := run_loadCells_list (P := P) w ⟨b, o + off, none⟩ ((vs.drop off).take i.size) (fun j v hj => by
        rw [List.getElem?_take] at hj
        split at hj
        · rw [List.getElem?_drop] at hj
          rw [Addr.add_lit, show o + off + j = o + (off + j) by omega]
          exact hc _ _ hj
        · cases hj)
      rw [hlen] at hrun
      refine ⟨.agg ((vs.drop off).take i.size).toArray, by simp [Go.sizeOf, typeInfo, hi, hrun], ?_⟩
      exact Rep.agg ((vs.drop off).take i.size) ((xs.drop off).take i.size) (by simp [h.1]) (fun j v y h1 h2 => ((h.drop off).take i.size).2 j v y h1 h2) (fun j y hy => by
        rw [List.getElem?_take] at hy
        split at hy
        · rw [List.getElem?_drop] at hy; exact lf _ _ hy
        · cases hy)
    · cases hx
  | false =>
    simp only [Bool.false_eq_true, if_false] at hx ⊢
    obtain ⟨v, hv, hr⟩ := h.get hx
    exact ⟨v, by simp [hc _ _ hv], hr⟩

theorem Inv.readBlk {c : CM} {s : HS} {w : World} (h : Inv c s w) {i : Nat} {ys : List AV} (hi : s.heap i = some ys) :
    i < c.nh ∧ (∀ (j : Nat) (y : AV), ys[j]? = some y → y.leaf = true) ∧ ∃ vs, RepL c vs ys ∧ ∀ (j : Nat) (v : Value), vs[j]? = some v → w.cell? ⟨(c.loc i).1, (c.loc i).2 + j, none⟩ = some v := by
  obtain ⟨hlt, hall⟩ := h.heap i ys hi
  refine ⟨hlt, fun j y hy => (hall j y hy).1, ?_⟩
  have key : ∀ n, n ≤ ys.length → ∃ vs : List Value, vs.length = n ∧ (∀ (j : Nat) (v : Value) (y : AV), vs[j]? = some v → ys[j]? = some y → Rep c v y) ∧ ∀ (j : Nat) (v : Value), vs[j]? = some v → w.cell? ⟨(c.loc i).1, (c.loc i).2 + j, none⟩ = some v := by
    intro n
    induction n with
    | zero => intro _; exact ⟨[], rfl, fun j v y h => by simp at h, fun j v h => by simp at h⟩
    | succ n ih =>
      intro hn
      obtain ⟨vs, hl, h1, h2⟩ := ih (by omega)
      obtain ⟨_, _, _, v, hv, hr⟩ := hall n ys[n] (List.getElem?_eq_getElem _)
      refine ⟨vs ++ [v], by simp [hl], fun j u y hu hy => ?_, fun j u hu => ?_⟩
      · rw [List.getElem?_append] at hu
        split at hu
        · exact h1 j u y hu hy
        · have : j = n := by
            rcases Nat.lt_or_ge (j - vs.length) 1 with h' | h'
            · omega
            · rw [List.getElem?_eq_none (by simpa using h')] at hu; cases hu
          subst this
          simp [hl] at hu
          subst hu
          rw [List.getElem?_eq_getElem (by omega)] at hy
          injection hy with hy; subst hy; exact hr
      · rw [List.getElem?_append] at hu
        split at hu
        · exact h2 j u hu
        · have : j = n := by
            rcases Nat.lt_or_ge (j - vs.length) 1 with h' | h'
            · omega
            · rw [List.getElem?_eq_none (by simpa using h')] at hu; cases hu
          subst this
          simp [hl] at hu
          subst hu; exact hv
  obtain ⟨vs, h1, h2, h3⟩ := key ys.length (Nat.le_refl _)
  exact ⟨vs, ⟨h1, h2⟩, h3⟩

theorem sound_load {P : Program} {t : TypeId} {d : TypeDesc} {i : TypeInfo} (hd : P.underlying t = some d) (hi : P.info? t = some i) {ag : Bool} (hag : ag = descAgg d)
    {c : CM} {s : HS} {w : World} (h : Inv c s w) {v : Value} {p x : AV} (hp : Rep c v p) (hx : aload s.heap ag i.size p = some x) : DoneS P c w (Instr.loadAt t v) x s := by
  cases hp <;> simp only [aload] at hx <;> (try (cases hx; done))
  case ptr b o vs y hl hc hr lf =>
    obtain ⟨v, h1, h2⟩ := run_loadVar hd hi w hag (b := b) (o := o) ⟨hl, hr⟩ lf (fun j u hj => h.imm _ _ _ (hc j u hj)) hx
    exact .pure h (by simp only [Instr.loadAt, Instr.sureAddr, Sem.run_bind, Sem.run_pure, Result.andThen_ok]; simpa using h1) h2
  case ref k off hk =>
    cases hh : s.heap k with
    | none => simp [hh] at hx
    | some ys =>
      simp [hh] at hx
      obtain ⟨hlt, lf, vs, hr, hc⟩ := h.readBlk hh
      obtain ⟨v, h1, h2⟩ := run_loadVar hd hi w hag hr lf hc hx
      exact .pure h (by simp only [Instr.loadAt, Instr.sureAddr, Sem.run_bind, Sem.run_pure, Result.andThen_ok]; exact h1) h2

/-! stores -/
def astore (hp : Nat → Option (List AV)) (sz : Nat) (p x : AV) : Option (Nat → Option (List AV)) :=
  match p with
  | .ref i off => (hp i).bind fun ys => if x.sto = true ∧ x.cells.length = sz ∧ off + sz ≤ ys.length then some (fun k => if k = i then some (setL ys off x.cells) else hp k) else none
  | _ => none

theorem sound_store {P : Program} {t : TypeId} {i : TypeInfo} (hi : P.info? t = some i) {c : CM} {s : HS} {w : World} (h : Inv c s w) {u v : Value} {p x : AV} (hp : Rep c u p) (hv : Rep c v x)
    {hp' : Nat → Option (List AV)} (hx : astore s.heap i.size p x = some hp') : ∃ w', (Instr.storeAt t u v).run P w = .ok () w' ∧ Inv c { s with heap := hp' } w' ∧ Fr c w c w' := by
  cases hp <;> simp only [astore] at hx <;> (try (cases hx; done))
  case ref k off hk =>
    cases hh : s.heap k with
    | none => simp [hh] at hx
    | some ys =>
      simp [hh] at hx
      obtain ⟨⟨hs, hl, hlen⟩, rfl⟩ := hx
      have hcl := hv.cells
      obtain ⟨s', rfl, h1, h2⟩ := Inv.setBlkL k x.cells v.cells.toList s w ys off h hh hcl (hv.cells_leaf hs) (by omega)
      obtain ⟨hlt, hall⟩ := h.heap k ys hh
      have hsz : v.cells.size = i.size := by rw [← hl]; simpa using hcl.1
      have hrun := run_storeCells (P := P) (c.loc k).1 v.cells.toList ((c.loc k).2 + off) 0 w (fun j hj => by
        have hj' : off + j < ys.length := by rw [hcl.1] at hj; omega
        obtain ⟨_, _, h3, u', h4, _⟩ := hall (off + j) ys[off + j] (List.getElem?_eq_getElem _)
        rw [show (c.loc k).2 + off + 0 + j = (c.loc k).2 + (off + j) by omega]
        exact ⟨⟨u', h4⟩, h3⟩) (hcl.oneCell (hv.cells_leaf hs))
      refine ⟨_, ?_, h1, h2⟩
      simp only [Instr.storeAt, Instr.sureAddr, storeVar, Sem.run_bind, Sem.run_pure, Result.andThen_ok, Go.sizeOf, typeInfo, run_program, hi, hsz]
      simpa using hrun

/-! new variables -/
theorem sound_newBlk {P : Program} {t : TypeId} {c : CM} {s : HS} {w : World} (h : Inv c s w) {v : Value} {x : AV} (hv : Rep c v x) (hs : x.sto = true) :
    DoneS P c w (do Pure.pure (.pointer (some (← newVar t v)))) (.ref s.nh 0) { s with heap := fun i => if i = s.nh then some x.cells else s.heap i, nh := s.nh + 1 } := by
  obtain ⟨c', h1, h2, h3⟩ := h.newBlk v.cells.toList x.cells t hv.cells (hv.cells_leaf hs)
  refine ⟨.pointer (some ⟨w.heap.size, 0, none⟩), _, c', ?_, h3, h1, h2⟩
  simp [newVar, newRow]
theorem sound_newImm {P : Program} {t : TypeId} {c : CM} {s : HS} {w : World} (h : Inv c s w) {v : Value} {x : AV} (hv : Rep c v x) (hs : x.sto = true) :
    DoneS P c w (do Pure.pure (.pointer (some (← newVar t v)))) (.ptr x) s := by
  obtain ⟨c', h1, h2, h3⟩ := h.newImm v.cells t
  refine ⟨.pointer (some ⟨w.heap.size, 0, none⟩), _, c', by simp [newVar, newRow], ?_, h1, h2⟩
  have hcl := (hv.mono h2.le).cells
  exact .ptr w.heap.size 0 v.cells.toList x hcl.1 (fun j u hj => by rw [Nat.zero_add]; exact h3 j u (by simpa using hj)) hcl.2 (hv.cells_leaf hs)

/-! addresses -/
theorem Rep.ptr_part {c : CM} {b o : Nat} {vs : List Value} {xs : List AV} (h : RepL c vs xs) (hc : ∀ (j : Nat) (v : Value), vs[j]? = some v → c.cl b (o + j) = .imm v)
    (lf : ∀ (j : Nat) (y : AV), xs[j]? = some y → y.leaf = true) {ag : Bool} {sz off : Nat} {x : AV} (hx : apart ag sz off xs = some x) : Rep c (.pointer (some ⟨b, o + off, none⟩)) (.ptr x) := by
  unfold apart at hx
  cases ag with
  | true =>
    simp only [if_true] at hx
    split at hx
    · rename_i hle
      injection hx with hx; subst hx
      have hr := (h.drop off).take sz
      refine .ptr b (o + off) ((vs.drop off).take sz) _ hr.1 (fun j v hj => ?_) hr.2 (fun j y hy => ?_)
      · rw [List.getElem?_take] at hj
        split at hj
        · rw [List.getElem?_drop] at hj
          rw [Nat.add_assoc]; exact hc _ _ hj
        · cases hj
      · simp only [AV.cells] at hy
        rw [List.getElem?_take] at hy
        split at hy
        · rw [List.getElem?_drop] at hy; exact lf _ _ hy
        · cases hy
    · cases hx
  | false =>
    simp only [Bool.false_eq_true, if_false] at hx
    obtain ⟨v, hv, hr⟩ := h.get hx
    have hl := lf _ _ hx
    have hcells : x.cells = [x] := by cases x <;> first | rfl | (simp [AV.leaf] at hl)
    refine .ptr b (o + off) [v] x (by simp [hcells]) (fun j u hj => ?_) (fun j u y hu hy => ?_) (fun j y hy => ?_)
    · cases j with
      | zero => simp at hj; subst hj; exact hc _ _ hv
      | succ j => simp at hj
    · rw [hcells] at hy
      cases j with
      | zero => simp at hu hy; subst hu; subst hy; exact hr
      | succ j => simp at hu
    · rw [hcells] at hy
      cases j with
      | zero => simp at hy; subst hy; exact hl
      | succ j => simp at hy

def afaddr (ag : Bool) (sz off : Nat) : AV → Option AV
  | .ptr x => (apart ag sz off x.cells).map .ptr
  | .ref i o => some (.ref i (o + off))
  | _ => none

theorem Rep.shift {c : CM} {v : Value} {p x : AV} (hp : Rep c v p) {ag : Bool} {sz off : Nat} (hx : afaddr ag sz off p = some x) : ∃ a, v = .pointer (some a) ∧ Rep c (.pointer (some (a.add off))) x := by
  cases hp <;> simp only [afaddr] at hx <;> (try (cases hx; done))
  case ptr b o vs y hl hc hr lf =>
    cases h : apart ag sz off y.cells with
    | none => simp [h] at hx
    | some z =>
      simp [h] at hx; subst hx
      exact ⟨_, rfl, by rw [Addr.add_lit]; exact Rep.ptr_part ⟨hl, hr⟩ hc lf h⟩
  case ref i o hi =>
    injection hx with hx; subst hx
    exact ⟨_, rfl, by rw [Addr.add_lit, Nat.add_assoc]; exact .ref i (o + off) hi⟩

theorem sound_fieldAddr {P : Program} {t : TypeId} {fs : Array Field} {fno : Nat} {f : Field} {i : TypeInfo} (hd : P.underlying t = some (.struct fs)) (hf : fs[fno]? = some f) (hi : P.info? f.type = some i) (hz : i.size ≠ 0) {ag : Bool}
    {c : CM} {s : HS} {w : World} (h : Inv c s w) {v : Value} {p x : AV} (hp : Rep c v p) (hx : afaddr ag i.size f.offset p = some x) : DoneS P c w (Instr.fieldAt t v fno) x s := by
  obtain ⟨a, rfl, hr⟩ := hp.shift hx
  refine .pure h ?_ hr
  simp [Instr.fieldAt, run_underlying hd, hf, Instr.sureAddr, fieldPlace, Go.sizeOf, typeInfo, hi, hz]

/-! elements -/
theorem flat_length {xs : List AV} {sz : Nat} (h : ∀ x ∈ xs, x.cells.length = sz) : (flat xs).length = xs.length * sz := by
  induction xs with
  | nil => simp [flat]
  | cons x xs ih =>
    simp only [flat, List.length_append, List.length_cons, h x (by simp), ih fun y hy => h y (by simp [hy])]
    rw [Nat.add_mul]; omega
theorem flat_append (xs ys : List AV) : flat (xs ++ ys) = flat xs ++ flat ys := by
  induction xs with
  | nil => rfl
  | cons x xs ih => simp [flat, ih]
theorem flat_take {xs : List AV} {sz : Nat} (h : ∀ x ∈ xs, x.cells.length = sz) (n : Nat) : flat (xs.take n) = (flat xs).take (n * sz) := by
  induction xs generalizing n with
  | nil => simp [flat]
  | cons x xs ih =>
    cases n with
    | zero => simp [flat]
    | succ n =>
      have hx := h x (by simp)
      simp only [List.take_succ_cons, flat, ih (fun y hy => h y (by simp [hy])) n]
      rw [List.take_append, hx, List.take_of_length_le (l := x.cells) (by rw [hx, Nat.add_mul]; omega), Nat.add_mul]
      congr 2; omega
theorem flat_drop {xs : List AV} {sz : Nat} (h : ∀ x ∈ xs, x.cells.length = sz) (n : Nat) : flat (xs.drop n) = (flat xs).drop (n * sz) := by
  induction xs generalizing n with
  | nil => simp [flat]
  | cons x xs ih =>
    cases n with
    | zero => simp [flat]
    | succ n =>
      have hx := h x (by simp)
      simp only [List.drop_succ_cons, flat, ih (fun y hy => h y (by simp [hy])) n]
      rw [List.drop_append, hx, List.drop_eq_nil_of_le (as := x.cells) (by rw [hx, Nat.add_mul]; omega), Nat.add_mul]
      simp only [List.nil_append]
      congr 1; omega
theorem flat_elem {xs : List AV} {sz : Nat} (h : ∀ x ∈ xs, x.cells.length = sz) {n : Nat} {x : AV} (hx : xs[n]? = some x) : ((flat xs).drop (n * sz)).take sz = x.cells := by
  have hn : n < xs.length := by
    rcases Nat.lt_or_ge n xs.length with h' | h'
    · exact h'
    · simp [List.getElem?_eq_none h'] at hx
  rw [← flat_drop h n, List.drop_eq_getElem_cons hn]
  have hxe : xs[n] = x := by rw [List.getElem?_eq_getElem hn] at hx; injection hx
  rw [hxe]
  simp only [flat]
  rw [← h x (List.mem_iff_getElem?.2 ⟨n, hx⟩), List.take_left]

def aidxS (sz : Nat) : AV → AV → Option AV
  | .sl sz' xs _, .int _ n => if sz' = sz ∧ 0 ≤ n then (xs[n.toNat]?).map .ptr else none
  | _, _ => none

theorem sound_indexS {P : Program} {t e : TypeId} {i : TypeInfo} (hd : P.underlying t = some (.slice e)) (hi : P.info? e = some i)
    {c : CM} {s : HS} {w : World} (h : Inv c s w) {v u : Value} {p k x : AV} (hp : Rep c v p) (hk : Rep c u k) (hx : aidxS i.size p k = some x) : DoneS P c w (Instr.indexAt t v u) x s := by
  cases hp <;> cases hk <;> simp only [aidxS] at hx <;> (try (cases hx; done))
  case sl.int b o cap sz xs cp vs hl hz hc hr lf hcap kk n =>
    split at hx
    · rename_i hcond
      obtain ⟨rfl, h0⟩ := hcond
      cases hxn : xs[n.toNat]? with
      | none => simp [hxn] at hx
      | some y =>
        simp [hxn] at hx; subst hx
        have hn : n.toNat < xs.length := by
          rcases Nat.lt_or_ge n.toNat xs.length with h' | h'
          · exact h'
          · simp [List.getElem?_eq_none h'] at hxn
        have hlt : n < (xs.length : Int) := by omega
        refine .pure h (v := .pointer (some ⟨b, o + n.toNat * i.size, none⟩)) ?_ ?_
        · simp [Instr.indexAt, asIntOf, run_underlying hd, h0, hlt, Go.sizeOf, typeInfo, hi, Addr.add_lit]
        · have hy : y.cells.length = i.size := hz y (List.mem_iff_getElem?.2 ⟨_, hxn⟩)
          have he := flat_elem hz hxn
          have hr' : RepL c vs (flat xs) := ⟨hl, hr⟩
          have hrr := (hr'.drop (n.toNat * i.size)).take i.size
          rw [he] at hrr
          refine .ptr b (o + n.toNat * i.size) _ y hrr.1 (fun j u hj => ?_) hrr.2 (fun j z hj => ?_)
          · rw [List.getElem?_take] at hj
            split at hj
            · rw [List.getElem?_drop] at hj
              rw [Nat.add_assoc]; exact hc _ _ hj
            · cases hj
          · rw [← he, List.getElem?_take] at hj
            split at hj
            · rw [List.getElem?_drop] at hj; exact lf _ _ hj
            · cases hj
    · cases hx

/-- element of an array behind a pointer -/
def aidxA (len : Nat) (ag : Bool) (sz : Nat) : AV → AV → Option AV
  | p, .int _ n => if 0 ≤ n ∧ n < len then afaddr ag sz (n.toNat * sz) p else none
  | _, _ => none

theorem sound_indexA {P : Program} {t e : TypeId} {len : Nat} {i : TypeInfo} (hd : P.underlying t = some (.array len e)) (hi : P.info? e = some i) {ag : Bool}
    {c : CM} {s : HS} {w : World} (h : Inv c s w) {v u : Value} {p k x : AV} (hp : Rep c v p) (hk : Rep c u k) (hx : aidxA len ag i.size p k = some x) : DoneS P c w (Instr.indexAt t v u) x s := by
  cases hk <;> simp only [aidxA] at hx <;> (try (cases hx; done))
  case int kk n =>
    split at hx
    · rename_i hcond
      obtain ⟨h0, h1⟩ := hcond
      obtain ⟨a, rfl, hr⟩ := hp.shift hx
      refine .pure h ?_ hr
      simp [Instr.indexAt, asIntOf, run_underlying hd, h0, h1, Instr.sureAddr, Go.sizeOf, typeInfo, hi]
    · cases hx

/-- element of an array value -/
def aindex (len : Nat) (ag : Bool) (sz : Nat) : AV → AV → Option AV
  | .agg xs, .int _ n => if 0 ≤ n ∧ n < len then apart ag sz (n.toNat * sz) xs else none
  | _, _ => none

theorem sound_index {P : Program} {t e : TypeId} {len : Nat} {d : TypeDesc} {i : TypeInfo} (hd : P.underlying t = some (.array len e)) (hde : P.underlying e = some d) (hi : P.info? e = some i) {ag : Bool} (hag : ag = descAgg d)
    {c : CM} {s : HS} {w : World} (h : Inv c s w) {v u : Value} {p k x : AV} (hp : Rep c v p) (hk : Rep c u k) (hx : aindex len ag i.size p k = some x) : DoneS P c w (Instr.index t v u) x s := by
  cases hp <;> cases hk <;> simp only [aindex] at hx <;> (try (cases hx; done))
  case agg.int vs xs hl hr lf kk n =>
    split at hx
    · rename_i hcond
      obtain ⟨h0, h1⟩ := hcond
      obtain ⟨v, e1, e2⟩ := run_part hde hi w hag ⟨hl, hr⟩ lf hx
      refine .pure h ?_ e2
      simp only [Instr.index, asIntOf, Sem.run_bind, Sem.run_pure, Result.andThen_ok, run_underlying hd, h0, h1, and_self, if_true, Go.sizeOf, typeInfo, run_program, hi]
      exact e1
    · cases hx

def afield (ag : Bool) (sz off : Nat) : AV → Option AV
  | .agg xs => apart ag sz off xs
  | _ => none

theorem sound_field {P : Program} {t : TypeId} {fs : Array Field} {fno : Nat} {f : Field} {d : TypeDesc} {i : TypeInfo} (hd : P.underlying t = some (.struct fs)) (hf : fs[fno]? = some f) (hde : P.underlying f.type = some d) (hi : P.info? f.type = some i) {ag : Bool} (hag : ag = descAgg d)
    {c : CM} {s : HS} {w : World} (h : Inv c s w) {v : Value} {p x : AV} (hp : Rep c v p) (hx : afield ag i.size f.offset p = some x) : DoneS P c w (Instr.field t v fno) x s := by
  cases hp <;> simp only [afield] at hx <;> (try (cases hx; done))
  case agg vs xs hl hr lf =>
    obtain ⟨v, e1, e2⟩ := run_part hde hi w hag ⟨hl, hr⟩ lf hx
    refine .pure h ?_ e2
    simp only [Instr.field, Sem.run_bind, run_underlying hd, Result.andThen_ok, hf, asAgg, Sem.run_pure]
    exact e1

def aextract : AV → Nat → Option AV
  | .tup xs, n => xs[n]?
  | _, _ => none
theorem sound_extract {P : Program} {c : CM} {s : HS} {w : World} (h : Inv c s w) {v : Value} {p x : AV} (hp : Rep c v p) {n : Nat} (hx : aextract p n = some x) : DoneS P c w (Instr.extract v n) x s := by
  cases hp <;> simp only [aextract] at hx <;> (try (cases hx; done))
  case tup vs xs hl hr =>
    obtain ⟨v, hv, hr'⟩ := RepL.get ⟨hl, hr⟩ hx
    exact .pure h (by simp [Instr.extract, hv]) hr'

def alen : AV → Option AV
  | .sl _ xs _ => some (.int .i64 xs.length)
  | .nilsl => some (.int .i64 0)
  | .str s => some (.int .i64 s.size)
  | _ => none
end Fw
