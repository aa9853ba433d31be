/-
  Several lists under way side by side. Own work; over any program.
  From a contract to the whole program's world: nothing of the caller's memory may be written, so all of it is as it was. Own work; over any program.
  Arguments of whatever plain type (integers, bools, strings, slices of these, structs, arrays), read by value: one law for all of them. Own work; over any program.
  From a contract of a law to its row: whatever its arguments are. Own work, after the template that the seat lays; over any program.
  Calls of pure functions, as calls with memory. Own work; over any program.
  Regions whose order is open: calls of pure closures, and loads under a guard, may be done first. Own work; over any program.
  Appends where a run stands; lists as results. Own work; over any program.
  Lists of numbers wherever they lie; rows of lists; contexts that know a function of a list. Own work; over any program.
  Stepping over strings that are read by their bytes. Own work; over any program.
  From a walk of the kit's make to a call that stands alone. Own work; over any program.
  Contexts that know a function at a family of arguments, by existence. Own work; over any program.
  Bits of integers that are not negative. Own work; over any program.
-/
import Derived.Test.YtdcpkgedaflnmaaDoorFx3
import Derived.ProofKit
import Derived.RowKit3
import Derived.Deep.Slices
import Derived.OpenShut
import Derived.Below
set_option linter.unusedVariables false
set_option linter.unusedSimpArgs false
namespace Fw
open Go

/-- the place where a slice may be appended to -/
def tk : AV → Option Nat
  | .sl _ _ (.own k) => some k
  | _ => none
def Apart (x y : AV) : Prop := ∀ k, tk x = some k → tk y ≠ some k
theorem Apart.symm {x y : AV} (h : Apart x y) : Apart y x := fun k h1 h2 => h k h2 h1
@[simp] theorem Apart.nil {x : AV} : Apart .nilsl x := fun k h => by simp [tk] at h
@[simp] theorem Apart.nil' {x : AV} : Apart x .nilsl := fun k _ h => by simp [tk] at h
theorem Outs.tk_lt {sz : Nat} {hs : HS} {x : AV} {l : List AV} (h : Outs sz hs x l) {k : Nat} (hk : tk x = some k) : k < hs.nt ∧ hs.tok k = true := by
  rcases h.inv with ⟨rfl, _⟩ | ⟨xs, j, rfl, h1, _⟩
  · simp [tk] at hk
  · simp only [tk, Option.some.injEq] at hk; subst hk; exact ⟨h1.2, h1.1⟩
theorem Outs.move {sz : Nat} {hs hs' : HS} {x : AV} {l : List AV} (h : Outs sz hs x l) (hn : hs.nt ≤ hs'.nt) (ht : ∀ k, tk x = some k → hs'.tok k = true) : Outs sz hs' x l := by
  rcases h.inv with ⟨rfl, rfl⟩ | ⟨xs, j, rfl, h1, h2, h3⟩
  · exact .nil
  · exact ⟨⟨ht j rfl, Nat.lt_of_lt_of_le h1.2 hn⟩, h.sh⟩
theorem append_apart {sz : Nat} {hs : HS} {x q : AV} {l ys : List AV} (h : Outs sz hs x l) (hq : asV sz q = some ys) (hl : l.length + ys.length ≤ 1073741824) :
    ∃ y hs', aappend sz hs x q = some (y, hs') ∧ Outs sz hs' y (l ++ ys.map AV.share) ∧ SameMem hs hs' ∧
      ∀ {sz' : Nat} {z : AV} {l' : List AV}, Outs sz' hs z l' → Apart x z → Outs sz' hs' z l' ∧ Apart y z := by
  obtain ⟨e1, e2⟩ := elems_of hq
  rcases h.inv with ⟨rfl, rfl⟩ | ⟨xs, k, rfl, htk, rfl, hne⟩
  · rw [append_eq (xs := []) rfl e1 rfl e2 (by simpa using hl)]
    split
    · rename_i hy; subst hy; exact ⟨_, _, rfl, .nil, .refl _, fun hz ha => ⟨hz, ha⟩⟩
    · rename_i hy
      refine ⟨_, _, rfl, ⟨by simp [Fresh], ?_⟩, ⟨rfl, rfl⟩, fun hz ha => ⟨hz.move (by simp) fun k hk => ?_, fun k h1 h2 => ?_⟩⟩
      · rw [outV_ne (by simpa using hy)]
        simp
      · have := hz.tk_lt hk
        show (if k = hs.nt then true else hs.tok k) = true
        rw [if_neg (by omega)]; exact this.2
      · simp only [tk, Option.some.injEq] at h1
        subst h1
        have := hz.tk_lt h2
        omega
  · rw [append_eq (xs := xs) rfl e1 (by simp [aszOk]) e2 (by simpa using hl)]
    split
    · rename_i hy; subst hy; exact ⟨_, _, rfl, by simpa using h, .refl _, fun hz ha => ⟨hz, ha⟩⟩
    · rename_i hy
      simp only [appP, htk.1, if_true]
      refine ⟨_, _, rfl, ⟨by simp [Fresh], ?_⟩, ⟨rfl, rfl⟩, fun hz ha => ⟨hz.move (by simp) fun j hk => ?_, fun j h1 h2 => ?_⟩⟩
      · rw [outV_ne (by simp [hy])]
        simp
      · have := hz.tk_lt hk
        have hjk : j ≠ k := fun e => by subst e; exact ha j rfl hk
        show (if j = hs.nt then true else if j = k then false else hs.tok j) = true
        rw [if_neg (by omega), if_neg hjk]; exact this.2
      · simp only [tk, Option.some.injEq] at h1
        subst h1
        have := hz.tk_lt h2
        omega
end Fw
set_option linter.unusedVariables false
set_option linter.unusedSimpArgs false
namespace Fw
open Go Go.RowKit

def cm0 (W : World) : CM := { cl := fun b o => match W.cell? ⟨b, o, none⟩ with | some v => .imm v | none => .no, loc := fun _ => (0, 0), nh := 0, nt := 0, val := fun _ => false }
def hs0 : HS := ⟨fun _ => none, 0, 0, fun _ => false, fun _ => none⟩
theorem cm0_nw (W : World) (b o : Nat) : ((cm0 W).cl b o).writable = false := by
  simp only [cm0]
  split <;> rfl
theorem inv0 (W : World) (hg : GX (cm0 W)) : Inv (cm0 W) hs0 W := by
  refine ⟨rfl, rfl, fun _ => rfl, fun k h => by simp [cm0] at h, fun b o v h => ?_, fun b o k h => ?_, fun i ys h => by simp [hs0] at h, fun b o hb => ?_, fun i ps h => by simp [hs0] at h, hg⟩
  · simp only [cm0] at h
    split at h
    · rename_i u hu; injection h with h; subst h; exact hu
    · cases h
  · simp only [cm0] at h
    split at h <;> cases h
  · simp only [cm0]
    have : W.cell? ⟨b, o, none⟩ = none := by
      simp [World.cell?, hb]
    rw [this]
/-- nothing that was there turns; new blocks may be frozen -/
def Grw (W w' : World) : Prop := W.keptBut w' (fun _ => False) ∧ (∀ a : Addr, a.block < W.heap.size → w'.frozen? a = W.frozen? a) ∧ W.heap.size ≤ w'.heap.size
theorem Grw.frame {W w' : World} (h : Grw W w') (may : MemPlace → Prop) : W.keptBut w' may := World.keptBut_mono (fun p f => f.elim) h.1
theorem grown0 {W W' : World} {c : CM} (h : Fr (cm0 W) W c W') : Grw W W' := by
  refine ⟨⟨h.os, h.out, fun i hi => ?_⟩, h.frz, h.size⟩
  have := h.blk i hi
  generalize hx : W.heap[i]? = x at this
  cases x with
  | none => simp at hx; omega
  | some x =>
    cases x with
    | cells cs e fr =>
      simp only [FrB] at this
      obtain ⟨cs', e1, e2, e3⟩ := this
      rw [e1]
      exact ⟨rfl, rfl, e2, fun j _ => e3 j (cm0_nw W i j)⟩
    | map es clock =>
      simp only [FrB] at this
      obtain ⟨es', k', e1, e2⟩ := this
      obtain ⟨rfl, rfl⟩ := e2 (cm0_nw W i 0)
      rw [e1]
      exact .inr ⟨rfl, rfl⟩
    | _ =>
      simp only [FrB] at this
      rw [this]
theorem lift_true {P : Program} {f : FuncId} {args : List AV} (h : PCall P f args (.bool true)) {W : World} {vs : List Value} (hg : GX (cm0 W)) (hv : RepL (cm0 W) vs args) :
    Calls P f vs.toArray W fun e W' => e = .returned (.bool true) ∧ Grw W W' := by
  refine (h.sound (inv0 W hg) hv).mono ?_
  rintro e W' ⟨v, c', rfl, hr, _, hf⟩
  cases hr
  exact ⟨rfl, grown0 hf⟩
open Go.ChangeShapes Go.WideShapes in
/-- what a row asks behind a call that leaves all that was there as it was; new blocks may be frozen -/
theorem post_same_old {H : Type} {enc : TypeId × Value → H} {P : Program} {f : Func} {s : ChangeSpec} {apart fresh handsOn again : Bool} {W W' : World} {args : Array Value} {v : Value} {ds gs : List (DataW H)} {before pa pv : List MemPlace}
    (hW : DataW.Whole enc P f.params.toList s.vars apart W args.toList ds gs before)
    (hres : ∀ (b : Nat) (sp : Nat → Bool) (hd : Bool), DataW.TrodAll enc P W' b sp hd f.resultTypes.toList (v.resultList f.resultTypes.size) (s.fn H (ds ++ gs)).results [])
    (hargs : ∀ sp : Nat → Bool, (∀ p ∈ before, sp p.block = true) → DataW.TrodAll enc P W' 0 sp true f.params.toList args.toList (s.fn H (ds ++ gs)).args pa)
    (hvars : ∀ sp : Nat → Bool, (∀ p ∈ before, sp p.block = true) → DataW.TrodVars enc P W' sp s.vars (s.fn H (ds ++ gs)).vars pv)
    (hps : before = pa ++ pv) (hk : W.keptBut W' (· ∈ before)) (hfz : ∀ a : Addr, a.block < W.heap.size → W'.frozen? a = W.frozen? a)
    (hok : ∀ (j : Nat) (t : TypeId) (r : Value), f.resultTypes[j]? = some t → (v.resultList f.resultTypes.size)[j]? = some r → Value.okWide P W' .any 0 t r) :
    s.post enc P f apart fresh handsOn again W args v W' := by
  have hold : ∀ p ∈ before, (fun b => decide (b < W.heap.size)) p.block = true := fun p hp => by simpa using hW.lt p hp
  have hlt := hW.lt
  refine ⟨ds, gs, before, [], pa, pv, hW, hres _ _ _, hargs _ hold, hvars _ hold, World.keptBut_mono (fun p hp => ⟨hp, ?_⟩) hk, fun _ => ?_⟩
  · rw [hps, List.mem_append] at hp
    exact Or.inr hp
  · obtain ⟨_, _, _, _, _, hz, hn⟩ := hW
    refine ⟨hok, _, _, ([] ++ pa) ++ pv, ⟨[] ++ pa, pv, trodAll_append (hargs _ (fun _ _ => rfl)) (hres _ _ _), hvars _ (fun _ _ => rfl), rfl, ?_, ?_⟩, ?_⟩
    · intro b off hp
      have hp' : MemPlace.cell b off ∈ before := by rw [hps]; simpa using hp
      rw [hfz _ (by have := hlt _ hp'; simpa [MemPlace.block] using this)]
      exact hz b off hp'
    · intro ha
      have := hn ha
      rw [hps] at this
      simpa using this
    · intro p hp _
      rw [hps]
      simpa using hp
end Fw
set_option linter.unusedVariables false
set_option linter.unusedSimpArgs false
namespace Fw
open Go Go.RowKit Go.Deep Go.ChangeShapes Go.WideShapes

inductive Ty where
  | int (k : IntKind)
  | bool
  | str
  | sl (e : Ty)
  | isl (e : Ty)
  | st (r : Ty)
  | ar (n : Nat) (e : Ty)
  | fnil
  | fcons (f r : Ty)

def Ty.size : Ty → Nat
  | .int _ => 1
  | .bool => 1
  | .str => 1
  | .sl _ => 1
  | .isl _ => 1
  | .st r => r.size
  | .ar n e => n * e.size
  | .fnil => 0
  | .fcons f r => f.size + r.size
def Ty.isAgg : Ty → Bool
  | .st _ => true
  | .ar _ _ => true
  | _ => false

/-- that a type of the program is of this form: (as a type, as a row of fields from an offset on); inside slices: no slices -/
def Ty.ok (P : Program) : Ty → Bool → (TypeId → Bool) × (List Field → Nat → Bool)
  | .int k, _ => (fun t => match P.underlying t with | some (.int k') => decide (k' = k) && decide (P.cellsOf t = 1) | _ => false, fun _ _ => false)
  | .bool, _ => (fun t => match P.underlying t with | some .bool => decide (P.cellsOf t = 1) | _ => false, fun _ _ => false)
  | .str, _ => (fun t => match P.underlying t with | some .string => decide (P.cellsOf t = 1) | _ => false, fun _ _ => false)
  | .sl e, inner => (fun t => match P.underlying t with | some (.slice te) => !inner && decide (P.cellsOf t = 1) && decide (P.cellsOf te = e.size) && decide (0 < e.size) && (e.ok P true).1 te | _ => false, fun _ _ => false)
  | .isl e, _ => (fun t => match P.underlying t with | some (.slice te) => decide (P.cellsOf t = 1) && decide (P.cellsOf te = e.size) && decide (0 < e.size) && (e.ok P true).1 te | _ => false, fun _ _ => false)
  | .st r, inner => (fun t => match P.underlying t with | some (.struct fs) => decide (P.cellsOf t = r.size) && (r.ok P inner).2 fs.toList 0 | _ => false, fun _ _ => false)
  | .ar n e, inner => (fun t => match P.underlying t with | some (.array m te) => decide (m = n) && decide (P.cellsOf t = n * e.size) && decide (P.cellsOf te = e.size) && (e.ok P inner).1 te | _ => false, fun _ _ => false)
  | .fnil, _ => (fun _ => false, fun fs _ => fs.isEmpty)
  | .fcons f r, inner => (fun _ => false, fun fs off => match fs with | fd :: fds => decide (fd.offset = off) && decide (P.cellsOf fd.type = f.size) && (f.ok P inner).1 fd.type && (r.ok P inner).2 fds (off + f.size) | [] => false)

/-- what cells of a type read as -/
def Sh : Ty → List AV → Prop
  | .int k, cs => ∃ n, cs = [.int k n] ∧ (Lit.int k n).wf = true
  | .bool, cs => ∃ b, cs = [.bool b]
  | .str, cs => ∃ s, cs = [.str s]
  | .sl e, cs => cs = [.nilsl] ∨ ∃ xs, cs = [.sl e.size xs .shared] ∧ xs.length ≤ maxLen ∧ ∀ x ∈ xs, Sh e x.cells ∧ (if e.isAgg = true then x = .agg x.cells else x.cells = [x])
  | .isl e, cs => cs = [.nilsl] ∨ cs = [.esl] ∨ ∃ xs, cs = [.sl e.size xs .shared] ∧ xs.length ≤ maxLen ∧ ∀ x ∈ xs, Sh e x.cells ∧ (if e.isAgg = true then x = .agg x.cells else x.cells = [x])
  | .st r, cs => Sh r cs
  | .ar n e, cs => ∃ ls : List (List AV), cs = ls.flatten ∧ ls.length = n ∧ ∀ l ∈ ls, Sh e l
  | .fnil, cs => cs = []
  | .fcons f r, cs => ∃ a b, cs = a ++ b ∧ Sh f a ∧ Sh r b
def ShV (T : Ty) (x : AV) : Prop := Sh T x.cells ∧ (if T.isAgg = true then x = .agg x.cells else x.cells = [x])

theorem Sh.len : ∀ {T : Ty} {cs : List AV}, Sh T cs → cs.length = T.size
  | .int k, cs, h => by obtain ⟨n, rfl, _⟩ := h; rfl
  | .bool, cs, h => by obtain ⟨n, rfl⟩ := h; rfl
  | .str, cs, h => by obtain ⟨n, rfl⟩ := h; rfl
  | .sl e, cs, h => by rcases h with rfl | ⟨xs, rfl, _⟩ <;> rfl
  | .isl e, cs, h => by rcases h with rfl | rfl | ⟨xs, rfl, _⟩ <;> rfl
  | .st r, cs, h => Sh.len (T := r) h
  | .ar n e, cs, h => by
    obtain ⟨ls, rfl, rfl, h⟩ := h
    simp only [Ty.size]
    induction ls with
    | nil => simp
    | cons l ls ih =>
      have h1 := Sh.len (h l (by simp))
      have h2 := ih (fun l hl => h l (by simp [hl]))
      simp only [List.flatten_cons, List.length_append, List.length_cons, h1, h2, Nat.add_mul, Nat.one_mul]
      omega
  | .fnil, cs, h => by rw [show cs = [] from h]; rfl
  | .fcons f r, cs, h => by
    obtain ⟨a, b, rfl, h1, h2⟩ := h
    have := h1.len
    have := h2.len
    simp only [List.length_append, Ty.size]; omega

theorem flat_len {sz : Nat} : ∀ {xs : List AV}, (∀ x ∈ xs, x.cells.length = sz) → (flat xs).length = xs.length * sz
  | [], _ => by simp [flat]
  | x :: xs, h => by
    have := flat_len (xs := xs) (fun y hy => h y (by simp [hy]))
    have := h x (by simp)
    simp only [flat, List.length_append, List.length_cons, Nat.add_mul, Nat.one_mul]; omega
theorem flat_get {sz : Nat} : ∀ {xs : List AV}, (∀ x ∈ xs, x.cells.length = sz) → ∀ (i r : Nat) (hi : i < xs.length), r < sz → (flat xs)[i * sz + r]? = (xs[i]).cells[r]?
  | [], _, i, r, hi, _ => by simp at hi
  | x :: xs, h, 0, r, hi, hr => by
    have h1 := h x (by simp)
    simp only [flat, Nat.zero_mul, Nat.zero_add, List.getElem_cons_zero]
    rw [List.getElem?_append_left (by omega)]
  | x :: xs, h, i + 1, r, hi, hr => by
    have h1 := h x (by simp)
    simp only [flat, List.getElem_cons_succ]
    rw [List.getElem?_append_right (by rw [h1, Nat.add_mul]; omega), h1, show (i + 1) * sz + r - sz = i * sz + r by rw [Nat.add_mul]; omega]
    exact flat_get (fun y hy => h y (by simp [hy])) i r (by simpa using hi) hr

theorem grown_cell {W W' : World} (h : Grw W W') {a : Addr} {v : Value} (hc : W.cell? a = some v) : W'.cell? a = some v := by
  have hlt : a.block < W.heap.size := by
    rcases Nat.lt_or_ge a.block W.heap.size with h' | h'
    · exact h'
    · simp [World.cell?, h'] at hc
  have hk := h.1.2.2 a.block hlt
  unfold World.cell? at hc ⊢
  generalize W.heap[a.block]? = x at hk hc
  cases x with
  | none => cases hc
  | some x =>
    cases x <;> simp only at hc <;> (try (cases hc; done))
    rename_i cs t fr
    generalize W'.heap[a.block]? = y at hk ⊢
    cases y with
    | none => simp at hk
    | some y =>
      cases y <;> simp at hk
      rename_i cs' t' fr'
      simp only
      split at hc
      · cases hc
      · rename_i hsp
        rw [if_neg hsp, hk.2.2.2 a.off]; exact hc
theorem grown_cells {W W' : World} (h : Grw W W') {b : Nat} {a : Addr} {n : Nat} {cs : List Value} (hc : W.cells? b a n = some cs) : W'.cells? b a n = some cs := by
  obtain ⟨h1, h2, h3⟩ := World.cells?_some hc
  have key : ∀ i, i < n → W'.cell? (a.add i) = some (cs.getD i undef) := fun i hi => by
    have := h3 i hi
    rw [List.getElem?_eq_getElem (by omega)] at this
    rw [grown_cell h this]
    simp [List.getD, List.getElem?_eq_getElem (show i < cs.length by omega)]
  unfold World.cells?
  rw [if_pos h1, Go.ChangeShapes.mapM_range_of n key]
  congr 1
  apply List.ext_getElem
  · simp [h2]
  · intro i h4 h5
    simp [List.getD, h5]

variable {H : Type} {enc : TypeId × Value → H} {P : Program} {W : World}

/-- what is known of cells that read -/
structure Opn (P : Program) (enc : TypeId × Value → H) (W : World) (T : Ty) (cs : List Value) (xs : List AV) : Prop where
  rep : RepL (cm0 W) cs xs
  leaf : ∀ (j : Nat) (y : AV), xs[j]? = some y → y.leaf = true
  sh : Sh T xs

def Again (P : Program) (enc : TypeId × Value → H) (W : World) (t : TypeId) (cs : List Value) (d : DataW H) (p : List MemPlace) : Prop :=
  ∀ W', Grw W W' → ∀ sp : Nat → Bool, (∀ q ∈ p, sp q.block = true) → ∃ n, DataW.trod enc P W' 0 sp true n t cs = some (d, p)
def NoSpot (cs : List Value) : Prop := ∀ (a : Addr) (l c : Nat), Value.slice (some a) l c ∈ cs → a.spot = none

def MotT (P : Program) (enc : TypeId × Value → H) (W : World) (T : Ty) : Prop := ∀ (inner : Bool) (t : TypeId) (fuel : Nat) (cs : List Value) (d : DataW H) (p : List MemPlace), (T.ok P inner).1 t = true → (inner = false → NoSpot cs) →
  DataW.trod enc P W 0 (fun _ => true) true fuel t cs = some (d, p) → (∃ xs, Opn P enc W T cs xs) ∧ Again P enc W t cs d p
def MotR (P : Program) (enc : TypeId × Value → H) (W : World) (T : Ty) : Prop := ∀ (inner : Bool) (fds : List Field) (off n : Nat) (cs : List Value) (ys : List (DataW H × List MemPlace)), (T.ok P inner).2 fds off = true → (inner = false → NoSpot cs) →
  (∀ (i : Nat) (f : Field), fds[i]? = some f → DataW.trod enc P W 0 (fun _ => true) true n f.type ((cs.drop f.offset).take (P.cellsOf f.type)) = ys[i]?) → ys.length = fds.length → cs.length = off + T.size →
  (∃ xs, Opn P enc W T (cs.drop off) xs) ∧ ∀ W', Grw W W' → ∀ sp : Nat → Bool, (∀ q ∈ ys.flatMap (·.2), sp q.block = true) → ∃ m, fds.mapM (fun f => DataW.trod enc P W' 0 sp true m f.type ((cs.drop f.offset).take (P.cellsOf f.type))) = some ys

theorem leaf1 {x : AV} (h : x.leaf = true) : ∀ (j : Nat) (y : AV), [x][j]? = some y → y.leaf = true := by
  intro j y hy
  cases j with
  | zero => simp at hy; subst hy; exact h
  | succ j => simp at hy
theorem leaf_app {a b : List AV} (ha : ∀ (j : Nat) (y : AV), a[j]? = some y → y.leaf = true) (hb : ∀ (j : Nat) (y : AV), b[j]? = some y → y.leaf = true) : ∀ (j : Nat) (y : AV), (a ++ b)[j]? = some y → y.leaf = true := by
  intro j y hy
  rw [List.getElem?_append] at hy
  split at hy
  · exact ha _ _ hy
  · exact hb _ _ hy
theorem RepL.len {c : CM} {vs : List Value} {xs : List AV} (h : RepL c vs xs) : vs.length = xs.length := h.1
theorem nospot_drop {cs : List Value} (h : NoSpot cs) (n : Nat) : NoSpot (cs.drop n) := fun a l c hm => h a l c (List.mem_of_mem_drop hm)
theorem nospot_take {cs : List Value} (h : NoSpot cs) (n : Nat) : NoSpot (cs.take n) := fun a l c hm => h a l c (List.mem_of_mem_take hm)

section
variable {base : Nat} {spare : Nat → Bool} {held : Bool} {fuel : Nat} {t : TypeId} {cs : List Value} {d : DataW H} {p : List MemPlace}
theorem trod_int {k : IntKind} (ht : P.underlying t = some (.int k)) (h : DataW.trod enc P W base spare held fuel t cs = some (d, p)) : ∃ m, cs = [.int k m] ∧ (Lit.int k m).wf = true ∧ d = .lit (.int k m) ∧ p = [] := by
  cases fuel with
  | zero => simp [DataW.trod] at h
  | succ n =>
    unfold DataW.trod at h
    rw [ht] at h
    split at h <;> simp_all
theorem trod_bool {t : TypeId} (ht : P.underlying t = some .bool) (h : DataW.trod enc P W base spare held fuel t cs = some (d, p)) : ∃ m, cs = [.bool m] ∧ d = .lit (.bool m) ∧ p = [] := by
  cases fuel with
  | zero => simp [DataW.trod] at h
  | succ n =>
    unfold DataW.trod at h
    rw [ht] at h
    split at h <;> simp_all
theorem trod_str {t : TypeId} (ht : P.underlying t = some .string) (h : DataW.trod enc P W base spare held fuel t cs = some (d, p)) : ∃ s, cs = [.string s] ∧ s.size ≤ maxLen ∧ d = .lit (.string s.data.toList) ∧ p = [] := by
  cases fuel with
  | zero => simp [DataW.trod] at h
  | succ n =>
    unfold DataW.trod at h
    rw [ht] at h
    split at h <;> simp_all
theorem trod_array_mk {n m : Nat} {e : TypeId} {xs : List (DataW H × List MemPlace)} (ht : P.underlying t = some (.array n e)) (hl : cs.length = P.cellsOf t)
    (hp : (List.range n).mapM (fun i => DataW.trod enc P W base spare held m e ((cs.drop (i * P.cellsOf e)).take (P.cellsOf e))) = some xs) :
    DataW.trod enc P W base spare held (m + 1) t cs = some (.agg (xs.map (·.1)), xs.flatMap (·.2)) := by
  unfold DataW.trod
  rw [ht]
  split <;> simp_all
end

theorem mot_int (k : IntKind) : MotT P enc W (.int k) := by
  intro inner t fuel cs d p hok hns h
  simp only [Ty.ok] at hok
  split at hok <;> (try (cases hok; done))
  rename_i k' hu
  simp at hok
  obtain ⟨rfl, hc⟩ := hok
  obtain ⟨m, rfl, hwf, rfl, rfl⟩ := trod_int hu h
  refine ⟨⟨[.int _ m], ⟨.cons (.int _ m) .nil, leaf1 rfl, ⟨m, rfl, hwf⟩⟩⟩, fun W' hg sp hsp => ⟨1, ?_⟩⟩
  unfold DataW.trod
  simp [hu, hwf]
theorem mot_bool : MotT P enc W .bool := by
  intro inner t fuel cs d p hok hns h
  simp only [Ty.ok] at hok
  split at hok <;> (try (cases hok; done))
  rename_i hu
  obtain ⟨m, rfl, rfl, rfl⟩ := trod_bool hu h
  refine ⟨⟨[.bool m], ⟨.cons (.bool m) .nil, leaf1 rfl, ⟨m, rfl⟩⟩⟩, fun W' hg sp hsp => ⟨1, ?_⟩⟩
  unfold DataW.trod
  simp [hu]
theorem mot_str : MotT P enc W .str := by
  intro inner t fuel cs d p hok hns h
  simp only [Ty.ok] at hok
  split at hok <;> (try (cases hok; done))
  rename_i hu
  obtain ⟨m, rfl, hm, rfl, rfl⟩ := trod_str hu h
  refine ⟨⟨[.str m], ⟨.cons (.str m) .nil, leaf1 rfl, ⟨m, rfl⟩⟩⟩, fun W' hg sp hsp => ⟨1, ?_⟩⟩
  unfold DataW.trod
  simp [hu, hm]
theorem flat_leaf : ∀ {xs : List AV}, (∀ x ∈ xs, ∀ (j : Nat) (y : AV), x.cells[j]? = some y → y.leaf = true) → ∀ (j : Nat) (y : AV), (flat xs)[j]? = some y → y.leaf = true
  | [], _, j, y, h => by simp [flat] at h
  | x :: xs, hx, j, y, h => leaf_app (hx x (by simp)) (flat_leaf fun x h => hx x (by simp [h])) j y h
/-- one value out of its cells -/
def mkV (T : Ty) (xs : List AV) : AV := if T.isAgg = true then .agg xs else xs.headD .nilsl
theorem mkV_is {T : Ty} {xs : List AV} (h : Sh T xs) (hlf : ∀ (j : Nat) (y : AV), xs[j]? = some y → y.leaf = true) (h1 : T.isAgg = false → xs.length = 1) : (mkV T xs).cells = xs ∧ ShV T (mkV T xs) := by
  have hc : (mkV T xs).cells = xs := by
    unfold mkV
    split
    · rfl
    · rename_i ha
      have hl := h1 (by simpa using ha)
      match xs, hl with
      | [x], _ =>
        have := hlf 0 x rfl
        cases x <;> simp_all [AV.leaf, AV.cells]
  refine ⟨hc, ?_, ?_⟩
  · rw [hc]; exact h
  · rw [hc]
    unfold mkV
    split
    · rfl
    · rename_i ha
      have hl := h1 (by simpa using ha)
      match xs, hl with
      | [x], _ => rfl
theorem ok_size1 {T : Ty} {inner : Bool} {t : TypeId} (h : (T.ok P inner).1 t = true) (ha : T.isAgg = false) : T.size = 1 := by
  cases T <;> simp_all [Ty.isAgg, Ty.size, Ty.ok]

theorem mot_sl {e : Ty} (ihe : MotT P enc W e) : MotT P enc W (.sl e) := by
  intro inner t fuel cs d p hok hns h
  simp only [Ty.ok] at hok
  split at hok <;> (try (cases hok; done))
  rename_i te hu
  simp at hok
  obtain ⟨⟨⟨⟨hin, hc1⟩, hce⟩, hpos⟩, hoke⟩ := hok
  subst hin
  rcases open_slice hu h with ⟨rfl, hx⟩ | ⟨a, len, cap, m, n, D, Pl, rfl, hb, hl, hm, hmm, hx, hel⟩
  · injection hx with h1 h2; subst h1; subst h2
    refine ⟨⟨[.nilsl], ⟨.cons .nilsl .nil, leaf1 rfl, .inl rfl⟩⟩, fun W' hg sp hsp => ⟨1, ?_⟩⟩
    unfold DataW.trod
    simp [hu]
  · have hspot := hns rfl a len cap (by simp)
    obtain ⟨b, o, sp0⟩ := a
    simp only at hspot
    subst hspot
    simp only [if_true] at hmm
    have hmm' := hmm.symm
    subst hmm'
    injection hx with h1 h2
    rw [hce] at hel h2
    generalize hz : e.size = z at *
    -- each element
    have helt : ∀ i, i < len → ∃ xs, (∃ cs', W.cells? 0 (Addr.add ⟨b, o, none⟩ (i * z)) z = some cs' ∧ Opn P enc W e cs' xs) := fun i hi => by
      obtain ⟨cs', g1, g2⟩ := hel i (by omega)
      obtain ⟨⟨xs, hxs⟩, _⟩ := ihe true te n cs' (D i) (Pl i) hoke (fun h => by cases h) g2
      exact ⟨xs, cs', g1, hxs⟩
    obtain ⟨F, hF⟩ := choose_lt helt
    have hFl : ∀ i, i < len → (F i).length = z := fun i hi => by
      obtain ⟨cs', g1, g2⟩ := hF i hi
      rw [g2.sh.len, hz]
    have hone : e.isAgg = false → ∀ i, i < len → (F i).length = 1 := fun ha i hi => by rw [hFl i hi, ← hz]; exact ok_size1 hoke ha
    have hmk : ∀ i, i < len → (mkV e (F i)).cells = F i ∧ ShV e (mkV e (F i)) := fun i hi => by
      obtain ⟨cs', g1, g2⟩ := hF i hi
      exact mkV_is g2.sh g2.leaf (fun ha => hone ha i hi)
    let xs : List AV := (List.range len).map fun i => mkV e (F i)
    have hxl : xs.length = len := by simp [xs]
    have hxz : ∀ x ∈ xs, x.cells.length = z := by
      intro x hx
      simp only [xs, List.mem_map, List.mem_range] at hx
      obtain ⟨i, hi, rfl⟩ := hx
      rw [(hmk i hi).1, hFl i hi]
    let vs : List Value := (List.range (len * z)).map fun j => (W.cell? ⟨b, o + j, none⟩).getD undef
    have hvl : vs.length = len * z := by simp [vs]
    have hfl : (flat xs).length = len * z := by rw [flat_len hxz, hxl]
    -- each cell
    have hcell : ∀ i r, i < len → r < z → ∃ v y, W.cell? ⟨b, o + (i * z + r), none⟩ = some v ∧ (F i)[r]? = some y ∧ Rep (cm0 W) v y := fun i r hi hr => by
      obtain ⟨cs', g1, g2⟩ := hF i hi
      obtain ⟨_, g3, g4⟩ := World.cells?_some g1
      have hy : (F i)[r]? = some ((F i)[r]'(by rw [hFl i hi]; exact hr)) := by simp [hFl i hi, hr]
      obtain ⟨v, hv1, hv2⟩ := g2.rep.get hy
      refine ⟨v, _, ?_, hy, hv2⟩
      have := g4 r hr
      rw [Go.Deep.add_add, add_plain, hv1] at this
      exact this
    have hdiv : ∀ j, j < len * z → j / z < len ∧ j % z < z ∧ j = j / z * z + j % z := fun j hj => by
      refine ⟨(Nat.div_lt_iff_lt_mul hpos).2 hj, Nat.mod_lt _ hpos, ?_⟩
      rw [Nat.mul_comm]; exact (Nat.div_add_mod j z).symm
    have hall : ∀ j, j < len * z → ∃ v y, W.cell? ⟨b, o + j, none⟩ = some v ∧ vs[j]? = some v ∧ (flat xs)[j]? = some y ∧ Rep (cm0 W) v y := fun j hj => by
      obtain ⟨h1, h2, h3⟩ := hdiv j hj
      obtain ⟨v, y, g1, g2, g3⟩ := hcell _ _ h1 h2
      rw [← h3] at g1
      refine ⟨v, y, g1, by simp [vs, hj, g1], ?_, g3⟩
      rw [h3, flat_get hxz _ _ (by rw [hxl]; exact h1) h2]
      have : xs[j / z]'(by rw [hxl]; exact h1) = mkV e (F (j / z)) := by simp [xs]
      rw [this, (hmk _ h1).1]
      exact g2
    have hrep : Rep (cm0 W) (.slice (some ⟨b, o, none⟩) xs.length cap) (.sl z xs .shared) := by
      refine .sl b o cap z xs .shared vs (by rw [hvl, hfl]) hxz ?_ ?_ ?_ (by simpa [CapOk, hxl] using hl)
      · intro j v hj
        have hjl : j < len * z := by
          rcases Nat.lt_or_ge j (len * z) with h' | h'
          · exact h'
          · rw [List.getElem?_eq_none (by omega)] at hj; cases hj
        obtain ⟨v', y, g1, g2, _⟩ := hall j hjl
        rw [g2] at hj; injection hj with hj; subst hj
        simp only [cm0, g1]
      · intro j v y hj hy
        have hjl : j < len * z := by
          rcases Nat.lt_or_ge j (len * z) with h' | h'
          · exact h'
          · rw [List.getElem?_eq_none (by omega)] at hj; cases hj
        obtain ⟨v', y', g1, g2, g3, g4⟩ := hall j hjl
        rw [g2] at hj; injection hj with hj; subst hj
        rw [g3] at hy; injection hy with hy; subst hy
        exact g4
      · refine flat_leaf fun x hx => ?_
        simp only [xs, List.mem_map, List.mem_range] at hx
        obtain ⟨i, hi, rfl⟩ := hx
        rw [(hmk i hi).1]
        obtain ⟨cs', g1, g2⟩ := hF i hi
        exact g2.leaf
    rw [hxl] at hrep
    refine ⟨⟨[.sl z xs .shared], ⟨.cons hrep .nil, leaf1 rfl, .inr ⟨xs, by rw [hz], by omega, ?_⟩⟩⟩, ?_⟩
    · intro x hx
      simp only [xs, List.mem_map, List.mem_range] at hx
      obtain ⟨i, hi, rfl⟩ := hx
      exact (hmk i hi).2
    · intro W' hg sp hsp
      have hre : ∀ i, i < cap → sp b = true → ∃ cs' k, W'.cells? 0 (Addr.add ⟨b, o, none⟩ (i * P.cellsOf te)) (P.cellsOf te) = some cs' ∧ DataW.trod enc P W' 0 sp true k te cs' = some (D i, Pl i) := fun i hi hb => by
        obtain ⟨cs', g1, g2⟩ := hel i hi
        obtain ⟨_, hag⟩ := ihe true te n cs' (D i) (Pl i) hoke (fun h => by cases h) g2
        obtain ⟨k, hk⟩ := hag W' hg sp (fun q hq => hsp q (by
          rw [h2]
          refine List.mem_append_right _ ?_
          rw [List.mem_flatMap]
          exact ⟨i, by simpa using hi, hq⟩))
        rw [hce]
        exact ⟨cs', k, grown_cells hg g1, hk⟩
      by_cases hc0 : cap = 0
      · subst hc0
        have : len = 0 := by omega
        subst this
        cases hsb : sp b with
        | true =>
          obtain ⟨n', hn'⟩ := Go.Deep.shut_slice_whole_cells (enc := enc) (w := W') (held := true) (base := 0) (spare := sp) (a := ⟨b, o, none⟩) hu hb hl hm hsb D Pl (fun i hi => by omega)
          refine ⟨n', ?_⟩
          rw [hn', h1, h2]
          simp
        | false =>
          obtain ⟨n', hn'⟩ := Go.Deep.shut_slice_cells (enc := enc) (w := W') (held := true) (base := 0) (spare := sp) (a := ⟨b, o, none⟩) hu hb hl hm hsb D Pl (fun i hi => by omega)
          refine ⟨n', ?_⟩
          rw [hn', h1, h2]
          simp
      · have hsb : sp b = true := hsp (.cell b o) (by
          rw [h2]
          refine List.mem_append_left _ ?_
          rw [MemPlace.mem_row]
          exact ⟨0, Nat.mul_pos (by omega) hpos, rfl⟩)
        obtain ⟨n', hn'⟩ := Go.Deep.shut_slice_whole_cells (enc := enc) (w := W') (held := true) (base := 0) (spare := sp) (a := ⟨b, o, none⟩) hu hb hl hm hsb D Pl (fun i hi => hre i hi hsb)
        refine ⟨n', ?_⟩
        rw [hn', h1, h2, hce]

/-- a slice inside others: an empty one may lie anywhere -/
theorem mot_isl {e : Ty} (ihe : MotT P enc W e) : MotT P enc W (.isl e) := by
  intro inner t fuel cs d p hok hns h
  simp only [Ty.ok] at hok
  split at hok <;> (try (cases hok; done))
  rename_i te hu
  simp at hok
  obtain ⟨⟨⟨hc1, hce⟩, hpos⟩, hoke⟩ := hok
  rcases open_slice hu h with ⟨rfl, hx⟩ | ⟨a, len, cap, m, n, D, Pl, rfl, hb, hl, hm, hmm, hx, hel⟩
  · injection hx with h1 h2; subst h1; subst h2
    refine ⟨⟨[.nilsl], ⟨.cons .nilsl .nil, leaf1 rfl, .inl rfl⟩⟩, fun W' hg sp hsp => ⟨1, ?_⟩⟩
    unfold DataW.trod
    simp [hu]
  · obtain ⟨b, o, sp0⟩ := a
    simp only [if_true] at hmm
    have hmm' := hmm.symm
    subst hmm'
    by_cases hcap0 : cap = 0
    · subst hcap0
      have : len = 0 := by omega
      subst this
      injection hx with h1 h2
      refine ⟨⟨[.esl], ⟨.cons (.esl _) .nil, leaf1 rfl, .inr (.inl rfl)⟩⟩, fun W' hg sp hsp => ?_⟩
      cases hsb : sp b with
      | true =>
        obtain ⟨n', hn'⟩ := Go.Deep.shut_slice_whole_cells (enc := enc) (w := W') (held := true) (base := 0) (spare := sp) (a := ⟨b, o, sp0⟩) hu hb hl hm hsb D Pl (fun i hi => by omega)
        refine ⟨n', ?_⟩
        rw [hn', h1, h2]
        try simp
      | false =>
        obtain ⟨n', hn'⟩ := Go.Deep.shut_slice_cells (enc := enc) (w := W') (held := true) (base := 0) (spare := sp) (a := ⟨b, o, sp0⟩) hu hb hl hm hsb D Pl (fun i hi => by omega)
        refine ⟨n', ?_⟩
        rw [hn', h1, h2]
        simp
    have hspot : sp0 = none := by
      obtain ⟨cs', g1, g2⟩ := hel 0 (by omega)
      obtain ⟨_, g3, g4⟩ := World.cells?_some g1
      rw [hce] at g3 g4
      have g5 := g4 0 hpos
      rw [List.getElem?_eq_getElem (by omega)] at g5
      cases hs0 : sp0 with
      | none => rfl
      | some k =>
        subst hs0
        rw [Nat.zero_mul] at g5
        have : (Addr.add ⟨b, o, some k⟩ 0).add 0 = ⟨b, o, some k⟩ := rfl
        rw [this] at g5
        unfold World.cell? at g5
        split at g5 <;> simp at g5
    subst hspot
    injection hx with h1 h2
    rw [hce] at hel h2
    generalize hz : e.size = z at *
    -- each element
    have helt : ∀ i, i < len → ∃ xs, (∃ cs', W.cells? 0 (Addr.add ⟨b, o, none⟩ (i * z)) z = some cs' ∧ Opn P enc W e cs' xs) := fun i hi => by
      obtain ⟨cs', g1, g2⟩ := hel i (by omega)
      obtain ⟨⟨xs, hxs⟩, _⟩ := ihe true te n cs' (D i) (Pl i) hoke (fun h => by cases h) g2
      exact ⟨xs, cs', g1, hxs⟩
    obtain ⟨F, hF⟩ := choose_lt helt
    have hFl : ∀ i, i < len → (F i).length = z := fun i hi => by
      obtain ⟨cs', g1, g2⟩ := hF i hi
      rw [g2.sh.len, hz]
    have hone : e.isAgg = false → ∀ i, i < len → (F i).length = 1 := fun ha i hi => by rw [hFl i hi, ← hz]; exact ok_size1 hoke ha
    have hmk : ∀ i, i < len → (mkV e (F i)).cells = F i ∧ ShV e (mkV e (F i)) := fun i hi => by
      obtain ⟨cs', g1, g2⟩ := hF i hi
      exact mkV_is g2.sh g2.leaf (fun ha => hone ha i hi)
    let xs : List AV := (List.range len).map fun i => mkV e (F i)
    have hxl : xs.length = len := by simp [xs]
    have hxz : ∀ x ∈ xs, x.cells.length = z := by
      intro x hx
      simp only [xs, List.mem_map, List.mem_range] at hx
      obtain ⟨i, hi, rfl⟩ := hx
      rw [(hmk i hi).1, hFl i hi]
    let vs : List Value := (List.range (len * z)).map fun j => (W.cell? ⟨b, o + j, none⟩).getD undef
    have hvl : vs.length = len * z := by simp [vs]
    have hfl : (flat xs).length = len * z := by rw [flat_len hxz, hxl]
    -- each cell
    have hcell : ∀ i r, i < len → r < z → ∃ v y, W.cell? ⟨b, o + (i * z + r), none⟩ = some v ∧ (F i)[r]? = some y ∧ Rep (cm0 W) v y := fun i r hi hr => by
      obtain ⟨cs', g1, g2⟩ := hF i hi
      obtain ⟨_, g3, g4⟩ := World.cells?_some g1
      have hy : (F i)[r]? = some ((F i)[r]'(by rw [hFl i hi]; exact hr)) := by simp [hFl i hi, hr]
      obtain ⟨v, hv1, hv2⟩ := g2.rep.get hy
      refine ⟨v, _, ?_, hy, hv2⟩
      have := g4 r hr
      rw [Go.Deep.add_add, add_plain, hv1] at this
      exact this
    have hdiv : ∀ j, j < len * z → j / z < len ∧ j % z < z ∧ j = j / z * z + j % z := fun j hj => by
      refine ⟨(Nat.div_lt_iff_lt_mul hpos).2 hj, Nat.mod_lt _ hpos, ?_⟩
      rw [Nat.mul_comm]; exact (Nat.div_add_mod j z).symm
    have hall : ∀ j, j < len * z → ∃ v y, W.cell? ⟨b, o + j, none⟩ = some v ∧ vs[j]? = some v ∧ (flat xs)[j]? = some y ∧ Rep (cm0 W) v y := fun j hj => by
      obtain ⟨h1, h2, h3⟩ := hdiv j hj
      obtain ⟨v, y, g1, g2, g3⟩ := hcell _ _ h1 h2
      rw [← h3] at g1
      refine ⟨v, y, g1, by simp [vs, hj, g1], ?_, g3⟩
      rw [h3, flat_get hxz _ _ (by rw [hxl]; exact h1) h2]
      have : xs[j / z]'(by rw [hxl]; exact h1) = mkV e (F (j / z)) := by simp [xs]
      rw [this, (hmk _ h1).1]
      exact g2
    have hrep : Rep (cm0 W) (.slice (some ⟨b, o, none⟩) xs.length cap) (.sl z xs .shared) := by
      refine .sl b o cap z xs .shared vs (by rw [hvl, hfl]) hxz ?_ ?_ ?_ (by simpa [CapOk, hxl] using hl)
      · intro j v hj
        have hjl : j < len * z := by
          rcases Nat.lt_or_ge j (len * z) with h' | h'
          · exact h'
          · rw [List.getElem?_eq_none (by omega)] at hj; cases hj
        obtain ⟨v', y, g1, g2, _⟩ := hall j hjl
        rw [g2] at hj; injection hj with hj; subst hj
        simp only [cm0, g1]
      · intro j v y hj hy
        have hjl : j < len * z := by
          rcases Nat.lt_or_ge j (len * z) with h' | h'
          · exact h'
          · rw [List.getElem?_eq_none (by omega)] at hj; cases hj
        obtain ⟨v', y', g1, g2, g3, g4⟩ := hall j hjl
        rw [g2] at hj; injection hj with hj; subst hj
        rw [g3] at hy; injection hy with hy; subst hy
        exact g4
      · refine flat_leaf fun x hx => ?_
        simp only [xs, List.mem_map, List.mem_range] at hx
        obtain ⟨i, hi, rfl⟩ := hx
        rw [(hmk i hi).1]
        obtain ⟨cs', g1, g2⟩ := hF i hi
        exact g2.leaf
    rw [hxl] at hrep
    refine ⟨⟨[.sl z xs .shared], ⟨.cons hrep .nil, leaf1 rfl, .inr (.inr ⟨xs, by rw [hz], by omega, ?_⟩)⟩⟩, ?_⟩
    · intro x hx
      simp only [xs, List.mem_map, List.mem_range] at hx
      obtain ⟨i, hi, rfl⟩ := hx
      exact (hmk i hi).2
    · intro W' hg sp hsp
      have hre : ∀ i, i < cap → sp b = true → ∃ cs' k, W'.cells? 0 (Addr.add ⟨b, o, none⟩ (i * P.cellsOf te)) (P.cellsOf te) = some cs' ∧ DataW.trod enc P W' 0 sp true k te cs' = some (D i, Pl i) := fun i hi hb => by
        obtain ⟨cs', g1, g2⟩ := hel i hi
        obtain ⟨_, hag⟩ := ihe true te n cs' (D i) (Pl i) hoke (fun h => by cases h) g2
        obtain ⟨k, hk⟩ := hag W' hg sp (fun q hq => hsp q (by
          rw [h2]
          refine List.mem_append_right _ ?_
          rw [List.mem_flatMap]
          exact ⟨i, by simpa using hi, hq⟩))
        rw [hce]
        exact ⟨cs', k, grown_cells hg g1, hk⟩
      by_cases hc0 : cap = 0
      · subst hc0
        have : len = 0 := by omega
        subst this
        cases hsb : sp b with
        | true =>
          obtain ⟨n', hn'⟩ := Go.Deep.shut_slice_whole_cells (enc := enc) (w := W') (held := true) (base := 0) (spare := sp) (a := ⟨b, o, none⟩) hu hb hl hm hsb D Pl (fun i hi => by omega)
          refine ⟨n', ?_⟩
          rw [hn', h1, h2]
          simp
        | false =>
          obtain ⟨n', hn'⟩ := Go.Deep.shut_slice_cells (enc := enc) (w := W') (held := true) (base := 0) (spare := sp) (a := ⟨b, o, none⟩) hu hb hl hm hsb D Pl (fun i hi => by omega)
          refine ⟨n', ?_⟩
          rw [hn', h1, h2]
          simp
      · have hsb : sp b = true := hsp (.cell b o) (by
          rw [h2]
          refine List.mem_append_left _ ?_
          rw [MemPlace.mem_row]
          exact ⟨0, Nat.mul_pos (by omega) hpos, rfl⟩)
        obtain ⟨n', hn'⟩ := Go.Deep.shut_slice_whole_cells (enc := enc) (w := W') (held := true) (base := 0) (spare := sp) (a := ⟨b, o, none⟩) hu hb hl hm hsb D Pl (fun i hi => hre i hi hsb)
        refine ⟨n', ?_⟩
        rw [hn', h1, h2, hce]

theorem mapM_list {α β : Type} {f : α → Option β} : ∀ {l : List α} {r : List β}, r.length = l.length → (∀ (i : Nat) (a : α), l[i]? = some a → f a = r[i]?) → l.mapM f = some r
  | [], r, hl, h => by
    have : r = [] := List.length_eq_zero_iff.1 hl
    subst this; rfl
  | a :: l, [], hl, h => by simp at hl
  | a :: l, b :: r, hl, h => by
    have h0 := h 0 a rfl
    have ih := mapM_list (f := f) (l := l) (r := r) (by simpa using hl) (fun i x hx => h (i + 1) x hx)
    simp [List.mapM_cons, h0, ih]

theorem mot_fnil : MotR P enc W .fnil := by
  intro inner fds off n cs ys hok hns hf hyl hl
  simp [Ty.ok] at hok
  subst hok
  have hy : ys = [] := List.length_eq_zero_iff.1 hyl
  subst hy
  refine ⟨⟨[], ⟨?_, fun j y h => by simp at h, rfl⟩⟩, fun W' hg sp hsp => ⟨0, rfl⟩⟩
  rw [List.drop_eq_nil_of_le (by simp [Ty.size] at hl; omega)]
  exact .nil
theorem mot_fcons {f r : Ty} (ihf : MotT P enc W f) (ihr : MotR P enc W r) : MotR P enc W (.fcons f r) := by
  intro inner fds off n cs ys hok hns hf hyl hl
  cases fds with
  | nil => simp [Ty.ok] at hok
  | cons fd fds =>
    simp [Ty.ok] at hok
    obtain ⟨⟨⟨ho, hc⟩, hokf⟩, hokr⟩ := hok
    cases ys with
    | nil => simp at hyl
    | cons y ys =>
      have h0 := hf 0 fd rfl
      simp only [List.getElem?_cons_zero] at h0
      obtain ⟨⟨xs, hxs⟩, hag⟩ := ihf inner fd.type n _ y.1 y.2 hokf (fun hi => nospot_take (nospot_drop (hns hi) _) _) h0
      obtain ⟨⟨xr, hxr⟩, hagr⟩ := ihr inner fds (off + f.size) n cs ys hokr hns (fun i g hg => by simpa using hf (i + 1) g (by simpa using hg)) (by simpa using hyl) (by simp only [Ty.size] at hl; omega)
      have hsplit : cs.drop off = (cs.drop fd.offset).take (P.cellsOf fd.type) ++ cs.drop (off + f.size) := by
        rw [ho, hc, ← List.drop_drop, List.take_append_drop]
      refine ⟨⟨xs ++ xr, ⟨?_, leaf_app hxs.leaf hxr.leaf, ⟨xs, xr, rfl, hxs.sh, hxr.sh⟩⟩⟩, fun W' hg sp hsp => ?_⟩
      · rw [hsplit]; exact hxs.rep.append hxr.rep
      · obtain ⟨k, hk⟩ := hag W' hg sp (fun q hq => hsp q (by simp [hq]))
        obtain ⟨m, hm⟩ := hagr W' hg sp (fun q hq => hsp q (by simp only [List.flatMap_cons, List.mem_append]; exact .inr hq))
        refine ⟨max k m, ?_⟩
        have hk' := DataW.trod_le (Nat.le_max_left k m) hk
        have hm' : fds.mapM (fun f => DataW.trod enc P W' 0 sp true (max k m) f.type ((cs.drop f.offset).take (P.cellsOf f.type))) = some ys :=
          mapM_carry hm fun x y hx hy he => DataW.trod_le (Nat.le_max_right k m) he
        simp only [List.mapM_cons, hk', hm']
        rfl
theorem mot_st {r : Ty} (ihr : MotR P enc W r) : MotT P enc W (.st r) := by
  intro inner t fuel cs d p hok hns h
  simp only [Ty.ok] at hok
  split at hok <;> (try (cases hok; done))
  rename_i fs hu
  simp at hok
  obtain ⟨hc, hokr⟩ := hok
  obtain ⟨ys, n, rfl, hx, hl, hyl, hf⟩ := DataW.trod_struct hu h
  injection hx with h1 h2
  obtain ⟨⟨xs, hxs⟩, hag⟩ := ihr inner fs.toList 0 n cs ys hokr hns (fun i f hi => hf i f (by simpa using hi)) (by simpa using hyl) (by rw [hl, hc]; omega)
  refine ⟨⟨xs, ⟨by simpa using hxs.rep, hxs.leaf, hxs.sh⟩⟩, fun W' hg sp hsp => ?_⟩
  obtain ⟨m, hm⟩ := hag W' hg sp (fun q hq => hsp q (by rw [h2]; exact hq))
  refine ⟨m + 1, ?_⟩
  rw [h1, h2]
  exact trod_struct_mk hu hl hm
theorem mot_ar {k : Nat} {e : Ty} (ihe : MotT P enc W e) : MotT P enc W (.ar k e) := by
  intro inner t fuel cs d p hok hns h
  simp only [Ty.ok] at hok
  split at hok <;> (try (cases hok; done))
  rename_i m te hu
  simp at hok
  obtain ⟨⟨⟨rfl, hc⟩, hce⟩, hoke⟩ := hok
  obtain ⟨ys, n, rfl, hx, hl, hyl, hf⟩ := DataW.trod_array hu h
  injection hx with h1 h2
  rw [hce] at hf
  have hel : ∀ i, i < m → ∃ y, ys[i]? = some y ∧ (∃ xs, Opn P enc W e ((cs.drop (i * e.size)).take e.size) xs) ∧ Again P enc W te ((cs.drop (i * e.size)).take e.size) y.1 y.2 := fun i hi => by
    have hy : ys[i]? = some (ys[i]'(by omega)) := by simp [hyl, hi]
    have := hf i hi
    rw [hy] at this
    obtain ⟨g1, g2⟩ := ihe inner te n _ _ _ hoke (fun hi => nospot_take (nospot_drop (hns hi) _) _) this
    exact ⟨_, hy, g1, g2⟩
  have hA : ∀ j, j ≤ m → ∃ ls : List (List AV), ls.length = j ∧ (∀ l ∈ ls, Sh e l) ∧ RepL (cm0 W) (cs.take (j * e.size)) ls.flatten ∧ ∀ (i : Nat) (y : AV), ls.flatten[i]? = some y → y.leaf = true := by
    intro j
    induction j with
    | zero => intro _; exact ⟨[], rfl, fun l h => by simp at h, by simp; exact .nil, fun i y h => by simp at h⟩
    | succ j ih =>
      intro hj
      obtain ⟨ls, g1, g2, g3, g4⟩ := ih (by omega)
      obtain ⟨y, _, ⟨xs, hxs⟩, _⟩ := hel j (by omega)
      refine ⟨ls ++ [xs], by simp [g1], fun l hl => ?_, ?_, ?_⟩
      · simp only [List.mem_append, List.mem_singleton] at hl
        rcases hl with hl | rfl
        · exact g2 l hl
        · exact hxs.sh
      · rw [Nat.add_mul, Nat.one_mul, List.take_add]
        simp only [List.flatten_append, List.flatten_cons, List.flatten_nil, List.append_nil]
        exact g3.append hxs.rep
      · simp only [List.flatten_append, List.flatten_cons, List.flatten_nil, List.append_nil]
        exact leaf_app g4 hxs.leaf
  refine ⟨?_, fun W' hg sp hsp => ?_⟩
  · obtain ⟨ls, g1, g2, g3, g4⟩ := hA m (Nat.le_refl _)
    rw [List.take_of_length_le (by omega)] at g3
    exact ⟨ls.flatten, g3, g4, ls, rfl, g1, g2⟩
  · have hB : ∀ i, i < m → ∃ k y, ys[i]? = some y ∧ DataW.trod enc P W' 0 sp true k te ((cs.drop (i * e.size)).take e.size) = some y := fun i hi => by
      obtain ⟨y, hy, _, hag⟩ := hel i hi
      obtain ⟨k, hk⟩ := hag W' hg sp (fun q hq => hsp q (by
        rw [h2, List.mem_flatMap]
        exact ⟨y, List.mem_of_getElem? hy, hq⟩))
      exact ⟨k, y, hy, hk⟩
    obtain ⟨k, hk⟩ := fuel_lt (n := m) (q := fun i k => ∃ y, ys[i]? = some y ∧ DataW.trod enc P W' 0 sp true k te ((cs.drop (i * e.size)).take e.size) = some y) (fun i a b hab h => by
      obtain ⟨y, hy, h⟩ := h
      exact ⟨y, hy, DataW.trod_le hab h⟩) hB
    refine ⟨k + 1, ?_⟩
    rw [h1, h2]
    refine trod_array_mk hu hl ?_
    rw [hce]
    exact mapM_list (by simp [hyl]) fun i a ha => by
      have hi : i < m := by
        rcases Nat.lt_or_ge i m with h' | h'
        · exact h'
        · rw [List.getElem?_eq_none (by simpa using h')] at ha; cases ha
      simp [hi] at ha
      subst ha
      obtain ⟨y, hy, h⟩ := hk i hi
      rw [hy]; exact h

theorem mot_all : ∀ T : Ty, MotT P enc W T ∧ MotR P enc W T
  | .int k => ⟨mot_int k, fun inner fds off n cs ys hok => by simp [Ty.ok] at hok⟩
  | .bool => ⟨mot_bool, fun inner fds off n cs ys hok => by simp [Ty.ok] at hok⟩
  | .str => ⟨mot_str, fun inner fds off n cs ys hok => by simp [Ty.ok] at hok⟩
  | .sl e => ⟨mot_sl (mot_all e).1, fun inner fds off n cs ys hok => by simp [Ty.ok] at hok⟩
  | .isl e => ⟨mot_isl (mot_all e).1, fun inner fds off n cs ys hok => by simp [Ty.ok] at hok⟩
  | .st r => ⟨mot_st (mot_all r).2, fun inner fds off n cs ys hok => by simp [Ty.ok] at hok⟩
  | .ar n e => ⟨mot_ar (mot_all e).1, fun inner fds off n cs ys hok => by simp [Ty.ok] at hok⟩
  | .fnil => ⟨fun inner t fuel cs d p hok => by simp [Ty.ok] at hok, mot_fnil⟩
  | .fcons f r => ⟨fun inner t fuel cs d p hok => by simp [Ty.ok] at hok, mot_fcons (mot_all f).1 (mot_all r).2⟩

/-! the arguments of a call -/
theorem cell_nospot {b0 : Nat} {u : TypeId} {a : Addr} {l c : Nat} (h : Cell.okWide P W .any b0 u (.slice (some a) l c)) : a.spot = none := by
  unfold Cell.okWide at h
  split at h <;> (try (rename_i h1; cases h1; done))
  unfold Cell.ok at h
  split at h <;> simp_all [World.has]
theorem val_form {T : Ty} {b0 : Nat} {t : TypeId} {v : Value} (hok : (T.ok P false).1 t = true) (hv : Value.okWide P W .any b0 t v) : NoSpot v.cells.toList ∧ (if T.isAgg = true then v = .agg v.cells else v.cells = #[v]) := by
  unfold Value.okWide at hv
  have key : (∃ cs, v = .agg cs ∧ cs.size = P.cellsOf t ∧ Row.okWide P W .any b0 t cs) → NoSpot v.cells.toList ∧ v = .agg v.cells := by
    rintro ⟨cs, rfl, hs, ts, _, _, hcell⟩
    refine ⟨fun a l c hm => ?_, rfl⟩
    obtain ⟨i, hi, he⟩ := List.getElem_of_mem hm
    obtain ⟨u, _, hu⟩ := hcell i (.slice (some a) l c) (by
      simp only [Value.cells] at he hi
      rw [Array.getElem?_eq_getElem (by simpa using hi)]
      simpa using he)
    exact cell_nospot hu
  have key2 : Cell.okWide P W .any b0 t v → NoSpot [v] := by
    intro h a l c hm
    simp at hm
    subst hm
    exact cell_nospot h
  have one : ∀ {v : Value}, (∀ cs, v ≠ .agg cs) → v.cells = #[v] := by
    intro v h
    cases v <;> first | rfl | exact absurd rfl (h _)
  have leafy : Cell.okWide P W .any b0 t v → (∀ cs, v ≠ .agg cs) → NoSpot v.cells.toList ∧ v.cells = #[v] := fun h h2 => by
    rw [one h2]; exact ⟨key2 h, rfl⟩
  by_cases ha : T.isAgg = true
  · rw [if_pos ha]
    refine key ?_
    cases T <;> (try (cases ha; done)) <;> simp only [Ty.ok] at hok <;> split at hok <;> (try (cases hok; done)) <;> rename_i hu <;> rw [hu] at hv <;> exact hv
  · rw [if_neg ha]
    have hc : Cell.okWide P W .any b0 t v ∧ ∀ cs, v ≠ .agg cs := by
      cases T <;> (try (exact absurd rfl ha)) <;> simp only [Ty.ok] at hok <;> (try (cases hok; done)) <;> split at hok <;> (try (cases hok; done)) <;> rename_i hu <;> rw [hu] at hv <;> refine ⟨hv, ?_⟩ <;>
        (rintro cs rfl; simp [Cell.okWide, hu, Cell.ok] at hv)
    exact leafy hc.1 hc.2
theorem open_arg {T : Ty} {b0 : Nat} {t : TypeId} {v : Value} {d : DataW H} {p : List MemPlace} (hok : (T.ok P false).1 t = true) (hv : Value.okWide P W .any b0 t v)
    (h : DataW.Trod enc P W 0 (fun _ => true) true t v d p) :
    ∃ x, ShV T x ∧ Rep (cm0 W) v x ∧ ∀ W', Grw W W' → ∀ sp : Nat → Bool, (∀ q ∈ p, sp q.block = true) → DataW.Trod enc P W' 0 sp true t v d p := by
  obtain ⟨fuel, h⟩ := h
  obtain ⟨h1, h2⟩ := val_form hok hv
  obtain ⟨⟨xs, hxs⟩, hag⟩ := (mot_all T).1 false t fuel _ d p hok (fun _ => h1) h
  have hlen : T.isAgg = false → xs.length = 1 := fun ha => by rw [hxs.sh.len]; exact ok_size1 hok ha
  obtain ⟨g1, g2⟩ := mkV_is hxs.sh hxs.leaf hlen
  refine ⟨mkV T xs, g2, ?_, fun W' hg sp hsp => hag W' hg sp hsp⟩
  unfold mkV
  split
  · rename_i ha
    rw [if_pos ha] at h2
    rw [h2]
    have := Rep.agg (c := cm0 W) v.cells.toList xs hxs.rep.1 hxs.rep.2 hxs.leaf
    simpa [Value.cells] using this
  · rename_i ha
    rw [if_neg ha] at h2
    have hl := hlen (by simpa using ha)
    have hr := hxs.rep
    match xs, hl with
    | [x], _ =>
      rw [h2] at hr
      exact hr.2 0 v x rfl rfl
theorem open_args : ∀ {Ts : List Ty} {ts : List TypeId} {vs : List Value} {ds : List (DataW H)} {p : List MemPlace} {b0 : Nat}, ts.length = Ts.length → (∀ (j : Nat) (t : TypeId) (T : Ty), ts[j]? = some t → Ts[j]? = some T → (T.ok P false).1 t = true) →
    (∀ (j : Nat) t v, ts[j]? = some t → vs[j]? = some v → Value.okWide P W .any b0 t v) → DataW.TrodAll enc P W 0 (fun _ => true) true ts vs ds p →
    ∃ xs, xs.length = Ts.length ∧ (∀ (j : Nat) (T : Ty) (x : AV), Ts[j]? = some T → xs[j]? = some x → ShV T x) ∧ RepL (cm0 W) vs xs ∧ ∀ W', Grw W W' → ∀ sp : Nat → Bool, (∀ q ∈ p, sp q.block = true) → DataW.TrodAll enc P W' 0 sp true ts vs ds p
  | [], [], vs, ds, p, b0, _, _, _, h => by
    obtain ⟨rfl, rfl, rfl⟩ := trodAll_nil h
    exact ⟨[], rfl, fun j T x h => by simp at h, .nil, fun W' _ sp _ => rfl⟩
  | T :: Ts, t :: ts, vs, ds, p, b0, hl, hok, hv, h => by
    obtain ⟨v, vs', d, ds', p1, p2, rfl, rfl, rfl, h1, h2⟩ := trodAll_cons h
    obtain ⟨x, g1, g2, g3⟩ := open_arg (hok 0 t T rfl rfl) (hv 0 t v rfl rfl) h1
    obtain ⟨xs, k1, k2, k3, k4⟩ := open_args (Ts := Ts) (ts := ts) (by simpa using hl) (fun j t T h1 h2 => hok (j + 1) t T h1 h2) (fun j t v h1 h2 => hv (j + 1) t v h1 h2) h2
    refine ⟨x :: xs, by simp [k1], fun j T' y hT hy => ?_, .cons g2 k3, fun W' hg sp hsp => trodAll_cons_mk (g3 W' hg sp fun q hq => hsp q (by simp [hq])) (k4 W' hg sp fun q hq => hsp q (by simp [hq]))⟩
    cases j with
    | zero => simp at hT hy; subst hT; subst hy; exact g1
    | succ j => exact k2 j T' y (by simpa using hT) (by simpa using hy)
end Fw
set_option linter.unusedVariables false
set_option linter.unusedSimpArgs false
namespace Fw
open Go Go.ChangeShapes Go.WideShapes Go.ChangeAt Go.RowKit

def Typed : List Ty → List AV → Prop
  | [], [] => True
  | T :: Ts, x :: xs => ShV T x ∧ Typed Ts xs
  | _, _ => False
theorem Typed.of : ∀ {Ts : List Ty} {xs : List AV}, xs.length = Ts.length → (∀ (j : Nat) (T : Ty) (x : AV), Ts[j]? = some T → xs[j]? = some x → ShV T x) → Typed Ts xs
  | [], [], _, _ => trivial
  | [], x :: xs, h, _ => by simp at h
  | T :: Ts, [], h, _ => by simp at h
  | T :: Ts, x :: xs, h, hx => ⟨hx 0 T x rfl rfl, Typed.of (by simpa using h) fun j T' y h1 h2 => hx (j + 1) T' y (by simpa using h1) (by simpa using h2)⟩

/-! the forms, one by one -/
theorem shv_int {k : IntKind} {x : AV} (h : ShV (.int k) x) : ∃ n, x = .int k n ∧ (Lit.int k n).wf = true := by
  obtain ⟨⟨n, h1, h2⟩, h3⟩ := h
  simp only [Ty.isAgg, Bool.false_eq_true, if_false] at h3
  rw [h3] at h1
  injection h1 with h1
  exact ⟨n, h1, h2⟩
theorem shv_sl {e : Ty} {x : AV} (h : ShV (.sl e) x) : x = .nilsl ∨ ∃ xs, x = .sl e.size xs .shared ∧ xs.length ≤ maxLen ∧ ∀ y ∈ xs, ShV e y := by
  obtain ⟨h1, h3⟩ := h
  simp only [Ty.isAgg, Bool.false_eq_true, if_false] at h3
  rw [h3] at h1
  rcases h1 with h1 | ⟨xs, h1, h2, h4⟩
  · injection h1 with h1; exact .inl h1
  · injection h1 with h1; exact .inr ⟨xs, h1, h2, h4⟩
theorem shv_intsK {k : IntKind} {x : AV} (h : ShV (.sl (.int k)) x) : ∃ l : List Int, (x = .nilsl ∧ l = [] ∨ x = .sl 1 (l.map (AV.int k)) .shared) ∧ l.length ≤ maxLen ∧ ∀ n ∈ l, (Lit.int k n).wf = true := by
  rcases shv_sl h with rfl | ⟨xs, rfl, h1, h2⟩
  · exact ⟨[], .inl ⟨rfl, rfl⟩, by simp, fun n h => by simp at h⟩
  · have : ∀ xs : List AV, (∀ y ∈ xs, ShV (.int k) y) → ∃ l : List Int, xs = l.map (AV.int k) ∧ ∀ n ∈ l, (Lit.int k n).wf = true := by
      intro xs
      induction xs with
      | nil => intro _; exact ⟨[], rfl, fun n h => by simp at h⟩
      | cons y xs ih =>
        intro h
        obtain ⟨n, rfl, hn⟩ := shv_int (h y (by simp))
        obtain ⟨l, rfl, hl⟩ := ih (fun z hz => h z (by simp [hz]))
        exact ⟨n :: l, rfl, fun m hm => by
          simp at hm
          rcases hm with rfl | hm
          · exact hn
          · exact hl m hm⟩
    obtain ⟨l, rfl, hl⟩ := this xs h2
    exact ⟨l, .inr rfl, by simpa using h1, hl⟩
theorem Typed.nil {xs : List AV} (h : Typed [] xs) : xs = [] := by
  cases xs with
  | nil => rfl
  | cons x xs => exact h.elim
theorem Typed.cons {T : Ty} {Ts : List Ty} {xs : List AV} (h : Typed (T :: Ts) xs) : ∃ x r, xs = x :: r ∧ ShV T x ∧ Typed Ts r := by
  cases xs with
  | nil => exact h.elim
  | cons x xs => exact ⟨x, xs, rfl, h.1, h.2⟩
theorem Typed.one {A : Ty} {xs : List AV} (h : Typed [A] xs) : ∃ x, xs = [x] ∧ ShV A x := by
  obtain ⟨x, r, rfl, h1, h2⟩ := h.cons
  rw [h2.nil]; exact ⟨x, rfl, h1⟩
theorem Typed.two {A B : Ty} {xs : List AV} (h : Typed [A, B] xs) : ∃ x y, xs = [x, y] ∧ ShV A x ∧ ShV B y := by
  obtain ⟨x, r, rfl, h1, h2⟩ := h.cons
  obtain ⟨y, rfl, h3⟩ := h2.one
  exact ⟨x, y, rfl, h1, h3⟩
theorem Typed.three {A B C : Ty} {xs : List AV} (h : Typed [A, B, C] xs) : ∃ x y z, xs = [x, y, z] ∧ ShV A x ∧ ShV B y ∧ ShV C z := by
  obtain ⟨x, r, rfl, h1, h2⟩ := h.cons
  obtain ⟨y, z, rfl, h3, h4⟩ := h2.two
  exact ⟨x, y, z, rfl, h1, h3, h4⟩
theorem Typed.four {A B C D : Ty} {xs : List AV} (h : Typed [A, B, C, D] xs) : ∃ x y z w, xs = [x, y, z, w] ∧ ShV A x ∧ ShV B y ∧ ShV C z ∧ ShV D w := by
  obtain ⟨x, r, rfl, h1, h2⟩ := h.cons
  obtain ⟨y, z, w, rfl, h3, h4, h5⟩ := h2.three
  exact ⟨x, y, z, w, rfl, h1, h3, h4, h5⟩
theorem Typed.five {A B C D E : Ty} {xs : List AV} (h : Typed [A, B, C, D, E] xs) : ∃ x y z w v, xs = [x, y, z, w, v] ∧ ShV A x ∧ ShV B y ∧ ShV C z ∧ ShV D w ∧ ShV E v := by
  obtain ⟨x, r, rfl, h1, h2⟩ := h.cons
  obtain ⟨y, z, w, v, rfl, h3, h4, h5, h6⟩ := h2.four
  exact ⟨x, y, z, w, v, rfl, h1, h3, h4, h5, h6⟩
end Fw
set_option linter.unusedVariables false
set_option linter.unusedSimpArgs false
namespace Fw
open Go

/-- the call of a pure function, as a call with memory -/
theorem PCall.fcall {P : Program} {f : FuncId} {args : List AV} {r : AV} (h : PCall P f args r) (hs : HS) : FCall P f args hs fun e hs' => e = .ret r ∧ hs' = hs :=
  ⟨(h.run hs00 ⟨fun _ => rfl, fun _ => rfl⟩).ok, fun c w vs hi hv => (h.sound hi hv).mono fun e w' ⟨v, c', h1, h2, h3, h4⟩ => ⟨.ret r, hs, c', ⟨rfl, rfl⟩, by subst h1; exact h2, h3, h4⟩⟩
/-- the same, where it is lent mutable slices -/
theorem PCall.lent {P : Program} {f : FuncId} {args : List AV} {r : AV} {hs : HS} (h : PCall P f (args.map (frz hs.heap 2)) r) (hsc : r.scal = true) : FCall P f args hs fun e hs' => e = .ret r ∧ hs' = hs :=
  ⟨(h.run hs00 ⟨fun _ => rfl, fun _ => rfl⟩).ok, fun c w vs hi hv => (h.loan hsc hi hv).mono fun e w' ⟨v, c', h1, h2, h3, h4⟩ => ⟨.ret r, hs, c', ⟨rfl, rfl⟩, by subst h1; exact h2, h3, h4⟩⟩
end Fw
set_option linter.unusedVariables false
set_option linter.unusedSimpArgs false
namespace Fw
open Go

/-- an operation that gives v and leaves memory, wherever its operands are as they are -/
def PureW (P : Program) (C : PCtx) (o : AI) (s : AS) (v : AV) : Prop := ∀ (s1 : AS), SameOn o.reads s1 s → ∀ (K : AS → Prop) (Q : AEx → AS → Prop), K (s1.put o.dst v) → aiW P C o K Q s1
theorem anyW_firstW {P : Program} {C : PCtx} {ds : List (List Nat)} {xs : List AI} {Q : AEx → AS → Prop} (hQ : ∀ x s d v, Q (.panic x) (s.put d v) → Q (.panic x) s) {i : Nat} {o : AI} {v : AV} (hi : i < ds.length) (hx : xs[i]? = some o) :
    ∀ (m : Nat) (done : List Nat) (s : AS), i ∉ done → (∀ j ∈ ds.getD i [], j ∈ done) → (∀ k x, k < ds.length → k ∉ done → k ≠ i → i ∉ ds.getD k [] → xs[k]? = some x → apartI x o = true) → PureW P C o s v →
      anyW P C ds xs m (i :: done) Q (s.put o.dst v) → anyW P C ds xs (m + 1) done Q s
  | m, done, s, hnd, hd, hap, hp, h => by
    have hir : i ∈ readyL ds done := readyL_mem.2 ⟨hi, hnd, hd⟩
    refine ⟨fun e => (by rw [e] at hir; cases hir), allW_of fun k hk => ?_⟩
    by_cases hki : k = i
    · subst hki
      rw [hx]
      exact hp s (fun _ _ => rfl) _ _ h
    · obtain ⟨k1, k2, k3⟩ := readyL_mem.1 hk
      have hkr : k ∈ readyL ds (i :: done) := readyL_mem.2 ⟨k1, by simp [hki, k2], fun j hj => List.mem_cons_of_mem _ (k3 j hj)⟩
      cases m with
      | zero => exact absurd h.1 (fun e => by rw [e] at hkr; cases hkr)
      | succ m =>
        have h2 := allW_mem h.2 hkr
        cases hxk : xs[k]? with
        | none => rw [hxk] at h2; exact h2
        | some x =>
          rw [hxk] at h2
          have hik : i ∉ ds.getD k [] := fun e => hnd (k3 i e)
          have hapk := hap k x k1 k2 hki hik hxk
          refine aiW_unput hapk hQ h2 fun s1 hs1 h3 => ?_
          refine anyW_firstW hQ hi hx m (k :: done) s1 (by simp [Ne.symm hki, hnd]) (fun j hj => List.mem_cons_of_mem _ (hd j hj)) (fun k' x' a b c d e => hap k' x' a (fun hm => b (List.mem_cons_of_mem _ hm)) c d e) ?_
            (anyW_congr m (fun y => by simp only [List.mem_cons]; exact or_left_comm) h3)
          exact fun s2 h2 => hp s2 fun t ht => (h2 t ht).trans (hs1 t ht)
theorem At.any_w {P : Program} {C : PCtx} {ds : List (List Nat)} {xs : List AI} {Q : AEx → AS → Prop} {m : Nat} {done : List Nat} {s : AS} (i : Nat) {o : AI} {v : AV} (hQ : ∀ x s d v, Q (.panic x) (s.put d v) → Q (.panic x) s) (hx : xs[i]? = some o)
    (hc : (decide (i < ds.length) && !done.contains i && (ds.getD i []).all done.contains && indepB ds xs done i o) = true) (hp : PureW P C o s v)
    (h : At (anyW P C ds xs m (i :: done) Q (s.put o.dst v))) : At (anyW P C ds xs (m + 1) done Q s) := by
  simp only [Bool.and_eq_true, decide_eq_true_eq, Bool.not_eq_true', List.all_eq_true] at hc
  obtain ⟨⟨⟨h1, h2⟩, h3⟩, h5⟩ := hc
  exact anyW_firstW hQ h1 hx m done s (fun hm => by rw [List.contains_iff_mem.2 hm] at h2; cases h2) (fun j hj => List.contains_iff_mem.1 (h3 j hj)) (fun k x a b c d e => indepB_spec h5 a b c d e) hp h
theorem want_same {o : AI} {s1 s : AS} (h : SameOn o.reads s1 s) : s1.want o.g = s.want o.g := want_congr (by unfold AI.reads at h; exact h.left)
/-- an operation that is not wanted -/
theorem At.any_u {P : Program} {C : PCtx} {ds : List (List Nat)} {xs : List AI} {Q : AEx → AS → Prop} {m : Nat} {done : List Nat} {s : AS} (i : Nat) {o : AI} (hQ : ∀ x s d v, Q (.panic x) (s.put d v) → Q (.panic x) s) (hx : xs[i]? = some o)
    (hc : (decide (i < ds.length) && !done.contains i && (ds.getD i []).all done.contains && indepB ds xs done i o) = true) (hw : s.want o.g = false)
    (h : At (anyW P C ds xs m (i :: done) Q (s.put o.dst .undef))) : At (anyW P C ds xs (m + 1) done Q s) := by
  refine At.any_w i hQ hx hc (fun s1 hs K Q hk => ?_) h
  unfold aiW condP
  rw [want_same hs, hw]
  simpa using hk
/-- the call of a pure closure -/
theorem At.any_c {P : Program} {C : PCtx} {ds : List (List Nat)} {xs : List AI} {Q : AEx → AS → Prop} {m : Nat} {done : List Nat} {s : AS} (i : Nat) {d : Option Nat} {g : Option (Nat × Bool)} {x : AOpd} {args : List AOpd} {f : FuncId} {a1 a2 : List AV} {v : AV} (hQ : ∀ x s d v, Q (.panic x) (s.put d v) → Q (.panic x) s) (hx : xs[i]? = some ⟨d, g, .callv x args⟩)
    (hc : (decide (i < ds.length) && !done.contains i && (ds.getD i []).all done.contains && indepB ds xs done i ⟨d, g, .callv x args⟩) = true) (hw : s.want g = true) (hf : s.ev x = .fn (.func f) a1 a2) (hp : PCall P f (a1 ++ args.map s.ev ++ a2) v)
    (h : At (anyW P C ds xs m (i :: done) Q (s.put d v))) : At (anyW P C ds xs (m + 1) done Q s) := by
  refine At.any_w i (v := v) hQ hx hc (fun s1 hs K Q hk => ?_) h
  have hw1 := want_same hs
  have hs2 : SameOn (x.reads ++ lReads args) s1 s := by unfold AI.reads at hs; exact hs.right
  unfold aiW condP
  rw [hw1]
  simp only [hw, if_true, opW]
  unfold cvW
  rw [ev_congr hs2.left, hf, evs_congr hs2.right]
  unfold hcW
  refine (hp.fcall s1.hs).mono ?_
  rintro e hs' ⟨rfl, rfl⟩
  exact hk
/-- a load of what stays, under a guard or not -/
theorem At.any_lg {P : Program} {C : PCtx} {ds : List (List Nat)} {xs : List AI} {Q : AEx → AS → Prop} {m : Nat} {done : List Nat} {s : AS} (i : Nat) {d : Option Nat} {g : Option (Nat × Bool)} {ag : Bool} {sz : Nat} {x : AOpd} {y v : AV} (hQ : ∀ x s d v, Q (.panic x) (s.put d v) → Q (.panic x) s) (hx : xs[i]? = some ⟨d, g, .load ag sz x⟩)
    (hc : (decide (i < ds.length) && !done.contains i && (ds.getD i []).all done.contains && indepB ds xs done i ⟨d, g, .load ag sz x⟩) = true) (hw : s.want g = true) (hq : s.ev x = .ptr y) (hv : apart ag sz 0 y.cells = some v)
    (h : At (anyW P C ds xs m (i :: done) Q (s.put d v))) : At (anyW P C ds xs (m + 1) done Q s) := by
  refine At.any_w i (v := v) hQ hx hc (fun s1 hs K Q hk => ?_) h
  have hw1 := want_same hs
  have hs2 : SameOn x.reads s1 s := by unfold AI.reads at hs; exact hs.right
  unfold aiW condP
  rw [hw1]
  simp only [hw, if_true]
  rw [_root_.Fw.opW_load, ev_congr hs2, hq]
  simp only [aload, hv]
  exact hk
end Fw
set_option linter.unusedVariables false
set_option linter.unusedSimpArgs false
namespace Fw
open Go

theorem At.app {sz : Nat} {hs : HS} {x q : AV} {l ys : List AV} {K : AV × HS → Prop} (h : Outs sz hs x l) (hq : asV sz q = some ys) (hl : l.length + ys.length ≤ 1073741824)
    (k : ∀ y hs', Outs sz hs' y (l ++ ys.map AV.share) → SameMem hs hs' → (∀ {sz' : Nat} {z : AV} {l' : List AV}, Outs sz' hs z l' → Apart x z → Outs sz' hs' z l' ∧ Apart y z) → At (K (y, hs'))) : At (optK (aappend sz hs x q) K) := by
  obtain ⟨y, hs', h1, h2, h3, h4⟩ := append_apart h hq hl
  rw [h1]; exact k y hs' h2 h3 h4
theorem At.app1 {hs : HS} {x : AV} {l : List Int} {n : Int} {K : AV × HS → Prop} (h : Outs 1 hs x (ints l)) (hl : l.length ≤ 1000000)
    (k : ∀ y hs', Outs 1 hs' y (ints (l ++ [n])) → SameMem hs hs' → (∀ {sz' : Nat} {z : AV} {l' : List AV}, Outs sz' hs z l' → Apart x z → Outs sz' hs' z l' ∧ Apart y z) → At (K (y, hs'))) : At (optK (aappend 1 hs x (.sl 1 [.int .i64 n] .exact)) K) := by
  obtain ⟨y, hs', h1, h2, h3, h4⟩ := append_apart h (q := .sl 1 [.int .i64 n] .exact) (ys := [.int .i64 n]) (asV_sl (by simp)) (by simp; omega)
  rw [h1]
  refine k y hs' ?_ h3 h4
  simpa [ints] using h2
theorem outI_plain (l : List Int) : (outV 1 (ints l)).plain = true := by
  cases l with
  | nil => rfl
  | cons a l => exact plain_ints (a :: l)
theorem outI_share {l : List Int} : (outV 1 (ints l)).share = outV 1 (ints l) := by
  cases l with
  | nil => rfl
  | cons a l => rw [outV_ne (by simp [ints]), share_sl, share_ints]; rfl

/-! contexts that know a call at one point -/
open Classical in
noncomputable def PCtx.pt (C : PCtx) (f : FuncId) (az : List AV) (r : AV) : PCtx := fun g a => if g = f ∧ a = az then some r else C g a
theorem CtxOk.pt {P : Program} {C : PCtx} (hC : CtxOk P C) {f : FuncId} {az : List AV} {r : AV} (h : PCall P f az r) : CtxOk P (C.pt f az r) := by
  intro g a v hv
  unfold PCtx.pt at hv
  split at hv
  · rename_i hg
    obtain ⟨rfl, rfl⟩ := hg
    injection hv with hv; subst hv; exact h
  · exact hC _ _ _ hv
@[simp] theorem pt_eq {C : PCtx} {f : FuncId} {az : List AV} {r : AV} : (C.pt f az r) f az = some r := by unfold PCtx.pt; rw [if_pos ⟨rfl, rfl⟩]
@[simp] theorem pt_ne {C : PCtx} {f g : FuncId} {az a : List AV} {r : AV} (h : ¬ g = f) : (C.pt f az r) g a = C g a := by unfold PCtx.pt; rw [if_neg (fun e => h e.1)]
open Classical in
noncomputable def PCtx.fam {ι : Type} (C : PCtx) (f : FuncId) (g : ι → List AV) (r : ι → AV) : PCtx := fun h a => if e : h = f ∧ ∃ i, a = g i then some (r (Classical.choose e.2)) else C h a
theorem CtxOk.fam {P : Program} {C : PCtx} (hC : CtxOk P C) {ι : Type} {f : FuncId} {g : ι → List AV} {r : ι → AV} (h : ∀ i, PCall P f (g i) (r i)) : CtxOk P (C.fam f g r) := by
  intro k a v hv
  unfold PCtx.fam at hv
  split at hv
  · rename_i e
    have key : ∀ i, a = g i → some (r i) = some v → PCall P k a v := fun i h1 h2 => by
      injection h2 with h2
      rw [e.1, h1, ← h2]; exact h i
    exact key _ (Classical.choose_spec e.2) hv
  · exact hC _ _ _ hv
@[simp] theorem fam_ne {C : PCtx} {ι : Type} {f k : FuncId} {g : ι → List AV} {r : ι → AV} {a : List AV} (h : ¬ k = f) : (C.fam f g r) k a = C k a := by unfold PCtx.fam; rw [dif_neg (fun e => h e.1)]
end Fw
set_option linter.unusedVariables false
set_option linter.unusedSimpArgs false
namespace Fw
open Go

theorem fa (ag : Bool) (sz off i o : Nat) : afaddr ag sz off (.ref i o) = some (.ref i (o + off)) := rfl
theorem la (hp : Nat → Option (List AV)) (ag : Bool) (sz i o : Nat) : aload hp ag sz (.ref i o) = (hp i).bind fun ys => apart ag sz o ys := rfl
theorem lpf (hp : Nat → Option (List AV)) (f : Fn) (xs ys : List AV) : aload hp false 1 (.ptr (.fn f xs ys)) = some (.fn f xs ys) := rfl
theorem ca (xs : List AV) : (AV.agg xs).cells = xs := rfl
theorem ci (k : IntKind) (m : Int) : (AV.int k m).cells = [.int k m] := rfl
theorem cb (b : Bool) : (AV.bool b).cells = [.bool b] := rfl
theorem sa (xs : List AV) : (AV.agg xs).sto = true := rfl
theorem si (k : IntKind) (n : Int) : (AV.int k n).sto = true := rfl
theorem sb (b : Bool) : (AV.bool b).sto = true := rfl
theorem sm (ag : Bool) (sz i off len : Nat) (ex : Bool) : (AV.msl ag sz i off len ex).sto = true := rfl
theorem so (ag : Bool) (sz i len k : Nat) : (AV.osl ag sz i len k).sto = true := rfl
theorem sf (f : Fn) (xs ys : List AV) : (AV.fn f xs ys).sto = true := rfl
theorem asI_sto {x : AV} {l : List Int} (h : asI x = some l) : x.sto = true := by
  rcases asI_inv h with ⟨rfl, _⟩ | ⟨c, rfl⟩ <;> rfl
theorem asI_ld {x : AV} {l : List Int} (h : asI x = some l) (hp : Nat → Option (List AV)) : aload hp false 1 (.ptr x) = some x := by
  rcases asI_inv h with ⟨rfl, _⟩ | ⟨c, rfl⟩ <;> rfl
theorem asI_leaf {x : AV} {l : List Int} (h : asI x = some l) : x.leaf = true := by
  rcases asI_inv h with ⟨rfl, _⟩ | ⟨c, rfl⟩ <;> rfl
@[simp] theorem frz_fn {h : Nat → Option (List AV)} {n : Nat} {f : Fn} {xs ys : List AV} : frz h n (.fn f xs ys) = .fn f xs ys := by cases n <;> rfl

/-- a list of numbers, by content or in memory below n -/
def RdI (n : Nat) (hp : Nat → Option (List AV)) (x : AV) (l : List Int) : Prop :=
  l.length < 4294967296 ∧ (asI x = some l ∨ (∃ i k, x = .osl false 1 i l.length k ∧ i < n ∧ hp i = some (ints l)) ∨ ∃ i ex, x = .msl false 1 i 0 l.length ex ∧ i < n ∧ hp i = some (ints l))
theorem RdI.of {n : Nat} {hp : Nat → Option (List AV)} {x : AV} {l : List Int} (h : asI x = some l) : RdI n hp x l := ⟨asI_len h, .inl h⟩
theorem RdI.len {n : Nat} {hp : Nat → Option (List AV)} {x : AV} {l : List Int} (h : RdI n hp x l) : alenK false x = some (.int .i64 l.length) := by
  obtain ⟨h0, h | ⟨i, k, rfl, h2, h3⟩ | ⟨i, ex, rfl, h2, h3⟩⟩ := h
  · exact alen_of h
  · rfl
  · rfl
theorem ints_get {l : List Int} {i : Nat} (h : i < l.length) : (ints l)[i]? = some (.int .i64 l[i]) := by simp [ints, h]
theorem RdI.get {n : Nat} {hp : Nat → Option (List AV)} {x : AV} {l : List Int} (h : RdI n hp x l) {i : Nat} (hi : i < l.length) {k : IntKind} : ∃ p, aidxS 1 x (.int k (i : Int)) = some p ∧ aload hp false 1 p = some (.int .i64 l[i]) := by
  obtain ⟨h0, h | ⟨j, k, rfl, h2, h3⟩ | ⟨j, ex, rfl, h2, h3⟩⟩ := h
  · exact ⟨_, aidx_nat h hi, rfl⟩
  · exact ⟨.ref j i, by simp [aidxS, hi], by simp [aload, h3, apart, ints_get hi]⟩
  · exact ⟨.ref j i, by simp [aidxS, hi], by simp [aload, h3, apart, ints_get hi]⟩
theorem RdI.leaf {n : Nat} {hp : Nat → Option (List AV)} {x : AV} {l : List Int} (h : RdI n hp x l) : x.leaf = true := by
  obtain ⟨h0, h | ⟨j, k, rfl, h2, h3⟩ | ⟨j, ex, rfl, h2, h3⟩⟩ := h
  · exact asI_leaf h
  · rfl
  · rfl
theorem ints_cont (l : List Int) : mcont false 1 0 l.length (ints l) = some (ints l) := by
  have := mcont_full (ys := ints l) (n := l.length) (by simp [ints])
  exact this
theorem RdI.frzL {n : Nat} {hp : Nat → Option (List AV)} {x : AV} {l : List Int} (h : RdI n hp x l) (m : Nat) : asI (Fw.frzL hp (m + 1) x) = some l := by
  obtain ⟨h0, h | ⟨j, k, rfl, h2, h3⟩ | ⟨j, ex, rfl, h2, h3⟩⟩ := h
  · rcases asI_inv h with ⟨rfl, rfl⟩ | ⟨c, rfl⟩
    · rfl
    · rw [frzL_noM (noM_ints _ l c)]; exact h
  · rw [frzL_osl h3 (ints_cont l), map_frz_ints]; exact asI_sl h0
  · rw [frzL_msl h3 (ints_cont l), map_frz_ints]; exact asI_sl h0
theorem RdI.frz {n : Nat} {hp : Nat → Option (List AV)} {x : AV} {l : List Int} (h : RdI n hp x l) (m : Nat) : asI (Fw.frz hp (m + 1) x) = some l := by
  have := h.frzL m
  have hl := h.leaf
  cases x <;> first | exact this | (simp [AV.leaf] at hl)
/-! rows of lists -/
def rowI : AV → Option (List Int)
  | .esl => some []
  | x => asI x
theorem rowI_inv {x : AV} {l : List Int} (h : rowI x = some l) : (x = .esl ∧ l = []) ∨ asI x = some l := by
  unfold rowI at h
  split at h
  · injection h with h; exact .inl ⟨rfl, h.symm⟩
  · exact .inr h
theorem rowI_leaf {x : AV} {l : List Int} (h : rowI x = some l) : x.leaf = true := by
  rcases rowI_inv h with ⟨rfl, rfl⟩ | h
  · rfl
  · exact asI_leaf h
theorem rowI_noM {x : AV} {l : List Int} (h : rowI x = some l) (n : Nat) : noM n x = true := by
  rcases rowI_inv h with ⟨rfl, rfl⟩ | h
  · cases n <;> rfl
  · rcases asI_inv h with ⟨rfl, rfl⟩ | ⟨c, rfl⟩
    · cases n <;> rfl
    · exact noM_ints n l c
/-- a matrix: rows R i, of which m tells the numbers -/
structure IsM (x : AV) (m : List (List Int)) (R : Nat → AV) : Prop where
  lt : m.length < 4294967296
  form : x = .nilsl ∧ m = [] ∨ ∃ c, x = .sl 1 ((List.range m.length).map R) c
  row : ∀ (i : Nat) (h : i < m.length), rowI (R i) = some m[i]
theorem IsM.len {x : AV} {m : List (List Int)} {R : Nat → AV} (h : IsM x m R) : alenK false x = some (.int .i64 m.length) := by
  rcases h.form with ⟨rfl, rfl⟩ | ⟨c, rfl⟩
  · rfl
  · simp [alenK]
theorem IsM.get {x : AV} {m : List (List Int)} {R : Nat → AV} (h : IsM x m R) {i : Nat} (hi : i < m.length) {k : IntKind} : aidxS 1 x (.int k (i : Int)) = some (.ptr (R i)) := by
  rcases h.form with ⟨rfl, rfl⟩ | ⟨c, rfl⟩
  · simp at hi
  · simp [aidxS, hi]
theorem IsM.leaf {x : AV} {m : List (List Int)} {R : Nat → AV} (h : IsM x m R) : x.leaf = true := by
  rcases h.form with ⟨rfl, _⟩ | ⟨c, rfl⟩ <;> rfl
theorem IsM.frz {x : AV} {m : List (List Int)} {R : Nat → AV} (h : IsM x m R) (hp : Nat → Option (List AV)) (n : Nat) : Fw.frz hp n x = x := by
  rcases h.form with ⟨rfl, _⟩ | ⟨c, rfl⟩
  · cases n <;> rfl
  · refine frzL_noM ?_
    cases n with
    | zero => rfl
    | succ n =>
      simp only [noM, List.all_map, List.all_eq_true, List.mem_range]
      intro i hi
      have hl := rowI_leaf (h.row i hi)
      have hn := rowI_noM (h.row i hi) n
      simp only [Function.comp]
      cases hR : R i <;> rw [hR] at hl hn <;> first | exact hn | (simp [AV.leaf] at hl)
/-- a call of a pure closure -/
theorem At.hp {P : Program} {f : FuncId} {args : List AV} {d : Option Nat} {K : AS → Prop} {Q : AEx → AS → Prop} {s : AS} {r : AV} (h : PCall P f args r) (h1 : At (K (s.put d r))) : At (hcW P f args d K Q s) :=
  At.hc (h.fcall s.hs) (fun v hs' ⟨e, e2⟩ => by injection e with e; subst e; subst e2; exact h1) (fun v hs' ⟨e, _⟩ => by cases e)
end Fw
set_option linter.unusedVariables false
set_option linter.unusedSimpArgs false
namespace Fw
open Go

@[simp] theorem bs_size' (l : List UInt8) : (bs l).size = l.length := bs_size l
@[simp] theorem bs_inj' {a b : List UInt8} : (bs a = bs b) = (a = b) := propext bs_inj
@[simp] theorem alen_str {l : List UInt8} : alenK true (.str (bs l)) = some (.int .i64 l.length) := by simp [alenK]
@[simp] theorem abin_seql {kd : Nat} {a b : List UInt8} : abin kd .eql (.str (bs a)) (.str (bs b)) = some (.bool (decide (a = b))) := by simp [abin, astr]
@[simp] theorem abin_sneq {kd : Nat} {a b : List UInt8} : abin kd .neq (.str (bs a)) (.str (bs b)) = some (.bool (!decide (a = b))) := by simp [abin, astr]
theorem abin_sadd {kd : Nat} {a b : List UInt8} (h : a.length + b.length ≤ 1000000) : abin kd .add (.str (bs a)) (.str (bs b)) = some (.str (bs (a ++ b))) := by simp [abin, astr, h, bs_add]
@[simp] theorem share_str {s : ByteArray} : (AV.str s).share = .str s := by simp only [AV.share]
@[simp] theorem load_ptr_str {hp : Nat → Option (List AV)} {s : ByteArray} : aload hp false 1 (.ptr (.str s)) = some (.str s) := by simp [aload, apart, AV.cells]
end Fw
set_option linter.unusedVariables false
set_option linter.unusedSimpArgs false
namespace Fw
open Go Go.RowKit

theorem Inv.below {c : CM} {hs : HS} {w w' : World} (h : Inv c hs w) (hb : Below w.heap.size w w') : Inv c hs w' ∧ Fr c w c w' := by
  have hc : ∀ b o v, w.cell? ⟨b, o, none⟩ = some v → w'.cell? ⟨b, o, none⟩ = some v := fun b o v e => by
    rw [hb.cell (p := ⟨b, o, none⟩) (World.block_lt_of_cell? w _ e)]; exact e
  have hf : ∀ a : Addr, a.block < w.heap.size → w'.frozen? a = w.frozen? a := fun a e => hb.frozen e
  refine ⟨⟨h.nh, h.nt, h.tokv, h.vlt, fun b o v e => hc _ _ _ (h.imm b o v e), fun b o k e => ?_, fun i ys e => ?_, fun b o e => h.dom b o (Nat.le_trans hb.size e), fun i ps e => ?_, h.glob⟩, ⟨.refl c, hb.os, hb.output, hb.size, fun b hb' => ?_, fun _ _ _ e => e, ?_⟩⟩
  · obtain ⟨⟨v, hv⟩, h2⟩ := h.toks b o k e
    exact ⟨⟨v, hc _ _ _ hv⟩, by rw [hf ⟨b, o, none⟩ (World.block_lt_of_cell? w _ hv)]; exact h2⟩
  · obtain ⟨h1, h2⟩ := h.heap i ys e
    refine ⟨h1, fun j y hy => ?_⟩
    obtain ⟨a1, a2, a3, v, a4, a5⟩ := h2 j y hy
    exact ⟨a1, a2, by rw [hf ⟨_, _, none⟩ (World.block_lt_of_cell? w _ a4)]; exact a3, v, hc _ _ _ a4, a5⟩
  · obtain ⟨h1, h2, es, ck, h3, h4⟩ := h.maps i ps e
    refine ⟨h1, h2, es, ck, ?_, h4⟩
    have : (c.loc i).1 < w.heap.size := by
      rcases Nat.lt_or_ge (c.loc i).1 w.heap.size with h' | h'
      · exact h'
      · rw [Array.getElem?_eq_none h'] at h3; cases h3
    rw [hb.block _ this]; exact h3
  · rw [hb.block b hb']; exact .refl _ _ _
  · exact fun a ha => hf a ha
/-- a call that leaves all that was there as it was -/
theorem PCall.of_calls {P : Program} {f : FuncId} {args : List AV} {r : AV} (hok : callOk P f = true) (hp : r.plain = true) (hs : r.scal = true)
    (h : ∀ (c : CM) (w : World) (vs : List Value), RepL c vs args → Calls P f vs.toArray w fun e w' => ∃ v, e = .returned v ∧ Rep c v r ∧ Below w.heap.size w w') : PCall P f args r := by
  refine ⟨hp, fun hs' hb => ⟨hok, fun c w vs hi hv => (h c w vs hv).mono ?_⟩⟩
  rintro e w' ⟨v, rfl, hr, hbl⟩
  obtain ⟨h1, h2⟩ := hi.below hbl
  exact ⟨.ret r, hs', c, rfl, hr, h1, h2⟩
end Fw
set_option linter.unusedVariables false
namespace Fw
open Go

theorem ctx_pt {P : Program} {C : PCtx} (hC : CtxOk P C) (f : FuncId) (az : List AV) (r : AV) (h : PCall P f az r) :
    ∃ C' : PCtx, CtxOk P C' ∧ C' f az = some r ∧ ∀ k, ¬ k = f → C' k = C k :=
  ⟨C.pt f az r, hC.pt h, pt_eq, fun k hk => funext fun a => pt_ne hk⟩
/-- a piece of code, by what holds behind it -/
theorem At.cut {P : Program} {C : PCtx} {a : ACode} {K : AS → Prop} {Q : AEx → AS → Prop} {s : AS} (J : AS → Prop) (h1 : At (awp P C a (endN J) s)) (h2 : ∀ s', J s' → At (K s')) : At (awp P C a (thenQ K Q) s) :=
  awp_mono a (fun e s' he => by cases e <;> first | exact h2 s' he | exact he.elim) s h1
end Fw
set_option linter.unusedVariables false
set_option linter.unusedSimpArgs false
namespace Fw
open Go

theorem u8_bd {n : Int} (h : (Lit.int .u8 n).wf = true) : 0 ≤ n ∧ n ≤ 255 := by
  simp [Lit.wf, IntKind.min, IntKind.max, IntKind.signed, IntKind.bits] at h
  omega
theorem wrap8 {n : Int} (h0 : 0 ≤ n) (h1 : n ≤ 255) : IntKind.i64.wrap n = n := wrap64 (by omega) (by omega)
/-- a remainder of a number that is not negative -/
theorem rem64 {kd : Nat} {k : IntKind} {a b : Nat} (hb : 0 < b) : abin kd .rem (.int k (a : Int)) (.int k (b : Int)) = some (.int k ((a % b : Nat) : Int)) := by
  rw [abin_rem (by omega)]
  rw [Int.tmod_eq_emod_of_nonneg (by omega)]
  simp
end Fw
