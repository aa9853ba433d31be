/-
  Results with owned slices: read as shared ones from outside. Own work; over any program.
-/
import Derived.Test.YtnmpdegnpaggkaaFwT
set_option linter.unusedVariables false
set_option linter.unusedSimpArgs false
namespace Fw
open Go

def Cap.share : Cap → Cap
  | .own _ => .shared
  | c => c
mutual
def AV.share : AV → AV
  | .sl sz xs c => .sl sz (shareL xs) c.share
  | .ptr x => .ptr x.share
  | .agg xs => .agg (shareL xs)
  | .tup xs => .tup (shareL xs)
  | .fn f a b => .fn f (shareL a) (shareL b)
  | .iface t x => .iface t x.share
  | x => x
def shareL : List AV → List AV
  | [] => []
  | x :: xs => x.share :: shareL xs
end
theorem shareL_map (xs : List AV) : shareL xs = xs.map AV.share := by
  induction xs with
  | nil => rfl
  | cons x xs ih => simp only [shareL, List.map_cons, ih]
theorem share_cells (x : AV) : x.share.cells = x.cells.map AV.share := by
  cases x <;> simp [AV.share, AV.cells, shareL_map]
theorem share_leaf (x : AV) : x.share.leaf = x.leaf := by cases x <;> simp [AV.share, AV.leaf]
theorem share_flat (xs : List AV) : flat (xs.map AV.share) = (flat xs).map AV.share := by
  induction xs with
  | nil => rfl
  | cons x xs ih => simp only [List.map_cons, flat, List.map_append, ih, share_cells]
theorem CapOk.share {c : CM} {b o len sz cap : Nat} {cp : Cap} (h : CapOk c b o len sz cap cp) : CapOk c b o len sz cap cp.share := by
  cases cp with
  | exact => exact h
  | shared => exact h
  | own k => exact h.le
theorem Rep.share {c : CM} {v : Value} {x : AV} (h : Rep c v x) : Rep c v x.share := by
  have getm : ∀ {xs : List AV} {j : Nat} {y : AV}, (xs.map AV.share)[j]? = some y → ∃ y0, xs[j]? = some y0 ∧ y = y0.share := by
    intro xs j y hy
    rw [List.getElem?_map] at hy
    cases hx : xs[j]? with
    | none => rw [hx] at hy; cases hy
    | some y0 => rw [hx] at hy; injection hy with hy; exact ⟨y0, rfl, hy.symm⟩
  induction h with
  | int k n => exact .int k n
  | bool b => exact .bool b
  | str s => exact .str s
  | nilptr => exact .nilptr
  | nilsl => exact .nilsl
  | nilif => exact .nilif
  | nilfn => exact .nilfn
  | ptr b o vs x hl hc h lf ih =>
    refine .ptr b o vs _ (by rw [share_cells]; simpa using hl) hc (fun j v y hv hy => ?_) (fun j y hy => ?_)
    · rw [share_cells] at hy
      obtain ⟨y0, h0, rfl⟩ := getm hy
      exact ih j v y0 hv h0
    · rw [share_cells] at hy
      obtain ⟨y0, h0, rfl⟩ := getm hy
      rw [share_leaf]; exact lf j y0 h0
  | ref i off hi => exact .ref i off hi
  | sl b o cap sz xs cp vs hl hz hc h lf hcap ih =>
    have := Rep.sl (c := c) b o cap sz (xs.map AV.share) cp.share vs (by rw [share_flat]; simpa using hl) ?_ hc ?_ ?_ (by rw [List.length_map]; exact hcap.share)
    · rw [List.length_map] at this
      simpa [AV.share, shareL_map] using this
    · intro x hx
      simp only [List.mem_map] at hx
      obtain ⟨x0, hx0, rfl⟩ := hx
      rw [share_cells, List.length_map]; exact hz x0 hx0
    · intro j v y hv hy
      rw [share_flat] at hy
      obtain ⟨y0, h0, rfl⟩ := getm hy
      exact ih j v y0 hv h0
    · intro j y hy
      rw [share_flat] at hy
      obtain ⟨y0, h0, rfl⟩ := getm hy
      rw [share_leaf]; exact lf j y0 h0
  | agg vs xs hl h lf ih =>
    have := Rep.agg (c := c) vs (xs.map AV.share) (by simpa using hl) ?_ ?_
    · simpa [AV.share, shareL_map] using this
    · intro j v y hv hy
      obtain ⟨y0, h0, rfl⟩ := getm hy
      exact ih j v y0 hv h0
    · intro j y hy
      obtain ⟨y0, h0, rfl⟩ := getm hy
      rw [share_leaf]; exact lf j y0 h0
  | tup vs xs hl h ih =>
    have := Rep.tup (c := c) vs (xs.map AV.share) (by simpa using hl) ?_
    · simpa [AV.share, shareL_map] using this
    · intro j v y hv hy
      obtain ⟨y0, h0, rfl⟩ := getm hy
      exact ih j v y0 hv h0
  | fn f v1 v2 x1 x2 hl1 hl2 h1 h2 ih1 ih2 =>
    have := Rep.fn (c := c) f v1 v2 (x1.map AV.share) (x2.map AV.share) (by simpa using hl1) (by simpa using hl2) ?_ ?_
    · simpa [AV.share, shareL_map] using this
    · intro j v y hv hy
      obtain ⟨y0, h0, rfl⟩ := getm hy
      exact ih1 j v y0 hv h0
    · intro j v y hv hy
      obtain ⟨y0, h0, rfl⟩ := getm hy
      exact ih2 j v y0 hv h0
  | iface t v x h ih => exact .iface t v _ ih

/-- a value of which the result is a reading -/
def Reads (r : AV) (e : AEnd) : Prop := ∃ x, e = .ret x ∧ x.share = r
theorem FCall.share {P : Program} {f : FuncId} {args : List AV} {hs : HS} {r : AV} (h : FCall P f args hs fun e _ => Reads r e) : FCall P f args hs fun e _ => e = .ret r := by
  refine ⟨h.ok, fun c w vs hi hv => (h.run c w vs hi hv).mono ?_⟩
  rintro e w' ⟨ae, hs', c', ⟨x, rfl, rfl⟩, he, h2, h3⟩
  refine ⟨.ret x.share, hs', c', rfl, ?_, h2, h3⟩
  cases e with
  | returned v => exact Rep.share (show Rep c' v x from he)
  | panicked ch => exact he
  | outgrown => exact he
theorem PCall.of {P : Program} {C : PCtx} (hC : CtxOk P C) {f : FuncId} {muts : List Nat} {pu : List FuncId} {ac : ACode} {rs : List ARes} {n : Nat} (hf : FnOk P f muts pu ac rs n) {args : List AV} {r : AV} (hn : args.length ≤ n) (hp : r.plain = true)
    (h : ∀ hs : HS, hs.bare → At (awp P C ac (finQ rs fun e _ => Reads r e) ⟨argEnv args, hs⟩)) : PCall P f args r :=
  ⟨hp, fun hs hb => FCall.share (FCall.of_body hC hf hn (h hs hb))⟩
@[simp] theorem At.reads {x r : AV} : At (Reads r (.ret x)) = (x.share = r) := by
  simp only [At, Reads, eq_iff_iff]
  exact ⟨fun ⟨y, h1, h2⟩ => by injection h1 with h1; subst h1; exact h2, fun h => ⟨x, rfl, h⟩⟩
@[simp] theorem share_int {k : IntKind} {n : Int} : (AV.int k n).share = .int k n := by simp only [AV.share]
@[simp] theorem share_bool {b : Bool} : (AV.bool b).share = .bool b := by simp only [AV.share]
@[simp] theorem share_nilsl : AV.nilsl.share = .nilsl := by simp only [AV.share]
@[simp] theorem share_sl {sz : Nat} {xs : List AV} {c : Cap} : (AV.sl sz xs c).share = .sl sz (xs.map AV.share) c.share := by simp only [AV.share, shareL_map]
@[simp] theorem share_tup {xs : List AV} : (AV.tup xs).share = .tup (xs.map AV.share) := by simp only [AV.share, shareL_map]
@[simp] theorem share_agg {xs : List AV} : (AV.agg xs).share = .agg (xs.map AV.share) := by simp only [AV.share, shareL_map]
@[simp] theorem share_ptr {x : AV} : (AV.ptr x).share = .ptr x.share := by simp only [AV.share]
@[simp] theorem share_iface {t : TypeId} {x : AV} : (AV.iface t x).share = .iface t x.share := by simp only [AV.share]
@[simp] theorem capshare_o {k : Nat} : (Cap.own k).share = .shared := id rfl
@[simp] theorem capshare_s : Cap.shared.share = .shared := id rfl
@[simp] theorem capshare_e : Cap.exact.share = .exact := id rfl
@[simp] theorem share_ints (l : List Int) : (ints l).map AV.share = ints l := by simp [ints]
@[simp] theorem asI_share {x : AV} {l : List Int} (h : asI x = some l) : asI x.share = some l := by
  rcases asI_inv h with ⟨rfl, rfl⟩ | ⟨c, rfl⟩
  · simp
  · have := asI_len h
    rw [share_sl, share_ints]
    exact asI_sl this
end Fw
