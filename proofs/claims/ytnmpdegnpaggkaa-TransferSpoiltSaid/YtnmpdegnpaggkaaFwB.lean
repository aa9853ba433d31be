/-
  New blocks, stores and appends under the by-value reading: how the reading goes on. Own work; over any program.
-/
import Derived.Test.YtnmpdegnpaggkaaFwA
import Derived.Laws.Append
import Derived.Laws.MakeOwn
import Derived.Laws.Slices
set_option linter.unusedVariables false
set_option linter.unusedSimpArgs false
namespace Fw
open Go

theorem alloc_heap (w : World) (o : Obj) : (w.alloc o).heap = w.heap.push o := rfl
theorem wcell_old {w : World} {o : Obj} {b j : Nat} (h : b < w.heap.size) : (w.alloc o).cell? ⟨b, j, none⟩ = w.cell? ⟨b, j, none⟩ := World.cell?_alloc_old w o _ (by simpa using Nat.ne_of_lt h)
theorem wfroz_alloc {w : World} {cs : Array Value} {e : TypeId} (a : Addr) : (w.alloc (.cells cs e)).frozen? a = w.frozen? a := by
  by_cases h : a.block = w.heap.size
  · unfold World.frozen?; rw [alloc_heap, h]; simp
  · exact World.frozen?_alloc_old w _ _ h
theorem wcell_none {w : World} {b j : Nat} (h : w.heap.size ≤ b) : w.cell? ⟨b, j, none⟩ = none := by simp [World.cell?, Array.getElem?_eq_none h]

/-- the class map with a new block -/
def CM.at (c : CM) (b0 : Nat) (g : Nat → Cl) : Nat → Nat → Cl := fun b o => if b = b0 then g o else c.cl b o
theorem CM.at_ne (c : CM) {b0 b : Nat} (g : Nat → Cl) (o : Nat) (h : b ≠ b0) : c.at b0 g b o = c.cl b o := by simp [CM.at, h]
theorem CM.at_eq (c : CM) (b0 : Nat) (g : Nat → Cl) (o : Nat) : c.at b0 g b0 o = g o := by simp [CM.at]

theorem Inv.lt {c : CM} {s : HS} {w : World} (h : Inv c s w) {b o : Nat} (hn : c.cl b o ≠ .no) : b < w.heap.size := by
  rcases Nat.lt_or_ge b w.heap.size with h' | h'
  · exact h'
  · exact absurd (h.dom b o h') hn
theorem Inv.ne {c : CM} {s : HS} {w : World} (h : Inv c s w) {b o : Nat} (hn : c.cl b o ≠ .no) : b ≠ w.heap.size := Nat.ne_of_lt (h.lt hn)

theorem Inv.drew {c : CM} {s : HS} {w : World} (h : Inv c s w) : Inv c s w.drew := ⟨h.nh, h.nt, h.tokv, h.vlt, h.imm, h.toks, h.heap, h.dom⟩
theorem Fr.drew {c0 c : CM} {w0 w : World} (h : Fr c0 w0 c w) : Fr c0 w0 c w.drew := ⟨h.le, h.os, h.out, h.size, h.blk, h.no, h.frz⟩

/-- any new block: what has to be said of it alone -/
theorem Inv.newBlock {c : CM} {s : HS} {w : World} (h : Inv c s w) (cs : Array Value) (e : TypeId) (c' : CM) (s' : HS) (g : Nat → Cl)
    (hcl : c'.cl = c.at w.heap.size g)
    (hle : c.le c')
    (hnh : s'.nh = c'.nh) (hnt : s'.nt = c'.nt) (hv : ∀ k, s'.tok k = c'.val k) (hvlt : ∀ k, c'.val k = true → k < c'.nt)
    (gimm : ∀ o v, g o = .imm v → cs[o]? = some v)
    (gtok : ∀ o k, g o = .tok k → o < cs.size)
    (hheap : ∀ i ys, s'.heap i = some ys → (s.heap i = some ys ∨ (c'.loc i = (w.heap.size, 0) ∧ i < c'.nh ∧ ∀ (j : Nat) (y : AV), ys[j]? = some y → y.leaf = true ∧ g j = .blk i j ∧ ∃ v, cs[j]? = some v ∧ Rep c' v y))) :
    Inv c' s' (w.alloc (.cells cs e)) ∧ Fr c w c' (w.alloc (.cells cs e)) := by
  refine ⟨⟨hnh, hnt, hv, hvlt, ?_, ?_, ?_, ?_⟩, ⟨hle, rfl, rfl, by simp, ?_, ?_, fun a => wfroz_alloc a⟩⟩
  · intro b o v hb
    rw [hcl] at hb
    by_cases hbb : b = w.heap.size
    · subst hbb
      rw [CM.at_eq] at hb
      rw [World.cell?_alloc_new]; exact gimm o v hb
    · rw [CM.at_ne _ _ _ hbb] at hb
      rw [wcell_old (h.lt (by rw [hb]; simp))]; exact h.imm b o v hb
  · intro b o k hb
    rw [hcl] at hb
    by_cases hbb : b = w.heap.size
    · subst hbb
      rw [CM.at_eq] at hb
      have := gtok o k hb
      refine ⟨⟨cs[o], by rw [World.cell?_alloc_new]; simp [this]⟩, by simp⟩
    · rw [CM.at_ne _ _ _ hbb] at hb
      rw [wcell_old (h.lt (by rw [hb]; simp)), wfroz_alloc]; exact h.toks b o k hb
  · intro i ys hi
    rcases hheap i ys hi with hi' | ⟨hl, hlt, hj⟩
    · obtain ⟨hlt, hj⟩ := h.heap i ys hi'
      refine ⟨Nat.lt_of_lt_of_le hlt hle.nh, fun j y hy => ?_⟩
      obtain ⟨h0, h1, h2, v, h3, h4⟩ := hj j y hy
      rw [hle.loc i hlt]
      refine ⟨h0, ?_, by rw [wfroz_alloc]; exact h2, v, ?_, h4.mono hle⟩
      · rw [hcl, CM.at_ne _ _ _ (h.ne (by rw [h1]; simp))]; exact h1
      · rw [wcell_old (h.lt (o := (c.loc i).2 + j) (by rw [h1]; simp))]; exact h3
    · refine ⟨hlt, fun j y hy => ?_⟩
      obtain ⟨h0, h1, v, h2, h3⟩ := hj j y hy
      rw [hl]
      simp only [Nat.zero_add]
      exact ⟨h0, by rw [hcl, CM.at_eq]; exact h1, by simp, v, by rw [World.cell?_alloc_new]; exact h2, h3⟩
  · intro b o hb
    rw [hcl]
    simp at hb
    rw [CM.at_ne _ _ _ (by omega)]
    exact h.dom b o (by omega)
  · intro b hb
    have : (w.alloc (.cells cs e)).heap[b]? = w.heap[b]? := by
      rw [alloc_heap]; simp [Array.getElem?_push, Nat.ne_of_lt hb]
    rw [this]; exact .refl _ _ _
  · intro b o hb hno
    rw [hcl, CM.at_ne _ _ _ (Nat.ne_of_lt hb)]; exact hno

theorem CM.le_at {c : CM} {s : HS} {w : World} (h : Inv c s w) (c' : CM) (g : Nat → Cl) (hcl : c'.cl = c.at w.heap.size g) (hnh : c.nh ≤ c'.nh)
    (hloc : ∀ i, i < c.nh → c'.loc i = c.loc i) (hnt : c.nt ≤ c'.nt) (hval : ∀ k, k < c.nt → c'.val k = true → c.val k = true) : c.le c' where
  imm := fun b o v e => by rw [hcl, CM.at_ne _ _ _ (h.ne (by rw [e]; simp))]; exact e
  nh := hnh
  loc := hloc
  nt := hnt
  val := hval
  tok := fun b o k _ e _ => by rw [hcl, CM.at_ne _ _ _ (h.ne (by rw [e]; simp))]; exact e

/-- a new block whose cells stay -/
theorem Inv.newImm {c : CM} {s : HS} {w : World} (h : Inv c s w) (cs : Array Value) (e : TypeId) :
    ∃ c', Inv c' s (w.alloc (.cells cs e)) ∧ Fr c w c' (w.alloc (.cells cs e)) ∧ (∀ (j : Nat) v, cs[j]? = some v → c'.cl w.heap.size j = .imm v) := by
  let g : Nat → Cl := fun o => match cs[o]? with | some v => .imm v | none => .no
  let c' : CM := { c with cl := c.at w.heap.size g }
  have hle : c.le c' := CM.le_at h c' g rfl (Nat.le_refl _) (fun _ _ => rfl) (Nat.le_refl _) (fun _ _ e => e)
  obtain ⟨h1, h2⟩ := h.newBlock cs e c' s g rfl hle h.nh h.nt h.tokv h.vlt (by
      intro o v hg
      simp only [g] at hg
      split at hg <;> simp_all) (by
      intro o k hg
      simp only [g] at hg
      split at hg <;> simp_all) (fun i ys hi => .inl hi)
  refine ⟨c', h1, h2, fun j v hj => ?_⟩
  simp only [c', CM.at_eq, g, hj]

/-- a new mutable block -/
theorem Inv.newBlk {c : CM} {s : HS} {w : World} (h : Inv c s w) (vs : List Value) (ys : List AV) (e : TypeId) (hr : RepL c vs ys) (hlf : ∀ (j : Nat) (y : AV), ys[j]? = some y → y.leaf = true) :
    ∃ c', Inv c' { s with heap := fun i => if i = s.nh then some ys else s.heap i, nh := s.nh + 1 } (w.alloc (.cells vs.toArray e)) ∧ Fr c w c' (w.alloc (.cells vs.toArray e)) ∧
      Rep c' (.pointer (some ⟨w.heap.size, 0, none⟩)) (.ref s.nh 0) := by
  let g : Nat → Cl := fun o => if o < vs.length then .blk c.nh o else .no
  let c' : CM := { c with cl := c.at w.heap.size g, nh := c.nh + 1, loc := fun i => if i = c.nh then (w.heap.size, 0) else c.loc i }
  have hle : c.le c' := CM.le_at h c' g rfl (by simp [c']) (fun i hi => by simp [c', Nat.ne_of_lt hi]) (Nat.le_refl _) (fun _ _ e => e)
  obtain ⟨h1, h2⟩ := h.newBlock vs.toArray e c' { s with heap := fun i => if i = s.nh then some ys else s.heap i, nh := s.nh + 1 } g rfl hle (by simp [c', h.nh]) h.nt h.tokv h.vlt (by
      intro o v hg
      simp only [g] at hg
      split at hg <;> simp_all) (by
      intro o k hg
      simp only [g] at hg
      split at hg <;> simp_all) (by
      intro i ys' hi
      simp only at hi
      split at hi
      · rename_i hin
        injection hi with hi; subst hi
        right
        rw [h.nh] at hin
        subst hin
        refine ⟨by simp [c'], by simp [c'], fun j y hy => ?_⟩
        obtain ⟨v, hv, hrv⟩ := hr.get hy
        have hj : j < vs.length := by
          rcases Nat.lt_or_ge j vs.length with h' | h'
          · exact h'
          · simp [List.getElem?_eq_none h'] at hv
        exact ⟨hlf j y hy, by simp [g, hj], v, by simpa using hv, hrv.mono hle⟩
      · exact .inl hi)
  refine ⟨c', h1, h2, ?_⟩
  have := Rep.ref (c := c') c.nh 0 (by simp [c'])
  simp only [c', if_true] at this
  rw [h.nh]; exact this

/-- a store into a mutable block: one cell -/
theorem Inv.setBlk {c : CM} {s : HS} {w : World} (h : Inv c s w) {i : Nat} {ys : List AV} (hi : s.heap i = some ys) {j : Nat} (hj : j < ys.length) {v : Value} {x : AV} (hv : Rep c v x) (hx : x.leaf = true) :
    Inv c { s with heap := fun k => if k = i then some (ys.set j x) else s.heap k } (w.setCell ⟨(c.loc i).1, (c.loc i).2 + j, none⟩ v) ∧
    Fr c w c (w.setCell ⟨(c.loc i).1, (c.loc i).2 + j, none⟩ v) := by
  obtain ⟨hilt, hcells⟩ := h.heap i ys hi
  obtain ⟨_, hcl, hfz, u, hu, _⟩ := hcells j ys[j] (by simp [hj])
  have hne : ∀ b o, c.cl b o ≠ .blk i j → (⟨(c.loc i).1, (c.loc i).2 + j, none⟩ : Addr) ≠ ⟨b, o, none⟩ := by
    intro b o hb he
    injection he with e1 e2
    subst e1; subst e2
    exact hb hcl
  refine ⟨⟨h.nh, h.nt, h.tokv, h.vlt, ?_, ?_, ?_, ?_⟩, ⟨.refl c, rfl, rfl, by simp, ?_, fun _ _ _ h => h, fun a => by simp⟩⟩
  · intro b o v' hb
    rw [World.cell?_setCell_other w _ _ _ (hne b o (by rw [hb]; simp))]; exact h.imm b o v' hb
  · intro b o k hb
    rw [World.cell?_setCell_other w _ _ _ (hne b o (by rw [hb]; simp)), World.frozen?_setCell]; exact h.toks b o k hb
  · intro i' ys' hi'
    simp only at hi'
    split at hi'
    · rename_i he
      subst he
      injection hi' with hi'; subst hi'
      refine ⟨hilt, fun j' y hy => ?_⟩
      rw [List.getElem?_set] at hy
      split at hy
      · rename_i hjj
        subst hjj
        simp [hj] at hy
        subst hy
        exact ⟨hx, hcl, by simpa using hfz, v, World.cell?_setCell_same w _ _ hu, hv⟩
      · rename_i hjj
        obtain ⟨h0, h1, h2, v', h3, h4⟩ := hcells j' y hy
        refine ⟨h0, h1, by simpa using h2, v', ?_, h4⟩
        rw [World.cell?_setCell_other w _ _ _ (hne _ _ (by rw [h1]; intro e; injection e with _ e; exact hjj e.symm))]; exact h3
    · rename_i he
      obtain ⟨hlt, hall⟩ := h.heap i' ys' hi'
      refine ⟨hlt, fun j' y hy => ?_⟩
      obtain ⟨h0, h1, h2, v', h3, h4⟩ := hall j' y hy
      refine ⟨h0, h1, by simpa using h2, v', ?_, h4⟩
      rw [World.cell?_setCell_other w _ _ _ (hne _ _ (by rw [h1]; intro e; injection e with e _; exact he e))]; exact h3
  · intro b o hb
    exact h.dom b o (by simpa using hb)
  · intro b hb
    have hblk : (w.setCell ⟨(c.loc i).1, (c.loc i).2 + j, none⟩ v).heap[b]? = if (c.loc i).1 = b then (w.heap[b]?).map (fun
      | .cells cc elem frozen => .cells (cc.setIfInBounds ((c.loc i).2 + j) v) elem frozen
      | o => o) else w.heap[b]? := by
      simp only [World.setCell, Array.getElem?_modify]
      rfl
    rw [hblk]
    split
    · rename_i he
      subst he
      cases hh : w.heap[(c.loc i).1]? with
      | none => simp [FrB]
      | some x =>
        cases x with
        | cells cs e fr =>
          refine ⟨_, rfl, by simp, fun o ho => ?_⟩
          rw [Array.getElem?_setIfInBounds]
          split
          · rename_i hoo
            subst hoo
            rw [hcl] at ho
            simp [Cl.writable] at ho
          · rfl
        | _ => simp [FrB]
    · exact .refl _ _ _
end Fw
