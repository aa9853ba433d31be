/-
  A list of braces that may be appended to. Own work.
-/
import Derived.Test.YtecbbbocjmdfgaaG5
set_option linter.unusedVariables false
set_option linter.unusedSimpArgs false
namespace Go.Proofs.Ytecbbbocjmdfgaa
open Go Fw

/-- a list of braces that may be appended to -/
structure OwB (hs : HS) (y : AV) (l : List Br) : Prop where
  fr : Fresh hs y
  el : aelems y = some (brs l)
  sz : aszOk 3 y = true
  asb : asB y = some l
theorem OwB.cells {hs : HS} {y : AV} {l : List Br} (h : OwB hs y l) : y.cells = [y] ∧ y.sto = true := asB_cells h.asb
theorem OwB.cong {hs hs' : HS} {y : AV} {l : List Br} (h : OwB hs y l) (e1 : hs'.tok = hs.tok) (e2 : hs'.nt = hs.nt) : OwB hs' y l := ⟨fresh_cong e1 e2 h.fr, h.el, h.sz, h.asb⟩
theorem brs_app {l m : List Br} : brs l ++ brs m = brs (l ++ m) := by simp [brs]
theorem OwB.app {hs : HS} {x q : AV} {l m : List Br} (h : OwB hs x l) (hq : asV 3 q = some (brs m)) (hl : l.length + m.length ≤ 100000) : ∃ y hs', aappend 3 hs x q = some (y, hs') ∧ OwB hs' y (l ++ m) ∧ SameMem hs hs' := by
  obtain ⟨y, hs', b1, b2, b3, b4, b5, b6, b7⟩ := append_fresh (ys := brs m) h.fr h.el h.sz hq (by simp; omega)
  rw [brs_app] at b3 b5
  refine ⟨y, hs', b1, ⟨b2, b3, b4, ?_⟩, b6⟩
  rcases b5 with ⟨rfl, h0⟩ | ⟨k, rfl⟩
  · have : m = [] := List.map_eq_nil_iff.1 h0
    subst this
    rw [List.append_nil]; exact h.asb
  · exact asB_sl (by simp; omega)
theorem copyO {hs : HS} {x : AV} {l : List Br} (hx : asB x = some l) (hl : l.length ≤ 1000) : ∃ y hs', aappend 3 hs (.sl 3 [] .exact) x = some (y, hs') ∧ OwB hs' y l ∧ SameMem hs hs' := by
  have h0 : OwB hs (.sl 3 [] .exact) [] := ⟨trivial, rfl, rfl, rfl⟩
  obtain ⟨y, hs', b1, b2, b3⟩ := h0.app (asB_inv hx).1 (by simp; omega)
  exact ⟨y, hs', b1, by simpa using b2, b3⟩
end Go.Proofs.Ytecbbbocjmdfgaa
