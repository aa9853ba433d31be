/-
  The joined rows, proved. Own work, after the template that the seat lays.
-/
import Derived.Test.YtnmpdegnpaggkaaRows
import Derived.Test.YtnmpdegnpaggkaaLaw
import Derived.Test.YtnmpdegnpaggkaaFwW
import Derived.ProofKit
set_option linter.unusedVariables false
set_option linter.unusedSimpArgs false
namespace Go.Proofs.Ytnmpdegnpaggkaa
open Go.ChangeShapes Go.WideShapes Go.ChangeAt Go.RowKit

theorem Try.own : ownKnob Try.prog.godebug = none := by kernel_rfl
theorem Try.laidOut : laidOutB Try.prog = true := by kernel_rfl
theorem cells3 : Try.prog.cellsOf 3 = 1 := by kernel_rfl

/-- a slice of numbers among the arguments: how it reads for the contracts, and that it reads so later -/
theorem arg_ints {H : Type} {enc : TypeId × Value → H} {W : World} {v : Value} {d : DataW H} {p : List MemPlace} (hv : Value.okWide Try.prog W .any 0 22 v)
    (h : DataW.Trod enc Try.prog W 0 (fun _ => true) true 22 v d p) :
    ∃ x l, IsList x l ∧ Fw.Rep (Fw.cm0 W) v x ∧ ∀ W', Grown W W' → ∀ sp : Nat → Bool, (∀ q ∈ p, sp q.block = true) → DataW.Trod enc Try.prog W' 0 sp true 22 v d p := by
  obtain ⟨fuel, h⟩ := h
  rcases open_ints Try.underlying22 Try.underlying3 cells3 h with ⟨hcs, hx⟩ | ⟨a, len, cap, zs, hcs, hb, hl, hm, hz, hx, hcell, hwf⟩
  · have hv0 : v = .slice none 0 0 := by
      cases v <;> simp_all [Value.cells]
      simp [Value.okWide, Try.underlying22, Cell.okWide, Cell.ok] at hv
    subst hv0
    injection hx with hd hp
    subst hd; subst hp
    exact ⟨.nilsl, [], .inl ⟨rfl, rfl⟩, .nilsl, fun W' _ sp _ => ⟨1, by simp [DataW.trod, Try.underlying22, Value.cells]⟩⟩
  · have hv0 : v = .slice (some a) len cap := by
      cases v <;> simp_all [Value.cells]
      simp [Value.okWide, Try.underlying22, Cell.okWide, Cell.ok] at hv
    subst hv0
    injection hx with hd hp
    subst hd; subst hp
    have hspot : a.spot = none := by
      have := hv
      simp only [Value.okWide, Try.underlying22, Cell.okWide, Cell.ok, World.has] at this
      exact this.2.2.2.1
    obtain ⟨b, o, sp0⟩ := a
    simp only at hspot
    subst hspot
    simp only [if_true] at hz
    have hcell' : ∀ i, i < zs.length → W.cell? ⟨b, o + i, none⟩ = some (.int .i64 (zs.getD i 0)) := fun i hi => by rw [← add_plain]; exact hcell i hi
    refine ⟨.sl 1 (Fw.ints (zs.take len)) .shared, zs.take len, .inr ⟨_, rfl⟩, ?_, ?_⟩
    · have := Fw.rep_ints (W := W) (b := b) (o := o) (cap := cap) (zs := zs.take len) (by simp; omega) (fun i hi => by
        simp only [List.length_take] at hi
        rw [hcell' i (by omega)]
        simp [List.getD, List.getElem?_take, show i < len by omega])
      rwa [show (zs.take len).length = len by simp; omega] at this
    · intro W' hg sp hsp
      refine ⟨2, ?_⟩
      have hsz : zs.length = (if sp b = true then cap else len) := by
        by_cases hc : 0 < zs.length
        · have hs : sp b = true := hsp (.cell b o) (by
            rw [MemPlace.mem_row]
            exact ⟨0, hc, rfl⟩)
          rw [if_pos hs]
          exact hz
        · have : zs.length = 0 := by omega
          split <;> omega
      have hcell2 : ∀ i, i < zs.length → W'.cell? (Addr.add ⟨b, o, none⟩ i) = some (.int .i64 (zs.getD i 0)) := by
        intro i hi
        have hc := hcell' i hi
        have hlt : b < W.heap.size := by
          rcases Nat.lt_or_ge b W.heap.size with h | h
          · exact h
          · simp [World.cell?, h] at hc
        rw [add_plain, hg.1.cell hlt (fun f => f)]
        exact hc
      exact shut_ints 0 Try.underlying22 Try.underlying3 cells3 hb hl hm hsz hcell2 hwf

set_option maxRecDepth 100000 in
theorem chains_lifted (os : Os) (started : os.Started) (H : Type) (enc : TypeId × Value → H) :
    ReturnsInHanded {} Try.checked os 3 .any (Rows.transferChainsSpec.pre6 enc Try.prog Try.f3 Rows.transferChainsRow.domain false) (Rows.transferChainsSpec.post enc Try.prog Try.f3 false true false false) := by
  refine returnsInHanded_of_change (C := Try.checked) Try.own started (by kernel_rfl) Try.func3
    (ChangeSpec.witness6 (enc := enc) (C := Try.checked) false ⟨#[], #[.slice none 0 0], []⟩ 8 (by kernel_rfl) (by kernel_rfl) (by kernel_rfl) (by kernel_rfl)) ?_
  intro W base args ds gs before hval0 hW hcnd _
  have hval : ∀ (j : Nat) t v, Try.f3.params[j]? = some t → args[j]? = some v → Value.okWide Try.prog W .any base t v := hval0
  have hW' := hW
  obtain ⟨p, q, hA0, hV, rfl, hfz, hnd⟩ := hW
  have hA : DataW.TrodAll enc Try.prog W 0 (fun _ => true) true Try.f3.params.toList args.toList ds p := hA0
  rw [Try.params3] at hA hval
  obtain ⟨v0, d0, rfl, rfl, h0⟩ := trodAll_one hA
  obtain ⟨rfl, rfl⟩ := trodVars_none hV
  obtain ⟨x, l, hx, hr, hback⟩ := arg_ints (hval 0 22 v0 rfl rfl) h0
  clear hA0 hval0
  simp only [List.append_nil] at hW'
  refine (Fw.lift_true (p3 hx) (.cons hr .nil)).mono fun e W' ⟨he, hg⟩ => ?_
  subst he
  exact ⟨_, rfl, post_of_same (pa := p) (pv := []) hW' (fun _ _ _ => trodAll_mk1 (shut_bool Try.underlying4 _)) (fun sp hsp => trodAll_mk1 (hback W' hg sp (by simpa using hsp))) (fun _ _ => rfl) (by simp)
    (hg.frame _) hg.2.1 (ok_one (by kernel_rfl) rfl (okWide_bool_mk Try.underlying4 _))⟩
theorem transferChains_holds : Rows.TransferChainsSaid :=
  OpenClaim.holds_of_wide 3 Try.f3 rfl rfl rfl rfl rfl rfl rfl ⟨rfl, rfl, rfl, rfl, rfl⟩ rfl rfl rfl rfl rfl (by kernel_rfl) Try.func3 (by kernel_rfl)
    (of_decide_eq_true (by kernel_rfl)) (by unfold Func.isWrapper; first | (rw [if_pos (by decide +kernel)]; kernel_rfl) | (rw [if_neg (by decide +kernel)]; exact ⟨rfl, rfl⟩))
    (fun os started H enc _ => chains_lifted os started H enc)
end Go.Proofs.Ytnmpdegnpaggkaa
