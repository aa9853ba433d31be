/-
  TopTernary: the row, and the tied card; no conditions. Own work, after the worked card of the kit.
-/
import Derived.Test.YtdcpkgedaflnmaaGreatDoorRows
import Derived.Test.YtdcpkgedaflnmaaGreatDoorCards
import Derived.Test.YtdcpkgedaflnmaaGreatDoorTie
import Derived.Test.YtdcpkgedaflnmaaGreatDoorT5
import Derived.Test.YtdcpkgedaflnmaaGreatDoorFx5
import Derived.Lay
import Derived.SevenTiedAt
import Derived.Stop.Joined
set_option linter.unusedVariables false
set_option linter.unusedSimpArgs false
namespace Go.Proofs.YtdcpkgedaflnmaaGreatDoor
open Go.ChangeShapes Go.WideShapes Go.ChangeAt Go.RowKit Fw

def laid2 : List (String × DataW Unit) := [("unicode/utf8.acceptRanges", Rows.laid_unicode_utf8_acceptRanges), ("unicode/utf8.first", Rows.laid_unicode_utf8_first)]
theorem laidAll_met (os : Os) (args : Array Value) : laidMetH Tryz.prog laid2 ((World.laidAll Tryz.prog os laid2).forCall (fun _ _ => 0) ⟨#[], args, []⟩).memory := by
  rw [MakeChecks.laidMetH_plain _ _ _ (by kernel_rfl)]; exact laidMet_laidAll _ (by kernel_rfl) (by kernel_rfl)
set_option maxRecDepth 100000 in
theorem topTernary_lifted (os : Os) (started : os.Started) (H : Type) (enc : TypeId × Value → H) :
    ReturnsInHanded {} Tryz.checked os 8 .any (fun w args => (Rows.topTernarySpec.pre enc Tryz.prog Tryz.f8 [] false w args ∧ laidMetH Tryz.prog laid2 w) ∧ sizedMet enc Tryz.prog Tryz.f8 (OpenSpec.ofChange Rows.topTernarySpec) false w args)
      (Rows.topTernarySpec.post enc Tryz.prog Tryz.f8 false true false false) :=
  law_laid (C := Tryz.checked) (enc := enc) (s := Rows.topTernarySpec) (conds := []) (X := fun w => laidMetH Tryz.prog laid2 w) [.int .u8, .int .u16] 4 (fun _ _ hh h => h.of_heap hh) (by kernel_rfl) started (by kernel_rfl) Tryz.func8
    (ChangeSpec.witness_shaped (enc := enc) (C := Tryz.checked) (os := os) (X := fun w _ => laidMetH Tryz.prog laid2 w) false (World.laidAll Tryz.prog os laid2) #[.int .u8 0, .int .u16 0] 8 (World.laidAll_os _ _ _)
      (World.shaped_of_ZipB (by kernel_rfl) (by kernel_rfl)) (by kernel_rfl) (by kernel_rfl) (by kernel_rfl) (laidAll_met os _))
    rfl rfl (by kernel_rfl) (fun ds h => by match ds, h with | [_, _], _ => rfl) (by kernel_rfl) Tryz.underlying4 (fun xs h => ternary_typed xs h)
theorem topTernary_row : Rows.TopTernarySaid :=
  OpenClaim.holds_of_wide 8 Tryz.f8 rfl rfl rfl rfl rfl rfl rfl ⟨rfl, rfl, rfl, rfl, rfl⟩ rfl rfl rfl rfl rfl (by kernel_rfl) Tryz.func8 (by kernel_rfl)
    (of_decide_eq_true (by kernel_rfl)) (by unfold Func.isWrapper; first | (rw [if_pos (by decide +kernel)]; kernel_rfl) | (rw [if_neg (by decide +kernel)]; exact ⟨rfl, rfl⟩))
    (fun os started H enc _ => topTernary_lifted os started H enc)
theorem topTernary_holds : Rows.TopTernaryCardSaid :=
  Claim7.holds_tied_plain_at .later [] [.data, .pinned] true (true, "12abab1cd6031b500fe5f6f628e5062060ce6ab154fe289e64e6e6857481d22f") true
    topTernary_row (fun _ h => by cases h) (by kernel_rfl) (fun _ h => by cases h) topTernary_row_tie rfl ⟨rfl, rfl⟩ (by kernel_rfl) rfl
    (fun f fn hf hfn => by
      obtain rfl : f = 8 := Option.some.inj ((show Tryz.prog.funcNamed "tusche/tuschetop.TopTernary" = some 8 by kernel_rfl).symm.trans hf) |>.symm
      obtain rfl : fn = Tryz.f8 := (Option.some.inj (Tryz.func8.symm.trans hfn)).symm
      exact ⟨by kernel_rfl, fun j t ht => by
        rw [Tryz.params8] at ht
        have hm : t ∈ ([5, 82] : List TypeId) := by simpa using Array.mem_of_getElem? ht
        have hall : (([5, 82] : List TypeId).all fun u => !Tryz.prog.wantsStandIn u) = true := by kernel_rfl
        exact (show Tryz.prog.wantsStandIn t = false by simpa using List.all_eq_true.1 hall t hm)⟩)
    (by kernel_rfl)
end Go.Proofs.YtdcpkgedaflnmaaGreatDoor
