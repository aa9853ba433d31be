/-
  TopBordered: the row, and the tied card; no conditions. Own work, after the worked card of the kit.
-/
import Derived.Test.YtdcpkgedaflnmaaDoorRows
import Derived.Test.YtdcpkgedaflnmaaDoorCards
import Derived.Test.YtdcpkgedaflnmaaDoorTie
import Derived.Test.YtdcpkgedaflnmaaDoorB6
import Derived.Test.YtdcpkgedaflnmaaDoorFx5
import Derived.Lay
import Derived.SevenTiedAt
import Derived.Stop.Joined
set_option linter.unusedVariables false
set_option linter.unusedSimpArgs false
namespace Go.Proofs.YtdcpkgedaflnmaaDoor
open Go.ChangeShapes Go.WideShapes Go.ChangeAt Go.RowKit Fw

theorem laidAll_met (os : Os) (args : Array Value) : laidMetH Tryd.prog laidC ((World.laidAll Tryd.prog os laidC).forCall (fun _ _ => 0) ⟨#[], args, []⟩).memory := by
  rw [MakeChecks.laidMetH_plain _ _ _ (by kernel_rfl)]; exact laidMet_laidAll _ (by kernel_rfl) (by kernel_rfl)
set_option maxRecDepth 100000 in
theorem topBordered_lifted (os : Os) (started : os.Started) (H : Type) (enc : TypeId × Value → H) :
    ReturnsInHanded {} Tryd.checked os 3 .any (fun w args => (Rows.topBorderedSpec.pre enc Tryd.prog Tryd.f3 [] false w args ∧ laidMetH Tryd.prog laidC w) ∧ sizedMet enc Tryd.prog Tryd.f3 (OpenSpec.ofChange Rows.topBorderedSpec) false w args)
      (Rows.topBorderedSpec.post enc Tryd.prog Tryd.f3 false true false false) :=
  law_laid (C := Tryd.checked) (enc := enc) (s := Rows.topBorderedSpec) (conds := []) (X := fun w => laidMetH Tryd.prog laidC w) [.sl (.int .u8)] 4 (fun _ _ hh h => h.of_heap hh) laid_glob (by kernel_rfl) started (by kernel_rfl) Tryd.func3
    (ChangeSpec.witness_shaped (enc := enc) (C := Tryd.checked) (os := os) (X := fun w _ => laidMetH Tryd.prog laidC w) false (World.laidAll Tryd.prog os laidC) #[.slice none 0 0] 8 (World.laidAll_os _ _ _)
      (World.shaped_of_ZipB (by kernel_rfl) (by kernel_rfl)) (by kernel_rfl) (by kernel_rfl) (by kernel_rfl) (laidAll_met os _))
    rfl rfl (by kernel_rfl) (fun ds h => by match ds, h with | [_], _ => rfl) (by kernel_rfl) Tryd.underlying4 (fun xs h => bordered_typed xs h)
theorem topBordered_row : Rows.TopBorderedSaid :=
  OpenClaim.holds_of_wide 3 Tryd.f3 rfl rfl rfl rfl rfl rfl rfl ⟨rfl, rfl, rfl, rfl, rfl⟩ rfl rfl rfl rfl rfl (by kernel_rfl) Tryd.func3 (by kernel_rfl)
    (of_decide_eq_true (by kernel_rfl)) (by unfold Func.isWrapper; first | (rw [if_pos (by decide +kernel)]; kernel_rfl) | (rw [if_neg (by decide +kernel)]; exact ⟨rfl, rfl⟩))
    (fun os started H enc _ => topBordered_lifted os started H enc)
theorem topBordered_holds : Rows.TopBorderedCardSaid :=
  Claim7.holds_tied_plain_at .later [] [.data] true (true, "e1b0fd46d7fb313de9b644bb638d1f33656cb6210fceb3a70193b30f2010d2da") true
    topBordered_row (fun _ h => by cases h) (by kernel_rfl) (fun _ h => by cases h) topBordered_row_tie rfl ⟨rfl, rfl⟩ (by kernel_rfl) rfl
    (fun f fn hf hfn => by
      obtain rfl : f = 3 := Option.some.inj ((show Tryd.prog.funcNamed "tusche/tuschetop.TopBordered" = some 3 by kernel_rfl).symm.trans hf) |>.symm
      obtain rfl : fn = Tryd.f3 := (Option.some.inj (Tryd.func3.symm.trans hfn)).symm
      exact ⟨by kernel_rfl, fun j t ht => by
        rw [Tryd.params3] at ht
        have hm : t ∈ ([22] : List TypeId) := by simpa using Array.mem_of_getElem? ht
        have hall : (([22] : List TypeId).all fun u => !Tryd.prog.wantsStandIn u) = true := by kernel_rfl
        exact (show Tryd.prog.wantsStandIn t = false by simpa using List.all_eq_true.1 hall t hm)⟩)
    (by kernel_rfl)
end Go.Proofs.YtdcpkgedaflnmaaDoor
