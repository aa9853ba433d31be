/-
  CrossRoller: 4 crosses, all sizes, evaluated by the kernel. Own work.
-/
import Derived.Test.YtokfmcjepkepjaaG9
namespace Go.Proofs.Ytokfmcjepkepjaa
open Go Fw

set_option maxRecDepth 1000000 in
theorem rv4 : ((List.range 12).all fun s => RlB 4 (s + 2)) = true := by decide +kernel
set_option maxRecDepth 1000000 in
theorem rw4 : RlB 4 14 = true := by decide +kernel
end Go.Proofs.Ytokfmcjepkepjaa
