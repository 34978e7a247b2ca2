/-
  Calls inside a step of the manager's example, carried out by the kernel. Conditions: none.
-/
import Derived.Test.YtoeacadacnnoeaaGreatDoorMgOk
import Derived.Test.YtoeacadacnnoeaaGreatDoorMgSu
import Derived.KernelRfl
namespace Go.Mg
open Go Go.Sx Go.Proofs
theorem k7a : (tidied noFs (xRun Tryz.prog) 30000 c7a).isOk = true := by kernel_rfl
theorem ok7a {I : Itp} : COk I Tryz.prog gls c7a := tidied_ok (tot_none I) (cx := xRun Tryz.prog) okLoops k7a
theorem k7b : (tidied noFs (xRun Tryz.prog) 30000 c7b).isOk = true := by kernel_rfl
theorem ok7b {I : Itp} : COk I Tryz.prog gls c7b := tidied_ok (tot_none I) (cx := xRun Tryz.prog) okLoops k7b
end Go.Mg
