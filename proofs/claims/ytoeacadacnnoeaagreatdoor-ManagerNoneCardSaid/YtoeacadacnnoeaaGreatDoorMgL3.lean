/-
  Calls inside a step of the manager's example, carried out by the kernel. Conditions: none.
-/
import Derived.Test.YtoeacadacnnoeaaGreatDoorMgOk
import Derived.Test.YtoeacadacnnoeaaGreatDoorMgSu
import Derived.KernelRfl
namespace Go.Mg
open Go Go.Sx Go.Proofs
theorem k6a : (tidied noFs (xRun Tryz.prog) 30000 c6a).isOk = true := by kernel_rfl
theorem ok6a {I : Itp} : COk I Tryz.prog gls c6a := tidied_ok (tot_none I) (cx := xRun Tryz.prog) okLoops k6a
theorem k6b : (tidied noFs (xRun Tryz.prog) 30000 c6b).isOk = true := by kernel_rfl
theorem ok6b {I : Itp} : COk I Tryz.prog gls c6b := tidied_ok (tot_none I) (cx := xRun Tryz.prog) okLoops k6b
end Go.Mg
