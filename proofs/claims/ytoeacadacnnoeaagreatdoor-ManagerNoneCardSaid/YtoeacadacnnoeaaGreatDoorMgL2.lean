/-
  Calls inside a step of the manager's example, carried out by the kernel. Conditions: none.
-/
import Derived.Test.YtoeacadacnnoeaaGreatDoorMgOk
import Derived.Test.YtoeacadacnnoeaaGreatDoorMgSu
import Derived.KernelRfl
namespace Go.Mg
open Go Go.Sx Go.Proofs
theorem k5a : (tidied noFs (xRun Tryz.prog) 30000 c5a).isOk = true := by kernel_rfl
theorem ok5a {I : Itp} : COk I Tryz.prog gls c5a := tidied_ok (tot_none I) (cx := xRun Tryz.prog) okLoops k5a
theorem k8a : (tidied noFs (xRun Tryz.prog) 30000 c8a).isOk = true := by kernel_rfl
theorem ok8a {I : Itp} : COk I Tryz.prog gls c8a := tidied_ok (tot_none I) (cx := xRun Tryz.prog) okLoops k8a
theorem k8b : (tidied noFs (xRun Tryz.prog) 30000 c8b).isOk = true := by kernel_rfl
theorem ok8b {I : Itp} : COk I Tryz.prog gls c8b := tidied_ok (tot_none I) (cx := xRun Tryz.prog) okLoops k8b
end Go.Mg
