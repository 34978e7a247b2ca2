/-
  Calls inside a step of the manager's example, carried out by the kernel. Conditions: none.
-/
import Derived.Test.YtoeacadacnnoeaaGreatDoorMgOk
import Derived.Test.YtoeacadacnnoeaaGreatDoorMgSu
import Derived.KernelRfl
namespace Go.Mg
open Go Go.Sx Go.Proofs
theorem k4a : (tidied noFs (xRun Tryz.prog) 30000 c4a).isOk = true := by kernel_rfl
theorem ok4a {I : Itp} : COk I Tryz.prog gls c4a := tidied_ok (tot_none I) (cx := xRun Tryz.prog) okLoops k4a
theorem k4b : (tidied noFs (xRun Tryz.prog) 30000 c4b).isOk = true := by kernel_rfl
theorem ok4b {I : Itp} : COk I Tryz.prog gls c4b := tidied_ok (tot_none I) (cx := xRun Tryz.prog) okLoops k4b
theorem k4c : (tidied noFs (xRun Tryz.prog) 30000 c4c).isOk = true := by kernel_rfl
theorem ok4c {I : Itp} : COk I Tryz.prog gls c4c := tidied_ok (tot_none I) (cx := xRun Tryz.prog) okLoops k4c
end Go.Mg
