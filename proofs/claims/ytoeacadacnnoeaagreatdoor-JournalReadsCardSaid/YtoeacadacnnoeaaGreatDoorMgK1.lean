/-
  One step of the manager's example, carried out by the kernel. Conditions: none.
-/
import Derived.Test.YtoeacadacnnoeaaGreatDoorMgOk
import Derived.Test.YtoeacadacnnoeaaGreatDoorMgSt
import Derived.KernelRfl
namespace Go.Mg
open Go Go.Sx Go.Proofs
theorem kDo1 : (tidied noFs (xRun Tryz.prog) 30000 cDo1).isOk = true := by kernel_rfl
theorem okDo1 {I : Itp} : COk I Tryz.prog gls cDo1 := tidied_ok (tot_none I) (cx := xRun Tryz.prog) okLoops kDo1
end Go.Mg
