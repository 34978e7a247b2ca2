/-
  One step of the manager's example, carried out by the kernel. Conditions: none.
-/
import Derived.Test.YtoeacadacnnoeaaGreatDoorMgOk
import Derived.Test.YtoeacadacnnoeaaGreatDoorMgSt
import Derived.KernelRfl
namespace Go.Mg
open Go Go.Sx Go.Proofs
theorem kDo3 : (tidied noFs (xRun Tryz.prog) 30000 cDo3).isOk = true := by kernel_rfl
theorem okDo3 {I : Itp} : COk I Tryz.prog gls cDo3 := tidied_ok (tot_none I) (cx := xRun Tryz.prog) okLoops kDo3
end Go.Mg
