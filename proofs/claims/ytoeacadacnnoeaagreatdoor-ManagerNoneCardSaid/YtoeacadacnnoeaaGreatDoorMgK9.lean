/-
  One step of the manager's example, carried out by the kernel. Conditions: none.
-/
import Derived.Test.YtoeacadacnnoeaaGreatDoorMgOk
import Derived.Test.YtoeacadacnnoeaaGreatDoorMgSt
import Derived.KernelRfl
namespace Go.Mg
open Go Go.Sx Go.Proofs
theorem kDo9 : (tidied noFs (xRun Tryz.prog) 30000 cDo9).isOk = true := by kernel_rfl
theorem okDo9 {I : Itp} : COk I Tryz.prog gls cDo9 := tidied_ok (tot_none I) (cx := xRun Tryz.prog) okLoops kDo9
end Go.Mg
