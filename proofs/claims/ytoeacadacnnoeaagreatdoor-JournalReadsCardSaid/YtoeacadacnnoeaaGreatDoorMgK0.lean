/-
  One step of the manager's example, carried out by the kernel. Conditions: none.
-/
import Derived.Test.YtoeacadacnnoeaaGreatDoorMgOk
import Derived.Test.YtoeacadacnnoeaaGreatDoorMgSt
import Derived.KernelRfl
namespace Go.Mg
open Go Go.Sx Go.Proofs
theorem kNew : (tidied noFs (xRun Tryz.prog) 30000 cNew).isOk = true := by kernel_rfl
theorem okNew {I : Itp} : COk I Tryz.prog gls cNew := tidied_ok (tot_none I) (cx := xRun Tryz.prog) okLoops kNew
end Go.Mg
