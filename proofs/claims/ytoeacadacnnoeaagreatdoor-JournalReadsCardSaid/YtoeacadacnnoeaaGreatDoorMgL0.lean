/-
  Calls inside a step of the manager's example, carried out by the kernel. Conditions: none.
-/
import Derived.Test.YtoeacadacnnoeaaGreatDoorMgOk
import Derived.Test.YtoeacadacnnoeaaGreatDoorMgSt
import Derived.KernelRfl
namespace Go.Mg
open Go Go.Sx Go.Proofs
theorem k2a : (tidied noFs (xRun Tryz.prog) 30000 c2a).isOk = true := by kernel_rfl
theorem ok2a {I : Itp} : COk I Tryz.prog gls c2a := tidied_ok (tot_none I) (cx := xRun Tryz.prog) okLoops k2a
theorem k2b : (tidied noFs (xRun Tryz.prog) 30000 c2b).isOk = true := by kernel_rfl
theorem ok2b {I : Itp} : COk I Tryz.prog gls c2b := tidied_ok (tot_none I) (cx := xRun Tryz.prog) okLoops k2b
theorem k2c : (tidied noFs (xRun Tryz.prog) 30000 c2c).isOk = true := by kernel_rfl
theorem ok2c {I : Itp} : COk I Tryz.prog gls c2c := tidied_ok (tot_none I) (cx := xRun Tryz.prog) okLoops k2c
end Go.Mg
