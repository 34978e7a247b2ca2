/-
  One step of the manager's example, carried out by the kernel. Conditions: none.
-/
import Derived.Test.YtoeacadacnnoeaaGreatDoorMgL2
import Derived.Test.YtoeacadacnnoeaaGreatDoorMgSt
import Derived.KernelRfl
namespace Go.Mg
open Go Go.Sx Go.Proofs
theorem kDo5 : (tidied noFs (xPlus Tryz.prog [c5a]) 30000 cDo5).isOk = true := by kernel_rfl
theorem okDo5 {I : Itp} : COk I Tryz.prog gls cDo5 := tidied_ok (tot_none I) (cx := (xPlus Tryz.prog [c5a])) (cs_cons ok5a okLoops) kDo5
end Go.Mg
