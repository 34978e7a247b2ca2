/-
  One step of the manager's example, carried out by the kernel. Conditions: none.
-/
import Derived.Test.YtoeacadacnnoeaaGreatDoorMgL4
import Derived.Test.YtoeacadacnnoeaaGreatDoorMgSt
import Derived.KernelRfl
namespace Go.Mg
open Go Go.Sx Go.Proofs
theorem kDo7 : (tidied noFs (xPlus Tryz.prog [c7a, c7b]) 30000 cDo7).isOk = true := by kernel_rfl
theorem okDo7 {I : Itp} : COk I Tryz.prog gls cDo7 := tidied_ok (tot_none I) (cx := (xPlus Tryz.prog [c7a, c7b])) (cs_cons ok7a (cs_cons ok7b okLoops)) kDo7
end Go.Mg
