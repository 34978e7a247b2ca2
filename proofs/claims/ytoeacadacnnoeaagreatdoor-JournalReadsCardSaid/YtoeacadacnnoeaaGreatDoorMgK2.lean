/-
  One step of the manager's example, carried out by the kernel. Conditions: none.
-/
import Derived.Test.YtoeacadacnnoeaaGreatDoorMgL0
import Derived.Test.YtoeacadacnnoeaaGreatDoorMgSt
import Derived.KernelRfl
namespace Go.Mg
open Go Go.Sx Go.Proofs
theorem kDo2 : (tidied noFs (xPlus Tryz.prog [c2a, c2b, c2c]) 30000 cDo2).isOk = true := by kernel_rfl
theorem okDo2 {I : Itp} : COk I Tryz.prog gls cDo2 := tidied_ok (tot_none I) (cx := (xPlus Tryz.prog [c2a, c2b, c2c])) (cs_cons ok2a (cs_cons ok2b (cs_cons ok2c okLoops))) kDo2
end Go.Mg
