/-
  One step of the manager's example, carried out by the kernel. Conditions: none.
-/
import Derived.Test.YtoeacadacnnoeaaGreatDoorMgL1
import Derived.Test.YtoeacadacnnoeaaGreatDoorMgSt
import Derived.KernelRfl
namespace Go.Mg
open Go Go.Sx Go.Proofs
theorem kDo4 : (tidied noFs (xPlus Tryz.prog [c4a, c4b, c4c]) 30000 cDo4).isOk = true := by kernel_rfl
theorem okDo4 {I : Itp} : COk I Tryz.prog gls cDo4 := tidied_ok (tot_none I) (cx := (xPlus Tryz.prog [c4a, c4b, c4c])) (cs_cons ok4a (cs_cons ok4b (cs_cons ok4c okLoops))) kDo4
end Go.Mg
