/-
  One step of the manager's example, carried out by the kernel. Conditions: none.
-/
import Derived.Test.YtoeacadacnnoeaaGreatDoorMgL3
import Derived.Test.YtoeacadacnnoeaaGreatDoorMgSt
import Derived.KernelRfl
namespace Go.Mg
open Go Go.Sx Go.Proofs
theorem kDo6 : (tidied noFs (xPlus Tryz.prog [c6a, c6b]) 30000 cDo6).isOk = true := by kernel_rfl
theorem okDo6 {I : Itp} : COk I Tryz.prog gls cDo6 := tidied_ok (tot_none I) (cx := (xPlus Tryz.prog [c6a, c6b])) (cs_cons ok6a (cs_cons ok6b okLoops)) kDo6
end Go.Mg
