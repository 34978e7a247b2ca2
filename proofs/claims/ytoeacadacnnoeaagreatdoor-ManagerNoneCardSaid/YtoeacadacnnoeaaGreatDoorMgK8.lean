/-
  One step of the manager's example, carried out by the kernel. Conditions: none.
-/
import Derived.Test.YtoeacadacnnoeaaGreatDoorMgL2
import Derived.Test.YtoeacadacnnoeaaGreatDoorMgSt
import Derived.KernelRfl
namespace Go.Mg
open Go Go.Sx Go.Proofs
theorem kDo8 : (tidied noFs (xPlus Tryz.prog [c8a, c8b]) 30000 cDo8).isOk = true := by kernel_rfl
theorem okDo8 {I : Itp} : COk I Tryz.prog gls cDo8 := tidied_ok (tot_none I) (cx := (xPlus Tryz.prog [c8a, c8b])) (cs_cons ok8a (cs_cons ok8b okLoops)) kDo8
end Go.Mg
