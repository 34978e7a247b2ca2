/-
  The journal's example, carried out by the kernel. Conditions: none.
-/
import Derived.Test.YtoeacadacnnoeaaGreatDoorMgSvOk
import Derived.Test.YtoeacadacnnoeaaGreatDoorMgK0
import Derived.Test.YtoeacadacnnoeaaGreatDoorMgK1
import Derived.Test.YtoeacadacnnoeaaGreatDoorMgK2
namespace Go.Mg
open Go Go.Sx Go.Proofs
variable {I : Itp}

theorem kShown27 : (tidied noFs (xShown27 Tryz.prog) 30000 cShown27).isOk = true := by kernel_rfl
theorem okShown27 : COk I Tryz.prog gls cShown27 := tidied_ok (tot_none I) (cx := xShown27 Tryz.prog) (cs_cons okNew (cs_cons okDo1 (cs_cons okDo2 (cs_cons okSave okLoops)))) kShown27
end Go.Mg
