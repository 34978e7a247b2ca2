/-
  The manager's example returns true. Conditions: none.
-/
import Derived.Test.YtoeacadacnnoeaaGreatDoorMgK0
import Derived.Test.YtoeacadacnnoeaaGreatDoorMgK1
import Derived.Test.YtoeacadacnnoeaaGreatDoorMgK2
import Derived.Test.YtoeacadacnnoeaaGreatDoorMgK3
import Derived.Test.YtoeacadacnnoeaaGreatDoorMgK4
import Derived.Test.YtoeacadacnnoeaaGreatDoorMgK5
import Derived.Test.YtoeacadacnnoeaaGreatDoorMgK6
import Derived.Test.YtoeacadacnnoeaaGreatDoorMgK7
import Derived.Test.YtoeacadacnnoeaaGreatDoorMgK8
import Derived.Test.YtoeacadacnnoeaaGreatDoorMgK9
namespace Go.Mg
open Go Go.Sx Go.Proofs
def cShown26 : Contract := { c0 with fn := 14, res := .bool (.lit 1) }
def xShown (P : Program) : Cx := { P, cs := [cNew, cDo1, cDo2, cDo3, cDo4, cDo5, cDo6, cDo7, cDo8, cDo9], anns := [], kn := kn }
theorem kShown26 : (tidied noFs (xShown Tryz.prog) 3000 cShown26).isOk = true := by kernel_rfl
theorem okShown26 {I : Itp} : COk I Tryz.prog gls cShown26 := tidied_ok (tot_none I) (cx := xShown Tryz.prog)
  (cs_cons okNew (cs_cons okDo1 (cs_cons okDo2 (cs_cons okDo3 (cs_cons okDo4 (cs_cons okDo5 (cs_cons okDo6 (cs_cons okDo7 (cs_cons okDo8 (cs_cons okDo9 cs_nil)))))))))) kShown26
end Go.Mg
