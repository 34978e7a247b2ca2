/-
  ManagerNone returns true for each operation. Conditions: none.
-/
import Derived.Test.YtoeacadacnnoeaaGreatDoorMgShown
namespace Go.Mg
open Go Go.Sx Go.Proofs
def cNone : Contract := { c0 with fn := 3, sorts := [false, false, false, false, false], args := [.agg [i64 (v 0), i64 (v 1), i64 (v 2), i64 (v 3), i64 (v 4)]], res := .bool (.lit 1) }
def xNone (P : Program) : Cx := { P, cs := [cShown26], anns := [], kn := kn }
theorem kNone : (tidied noFs (xNone Tryz.prog) 3000 cNone).isOk = true := by kernel_rfl
theorem okNone {I : Itp} : COk I Tryz.prog gls cNone := tidied_ok (tot_none I) (cx := xNone Tryz.prog) (cs_cons okShown26 cs_nil) kNone
end Go.Mg
