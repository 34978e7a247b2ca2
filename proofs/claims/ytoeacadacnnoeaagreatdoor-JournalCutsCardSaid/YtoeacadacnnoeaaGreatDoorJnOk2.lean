/-
  JournalCuts' contracts hold of the program. Conditions: none.
-/
import Derived.Test.YtoeacadacnnoeaaGreatDoorJnOk1
import Derived.Test.YtoeacadacnnoeaaGreatDoorJnV4
namespace Go.Jn
open Go Go.Sx Go.Mg Go.Proofs

theorem kCutsH : tidied fsJ (xCutsH Tryz.prog) 300 cCutsH = tCutsH := by kernel_rfl
theorem okCutsH : COk JI Tryz.prog gls cCutsH := ok_of JI_tot (cx := xCutsH Tryz.prog) (cs_cons okShown27 (cs_cons okEncode (cs_cons okDecodeBad (cs_cons okSameL cs_nil)))) kCutsH vCutsH
theorem kCutsE : tidied fsJ (xCutsE Tryz.prog) 300 cCutsE = tCutsE := by kernel_rfl
theorem okCutsE : COk JI Tryz.prog gls cCutsE := ok_of JI_tot (cx := xCutsE Tryz.prog) (cs_cons okShown27 (cs_cons okEncode (cs_cons okDecode (cs_cons okSameL (cs_cons okAdd (cs_cons okHash cs_nil)))))) kCutsE vCutsE
end Go.Jn
