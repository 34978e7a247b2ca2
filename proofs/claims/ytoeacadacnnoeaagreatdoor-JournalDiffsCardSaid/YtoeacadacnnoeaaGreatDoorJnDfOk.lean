/-
  JournalDiffs' contract holds of the program. Conditions: none.
-/
import Derived.Test.YtoeacadacnnoeaaGreatDoorMgJk1
import Derived.Test.YtoeacadacnnoeaaGreatDoorJnDfV
namespace Go.Jn
open Go Go.Sx Go.Mg Go.Proofs

theorem kDiffs : tidied noFs (xDiffs Tryz.prog) 300 cDiffs = tDiffs := by kernel_rfl
theorem okDiffs : COk Idf Tryz.prog gls cDiffs := ok_of (tot_none Idf) (cx := xDiffs Tryz.prog) (cs_cons okShown27 cs_nil) kDiffs vDiffs
end Go.Jn
