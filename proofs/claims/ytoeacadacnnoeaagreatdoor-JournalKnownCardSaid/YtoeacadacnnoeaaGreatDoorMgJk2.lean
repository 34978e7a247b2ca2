/-
  The rest of JournalKnown, carried out by the kernel. Conditions: none.
-/
import Derived.Test.YtoeacadacnnoeaaGreatDoorMgJk1
namespace Go.Mg
open Go Go.Sx Go.Proofs
variable {I : Itp}

theorem kKnown : (tidied noFs (xKnown Tryz.prog) 30000 cKnown).isOk = true := by kernel_rfl
theorem okKnown : COk I Tryz.prog gls cKnown := tidied_ok (tot_none I) (cx := xKnown Tryz.prog) (cs_cons okShown27 okLoops) kKnown
end Go.Mg
