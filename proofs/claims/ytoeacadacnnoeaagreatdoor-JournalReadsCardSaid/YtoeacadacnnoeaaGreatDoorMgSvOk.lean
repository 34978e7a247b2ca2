/-
  Save in the journal's example, carried out by the kernel. Conditions: none.
-/
import Derived.Test.YtoeacadacnnoeaaGreatDoorMgOk
import Derived.Test.YtoeacadacnnoeaaGreatDoorMgSv
import Derived.KernelRfl
namespace Go.Mg
open Go Go.Sx Go.Proofs
variable {I : Itp}

theorem kV43 : tidied noFs (xSv Tryz.prog) 30000 cV43 = tV43 := by kernel_rfl
theorem okV43 : COk I Tryz.prog gls cV43 := ok_of (tot_none I) (cx := xSv Tryz.prog) okLoops kV43 vV43
theorem kB44 : tidied noFs (xSv Tryz.prog) 30000 cB44 = tB44 := by kernel_rfl
theorem okB44 : COk I Tryz.prog gls cB44 := ok_of (tot_none I) (cx := xSv Tryz.prog) okLoops kB44 vB44
theorem kSave : (tidied noFs (xSave Tryz.prog) 30000 cSave).isOk = true := by kernel_rfl
theorem okSave : COk I Tryz.prog gls cSave := tidied_ok (tot_none I) (cx := xSave Tryz.prog) (cs_cons okV43 (cs_cons okB44 okLoops)) kSave
end Go.Mg
