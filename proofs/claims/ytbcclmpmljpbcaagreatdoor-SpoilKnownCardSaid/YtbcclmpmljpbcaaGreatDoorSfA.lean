/-
  Calls inside the example of faults, carried out by the kernel. Conditions: none.
-/
import Derived.Test.YtbcclmpmljpbcaaGreatDoorMgOk
import Derived.Test.YtbcclmpmljpbcaaGreatDoorSfSt
import Derived.KernelRfl
namespace Go.Mg
open Go Go.Sx Go.Proofs
theorem kSt1 : (tidied noFs (xPlus Tryz.prog []) 30000 st1).isOk = true := by kernel_rfl
theorem okSt1 {I : Itp} : COk I Tryz.prog gls st1 := tidied_ok (tot_none I) (cx := (xPlus Tryz.prog [])) okLoops kSt1
theorem kSt0 : (tidied noFs (xPlus Tryz.prog []) 30000 st0).isOk = true := by kernel_rfl
theorem okSt0 {I : Itp} : COk I Tryz.prog gls st0 := tidied_ok (tot_none I) (cx := (xPlus Tryz.prog [])) okLoops kSt0
theorem kSt2 : (tidied noFs (xPlus Tryz.prog []) 30000 st2).isOk = true := by kernel_rfl
theorem okSt2 {I : Itp} : COk I Tryz.prog gls st2 := tidied_ok (tot_none I) (cx := (xPlus Tryz.prog [])) okLoops kSt2
end Go.Mg

namespace Go.Mg
open Go Go.Sx Go.Proofs
theorem kSt5 : (tidied noFs (xPlus Tryz.prog []) 30000 st5).isOk = true := by kernel_rfl
theorem okSt5 {I : Itp} : COk I Tryz.prog gls st5 := tidied_ok (tot_none I) (cx := (xPlus Tryz.prog [])) okLoops kSt5
variable {I : Itp}
theorem kV43 : tidied noFs (xSv Tryz.prog) 30000 cV43 = tV43 := by kernel_rfl
theorem okV43 : COk I Tryz.prog gls cV43 := ok_of (tot_none I) (cx := xSv Tryz.prog) okLoops kV43 vV43
theorem kB44 : tidied noFs (xSv Tryz.prog) 30000 cB44 = tB44 := by kernel_rfl
theorem okB44 : COk I Tryz.prog gls cB44 := ok_of (tot_none I) (cx := xSv Tryz.prog) okLoops kB44 vB44
end Go.Mg
