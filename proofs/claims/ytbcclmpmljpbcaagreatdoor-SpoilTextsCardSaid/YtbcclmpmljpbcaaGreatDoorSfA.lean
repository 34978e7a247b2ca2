/-
  Calls inside the example of faults, carried out by the kernel. Conditions: none.
-/
import Derived.Test.YtbcclmpmljpbcaaGreatDoorMgOk
import Derived.Test.YtbcclmpmljpbcaaGreatDoorSfSt
import Derived.KernelRfl
namespace Go.Mg
open Go Go.Sx Go.Proofs
theorem kSt1 : (tidied noFs (xPlus Tryz.prog []) 30000 st1).isOk = true := by kernel_rfl
theorem okSt1 {I : Itp} : COk I Tryz.prog gls st1 := tidied_ok (tot_none I) (cx := (xPlus Tryz.prog [])) okLoops kSt1
theorem kSt0 : (tidied noFs (xPlus Tryz.prog []) 30000 st0).isOk = true := by kernel_rfl
theorem okSt0 {I : Itp} : COk I Tryz.prog gls st0 := tidied_ok (tot_none I) (cx := (xPlus Tryz.prog [])) okLoops kSt0
theorem kSt2 : (tidied noFs (xPlus Tryz.prog []) 30000 st2).isOk = true := by kernel_rfl
theorem okSt2 {I : Itp} : COk I Tryz.prog gls st2 := tidied_ok (tot_none I) (cx := (xPlus Tryz.prog [])) okLoops kSt2
end Go.Mg
