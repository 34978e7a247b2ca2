/-
  Calls inside the example of traces, carried out by the kernel. Conditions: none.
-/
import Derived.Test.YtcfkjichdgmaiaaGreatDoorMgOk
import Derived.Test.YtcfkjichdgmaiaaGreatDoorTrSu
import Derived.KernelRfl
namespace Go.Mg
open Go Go.Sx Go.Proofs
theorem kSt20 : (tidied noFs (xPlus Tryz.prog []) 30000 st20).isOk = true := by kernel_rfl
theorem okSt20 {I : Itp} : COk I Tryz.prog gls st20 := tidied_ok (tot_none I) (cx := (xPlus Tryz.prog [])) okLoops kSt20
theorem kSt46 : (tidied noFs (xPlus Tryz.prog []) 30000 st46).isOk = true := by kernel_rfl
theorem okSt46 {I : Itp} : COk I Tryz.prog gls st46 := tidied_ok (tot_none I) (cx := (xPlus Tryz.prog [])) okLoops kSt46
theorem kSt26 : (tidied noFs (xPlus Tryz.prog []) 30000 st26).isOk = true := by kernel_rfl
theorem okSt26 {I : Itp} : COk I Tryz.prog gls st26 := tidied_ok (tot_none I) (cx := (xPlus Tryz.prog [])) okLoops kSt26
end Go.Mg
