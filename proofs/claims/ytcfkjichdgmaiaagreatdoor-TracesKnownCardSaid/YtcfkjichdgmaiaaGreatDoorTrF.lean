/-
  Calls inside the example of traces, carried out by the kernel. Conditions: none.
-/
import Derived.Test.YtcfkjichdgmaiaaGreatDoorMgOk
import Derived.Test.YtcfkjichdgmaiaaGreatDoorTrSu
import Derived.KernelRfl
namespace Go.Mg
open Go Go.Sx Go.Proofs
theorem kSt18 : (tidied noFs (xPlus Tryz.prog []) 30000 st18).isOk = true := by kernel_rfl
theorem okSt18 {I : Itp} : COk I Tryz.prog gls st18 := tidied_ok (tot_none I) (cx := (xPlus Tryz.prog [])) okLoops kSt18
theorem kSt33 : (tidied noFs (xPlus Tryz.prog []) 30000 st33).isOk = true := by kernel_rfl
theorem okSt33 {I : Itp} : COk I Tryz.prog gls st33 := tidied_ok (tot_none I) (cx := (xPlus Tryz.prog [])) okLoops kSt33
theorem kSt45 : (tidied noFs (xPlus Tryz.prog []) 30000 st45).isOk = true := by kernel_rfl
theorem okSt45 {I : Itp} : COk I Tryz.prog gls st45 := tidied_ok (tot_none I) (cx := (xPlus Tryz.prog [])) okLoops kSt45
theorem kSt47 : (tidied noFs (xPlus Tryz.prog []) 30000 st47).isOk = true := by kernel_rfl
theorem okSt47 {I : Itp} : COk I Tryz.prog gls st47 := tidied_ok (tot_none I) (cx := (xPlus Tryz.prog [])) okLoops kSt47
end Go.Mg
