/-
  Calls inside the example of traces, carried out by the kernel. Conditions: none.
-/
import Derived.Test.YtcfkjichdgmaiaaGreatDoorMgOk
import Derived.Test.YtcfkjichdgmaiaaGreatDoorTrSt
import Derived.KernelRfl
namespace Go.Mg
open Go Go.Sx Go.Proofs
theorem kSt14 : (tidied noFs (xPlus Tryz.prog []) 30000 st14).isOk = true := by kernel_rfl
theorem okSt14 {I : Itp} : COk I Tryz.prog gls st14 := tidied_ok (tot_none I) (cx := (xPlus Tryz.prog [])) okLoops kSt14
theorem kSt28 : (tidied noFs (xPlus Tryz.prog []) 30000 st28).isOk = true := by kernel_rfl
theorem okSt28 {I : Itp} : COk I Tryz.prog gls st28 := tidied_ok (tot_none I) (cx := (xPlus Tryz.prog [])) okLoops kSt28
theorem kSt29 : (tidied noFs (xPlus Tryz.prog []) 30000 st29).isOk = true := by kernel_rfl
theorem okSt29 {I : Itp} : COk I Tryz.prog gls st29 := tidied_ok (tot_none I) (cx := (xPlus Tryz.prog [])) okLoops kSt29
theorem kSt34 : (tidied noFs (xPlus Tryz.prog []) 30000 st34).isOk = true := by kernel_rfl
theorem okSt34 {I : Itp} : COk I Tryz.prog gls st34 := tidied_ok (tot_none I) (cx := (xPlus Tryz.prog [])) okLoops kSt34
theorem kSt35 : (tidied noFs (xPlus Tryz.prog []) 30000 st35).isOk = true := by kernel_rfl
theorem okSt35 {I : Itp} : COk I Tryz.prog gls st35 := tidied_ok (tot_none I) (cx := (xPlus Tryz.prog [])) okLoops kSt35
theorem kSt36 : (tidied noFs (xPlus Tryz.prog []) 30000 st36).isOk = true := by kernel_rfl
theorem okSt36 {I : Itp} : COk I Tryz.prog gls st36 := tidied_ok (tot_none I) (cx := (xPlus Tryz.prog [])) okLoops kSt36
end Go.Mg
