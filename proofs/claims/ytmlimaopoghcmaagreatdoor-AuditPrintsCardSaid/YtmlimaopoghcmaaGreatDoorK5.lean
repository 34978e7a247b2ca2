/-
  Calls inside the example of audits, carried out by the kernel. Conditions: none.
-/
import Derived.Test.YtmlimaopoghcmaaGreatDoorC1
import Derived.Test.YtmlimaopoghcmaaGreatDoorB2
import Derived.KernelRfl
namespace Go.Mg
open Go Go.Sx Go.Proofs
theorem kSt32 : (tidied noFs (xPlus Tryz.prog []) 30000 st32).isOk = true := by kernel_rfl
theorem okSt32 {I : Itp} : COk I Tryz.prog gls st32 := tidied_ok (tot_none _) (cx := (xPlus Tryz.prog [])) okLoops kSt32
theorem kSt33 : (tidied noFs (xPlus Tryz.prog []) 30000 st33).isOk = true := by kernel_rfl
theorem okSt33 {I : Itp} : COk I Tryz.prog gls st33 := tidied_ok (tot_none _) (cx := (xPlus Tryz.prog [])) okLoops kSt33
theorem kSt34 : (tidied noFs (xPlus Tryz.prog []) 30000 st34).isOk = true := by kernel_rfl
theorem okSt34 {I : Itp} : COk I Tryz.prog gls st34 := tidied_ok (tot_none _) (cx := (xPlus Tryz.prog [])) okLoops kSt34
theorem kSt35 : (tidied noFs (xPlus Tryz.prog []) 30000 st35).isOk = true := by kernel_rfl
theorem okSt35 {I : Itp} : COk I Tryz.prog gls st35 := tidied_ok (tot_none _) (cx := (xPlus Tryz.prog [])) okLoops kSt35
theorem kSt36 : (tidied noFs (xPlus Tryz.prog []) 30000 st36).isOk = true := by kernel_rfl
theorem okSt36 {I : Itp} : COk I Tryz.prog gls st36 := tidied_ok (tot_none _) (cx := (xPlus Tryz.prog [])) okLoops kSt36
end Go.Mg
