/-
  Calls inside the example of audits, carried out by the kernel. Conditions: none.
-/
import Derived.Test.YtmlimaopoghcmaaGreatDoorC1
import Derived.Test.YtmlimaopoghcmaaGreatDoorB2
import Derived.KernelRfl
namespace Go.Mg
open Go Go.Sx Go.Proofs
theorem kSt0 : (tidied noFs (xPlus Tryz.prog []) 30000 st0).isOk = true := by kernel_rfl
theorem okSt0 {I : Itp} : COk I Tryz.prog gls st0 := tidied_ok (tot_none _) (cx := (xPlus Tryz.prog [])) okLoops kSt0
theorem kSt1 : (tidied noFs (xPlus Tryz.prog []) 30000 st1).isOk = true := by kernel_rfl
theorem okSt1 {I : Itp} : COk I Tryz.prog gls st1 := tidied_ok (tot_none _) (cx := (xPlus Tryz.prog [])) okLoops kSt1
end Go.Mg
