/-
  Calls inside the example of audits, carried out by the kernel. Conditions: none.
-/
import Derived.Test.YtmlimaopoghcmaaGreatDoorC1
import Derived.Test.YtmlimaopoghcmaaGreatDoorB2
import Derived.KernelRfl
namespace Go.Mg
open Go Go.Sx Go.Proofs
theorem kSt5 : (tidied noFs (xPlus Tryz.prog []) 30000 st5).isOk = true := by kernel_rfl
theorem okSt5 {I : Itp} : COk I Tryz.prog gls st5 := tidied_ok (tot_none _) (cx := (xPlus Tryz.prog [])) okLoops kSt5
theorem kSt6 : (tidied noFs (xPlus Tryz.prog [st5]) 30000 st6).isOk = true := by kernel_rfl
theorem okSt6 {I : Itp} : COk I Tryz.prog gls st6 := tidied_ok (tot_none _) (cx := (xPlus Tryz.prog [st5])) (cs_cons okSt5 okLoops) kSt6
theorem kSt7 : (tidied noFs (xPlus Tryz.prog [st6]) 30000 st7).isOk = true := by kernel_rfl
theorem okSt7 {I : Itp} : COk I Tryz.prog gls st7 := tidied_ok (tot_none _) (cx := (xPlus Tryz.prog [st6])) (cs_cons okSt6 okLoops) kSt7
end Go.Mg
