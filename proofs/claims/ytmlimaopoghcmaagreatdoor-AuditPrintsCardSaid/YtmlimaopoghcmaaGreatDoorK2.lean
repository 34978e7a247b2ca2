/-
  Calls inside the example of audits, carried out by the kernel. Conditions: none.
-/
import Derived.Test.YtmlimaopoghcmaaGreatDoorC1
import Derived.Test.YtmlimaopoghcmaaGreatDoorB2
import Derived.KernelRfl
namespace Go.Mg
open Go Go.Sx Go.Proofs
theorem kSt2 : (tidied noFs (xPlus Tryz.prog []) 30000 st2).isOk = true := by kernel_rfl
theorem okSt2 {I : Itp} : COk I Tryz.prog gls st2 := tidied_ok (tot_none _) (cx := (xPlus Tryz.prog [])) okLoops kSt2
theorem kSt3 : (tidied noFs (xPlus Tryz.prog [st2]) 30000 st3).isOk = true := by kernel_rfl
theorem okSt3 {I : Itp} : COk I Tryz.prog gls st3 := tidied_ok (tot_none _) (cx := (xPlus Tryz.prog [st2])) (cs_cons okSt2 okLoops) kSt3
theorem kSt4 : (tidied noFs (xPlus Tryz.prog [st3]) 30000 st4).isOk = true := by kernel_rfl
theorem okSt4 {I : Itp} : COk I Tryz.prog gls st4 := tidied_ok (tot_none _) (cx := (xPlus Tryz.prog [st3])) (cs_cons okSt3 okLoops) kSt4
end Go.Mg
