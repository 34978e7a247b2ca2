/-
  Calls inside the example of faults, carried out by the kernel. Conditions: none.
-/
import Derived.Test.YtbcclmpmljpbcaaGreatDoorSfB
import Derived.KernelRfl
namespace Go.Mg
open Go Go.Sx Go.Proofs
theorem kSt6 : (tidied noFs (xPlus Tryz.prog [st5]) 30000 st6).isOk = true := by kernel_rfl
theorem okSt6 {I : Itp} : COk I Tryz.prog gls st6 := tidied_ok (tot_none I) (cx := (xPlus Tryz.prog [st5])) (cs_cons okSt5 okLoops) kSt6
theorem kSt7 : (tidied noFs (xPlus Tryz.prog [st6]) 30000 st7).isOk = true := by kernel_rfl
theorem okSt7 {I : Itp} : COk I Tryz.prog gls st7 := tidied_ok (tot_none I) (cx := (xPlus Tryz.prog [st6])) (cs_cons okSt6 okLoops) kSt7
theorem kSt10 : (tidied noFs (xPlus Tryz.prog [cV43, cB44]) 30000 st10).isOk = true := by kernel_rfl
theorem okSt10 {I : Itp} : COk I Tryz.prog gls st10 := tidied_ok (tot_none I) (cx := (xPlus Tryz.prog [cV43, cB44])) (cs_cons okV43 (cs_cons okB44 okLoops)) kSt10
end Go.Mg
