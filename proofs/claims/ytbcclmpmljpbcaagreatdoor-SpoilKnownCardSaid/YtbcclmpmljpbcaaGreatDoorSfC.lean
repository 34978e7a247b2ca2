/-
  Calls inside the example of faults, carried out by the kernel. Conditions: none.
-/
import Derived.Test.YtbcclmpmljpbcaaGreatDoorSfA
import Derived.KernelRfl
namespace Go.Mg
open Go Go.Sx Go.Proofs
theorem kSt3 : (tidied noFs (xPlus Tryz.prog [st2]) 30000 st3).isOk = true := by kernel_rfl
theorem okSt3 {I : Itp} : COk I Tryz.prog gls st3 := tidied_ok (tot_none I) (cx := (xPlus Tryz.prog [st2])) (cs_cons okSt2 okLoops) kSt3
end Go.Mg

namespace Go.Mg
open Go Go.Sx Go.Proofs
theorem kSt6 : (tidied noFs (xPlus Tryz.prog [st5]) 30000 st6).isOk = true := by kernel_rfl
theorem okSt6 {I : Itp} : COk I Tryz.prog gls st6 := tidied_ok (tot_none I) (cx := (xPlus Tryz.prog [st5])) (cs_cons okSt5 okLoops) kSt6
theorem kSt7 : (tidied noFs (xPlus Tryz.prog [st6]) 30000 st7).isOk = true := by kernel_rfl
theorem okSt7 {I : Itp} : COk I Tryz.prog gls st7 := tidied_ok (tot_none I) (cx := (xPlus Tryz.prog [st6])) (cs_cons okSt6 okLoops) kSt7
theorem kSt10 : (tidied noFs (xPlus Tryz.prog [cV43, cB44]) 30000 st10).isOk = true := by kernel_rfl
theorem okSt10 {I : Itp} : COk I Tryz.prog gls st10 := tidied_ok (tot_none I) (cx := (xPlus Tryz.prog [cV43, cB44])) (cs_cons okV43 (cs_cons okB44 okLoops)) kSt10
end Go.Mg

namespace Go.Mg
open Go Go.Sx Go.Proofs
theorem kSt4 : (tidied noFs (xPlus Tryz.prog [st3]) 30000 st4).isOk = true := by kernel_rfl
theorem okSt4 {I : Itp} : COk I Tryz.prog gls st4 := tidied_ok (tot_none I) (cx := (xPlus Tryz.prog [st3])) (cs_cons okSt3 okLoops) kSt4
theorem kSt11 : (tidied noFs (xPlus Tryz.prog [st0, st1, st4, st7, st10]) 30000 st11).isOk = true := by kernel_rfl
theorem okSt11 {I : Itp} : COk I Tryz.prog gls st11 := tidied_ok (tot_none I) (cx := (xPlus Tryz.prog [st0, st1, st4, st7, st10])) (cs_cons okSt0 (cs_cons okSt1 (cs_cons okSt4 (cs_cons okSt7 (cs_cons okSt10 okLoops))))) kSt11
theorem kSt12 : (tidied noFs (xPlus Tryz.prog []) 30000 st12).isOk = true := by kernel_rfl
theorem okSt12 {I : Itp} : COk I Tryz.prog gls st12 := tidied_ok (tot_none I) (cx := (xPlus Tryz.prog [])) okLoops kSt12
theorem kAwake : (tidied noFs (xPlus Tryz.prog [st11, st12]) 30000 cAwake).isOk = true := by kernel_rfl
theorem okAwake {I : Itp} : COk I Tryz.prog gls cAwake := tidied_ok (tot_none I) (cx := (xPlus Tryz.prog [st11, st12])) (cs_cons okSt11 (cs_cons okSt12 okLoops)) kAwake
end Go.Mg
