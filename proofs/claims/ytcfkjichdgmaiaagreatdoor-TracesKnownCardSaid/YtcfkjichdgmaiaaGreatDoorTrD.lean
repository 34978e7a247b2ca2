/-
  Calls inside the example of traces, carried out by the kernel. Conditions: none.
-/
import Derived.Test.YtcfkjichdgmaiaaGreatDoorTrA
import Derived.Test.YtcfkjichdgmaiaaGreatDoorTrB
import Derived.Test.YtcfkjichdgmaiaaGreatDoorTrC
import Derived.KernelRfl
namespace Go.Mg
open Go Go.Sx Go.Proofs
theorem kSt6 : (tidied noFs (xPlus Tryz.prog [st3, st4, st5]) 30000 st6).isOk = true := by kernel_rfl
theorem okSt6 {I : Itp} : COk I Tryz.prog gls st6 := tidied_ok (tot_none I) (cx := (xPlus Tryz.prog [st3, st4, st5])) (cs_cons okSt3 (cs_cons okSt4 (cs_cons okSt5 okLoops))) kSt6
theorem kSt11 : (tidied noFs (xPlus Tryz.prog [st8, st9, st10]) 30000 st11).isOk = true := by kernel_rfl
theorem okSt11 {I : Itp} : COk I Tryz.prog gls st11 := tidied_ok (tot_none I) (cx := (xPlus Tryz.prog [st8, st9, st10])) (cs_cons okSt8 (cs_cons okSt9 (cs_cons okSt10 okLoops))) kSt11
theorem kSt15 : (tidied noFs (xPlus Tryz.prog [cState1, st14]) 30000 st15).isOk = true := by kernel_rfl
theorem okSt15 {I : Itp} : COk I Tryz.prog gls st15 := tidied_ok (tot_none I) (cx := (xPlus Tryz.prog [cState1, st14])) (cs_cons okState1 (cs_cons okSt14 okLoops)) kSt15
theorem kSt30 : (tidied noFs (xPlus Tryz.prog [st9, st28, st29]) 30000 st30).isOk = true := by kernel_rfl
theorem okSt30 {I : Itp} : COk I Tryz.prog gls st30 := tidied_ok (tot_none I) (cx := (xPlus Tryz.prog [st9, st28, st29])) (cs_cons okSt9 (cs_cons okSt28 (cs_cons okSt29 okLoops))) kSt30
theorem kSt37 : (tidied noFs (xPlus Tryz.prog [st34, st35, st36]) 30000 st37).isOk = true := by kernel_rfl
theorem okSt37 {I : Itp} : COk I Tryz.prog gls st37 := tidied_ok (tot_none I) (cx := (xPlus Tryz.prog [st34, st35, st36])) (cs_cons okSt34 (cs_cons okSt35 (cs_cons okSt36 okLoops))) kSt37
end Go.Mg
