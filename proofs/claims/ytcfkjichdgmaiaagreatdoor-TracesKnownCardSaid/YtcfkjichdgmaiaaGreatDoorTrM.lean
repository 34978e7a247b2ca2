/-
  Calls inside the example of traces, carried out by the kernel. Conditions: none.
-/
import Derived.Test.YtcfkjichdgmaiaaGreatDoorTrC
import Derived.Test.YtcfkjichdgmaiaaGreatDoorTrD
import Derived.Test.YtcfkjichdgmaiaaGreatDoorTrSv
import Derived.KernelRfl
namespace Go.Mg
open Go Go.Sx Go.Proofs
theorem kBd0 : (tidied noFs (xPlus Tryz.prog [st2]) 30000 bd0).isOk = true := by kernel_rfl
theorem okBd0 {I : Itp} : COk I Tryz.prog gls bd0 := tidied_ok (tot_none I) (cx := (xPlus Tryz.prog [st2])) (cs_cons okSt2 okLoops) kBd0
theorem kBd1 : (tidied noFs (xPlus Tryz.prog [st6]) 30000 bd1).isOk = true := by kernel_rfl
theorem okBd1 {I : Itp} : COk I Tryz.prog gls bd1 := tidied_ok (tot_none I) (cx := (xPlus Tryz.prog [st6])) (cs_cons okSt6 okLoops) kBd1
theorem kBd2 : (tidied noFs (xPlus Tryz.prog [st7]) 30000 bd2).isOk = true := by kernel_rfl
theorem okBd2 {I : Itp} : COk I Tryz.prog gls bd2 := tidied_ok (tot_none I) (cx := (xPlus Tryz.prog [st7])) (cs_cons okSt7 okLoops) kBd2
theorem kBd3 : (tidied noFs (xPlus Tryz.prog [st11]) 30000 bd3).isOk = true := by kernel_rfl
theorem okBd3 {I : Itp} : COk I Tryz.prog gls bd3 := tidied_ok (tot_none I) (cx := (xPlus Tryz.prog [st11])) (cs_cons okSt11 okLoops) kBd3
theorem kBd4 : (tidied noFs (xPlus Tryz.prog [st12]) 30000 bd4).isOk = true := by kernel_rfl
theorem okBd4 {I : Itp} : COk I Tryz.prog gls bd4 := tidied_ok (tot_none I) (cx := (xPlus Tryz.prog [st12])) (cs_cons okSt12 okLoops) kBd4
theorem kBd5 : (tidied noFs (xPlus Tryz.prog [st13]) 30000 bd5).isOk = true := by kernel_rfl
theorem okBd5 {I : Itp} : COk I Tryz.prog gls bd5 := tidied_ok (tot_none I) (cx := (xPlus Tryz.prog [st13])) (cs_cons okSt13 okLoops) kBd5
theorem kBd6 : (tidied noFs (xPlus Tryz.prog [st15]) 30000 bd6).isOk = true := by kernel_rfl
theorem okBd6 {I : Itp} : COk I Tryz.prog gls bd6 := tidied_ok (tot_none I) (cx := (xPlus Tryz.prog [st15])) (cs_cons okSt15 okLoops) kBd6
theorem kBd7 : (tidied noFs (xPlus Tryz.prog [st16]) 30000 bd7).isOk = true := by kernel_rfl
theorem okBd7 {I : Itp} : COk I Tryz.prog gls bd7 := tidied_ok (tot_none I) (cx := (xPlus Tryz.prog [st16])) (cs_cons okSt16 okLoops) kBd7
theorem kBd8 : (tidied noFs (xPlus Tryz.prog [st16]) 30000 bd8).isOk = true := by kernel_rfl
theorem okBd8 {I : Itp} : COk I Tryz.prog gls bd8 := tidied_ok (tot_none I) (cx := (xPlus Tryz.prog [st16])) (cs_cons okSt16 okLoops) kBd8
theorem kBd9 : (tidied noFs (xPlus Tryz.prog [st13]) 30000 bd9).isOk = true := by kernel_rfl
theorem okBd9 {I : Itp} : COk I Tryz.prog gls bd9 := tidied_ok (tot_none I) (cx := (xPlus Tryz.prog [st13])) (cs_cons okSt13 okLoops) kBd9
end Go.Mg
