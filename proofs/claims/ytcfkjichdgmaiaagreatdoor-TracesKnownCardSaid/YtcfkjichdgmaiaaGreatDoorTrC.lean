/-
  Calls inside the example of traces, carried out by the kernel. Conditions: none.
-/
import Derived.Test.YtcfkjichdgmaiaaGreatDoorMgOk
import Derived.Test.YtcfkjichdgmaiaaGreatDoorTrLo
import Derived.Test.YtcfkjichdgmaiaaGreatDoorTrSt
import Derived.KernelRfl
namespace Go.Mg
open Go Go.Sx Go.Proofs
theorem kState1 : tidied noFs (xState1 Tryz.prog) 30000 cState1 = tState1 := by kernel_rfl
theorem okState1 {I : Itp} : COk I Tryz.prog gls cState1 := ok_of (tot_none I) (cx := xState1 Tryz.prog) cs_nil kState1 vState1
theorem kSt1 : (tidied noFs (xPlus Tryz.prog []) 30000 st1).isOk = true := by kernel_rfl
theorem okSt1 {I : Itp} : COk I Tryz.prog gls st1 := tidied_ok (tot_none I) (cx := (xPlus Tryz.prog [])) okLoops kSt1
theorem kSt2 : (tidied noFs (xPlus Tryz.prog []) 30000 st2).isOk = true := by kernel_rfl
theorem okSt2 {I : Itp} : COk I Tryz.prog gls st2 := tidied_ok (tot_none I) (cx := (xPlus Tryz.prog [])) okLoops kSt2
theorem kSt7 : (tidied noFs (xPlus Tryz.prog []) 30000 st7).isOk = true := by kernel_rfl
theorem okSt7 {I : Itp} : COk I Tryz.prog gls st7 := tidied_ok (tot_none I) (cx := (xPlus Tryz.prog [])) okLoops kSt7
theorem kSt12 : (tidied noFs (xPlus Tryz.prog [cState1]) 30000 st12).isOk = true := by kernel_rfl
theorem okSt12 {I : Itp} : COk I Tryz.prog gls st12 := tidied_ok (tot_none I) (cx := (xPlus Tryz.prog [cState1])) (cs_cons okState1 okLoops) kSt12
theorem kSt13 : (tidied noFs (xPlus Tryz.prog [cState1]) 30000 st13).isOk = true := by kernel_rfl
theorem okSt13 {I : Itp} : COk I Tryz.prog gls st13 := tidied_ok (tot_none I) (cx := (xPlus Tryz.prog [cState1])) (cs_cons okState1 okLoops) kSt13
theorem kSt16 : (tidied noFs (xPlus Tryz.prog [cState1]) 30000 st16).isOk = true := by kernel_rfl
theorem okSt16 {I : Itp} : COk I Tryz.prog gls st16 := tidied_ok (tot_none I) (cx := (xPlus Tryz.prog [cState1])) (cs_cons okState1 okLoops) kSt16
theorem kSt23 : (tidied noFs (xPlus Tryz.prog []) 30000 st23).isOk = true := by kernel_rfl
theorem okSt23 {I : Itp} : COk I Tryz.prog gls st23 := tidied_ok (tot_none I) (cx := (xPlus Tryz.prog [])) okLoops kSt23
theorem kSt31 : (tidied noFs (xPlus Tryz.prog []) 30000 st31).isOk = true := by kernel_rfl
theorem okSt31 {I : Itp} : COk I Tryz.prog gls st31 := tidied_ok (tot_none I) (cx := (xPlus Tryz.prog [])) okLoops kSt31
theorem kSt38 : (tidied noFs (xPlus Tryz.prog []) 30000 st38).isOk = true := by kernel_rfl
theorem okSt38 {I : Itp} : COk I Tryz.prog gls st38 := tidied_ok (tot_none I) (cx := (xPlus Tryz.prog [])) okLoops kSt38
end Go.Mg
