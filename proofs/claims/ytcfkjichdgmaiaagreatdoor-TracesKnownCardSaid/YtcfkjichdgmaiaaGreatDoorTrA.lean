/-
  Calls inside the example of traces, carried out by the kernel. Conditions: none.
-/
import Derived.Test.YtcfkjichdgmaiaaGreatDoorMgOk
import Derived.Test.YtcfkjichdgmaiaaGreatDoorTrSt
import Derived.KernelRfl
namespace Go.Mg
open Go Go.Sx Go.Proofs
theorem kSt3 : (tidied noFs (xPlus Tryz.prog []) 30000 st3).isOk = true := by kernel_rfl
theorem okSt3 {I : Itp} : COk I Tryz.prog gls st3 := tidied_ok (tot_none I) (cx := (xPlus Tryz.prog [])) okLoops kSt3
theorem kSt4 : (tidied noFs (xPlus Tryz.prog []) 30000 st4).isOk = true := by kernel_rfl
theorem okSt4 {I : Itp} : COk I Tryz.prog gls st4 := tidied_ok (tot_none I) (cx := (xPlus Tryz.prog [])) okLoops kSt4
theorem kSt5 : (tidied noFs (xPlus Tryz.prog []) 30000 st5).isOk = true := by kernel_rfl
theorem okSt5 {I : Itp} : COk I Tryz.prog gls st5 := tidied_ok (tot_none I) (cx := (xPlus Tryz.prog [])) okLoops kSt5
theorem kSt8 : (tidied noFs (xPlus Tryz.prog []) 30000 st8).isOk = true := by kernel_rfl
theorem okSt8 {I : Itp} : COk I Tryz.prog gls st8 := tidied_ok (tot_none I) (cx := (xPlus Tryz.prog [])) okLoops kSt8
theorem kSt9 : (tidied noFs (xPlus Tryz.prog []) 30000 st9).isOk = true := by kernel_rfl
theorem okSt9 {I : Itp} : COk I Tryz.prog gls st9 := tidied_ok (tot_none I) (cx := (xPlus Tryz.prog [])) okLoops kSt9
theorem kSt10 : (tidied noFs (xPlus Tryz.prog []) 30000 st10).isOk = true := by kernel_rfl
theorem okSt10 {I : Itp} : COk I Tryz.prog gls st10 := tidied_ok (tot_none I) (cx := (xPlus Tryz.prog [])) okLoops kSt10
end Go.Mg
