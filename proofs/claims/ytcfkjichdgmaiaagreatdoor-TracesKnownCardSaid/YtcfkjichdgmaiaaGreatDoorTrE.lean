/-
  Calls inside the example of traces, carried out by the kernel. Conditions: none.
-/
import Derived.Test.YtcfkjichdgmaiaaGreatDoorMgOk
import Derived.Test.YtcfkjichdgmaiaaGreatDoorTrSu
import Derived.KernelRfl
namespace Go.Mg
open Go Go.Sx Go.Proofs
theorem kSt0 : (tidied noFs (xPlus Tryz.prog []) 30000 st0).isOk = true := by kernel_rfl
theorem okSt0 {I : Itp} : COk I Tryz.prog gls st0 := tidied_ok (tot_none I) (cx := (xPlus Tryz.prog [])) okLoops kSt0
theorem kSt22 : (tidied noFs (xPlus Tryz.prog []) 30000 st22).isOk = true := by kernel_rfl
theorem okSt22 {I : Itp} : COk I Tryz.prog gls st22 := tidied_ok (tot_none I) (cx := (xPlus Tryz.prog [])) okLoops kSt22
theorem kSt27 : (tidied noFs (xPlus Tryz.prog []) 30000 st27).isOk = true := by kernel_rfl
theorem okSt27 {I : Itp} : COk I Tryz.prog gls st27 := tidied_ok (tot_none I) (cx := (xPlus Tryz.prog [])) okLoops kSt27
end Go.Mg
