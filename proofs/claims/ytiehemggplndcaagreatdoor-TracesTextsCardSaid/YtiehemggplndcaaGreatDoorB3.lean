/-
  Calls inside the example of traces, carried out by the kernel. Conditions: none.
-/
import Derived.Test.YtiehemggplndcaaGreatDoorB1
import Derived.Test.YtiehemggplndcaaGreatDoorB2
import Derived.KernelRfl
namespace Go.Mg
open Go Go.Sx Go.Proofs
theorem kSt0 : (tidied noFs (xPlus Tryz.prog []) 300 st0).isOk = true := by kernel_rfl
theorem okSt0 {I : Itp} : COk I Tryz.prog gls st0 := tidied_ok (tot_none I) (cx := (xPlus Tryz.prog [])) okLoops kSt0
theorem kSt2 : (tidied noFs (xPlus Tryz.prog []) 300 st2).isOk = true := by kernel_rfl
theorem okSt2 {I : Itp} : COk I Tryz.prog gls st2 := tidied_ok (tot_none I) (cx := (xPlus Tryz.prog [])) okLoops kSt2
end Go.Mg
