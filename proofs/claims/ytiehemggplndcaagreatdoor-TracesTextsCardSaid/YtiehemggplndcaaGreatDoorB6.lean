/-
  Calls inside the example of traces, carried out by the kernel. Conditions: none.
-/
import Derived.Test.YtiehemggplndcaaGreatDoorB1
import Derived.Test.YtiehemggplndcaaGreatDoorB2
import Derived.KernelRfl
namespace Go.Mg
open Go Go.Sx Go.Proofs
theorem kSt16 : (tidied noFs (xPlus Tryz.prog []) 300 st16).isOk = true := by kernel_rfl
theorem okSt16 {I : Itp} : COk I Tryz.prog gls st16 := tidied_ok (tot_none I) (cx := (xPlus Tryz.prog [])) okLoops kSt16
theorem kSt18 : (tidied noFs (xPlus Tryz.prog []) 300 st18).isOk = true := by kernel_rfl
theorem okSt18 {I : Itp} : COk I Tryz.prog gls st18 := tidied_ok (tot_none I) (cx := (xPlus Tryz.prog [])) okLoops kSt18
theorem kSt20 : (tidied noFs (xPlus Tryz.prog []) 300 st20).isOk = true := by kernel_rfl
theorem okSt20 {I : Itp} : COk I Tryz.prog gls st20 := tidied_ok (tot_none I) (cx := (xPlus Tryz.prog [])) okLoops kSt20
theorem kSt21 : (tidied noFs (xPlus Tryz.prog [st20]) 300 st21).isOk = true := by kernel_rfl
theorem okSt21 {I : Itp} : COk I Tryz.prog gls st21 := tidied_ok (tot_none I) (cx := (xPlus Tryz.prog [st20])) (cs_cons okSt20 okLoops) kSt21
theorem kSt23 : (tidied noFs (xPlus Tryz.prog []) 300 st23).isOk = true := by kernel_rfl
theorem okSt23 {I : Itp} : COk I Tryz.prog gls st23 := tidied_ok (tot_none I) (cx := (xPlus Tryz.prog [])) okLoops kSt23
end Go.Mg
