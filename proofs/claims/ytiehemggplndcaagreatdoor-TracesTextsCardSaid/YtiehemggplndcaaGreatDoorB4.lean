/-
  Calls inside the example of traces, carried out by the kernel. Conditions: none.
-/
import Derived.Test.YtiehemggplndcaaGreatDoorB1
import Derived.Test.YtiehemggplndcaaGreatDoorB2
import Derived.KernelRfl
namespace Go.Mg
open Go Go.Sx Go.Proofs
theorem kSt4 : (tidied noFs (xPlus Tryz.prog []) 300 st4).isOk = true := by kernel_rfl
theorem okSt4 {I : Itp} : COk I Tryz.prog gls st4 := tidied_ok (tot_none I) (cx := (xPlus Tryz.prog [])) okLoops kSt4
theorem kSt5 : (tidied noFs (xPlus Tryz.prog []) 300 st5).isOk = true := by kernel_rfl
theorem okSt5 {I : Itp} : COk I Tryz.prog gls st5 := tidied_ok (tot_none I) (cx := (xPlus Tryz.prog [])) okLoops kSt5
theorem kSt6 : (tidied noFs (xPlus Tryz.prog []) 300 st6).isOk = true := by kernel_rfl
theorem okSt6 {I : Itp} : COk I Tryz.prog gls st6 := tidied_ok (tot_none I) (cx := (xPlus Tryz.prog [])) okLoops kSt6
theorem kSt7 : (tidied noFs (xPlus Tryz.prog [st4, st5, st6]) 300 st7).isOk = true := by kernel_rfl
theorem okSt7 {I : Itp} : COk I Tryz.prog gls st7 := tidied_ok (tot_none I) (cx := (xPlus Tryz.prog [st4, st5, st6])) (cs_cons okSt4 (cs_cons okSt5 (cs_cons okSt6 okLoops))) kSt7
theorem kSt1 : (tidied noFs (xPlus Tryz.prog []) 300 st1).isOk = true := by kernel_rfl
theorem okSt1 {I : Itp} : COk I Tryz.prog gls st1 := tidied_ok (tot_none I) (cx := (xPlus Tryz.prog [])) okLoops kSt1
theorem kSt9 : (tidied noFs (xPlus Tryz.prog []) 300 st9).isOk = true := by kernel_rfl
theorem okSt9 {I : Itp} : COk I Tryz.prog gls st9 := tidied_ok (tot_none I) (cx := (xPlus Tryz.prog [])) okLoops kSt9
end Go.Mg
