/-
  Calls inside the example of traces, carried out by the kernel. Conditions: none.
-/
import Derived.Test.YtiehemggplndcaaGreatDoorB1
import Derived.Test.YtiehemggplndcaaGreatDoorB2
import Derived.KernelRfl
namespace Go.Mg
open Go Go.Sx Go.Proofs
theorem kSt11 : (tidied noFs (xPlus Tryz.prog []) 300 st11).isOk = true := by kernel_rfl
theorem okSt11 {I : Itp} : COk I Tryz.prog gls st11 := tidied_ok (tot_none I) (cx := (xPlus Tryz.prog [])) okLoops kSt11
theorem kSt12 : (tidied noFs (xPlus Tryz.prog []) 300 st12).isOk = true := by kernel_rfl
theorem okSt12 {I : Itp} : COk I Tryz.prog gls st12 := tidied_ok (tot_none I) (cx := (xPlus Tryz.prog [])) okLoops kSt12
theorem kSt13 : (tidied noFs (xPlus Tryz.prog []) 300 st13).isOk = true := by kernel_rfl
theorem okSt13 {I : Itp} : COk I Tryz.prog gls st13 := tidied_ok (tot_none I) (cx := (xPlus Tryz.prog [])) okLoops kSt13
theorem kSt14 : (tidied noFs (xPlus Tryz.prog [st11, st12, st13]) 300 st14).isOk = true := by kernel_rfl
theorem okSt14 {I : Itp} : COk I Tryz.prog gls st14 := tidied_ok (tot_none I) (cx := (xPlus Tryz.prog [st11, st12, st13])) (cs_cons okSt11 (cs_cons okSt12 (cs_cons okSt13 okLoops))) kSt14
end Go.Mg
