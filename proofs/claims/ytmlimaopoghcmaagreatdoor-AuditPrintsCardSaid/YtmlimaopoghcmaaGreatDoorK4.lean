/-
  Calls inside the example of audits, carried out by the kernel. Conditions: none.
-/
import Derived.Test.YtmlimaopoghcmaaGreatDoorC1
import Derived.Test.YtmlimaopoghcmaaGreatDoorB2
import Derived.KernelRfl
namespace Go.Mg
open Go Go.Sx Go.Proofs
theorem kV43 : tidied noFs (xSv Tryz.prog) 30000 cV43 = tV43 := by kernel_rfl
theorem okV43 {I : Itp} : COk I Tryz.prog gls cV43 := ok_of (tot_none I) (cx := xSv Tryz.prog) okLoops kV43 vV43
theorem kB44 : tidied noFs (xSv Tryz.prog) 30000 cB44 = tB44 := by kernel_rfl
theorem okB44 {I : Itp} : COk I Tryz.prog gls cB44 := ok_of (tot_none I) (cx := xSv Tryz.prog) okLoops kB44 vB44
theorem kSt8 : (tidied noFs (xPlus Tryz.prog [cV43, cB44]) 30000 st8).isOk = true := by kernel_rfl
theorem okSt8 {I : Itp} : COk I Tryz.prog gls st8 := tidied_ok (tot_none _) (cx := (xPlus Tryz.prog [cV43, cB44])) (cs_cons okV43 (cs_cons okB44 okLoops)) kSt8
end Go.Mg
