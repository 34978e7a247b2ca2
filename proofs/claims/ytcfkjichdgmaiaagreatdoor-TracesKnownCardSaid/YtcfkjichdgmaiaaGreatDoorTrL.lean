/-
  The example of traces, carried out by the kernel. Conditions: none.
-/
import Derived.Test.YtcfkjichdgmaiaaGreatDoorTrH
import Derived.Test.YtcfkjichdgmaiaaGreatDoorTrI
import Derived.Test.YtcfkjichdgmaiaaGreatDoorTrJ
import Derived.Test.YtcfkjichdgmaiaaGreatDoorTrK
import Derived.KernelRfl
namespace Go.Mg
open Go Go.Sx Go.Proofs
theorem kSt44 : (tidied noFs (xPlus Tryz.prog [st21, st24, st26, st32, st39]) 30000 st44).isOk = true := by kernel_rfl
theorem okSt44 {I : Itp} : COk I Tryz.prog gls st44 := tidied_ok (tot_none I) (cx := (xPlus Tryz.prog [st21, st24, st26, st32, st39])) (cs_cons okSt21 (cs_cons okSt24 (cs_cons okSt26 (cs_cons okSt32 (cs_cons okSt39 okLoops))))) kSt44
theorem kMain : (tidied noFs (xPlus Tryz.prog [st0, st17, st19, st44, st45, st46, st47]) 30000 cMain).isOk = true := by kernel_rfl
theorem okMain {I : Itp} : COk I Tryz.prog gls cMain := tidied_ok (tot_none I) (cx := (xPlus Tryz.prog [st0, st17, st19, st44, st45, st46, st47])) (cs_cons okSt0 (cs_cons okSt17 (cs_cons okSt19 (cs_cons okSt44 (cs_cons okSt45 (cs_cons okSt46 (cs_cons okSt47 okLoops))))))) kMain
end Go.Mg
