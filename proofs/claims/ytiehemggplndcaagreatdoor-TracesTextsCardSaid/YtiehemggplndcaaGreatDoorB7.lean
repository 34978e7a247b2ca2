/-
  The example of traces, carried out by the kernel. Conditions: none.
-/
import Derived.Test.YtiehemggplndcaaGreatDoorB3
import Derived.Test.YtiehemggplndcaaGreatDoorB4
import Derived.Test.YtiehemggplndcaaGreatDoorB5
import Derived.Test.YtiehemggplndcaaGreatDoorB6
import Derived.KernelRfl
namespace Go.Mg
open Go Go.Sx Go.Proofs
theorem kMain : (tidied noFs (xPlus Tryz.prog [st0, st1, st2, st7, st9, st14, st16, st18, st21, st23]) 300 cMain).isOk = true := by kernel_rfl
theorem okMain {I : Itp} : COk I Tryz.prog gls cMain := tidied_ok (tot_none I) (cx := (xPlus Tryz.prog [st0, st1, st2, st7, st9, st14, st16, st18, st21, st23])) (cs_cons okSt0 (cs_cons okSt1 (cs_cons okSt2 (cs_cons okSt7 (cs_cons okSt9 (cs_cons okSt14 (cs_cons okSt16 (cs_cons okSt18 (cs_cons okSt21 (cs_cons okSt23 okLoops)))))))))) kMain
end Go.Mg
