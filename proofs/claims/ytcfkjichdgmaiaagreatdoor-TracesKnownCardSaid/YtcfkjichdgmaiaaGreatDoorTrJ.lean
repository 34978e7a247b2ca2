/-
  Calls inside the example of traces, carried out by the kernel. Conditions: none.
-/
import Derived.Test.YtcfkjichdgmaiaaGreatDoorTrM
import Derived.Test.YtcfkjichdgmaiaaGreatDoorTrG
import Derived.KernelRfl
namespace Go.Mg
open Go Go.Sx Go.Proofs
theorem kSt21 : (tidied noFs (xPlus Tryz.prog [st1, bd0, bd1, bd2, bd3, bd4, bd6, bd8, st20, bd9]) 30000 st21).isOk = true := by kernel_rfl
theorem okSt21 {I : Itp} : COk I Tryz.prog gls st21 := tidied_ok (tot_none I) (cx := (xPlus Tryz.prog [st1, bd0, bd1, bd2, bd3, bd4, bd6, bd8, st20, bd9])) (cs_cons okSt1 (cs_cons okBd0 (cs_cons okBd1 (cs_cons okBd2 (cs_cons okBd3 (cs_cons okBd4 (cs_cons okBd6 (cs_cons okBd8 (cs_cons okSt20 (cs_cons okBd9 okLoops)))))))))) kSt21
end Go.Mg
