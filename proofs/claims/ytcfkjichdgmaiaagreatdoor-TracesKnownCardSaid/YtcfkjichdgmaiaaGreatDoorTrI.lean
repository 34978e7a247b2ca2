/-
  Calls inside the example of traces, carried out by the kernel. Conditions: none.
-/
import Derived.Test.YtcfkjichdgmaiaaGreatDoorTrM
import Derived.Test.YtcfkjichdgmaiaaGreatDoorTrF
import Derived.KernelRfl
namespace Go.Mg
open Go Go.Sx Go.Proofs
theorem kSt19 : (tidied noFs (xPlus Tryz.prog [st1, bd0, bd1, bd2, bd3, bd4, bd5, bd6, st18, bd8]) 30000 st19).isOk = true := by kernel_rfl
theorem okSt19 {I : Itp} : COk I Tryz.prog gls st19 := tidied_ok (tot_none I) (cx := (xPlus Tryz.prog [st1, bd0, bd1, bd2, bd3, bd4, bd5, bd6, st18, bd8])) (cs_cons okSt1 (cs_cons okBd0 (cs_cons okBd1 (cs_cons okBd2 (cs_cons okBd3 (cs_cons okBd4 (cs_cons okBd5 (cs_cons okBd6 (cs_cons okSt18 (cs_cons okBd8 okLoops)))))))))) kSt19
end Go.Mg
