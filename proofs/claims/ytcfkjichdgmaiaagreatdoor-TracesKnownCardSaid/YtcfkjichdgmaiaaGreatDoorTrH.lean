/-
  Calls inside the example of traces, carried out by the kernel. Conditions: none.
-/
import Derived.Test.YtcfkjichdgmaiaaGreatDoorTrM
import Derived.Test.YtcfkjichdgmaiaaGreatDoorTrE
import Derived.KernelRfl
namespace Go.Mg
open Go Go.Sx Go.Proofs
theorem kSt17 : (tidied noFs (xPlus Tryz.prog [st0, st1, bd0, bd1, bd2, bd3, bd4, bd5, bd6, bd7]) 30000 st17).isOk = true := by kernel_rfl
theorem okSt17 {I : Itp} : COk I Tryz.prog gls st17 := tidied_ok (tot_none I) (cx := (xPlus Tryz.prog [st0, st1, bd0, bd1, bd2, bd3, bd4, bd5, bd6, bd7])) (cs_cons okSt0 (cs_cons okSt1 (cs_cons okBd0 (cs_cons okBd1 (cs_cons okBd2 (cs_cons okBd3 (cs_cons okBd4 (cs_cons okBd5 (cs_cons okBd6 (cs_cons okBd7 okLoops)))))))))) kSt17
end Go.Mg
