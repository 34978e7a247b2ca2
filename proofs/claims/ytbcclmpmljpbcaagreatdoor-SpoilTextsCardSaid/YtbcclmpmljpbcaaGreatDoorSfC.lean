/-
  Calls inside the example of faults, carried out by the kernel. Conditions: none.
-/
import Derived.Test.YtbcclmpmljpbcaaGreatDoorSfA
import Derived.KernelRfl
namespace Go.Mg
open Go Go.Sx Go.Proofs
theorem kSt3 : (tidied noFs (xPlus Tryz.prog [st2]) 30000 st3).isOk = true := by kernel_rfl
theorem okSt3 {I : Itp} : COk I Tryz.prog gls st3 := tidied_ok (tot_none I) (cx := (xPlus Tryz.prog [st2])) (cs_cons okSt2 okLoops) kSt3
end Go.Mg
