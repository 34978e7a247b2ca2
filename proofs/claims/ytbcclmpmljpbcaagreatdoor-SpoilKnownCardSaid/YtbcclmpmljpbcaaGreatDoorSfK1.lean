/-
  Calls inside SpoilKnown, carried out by the kernel. Conditions: none.
-/
import Derived.Test.YtbcclmpmljpbcaaGreatDoorMgOk
import Derived.Test.YtbcclmpmljpbcaaGreatDoorSfKs
import Derived.KernelRfl
namespace Go.Mg
open Go Go.Sx Go.Proofs
theorem kSt20 : (tidied noFs (xNo Tryz.prog) 30000 st20).isOk = true := by kernel_rfl
theorem okSt20 {I : Itp} : COk I Tryz.prog gls st20 := tidied_ok (tot_none I) (cx := (xNo Tryz.prog)) cs_nil kSt20
end Go.Mg
