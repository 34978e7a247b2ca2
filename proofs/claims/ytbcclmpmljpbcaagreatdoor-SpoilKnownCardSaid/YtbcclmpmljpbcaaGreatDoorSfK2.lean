/-
  Calls inside SpoilKnown, carried out by the kernel. Conditions: none.
-/
import Derived.Test.YtbcclmpmljpbcaaGreatDoorMgOk
import Derived.Test.YtbcclmpmljpbcaaGreatDoorSfKs
import Derived.KernelRfl
namespace Go.Mg
open Go Go.Sx Go.Proofs
theorem kSt21 : (tidied noFs (xNo Tryz.prog) 30000 st21).isOk = true := by kernel_rfl
theorem okSt21 {I : Itp} : COk I Tryz.prog gls st21 := tidied_ok (tot_none I) (cx := (xNo Tryz.prog)) cs_nil kSt21
end Go.Mg
