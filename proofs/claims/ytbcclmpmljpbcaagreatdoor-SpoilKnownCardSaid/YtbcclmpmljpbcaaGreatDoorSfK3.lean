/-
  Calls inside SpoilKnown, carried out by the kernel; SpoilKnown holds of the program: the walk. Conditions: none.
-/
import Derived.Test.YtbcclmpmljpbcaaGreatDoorSfK1
import Derived.Test.YtbcclmpmljpbcaaGreatDoorSfK2
import Derived.KernelRfl
import Derived.Test.YtbcclmpmljpbcaaGreatDoorSfOk
import Derived.Test.YtbcclmpmljpbcaaGreatDoorSfC
import Derived.Test.YtbcclmpmljpbcaaGreatDoorSfKx
namespace Go.Mg
open Go Go.Sx Go.Proofs
theorem kSt22 : (tidied noFs (xPlus Tryz.prog [st20, st21]) 30000 st22).isOk = true := by kernel_rfl
theorem okSt22 {I : Itp} : COk I Tryz.prog gls st22 := tidied_ok (tot_none I) (cx := (xPlus Tryz.prog [st20, st21])) (cs_cons okSt20 (cs_cons okSt21 okLoops)) kSt22
end Go.Mg

namespace Go.Sf
open Go Go.Sx Go.Mg Go.Proofs
theorem okAw {I : Itp} : COk I Tryz.prog gls cAw := okAwake
theorem kKnown : tidied fsS (xKnown Tryz.prog) 30000 cKnown = tKnown := by kernel_rfl
theorem okKnown : COk (SI 40) Tryz.prog gls cKnown :=
  ok_of SI_tot (cx := xKnown Tryz.prog) (cs_cons okSt11 (cs_cons okSt22 (cs_cons okAw (cs_cons okPrt (cs_cons okPar (cs_cons okFol okLoops)))))) kKnown vKnown
#print axioms okKnown
end Go.Sf
