/-
  SpoilTexts holds of the program: the walk. Conditions: none.
-/
import Derived.Test.YtbcclmpmljpbcaaGreatDoorSfOk
import Derived.Test.YtbcclmpmljpbcaaGreatDoorSfE
namespace Go.Sf
open Go Go.Sx Go.Mg Go.Proofs
theorem okAw {I : Itp} : COk I Tryz.prog gls cAw := okAwake
theorem kTexts : tidied fsS (xTexts Tryz.prog) 300 cTexts = tTexts := by kernel_rfl
theorem okTexts : COk (SI 40) Tryz.prog gls cTexts :=
  ok_of SI_tot (cx := xTexts Tryz.prog) (cs_cons okAw (cs_cons okFol (cs_cons okRFol (cs_cons okPrt (cs_cons okRPrt (cs_cons okPar (cs_cons okRPar cs_nil))))))) kTexts vTexts
#print axioms okTexts
end Go.Sf
