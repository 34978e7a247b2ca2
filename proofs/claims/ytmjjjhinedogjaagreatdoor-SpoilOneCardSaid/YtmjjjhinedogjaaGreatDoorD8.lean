/-
  What SpoilOne's row must say of the program: all of it. Conditions: none.
-/
import Derived.Test.YtmjjjhinedogjaaGreatDoorD5
import Derived.Test.YtmjjjhinedogjaaGreatDoorD6
import Derived.Test.YtmjjjhinedogjaaGreatDoorD7
namespace Go.Mg
open Go Go.Proofs Go.Proofs.YtmjjjhinedogjaaGreatDoor
set_option maxRecDepth 100000
theorem RQ:joinedFacts Tryz.prog 3 Tryz.f3 Rows.spoilOneSpec Rows.spoilOneRow=true:=by
 unfold joinedFacts
 rw [MU,mF,DK,Lg,S9,Oc,RZ]
 kernel_rfl
end Go.Mg
