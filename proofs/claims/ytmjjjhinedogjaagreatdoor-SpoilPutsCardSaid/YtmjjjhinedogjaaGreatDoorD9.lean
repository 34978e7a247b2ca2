/-
  What SpoilPuts's row must say of the program: all of it. Conditions: none.
-/
import Derived.Test.YtmjjjhinedogjaaGreatDoorD5
import Derived.Test.YtmjjjhinedogjaaGreatDoorD6
import Derived.Test.YtmjjjhinedogjaaGreatDoorD8
namespace Go.Mg
open Go Go.Proofs Go.Proofs.YtmjjjhinedogjaaGreatDoor
set_option maxRecDepth 100000
theorem LM:joinedFacts Tryz.prog 4 Tryz.f4 Rows.spoilPutsSpec Rows.spoilPutsRow=true:=by
 unfold joinedFacts;rw [SA,rY,Nt,Ae,IJ,qz3,LP];kernel_rfl
end Go.Mg
