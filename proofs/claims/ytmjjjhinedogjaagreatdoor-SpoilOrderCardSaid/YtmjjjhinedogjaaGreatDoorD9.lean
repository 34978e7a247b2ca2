/-
  What SpoilOrder's row must say of the program: all of it. Conditions: none.
-/
import Derived.Test.YtmjjjhinedogjaaGreatDoorD5
import Derived.Test.YtmjjjhinedogjaaGreatDoorD6
import Derived.Test.YtmjjjhinedogjaaGreatDoorD8
namespace Go.Mg
open Go Go.Proofs Go.Proofs.YtmjjjhinedogjaaGreatDoor
set_option maxRecDepth 100000
theorem Cc:joinedFacts Tryz.prog 5 Tryz.f5 Rows.spoilOrderSpec Rows.spoilOrderRow=true:=by
 unfold joinedFacts
 rw [RJ,pK,MG,Oq,Uf,qqe,Cu]
 kernel_rfl
end Go.Mg
