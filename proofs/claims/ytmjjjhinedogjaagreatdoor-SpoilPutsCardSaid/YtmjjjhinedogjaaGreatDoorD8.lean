/-
  What SpoilPuts's row must say of the program: no loops from its arguments. Conditions: none.
-/
import Derived.Test.YtmjjjhinedogjaaGreatDoorCards
import Derived.JoinedOf
import Derived.KernelRfl
namespace Go.Mg
open Go Go.Proofs Go.Proofs.YtmjjjhinedogjaaGreatDoor
set_option maxRecDepth 100000
theorem LP:(Tryz.f4.params.toList++Rows.spoilPutsSpec.plain.varTypes Tryz.prog).any (Tryz.prog.loopsFrom ·)=false:=by kernel_rfl
end Go.Mg
