/-
  What SpoilOne's row must say of the program: its layout. Conditions: none.
-/
import Derived.Test.YtmjjjhinedogjaaGreatDoorCards
import Derived.JoinedOf
import Derived.KernelRfl
namespace Go.Mg
open Go Go.Proofs Go.Proofs.YtmjjjhinedogjaaGreatDoor
set_option maxRecDepth 100000
theorem IJ:laidOutB Tryz.prog=true:=by kernel_rfl
theorem qz3:mapsRowed Tryz.prog=true:=by kernel_rfl
end Go.Mg
