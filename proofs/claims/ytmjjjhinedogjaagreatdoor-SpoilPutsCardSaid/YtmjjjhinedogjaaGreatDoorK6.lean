/-
  SpoilPuts' walk, and a list's equality, by the kernel. Conditions: none.
-/
import Derived.Test.YtmjjjhinedogjaaGreatDoorC6
import Derived.Test.YtmjjjhinedogjaaGreatDoorProg
import Derived.KernelRfl
noncomputable section
namespace Go.Sp
open Go Go.Sx Go.Proofs
theorem qzF:ql spS (UM Tryz.prog) 3000 MP=Rj:=by kernel_rfl
theorem qzN:ql spS (UN Tryz.prog) 3000 TH=U3:=by kernel_rfl
end Go.Sp
end
