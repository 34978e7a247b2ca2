/-
  spoil.Differ's walk, and a list's equality, by the kernel. Conditions: none.
-/
import Derived.Test.YtmjjjhinedogjaaGreatDoorC6
import Derived.Test.YtmjjjhinedogjaaGreatDoorProg
import Derived.KernelRfl
noncomputable section
namespace Go.Sp
open Go Go.Sx Go.Proofs
theorem qzT:ql spS (UR Tryz.prog) 3000 MR=Rv:=by kernel_rfl
theorem qyb:ql spS (qqr Tryz.prog) 3000 Ua=qqF:=by kernel_rfl
end Go.Sp
end
