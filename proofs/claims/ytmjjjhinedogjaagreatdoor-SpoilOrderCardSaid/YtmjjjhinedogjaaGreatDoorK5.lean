/-
  spoil.Differ's walk, and a list's equality, by the kernel. Conditions: none.
-/
import Derived.Test.YtmjjjhinedogjaaGreatDoorC6
import Derived.Test.YtmjjjhinedogjaaGreatDoorProg
import Derived.KernelRfl
noncomputable section
namespace Go.Sp
open Go Go.Sx Go.Proofs
theorem qqn:qZ spS (LQ Tryz.prog) 3000 Mj=Pq:=by kernel_rfl
theorem qkm:qZ spS (Ao Tryz.prog) 3000 Lh=AL:=by kernel_rfl
end Go.Sp
end
