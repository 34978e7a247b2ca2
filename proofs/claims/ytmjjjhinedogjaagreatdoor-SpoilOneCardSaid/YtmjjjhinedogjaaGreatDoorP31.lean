/-
  Put's walk, by the kernel: a part. Conditions: none.
-/
import Derived.Test.YtmjjjhinedogjaaGreatDoorC3
import Derived.Test.YtmjjjhinedogjaaGreatDoorProg
import Derived.KernelRfl
noncomputable section
namespace Go.Sp
open Go Go.Sx Go.Proofs
theorem pZ1:zY spS (Yi Tryz.prog) 3000 uh (JM.getD 1 .none)=F7.zW (JM.getD 1 .none):=by kernel_rfl
end Go.Sp
end
