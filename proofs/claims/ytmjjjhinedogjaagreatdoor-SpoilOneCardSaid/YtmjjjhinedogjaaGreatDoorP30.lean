/-
  Put's walk, by the kernel: a part. Conditions: none.
-/
import Derived.Test.YtmjjjhinedogjaaGreatDoorC3
import Derived.Test.YtmjjjhinedogjaaGreatDoorProg
import Derived.KernelRfl
noncomputable section
namespace Go.Sp
open Go Go.Sx Go.Proofs
theorem El:zY spS (jw Tryz.prog) 3000 zH (zX.getD 30 .none)=je.zW (zX.getD 30 .none):=by kernel_rfl
end Go.Sp
end
noncomputable section
namespace Go.Sp
open Go Go.Sx Go.Proofs
theorem pZ0:zY spS (Yi Tryz.prog) 3000 uh (JM.getD 0 .none)=F7.zW (JM.getD 0 .none):=by kernel_rfl
end Go.Sp
end
