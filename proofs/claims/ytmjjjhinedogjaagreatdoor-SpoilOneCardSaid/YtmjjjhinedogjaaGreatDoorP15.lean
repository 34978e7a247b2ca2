/-
  Put's walk, by the kernel: a part. Conditions: none.
-/
import Derived.Test.YtmjjjhinedogjaaGreatDoorC3
import Derived.Test.YtmjjjhinedogjaaGreatDoorProg
import Derived.KernelRfl
noncomputable section
namespace Go.Sp
open Go Go.Sx Go.Proofs
theorem EF:zY spS (jw Tryz.prog) 3000 zH (zX.getD 15 .none)=je.zW (zX.getD 15 .none):=by kernel_rfl
end Go.Sp
end
