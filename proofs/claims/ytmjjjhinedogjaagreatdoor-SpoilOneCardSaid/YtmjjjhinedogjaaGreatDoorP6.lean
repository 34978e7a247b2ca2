/-
  Put's walk, by the kernel: a part. Conditions: none.
-/
import Derived.Test.YtmjjjhinedogjaaGreatDoorC3
import Derived.Test.YtmjjjhinedogjaaGreatDoorProg
import Derived.KernelRfl
noncomputable section
namespace Go.Sp
open Go Go.Sx Go.Proofs
theorem pA6:zY spS (jw Tryz.prog) 3000 zH (zX.getD 6 .none)=je.zW (zX.getD 6 .none):=by kernel_rfl
end Go.Sp
end
noncomputable section
namespace Go.Sp
open Go Go.Sx Go.Proofs
theorem qqf:qo spS (TW Tryz.prog) 3000 FX=UL:=by kernel_rfl
end Go.Sp
end
