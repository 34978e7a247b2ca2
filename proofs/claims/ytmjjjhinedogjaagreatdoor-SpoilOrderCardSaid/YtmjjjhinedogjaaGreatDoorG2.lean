/-
  Put's walk, by the kernel: parts. Conditions: none.
-/
import Derived.Test.YtmjjjhinedogjaaGreatDoorC3
import Derived.Test.YtmjjjhinedogjaaGreatDoorProg
import Derived.KernelRfl
noncomputable section
namespace Go.Sp
open Go Go.Sx Go.Proofs
theorem pA2:qK spS (jZ Tryz.prog) 3000 jq (zL.getD 2 .none)=jP.qX (zL.getD 2 .none):=by kernel_rfl
theorem pA6:qK spS (jZ Tryz.prog) 3000 jq (zL.getD 6 .none)=jP.qX (zL.getD 6 .none):=by kernel_rfl
theorem qj4:qK spS (jZ Tryz.prog) 3000 jq (zL.getD 10 .none)=jP.qX (zL.getD 10 .none):=by kernel_rfl
theorem qj0:qK spS (jZ Tryz.prog) 3000 jq (zL.getD 14 .none)=jP.qX (zL.getD 14 .none):=by kernel_rfl
theorem qjI:qK spS (jZ Tryz.prog) 3000 jq (zL.getD 18 .none)=jP.qX (zL.getD 18 .none):=by kernel_rfl
theorem qjT:qK spS (jZ Tryz.prog) 3000 jq (zL.getD 22 .none)=jP.qX (zL.getD 22 .none):=by kernel_rfl
theorem qjN:qK spS (jZ Tryz.prog) 3000 jq (zL.getD 26 .none)=jP.qX (zL.getD 26 .none):=by kernel_rfl
theorem qjD:qK spS (jZ Tryz.prog) 3000 jq (zL.getD 30 .none)=jP.qX (zL.getD 30 .none):=by kernel_rfl
end Go.Sp
end
