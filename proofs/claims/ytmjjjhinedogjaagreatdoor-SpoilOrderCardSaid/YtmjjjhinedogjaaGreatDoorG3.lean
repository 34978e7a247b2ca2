/-
  Put's walk, by the kernel: parts. Conditions: none.
-/
import Derived.Test.YtmjjjhinedogjaaGreatDoorC3
import Derived.Test.YtmjjjhinedogjaaGreatDoorProg
import Derived.KernelRfl
noncomputable section
namespace Go.Sp
open Go Go.Sx Go.Proofs
theorem pA3:qK spS (jZ Tryz.prog) 3000 jq (zL.getD 3 .none)=jP.qX (zL.getD 3 .none):=by kernel_rfl
theorem pA7:qK spS (jZ Tryz.prog) 3000 jq (zL.getD 7 .none)=jP.qX (zL.getD 7 .none):=by kernel_rfl
theorem qj3:qK spS (jZ Tryz.prog) 3000 jq (zL.getD 11 .none)=jP.qX (zL.getD 11 .none):=by kernel_rfl
theorem qjE:qK spS (jZ Tryz.prog) 3000 jq (zL.getD 15 .none)=jP.qX (zL.getD 15 .none):=by kernel_rfl
theorem qjU:qK spS (jZ Tryz.prog) 3000 jq (zL.getD 19 .none)=jP.qX (zL.getD 19 .none):=by kernel_rfl
theorem qjS:qK spS (jZ Tryz.prog) 3000 jq (zL.getD 23 .none)=jP.qX (zL.getD 23 .none):=by kernel_rfl
theorem qjM:qK spS (jZ Tryz.prog) 3000 jq (zL.getD 27 .none)=jP.qX (zL.getD 27 .none):=by kernel_rfl
theorem pZ0:qK spS (XE Tryz.prog) 3000 om (Wh.getD 0 .none)=NU.qX (Wh.getD 0 .none):=by kernel_rfl
end Go.Sp
end
