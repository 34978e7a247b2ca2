/-
  Put's walk, by the kernel: parts. Conditions: none.
-/
import Derived.Test.YtmjjjhinedogjaaGreatDoorC3
import Derived.Test.YtmjjjhinedogjaaGreatDoorProg
import Derived.KernelRfl
noncomputable section
namespace Go.Sp
open Go Go.Sx Go.Proofs
theorem pA0:qK spS (jZ Tryz.prog) 3000 jq (zL.getD 0 .none)=jP.qX (zL.getD 0 .none):=by kernel_rfl
theorem pA4:qK spS (jZ Tryz.prog) 3000 jq (zL.getD 4 .none)=jP.qX (zL.getD 4 .none):=by kernel_rfl
theorem pA8:qK spS (jZ Tryz.prog) 3000 jq (zL.getD 8 .none)=jP.qX (zL.getD 8 .none):=by kernel_rfl
theorem qj2:qK spS (jZ Tryz.prog) 3000 jq (zL.getD 12 .none)=jP.qX (zL.getD 12 .none):=by kernel_rfl
theorem qjA:qK spS (jZ Tryz.prog) 3000 jq (zL.getD 16 .none)=jP.qX (zL.getD 16 .none):=by kernel_rfl
theorem qjL:qK spS (jZ Tryz.prog) 3000 jq (zL.getD 20 .none)=jP.qX (zL.getD 20 .none):=by kernel_rfl
theorem qjR:qK spS (jZ Tryz.prog) 3000 jq (zL.getD 24 .none)=jP.qX (zL.getD 24 .none):=by kernel_rfl
theorem qjH:qK spS (jZ Tryz.prog) 3000 jq (zL.getD 28 .none)=jP.qX (zL.getD 28 .none):=by kernel_rfl
theorem pZ1:qK spS (XE Tryz.prog) 3000 om (Wh.getD 1 .none)=NU.qX (Wh.getD 1 .none):=by kernel_rfl
end Go.Sp
end
