/-
  Put's walk, by the kernel: parts. Conditions: none.
-/
import Derived.Test.YtmjjjhinedogjaaGreatDoorC3
import Derived.Test.YtmjjjhinedogjaaGreatDoorProg
import Derived.KernelRfl
noncomputable section
namespace Go.Sp
open Go Go.Sx Go.Proofs
theorem pA1:qK spS (jZ Tryz.prog) 3000 jq (zL.getD 1 .none)=jP.qX (zL.getD 1 .none):=by kernel_rfl
theorem pA5:qK spS (jZ Tryz.prog) 3000 jq (zL.getD 5 .none)=jP.qX (zL.getD 5 .none):=by kernel_rfl
theorem pA9:qK spS (jZ Tryz.prog) 3000 jq (zL.getD 9 .none)=jP.qX (zL.getD 9 .none):=by kernel_rfl
theorem qj1:qK spS (jZ Tryz.prog) 3000 jq (zL.getD 13 .none)=jP.qX (zL.getD 13 .none):=by kernel_rfl
theorem qjO:qK spS (jZ Tryz.prog) 3000 jq (zL.getD 17 .none)=jP.qX (zL.getD 17 .none):=by kernel_rfl
theorem qjC:qK spS (jZ Tryz.prog) 3000 jq (zL.getD 21 .none)=jP.qX (zL.getD 21 .none):=by kernel_rfl
theorem qjP:qK spS (jZ Tryz.prog) 3000 jq (zL.getD 25 .none)=jP.qX (zL.getD 25 .none):=by kernel_rfl
theorem qjF:qK spS (jZ Tryz.prog) 3000 jq (zL.getD 29 .none)=jP.qX (zL.getD 29 .none):=by kernel_rfl
theorem qks:qZ spS (UN Tryz.prog) 3000 Sr=AU:=by kernel_rfl
end Go.Sp
end
