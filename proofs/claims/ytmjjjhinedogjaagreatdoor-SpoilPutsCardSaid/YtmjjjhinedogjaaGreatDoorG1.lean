/-
  Put's walk, by the kernel: parts. Conditions: none.
-/
import Derived.Test.YtmjjjhinedogjaaGreatDoorC3
import Derived.Test.YtmjjjhinedogjaaGreatDoorProg
import Derived.KernelRfl
noncomputable section
namespace Go.Sp
open Go Go.Sx Go.Proofs
theorem pA1:qK spS (jJ Tryz.prog) 3000 jk (zU.getD 1 .none)=jR.qY (zU.getD 1 .none):=by kernel_rfl
theorem pA5:qK spS (jJ Tryz.prog) 3000 jk (zU.getD 5 .none)=jR.qY (zU.getD 5 .none):=by kernel_rfl
theorem pA9:qK spS (jJ Tryz.prog) 3000 jk (zU.getD 9 .none)=jR.qY (zU.getD 9 .none):=by kernel_rfl
theorem qwM:qK spS (jJ Tryz.prog) 3000 jk (zU.getD 13 .none)=jR.qY (zU.getD 13 .none):=by kernel_rfl
theorem qwB:qK spS (jJ Tryz.prog) 3000 jk (zU.getD 17 .none)=jR.qY (zU.getD 17 .none):=by kernel_rfl
theorem qwY:qK spS (jJ Tryz.prog) 3000 jk (zU.getD 21 .none)=jR.qY (zU.getD 21 .none):=by kernel_rfl
theorem qwZ:qK spS (jJ Tryz.prog) 3000 jk (zU.getD 25 .none)=jR.qY (zU.getD 25 .none):=by kernel_rfl
theorem qwo:qK spS (jJ Tryz.prog) 3000 jk (zU.getD 29 .none)=jR.qY (zU.getD 29 .none):=by kernel_rfl
theorem qyu:ql spS (Om Tryz.prog) 3000 Pt=qqH:=by kernel_rfl
end Go.Sp
end
