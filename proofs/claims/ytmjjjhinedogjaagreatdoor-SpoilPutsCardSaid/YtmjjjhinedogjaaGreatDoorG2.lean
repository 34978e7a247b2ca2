/-
  Put's walk, by the kernel: parts. Conditions: none.
-/
import Derived.Test.YtmjjjhinedogjaaGreatDoorC3
import Derived.Test.YtmjjjhinedogjaaGreatDoorProg
import Derived.KernelRfl
noncomputable section
namespace Go.Sp
open Go Go.Sx Go.Proofs
theorem pA2:qK spS (jJ Tryz.prog) 3000 jk (zU.getD 2 .none)=jR.qY (zU.getD 2 .none):=by kernel_rfl
theorem pA6:qK spS (jJ Tryz.prog) 3000 jk (zU.getD 6 .none)=jR.qY (zU.getD 6 .none):=by kernel_rfl
theorem qwR:qK spS (jJ Tryz.prog) 3000 jk (zU.getD 10 .none)=jR.qY (zU.getD 10 .none):=by kernel_rfl
theorem qwH:qK spS (jJ Tryz.prog) 3000 jk (zU.getD 14 .none)=jR.qY (zU.getD 14 .none):=by kernel_rfl
theorem qwG:qK spS (jJ Tryz.prog) 3000 jk (zU.getD 18 .none)=jR.qY (zU.getD 18 .none):=by kernel_rfl
theorem qwW:qK spS (jJ Tryz.prog) 3000 jk (zU.getD 22 .none)=jR.qY (zU.getD 22 .none):=by kernel_rfl
theorem qwQ:qK spS (jJ Tryz.prog) 3000 jk (zU.getD 26 .none)=jR.qY (zU.getD 26 .none):=by kernel_rfl
theorem qwi:qK spS (jJ Tryz.prog) 3000 jk (zU.getD 30 .none)=jR.qY (zU.getD 30 .none):=by kernel_rfl
end Go.Sp
end
