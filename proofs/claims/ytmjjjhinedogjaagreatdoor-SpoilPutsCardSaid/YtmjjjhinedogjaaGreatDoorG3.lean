/-
  Put's walk, by the kernel: parts. Conditions: none.
-/
import Derived.Test.YtmjjjhinedogjaaGreatDoorC3
import Derived.Test.YtmjjjhinedogjaaGreatDoorProg
import Derived.KernelRfl
noncomputable section
namespace Go.Sp
open Go Go.Sx Go.Proofs
theorem pA3:qK spS (jJ Tryz.prog) 3000 jk (zU.getD 3 .none)=jR.qY (zU.getD 3 .none):=by kernel_rfl
theorem pA7:qK spS (jJ Tryz.prog) 3000 jk (zU.getD 7 .none)=jR.qY (zU.getD 7 .none):=by kernel_rfl
theorem qwP:qK spS (jJ Tryz.prog) 3000 jk (zU.getD 11 .none)=jR.qY (zU.getD 11 .none):=by kernel_rfl
theorem qwF:qK spS (jJ Tryz.prog) 3000 jk (zU.getD 15 .none)=jR.qY (zU.getD 15 .none):=by kernel_rfl
theorem qwV:qK spS (jJ Tryz.prog) 3000 jk (zU.getD 19 .none)=jR.qY (zU.getD 19 .none):=by kernel_rfl
theorem qwK:qK spS (jJ Tryz.prog) 3000 jk (zU.getD 23 .none)=jR.qY (zU.getD 23 .none):=by kernel_rfl
theorem qwe:qK spS (jJ Tryz.prog) 3000 jk (zU.getD 27 .none)=jR.qY (zU.getD 27 .none):=by kernel_rfl
theorem pZ0:qK spS (Vk Tryz.prog) 3000 oO (WR.getD 0 .none)=Rk.qY (WR.getD 0 .none):=by kernel_rfl
end Go.Sp
end
