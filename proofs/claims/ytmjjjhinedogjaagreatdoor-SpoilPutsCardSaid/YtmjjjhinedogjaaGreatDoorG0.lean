/-
  Put's walk, by the kernel: parts. Conditions: none.
-/
import Derived.Test.YtmjjjhinedogjaaGreatDoorC3
import Derived.Test.YtmjjjhinedogjaaGreatDoorProg
import Derived.KernelRfl
noncomputable section
namespace Go.Sp
open Go Go.Sx Go.Proofs
theorem pA0:qK spS (jJ Tryz.prog) 3000 jk (zU.getD 0 .none)=jR.qY (zU.getD 0 .none):=by kernel_rfl
theorem pA4:qK spS (jJ Tryz.prog) 3000 jk (zU.getD 4 .none)=jR.qY (zU.getD 4 .none):=by kernel_rfl
theorem pA8:qK spS (jJ Tryz.prog) 3000 jk (zU.getD 8 .none)=jR.qY (zU.getD 8 .none):=by kernel_rfl
theorem qwN:qK spS (jJ Tryz.prog) 3000 jk (zU.getD 12 .none)=jR.qY (zU.getD 12 .none):=by kernel_rfl
theorem qwD:qK spS (jJ Tryz.prog) 3000 jk (zU.getD 16 .none)=jR.qY (zU.getD 16 .none):=by kernel_rfl
theorem qwX:qK spS (jJ Tryz.prog) 3000 jk (zU.getD 20 .none)=jR.qY (zU.getD 20 .none):=by kernel_rfl
theorem qwJ:qK spS (jJ Tryz.prog) 3000 jk (zU.getD 24 .none)=jR.qY (zU.getD 24 .none):=by kernel_rfl
theorem qwa:qK spS (jJ Tryz.prog) 3000 jk (zU.getD 28 .none)=jR.qY (zU.getD 28 .none):=by kernel_rfl
theorem pZ1:qK spS (Vk Tryz.prog) 3000 oO (WR.getD 1 .none)=Rk.qY (WR.getD 1 .none):=by kernel_rfl
end Go.Sp
end
