/-
  The walk over all places, by the kernel: parts. Conditions: none.
-/
import Derived.Test.YtmjjjhinedogjaaGreatDoorC5
import Derived.Test.YtmjjjhinedogjaaGreatDoorProg
import Derived.KernelRfl
noncomputable section
namespace Go.Sp
open Go Go.Sx Go.Proofs
theorem pC1:qK spS (jX Tryz.prog) 3000 kD (zU.getD 1 .none)=yh.qX (zU.getD 1 .none):=by kernel_rfl
theorem pC5:qK spS (jX Tryz.prog) 3000 kD (zU.getD 5 .none)=yh.qX (zU.getD 5 .none):=by kernel_rfl
theorem pC9:qK spS (jX Tryz.prog) 3000 kD (zU.getD 9 .none)=yh.qX (zU.getD 9 .none):=by kernel_rfl
theorem qjX:qK spS (jX Tryz.prog) 3000 kD (zU.getD 13 .none)=yh.qX (zU.getD 13 .none):=by kernel_rfl
theorem qjJ:qK spS (jX Tryz.prog) 3000 kD (zU.getD 17 .none)=yh.qX (zU.getD 17 .none):=by kernel_rfl
theorem qja:qK spS (jX Tryz.prog) 3000 kD (zU.getD 21 .none)=yh.qX (zU.getD 21 .none):=by kernel_rfl
theorem qjl:qK spS (jX Tryz.prog) 3000 kD (zU.getD 25 .none)=yh.qX (zU.getD 25 .none):=by kernel_rfl
theorem qjr:qK spS (jX Tryz.prog) 3000 kD (zU.getD 29 .none)=yh.qX (zU.getD 29 .none):=by kernel_rfl
end Go.Sp
end
