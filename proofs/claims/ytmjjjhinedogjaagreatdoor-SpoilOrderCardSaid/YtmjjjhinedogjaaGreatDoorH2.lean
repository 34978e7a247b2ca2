/-
  The walk over all places, by the kernel: parts. Conditions: none.
-/
import Derived.Test.YtmjjjhinedogjaaGreatDoorC5
import Derived.Test.YtmjjjhinedogjaaGreatDoorProg
import Derived.KernelRfl
noncomputable section
namespace Go.Sp
open Go Go.Sx Go.Proofs
theorem pC2:qK spS (jX Tryz.prog) 3000 kD (zU.getD 2 .none)=yh.qX (zU.getD 2 .none):=by kernel_rfl
theorem pC6:qK spS (jX Tryz.prog) 3000 kD (zU.getD 6 .none)=yh.qX (zU.getD 6 .none):=by kernel_rfl
theorem qjB:qK spS (jX Tryz.prog) 3000 kD (zU.getD 10 .none)=yh.qX (zU.getD 10 .none):=by kernel_rfl
theorem qjY:qK spS (jX Tryz.prog) 3000 kD (zU.getD 14 .none)=yh.qX (zU.getD 14 .none):=by kernel_rfl
theorem qjZ:qK spS (jX Tryz.prog) 3000 kD (zU.getD 18 .none)=yh.qX (zU.getD 18 .none):=by kernel_rfl
theorem qjo:qK spS (jX Tryz.prog) 3000 kD (zU.getD 22 .none)=yh.qX (zU.getD 22 .none):=by kernel_rfl
theorem qjc:qK spS (jX Tryz.prog) 3000 kD (zU.getD 26 .none)=yh.qX (zU.getD 26 .none):=by kernel_rfl
theorem qjp:qK spS (jX Tryz.prog) 3000 kD (zU.getD 30 .none)=yh.qX (zU.getD 30 .none):=by kernel_rfl
end Go.Sp
end
