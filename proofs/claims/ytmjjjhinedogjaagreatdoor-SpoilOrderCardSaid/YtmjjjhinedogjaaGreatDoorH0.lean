/-
  The walk over all places, by the kernel: parts. Conditions: none.
-/
import Derived.Test.YtmjjjhinedogjaaGreatDoorC5
import Derived.Test.YtmjjjhinedogjaaGreatDoorProg
import Derived.KernelRfl
noncomputable section
namespace Go.Sp
open Go Go.Sx Go.Proofs
theorem pC0:qK spS (jX Tryz.prog) 3000 kD (zU.getD 0 .none)=yh.qX (zU.getD 0 .none):=by kernel_rfl
theorem pC4:qK spS (jX Tryz.prog) 3000 kD (zU.getD 4 .none)=yh.qX (zU.getD 4 .none):=by kernel_rfl
theorem pC8:qK spS (jX Tryz.prog) 3000 kD (zU.getD 8 .none)=yh.qX (zU.getD 8 .none):=by kernel_rfl
theorem qjV:qK spS (jX Tryz.prog) 3000 kD (zU.getD 12 .none)=yh.qX (zU.getD 12 .none):=by kernel_rfl
theorem qjK:qK spS (jX Tryz.prog) 3000 kD (zU.getD 16 .none)=yh.qX (zU.getD 16 .none):=by kernel_rfl
theorem qje:qK spS (jX Tryz.prog) 3000 kD (zU.getD 20 .none)=yh.qX (zU.getD 20 .none):=by kernel_rfl
theorem qju:qK spS (jX Tryz.prog) 3000 kD (zU.getD 24 .none)=yh.qX (zU.getD 24 .none):=by kernel_rfl
theorem qjs:qK spS (jX Tryz.prog) 3000 kD (zU.getD 28 .none)=yh.qX (zU.getD 28 .none):=by kernel_rfl
end Go.Sp
end
