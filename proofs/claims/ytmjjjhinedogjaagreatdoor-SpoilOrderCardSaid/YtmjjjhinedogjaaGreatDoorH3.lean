/-
  The walk over all places, by the kernel: parts. Conditions: none.
-/
import Derived.Test.YtmjjjhinedogjaaGreatDoorC5
import Derived.Test.YtmjjjhinedogjaaGreatDoorProg
import Derived.KernelRfl
noncomputable section
namespace Go.Sp
open Go Go.Sx Go.Proofs
theorem pC3:qK spS (jX Tryz.prog) 3000 kD (zU.getD 3 .none)=yh.qX (zU.getD 3 .none):=by kernel_rfl
theorem pC7:qK spS (jX Tryz.prog) 3000 kD (zU.getD 7 .none)=yh.qX (zU.getD 7 .none):=by kernel_rfl
theorem qjG:qK spS (jX Tryz.prog) 3000 kD (zU.getD 11 .none)=yh.qX (zU.getD 11 .none):=by kernel_rfl
theorem qjW:qK spS (jX Tryz.prog) 3000 kD (zU.getD 15 .none)=yh.qX (zU.getD 15 .none):=by kernel_rfl
theorem qjQ:qK spS (jX Tryz.prog) 3000 kD (zU.getD 19 .none)=yh.qX (zU.getD 19 .none):=by kernel_rfl
theorem qji:qK spS (jX Tryz.prog) 3000 kD (zU.getD 23 .none)=yh.qX (zU.getD 23 .none):=by kernel_rfl
theorem qjt:qK spS (jX Tryz.prog) 3000 kD (zU.getD 27 .none)=yh.qX (zU.getD 27 .none):=by kernel_rfl
end Go.Sp
end
