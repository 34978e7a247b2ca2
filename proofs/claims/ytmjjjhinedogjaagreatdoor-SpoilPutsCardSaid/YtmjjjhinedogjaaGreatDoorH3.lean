/-
  The walk over all places, by the kernel: parts. Conditions: none.
-/
import Derived.Test.YtmjjjhinedogjaaGreatDoorC5
import Derived.Test.YtmjjjhinedogjaaGreatDoorProg
import Derived.KernelRfl
noncomputable section
namespace Go.Sp
open Go Go.Sx Go.Proofs
theorem pC3:qK spS (jV Tryz.prog) 3000 kS (zI.getD 3 .none)=yY.qY (zI.getD 3 .none):=by kernel_rfl
theorem pC7:qK spS (jV Tryz.prog) 3000 kS (zI.getD 7 .none)=yY.qY (zI.getD 7 .none):=by kernel_rfl
theorem qwl:qK spS (jV Tryz.prog) 3000 kS (zI.getD 11 .none)=yY.qY (zI.getD 11 .none):=by kernel_rfl
theorem qwr:qK spS (jV Tryz.prog) 3000 kS (zI.getD 15 .none)=yY.qY (zI.getD 15 .none):=by kernel_rfl
theorem qwh:qK spS (jV Tryz.prog) 3000 kS (zI.getD 19 .none)=yY.qY (zI.getD 19 .none):=by kernel_rfl
theorem qwg:qK spS (jV Tryz.prog) 3000 kS (zI.getD 23 .none)=yY.qY (zI.getD 23 .none):=by kernel_rfl
theorem qww:qK spS (jV Tryz.prog) 3000 kS (zI.getD 27 .none)=yY.qY (zI.getD 27 .none):=by kernel_rfl
end Go.Sp
end
