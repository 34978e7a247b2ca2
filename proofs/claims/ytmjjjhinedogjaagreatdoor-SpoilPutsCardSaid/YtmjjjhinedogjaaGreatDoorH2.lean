/-
  The walk over all places, by the kernel: parts. Conditions: none.
-/
import Derived.Test.YtmjjjhinedogjaaGreatDoorC5
import Derived.Test.YtmjjjhinedogjaaGreatDoorProg
import Derived.KernelRfl
noncomputable section
namespace Go.Sp
open Go Go.Sx Go.Proofs
theorem pC2:qK spS (jV Tryz.prog) 3000 kS (zI.getD 2 .none)=yY.qY (zI.getD 2 .none):=by kernel_rfl
theorem pC6:qK spS (jV Tryz.prog) 3000 kS (zI.getD 6 .none)=yY.qY (zI.getD 6 .none):=by kernel_rfl
theorem qwu:qK spS (jV Tryz.prog) 3000 kS (zI.getD 10 .none)=yY.qY (zI.getD 10 .none):=by kernel_rfl
theorem qws:qK spS (jV Tryz.prog) 3000 kS (zI.getD 14 .none)=yY.qY (zI.getD 14 .none):=by kernel_rfl
theorem qwm:qK spS (jV Tryz.prog) 3000 kS (zI.getD 18 .none)=yY.qY (zI.getD 18 .none):=by kernel_rfl
theorem qwb:qK spS (jV Tryz.prog) 3000 kS (zI.getD 22 .none)=yY.qY (zI.getD 22 .none):=by kernel_rfl
theorem qwy:qK spS (jV Tryz.prog) 3000 kS (zI.getD 26 .none)=yY.qY (zI.getD 26 .none):=by kernel_rfl
theorem qwz:qK spS (jV Tryz.prog) 3000 kS (zI.getD 30 .none)=yY.qY (zI.getD 30 .none):=by kernel_rfl
end Go.Sp
end
