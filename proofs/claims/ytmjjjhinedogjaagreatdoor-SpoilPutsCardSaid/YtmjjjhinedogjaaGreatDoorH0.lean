/-
  The walk over all places, by the kernel: parts. Conditions: none.
-/
import Derived.Test.YtmjjjhinedogjaaGreatDoorC5
import Derived.Test.YtmjjjhinedogjaaGreatDoorProg
import Derived.KernelRfl
noncomputable section
namespace Go.Sp
open Go Go.Sx Go.Proofs
theorem pC0:qK spS (jV Tryz.prog) 3000 kS (zI.getD 0 .none)=yY.qY (zI.getD 0 .none):=by kernel_rfl
theorem pC4:qK spS (jV Tryz.prog) 3000 kS (zI.getD 4 .none)=yY.qY (zI.getD 4 .none):=by kernel_rfl
theorem pC8:qK spS (jV Tryz.prog) 3000 kS (zI.getD 8 .none)=yY.qY (zI.getD 8 .none):=by kernel_rfl
theorem qwc:qK spS (jV Tryz.prog) 3000 kS (zI.getD 12 .none)=yY.qY (zI.getD 12 .none):=by kernel_rfl
theorem qwp:qK spS (jV Tryz.prog) 3000 kS (zI.getD 16 .none)=yY.qY (zI.getD 16 .none):=by kernel_rfl
theorem qwf:qK spS (jV Tryz.prog) 3000 kS (zI.getD 20 .none)=yY.qY (zI.getD 20 .none):=by kernel_rfl
theorem qwv:qK spS (jV Tryz.prog) 3000 kS (zI.getD 24 .none)=yY.qY (zI.getD 24 .none):=by kernel_rfl
theorem qwk:qK spS (jV Tryz.prog) 3000 kS (zI.getD 28 .none)=yY.qY (zI.getD 28 .none):=by kernel_rfl
end Go.Sp
end
