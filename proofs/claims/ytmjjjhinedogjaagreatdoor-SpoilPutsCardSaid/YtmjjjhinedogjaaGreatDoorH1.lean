/-
  The walk over all places, by the kernel: parts. Conditions: none.
-/
import Derived.Test.YtmjjjhinedogjaaGreatDoorC5
import Derived.Test.YtmjjjhinedogjaaGreatDoorProg
import Derived.KernelRfl
noncomputable section
namespace Go.Sp
open Go Go.Sx Go.Proofs
theorem pC1:qK spS (jV Tryz.prog) 3000 kS (zI.getD 1 .none)=yY.qY (zI.getD 1 .none):=by kernel_rfl
theorem pC5:qK spS (jV Tryz.prog) 3000 kS (zI.getD 5 .none)=yY.qY (zI.getD 5 .none):=by kernel_rfl
theorem pC9:qK spS (jV Tryz.prog) 3000 kS (zI.getD 9 .none)=yY.qY (zI.getD 9 .none):=by kernel_rfl
theorem qwt:qK spS (jV Tryz.prog) 3000 kS (zI.getD 13 .none)=yY.qY (zI.getD 13 .none):=by kernel_rfl
theorem qwn:qK spS (jV Tryz.prog) 3000 kS (zI.getD 17 .none)=yY.qY (zI.getD 17 .none):=by kernel_rfl
theorem qwd:qK spS (jV Tryz.prog) 3000 kS (zI.getD 21 .none)=yY.qY (zI.getD 21 .none):=by kernel_rfl
theorem qwx:qK spS (jV Tryz.prog) 3000 kS (zI.getD 25 .none)=yY.qY (zI.getD 25 .none):=by kernel_rfl
theorem qwj:qK spS (jV Tryz.prog) 3000 kS (zI.getD 29 .none)=yY.qY (zI.getD 29 .none):=by kernel_rfl
end Go.Sp
end
