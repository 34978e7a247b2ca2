/-
  The reference's Put, by the kernel: kinds. Conditions: none.
-/
import Derived.Test.YtmjjjhinedogjaaGreatDoorC6
import Derived.Test.YtmjjjhinedogjaaGreatDoorProg
import Derived.KernelRfl
noncomputable section
namespace Go.Sp
open Go Go.Sx Go.Proofs
theorem AO:qK spS (jE Tryz.prog) 3000 (zL 12) (eU.getD 1 .none)=(kR 12).qY (eU.getD 1 .none):=by kernel_rfl
theorem AU:qK spS (jE Tryz.prog) 3000 (zL 12) (eU.getD 2 .none)=(kR 12).qY (eU.getD 2 .none):=by kernel_rfl
theorem AL:qK spS (jE Tryz.prog) 3000 (zL 12) (eU.getD 3 .none)=(kR 12).qY (eU.getD 3 .none):=by kernel_rfl
theorem AP:qK spS (jE Tryz.prog) 3000 (zL 12) (eU.getD 4 .none)=(kR 12).qY (eU.getD 4 .none):=by kernel_rfl
end Go.Sp
end
