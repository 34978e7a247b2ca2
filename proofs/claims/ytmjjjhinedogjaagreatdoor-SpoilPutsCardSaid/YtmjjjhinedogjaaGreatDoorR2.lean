/-
  The reference's Put, by the kernel: kinds. Conditions: none.
-/
import Derived.Test.YtmjjjhinedogjaaGreatDoorC6
import Derived.Test.YtmjjjhinedogjaaGreatDoorProg
import Derived.KernelRfl
noncomputable section
namespace Go.Sp
open Go Go.Sx Go.Proofs
theorem qyn:ql spS (jE Tryz.prog) 3000 (zL 14)=kR 14:=by kernel_rfl
theorem qym:ql spS (jE Tryz.prog) 3000 (zL 15)=kR 15:=by kernel_rfl
theorem AA:qK spS (jE Tryz.prog) 3000 (zL 12) (eU.getD 0 .none)=(kR 12).qY (eU.getD 0 .none):=by kernel_rfl
end Go.Sp
end
