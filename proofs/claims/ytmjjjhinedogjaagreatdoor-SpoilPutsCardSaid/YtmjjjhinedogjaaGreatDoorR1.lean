/-
  The reference's Put, by the kernel: kinds. Conditions: none.
-/
import Derived.Test.YtmjjjhinedogjaaGreatDoorC6
import Derived.Test.YtmjjjhinedogjaaGreatDoorProg
import Derived.KernelRfl
noncomputable section
namespace Go.Sp
open Go Go.Sx Go.Proofs
theorem qzM:qK spS (jE Tryz.prog) 3000 (zL 3) (mR3.getD 0 .none)=(kR 3).qY (mR3.getD 0 .none):=by kernel_rfl
theorem qzH:qK spS (jE Tryz.prog) 3000 (zL 3) (mR3.getD 1 .none)=(kR 3).qY (mR3.getD 1 .none):=by kernel_rfl
theorem kR9:ql spS (qqs Tryz.prog) 3000 (zL 9)=kR 9:=by kernel_rfl
theorem qyp:ql spS (jE Tryz.prog) 3000 (zL 13)=kR 13:=by kernel_rfl
end Go.Sp
end
