/-
  The reference's Put, by the kernel: kinds. Conditions: none.
-/
import Derived.Test.YtmjjjhinedogjaaGreatDoorC6
import Derived.Test.YtmjjjhinedogjaaGreatDoorProg
import Derived.KernelRfl
noncomputable section
namespace Go.Sp
open Go Go.Sx Go.Proofs
theorem qyd:ql spS (jE Tryz.prog) 3000 Bd=U1:=by kernel_rfl
theorem qyf:ql spS (jE Tryz.prog) 3000 Bf=U2:=by kernel_rfl
theorem kR1:ql spS (jE Tryz.prog) 3000 (zL 1)=kR 1:=by kernel_rfl
theorem kR2:ql spS (jE Tryz.prog) 3000 (zL 2)=kR 2:=by kernel_rfl
theorem kR4:ql spS (jE Tryz.prog) 3000 (zL 4)=kR 4:=by kernel_rfl
theorem kR5:ql spS (jE Tryz.prog) 3000 (zL 5)=kR 5:=by kernel_rfl
theorem kR6:ql spS (jE Tryz.prog) 3000 (zL 6)=kR 6:=by kernel_rfl
theorem kR7:ql spS (jE Tryz.prog) 3000 (zL 7)=kR 7:=by kernel_rfl
theorem kR8:ql spS (jE Tryz.prog) 3000 (zL 8)=kR 8:=by kernel_rfl
theorem qys:ql spS (jE Tryz.prog) 3000 (zL 10)=kR 10:=by kernel_rfl
theorem qyr:ql spS (jE Tryz.prog) 3000 (zL 11)=kR 11:=by kernel_rfl
theorem qyh:ql spS (jE Tryz.prog) 3000 (zL 16)=kR 16:=by kernel_rfl
end Go.Sp
end
