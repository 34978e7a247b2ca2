/-
  The functions of places are as their contracts say: the walks, by the kernel. Conditions: none.
-/
import Derived.Test.YtmjjjhinedogjaaGreatDoorC2
import Derived.Test.YtmjjjhinedogjaaGreatDoorC1
import Derived.Test.YtmjjjhinedogjaaGreatDoorProg
import Derived.KernelRfl
noncomputable section
namespace Go.Sp
open Go Go.Sx Go.Proofs
theorem Ri:qo spS (x0 Tryz.prog) 3000 bX=Ki:=by kernel_rfl
theorem YA:COk JI Tryz.prog gl0 bX:=zi jY (cx:=x0 Tryz.prog) qM Ri Py
theorem Ro:qo spS (x0 Tryz.prog) 3000 bV=Ko:=by kernel_rfl
theorem YE:COk JI Tryz.prog gl0 bV:=zi jY (cx:=x0 Tryz.prog) qM Ro Px
theorem qqg:qo spS { x0 Tryz.prog with cs:=[bX,bV] } 3000 ND=Cj:=by kernel_rfl
theorem IB:COk JI Tryz.prog gl0 ND:=zi jY (cx:={ x0 Tryz.prog with cs:=[bX,bV] }) (qx YA (qx YE qM)) qqg Ej
theorem E8:qo spS (x0 Tryz.prog) 3000 NY=Cz:=by kernel_rfl
theorem Ie:COk JI Tryz.prog gl0 NY:=zi jY (cx:=x0 Tryz.prog) qM E8 A9
theorem Oz:qo spS (x0 Tryz.prog) 3000 X5=F9:=by kernel_rfl
theorem CX:COk JI Tryz.prog gl0 X5:=zi jY (cx:=x0 Tryz.prog) qM Oz UD
theorem kAr:qo spS (x0 Tryz.prog) 3000 cAr=tAr:=by kernel_rfl
theorem EA:COk JI Tryz.prog gl0 cAr:=zi jY (cx:=x0 Tryz.prog) qM kAr vAr
end Go.Sp
end
