/-
  The functions of places are as their contracts say: the walks, by the kernel. Conditions: none.
-/
import Derived.Test.YtmjjjhinedogjaaGreatDoorK3
import Derived.Test.YtmjjjhinedogjaaGreatDoorC2
import Derived.Test.YtmjjjhinedogjaaGreatDoorC1
import Derived.Test.YtmjjjhinedogjaaGreatDoorProg
import Derived.KernelRfl
import Derived.Test.YtmjjjhinedogjaaGreatDoorC4
noncomputable section
namespace Go.Sp
open Go Go.Sx Go.Proofs
theorem qqm:qo spS (TY Tryz.prog) 3000 zl=y7:=by kernel_rfl
theorem IE:COk JI Tryz.prog gl0 zl:=zi jY (cx:=TY Tryz.prog) (qx YA (qx YE (qx IB (qx IC qM)))) qqm vC
theorem Oq:qo spS { x0 Tryz.prog with mZ:=[Pq] } 3000 X4=F8:=by kernel_rfl
theorem CY:COk JI Tryz.prog gl0 X4:=zi jY (cx:={ x0 Tryz.prog with mZ:=[Pq] }) qM Oq UG
end Go.Sp
end
noncomputable section
namespace Go.Sp
open Go Go.Sx Go.Proofs
theorem qqd:qo spS (UW Tryz.prog) 3000 R9=Cw:=by kernel_rfl
theorem IL:COk JI Tryz.prog gl0 R9:=zi jY (cx:=UW Tryz.prog) qM qqd Ey
theorem Ls:qo spS (FM Tryz.prog) 3000 Yf=Vt:=by kernel_rfl
theorem P7:COk JI Tryz.prog gl0 Yf:=zi jY (cx:=FM Tryz.prog) qM Ls TF
end Go.Sp
end
noncomputable section
namespace Go.Sp
open Go Go.Sx Go.Proofs
theorem Oj:qo spS (FH Tryz.prog) 3000 aW=Hq:=by kernel_rfl
theorem Mt:COk JI Tryz.prog gl0 aW:=zi jY (cx:=FH Tryz.prog) (qx IE (qx CY qM)) Oj UF
theorem Lr:qo spS { x0 Tryz.prog with cs:=[aW] } 3000 Z0=Vs:=by kernel_rfl
theorem P6:COk JI Tryz.prog gl0 Z0:=zi jY (cx:={ x0 Tryz.prog with cs:=[aW] }) (qx Mt qM) Lr TD
end Go.Sp
end
