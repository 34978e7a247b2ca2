/-
  The functions of places are as their contracts say: the walks, by the kernel. Conditions: none.
-/
import Derived.Test.YtmjjjhinedogjaaGreatDoorC2
import Derived.Test.YtmjjjhinedogjaaGreatDoorC1
import Derived.Test.YtmjjjhinedogjaaGreatDoorProg
import Derived.KernelRfl
noncomputable section
namespace Go.Sp
open Go Go.Sx Go.Proofs
theorem LB:ql spS (x0 Tryz.prog) 3000 fZ=Ya:=by kernel_rfl
theorem VR:COk JI Tryz.prog gl0 fZ:=qN zy (cx:=x0 Tryz.prog) qG LB Cg
theorem LD:ql spS (x0 Tryz.prog) 3000 fJ=Ye:=by kernel_rfl
theorem VL:COk JI Tryz.prog gl0 fJ:=qN zy (cx:=x0 Tryz.prog) qG LD Cb
theorem qyt:ql spS { x0 Tryz.prog with cs:=[fZ,fJ] } 3000 Bn=OB:=by kernel_rfl
theorem Sq:COk JI Tryz.prog gl0 Bn:=qN zy (cx:={ x0 Tryz.prog with cs:=[fZ,fJ] }) (qx VR (qx VL qG)) qyt qkT
theorem qyq:ql spS (x0 Tryz.prog) 3000 TF=OG:=by kernel_rfl
theorem qzj:COk JI Tryz.prog gl0 TF:=qN zy (cx:=x0 Tryz.prog) qG qyq qkV
theorem qzR:ql spS (x0 Tryz.prog) 3000 Bh=Ry:=by kernel_rfl
theorem Aw:COk JI Tryz.prog gl0 Bh:=qN zy (cx:=x0 Tryz.prog) qG qzR qqY
theorem kAr:ql spS (x0 Tryz.prog) 3000 cAr=tAr:=by kernel_rfl
theorem qw7:COk JI Tryz.prog gl0 cAr:=qN zy (cx:=x0 Tryz.prog) qG kAr vAr
end Go.Sp
end
