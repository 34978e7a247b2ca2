/-
  The functions of places are as their contracts say: the walks, by the kernel. Conditions: none.
-/
import Derived.Test.YtmjjjhinedogjaaGreatDoorC2
import Derived.Test.YtmjjjhinedogjaaGreatDoorC1
import Derived.Test.YtmjjjhinedogjaaGreatDoorProg
import Derived.KernelRfl
noncomputable section
namespace Go.Sp
open Go Go.Sx Go.Proofs
theorem Cn:qZ spS (x0 Tryz.prog) 3000 dH=Yx:=by kernel_rfl
theorem Vl:COk JI Tryz.prog gl0 dH:=zY je (cx:=x0 Tryz.prog) qG Cn SA
theorem Cr:qZ spS (x0 Tryz.prog) 3000 dM=Yv:=by kernel_rfl
theorem Vu:COk JI Tryz.prog gl0 dM:=zY je (cx:=x0 Tryz.prog) qG Cr SE
theorem qkn:qZ spS { x0 Tryz.prog with cs:=[dH,dM] } 3000 Sn=U9:=by kernel_rfl
theorem EO:COk JI Tryz.prog gl0 Sn:=zY je (cx:={ x0 Tryz.prog with cs:=[dH,dM] }) (qg Vl (qg Vu qG)) qkn qjq
theorem qkw:qZ spS (x0 Tryz.prog) 3000 Sd=U8:=by kernel_rfl
theorem EB:COk JI Tryz.prog gl0 Sd:=zY je (cx:=x0 Tryz.prog) qG qkw qz7
theorem qqh:qZ spS (x0 Tryz.prog) 3000 GV=NA:=by kernel_rfl
theorem IW:COk JI Tryz.prog gl0 GV:=zY je (cx:=x0 Tryz.prog) qG qqh AZ
theorem kAr:qZ spS (x0 Tryz.prog) 3000 cAr=tAr:=by kernel_rfl
theorem qkj:COk JI Tryz.prog gl0 cAr:=zY je (cx:=x0 Tryz.prog) qG kAr vAr
end Go.Sp
end
