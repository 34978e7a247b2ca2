/-
  Copies of lists and lists of pairs' numbers are as their contracts say. Conditions: none.
-/
import Derived.Test.YtmjjjhinedogjaaGreatDoorC3
import Derived.Test.YtmjjjhinedogjaaGreatDoorC1
import Derived.Test.YtmjjjhinedogjaaGreatDoorProg
import Derived.KernelRfl
import Derived.Test.YtmjjjhinedogjaaGreatDoorK2
import Derived.Test.YtmjjjhinedogjaaGreatDoorC2
noncomputable section
namespace Go.Sp
open Go Go.Sx Go.Proofs
set_option maxRecDepth 100000
theorem iy {fn:Nat} {ks:List CK} (k:qo spS (x0 Tryz.prog) 3000 (xW fn ks)=tCl ks.length):COk JI Tryz.prog gl0 (zw fn ks):=
 XO (zi jY (cx:=x0 Tryz.prog) qM k vCl)
theorem c32:COk JI Tryz.prog gl0 (zw 32 [i64,i64,i64]):=iy (by kernel_rfl)
theorem c33:COk JI Tryz.prog gl0 (zw 33 [i64]):=iy (by kernel_rfl)
theorem c34:COk JI Tryz.prog gl0 (zw 34 BU):=iy (by kernel_rfl)
theorem c35:COk JI Tryz.prog gl0 (zw 35 YB):=iy (by kernel_rfl)
theorem c36:COk JI Tryz.prog gl0 (zw 36 kC):=iy (by kernel_rfl)
theorem c37:COk JI Tryz.prog gl0 (zw 37 Mi):=iy (by kernel_rfl)
theorem c38:COk JI Tryz.prog gl0 (zw 38 kC):=iy (by kernel_rfl)
theorem c39:COk JI Tryz.prog gl0 (zw 39 Qj):=iy (by kernel_rfl)
theorem c41:COk JI Tryz.prog gl0 (zw 41 [.bool]):=iy (by kernel_rfl)
theorem c42:COk JI Tryz.prog gl0 (zw 42 kC):=iy (by kernel_rfl)
theorem c43:COk JI Tryz.prog gl0 (zw 43 kC):=iy (by kernel_rfl)
theorem c44:COk JI Tryz.prog gl0 (zw 44 kC):=iy (by kernel_rfl)
theorem qzG:COk JI Tryz.prog gl0 (zw 40 kC):=iy (by kernel_rfl)
theorem c40:COk JI Tryz.prog gl0 (gB 40 [.int .i64,.int .i64]):=
 Yv (zi jY (cx:=x0 Tryz.prog) qM (show qo spS (x0 Tryz.prog) 3000 (yx 40 [.int .i64,.int .i64])=Cy by kernel_rfl) Eb)
theorem Y0:∀c∈clones,COk JI Tryz.prog gl0 c:=
 qx c32 (qx c33 (qx c34 (qx c35 (qx c36 (qx c37 (qx c38 (qx c39 (qx c41 (qx c42 (qx c43 (qx c44 (qx c40 (qx qzG qM)))))))))))))
theorem EL:COk JI Tryz.prog gl0 (xM 129 130 182 183 182 183):=nG (zi jY (cx:=fU Tryz.prog) qM (show qo spS (fU Tryz.prog) 3000 cPS=tPS by kernel_rfl) vPS)
theorem EI:COk JI Tryz.prog gl0 (xM 132 133 187 188 187 188):=nG (zi jY (cx:=fU Tryz.prog) qM (show qo spS (fU Tryz.prog) 3000 cPB=tPS by kernel_rfl) vPS)
theorem EU:COk JI Tryz.prog gl0 (xM 135 136 187 188 182 183):=nG (zi jY (cx:=fU Tryz.prog) qM (show qo spS (fU Tryz.prog) 3000 cPM=tPS by kernel_rfl) vPS)
theorem Bh:∀c∈VB,COk JI Tryz.prog gl0 c:=qx EL (qx EI (qx EU qM))
end Go.Sp
end
noncomputable section
namespace Go.Sp
open Go Go.Sx Go.Proofs
theorem qqb:qo spS (TK Tryz.prog) 3000 Gl=Ck:=by kernel_rfl
theorem IC:COk JI Tryz.prog gl0 Gl:=zi jY (cx:=TK Tryz.prog) (qx Ie (qx CX (qx EA qM))) qqb Ew
end Go.Sp
end
