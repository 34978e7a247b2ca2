/-
  Copies of lists and lists of pairs' numbers are as their contracts say. Conditions: none.
-/
import Derived.Test.YtmjjjhinedogjaaGreatDoorC3
import Derived.Test.YtmjjjhinedogjaaGreatDoorC1
import Derived.Test.YtmjjjhinedogjaaGreatDoorProg
import Derived.KernelRfl
import Derived.Test.YtmjjjhinedogjaaGreatDoorK2
import Derived.Test.YtmjjjhinedogjaaGreatDoorC2
noncomputable section
namespace Go.Sp
open Go Go.Sx Go.Proofs
set_option maxRecDepth 100000
theorem eB {fn:Nat} {ks:List CK} (k:ql spS (x0 Tryz.prog) 3000 (vX fn ks)=tCl ks.length):COk JI Tryz.prog gl0 (zZ fn ks):=
 Bz (qN zy (cx:=x0 Tryz.prog) qG k vCl)
theorem c32:COk JI Tryz.prog gl0 (zZ 32 [i64,i64,i64]):=eB (by kernel_rfl)
theorem c33:COk JI Tryz.prog gl0 (zZ 33 [i64]):=eB (by kernel_rfl)
theorem c34:COk JI Tryz.prog gl0 (zZ 34 MG):=eB (by kernel_rfl)
theorem c35:COk JI Tryz.prog gl0 (zZ 35 Vi):=eB (by kernel_rfl)
theorem c36:COk JI Tryz.prog gl0 (zZ 36 wT):=eB (by kernel_rfl)
theorem c37:COk JI Tryz.prog gl0 (zZ 37 Sy):=eB (by kernel_rfl)
theorem c38:COk JI Tryz.prog gl0 (zZ 38 wT):=eB (by kernel_rfl)
theorem c39:COk JI Tryz.prog gl0 (zZ 39 iY):=eB (by kernel_rfl)
theorem c41:COk JI Tryz.prog gl0 (zZ 41 [.bool]):=eB (by kernel_rfl)
theorem c42:COk JI Tryz.prog gl0 (zZ 42 wT):=eB (by kernel_rfl)
theorem c43:COk JI Tryz.prog gl0 (zZ 43 wT):=eB (by kernel_rfl)
theorem c44:COk JI Tryz.prog gl0 (zZ 44 wT):=eB (by kernel_rfl)
theorem qxL:COk JI Tryz.prog gl0 (zZ 40 wT):=eB (by kernel_rfl)
theorem c40:COk JI Tryz.prog gl0 (dZ 40 [.int .i64,.int .i64]):=
 XI (qN zy (cx:=x0 Tryz.prog) qG (show ql spS (x0 Tryz.prog) 3000 (yC 40 [.int .i64,.int .i64])=OM by kernel_rfl) qkO)
theorem VU:∀c∈clones,COk JI Tryz.prog gl0 c:=
 qx c32 (qx c33 (qx c34 (qx c35 (qx c36 (qx c37 (qx c38 (qx c39 (qx c41 (qx c42 (qx c43 (qx c44 (qx c40 (qx qxL qG)))))))))))))
theorem qw3:COk JI Tryz.prog gl0 (vS 129 130 182 183 182 183):=sZ (qN zy (cx:=xO Tryz.prog) qG (show ql spS (xO Tryz.prog) 3000 cPS=tPS by kernel_rfl) vPS)
theorem qw5:COk JI Tryz.prog gl0 (vS 132 133 187 188 187 188):=sZ (qN zy (cx:=xO Tryz.prog) qG (show ql spS (xO Tryz.prog) 3000 cPB=tPS by kernel_rfl) vPS)
theorem qw4:COk JI Tryz.prog gl0 (vS 135 136 187 188 182 183):=sZ (qN zy (cx:=xO Tryz.prog) qG (show ql spS (xO Tryz.prog) 3000 cPM=tPS by kernel_rfl) vPS)
theorem H6:∀c∈Dc,COk JI Tryz.prog gl0 c:=qx qw3 (qx qw5 (qx qw4 qG))
end Go.Sp
end
noncomputable section
namespace Go.Sp
open Go Go.Sx Go.Proofs
theorem qyc:ql spS (Oh Tryz.prog) 3000 Wj=OD:=by kernel_rfl
theorem Sz:COk JI Tryz.prog gl0 Wj:=qN zy (cx:=Oh Tryz.prog) (qx qzj (qx Aw (qx qw7 qG))) qyc qkC
end Go.Sp
end
