/-
  Copies of lists and lists of pairs' numbers are as their contracts say. Conditions: none.
-/
import Derived.Test.YtmjjjhinedogjaaGreatDoorC3
import Derived.Test.YtmjjjhinedogjaaGreatDoorC1
import Derived.Test.YtmjjjhinedogjaaGreatDoorProg
import Derived.KernelRfl
import Derived.Test.YtmjjjhinedogjaaGreatDoorK2
import Derived.Test.YtmjjjhinedogjaaGreatDoorC2
noncomputable section
namespace Go.Sp
open Go Go.Sx Go.Proofs
set_option maxRecDepth 100000
theorem au {fn:Nat} {ks:List CK} (k:qZ spS (x0 Tryz.prog) 3000 (vo fn ks)=tCl ks.length):COk JI Tryz.prog gl0 (ze fn ks):=
 GZ (zY je (cx:=x0 Tryz.prog) qG k vCl)
theorem c32:COk JI Tryz.prog gl0 (ze 32 [i64,i64,i64]):=au (by kernel_rfl)
theorem c33:COk JI Tryz.prog gl0 (ze 33 [i64]):=au (by kernel_rfl)
theorem c34:COk JI Tryz.prog gl0 (ze 34 H6):=au (by kernel_rfl)
theorem c35:COk JI Tryz.prog gl0 (ze 35 Vw):=au (by kernel_rfl)
theorem c36:COk JI Tryz.prog gl0 (ze 36 wG):=au (by kernel_rfl)
theorem c37:COk JI Tryz.prog gl0 (ze 37 Rz):=au (by kernel_rfl)
theorem c38:COk JI Tryz.prog gl0 (ze 38 wG):=au (by kernel_rfl)
theorem c39:COk JI Tryz.prog gl0 (ze 39 Zr):=au (by kernel_rfl)
theorem c41:COk JI Tryz.prog gl0 (ze 41 [.bool]):=au (by kernel_rfl)
theorem c42:COk JI Tryz.prog gl0 (ze 42 wG):=au (by kernel_rfl)
theorem c43:COk JI Tryz.prog gl0 (ze 43 wG):=au (by kernel_rfl)
theorem c44:COk JI Tryz.prog gl0 (ze 44 wG):=au (by kernel_rfl)
theorem qwP:COk JI Tryz.prog gl0 (ze 40 wG):=au (by kernel_rfl)
theorem c40:COk JI Tryz.prog gl0 (bT 40 [.int .i64,.int .i64]):=
 XG (zY je (cx:=x0 Tryz.prog) qG (show qZ spS (x0 Tryz.prog) 3000 (yH 40 [.int .i64,.int .i64])=Ij by kernel_rfl) qjy)
theorem Vi:∀c∈clones,COk JI Tryz.prog gl0 c:=
 qg c32 (qg c33 (qg c34 (qg c35 (qg c36 (qg c37 (qg c38 (qg c39 (qg c41 (qg c42 (qg c43 (qg c44 (qg c40 (qg qwP qG)))))))))))))
theorem qj8:COk JI Tryz.prog gl0 (vG 129 130 182 183 182 183):=rG (zY je (cx:=xH Tryz.prog) qG (show qZ spS (xH Tryz.prog) 3000 cPS=tPS by kernel_rfl) vPS)
theorem qkq:COk JI Tryz.prog gl0 (vG 132 133 187 188 187 188):=rG (zY je (cx:=xH Tryz.prog) qG (show qZ spS (xH Tryz.prog) 3000 cPB=tPS by kernel_rfl) vPS)
theorem qj9:COk JI Tryz.prog gl0 (vG 135 136 187 188 182 183):=rG (zY je (cx:=xH Tryz.prog) qG (show qZ spS (xH Tryz.prog) 3000 cPM=tPS by kernel_rfl) vPS)
theorem FT:∀c∈BG,COk JI Tryz.prog gl0 c:=qg qj8 (qg qkq (qg qj9 qG))
end Go.Sp
end
noncomputable section
namespace Go.Sp
open Go Go.Sx Go.Proofs
theorem qkp:qZ spS (UM Tryz.prog) 3000 DR=Iq:=by kernel_rfl
theorem EA:COk JI Tryz.prog gl0 DR:=zY je (cx:=UM Tryz.prog) (qg EB (qg IW (qg qkj qG))) qkp qjz
end Go.Sp
end
