/-
  The functions of places are as their contracts say: the walks, by the kernel. Conditions: none.
-/
import Derived.Test.YtmjjjhinedogjaaGreatDoorK3
import Derived.Test.YtmjjjhinedogjaaGreatDoorC2
import Derived.Test.YtmjjjhinedogjaaGreatDoorC1
import Derived.Test.YtmjjjhinedogjaaGreatDoorProg
import Derived.KernelRfl
import Derived.Test.YtmjjjhinedogjaaGreatDoorC4
noncomputable section
namespace Go.Sp
open Go Go.Sx Go.Proofs
theorem qkc:qZ spS (UR Tryz.prog) 3000 zG=xR:=by kernel_rfl
theorem qqz:COk JI Tryz.prog gl0 zG:=zY je (cx:=UR Tryz.prog) (qg Vl (qg Vu (qg EO (qg EA qG)))) qkc bq
theorem qqf:qZ spS { x0 Tryz.prog with bO:=[Mf] } 3000 WC=NI:=by kernel_rfl
theorem IK:COk JI Tryz.prog gl0 WC:=zY je (cx:={ x0 Tryz.prog with bO:=[Mf] }) qG qqf LJ
end Go.Sp
end
noncomputable section
namespace Go.Sp
open Go Go.Sx Go.Proofs
theorem qkr:qZ spS (Aa Tryz.prog) 3000 Lm=Iz:=by kernel_rfl
theorem E5:COk JI Tryz.prog gl0 Lm:=zY je (cx:=Aa Tryz.prog) qG qkr qjj
end Go.Sp
end
noncomputable section
namespace Go.Sp
open Go Go.Sx Go.Proofs
theorem qqm:qZ spS (NQ Tryz.prog) 3000 QG=N8:=by kernel_rfl
theorem IY:COk JI Tryz.prog gl0 QG:=zY je (cx:=NQ Tryz.prog) (qg qqz (qg IK qG)) qqm AJ
theorem Ob:qZ spS { x0 Tryz.prog with cs:=[QG] } 3000 Kt=Bn:=by kernel_rfl
theorem TF:COk JI Tryz.prog gl0 Kt:=zY je (cx:={ x0 Tryz.prog with cs:=[QG] }) (qg IY qG) Ob UO
end Go.Sp
end
