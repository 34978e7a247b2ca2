/-
  The functions of places are as their contracts say: the walks, by the kernel. Conditions: none.
-/
import Derived.Test.YtmjjjhinedogjaaGreatDoorK3
import Derived.Test.YtmjjjhinedogjaaGreatDoorC2
import Derived.Test.YtmjjjhinedogjaaGreatDoorC1
import Derived.Test.YtmjjjhinedogjaaGreatDoorProg
import Derived.KernelRfl
import Derived.Test.YtmjjjhinedogjaaGreatDoorC4
noncomputable section
namespace Go.Sp
open Go Go.Sx Go.Proofs
theorem qyo:ql spS (Ot Tryz.prog) 3000 zD=vk:=by kernel_rfl
theorem qzK:COk JI Tryz.prog gl0 zD:=qN zy (cx:=Ot Tryz.prog) (qx VR (qx VL (qx Sq (qx Sz qG)))) qyo bD
theorem qzP:ql spS { x0 Tryz.prog with dJ:=[Bu] } 3000 KN=Rw:=by kernel_rfl
theorem Ak:COk JI Tryz.prog gl0 KN:=qN zy (cx:={ x0 Tryz.prog with dJ:=[Bu] }) qG qzP UL
end Go.Sp
end
noncomputable section
namespace Go.Sp
open Go Go.Sx Go.Proofs
theorem qyl:ql spS (qqt Tryz.prog) 3000 Ue=OH:=by kernel_rfl
theorem qze:COk JI Tryz.prog gl0 Ue:=qN zy (cx:=qqt Tryz.prog) qG qyl qkL
theorem Ez:ql spS (PX Tryz.prog) 3000 KR=BA:=by kernel_rfl
theorem Lg:COk JI Tryz.prog gl0 KR:=qN zy (cx:=PX Tryz.prog) qG Ez Oo
end Go.Sp
end
noncomputable section
namespace Go.Sp
open Go Go.Sx Go.Proofs
theorem qzS:ql spS (PY Tryz.prog) 3000 o7=Rx:=by kernel_rfl
theorem Sj:COk JI Tryz.prog gl0 o7:=qN zy (cx:=PY Tryz.prog) (qx qzK (qx Ak qG)) qzS qqX
theorem A9:ql spS { x0 Tryz.prog with cs:=[o7] } 3000 KP=BI:=by kernel_rfl
theorem Lv:COk JI Tryz.prog gl0 KP:=qN zy (cx:={ x0 Tryz.prog with cs:=[o7] }) (qx Sj qG) A9 Oi
end Go.Sp
end
