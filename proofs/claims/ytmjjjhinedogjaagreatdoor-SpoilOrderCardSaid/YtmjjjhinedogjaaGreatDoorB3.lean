/-
  Calls inside the example of faults, carried out by the kernel. Conditions: none.
-/
import Derived.Test.YtmjjjhinedogjaaGreatDoorB2
import Derived.Test.YtmjjjhinedogjaaGreatDoorB1
import Derived.KernelRfl
namespace Go.Mg
open Go Go.Sx Go.Proofs
theorem qkf:(qZ kX (wV Tryz.prog []) 30000 st1).isOk=true:=by kernel_rfl
theorem ER {I:Itp}:COk I Tryz.prog gls st1:=jI (qY I) (cx:=(wV Tryz.prog [])) wB qkf
theorem qkh:(qZ kX (wV Tryz.prog []) 30000 st0).isOk=true:=by kernel_rfl
theorem ES {I:Itp}:COk I Tryz.prog gls st0:=jI (qY I) (cx:=(wV Tryz.prog [])) wB qkh
theorem qkd:(qZ kX (wV Tryz.prog []) 30000 st2).isOk=true:=by kernel_rfl
theorem EP {I:Itp}:COk I Tryz.prog gls st2:=jI (qY I) (cx:=(wV Tryz.prog [])) wB qkd
end Go.Mg
namespace Go.Mg
open Go Go.Sx Go.Proofs
theorem qkv:(qZ kX (wV Tryz.prog []) 30000 st5).isOk=true:=by kernel_rfl
theorem EH {I:Itp}:COk I Tryz.prog gls st5:=jI (qY I) (cx:=(wV Tryz.prog [])) wB qkv
variable {I:Itp}
theorem qkk:qZ kX (xSv Tryz.prog) 30000 Sb=U7:=by kernel_rfl
theorem EG:COk I Tryz.prog gls Sb:=zY (qY I) (cx:=xSv Tryz.prog) wB qkk qz6
theorem qkt:qZ kX (xSv Tryz.prog) 30000 Sc=Ik:=by kernel_rfl
theorem qqq:COk I Tryz.prog gls Sc:=zY (qY I) (cx:=xSv Tryz.prog) wB qkt qjx
end Go.Mg
