/-
  Calls inside the example of faults, carried out by the kernel. Conditions: none.
-/
import Derived.Test.YtmjjjhinedogjaaGreatDoorB3
import Derived.KernelRfl
namespace Go.Mg
open Go Go.Sx Go.Proofs
theorem qyy:(ql kM (wS Tryz.prog [st2]) 30000 st3).isOk=true:=by kernel_rfl
theorem qzv {I:Itp}:COk I Tryz.prog gls st3:=kg (qV I) (cx:=(wS Tryz.prog [st2])) (qx qzg wC) qyy
end Go.Mg
namespace Go.Mg
open Go Go.Sx Go.Proofs
theorem qyj:(ql kM (wS Tryz.prog [st5]) 30000 st6).isOk=true:=by kernel_rfl
theorem qzw {I:Itp}:COk I Tryz.prog gls st6:=kg (qV I) (cx:=(wS Tryz.prog [st5])) (qx qzy wC) qyj
theorem qyz:(ql kM (wS Tryz.prog [st6]) 30000 st7).isOk=true:=by kernel_rfl
theorem qzk {I:Itp}:COk I Tryz.prog gls st7:=kg (qV I) (cx:=(wS Tryz.prog [st6])) (qx qzw wC) qyz
theorem qzD:(ql kM (wS Tryz.prog [TD,TM]) 30000 Co).isOk=true:=by kernel_rfl
theorem O8 {I:Itp}:COk I Tryz.prog gls Co:=kg (qV I) (cx:=(wS Tryz.prog [TD,TM])) (qx qzz (qx qzJ wC)) qzD
end Go.Mg
namespace Go.Mg
open Go Go.Sx Go.Proofs
theorem qyw:(ql kM (wS Tryz.prog [st3]) 30000 st4).isOk=true:=by kernel_rfl
theorem qzx {I:Itp}:COk I Tryz.prog gls st4:=kg (qV I) (cx:=(wS Tryz.prog [st3])) (qx qzv wC) qyw
theorem qzB:(ql kM (wS Tryz.prog [st0,st1,st4,st7,Co]) 30000 Ci).isOk=true:=by kernel_rfl
theorem O7 {I:Itp}:COk I Tryz.prog gls Ci:=kg (qV I) (cx:=(wS Tryz.prog [st0,st1,st4,st7,Co])) (qx qzd (qx qzb (qx qzx (qx qzk (qx O8 wC))))) qzB
theorem qzG:(ql kM (wS Tryz.prog []) 30000 Cu).isOk=true:=by kernel_rfl
theorem O6 {I:Itp}:COk I Tryz.prog gls Cu:=kg (qV I) (cx:=(wS Tryz.prog [])) wC qzG
theorem Ej:(ql kM (wS Tryz.prog [Ci,Cu]) 30000 TN).isOk=true:=by kernel_rfl
theorem Lb {I:Itp}:COk I Tryz.prog gls TN:=kg (qV I) (cx:=(wS Tryz.prog [Ci,Cu])) (qx O7 (qx O6 wC)) Ej
end Go.Mg
