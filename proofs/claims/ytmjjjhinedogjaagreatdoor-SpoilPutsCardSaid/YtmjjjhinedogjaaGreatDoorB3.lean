/-
  Calls inside the example of faults, carried out by the kernel. Conditions: none.
-/
import Derived.Test.YtmjjjhinedogjaaGreatDoorB2
import Derived.Test.YtmjjjhinedogjaaGreatDoorB1
import Derived.KernelRfl
namespace Go.Mg
open Go Go.Sx Go.Proofs
theorem qyv:(ql kM (wS Tryz.prog []) 30000 st1).isOk=true:=by kernel_rfl
theorem qzb {I:Itp}:COk I Tryz.prog gls st1:=kg (qV I) (cx:=(wS Tryz.prog [])) wC qyv
theorem qyg:(ql kM (wS Tryz.prog []) 30000 st0).isOk=true:=by kernel_rfl
theorem qzd {I:Itp}:COk I Tryz.prog gls st0:=kg (qV I) (cx:=(wS Tryz.prog [])) wC qyg
theorem qyx:(ql kM (wS Tryz.prog []) 30000 st2).isOk=true:=by kernel_rfl
theorem qzg {I:Itp}:COk I Tryz.prog gls st2:=kg (qV I) (cx:=(wS Tryz.prog [])) wC qyx
end Go.Mg
namespace Go.Mg
open Go Go.Sx Go.Proofs
theorem qyk:(ql kM (wS Tryz.prog []) 30000 st5).isOk=true:=by kernel_rfl
theorem qzy {I:Itp}:COk I Tryz.prog gls st5:=kg (qV I) (cx:=(wS Tryz.prog [])) wC qyk
variable {I:Itp}
theorem qw9:ql kM (xSv Tryz.prog) 30000 TD=OV:=by kernel_rfl
theorem qzz:COk I Tryz.prog gls TD:=qN (qV I) (cx:=xSv Tryz.prog) wC qw9 qkX
theorem qyi:ql kM (xSv Tryz.prog) 30000 TM=OP:=by kernel_rfl
theorem qzJ:COk I Tryz.prog gls TM:=qN (qV I) (cx:=xSv Tryz.prog) wC qyi qkA
end Go.Mg
