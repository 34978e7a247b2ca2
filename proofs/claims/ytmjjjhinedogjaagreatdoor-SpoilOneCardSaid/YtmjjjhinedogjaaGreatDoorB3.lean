/-
  Calls inside the example of faults, carried out by the kernel. Conditions: none.
-/
import Derived.Test.YtmjjjhinedogjaaGreatDoorB2
import Derived.Test.YtmjjjhinedogjaaGreatDoorB1
import Derived.KernelRfl
namespace Go.Mg
open Go Go.Sx Go.Proofs
theorem qqy:(qo jO (kS Tryz.prog []) 30000 st1).isOk=true:=by kernel_rfl
theorem IX {I:Itp}:COk I Tryz.prog gls st1:=jX (qJ I) (cx:=(kS Tryz.prog [])) kL qqy
theorem qqx:(qo jO (kS Tryz.prog []) 30000 st0).isOk=true:=by kernel_rfl
theorem IV {I:Itp}:COk I Tryz.prog gls st0:=jX (qJ I) (cx:=(kS Tryz.prog [])) kL qqx
theorem qqw:(qo jO (kS Tryz.prog []) 30000 st2).isOk=true:=by kernel_rfl
theorem IY {I:Itp}:COk I Tryz.prog gls st2:=jX (qJ I) (cx:=(kS Tryz.prog [])) kL qqw
end Go.Mg
namespace Go.Mg
open Go Go.Sx Go.Proofs
theorem qqz:(qo jO (kS Tryz.prog []) 30000 st5).isOk=true:=by kernel_rfl
theorem IJ {I:Itp}:COk I Tryz.prog gls st5:=jX (qJ I) (cx:=(kS Tryz.prog [])) kL qqz
variable {I:Itp}
theorem E5:qo jO (xSv Tryz.prog) 30000 NW=Cq:=by kernel_rfl
theorem Ia:COk I Tryz.prog gls NW:=zi (qJ I) (cx:=xSv Tryz.prog) kL E5 A8
theorem qqh:qo jO (xSv Tryz.prog) 30000 NH=Cv:=by kernel_rfl
theorem II:COk I Tryz.prog gls NH:=zi (qJ I) (cx:=xSv Tryz.prog) kL qqh Ed
end Go.Mg
