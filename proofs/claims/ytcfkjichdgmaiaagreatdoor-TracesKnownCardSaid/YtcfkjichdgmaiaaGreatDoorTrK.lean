/-
  Calls inside the example of traces, carried out by the kernel. Conditions: none.
-/
import Derived.Test.YtcfkjichdgmaiaaGreatDoorTrC
import Derived.Test.YtcfkjichdgmaiaaGreatDoorTrD
import Derived.Test.YtcfkjichdgmaiaaGreatDoorTrE
import Derived.Test.YtcfkjichdgmaiaaGreatDoorTrF
import Derived.KernelRfl
namespace Go.Mg
open Go Go.Sx Go.Proofs
theorem kSt24 : (tidied noFs (xPlus Tryz.prog [st1, st2, st6, st7, st11, st22, st23]) 30000 st24).isOk = true := by kernel_rfl
theorem okSt24 {I : Itp} : COk I Tryz.prog gls st24 := tidied_ok (tot_none I) (cx := (xPlus Tryz.prog [st1, st2, st6, st7, st11, st22, st23])) (cs_cons okSt1 (cs_cons okSt2 (cs_cons okSt6 (cs_cons okSt7 (cs_cons okSt11 (cs_cons okSt22 (cs_cons okSt23 okLoops))))))) kSt24
theorem kSt32 : (tidied noFs (xPlus Tryz.prog [st1, st2, st6, st27, st30, st31]) 30000 st32).isOk = true := by kernel_rfl
theorem okSt32 {I : Itp} : COk I Tryz.prog gls st32 := tidied_ok (tot_none I) (cx := (xPlus Tryz.prog [st1, st2, st6, st27, st30, st31])) (cs_cons okSt1 (cs_cons okSt2 (cs_cons okSt6 (cs_cons okSt27 (cs_cons okSt30 (cs_cons okSt31 okLoops)))))) kSt32
theorem kSt39 : (tidied noFs (xPlus Tryz.prog [st1, st2, st33, st37, st38]) 30000 st39).isOk = true := by kernel_rfl
theorem okSt39 {I : Itp} : COk I Tryz.prog gls st39 := tidied_ok (tot_none I) (cx := (xPlus Tryz.prog [st1, st2, st33, st37, st38])) (cs_cons okSt1 (cs_cons okSt2 (cs_cons okSt33 (cs_cons okSt37 (cs_cons okSt38 okLoops))))) kSt39
end Go.Mg
