/-
  The contracts hold of the program: steps that are read and written. Conditions: none.
-/
import Derived.Test.YtiehemggplndcaaGreatDoorD1
import Derived.Test.YtiehemggplndcaaGreatDoorC3
import Derived.Test.YtiehemggplndcaaGreatDoorA4
import Derived.Test.YtiehemggplndcaaGreatDoorB7
import Derived.KernelRfl
namespace Go.Tt
open Go Go.Sx Go.Mg Go.Proofs
variable {N : Nat}
theorem kDig : (tidied ttS (xDig Tryz.prog) 1000 cDig).isOk = true := by kernel_rfl
theorem okDig : COk (TI N) Tryz.prog gls cDig := tidied_ok TI_tot (cx := xDig Tryz.prog) (cs_cons okFormat cs_nil) kDig
theorem kInt : tidied ttS (xInt Tryz.prog) 1000 (cInt 69) = tInt := by kernel_rfl
theorem okInt : COk (TI N) Tryz.prog gls (cInt 69) := ok_of TI_tot (cx := xInt Tryz.prog) (cs_cons okTrim (cs_cons okPInt cs_nil)) kInt vInt
theorem kName : tidied ttS (xName Tryz.prog) 1000 (cName 76) = tName := by kernel_rfl
theorem okName : COk (TI N) Tryz.prog gls (cName 76) := ok_of TI_tot (cx := xName Tryz.prog) cs_nil kName vName
theorem kPrn : tidied ttS (xPrn Tryz.prog) 1000 cPrn = tPrn := by kernel_rfl
theorem okPrn : COk (TI N) Tryz.prog gls cPrn := ok_of TI_tot (cx := xPrn Tryz.prog) cs_nil kPrn vPrn
theorem kUnqP : tidied ttS (xUnqP Tryz.prog) 1000 cUnqP = tUnqP := by kernel_rfl
theorem okUnqP : COk (TI N) Tryz.prog gls cUnqP := ok_of TI_tot (cx := xUnqP Tryz.prog) (cs_cons okRep1 (cs_cons okRep2 (cs_cons okPrn cs_nil))) kUnqP vUnqP
theorem kRgt : tidied ttS (xRgt Tryz.prog) 1000 cRgt = tRgt := by kernel_rfl
theorem okRgt : COk (TI N) Tryz.prog gls cRgt := ok_of TI_tot (cx := xRgt Tryz.prog) (cs_cons okPrn (cs_cons okCont cs_nil)) kRgt vRgt
theorem kIxF : tidied ttS (xIxF Tryz.prog) 1000 cIxF = tIxF := by kernel_rfl
theorem okIxF : COk (TI N) Tryz.prog gls cIxF := ok_of TI_tot (cx := xIxF Tryz.prog) cs_nil kIxF vIxF
theorem kSplP : tidied ttS (xSplP Tryz.prog) 1000 (cSpl 68) = tSplP := by kernel_rfl
theorem okSplP : COk (TI N) Tryz.prog gls (cSpl 68) := ok_of TI_tot (cx := xSplP Tryz.prog) (cs_cons okIxF (cs_cons okHPre (cs_cons okUnqP (cs_cons okRgt cs_nil)))) kSplP vSplP
theorem kFld : tidied ttS (xFld Tryz.prog) 1000 cFld = tFld := by kernel_rfl
theorem okFld : COk (TI N) Tryz.prog gls cFld := ok_of TI_tot (cx := xFld Tryz.prog) cs_nil kFld vFld
theorem kNum : tidied ttS (xNum Tryz.prog) 1000 cNum = tNum := by kernel_rfl
theorem okNum : COk (TI N) Tryz.prog gls cNum := ok_of TI_tot (cx := xNum Tryz.prog) (cs_cons okFld (cs_cons okInt cs_nil)) kNum vNum
theorem kAny : tidied ttS (xAny Tryz.prog) 1000 (cAny 54 81) = tAny := by kernel_rfl
theorem okAny : COk (TI N) Tryz.prog gls (cAny 54 81) := ok_of TI_tot (cx := xAny Tryz.prog) cs_nil kAny vAny
theorem kBig : tidied ttS (xAny Tryz.prog) 1000 (cAny 55 82) = tBig := by kernel_rfl
theorem okBig : COk (TI N) Tryz.prog gls (cAny 55 82) := ok_of TI_tot (cx := xAny Tryz.prog) cs_nil kBig vBig
end Go.Tt
