/-
  JournalCodes' contracts hold of the program. Conditions: none.
-/
import Derived.Test.YtoeacadacnnoeaaGreatDoorJnOk1
import Derived.Test.YtoeacadacnnoeaaGreatDoorJnV4
namespace Go.Jn
open Go Go.Sx Go.Mg Go.Proofs

theorem kRSum : tidied fsJ (xR0 Tryz.prog) 300 rSum = tRSum := by kernel_rfl
theorem okRSum : COk JI Tryz.prog gls rSum := ok_of JI_tot (cx := xR0 Tryz.prog) cs_nil kRSum vRSum
theorem kRNumber : tidied fsJ (xR0 Tryz.prog) 300 rNumber = tRNumber := by kernel_rfl
theorem okRNumber : COk JI Tryz.prog gls rNumber := ok_of JI_tot (cx := xR0 Tryz.prog) cs_nil kRNumber vRNumber
theorem kRSealed : tidied fsJ (xR1 Tryz.prog) 300 rSealed = tRSealed := by kernel_rfl
theorem okRSealed : COk JI Tryz.prog gls rSealed := ok_of JI_tot (cx := xR1 Tryz.prog) (cs_cons okRSum cs_nil) kRSealed vRSealed
theorem kRHeader : tidied fsJ (xR2 Tryz.prog) 300 rHeader = tRHeader := by kernel_rfl
theorem okRHeader : COk JI Tryz.prog gls rHeader := ok_of JI_tot (cx := xR2 Tryz.prog) (cs_cons okRNumber (cs_cons okRSealed cs_nil)) kRHeader vRHeader
theorem kRWith : tidied fsJ (xR2 Tryz.prog) 300 rWith = tRWith := by kernel_rfl
theorem okRWith : COk JI Tryz.prog gls rWith := ok_of JI_tot (cx := xR2 Tryz.prog) (cs_cons okRNumber (cs_cons okRSealed cs_nil)) kRWith vRWith
theorem okR3 : ∀ c ∈ [rHeader, rWith], COk JI Tryz.prog gls c := cs_cons okRHeader (cs_cons okRWith cs_nil)
theorem kREncode : tidied fsJ (xR3 Tryz.prog) 300 rEncode = tREncode := by kernel_rfl
theorem okREncode : COk JI Tryz.prog gls rEncode := ok_of JI_tot (cx := xR3 Tryz.prog) okR3 kREncode vREncode
theorem kLong18 : tidied fsJ (xJ2 Tryz.prog) 300 (cLong 18) = tLong18 := by kernel_rfl
theorem okLong18 : COk JI Tryz.prog gls (cLong 18) := ok_of JI_tot (cx := xJ2 Tryz.prog) (cs_cons okHeader (cs_cons okHash (cs_cons okAdd cs_nil))) kLong18 vLong18
theorem kLong19 : tidied fsJ (xR3 Tryz.prog) 300 (cLong 19) = tLong19 := by kernel_rfl
theorem okLong19 : COk JI Tryz.prog gls (cLong 19) := ok_of JI_tot (cx := xR3 Tryz.prog) okR3 kLong19 vLong19
theorem kCodesOk : tidied fsJ (xCodesOk Tryz.prog) 300 cCodesOk = tCodesOk := by kernel_rfl
theorem okCodesOk : COk JI Tryz.prog gls cCodesOk := ok_of JI_tot (cx := xCodesOk Tryz.prog) (cs_cons okShown27 (cs_cons okEncode (cs_cons okREncode (cs_cons okDecode (cs_cons okSameL cs_nil))))) kCodesOk vCodesOk
theorem kCodesLong : tidied fsJ (xCodesLong Tryz.prog) 300 cCodesLong = tCodesLong := by kernel_rfl
theorem okCodesLong : COk JI Tryz.prog gls cCodesLong := ok_of JI_tot (cx := xCodesLong Tryz.prog) (cs_cons okShown27 (cs_cons okLong18 (cs_cons okLong19 cs_nil))) kCodesLong vCodesLong
end Go.Jn
