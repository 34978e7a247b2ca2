/-
  The contracts of the journal's functions hold of the program. Conditions: none.
-/
import Derived.Test.YtoeacadacnnoeaaGreatDoorMgJk1
import Derived.Test.YtoeacadacnnoeaaGreatDoorJnV1
import Derived.Test.YtoeacadacnnoeaaGreatDoorJnByte
namespace Go.Jn
open Go Go.Sx Go.Mg Go.Proofs

theorem kPut104 : tidied fsJ (xJ0 Tryz.prog) 300 (cPut 104) = tPut := by kernel_rfl
theorem okPut104 : COk JI Tryz.prog gls (cPut 104) := ok_of JI_tot (cx := xJ0 Tryz.prog) cs_nil kPut104 vPut
theorem kPut105 : tidied fsJ (xJ0 Tryz.prog) 300 (cPut 105) = tPut := by kernel_rfl
theorem okPut105 : COk JI Tryz.prog gls (cPut 105) := ok_of JI_tot (cx := xJ0 Tryz.prog) cs_nil kPut105 vPut
theorem kPut107 : tidied fsJ (xJ0 Tryz.prog) 300 (cPut 107) = tPut := by kernel_rfl
theorem okPut107 : COk JI Tryz.prog gls (cPut 107) := ok_of JI_tot (cx := xJ0 Tryz.prog) cs_nil kPut107 vPut
theorem kSeal : tidied fsJ (xJ0 Tryz.prog) 300 cSeal = tSeal := by kernel_rfl
theorem okSeal : COk JI Tryz.prog gls cSeal := ok_of JI_tot (cx := xJ0 Tryz.prog) cs_nil kSeal vSeal
theorem kHash : tidied fsJ (xJ0 Tryz.prog) 300 cHash = tHash := by kernel_rfl
theorem okHash : COk JI Tryz.prog gls cHash := ok_of JI_tot (cx := xJ0 Tryz.prog) cs_nil kHash vHash
theorem okPuts : ∀ c ∈ cPuts, COk JI Tryz.prog gls c := cs_cons okPut104 (cs_cons okPut105 (cs_cons okPut107 (cs_cons okSeal (cs_cons okHash cs_nil))))
theorem kHeader : tidied fsJ (xJ1 Tryz.prog) 300 cHeader = tHeader := by kernel_rfl
theorem okHeader : COk JI Tryz.prog gls cHeader := ok_of JI_tot (cx := xJ1 Tryz.prog) okPuts kHeader vHeader
theorem kAdd : tidied fsJ (xJ1 Tryz.prog) 300 cAdd = tAdd := by kernel_rfl
theorem okAdd : COk JI Tryz.prog gls cAdd := ok_of JI_tot (cx := xJ1 Tryz.prog) okPuts kAdd vAdd
theorem kEncode : tidied fsJ (xJ2 Tryz.prog) 300 cEncode = tEncode := by kernel_rfl
theorem okEncode : COk JI Tryz.prog gls cEncode := ok_of JI_tot (cx := xJ2 Tryz.prog) (cs_cons okHeader (cs_cons okHash (cs_cons okAdd cs_nil))) kEncode vEncode
theorem kSealed : tidied fsJ (xJ0 Tryz.prog) 300 cSealed = tSealed := by kernel_rfl
theorem okSealed : COk JI Tryz.prog gls cSealed := ok_of JI_tot (cx := xJ0 Tryz.prog) cs_nil kSealed vSealed
theorem kGet62 : tidied fsJ (xJ0 Tryz.prog) 300 (cGet 62) = tGet := by kernel_rfl
theorem okGet62 : COk JI Tryz.prog gls (cGet 62) := ok_of JI_tot (cx := xJ0 Tryz.prog) cs_nil kGet62 vGet
theorem kGet63 : tidied fsJ (xJ0 Tryz.prog) 300 (cGet 63) = tGet := by kernel_rfl
theorem okGet63 : COk JI Tryz.prog gls (cGet 63) := ok_of JI_tot (cx := xJ0 Tryz.prog) cs_nil kGet63 vGet
theorem kGet111 : tidied fsJ (xJ0 Tryz.prog) 300 (cGet 111) = tGet := by kernel_rfl
theorem okGet111 : COk JI Tryz.prog gls (cGet 111) := ok_of JI_tot (cx := xJ0 Tryz.prog) cs_nil kGet111 vGet
theorem okGets : ∀ c ∈ cGets, COk JI Tryz.prog gls c := cs_cons okHash (cs_cons okSealed (cs_cons okGet62 (cs_cons okGet63 (cs_cons okGet111 cs_nil))))
theorem kDecode : tidied fsJ (xJ3 Tryz.prog) 300 cDecode = tDecode := by kernel_rfl
theorem okDecode : COk JI Tryz.prog gls cDecode := ok_of JI_tot (cx := xJ3 Tryz.prog) okGets kDecode vDecode
theorem kDecodeBad : tidied fsJ (xJ3 Tryz.prog) 300 cDecodeBad = tDecodeBad := by kernel_rfl
theorem okDecodeBad : COk JI Tryz.prog gls cDecodeBad := ok_of JI_tot (cx := xJ3 Tryz.prog) okGets kDecodeBad vDecodeBad
theorem kSameL : tidied fsJ (xSameL Tryz.prog) 300 cSameL = tSameL := by kernel_rfl
theorem okSameL : COk JI Tryz.prog gls cSameL := ok_of JI_tot (cx := xSameL Tryz.prog) cs_nil kSameL vSameL
theorem kBytesH : tidied fsJ (xBytesH Tryz.prog) 300 cBytesH = tBytesH := by kernel_rfl
theorem okBytesH : COk JI Tryz.prog gls cBytesH := ok_of JI_tot (cx := xBytesH Tryz.prog) (cs_cons okShown27 (cs_cons okEncode (cs_cons okDecodeBad (cs_cons okSameL cs_nil)))) kBytesH vBytesH
theorem kBytesE : tidied fsJ (xBytesE Tryz.prog) 300 cBytesE = tBytesE := by kernel_rfl
theorem okBytesE : COk JI Tryz.prog gls cBytesE := ok_of JI_tot (cx := xBytesE Tryz.prog) (cs_cons okShown27 (cs_cons okEncode (cs_cons okDecode (cs_cons okSameL cs_nil)))) kBytesE vBytesE
end Go.Jn
