/-
  JournalReads' contracts hold of the program. Conditions: none.
-/
import Derived.Test.YtoeacadacnnoeaaGreatDoorJnOk3
import Derived.Test.YtoeacadacnnoeaaGreatDoorJnV6
namespace Go.Jn
open Go Go.Sx Go.Mg Go.Proofs

theorem kRRight : tidied fsJ (xR4 Tryz.prog) 300 rRight = tRRight := by kernel_rfl
theorem okRRight : COk JI Tryz.prog gls rRight := ok_of JI_tot (cx := xR4 Tryz.prog) (cs_cons okRSealed cs_nil) kRRight vRRight
theorem kRValue : tidied fsJ (xR4 Tryz.prog) 300 rValue = tRValue := by kernel_rfl
theorem okRValue : COk JI Tryz.prog gls rValue := ok_of JI_tot (cx := xR4 Tryz.prog) (cs_cons okRSealed cs_nil) kRValue vRValue
theorem okR5 : ∀ c ∈ [rRight, rValue], COk JI Tryz.prog gls c := cs_cons okRRight (cs_cons okRValue cs_nil)
theorem kRDecode : tidied fsJ (xR5 Tryz.prog) 300 rDecode = tRDecode := by kernel_rfl
theorem okRDecode : COk JI Tryz.prog gls rDecode := ok_of JI_tot (cx := xR5 Tryz.prog) okR5 kRDecode vRDecode
theorem kRDecodeBad : tidied fsJ (xR5 Tryz.prog) 300 rDecodeBad = tRDecodeBad := by kernel_rfl
theorem okRDecodeBad : COk JI Tryz.prog gls rDecodeBad := ok_of JI_tot (cx := xR5 Tryz.prog) okR5 kRDecodeBad vRDecodeBad
theorem kDecLong21 : tidied fsJ (xJ3 Tryz.prog) 300 (cDecLong 21) = tDecLong21 := by kernel_rfl
theorem okDecLong21 : COk JI Tryz.prog gls (cDecLong 21) := ok_of JI_tot (cx := xJ3 Tryz.prog) okGets kDecLong21 vDecLong21
theorem kDecLong24 : tidied fsJ (xR5 Tryz.prog) 300 (cDecLong 24) = tDecLong24 := by kernel_rfl
theorem okDecLong24 : COk JI Tryz.prog gls (cDecLong 24) := ok_of JI_tot (cx := xR5 Tryz.prog) okR5 kDecLong24 vDecLong24
theorem okTail : ∀ c ∈ [cSameL, cHash, cAdd, rWith, cEncode], COk JI Tryz.prog gls c := cs_cons okSameL (cs_cons okHash (cs_cons okAdd (cs_cons okRWith (cs_cons okEncode cs_nil))))
theorem kReadsL : tidied fsJ (xReadsL Tryz.prog) 300 cReadsL = tReadsL := by kernel_rfl
theorem okReadsL : COk JI Tryz.prog gls cReadsL := ok_of JI_tot (cx := xReadsL Tryz.prog) (cs_cons okShown27 (cs_cons okDecLong21 (cs_cons okDecLong24 okTail))) kReadsL vReadsL
theorem kReadsB : tidied fsJ (xReadsB Tryz.prog) 300 cReadsB = tReadsB := by kernel_rfl
theorem okReadsB : COk JI Tryz.prog gls cReadsB := ok_of JI_tot (cx := xReadsB Tryz.prog) (cs_cons okShown27 (cs_cons okDecodeBad (cs_cons okRDecodeBad okTail))) kReadsB vReadsB
theorem kReadsE : tidied fsJ (xReadsE Tryz.prog) 300 cReadsE = tReadsE := by kernel_rfl
theorem okReadsE : COk JI Tryz.prog gls cReadsE := ok_of JI_tot (cx := xReadsE Tryz.prog) (cs_cons okShown27 (cs_cons okDecode (cs_cons okRDecode okTail))) kReadsE vReadsE
end Go.Jn
