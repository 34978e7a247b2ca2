/-
  The contracts hold of the program: a step is read, in parts. Conditions: none.
-/
import Derived.Test.YtiehemggplndcaaGreatDoorC3
import Derived.Test.YtiehemggplndcaaGreatDoorProg
import Derived.Test.YtiehemggplndcaaGreatDoorA4
import Derived.KernelRfl
namespace Go.Tt
open Go Go.Sx Go.Mg Go.Proofs
variable {N : Nat}
theorem pStp9 : piece ttS (xStp Tryz.prog) 1000 cStp [false, false, true] = tStp.only [false, false, true] := by kernel_rfl
theorem pStp10 : piece ttS (xStp Tryz.prog) 1000 cStp [false, false, false, true] = tStp.only [false, false, false, true] := by kernel_rfl
theorem pStp11 : piece ttS (xStp Tryz.prog) 1000 cStp [false, false, false, false, true] = tStp.only [false, false, false, false, true] := by kernel_rfl
theorem pStp12 : piece ttS (xStp Tryz.prog) 1000 cStp [false, false, false, false, false, true] = tStp.only [false, false, false, false, false, true] := by kernel_rfl
theorem pStp13 : piece ttS (xStp Tryz.prog) 1000 cStp [false, false, false, false, false, false, true] = tStp.only [false, false, false, false, false, false, true] := by kernel_rfl
theorem pStp14 : piece ttS (xStp Tryz.prog) 1000 cStp [false, false, false, false, false, false, false, true] = tStp.only [false, false, false, false, false, false, false, true] := by kernel_rfl
theorem pStp15 : piece ttS (xStp Tryz.prog) 1000 cStp [false, false, false, false, false, false, false, false, true] = tStp.only [false, false, false, false, false, false, false, false, true] := by kernel_rfl
theorem pStp16 : piece ttS (xStp Tryz.prog) 1000 cStp [false, false, false, false, false, false, false, false, false] = tStp.only [false, false, false, false, false, false, false, false, false] := by kernel_rfl
end Go.Tt
