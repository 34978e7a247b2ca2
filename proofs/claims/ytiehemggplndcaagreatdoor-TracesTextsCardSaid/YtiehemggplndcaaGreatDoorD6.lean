/-
  The contracts hold of the program: a step is read, in parts. Conditions: none.
-/
import Derived.Test.YtiehemggplndcaaGreatDoorC3
import Derived.Test.YtiehemggplndcaaGreatDoorProg
import Derived.Test.YtiehemggplndcaaGreatDoorA4
import Derived.KernelRfl
namespace Go.Tt
open Go Go.Sx Go.Mg Go.Proofs
variable {N : Nat}
theorem pStp0 : piece ttS (xStp Tryz.prog) 1000 cStp [true] = tStp.only [true] := by kernel_rfl
theorem pStp1 : piece ttS (xStp Tryz.prog) 1000 cStp [false, true, true] = tStp.only [false, true, true] := by kernel_rfl
theorem pStp2 : piece ttS (xStp Tryz.prog) 1000 cStp [false, true, false, true] = tStp.only [false, true, false, true] := by kernel_rfl
theorem pStp3 : piece ttS (xStp Tryz.prog) 1000 cStp [false, true, false, false, true] = tStp.only [false, true, false, false, true] := by kernel_rfl
theorem pStp4 : piece ttS (xStp Tryz.prog) 1000 cStp [false, true, false, false, false, true] = tStp.only [false, true, false, false, false, true] := by kernel_rfl
theorem pStp5 : piece ttS (xStp Tryz.prog) 1000 cStp [false, true, false, false, false, false, true] = tStp.only [false, true, false, false, false, false, true] := by kernel_rfl
theorem pStp6 : piece ttS (xStp Tryz.prog) 1000 cStp [false, true, false, false, false, false, false, true] = tStp.only [false, true, false, false, false, false, false, true] := by kernel_rfl
theorem pStp7 : piece ttS (xStp Tryz.prog) 1000 cStp [false, true, false, false, false, false, false, false, true] = tStp.only [false, true, false, false, false, false, false, false, true] := by kernel_rfl
theorem pStp8 : piece ttS (xStp Tryz.prog) 1000 cStp [false, true, false, false, false, false, false, false, false] = tStp.only [false, true, false, false, false, false, false, false, false] := by kernel_rfl
end Go.Tt
