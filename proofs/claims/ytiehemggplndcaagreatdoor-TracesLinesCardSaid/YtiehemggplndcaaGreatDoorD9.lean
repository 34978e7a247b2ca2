/-
  The contracts hold of the program: the reference reads a step, in parts. Conditions: none.
-/
import Derived.Test.YtiehemggplndcaaGreatDoorC4
import Derived.Test.YtiehemggplndcaaGreatDoorProg
import Derived.Test.YtiehemggplndcaaGreatDoorA4
import Derived.KernelRfl
namespace Go.Tt
open Go Go.Sx Go.Mg Go.Proofs
variable {N : Nat}
theorem pRaw0 : piece ttS (xRaw Tryz.prog) 1000 cRaw [true] = tRaw.only [true] := by kernel_rfl
theorem pRaw1 : piece ttS (xRaw Tryz.prog) 1000 cRaw [false, true] = tRaw.only [false, true] := by kernel_rfl
theorem pRaw2 : piece ttS (xRaw Tryz.prog) 1000 cRaw [false, false, true] = tRaw.only [false, false, true] := by kernel_rfl
theorem pRaw3 : piece ttS (xRaw Tryz.prog) 1000 cRaw [false, false, false, true] = tRaw.only [false, false, false, true] := by kernel_rfl
theorem pRaw4 : piece ttS (xRaw Tryz.prog) 1000 cRaw [false, false, false, false, true, true, true] = tRaw.only [false, false, false, false, true, true, true] := by kernel_rfl
theorem pRaw5 : piece ttS (xRaw Tryz.prog) 1000 cRaw [false, false, false, false, true, true, false] = tRaw.only [false, false, false, false, true, true, false] := by kernel_rfl
theorem pRaw6 : piece ttS (xRaw Tryz.prog) 1000 cRaw [false, false, false, false, true, false, true] = tRaw.only [false, false, false, false, true, false, true] := by kernel_rfl
theorem pRaw7 : piece ttS (xRaw Tryz.prog) 1000 cRaw [false, false, false, false, true, false, false] = tRaw.only [false, false, false, false, true, false, false] := by kernel_rfl
theorem pRaw8 : piece ttS (xRaw Tryz.prog) 1000 cRaw [false, false, false, false, false, true, true] = tRaw.only [false, false, false, false, false, true, true] := by kernel_rfl
theorem pRaw9 : piece ttS (xRaw Tryz.prog) 1000 cRaw [false, false, false, false, false, true, false] = tRaw.only [false, false, false, false, false, true, false] := by kernel_rfl
theorem pRaw10 : piece ttS (xRaw Tryz.prog) 1000 cRaw [false, false, false, false, false, false] = tRaw.only [false, false, false, false, false, false] := by kernel_rfl
end Go.Tt
