/-
  The contracts hold of the program: the reference's error of a step, in parts. Conditions: none.
-/
import Derived.Test.YtdelhnefoccnbaaGreatDoorC3
import Derived.Test.YtdelhnefoccnbaaGreatDoorProg
import Derived.Test.YtdelhnefoccnbaaGreatDoorA5
import Derived.KernelRfl
namespace Go.Tt
open Go Go.Sx Go.Mg Go.Proofs
variable {N : Nat}
theorem pStepR0 : piece ttS (xStepR Tryz.prog) 1000 cStepR [true] = tStepR.only [true] := by kernel_rfl
theorem pStepR1 : piece ttS (xStepR Tryz.prog) 1000 cStepR [false, true] = tStepR.only [false, true] := by kernel_rfl
theorem pStepR2 : piece ttS (xStepR Tryz.prog) 1000 cStepR [false, false, true] = tStepR.only [false, false, true] := by kernel_rfl
theorem pStepR3 : piece ttS (xStepR Tryz.prog) 1000 cStepR [false, false, false, true] = tStepR.only [false, false, false, true] := by kernel_rfl
theorem pStepR4 : piece ttS (xStepR Tryz.prog) 1000 cStepR [false, false, false, false, true, true] = tStepR.only [false, false, false, false, true, true] := by kernel_rfl
theorem pStepR5 : piece ttS (xStepR Tryz.prog) 1000 cStepR [false, false, false, false, true, false, true] = tStepR.only [false, false, false, false, true, false, true] := by kernel_rfl
theorem pStepR6 : piece ttS (xStepR Tryz.prog) 1000 cStepR [false, false, false, false, true, false, false] = tStepR.only [false, false, false, false, true, false, false] := by kernel_rfl
theorem pStepR7 : piece ttS (xStepR Tryz.prog) 1000 cStepR [false, false, false, false, false, true] = tStepR.only [false, false, false, false, false, true] := by kernel_rfl
theorem pStepR8 : piece ttS (xStepR Tryz.prog) 1000 cStepR [false, false, false, false, false, false] = tStepR.only [false, false, false, false, false, false] := by kernel_rfl
end Go.Tt
