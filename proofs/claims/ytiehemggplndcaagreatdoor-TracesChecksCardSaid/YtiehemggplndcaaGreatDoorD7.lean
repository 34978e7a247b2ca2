/-
  The contracts hold of the program: a step is read, in parts. Conditions: none.
-/
import Derived.Test.YtiehemggplndcaaGreatDoorC6
import Derived.Test.YtiehemggplndcaaGreatDoorProg
import Derived.Test.YtiehemggplndcaaGreatDoorA4
import Derived.KernelRfl
namespace Go.Tt
open Go Go.Sx Go.Mg Go.Proofs
variable {N : Nat}
theorem qxl : piece ttS (mZ Tryz.prog) 1000 dV [false, false, true] = dU.only [false, false, true] := by kernel_rfl
theorem qks : piece ttS (mZ Tryz.prog) 1000 dV [false, false, false, true] = dU.only [false, false, false, true] := by kernel_rfl
theorem qkr : piece ttS (mZ Tryz.prog) 1000 dV [false, false, false, false, true] = dU.only [false, false, false, false, true] := by kernel_rfl
theorem qkp : piece ttS (mZ Tryz.prog) 1000 dV [false, false, false, false, false, true] = dU.only [false, false, false, false, false, true] := by kernel_rfl
theorem qkn : piece ttS (mZ Tryz.prog) 1000 dV [false, false, false, false, false, false, true] = dU.only [false, false, false, false, false, false, true] := by kernel_rfl
theorem qkm : piece ttS (mZ Tryz.prog) 1000 dV [false, false, false, false, false, false, false, true] = dU.only [false, false, false, false, false, false, false, true] := by kernel_rfl
theorem qkh : piece ttS (mZ Tryz.prog) 1000 dV [false, false, false, false, false, false, false, false, true] = dU.only [false, false, false, false, false, false, false, false, true] := by kernel_rfl
theorem qkf : piece ttS (mZ Tryz.prog) 1000 dV [false, false, false, false, false, false, false, false, false] = dU.only [false, false, false, false, false, false, false, false, false] := by kernel_rfl
end Go.Tt
