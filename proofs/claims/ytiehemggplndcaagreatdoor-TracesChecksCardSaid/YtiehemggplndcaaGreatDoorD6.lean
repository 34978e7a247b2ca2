/-
  The contracts hold of the program: a step is read, in parts. Conditions: none.
-/
import Derived.Test.YtiehemggplndcaaGreatDoorC6
import Derived.Test.YtiehemggplndcaaGreatDoorProg
import Derived.Test.YtiehemggplndcaaGreatDoorA4
import Derived.KernelRfl
namespace Go.Tt
open Go Go.Sx Go.Mg Go.Proofs
variable {N : Nat}
theorem qxK : piece ttS (mZ Tryz.prog) 1000 dV [true] = dU.only [true] := by kernel_rfl
theorem qxJ : piece ttS (mZ Tryz.prog) 1000 dV [false, true, true] = dU.only [false, true, true] := by kernel_rfl
theorem qxZ : piece ttS (mZ Tryz.prog) 1000 dV [false, true, false, true] = dU.only [false, true, false, true] := by kernel_rfl
theorem qxQ : piece ttS (mZ Tryz.prog) 1000 dV [false, true, false, false, true] = dU.only [false, true, false, false, true] := by kernel_rfl
theorem qxe : piece ttS (mZ Tryz.prog) 1000 dV [false, true, false, false, false, true] = dU.only [false, true, false, false, false, true] := by kernel_rfl
theorem qxa : piece ttS (mZ Tryz.prog) 1000 dV [false, true, false, false, false, false, true] = dU.only [false, true, false, false, false, false, true] := by kernel_rfl
theorem qxo : piece ttS (mZ Tryz.prog) 1000 dV [false, true, false, false, false, false, false, true] = dU.only [false, true, false, false, false, false, false, true] := by kernel_rfl
theorem qxi : piece ttS (mZ Tryz.prog) 1000 dV [false, true, false, false, false, false, false, false, true] = dU.only [false, true, false, false, false, false, false, false, true] := by kernel_rfl
theorem qxu : piece ttS (mZ Tryz.prog) 1000 dV [false, true, false, false, false, false, false, false, false] = dU.only [false, true, false, false, false, false, false, false, false] := by kernel_rfl
end Go.Tt
