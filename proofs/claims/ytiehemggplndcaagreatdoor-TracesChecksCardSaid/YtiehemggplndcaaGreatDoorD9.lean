/-
  The contracts hold of the program: the reference reads a step, in parts. Conditions: none.
-/
import Derived.Test.YtiehemggplndcaaGreatDoorC6
import Derived.Test.YtiehemggplndcaaGreatDoorProg
import Derived.Test.YtiehemggplndcaaGreatDoorA4
import Derived.KernelRfl
namespace Go.Tt
open Go Go.Sx Go.Mg Go.Proofs
variable {N : Nat}
theorem qxM : piece ttS (aG Tryz.prog) 1000 uH [true] = iq.only [true] := by kernel_rfl
theorem qxH : piece ttS (aG Tryz.prog) 1000 uH [false, true] = iq.only [false, true] := by kernel_rfl
theorem qxF : piece ttS (aG Tryz.prog) 1000 uH [false, false, true] = iq.only [false, false, true] := by kernel_rfl
theorem qxD : piece ttS (aG Tryz.prog) 1000 uH [false, false, false, true] = iq.only [false, false, false, true] := by kernel_rfl
theorem qxB : piece ttS (aG Tryz.prog) 1000 uH [false, false, false, false, true, true, true] = iq.only [false, false, false, false, true, true, true] := by kernel_rfl
theorem qxG : piece ttS (aG Tryz.prog) 1000 uH [false, false, false, false, true, true, false] = iq.only [false, false, false, false, true, true, false] := by kernel_rfl
theorem qxV : piece ttS (aG Tryz.prog) 1000 uH [false, false, false, false, true, false, true] = iq.only [false, false, false, false, true, false, true] := by kernel_rfl
theorem qxX : piece ttS (aG Tryz.prog) 1000 uH [false, false, false, false, true, false, false] = iq.only [false, false, false, false, true, false, false] := by kernel_rfl
theorem qxY : piece ttS (aG Tryz.prog) 1000 uH [false, false, false, false, false, true, true] = iq.only [false, false, false, false, false, true, true] := by kernel_rfl
theorem qxW : piece ttS (aG Tryz.prog) 1000 uH [false, false, false, false, false, true, false] = iq.only [false, false, false, false, false, true, false] := by kernel_rfl
theorem qkt : piece ttS (aG Tryz.prog) 1000 uH [false, false, false, false, false, false] = iq.only [false, false, false, false, false, false] := by kernel_rfl
end Go.Tt
