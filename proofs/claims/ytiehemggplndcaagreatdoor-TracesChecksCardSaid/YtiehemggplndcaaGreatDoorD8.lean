/-
  The contracts hold of the program: the reference's error of a step, in parts. Conditions: none.
-/
import Derived.Test.YtiehemggplndcaaGreatDoorC6
import Derived.Test.YtiehemggplndcaaGreatDoorProg
import Derived.Test.YtiehemggplndcaaGreatDoorA4
import Derived.KernelRfl
namespace Go.Tt
open Go Go.Sx Go.Mg Go.Proofs
variable {N : Nat}
theorem Ae : piece ttS (bX Tryz.prog) 1000 yT [true] = vD.only [true] := by kernel_rfl
theorem Aa : piece ttS (bX Tryz.prog) 1000 yT [false, true] = vD.only [false, true] := by kernel_rfl
theorem Ao : piece ttS (bX Tryz.prog) 1000 yT [false, false, true] = vD.only [false, false, true] := by kernel_rfl
theorem Ai : piece ttS (bX Tryz.prog) 1000 yT [false, false, false, true] = vD.only [false, false, false, true] := by kernel_rfl
theorem Au : piece ttS (bX Tryz.prog) 1000 yT [false, false, false, false, true, true] = vD.only [false, false, false, false, true, true] := by kernel_rfl
theorem Al : piece ttS (bX Tryz.prog) 1000 yT [false, false, false, false, true, false, true] = vD.only [false, false, false, false, true, false, true] := by kernel_rfl
theorem Ac : piece ttS (bX Tryz.prog) 1000 yT [false, false, false, false, true, false, false] = vD.only [false, false, false, false, true, false, false] := by kernel_rfl
theorem Ar : piece ttS (bX Tryz.prog) 1000 yT [false, false, false, false, false, true] = vD.only [false, false, false, false, false, true] := by kernel_rfl
theorem Ap : piece ttS (bX Tryz.prog) 1000 yT [false, false, false, false, false, false] = vD.only [false, false, false, false, false, false] := by kernel_rfl
end Go.Tt
