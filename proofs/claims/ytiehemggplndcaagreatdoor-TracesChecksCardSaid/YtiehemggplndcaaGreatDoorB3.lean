/-
  Calls inside the example of traces, carried out by the kernel. Conditions: none.
-/
import Derived.Test.YtiehemggplndcaaGreatDoorB1
import Derived.Test.YtiehemggplndcaaGreatDoorB2
import Derived.KernelRfl
namespace Go.Mg
open Go Go.Sx Go.Proofs
theorem qg2 : (qc wD (zI Tryz.prog []) 300 st0).isOk = true := by kernel_rfl
theorem qx0 {I : Itp} : COk I Tryz.prog gls st0 := ze (qP I) (cx := (zI Tryz.prog [])) jo qg2
theorem qg0 : (qc wD (zI Tryz.prog []) 300 st2).isOk = true := by kernel_rfl
theorem qxA {I : Itp} : COk I Tryz.prog gls st2 := ze (qP I) (cx := (zI Tryz.prog [])) jo qg0
end Go.Mg
