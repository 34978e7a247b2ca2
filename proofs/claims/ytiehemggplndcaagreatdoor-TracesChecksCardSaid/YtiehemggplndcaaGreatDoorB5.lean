/-
  Calls inside the example of traces, carried out by the kernel. Conditions: none.
-/
import Derived.Test.YtiehemggplndcaaGreatDoorB1
import Derived.Test.YtiehemggplndcaaGreatDoorB2
import Derived.KernelRfl
namespace Go.Mg
open Go Go.Sx Go.Proofs
theorem qvm : (qc wD (zI Tryz.prog []) 300 Oc).isOk = true := by kernel_rfl
theorem qk3 {I : Itp} : COk I Tryz.prog gls Oc := ze (qP I) (cx := (zI Tryz.prog [])) jo qvm
theorem qvh : (qc wD (zI Tryz.prog []) 300 Ot).isOk = true := by kernel_rfl
theorem qk2 {I : Itp} : COk I Tryz.prog gls Ot := ze (qP I) (cx := (zI Tryz.prog [])) jo qvh
theorem qvf : (qc wD (zI Tryz.prog []) 300 Om).isOk = true := by kernel_rfl
theorem qk1 {I : Itp} : COk I Tryz.prog gls Om := ze (qP I) (cx := (zI Tryz.prog [])) jo qvf
theorem qvd : (qc wD (zI Tryz.prog [Oc, Ot, Om]) 300 Oh).isOk = true := by kernel_rfl
theorem qk0 {I : Itp} : COk I Tryz.prog gls Oh := ze (qP I) (cx := (zI Tryz.prog [Oc, Ot, Om])) (qw qk3 (qw qk2 (qw qk1 jo))) qvd
end Go.Mg
