/-
  Calls inside the example of traces, carried out by the kernel. Conditions: none.
-/
import Derived.Test.YtiehemggplndcaaGreatDoorB1
import Derived.Test.YtiehemggplndcaaGreatDoorB2
import Derived.KernelRfl
namespace Go.Mg
open Go Go.Sx Go.Proofs
theorem qgE : (qc wD (zI Tryz.prog []) 300 st4).isOk = true := by kernel_rfl
theorem qxO {I : Itp} : COk I Tryz.prog gls st4 := ze (qP I) (cx := (zI Tryz.prog [])) jo qgE
theorem qgA : (qc wD (zI Tryz.prog []) 300 st5).isOk = true := by kernel_rfl
theorem qxI {I : Itp} : COk I Tryz.prog gls st5 := ze (qP I) (cx := (zI Tryz.prog [])) jo qgA
theorem qgO : (qc wD (zI Tryz.prog []) 300 st6).isOk = true := by kernel_rfl
theorem qxU {I : Itp} : COk I Tryz.prog gls st6 := ze (qP I) (cx := (zI Tryz.prog [])) jo qgO
theorem qgI : (qc wD (zI Tryz.prog [st4, st5, st6]) 300 st7).isOk = true := by kernel_rfl
theorem qxL {I : Itp} : COk I Tryz.prog gls st7 := ze (qP I) (cx := (zI Tryz.prog [st4, st5, st6])) (qw qxO (qw qxI (qw qxU jo))) qgI
theorem qg1 : (qc wD (zI Tryz.prog []) 300 st1).isOk = true := by kernel_rfl
theorem qxE {I : Itp} : COk I Tryz.prog gls st1 := ze (qP I) (cx := (zI Tryz.prog [])) jo qg1
theorem qgU : (qc wD (zI Tryz.prog []) 300 st9).isOk = true := by kernel_rfl
theorem qxC {I : Itp} : COk I Tryz.prog gls st9 := ze (qP I) (cx := (zI Tryz.prog [])) jo qgU
end Go.Mg
