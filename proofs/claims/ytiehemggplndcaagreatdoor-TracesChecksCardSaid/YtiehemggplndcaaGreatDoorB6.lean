/-
  Calls inside the example of traces, carried out by the kernel. Conditions: none.
-/
import Derived.Test.YtiehemggplndcaaGreatDoorB1
import Derived.Test.YtiehemggplndcaaGreatDoorB2
import Derived.KernelRfl
namespace Go.Mg
open Go Go.Sx Go.Proofs
theorem qvb : (qc wD (zI Tryz.prog []) 300 Od).isOk = true := by kernel_rfl
theorem qkE {I : Itp} : COk I Tryz.prog gls Od := ze (qP I) (cx := (zI Tryz.prog [])) jo qvb
theorem qvg : (qc wD (zI Tryz.prog []) 300 Ob).isOk = true := by kernel_rfl
theorem qkA {I : Itp} : COk I Tryz.prog gls Ob := ze (qP I) (cx := (zI Tryz.prog [])) jo qvg
theorem qvv : (qc wD (zI Tryz.prog []) 300 Og).isOk = true := by kernel_rfl
theorem qkO {I : Itp} : COk I Tryz.prog gls Og := ze (qP I) (cx := (zI Tryz.prog [])) jo qvv
theorem qvx : (qc wD (zI Tryz.prog [Og]) 300 Ov).isOk = true := by kernel_rfl
theorem qkI {I : Itp} : COk I Tryz.prog gls Ov := ze (qP I) (cx := (zI Tryz.prog [Og])) (qw qkO jo) qvx
theorem qvy : (qc wD (zI Tryz.prog []) 300 Ox).isOk = true := by kernel_rfl
theorem qkU {I : Itp} : COk I Tryz.prog gls Ox := ze (qP I) (cx := (zI Tryz.prog [])) jo qvy
end Go.Mg
