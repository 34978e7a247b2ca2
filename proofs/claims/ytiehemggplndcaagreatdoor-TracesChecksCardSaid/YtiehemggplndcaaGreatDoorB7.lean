/-
  The example of traces, carried out by the kernel. Conditions: none.
-/
import Derived.Test.YtiehemggplndcaaGreatDoorB3
import Derived.Test.YtiehemggplndcaaGreatDoorB4
import Derived.Test.YtiehemggplndcaaGreatDoorB5
import Derived.Test.YtiehemggplndcaaGreatDoorB6
import Derived.KernelRfl
namespace Go.Mg
open Go Go.Sx Go.Proofs
theorem qvi : (qc wD (zI Tryz.prog [st0, st1, st2, st7, st9, Oh, Od, Ob, Ov, Ox]) 300 qza).isOk = true := by kernel_rfl
theorem qwz {I : Itp} : COk I Tryz.prog gls qza := ze (qP I) (cx := (zI Tryz.prog [st0, st1, st2, st7, st9, Oh, Od, Ob, Ov, Ox])) (qw qx0 (qw qxE (qw qxA (qw qxL (qw qxC (qw qk0 (qw qkE (qw qkA (qw qkI (qw qkU jo)))))))))) qvi
end Go.Mg
