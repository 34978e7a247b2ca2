/-
  SpoilOrder's walk, by the kernel: parts. Conditions: none.
-/
import Derived.Test.YtmjjjhinedogjaaGreatDoorC6
import Derived.Test.YtmjjjhinedogjaaGreatDoorProg
import Derived.KernelRfl
noncomputable section
namespace Go.Sp
open Go Go.Sx Go.Proofs
theorem kO0:qK spS (G9 Tryz.prog) 3000 KN (Y7.getD 0 .none)=N7.qX (Y7.getD 0 .none):=by kernel_rfl
theorem kO1:qK spS (G9 Tryz.prog) 3000 KN (Y7.getD 1 .none)=N7.qX (Y7.getD 1 .none):=by kernel_rfl
theorem kO2:qK spS (G9 Tryz.prog) 3000 KN (Y7.getD 2 .none)=N7.qX (Y7.getD 2 .none):=by kernel_rfl
end Go.Sp
end
