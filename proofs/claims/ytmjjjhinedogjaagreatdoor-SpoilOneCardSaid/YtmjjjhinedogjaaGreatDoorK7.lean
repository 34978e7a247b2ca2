/-
  The statement SpoilOne: its walk, by the kernel. Conditions: none.
-/
import Derived.Test.YtmjjjhinedogjaaGreatDoorC4
import Derived.Test.YtmjjjhinedogjaaGreatDoorProg
import Derived.KernelRfl
noncomputable section
namespace Go.Sp
open Go Go.Sx Go.Proofs
theorem qqv:qo spS (UK Tryz.prog) 3000 Ul=UC:=by kernel_rfl
end Go.Sp
end
