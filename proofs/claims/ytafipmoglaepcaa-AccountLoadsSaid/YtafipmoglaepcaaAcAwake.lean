/-
  awake returns true. Conditions: none.
-/
import Derived.Test.YtafipmoglaepcaaProg
import Derived.Test.YtafipmoglaepcaaAcLs
import Derived.KernelRfl
namespace Go.Proofs.Ytafipmoglaepcaa.Ac
open Go Go.Sx
def xBare (P : Program) : Cx := { P, cs := [], anns := [] }
theorem okAwake (I : Itp) : COk I Try.prog cAwake := tidied_ok (fs := noFs) (tot_none I) (cx := xBare Try.prog) (fuel := 3000) (fun c h => by simp [xBare] at h) (by kernel_rfl)
end Go.Proofs.Ytafipmoglaepcaa.Ac
