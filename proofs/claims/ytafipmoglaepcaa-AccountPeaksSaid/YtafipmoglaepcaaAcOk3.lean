/-
  The laws AccountBack, AccountErrors, AccountPeaks hold of the program. Conditions: none.
-/
import Derived.Test.YtafipmoglaepcaaAcOk2
import Derived.Test.YtafipmoglaepcaaAcV6
namespace Go.Proofs.Ytafipmoglaepcaa.Ac
open Go Go.Sx

theorem kLBack : tidied fs (xBackL Try.prog) 200 (cLawX 5) = tLBack := by kernel_rfl
theorem okLBack : COk (J 65) Try.prog (cLawX 5) := mk (cx := xBackL Try.prog) (lawCs_ok (Nat.le_refl _)) kLBack vLBack
theorem kLErrs : tidied fs (xErrsL Try.prog) 200 (cLaw 7) = tLErrs := by kernel_rfl
theorem okLErrs : COk (J 65) Try.prog (cLaw 7) := mk (cx := xErrsL Try.prog) (lawCs_ok (Nat.le_refl _)) kLErrs vLErrs
theorem kLPeaks : tidied fs (xPeaksL Try.prog) 200 (cLaw 3) = tLPeaks := by kernel_rfl
theorem okLPeaks : COk (J 65) Try.prog (cLaw 3) := mk (cx := xPeaksL Try.prog) (all_cons (okAwake _) (all_cons (okPlayed (Nat.le_refl _)) (all_cons (okDoes (Nat.le_refl _)) (all_cons okUsed (all_cons okPeak all_nil))))) kLPeaks vLPeaks
end Go.Proofs.Ytafipmoglaepcaa.Ac
