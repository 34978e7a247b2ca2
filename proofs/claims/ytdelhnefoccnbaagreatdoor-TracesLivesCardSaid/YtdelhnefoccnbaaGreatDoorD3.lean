/-
  The contracts hold of the program: renaming, lives, the two laws. Conditions: none.
-/
import Derived.Test.YtdelhnefoccnbaaGreatDoorD2
import Derived.Test.YtdelhnefoccnbaaGreatDoorC7
import Derived.KernelRfl
namespace Go.Tt
open Go Go.Sx Go.Mg Go.Proofs
variable {N : Nat}
theorem kIdx : tidied ttS (xIdx Tryz.prog) 1000 cIdx = tIdx := by kernel_rfl
theorem okIdx : COk (TI N) Tryz.prog gls cIdx := ok_of TI_tot (cx := xIdx Tryz.prog) cs_nil kIdx vIdx
theorem kHas : tidied ttS (xHas Tryz.prog) 1000 cHas = tHas := by kernel_rfl
theorem okHas : COk (TI N) Tryz.prog gls cHas := ok_of TI_tot (cx := xHas Tryz.prog) cs_nil kHas vHas
theorem kRenF : tidied ttS (xRen Tryz.prog) 1000 cRenF = tRenF := by kernel_rfl
theorem okRenF : COk (TI N) Tryz.prog gls cRenF := ok_of TI_tot (cx := xRen Tryz.prog) (cs_cons okCheck (cs_cons okHas (cs_cons okName cs_nil))) kRenF vRenF
theorem kRenN : tidied ttS (xRen Tryz.prog) 1000 cRenN = tRenN := by kernel_rfl
theorem okRenN : COk (TI N) Tryz.prog gls cRenN := ok_of TI_tot (cx := xRen Tryz.prog) (cs_cons okCheck (cs_cons okHas (cs_cons okName cs_nil))) kRenN vRenN
theorem kRRen : tidied ttS (xRRen Tryz.prog) 1000 cRRen = tRRen := by kernel_rfl
theorem okRRen : COk (TI N) Tryz.prog gls cRRen := ok_of TI_tot (cx := xRRen Tryz.prog) (cs_cons okRCheck (cs_cons okMade (cs_cons okRName cs_nil))) kRRen vRRen
theorem kLvs : tidied ttS (xLvs Tryz.prog) 1000 (cLvs 8) = tLvs := by kernel_rfl
theorem okLvs : COk (TI N) Tryz.prog gls (cLvs 8) := ok_of TI_tot (cx := xLvs Tryz.prog) (cs_cons okCheck (cs_cons okIdx cs_nil)) kLvs vLvs
theorem kFnd : tidied ttS (xFnd Tryz.prog) 1000 cFnd = tFnd := by kernel_rfl
theorem okFnd : COk (TI N) Tryz.prog gls cFnd := ok_of TI_tot (cx := xFnd Tryz.prog) cs_nil kFnd vFnd
theorem kGone : tidied ttS (xGone Tryz.prog) 1000 cGone = tGone := by kernel_rfl
theorem okGone : COk (TI N) Tryz.prog gls cGone := ok_of TI_tot (cx := xGone Tryz.prog) (cs_cons okFnd cs_nil) kGone vGone
theorem kRLvs : tidied ttS (xRLvs Tryz.prog) 1000 (cLvs 11) = tRLvs := by kernel_rfl
theorem okRLvs : COk (TI N) Tryz.prog gls (cLvs 11) := ok_of TI_tot (cx := xRLvs Tryz.prog) (cs_cons okRCheck (cs_cons okGone cs_nil)) kRLvs vRLvs
theorem kNes : tidied ttS (xNes Tryz.prog) 1000 cNes = tNes := by kernel_rfl
theorem okNes : COk (TI N) Tryz.prog gls cNes := ok_of TI_tot (cx := xNes Tryz.prog) (cs_cons okAw (cs_cons okFar (cs_cons okLvs cs_nil))) kNes vNes
theorem kLivF : tidied ttS (xLiv Tryz.prog) 1000 cLivF = tLivF := by kernel_rfl
theorem okLivF : COk (TI N) Tryz.prog gls cLivF := ok_of TI_tot (cx := xLiv Tryz.prog) (cs_cons okAw (cs_cons okFar (cs_cons okRenF (cs_cons okRenN (cs_cons okRRen (cs_cons okLvs (cs_cons okRLvs (cs_cons okSame cs_nil)))))))) kLivF vLivF
theorem kLivN : tidied ttS (xLiv Tryz.prog) 1000 cLivN = tLivN := by kernel_rfl
theorem okLivN : COk (TI N) Tryz.prog gls cLivN := ok_of TI_tot (cx := xLiv Tryz.prog) (cs_cons okAw (cs_cons okFar (cs_cons okRenF (cs_cons okRenN (cs_cons okRRen (cs_cons okLvs (cs_cons okRLvs (cs_cons okSame cs_nil)))))))) kLivN vLivN
end Go.Tt
