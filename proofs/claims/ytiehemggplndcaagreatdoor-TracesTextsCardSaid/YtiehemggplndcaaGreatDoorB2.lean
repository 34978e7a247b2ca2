/-
  The three loops' contracts hold of the program. Conditions: none.
-/
import Derived.Test.YtiehemggplndcaaGreatDoorProg
import Derived.Test.YtiehemggplndcaaGreatDoorB1
import Derived.KernelRfl
namespace Go.Mg
open Go Go.Sx Go.Proofs
variable {I : Itp}
theorem kCounts : tidied noFs (xLoops Tryz.prog) 300 cCounts = tCounts := by kernel_rfl
theorem okCounts : COk I Tryz.prog gls cCounts := ok_of (tot_none I) (cx := xLoops Tryz.prog) cs_nil kCounts vCounts
theorem kState : tidied noFs (xLoops Tryz.prog) 300 cState = tState := by kernel_rfl
theorem okState : COk I Tryz.prog gls cState := ok_of (tot_none I) (cx := xLoops Tryz.prog) cs_nil kState vState
theorem kFresh : tidied noFs (xLoops Tryz.prog) 300 cFresh = tFresh := by kernel_rfl
theorem okFresh : COk I Tryz.prog gls cFresh := ok_of (tot_none I) (cx := xLoops Tryz.prog) cs_nil kFresh vFresh
theorem kVmNew : tidied noFs (xLoops Tryz.prog) 300 cVmNew = tVmNew := by kernel_rfl
theorem okVmNew : COk I Tryz.prog gls cVmNew := ok_of (tot_none I) (cx := xLoops Tryz.prog) cs_nil kVmNew vVmNew
theorem kAll3 : tidied noFs (xLoops Tryz.prog) 300 (cAll 3) = tAll3 := by kernel_rfl
theorem okAll3 : COk I Tryz.prog gls (cAll 3) := ok_of (tot_none I) (cx := xLoops Tryz.prog) cs_nil kAll3 vAll3
theorem kAll4 : tidied noFs (xLoops Tryz.prog) 300 (cAll 4) = tAll4 := by kernel_rfl
theorem okAll4 : COk I Tryz.prog gls (cAll 4) := ok_of (tot_none I) (cx := xLoops Tryz.prog) cs_nil kAll4 vAll4
theorem kAll5 : tidied noFs (xLoops Tryz.prog) 300 (cAll 5) = tAll5 := by kernel_rfl
theorem okAll5 : COk I Tryz.prog gls (cAll 5) := ok_of (tot_none I) (cx := xLoops Tryz.prog) cs_nil kAll5 vAll5
theorem kAll6 : tidied noFs (xLoops Tryz.prog) 300 (cAll 6) = tAll6 := by kernel_rfl
theorem okAll6 : COk I Tryz.prog gls (cAll 6) := ok_of (tot_none I) (cx := xLoops Tryz.prog) cs_nil kAll6 vAll6
theorem kAll7 : tidied noFs (xLoops Tryz.prog) 300 (cAll 7) = tAll7 := by kernel_rfl
theorem okAll7 : COk I Tryz.prog gls (cAll 7) := ok_of (tot_none I) (cx := xLoops Tryz.prog) cs_nil kAll7 vAll7
theorem kAll8 : tidied noFs (xLoops Tryz.prog) 300 (cAll 8) = tAll8 := by kernel_rfl
theorem okAll8 : COk I Tryz.prog gls (cAll 8) := ok_of (tot_none I) (cx := xLoops Tryz.prog) cs_nil kAll8 vAll8
theorem kAll9 : tidied noFs (xLoops Tryz.prog) 300 (cAll 9) = tAll9 := by kernel_rfl
theorem okAll9 : COk I Tryz.prog gls (cAll 9) := ok_of (tot_none I) (cx := xLoops Tryz.prog) cs_nil kAll9 vAll9
theorem kState1 : tidied noFs (xState1 Tryz.prog) 30000 cState1 = tState1 := by kernel_rfl
theorem okState1 : COk I Tryz.prog gls cState1 := ok_of (tot_none I) (cx := xState1 Tryz.prog) cs_nil kState1 vState1
theorem okLoops : ∀ c ∈ cState1 :: loops, COk I Tryz.prog gls c := by
  refine cs_cons okState1 (cs_cons okCounts (cs_cons okState (cs_cons okFresh (cs_cons okVmNew ?_))))
  show ∀ c ∈ [cAll 3, cAll 4, cAll 5, cAll 6, cAll 7, cAll 8, cAll 9], COk I Tryz.prog gls c
  exact cs_cons okAll3 (cs_cons okAll4 (cs_cons okAll5 (cs_cons okAll6 (cs_cons okAll7 (cs_cons okAll8 (cs_cons okAll9 cs_nil))))))
end Go.Mg
