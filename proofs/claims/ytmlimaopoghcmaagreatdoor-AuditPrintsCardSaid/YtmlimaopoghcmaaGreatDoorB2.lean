/-
  The three loops' contracts hold of the program. Conditions: none.
-/
import Derived.Test.YtmlimaopoghcmaaGreatDoorProg
import Derived.Test.YtmlimaopoghcmaaGreatDoorB1
import Derived.KernelRfl
namespace Go.Mg
open Go Go.Sx Go.Proofs
variable {I : Itp}
theorem kCounts : tidied noFs (xLoops Tryz.prog) 300 cCounts = tCounts := by kernel_rfl
theorem okCounts : COk I Tryz.prog gls cCounts := ok_of (tot_none I) (cx := xLoops Tryz.prog) cs_nil kCounts vCounts
theorem kState : tidied noFs (xLoops Tryz.prog) 300 cState = tState := by kernel_rfl
theorem okState : COk I Tryz.prog gls cState := ok_of (tot_none I) (cx := xLoops Tryz.prog) cs_nil kState vState
theorem kFresh : tidied noFs (xLoops Tryz.prog) 300 cFresh = tFresh := by kernel_rfl
theorem okFresh : COk I Tryz.prog gls cFresh := ok_of (tot_none I) (cx := xLoops Tryz.prog) cs_nil kFresh vFresh
theorem kVmNew : tidied noFs (xLoops Tryz.prog) 300 cVmNew = tVmNew := by kernel_rfl
theorem okVmNew : COk I Tryz.prog gls cVmNew := ok_of (tot_none I) (cx := xLoops Tryz.prog) cs_nil kVmNew vVmNew
theorem kAll0 : tidied noFs (xLoops Tryz.prog) 300 (cAll 0) = tAll0 := by kernel_rfl
theorem okAll0 : COk I Tryz.prog gls (cAll 0) := ok_of (tot_none I) (cx := xLoops Tryz.prog) cs_nil kAll0 vAll0
theorem kAll1 : tidied noFs (xLoops Tryz.prog) 300 (cAll 1) = tAll1 := by kernel_rfl
theorem okAll1 : COk I Tryz.prog gls (cAll 1) := ok_of (tot_none I) (cx := xLoops Tryz.prog) cs_nil kAll1 vAll1
theorem kAll2 : tidied noFs (xLoops Tryz.prog) 300 (cAll 2) = tAll2 := by kernel_rfl
theorem okAll2 : COk I Tryz.prog gls (cAll 2) := ok_of (tot_none I) (cx := xLoops Tryz.prog) cs_nil kAll2 vAll2
theorem kAll3 : tidied noFs (xLoops Tryz.prog) 300 (cAll 3) = tAll3 := by kernel_rfl
theorem okAll3 : COk I Tryz.prog gls (cAll 3) := ok_of (tot_none I) (cx := xLoops Tryz.prog) cs_nil kAll3 vAll3
theorem kAll4 : tidied noFs (xLoops Tryz.prog) 300 (cAll 4) = tAll4 := by kernel_rfl
theorem okAll4 : COk I Tryz.prog gls (cAll 4) := ok_of (tot_none I) (cx := xLoops Tryz.prog) cs_nil kAll4 vAll4
theorem kAll5 : tidied noFs (xLoops Tryz.prog) 300 (cAll 5) = tAll5 := by kernel_rfl
theorem okAll5 : COk I Tryz.prog gls (cAll 5) := ok_of (tot_none I) (cx := xLoops Tryz.prog) cs_nil kAll5 vAll5
theorem kAll6 : tidied noFs (xLoops Tryz.prog) 300 (cAll 6) = tAll6 := by kernel_rfl
theorem okAll6 : COk I Tryz.prog gls (cAll 6) := ok_of (tot_none I) (cx := xLoops Tryz.prog) cs_nil kAll6 vAll6
theorem kAll7 : tidied noFs (xLoops Tryz.prog) 300 (cAll 7) = tAll7 := by kernel_rfl
theorem okAll7 : COk I Tryz.prog gls (cAll 7) := ok_of (tot_none I) (cx := xLoops Tryz.prog) cs_nil kAll7 vAll7
theorem kAll8 : tidied noFs (xLoops Tryz.prog) 300 (cAll 8) = tAll8 := by kernel_rfl
theorem okAll8 : COk I Tryz.prog gls (cAll 8) := ok_of (tot_none I) (cx := xLoops Tryz.prog) cs_nil kAll8 vAll8
theorem kAll9 : tidied noFs (xLoops Tryz.prog) 300 (cAll 9) = tAll9 := by kernel_rfl
theorem okAll9 : COk I Tryz.prog gls (cAll 9) := ok_of (tot_none I) (cx := xLoops Tryz.prog) cs_nil kAll9 vAll9
theorem kAll10 : tidied noFs (xLoops Tryz.prog) 300 (cAll 10) = tAll10 := by kernel_rfl
theorem okAll10 : COk I Tryz.prog gls (cAll 10) := ok_of (tot_none I) (cx := xLoops Tryz.prog) cs_nil kAll10 vAll10
theorem kAll11 : tidied noFs (xLoops Tryz.prog) 300 (cAll 11) = tAll11 := by kernel_rfl
theorem okAll11 : COk I Tryz.prog gls (cAll 11) := ok_of (tot_none I) (cx := xLoops Tryz.prog) cs_nil kAll11 vAll11
theorem kAll12 : tidied noFs (xLoops Tryz.prog) 300 (cAll 12) = tAll12 := by kernel_rfl
theorem okAll12 : COk I Tryz.prog gls (cAll 12) := ok_of (tot_none I) (cx := xLoops Tryz.prog) cs_nil kAll12 vAll12
theorem kAll13 : tidied noFs (xLoops Tryz.prog) 300 (cAll 13) = tAll13 := by kernel_rfl
theorem okAll13 : COk I Tryz.prog gls (cAll 13) := ok_of (tot_none I) (cx := xLoops Tryz.prog) cs_nil kAll13 vAll13
theorem kAll14 : tidied noFs (xLoops Tryz.prog) 300 (cAll 14) = tAll14 := by kernel_rfl
theorem okAll14 : COk I Tryz.prog gls (cAll 14) := ok_of (tot_none I) (cx := xLoops Tryz.prog) cs_nil kAll14 vAll14
theorem kAll15 : tidied noFs (xLoops Tryz.prog) 300 (cAll 15) = tAll15 := by kernel_rfl
theorem okAll15 : COk I Tryz.prog gls (cAll 15) := ok_of (tot_none I) (cx := xLoops Tryz.prog) cs_nil kAll15 vAll15
theorem kAll16 : tidied noFs (xLoops Tryz.prog) 300 (cAll 16) = tAll16 := by kernel_rfl
theorem okAll16 : COk I Tryz.prog gls (cAll 16) := ok_of (tot_none I) (cx := xLoops Tryz.prog) cs_nil kAll16 vAll16
theorem kAll17 : tidied noFs (xLoops Tryz.prog) 300 (cAll 17) = tAll17 := by kernel_rfl
theorem okAll17 : COk I Tryz.prog gls (cAll 17) := ok_of (tot_none I) (cx := xLoops Tryz.prog) cs_nil kAll17 vAll17
theorem kAll18 : tidied noFs (xLoops Tryz.prog) 300 (cAll 18) = tAll18 := by kernel_rfl
theorem okAll18 : COk I Tryz.prog gls (cAll 18) := ok_of (tot_none I) (cx := xLoops Tryz.prog) cs_nil kAll18 vAll18
theorem kAll19 : tidied noFs (xLoops Tryz.prog) 300 (cAll 19) = tAll19 := by kernel_rfl
theorem okAll19 : COk I Tryz.prog gls (cAll 19) := ok_of (tot_none I) (cx := xLoops Tryz.prog) cs_nil kAll19 vAll19
theorem kAll20 : tidied noFs (xLoops Tryz.prog) 300 (cAll 20) = tAll20 := by kernel_rfl
theorem okAll20 : COk I Tryz.prog gls (cAll 20) := ok_of (tot_none I) (cx := xLoops Tryz.prog) cs_nil kAll20 vAll20
theorem kAll21 : tidied noFs (xLoops Tryz.prog) 300 (cAll 21) = tAll21 := by kernel_rfl
theorem okAll21 : COk I Tryz.prog gls (cAll 21) := ok_of (tot_none I) (cx := xLoops Tryz.prog) cs_nil kAll21 vAll21
theorem okLoops : ∀ c ∈ loops, COk I Tryz.prog gls c := by
  refine cs_cons okCounts (cs_cons okState (cs_cons okFresh (cs_cons okVmNew ?_)))
  show ∀ c ∈ [cAll 0, cAll 1, cAll 2, cAll 3, cAll 4, cAll 5, cAll 6, cAll 7, cAll 8, cAll 9, cAll 10, cAll 11, cAll 12, cAll 13, cAll 14, cAll 15, cAll 16, cAll 17, cAll 18, cAll 19, cAll 20, cAll 21], COk I Tryz.prog gls c
  exact cs_cons okAll0 (cs_cons okAll1 (cs_cons okAll2 (cs_cons okAll3 (cs_cons okAll4 (cs_cons okAll5 (cs_cons okAll6 (cs_cons okAll7 (cs_cons okAll8 (cs_cons okAll9 (cs_cons okAll10 (cs_cons okAll11 (cs_cons okAll12 (cs_cons okAll13 (cs_cons okAll14 (cs_cons okAll15 (cs_cons okAll16 (cs_cons okAll17 (cs_cons okAll18 (cs_cons okAll19 (cs_cons okAll20 (cs_cons okAll21 (cs_nil))))))))))))))))))))))
end Go.Mg
