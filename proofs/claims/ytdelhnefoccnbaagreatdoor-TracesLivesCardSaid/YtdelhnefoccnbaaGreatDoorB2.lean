/-
  The three loops' contracts hold of the program. Conditions: none.
-/
import Derived.Test.YtdelhnefoccnbaaGreatDoorProg
import Derived.Test.YtdelhnefoccnbaaGreatDoorB1
import Derived.KernelRfl
namespace Go.Mg
open Go Go.Sx Go.Proofs
variable {I : Itp}
theorem kCounts : tidied noFs (xLoops Tryz.prog) 300 cCounts = tCounts := by kernel_rfl
theorem okCounts : COk I Tryz.prog gls cCounts := ok_of (tot_none I) (cx := xLoops Tryz.prog) cs_nil kCounts vCounts
theorem kState : tidied noFs (xLoops Tryz.prog) 300 cState = tState := by kernel_rfl
theorem okState : COk I Tryz.prog gls cState := ok_of (tot_none I) (cx := xLoops Tryz.prog) cs_nil kState vState
theorem kFresh : tidied noFs (xLoops Tryz.prog) 300 cFresh = tFresh := by kernel_rfl
theorem okFresh : COk I Tryz.prog gls cFresh := ok_of (tot_none I) (cx := xLoops Tryz.prog) cs_nil kFresh vFresh
theorem kVmNew : tidied noFs (xLoops Tryz.prog) 300 cVmNew = tVmNew := by kernel_rfl
theorem okVmNew : COk I Tryz.prog gls cVmNew := ok_of (tot_none I) (cx := xLoops Tryz.prog) cs_nil kVmNew vVmNew
theorem kAll3 : tidied noFs (xLoops Tryz.prog) 300 (cAll 3) = tAll 48 := by kernel_rfl
theorem okAll3 : COk I Tryz.prog gls (cAll 3) := ok_of (tot_none I) (cx := xLoops Tryz.prog) cs_nil kAll3 (vAll 48 (by decide) (by decide))
theorem kAll4 : tidied noFs (xLoops Tryz.prog) 300 (cAll 4) = tAll 64 := by kernel_rfl
theorem okAll4 : COk I Tryz.prog gls (cAll 4) := ok_of (tot_none I) (cx := xLoops Tryz.prog) cs_nil kAll4 (vAll 64 (by decide) (by decide))
theorem kAll5 : tidied noFs (xLoops Tryz.prog) 300 (cAll 5) = tAll 80 := by kernel_rfl
theorem okAll5 : COk I Tryz.prog gls (cAll 5) := ok_of (tot_none I) (cx := xLoops Tryz.prog) cs_nil kAll5 (vAll 80 (by decide) (by decide))
theorem kAll6 : tidied noFs (xLoops Tryz.prog) 300 (cAll 6) = tAll 96 := by kernel_rfl
theorem okAll6 : COk I Tryz.prog gls (cAll 6) := ok_of (tot_none I) (cx := xLoops Tryz.prog) cs_nil kAll6 (vAll 96 (by decide) (by decide))
theorem kAll7 : tidied noFs (xLoops Tryz.prog) 300 (cAll 7) = tAll 112 := by kernel_rfl
theorem okAll7 : COk I Tryz.prog gls (cAll 7) := ok_of (tot_none I) (cx := xLoops Tryz.prog) cs_nil kAll7 (vAll 112 (by decide) (by decide))
theorem kAll8 : tidied noFs (xLoops Tryz.prog) 300 (cAll 8) = tAll 128 := by kernel_rfl
theorem okAll8 : COk I Tryz.prog gls (cAll 8) := ok_of (tot_none I) (cx := xLoops Tryz.prog) cs_nil kAll8 (vAll 128 (by decide) (by decide))
theorem kAll9 : tidied noFs (xLoops Tryz.prog) 300 (cAll 9) = tAll 144 := by kernel_rfl
theorem okAll9 : COk I Tryz.prog gls (cAll 9) := ok_of (tot_none I) (cx := xLoops Tryz.prog) cs_nil kAll9 (vAll 144 (by decide) (by decide))
theorem kState1 : tidied noFs (xState1 Tryz.prog) 30000 cState1 = tState1 := by kernel_rfl
theorem okState1 : COk I Tryz.prog gls cState1 := ok_of (tot_none I) (cx := xState1 Tryz.prog) cs_nil kState1 vState1
theorem okLoops : ∀ c ∈ cState1 :: loops, COk I Tryz.prog gls c := by
  refine cs_cons okState1 (cs_cons okCounts (cs_cons okState (cs_cons okFresh (cs_cons okVmNew ?_))))
  show ∀ c ∈ [cAll 3, cAll 4, cAll 5, cAll 6, cAll 7, cAll 8, cAll 9], COk I Tryz.prog gls c
  exact cs_cons okAll3 (cs_cons okAll4 (cs_cons okAll5 (cs_cons okAll6 (cs_cons okAll7 (cs_cons okAll8 (cs_cons okAll9 cs_nil))))))
end Go.Mg
namespace Go.Mg
open Go Go.Sx Go.Proofs
theorem kSt0 : (tidied noFs (xPlus Tryz.prog []) 300 st0).isOk = true := by kernel_rfl
theorem okSt0 {I : Itp} : COk I Tryz.prog gls st0 := tidied_ok (tot_none I) (cx := (xPlus Tryz.prog [])) okLoops kSt0
theorem kSt2 : (tidied noFs (xPlus Tryz.prog []) 300 st2).isOk = true := by kernel_rfl
theorem okSt2 {I : Itp} : COk I Tryz.prog gls st2 := tidied_ok (tot_none I) (cx := (xPlus Tryz.prog [])) okLoops kSt2
end Go.Mg
namespace Go.Mg
open Go Go.Sx Go.Proofs
theorem kSt4 : (tidied noFs (xPlus Tryz.prog []) 300 st4).isOk = true := by kernel_rfl
theorem okSt4 {I : Itp} : COk I Tryz.prog gls st4 := tidied_ok (tot_none I) (cx := (xPlus Tryz.prog [])) okLoops kSt4
theorem kSt5 : (tidied noFs (xPlus Tryz.prog []) 300 st5).isOk = true := by kernel_rfl
theorem okSt5 {I : Itp} : COk I Tryz.prog gls st5 := tidied_ok (tot_none I) (cx := (xPlus Tryz.prog [])) okLoops kSt5
theorem kSt6 : (tidied noFs (xPlus Tryz.prog []) 300 st6).isOk = true := by kernel_rfl
theorem okSt6 {I : Itp} : COk I Tryz.prog gls st6 := tidied_ok (tot_none I) (cx := (xPlus Tryz.prog [])) okLoops kSt6
theorem kSt7 : (tidied noFs (xPlus Tryz.prog [st4, st5, st6]) 300 st7).isOk = true := by kernel_rfl
theorem okSt7 {I : Itp} : COk I Tryz.prog gls st7 := tidied_ok (tot_none I) (cx := (xPlus Tryz.prog [st4, st5, st6])) (cs_cons okSt4 (cs_cons okSt5 (cs_cons okSt6 okLoops))) kSt7
theorem kSt1 : (tidied noFs (xPlus Tryz.prog []) 300 st1).isOk = true := by kernel_rfl
theorem okSt1 {I : Itp} : COk I Tryz.prog gls st1 := tidied_ok (tot_none I) (cx := (xPlus Tryz.prog [])) okLoops kSt1
theorem kSt9 : (tidied noFs (xPlus Tryz.prog []) 300 st9).isOk = true := by kernel_rfl
theorem okSt9 {I : Itp} : COk I Tryz.prog gls st9 := tidied_ok (tot_none I) (cx := (xPlus Tryz.prog [])) okLoops kSt9
end Go.Mg
namespace Go.Mg
open Go Go.Sx Go.Proofs
theorem kSt11 : (tidied noFs (xPlus Tryz.prog []) 300 st11).isOk = true := by kernel_rfl
theorem okSt11 {I : Itp} : COk I Tryz.prog gls st11 := tidied_ok (tot_none I) (cx := (xPlus Tryz.prog [])) okLoops kSt11
theorem kSt12 : (tidied noFs (xPlus Tryz.prog []) 300 st12).isOk = true := by kernel_rfl
theorem okSt12 {I : Itp} : COk I Tryz.prog gls st12 := tidied_ok (tot_none I) (cx := (xPlus Tryz.prog [])) okLoops kSt12
theorem kSt13 : (tidied noFs (xPlus Tryz.prog []) 300 st13).isOk = true := by kernel_rfl
theorem okSt13 {I : Itp} : COk I Tryz.prog gls st13 := tidied_ok (tot_none I) (cx := (xPlus Tryz.prog [])) okLoops kSt13
theorem kSt14 : (tidied noFs (xPlus Tryz.prog [st11, st12, st13]) 300 st14).isOk = true := by kernel_rfl
theorem okSt14 {I : Itp} : COk I Tryz.prog gls st14 := tidied_ok (tot_none I) (cx := (xPlus Tryz.prog [st11, st12, st13])) (cs_cons okSt11 (cs_cons okSt12 (cs_cons okSt13 okLoops))) kSt14
end Go.Mg
namespace Go.Mg
open Go Go.Sx Go.Proofs
theorem kSt16 : (tidied noFs (xPlus Tryz.prog []) 300 st16).isOk = true := by kernel_rfl
theorem okSt16 {I : Itp} : COk I Tryz.prog gls st16 := tidied_ok (tot_none I) (cx := (xPlus Tryz.prog [])) okLoops kSt16
theorem kSt18 : (tidied noFs (xPlus Tryz.prog []) 300 st18).isOk = true := by kernel_rfl
theorem okSt18 {I : Itp} : COk I Tryz.prog gls st18 := tidied_ok (tot_none I) (cx := (xPlus Tryz.prog [])) okLoops kSt18
theorem kSt20 : (tidied noFs (xPlus Tryz.prog []) 300 st20).isOk = true := by kernel_rfl
theorem okSt20 {I : Itp} : COk I Tryz.prog gls st20 := tidied_ok (tot_none I) (cx := (xPlus Tryz.prog [])) okLoops kSt20
theorem kSt21 : (tidied noFs (xPlus Tryz.prog [st20]) 300 st21).isOk = true := by kernel_rfl
theorem okSt21 {I : Itp} : COk I Tryz.prog gls st21 := tidied_ok (tot_none I) (cx := (xPlus Tryz.prog [st20])) (cs_cons okSt20 okLoops) kSt21
theorem kSt23 : (tidied noFs (xPlus Tryz.prog []) 300 st23).isOk = true := by kernel_rfl
theorem okSt23 {I : Itp} : COk I Tryz.prog gls st23 := tidied_ok (tot_none I) (cx := (xPlus Tryz.prog [])) okLoops kSt23
end Go.Mg
namespace Go.Mg
open Go Go.Sx Go.Proofs
theorem kMain : (tidied noFs (xPlus Tryz.prog [st0, st1, st2, st7, st9, st14, st16, st18, st21, st23]) 300 cMain).isOk = true := by kernel_rfl
theorem okMain {I : Itp} : COk I Tryz.prog gls cMain := tidied_ok (tot_none I) (cx := (xPlus Tryz.prog [st0, st1, st2, st7, st9, st14, st16, st18, st21, st23])) (cs_cons okSt0 (cs_cons okSt1 (cs_cons okSt2 (cs_cons okSt7 (cs_cons okSt9 (cs_cons okSt14 (cs_cons okSt16 (cs_cons okSt18 (cs_cons okSt21 (cs_cons okSt23 okLoops)))))))))) kMain
end Go.Mg
