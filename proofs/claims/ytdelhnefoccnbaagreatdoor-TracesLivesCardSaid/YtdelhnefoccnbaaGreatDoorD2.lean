/-
  The contracts hold of the program: names, steps, checks. Conditions: none.
-/
import Derived.Test.YtdelhnefoccnbaaGreatDoorD1
import Derived.Test.YtdelhnefoccnbaaGreatDoorC3
import Derived.Test.YtdelhnefoccnbaaGreatDoorC4
import Derived.Test.YtdelhnefoccnbaaGreatDoorB2
import Derived.Test.YtdelhnefoccnbaaGreatDoorA5
import Derived.KernelRfl
namespace Go.Tt
open Go Go.Sx Go.Mg Go.Proofs
variable {N : Nat}
theorem kName : tidied ttS (xName Tryz.prog) 1000 (cName 22) = tName := by kernel_rfl
theorem okName : COk (TI N) Tryz.prog gls (cName 22) := ok_of TI_tot (cx := xName Tryz.prog) cs_nil kName vName
theorem kAny : tidied ttS (xAny Tryz.prog) 1000 (cAny 59 81) = tAny := by kernel_rfl
theorem okAny : COk (TI N) Tryz.prog gls (cAny 59 81) := ok_of TI_tot (cx := xAny Tryz.prog) cs_nil kAny vAny
theorem kBig : tidied ttS (xAny Tryz.prog) 1000 (cAny 60 82) = tBig := by kernel_rfl
theorem okBig : COk (TI N) Tryz.prog gls (cAny 60 82) := ok_of TI_tot (cx := xAny Tryz.prog) cs_nil kBig vBig
theorem kRName : tidied ttS (xName Tryz.prog) 1000 (cName 25) = tRName := by kernel_rfl
theorem okRName : COk (TI N) Tryz.prog gls (cName 25) := ok_of TI_tot (cx := xName Tryz.prog) cs_nil kRName vRName
theorem kTab : tidied ttS (xTab Tryz.prog) 1000 cTab = tTab := by kernel_rfl
theorem okTab : COk (TI N) Tryz.prog gls cTab := ok_of TI_tot (cx := xTab Tryz.prog) cs_nil kTab vTab
def cutStepR : Cut := (.node .leaf (.node .leaf (.node .leaf (.node .leaf (.node (.node .leaf (.node .leaf .leaf)) (.node .leaf .leaf))))))
theorem pathsStepR : cutStepR.paths [] = [[true], [false, true], [false, false, true], [false, false, false, true], [false, false, false, false, true, true], [false, false, false, false, true, false, true], [false, false, false, false, true, false, false], [false, false, false, false, false, true], [false, false, false, false, false, false]] := by kernel_rfl
theorem okStepR : COk (TI N) Tryz.prog gls cStepR := parts_sound (fuel := 1000) TI_tot (cx := xStepR Tryz.prog) (cs_cons okTab (cs_cons okRName cs_nil)) cutStepR (by rw [pathsStepR]; exact (ps_cons (fun ds hd => by rw [pStepR0]; exact Tree.vc_only (vStepR ds hd)) (ps_cons (fun ds hd => by rw [pStepR1]; exact Tree.vc_only (vStepR ds hd)) (ps_cons (fun ds hd => by rw [pStepR2]; exact Tree.vc_only (vStepR ds hd)) (ps_cons (fun ds hd => by rw [pStepR3]; exact Tree.vc_only (vStepR ds hd)) (ps_cons (fun ds hd => by rw [pStepR4]; exact Tree.vc_only (vStepR ds hd)) (ps_cons (fun ds hd => by rw [pStepR5]; exact Tree.vc_only (vStepR ds hd)) (ps_cons (fun ds hd => by rw [pStepR6]; exact Tree.vc_only (vStepR ds hd)) (ps_cons (fun ds hd => by rw [pStepR7]; exact Tree.vc_only (vStepR ds hd)) (ps_cons (fun ds hd => by rw [pStepR8]; exact Tree.vc_only (vStepR ds hd)) ps_nil))))))))))
theorem kShpR : tidied ttS (xShp Tryz.prog) 1000 cShpR = tShpR := by kernel_rfl
theorem okShpR : COk (TI N) Tryz.prog gls cShpR := ok_of TI_tot (cx := xShp Tryz.prog) (cs_cons okName (cs_cons okAny (cs_cons okBig cs_nil))) kShpR vShpR
theorem kChk : tidied ttS (xChk Tryz.prog) 1000 cChk = tChk := by kernel_rfl
theorem okChk : COk (TI N) Tryz.prog gls cChk := ok_of TI_tot (cx := xChk Tryz.prog) (cs_cons okShpR cs_nil) kChk vChk
theorem kCheck : tidied ttS (xCheck Tryz.prog) 1000 (cCheck 16) = tCheck := by kernel_rfl
theorem okCheck : COk (TI N) Tryz.prog gls (cCheck 16) := ok_of TI_tot (cx := xCheck Tryz.prog) (cs_cons okChk cs_nil) kCheck vCheck
theorem kSame : tidied ttS (xSame Tryz.prog) 1000 cSame = tSame := by kernel_rfl
theorem okSame : COk (TI N) Tryz.prog gls cSame := ok_of TI_tot (cx := xSame Tryz.prog) cs_nil kSame vSame
theorem kFar : tidied ttS (xFar Tryz.prog) 1000 cFar = tFar := by kernel_rfl
theorem okFar : COk (TI N) Tryz.prog gls cFar := ok_of TI_tot (cx := xFar Tryz.prog) cs_nil kFar vFar
theorem okAw {I : Itp} : COk I Tryz.prog gls cAw := okMain
theorem kMade : tidied ttS (xMade Tryz.prog) 1000 cMade = tMade := by kernel_rfl
theorem okMade : COk (TI N) Tryz.prog gls cMade := ok_of TI_tot (cx := xMade Tryz.prog) cs_nil kMade vMade
theorem kFind : tidied ttS (xMade Tryz.prog) 1000 cFind = tFind := by kernel_rfl
theorem okFind : COk (TI N) Tryz.prog gls cFind := ok_of TI_tot (cx := xMade Tryz.prog) cs_nil kFind vFind
theorem kAft : tidied ttS (xAft Tryz.prog) 1000 cAft = tAft := by kernel_rfl
theorem okAft : COk (TI N) Tryz.prog gls cAft := ok_of TI_tot (cx := xAft Tryz.prog) (cs_cons okTab (cs_cons okStepR (cs_cons okMade (cs_cons okFind cs_nil)))) kAft vAft
theorem kRCheck : tidied ttS (xRCheck Tryz.prog) 1000 (cCheck 24) = tRCheck := by kernel_rfl
theorem okRCheck : COk (TI N) Tryz.prog gls (cCheck 24) := ok_of TI_tot (cx := xRCheck Tryz.prog) (cs_cons okAft cs_nil) kRCheck vRCheck
end Go.Tt
