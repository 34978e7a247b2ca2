/-
  TracesTexts holds of the program: the walk. Conditions: none.
-/
import Derived.Test.YtiehemggplndcaaGreatDoorD2
import Derived.Test.YtiehemggplndcaaGreatDoorD6
import Derived.Test.YtiehemggplndcaaGreatDoorD7
import Derived.Test.YtiehemggplndcaaGreatDoorD1
import Derived.Test.YtiehemggplndcaaGreatDoorC3
import Derived.Test.YtiehemggplndcaaGreatDoorC4
import Derived.Test.YtiehemggplndcaaGreatDoorB7
import Derived.KernelRfl
namespace Go.Tt
open Go Go.Sx Go.Mg Go.Proofs
variable {N : Nat}
def cutStp : Cut := (.node .leaf (.node (.node .leaf (.node .leaf (.node .leaf (.node .leaf (.node .leaf (.node .leaf (.node .leaf .leaf))))))) (.node .leaf (.node .leaf (.node .leaf (.node .leaf (.node .leaf (.node .leaf (.node .leaf .leaf)))))))))
theorem pathsStp : cutStp.paths [] = [[true], [false, true, true], [false, true, false, true], [false, true, false, false, true], [false, true, false, false, false, true], [false, true, false, false, false, false, true], [false, true, false, false, false, false, false, true], [false, true, false, false, false, false, false, false, true], [false, true, false, false, false, false, false, false, false], [false, false, true], [false, false, false, true], [false, false, false, false, true], [false, false, false, false, false, true], [false, false, false, false, false, false, true], [false, false, false, false, false, false, false, true], [false, false, false, false, false, false, false, false, true], [false, false, false, false, false, false, false, false, false]] := by kernel_rfl
theorem okStp : COk (TI N) Tryz.prog gls cStp := parts_sound (fuel := 1000) TI_tot (cx := xStp Tryz.prog) (cs_cons okSplP (cs_cons okFld (cs_cons okNum cs_nil))) cutStp (by rw [pathsStp]; exact (ps_cons (fun ds hd => by rw [pStp0]; exact Tree.vc_only (vStp ds hd)) (ps_cons (fun ds hd => by rw [pStp1]; exact Tree.vc_only (vStp ds hd)) (ps_cons (fun ds hd => by rw [pStp2]; exact Tree.vc_only (vStp ds hd)) (ps_cons (fun ds hd => by rw [pStp3]; exact Tree.vc_only (vStp ds hd)) (ps_cons (fun ds hd => by rw [pStp4]; exact Tree.vc_only (vStp ds hd)) (ps_cons (fun ds hd => by rw [pStp5]; exact Tree.vc_only (vStp ds hd)) (ps_cons (fun ds hd => by rw [pStp6]; exact Tree.vc_only (vStp ds hd)) (ps_cons (fun ds hd => by rw [pStp7]; exact Tree.vc_only (vStp ds hd)) (ps_cons (fun ds hd => by rw [pStp8]; exact Tree.vc_only (vStp ds hd)) (ps_cons (fun ds hd => by rw [pStp9]; exact Tree.vc_only (vStp ds hd)) (ps_cons (fun ds hd => by rw [pStp10]; exact Tree.vc_only (vStp ds hd)) (ps_cons (fun ds hd => by rw [pStp11]; exact Tree.vc_only (vStp ds hd)) (ps_cons (fun ds hd => by rw [pStp12]; exact Tree.vc_only (vStp ds hd)) (ps_cons (fun ds hd => by rw [pStp13]; exact Tree.vc_only (vStp ds hd)) (ps_cons (fun ds hd => by rw [pStp14]; exact Tree.vc_only (vStp ds hd)) (ps_cons (fun ds hd => by rw [pStp15]; exact Tree.vc_only (vStp ds hd)) (ps_cons (fun ds hd => by rw [pStp16]; exact Tree.vc_only (vStp ds hd)) ps_nil))))))))))))))))))
theorem kShpR : tidied ttS (xShp Tryz.prog) 1000 cShpR = tShpR := by kernel_rfl
theorem okShpR : COk (TI N) Tryz.prog gls cShpR := ok_of TI_tot (cx := xShp Tryz.prog) (cs_cons okName (cs_cons okAny (cs_cons okBig cs_nil))) kShpR vShpR
theorem kWrR : tidied ttS (xWr Tryz.prog) 1000 cWrR = tWrR := by kernel_rfl
theorem okWrR : COk (TI N) Tryz.prog gls cWrR := ok_of TI_tot (cx := xWr Tryz.prog) (cs_cons okDig (cs_cons okJoin cs_nil)) kWrR vWrR
theorem kChk : tidied ttS (xChk Tryz.prog) 1000 cChk = tChk := by kernel_rfl
theorem okChk : COk (TI N) Tryz.prog gls cChk := ok_of TI_tot (cx := xChk Tryz.prog) (cs_cons okShpR cs_nil) kChk vChk
theorem kCheck : tidied ttS (xCheck Tryz.prog) 1000 (cCheck 14) = tCheck := by kernel_rfl
theorem okCheck : COk (TI N) Tryz.prog gls (cCheck 14) := ok_of TI_tot (cx := xCheck Tryz.prog) (cs_cons okChk cs_nil) kCheck vCheck
theorem kPrint : tidied ttS (xPrint Tryz.prog) 1000 (cPrint 11) = tPrint := by kernel_rfl
theorem okPrint : COk (TI N) Tryz.prog gls (cPrint 11) := ok_of TI_tot (cx := xPrint Tryz.prog) (cs_cons okCheck (cs_cons okDig (cs_cons okJoin (cs_cons okWrR cs_nil)))) kPrint vPrint
theorem kLines : tidied ttS (xLines Tryz.prog) 1000 (cLines 29) = tLines := by kernel_rfl
theorem okLines : COk (TI N) Tryz.prog gls (cLines 29) := ok_of TI_tot (cx := xLines Tryz.prog) (cs_cons okHSuf (cs_cons okCount (cs_cons okSplit cs_nil))) kLines vLines
theorem kParse : tidied ttS (xParse Tryz.prog) 1000 (cParse 12) = tParse := by kernel_rfl
theorem okParse : COk (TI N) Tryz.prog gls (cParse 12) := ok_of TI_tot (cx := xParse Tryz.prog) (cs_cons okLines (cs_cons okSplP (cs_cons okFld (cs_cons okNum (cs_cons okStp (cs_cons okCheck cs_nil)))))) kParse vParse
theorem kSame : tidied ttS (xSame Tryz.prog) 1000 cSame = tSame := by kernel_rfl
theorem okSame : COk (TI N) Tryz.prog gls cSame := ok_of TI_tot (cx := xSame Tryz.prog) cs_nil kSame vSame
theorem kFar : tidied ttS (xFar Tryz.prog) 1000 cFar = tFar := by kernel_rfl
theorem okFar : COk (TI N) Tryz.prog gls cFar := ok_of TI_tot (cx := xFar Tryz.prog) cs_nil kFar vFar
theorem okAw {I : Itp} : COk I Tryz.prog gls cAw := okMain
theorem kTxs : tidied ttS (xTxs Tryz.prog) 1000 cTxs = tTxs := by kernel_rfl
theorem okTxs : COk (TI N) Tryz.prog gls cTxs := ok_of TI_tot (cx := xTxs Tryz.prog) (cs_cons okAw (cs_cons okFar (cs_cons okPrint (cs_cons okParse (cs_cons okSame cs_nil))))) kTxs vTxs
#print axioms okTxs
end Go.Tt
