/-
  SpoilOrder holds of the program, if awake does. Conditions: none.
-/
import Derived.Test.YtmjjjhinedogjaaGreatDoorQ1
import Derived.Test.YtmjjjhinedogjaaGreatDoorK4
import Derived.Test.YtmjjjhinedogjaaGreatDoorC1
import Derived.Test.YtmjjjhinedogjaaGreatDoorK5
import Derived.Test.YtmjjjhinedogjaaGreatDoorK6
import Derived.Test.YtmjjjhinedogjaaGreatDoorC5
import Derived.Test.YtmjjjhinedogjaaGreatDoorC6
import Derived.Test.YtmjjjhinedogjaaGreatDoorH0
import Derived.Test.YtmjjjhinedogjaaGreatDoorH1
import Derived.Test.YtmjjjhinedogjaaGreatDoorH2
import Derived.Test.YtmjjjhinedogjaaGreatDoorH3
noncomputable section
namespace Go.Sp
open Go Go.Sx Go.Proofs
set_option maxRecDepth 1000000
structure QC (m:Mask):Prop where
 h:∀ds,Sorts kD.sorts ds→(qK spS (jX Tryz.prog) 3000 kD m).vc JI ds
def mc (i:Nat):Mask:=zU.getD i .none
theorem qC (i:Nat) (h:qK spS (jX Tryz.prog) 3000 kD (zU.getD i .none)=yh.qX (zU.getD i .none)):QC (mc i):=⟨iK h qjk⟩
theorem zc0:QC (mc 0):=@qC (@OfNat.ofNat.{0} Nat (nat_lit 0) (instOfNatNat (nat_lit 0))) pC0
theorem zc1:QC (mc 1):=@qC (@OfNat.ofNat.{0} Nat (nat_lit 1) (instOfNatNat (nat_lit 1))) pC1
theorem zc2:QC (mc 2):=@qC (@OfNat.ofNat.{0} Nat (nat_lit 2) (instOfNatNat (nat_lit 2))) pC2
theorem zc3:QC (mc 3):=@qC (@OfNat.ofNat.{0} Nat (nat_lit 3) (instOfNatNat (nat_lit 3))) pC3
theorem zc4:QC (mc 4):=@qC (@OfNat.ofNat.{0} Nat (nat_lit 4) (instOfNatNat (nat_lit 4))) pC4
theorem zc5:QC (mc 5):=@qC (@OfNat.ofNat.{0} Nat (nat_lit 5) (instOfNatNat (nat_lit 5))) pC5
theorem zc6:QC (mc 6):=@qC (@OfNat.ofNat.{0} Nat (nat_lit 6) (instOfNatNat (nat_lit 6))) pC6
theorem zc7:QC (mc 7):=@qC (@OfNat.ofNat.{0} Nat (nat_lit 7) (instOfNatNat (nat_lit 7))) pC7
theorem zc8:QC (mc 8):=@qC (@OfNat.ofNat.{0} Nat (nat_lit 8) (instOfNatNat (nat_lit 8))) pC8
theorem zc9:QC (mc 9):=@qC (@OfNat.ofNat.{0} Nat (nat_lit 9) (instOfNatNat (nat_lit 9))) pC9
theorem qz3:QC (mc 10):=@qC (@OfNat.ofNat.{0} Nat (nat_lit 10) (instOfNatNat (nat_lit 10))) qjB
theorem qz2:QC (mc 11):=@qC (@OfNat.ofNat.{0} Nat (nat_lit 11) (instOfNatNat (nat_lit 11))) qjG
theorem qz1:QC (mc 12):=@qC (@OfNat.ofNat.{0} Nat (nat_lit 12) (instOfNatNat (nat_lit 12))) qjV
theorem qz0:QC (mc 13):=@qC (@OfNat.ofNat.{0} Nat (nat_lit 13) (instOfNatNat (nat_lit 13))) qjX
theorem qzE:QC (mc 14):=@qC (@OfNat.ofNat.{0} Nat (nat_lit 14) (instOfNatNat (nat_lit 14))) qjY
theorem qzA:QC (mc 15):=@qC (@OfNat.ofNat.{0} Nat (nat_lit 15) (instOfNatNat (nat_lit 15))) qjW
theorem qzO:QC (mc 16):=@qC (@OfNat.ofNat.{0} Nat (nat_lit 16) (instOfNatNat (nat_lit 16))) qjK
theorem qzI:QC (mc 17):=@qC (@OfNat.ofNat.{0} Nat (nat_lit 17) (instOfNatNat (nat_lit 17))) qjJ
theorem qzU:QC (mc 18):=@qC (@OfNat.ofNat.{0} Nat (nat_lit 18) (instOfNatNat (nat_lit 18))) qjZ
theorem qzL:QC (mc 19):=@qC (@OfNat.ofNat.{0} Nat (nat_lit 19) (instOfNatNat (nat_lit 19))) qjQ
theorem qzC:QC (mc 20):=@qC (@OfNat.ofNat.{0} Nat (nat_lit 20) (instOfNatNat (nat_lit 20))) qje
theorem qzT:QC (mc 21):=@qC (@OfNat.ofNat.{0} Nat (nat_lit 21) (instOfNatNat (nat_lit 21))) qja
theorem qzS:QC (mc 22):=@qC (@OfNat.ofNat.{0} Nat (nat_lit 22) (instOfNatNat (nat_lit 22))) qjo
theorem qzR:QC (mc 23):=@qC (@OfNat.ofNat.{0} Nat (nat_lit 23) (instOfNatNat (nat_lit 23))) qji
theorem qzP:QC (mc 24):=@qC (@OfNat.ofNat.{0} Nat (nat_lit 24) (instOfNatNat (nat_lit 24))) qju
theorem qzN:QC (mc 25):=@qC (@OfNat.ofNat.{0} Nat (nat_lit 25) (instOfNatNat (nat_lit 25))) qjl
theorem qzM:QC (mc 26):=@qC (@OfNat.ofNat.{0} Nat (nat_lit 26) (instOfNatNat (nat_lit 26))) qjc
theorem qzH:QC (mc 27):=@qC (@OfNat.ofNat.{0} Nat (nat_lit 27) (instOfNatNat (nat_lit 27))) qjt
theorem qzF:QC (mc 28):=@qC (@OfNat.ofNat.{0} Nat (nat_lit 28) (instOfNatNat (nat_lit 28))) qjs
theorem qzD:QC (mc 29):=@qC (@OfNat.ofNat.{0} Nat (nat_lit 29) (instOfNatNat (nat_lit 29))) qjr
theorem qzB:QC (mc 30):=@qC (@OfNat.ofNat.{0} Nat (nat_lit 30) (instOfNatNat (nat_lit 30))) qjp
def lC:List Mask:=[mc 0,mc 1,mc 2,mc 3,mc 4,mc 5,mc 6,mc 7,mc 8,mc 9,mc 10,mc 11,mc 12,mc 13,mc 14,mc 15,mc 16,mc 17,mc 18,mc 19,mc 20,mc 21,mc 22,mc 23,mc 24,mc 25,mc 26,mc 27,mc 28,mc 29,mc 30]
theorem evC:∀m∈lC,QC m:=(qc (Q:=QC) zc0 (qc (Q:=QC) zc1 (qc (Q:=QC) zc2 (qc (Q:=QC) zc3 (qc (Q:=QC) zc4 (qc (Q:=QC) zc5 (qc (Q:=QC) zc6 (qc (Q:=QC) zc7 (qc (Q:=QC) zc8 (qc (Q:=QC) zc9 (qc (Q:=QC) qz3 (qc (Q:=QC) qz2 (qc (Q:=QC) qz1 (qc (Q:=QC) qz0 (qc (Q:=QC) qzE (qc (Q:=QC) qzA (qc (Q:=QC) qzO (qc (Q:=QC) qzI (qc (Q:=QC) qzU (qc (Q:=QC) qzL (qc (Q:=QC) qzC (qc (Q:=QC) qzT (qc (Q:=QC) qzS (qc (Q:=QC) qzR (qc (Q:=QC) qzP (qc (Q:=QC) qzN (qc (Q:=QC) qzM (qc (Q:=QC) qzH (qc (Q:=QC) qzF (qc (Q:=QC) qzD (qc (Q:=QC) qzB YA)))))))))))))))))))))))))))))))
theorem qwB:∀m∈lC,∀ds,Sorts kD.sorts ds→(qK spS (jX Tryz.prog) 3000 kD m).vc JI ds:=fun m hm=>(evC m hm).h
theorem isC:(Jw lC).isAll=true:=by kernel_rfl
theorem EL:COk JI Tryz.prog gl0 cPS:=zY je (cx:=xH Tryz.prog) qG (show qZ spS (xH Tryz.prog) 3000 cPS=tPS by kernel_rfl) vPS
theorem EI:COk JI Tryz.prog gl0 cPB:=zY je (cx:=xH Tryz.prog) qG (show qZ spS (xH Tryz.prog) 3000 cPB=tPS by kernel_rfl) vPS
theorem EU:COk JI Tryz.prog gl0 cPM:=zY je (cx:=xH Tryz.prog) qG (show qZ spS (xH Tryz.prog) 3000 cPM=tPS by kernel_rfl) vPS
theorem E8:COk JI Tryz.prog gl0 kD:=dJ (fuel:=3000) je (cx:=jX Tryz.prog) (qg EL (qg EI (qg EU qG))) isC qwB
theorem ET:COk JI Tryz.prog gl0 Lh:=zY je (cx:=Ao Tryz.prog) qG qkm qz8
theorem IX:COk JI Tryz.prog gl0 Mj:=zY je (cx:=LQ Tryz.prog) (qg E8 (qg ET qG)) qqn AY
structure QO (m:Mask):Prop where
 h:∀ds,Sorts KN.sorts ds→(qK spS (G9 Tryz.prog) 3000 KN m).vc JI ds
def mo (i:Nat):Mask:=Y7.getD i .none
theorem qO (i:Nat) (h:qK spS (G9 Tryz.prog) 3000 KN (Y7.getD i .none)=N7.qX (Y7.getD i .none)):QO (mo i):=⟨iK h qz9⟩
theorem zo0:QO (mo 0):=@qO (@OfNat.ofNat.{0} Nat (nat_lit 0) (instOfNatNat (nat_lit 0))) kO0
theorem zo1:QO (mo 1):=@qO (@OfNat.ofNat.{0} Nat (nat_lit 1) (instOfNatNat (nat_lit 1))) kO1
theorem zo2:QO (mo 2):=@qO (@OfNat.ofNat.{0} Nat (nat_lit 2) (instOfNatNat (nat_lit 2))) kO2
def lO:List Mask:=[mo 0,mo 1,mo 2]
theorem evO:∀m∈lO,QO m:=(qc (Q:=QO) zo0 (qc (Q:=QO) zo1 (qc (Q:=QO) zo2 YA)))
theorem qwG:∀m∈lO,∀ds,Sorts KN.sorts ds→(qK spS (G9 Tryz.prog) 3000 KN m).vc JI ds:=fun m hm=>(evO m hm).h
theorem isO:(Jw lO).isAll=true:=by kernel_rfl
theorem Ux (hA:COk JI Tryz.prog gl0 cAw):COk JI Tryz.prog gl0 KN:=
 dJ (fuel:=3000) je (cx:=G9 Tryz.prog) (qg E5 (qg EC (qg TF (qg IX (qg hA qG))))) isO qwG
#print axioms Ux
end Go.Sp
end
