/-
  All, collected, and spoil.Differ are as their contracts say. Conditions: none.
-/
import Derived.Test.YtmjjjhinedogjaaGreatDoorC1
import Derived.Test.YtmjjjhinedogjaaGreatDoorK5
import Derived.Test.YtmjjjhinedogjaaGreatDoorC5
import Derived.Test.YtmjjjhinedogjaaGreatDoorH0
import Derived.Test.YtmjjjhinedogjaaGreatDoorH1
import Derived.Test.YtmjjjhinedogjaaGreatDoorH2
import Derived.Test.YtmjjjhinedogjaaGreatDoorH3
noncomputable section
namespace Go.Sp
open Go Go.Sx Go.Proofs
set_option maxRecDepth 1000000
structure QC (m:Mask):Prop where
 h:∀ds,Sorts kS.sorts ds->(qK spS (jV Tryz.prog) 3000 kS m).vc JI ds
def mc (i:Nat):Mask:=zI.getD i .none
theorem qC (i:Nat) (h:qK spS (jV Tryz.prog) 3000 kS (zI.getD i .none)=yY.qY (zI.getD i .none)):QC (mc i):=⟨lu h qkU⟩
theorem zc0:QC (mc 0):=@qC (@OfNat.ofNat.{0} Nat (nat_lit 0) (instOfNatNat (nat_lit 0))) pC0
theorem zc1:QC (mc 1):=@qC (@OfNat.ofNat.{0} Nat (nat_lit 1) (instOfNatNat (nat_lit 1))) pC1
theorem zc2:QC (mc 2):=@qC (@OfNat.ofNat.{0} Nat (nat_lit 2) (instOfNatNat (nat_lit 2))) pC2
theorem zc3:QC (mc 3):=@qC (@OfNat.ofNat.{0} Nat (nat_lit 3) (instOfNatNat (nat_lit 3))) pC3
theorem zc4:QC (mc 4):=@qC (@OfNat.ofNat.{0} Nat (nat_lit 4) (instOfNatNat (nat_lit 4))) pC4
theorem zc5:QC (mc 5):=@qC (@OfNat.ofNat.{0} Nat (nat_lit 5) (instOfNatNat (nat_lit 5))) pC5
theorem zc6:QC (mc 6):=@qC (@OfNat.ofNat.{0} Nat (nat_lit 6) (instOfNatNat (nat_lit 6))) pC6
theorem zc7:QC (mc 7):=@qC (@OfNat.ofNat.{0} Nat (nat_lit 7) (instOfNatNat (nat_lit 7))) pC7
theorem zc8:QC (mc 8):=@qC (@OfNat.ofNat.{0} Nat (nat_lit 8) (instOfNatNat (nat_lit 8))) pC8
theorem zc9:QC (mc 9):=@qC (@OfNat.ofNat.{0} Nat (nat_lit 9) (instOfNatNat (nat_lit 9))) pC9
theorem qkK:QC (mc 10):=@qC (@OfNat.ofNat.{0} Nat (nat_lit 10) (instOfNatNat (nat_lit 10))) qwu
theorem qkJ:QC (mc 11):=@qC (@OfNat.ofNat.{0} Nat (nat_lit 11) (instOfNatNat (nat_lit 11))) qwl
theorem qkZ:QC (mc 12):=@qC (@OfNat.ofNat.{0} Nat (nat_lit 12) (instOfNatNat (nat_lit 12))) qwc
theorem qkQ:QC (mc 13):=@qC (@OfNat.ofNat.{0} Nat (nat_lit 13) (instOfNatNat (nat_lit 13))) qwt
theorem qke:QC (mc 14):=@qC (@OfNat.ofNat.{0} Nat (nat_lit 14) (instOfNatNat (nat_lit 14))) qws
theorem qka:QC (mc 15):=@qC (@OfNat.ofNat.{0} Nat (nat_lit 15) (instOfNatNat (nat_lit 15))) qwr
theorem qko:QC (mc 16):=@qC (@OfNat.ofNat.{0} Nat (nat_lit 16) (instOfNatNat (nat_lit 16))) qwp
theorem qki:QC (mc 17):=@qC (@OfNat.ofNat.{0} Nat (nat_lit 17) (instOfNatNat (nat_lit 17))) qwn
theorem qku:QC (mc 18):=@qC (@OfNat.ofNat.{0} Nat (nat_lit 18) (instOfNatNat (nat_lit 18))) qwm
theorem qkl:QC (mc 19):=@qC (@OfNat.ofNat.{0} Nat (nat_lit 19) (instOfNatNat (nat_lit 19))) qwh
theorem qkc:QC (mc 20):=@qC (@OfNat.ofNat.{0} Nat (nat_lit 20) (instOfNatNat (nat_lit 20))) qwf
theorem qkt:QC (mc 21):=@qC (@OfNat.ofNat.{0} Nat (nat_lit 21) (instOfNatNat (nat_lit 21))) qwd
theorem qks:QC (mc 22):=@qC (@OfNat.ofNat.{0} Nat (nat_lit 22) (instOfNatNat (nat_lit 22))) qwb
theorem qkr:QC (mc 23):=@qC (@OfNat.ofNat.{0} Nat (nat_lit 23) (instOfNatNat (nat_lit 23))) qwg
theorem qkp:QC (mc 24):=@qC (@OfNat.ofNat.{0} Nat (nat_lit 24) (instOfNatNat (nat_lit 24))) qwv
theorem qkn:QC (mc 25):=@qC (@OfNat.ofNat.{0} Nat (nat_lit 25) (instOfNatNat (nat_lit 25))) qwx
theorem qkm:QC (mc 26):=@qC (@OfNat.ofNat.{0} Nat (nat_lit 26) (instOfNatNat (nat_lit 26))) qwy
theorem qkh:QC (mc 27):=@qC (@OfNat.ofNat.{0} Nat (nat_lit 27) (instOfNatNat (nat_lit 27))) qww
theorem qkf:QC (mc 28):=@qC (@OfNat.ofNat.{0} Nat (nat_lit 28) (instOfNatNat (nat_lit 28))) qwk
theorem qkd:QC (mc 29):=@qC (@OfNat.ofNat.{0} Nat (nat_lit 29) (instOfNatNat (nat_lit 29))) qwj
theorem qkb:QC (mc 30):=@qC (@OfNat.ofNat.{0} Nat (nat_lit 30) (instOfNatNat (nat_lit 30))) qwz
def lC:List Mask:=[mc 0,mc 1,mc 2,mc 3,mc 4,mc 5,mc 6,mc 7,mc 8,mc 9,mc 10,mc 11,mc 12,mc 13,mc 14,mc 15,mc 16,mc 17,mc 18,mc 19,mc 20,mc 21,mc 22,mc 23,mc 24,mc 25,mc 26,mc 27,mc 28,mc 29,mc 30]
theorem evC:∀m∈lC,QC m:=(qc (Q:=QC) zc0 (qc (Q:=QC) zc1 (qc (Q:=QC) zc2 (qc (Q:=QC) zc3 (qc (Q:=QC) zc4 (qc (Q:=QC) zc5 (qc (Q:=QC) zc6 (qc (Q:=QC) zc7 (qc (Q:=QC) zc8 (qc (Q:=QC) zc9 (qc (Q:=QC) qkK (qc (Q:=QC) qkJ (qc (Q:=QC) qkZ (qc (Q:=QC) qkQ (qc (Q:=QC) qke (qc (Q:=QC) qka (qc (Q:=QC) qko (qc (Q:=QC) qki (qc (Q:=QC) qku (qc (Q:=QC) qkl (qc (Q:=QC) qkc (qc (Q:=QC) qkt (qc (Q:=QC) qks (qc (Q:=QC) qkr (qc (Q:=QC) qkp (qc (Q:=QC) qkn (qc (Q:=QC) qkm (qc (Q:=QC) qkh (qc (Q:=QC) qkf (qc (Q:=QC) qkd (qc (Q:=QC) qkb Ju)))))))))))))))))))))))))))))))
theorem qxP:∀m∈lC,∀ds,Sorts kS.sorts ds->(qK spS (jV Tryz.prog) 3000 kS m).vc JI ds:=fun m hm=>(evC m hm).h
theorem isC:(QT lC).isAll=true:=by kernel_rfl
theorem qzi:COk JI Tryz.prog gl0 cPS:=qN zy (cx:=xO Tryz.prog) qG (show ql spS (xO Tryz.prog) 3000 cPS=tPS by kernel_rfl) vPS
theorem qza:COk JI Tryz.prog gl0 cPB:=qN zy (cx:=xO Tryz.prog) qG (show ql spS (xO Tryz.prog) 3000 cPB=tPS by kernel_rfl) vPS
theorem qzo:COk JI Tryz.prog gl0 cPM:=qN zy (cx:=xO Tryz.prog) qG (show ql spS (xO Tryz.prog) 3000 cPM=tPS by kernel_rfl) vPS
theorem qzQ:COk JI Tryz.prog gl0 kS:=gq (fuel:=3000) zy (cx:=jV Tryz.prog) (qx qzi (qx qza (qx qzo qG))) isC qxP
theorem qzf:COk JI Tryz.prog gl0 Ua:=qN zy (cx:=qqr Tryz.prog) qG qyb qkG
theorem Av:COk JI Tryz.prog gl0 MR:=qN zy (cx:=UR Tryz.prog) (qx qzQ (qx qzf qG)) qzT qqV
end Go.Sp
end
