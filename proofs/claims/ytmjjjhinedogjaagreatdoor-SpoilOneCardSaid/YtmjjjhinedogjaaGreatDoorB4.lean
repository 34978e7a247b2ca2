/-
  Calls inside the example of faults, carried out by the kernel. Conditions: none.
-/
import Derived.Test.YtmjjjhinedogjaaGreatDoorB3
import Derived.KernelRfl
namespace Go.Mg
open Go Go.Sx Go.Proofs
theorem qqk:(qo jO (kS Tryz.prog [st2]) 30000 st3).isOk=true:=by kernel_rfl
theorem IW {I:Itp}:COk I Tryz.prog gls st3:=jX (qJ I) (cx:=(kS Tryz.prog [st2])) (qx IY kL) qqk
end Go.Mg
namespace Go.Mg
open Go Go.Sx Go.Proofs
theorem qqq:(qo jO (kS Tryz.prog [st5]) 30000 st6).isOk=true:=by kernel_rfl
theorem IZ {I:Itp}:COk I Tryz.prog gls st6:=jX (qJ I) (cx:=(kS Tryz.prog [st5])) (qx IJ kL) qqq
theorem E9:(qo jO (kS Tryz.prog [st6]) 30000 st7).isOk=true:=by kernel_rfl
theorem IQ {I:Itp}:COk I Tryz.prog gls st7:=jX (qJ I) (cx:=(kS Tryz.prog [st6])) (qx IZ kL) E9
theorem I9:(qo jO (kS Tryz.prog [NW,NH]) 30000 Pn).isOk=true:=by kernel_rfl
theorem CZ {I:Itp}:COk I Tryz.prog gls Pn:=jX (qJ I) (cx:=(kS Tryz.prog [NW,NH])) (qx Ia (qx II kL)) I9
end Go.Mg
namespace Go.Mg
open Go Go.Sx Go.Proofs
theorem qqj:(qo jO (kS Tryz.prog [st3]) 30000 st4).isOk=true:=by kernel_rfl
theorem IK {I:Itp}:COk I Tryz.prog gls st4:=jX (qJ I) (cx:=(kS Tryz.prog [st3])) (qx IW kL) qqj
theorem I8:(qo jO (kS Tryz.prog [st0,st1,st4,st7,Pn]) 30000 Pm).isOk=true:=by kernel_rfl
theorem CQ {I:Itp}:COk I Tryz.prog gls Pm:=jX (qJ I) (cx:=(kS Tryz.prog [st0,st1,st4,st7,Pn])) (qx IV (qx IX (qx IK (qx IQ (qx CZ kL))))) I8
theorem I7:(qo jO (kS Tryz.prog []) 30000 Ph).isOk=true:=by kernel_rfl
theorem Ce {I:Itp}:COk I Tryz.prog gls Ph:=jX (qJ I) (cx:=(kS Tryz.prog [])) kL I7
theorem Lc:(qo jO (kS Tryz.prog [Pm,Ph]) 30000 NM).isOk=true:=by kernel_rfl
theorem P8 {I:Itp}:COk I Tryz.prog gls NM:=jX (qJ I) (cx:=(kS Tryz.prog [Pm,Ph])) (qx CQ (qx Ce kL)) Lc
end Go.Mg
