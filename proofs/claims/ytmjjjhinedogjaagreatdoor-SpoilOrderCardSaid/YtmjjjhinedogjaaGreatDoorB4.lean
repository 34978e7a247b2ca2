/-
  Calls inside the example of faults, carried out by the kernel. Conditions: none.
-/
import Derived.Test.YtmjjjhinedogjaaGreatDoorB3
import Derived.KernelRfl
namespace Go.Mg
open Go Go.Sx Go.Proofs
theorem qkb:(qZ kX (wV Tryz.prog [st2]) 30000 st3).isOk=true:=by kernel_rfl
theorem EN {I:Itp}:COk I Tryz.prog gls st3:=jI (qY I) (cx:=(wV Tryz.prog [st2])) (qg EP wB) qkb
end Go.Mg
namespace Go.Mg
open Go Go.Sx Go.Proofs
theorem qkx:(qZ kX (wV Tryz.prog [st5]) 30000 st6).isOk=true:=by kernel_rfl
theorem EF {I:Itp}:COk I Tryz.prog gls st6:=jI (qY I) (cx:=(wV Tryz.prog [st5])) (qg EH wB) qkx
theorem qky:(qZ kX (wV Tryz.prog [st6]) 30000 st7).isOk=true:=by kernel_rfl
theorem ED {I:Itp}:COk I Tryz.prog gls st7:=jI (qY I) (cx:=(wV Tryz.prog [st6])) (qg EF wB) qky
theorem qqd:(qZ kX (wV Tryz.prog [Sb,Sc]) 30000 Tg).isOk=true:=by kernel_rfl
theorem IQ {I:Itp}:COk I Tryz.prog gls Tg:=jI (qY I) (cx:=(wV Tryz.prog [Sb,Sc])) (qg EG (qg qqq wB)) qqd
end Go.Mg
namespace Go.Mg
open Go Go.Sx Go.Proofs
theorem qkg:(qZ kX (wV Tryz.prog [st3]) 30000 st4).isOk=true:=by kernel_rfl
theorem EM {I:Itp}:COk I Tryz.prog gls st4:=jI (qY I) (cx:=(wV Tryz.prog [st3])) (qg EN wB) qkg
theorem qqb:(qZ kX (wV Tryz.prog [st0,st1,st4,st7,Tg]) 30000 Tv).isOk=true:=by kernel_rfl
theorem Ie {I:Itp}:COk I Tryz.prog gls Tv:=jI (qY I) (cx:=(wV Tryz.prog [st0,st1,st4,st7,Tg])) (qg ES (qg ER (qg EM (qg ED (qg IQ wB))))) qqb
theorem qqg:(qZ kX (wV Tryz.prog []) 30000 Tx).isOk=true:=by kernel_rfl
theorem Ia {I:Itp}:COk I Tryz.prog gls Tx:=jI (qY I) (cx:=(wV Tryz.prog [])) wB qqg
theorem Od:(qZ kX (wV Tryz.prog [Tv,Tx]) 30000 Sl).isOk=true:=by kernel_rfl
theorem TH {I:Itp}:COk I Tryz.prog gls Sl:=jI (qY I) (cx:=(wV Tryz.prog [Tv,Tx])) (qg Ie (qg Ia wB)) Od
end Go.Mg
