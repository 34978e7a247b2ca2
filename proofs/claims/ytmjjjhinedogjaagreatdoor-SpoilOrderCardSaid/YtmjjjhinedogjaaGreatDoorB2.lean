/-
  The three loops' contracts hold of the program. Conditions: none.
-/
import Derived.Test.YtmjjjhinedogjaaGreatDoorProg
import Derived.Test.YtmjjjhinedogjaaGreatDoorB1
import Derived.KernelRfl
namespace Go.Mg
open Go Go.Sx Go.Proofs
variable {I:Itp}
theorem Ct:qZ kX (qM Tryz.prog) 300 Zm=Yg:=by kernel_rfl
theorem P8:COk I Tryz.prog gls Zm:=zY (qY I) (cx:=qM Tryz.prog) qG Ct S9
theorem Ov:qZ kX (qM Tryz.prog) 300 XD=Bf:=by kernel_rfl
theorem TB:COk I Tryz.prog gls XD:=zY (qY I) (cx:=qM Tryz.prog) qG Ov UL
theorem Og:qZ kX (qM Tryz.prog) 300 XF=Bh:=by kernel_rfl
theorem TD:COk I Tryz.prog gls XF:=zY (qY I) (cx:=qM Tryz.prog) qG Og UU
theorem Ox:qZ kX (qM Tryz.prog) 300 XB=NC:=by kernel_rfl
theorem TG:COk I Tryz.prog gls XB:=zY (qY I) (cx:=qM Tryz.prog) qG Ox UC
theorem qqa:qZ kX (qM Tryz.prog) 300 (zG 0)=Pz:=by kernel_rfl
theorem I5:COk I Tryz.prog gls (zG 0):=zY (qY I) (cx:=qM Tryz.prog) qG qqa AX
theorem qqo:qZ kX (qM Tryz.prog) 300 (zG 1)=xR 16:=by kernel_rfl
theorem I4:COk I Tryz.prog gls (zG 1):=zY (qY I) (cx:=qM Tryz.prog) qG qqo (bq 16 (by decide) (by decide))
theorem qqi:qZ kX (qM Tryz.prog) 300 (zG 2)=xR 32:=by kernel_rfl
theorem IE:COk I Tryz.prog gls (zG 2):=zY (qY I) (cx:=qM Tryz.prog) qG qqi (bq 32 (by decide) (by decide))
theorem qqu:qZ kX (qM Tryz.prog) 300 (zG 3)=xR 48:=by kernel_rfl
theorem II:COk I Tryz.prog gls (zG 3):=zY (qY I) (cx:=qM Tryz.prog) qG qqu (bq 48 (by decide) (by decide))
theorem qql:qZ kX (qM Tryz.prog) 300 (zG 4)=xR 64:=by kernel_rfl
theorem IU:COk I Tryz.prog gls (zG 4):=zY (qY I) (cx:=qM Tryz.prog) qG qql (bq 64 (by decide) (by decide))
theorem qqc:qZ kX (qM Tryz.prog) 300 (zG 5)=xR 80:=by kernel_rfl
theorem IL:COk I Tryz.prog gls (zG 5):=zY (qY I) (cx:=qM Tryz.prog) qG qqc (bq 80 (by decide) (by decide))
theorem qqt:qZ kX (qM Tryz.prog) 300 (zG 6)=xR 96:=by kernel_rfl
theorem IC:COk I Tryz.prog gls (zG 6):=zY (qY I) (cx:=qM Tryz.prog) qG qqt (bq 96 (by decide) (by decide))
theorem qqs:qZ kX (qM Tryz.prog) 300 (zG 7)=xR 112:=by kernel_rfl
theorem IB:COk I Tryz.prog gls (zG 7):=zY (qY I) (cx:=qM Tryz.prog) qG qqs (bq 112 (by decide) (by decide))
theorem qqr:qZ kX (qM Tryz.prog) 300 (zG 8)=xR 128:=by kernel_rfl
theorem IG:COk I Tryz.prog gls (zG 8):=zY (qY I) (cx:=qM Tryz.prog) qG qqr (bq 128 (by decide) (by decide))
theorem qqp:qZ kX (qM Tryz.prog) 300 (zG 9)=xR 144:=by kernel_rfl
theorem IV:COk I Tryz.prog gls (zG 9):=zY (qY I) (cx:=qM Tryz.prog) qG qqp (bq 144 (by decide) (by decide))
theorem OZ:qZ kX (qM Tryz.prog) 300 (zG 10)=xR 160:=by kernel_rfl
theorem Cj:COk I Tryz.prog gls (zG 10):=zY (qY I) (cx:=qM Tryz.prog) qG OZ (bq 160 (by decide) (by decide))
theorem OQ:qZ kX (qM Tryz.prog) 300 (zG 11)=xR 176:=by kernel_rfl
theorem Cz:COk I Tryz.prog gls (zG 11):=zY (qY I) (cx:=qM Tryz.prog) qG OQ (bq 176 (by decide) (by decide))
theorem Oe:qZ kX (qM Tryz.prog) 300 (zG 12)=xR 192:=by kernel_rfl
theorem Cq:COk I Tryz.prog gls (zG 12):=zY (qY I) (cx:=qM Tryz.prog) qG Oe (bq 192 (by decide) (by decide))
theorem Oa:qZ kX (qM Tryz.prog) 300 (zG 13)=xR 208:=by kernel_rfl
theorem TA:COk I Tryz.prog gls (zG 13):=zY (qY I) (cx:=qM Tryz.prog) qG Oa (bq 208 (by decide) (by decide))
theorem Oo:qZ kX (qM Tryz.prog) 300 (zG 14)=xR 224:=by kernel_rfl
theorem TI:COk I Tryz.prog gls (zG 14):=zY (qY I) (cx:=qM Tryz.prog) qG Oo (bq 224 (by decide) (by decide))
theorem Oi:qZ kX (qM Tryz.prog) 300 (zG 15)=xR 240:=by kernel_rfl
theorem TU:COk I Tryz.prog gls (zG 15):=zY (qY I) (cx:=qM Tryz.prog) qG Oi (bq 240 (by decide) (by decide))
theorem Ou:qZ kX (qM Tryz.prog) 300 (zG 16)=xR 256:=by kernel_rfl
theorem TL:COk I Tryz.prog gls (zG 16):=zY (qY I) (cx:=qM Tryz.prog) qG Ou (bq 256 (by decide) (by decide))
theorem Ol:qZ kX (qM Tryz.prog) 300 (zG 17)=xR 272:=by kernel_rfl
theorem TT:COk I Tryz.prog gls (zG 17):=zY (qY I) (cx:=qM Tryz.prog) qG Ol (bq 272 (by decide) (by decide))
theorem Oc:qZ kX (qM Tryz.prog) 300 (zG 18)=xR 288:=by kernel_rfl
theorem TS:COk I Tryz.prog gls (zG 18):=zY (qY I) (cx:=qM Tryz.prog) qG Oc (bq 288 (by decide) (by decide))
theorem Ot:qZ kX (qM Tryz.prog) 300 (zG 19)=xR 304:=by kernel_rfl
theorem TP:COk I Tryz.prog gls (zG 19):=zY (qY I) (cx:=qM Tryz.prog) qG Ot (bq 304 (by decide) (by decide))
theorem Om:qZ kX (qM Tryz.prog) 300 (zG 20)=xR 320:=by kernel_rfl
theorem TN:COk I Tryz.prog gls (zG 20):=zY (qY I) (cx:=qM Tryz.prog) qG Om (bq 320 (by decide) (by decide))
theorem Oh:qZ kX (qM Tryz.prog) 300 (zG 21)=xR 336:=by kernel_rfl
theorem TM:COk I Tryz.prog gls (zG 21):=zY (qY I) (cx:=qM Tryz.prog) qG Oh (bq 336 (by decide) (by decide))
theorem wB:∀c∈loops,COk I Tryz.prog gls c:=by
 refine qg P8 (qg TB (qg TD (qg TG ?_)))
 show ∀c∈[zG 0,zG 1,zG 2,zG 3,zG 4,zG 5,zG 6,zG 7,zG 8,zG 9,zG 10,zG 11,zG 12,zG 13,zG 14,zG 15,zG 16,zG 17,zG 18,zG 19,zG 20,zG 21],COk I Tryz.prog gls c
 exact qg I5 (qg I4 (qg IE (qg II (qg IU (qg IL (qg IC (qg IB (qg IG (qg IV (qg Cj (qg Cz (qg Cq (qg TA (qg TI (qg TU (qg TL (qg TT (qg TS (qg TP (qg TN (qg TM (qG))))))))))))))))))))))
end Go.Mg
