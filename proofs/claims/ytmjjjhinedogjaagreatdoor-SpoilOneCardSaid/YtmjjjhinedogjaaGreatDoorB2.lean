/-
  The three loops' contracts hold of the program. Conditions: none.
-/
import Derived.Test.YtmjjjhinedogjaaGreatDoorProg
import Derived.Test.YtmjjjhinedogjaaGreatDoorB1
import Derived.KernelRfl
namespace Go.Mg
open Go Go.Sx Go.Proofs
variable {I:Itp}
theorem Ra:qo jO (qX Tryz.prog) 300 Qq=Ka:=by kernel_rfl
theorem Mc:COk I Tryz.prog gls Qq:=zi (qJ I) (cx:=qX Tryz.prog) qM Ra Pv
theorem Lm:qo jO (qX Tryz.prog) 300 Yb=Vp:=by kernel_rfl
theorem PO:COk I Tryz.prog gls Yb:=zi (qJ I) (cx:=qX Tryz.prog) qM Lm TG
theorem Lp:qo jO (qX Tryz.prog) 300 Yd=Vr:=by kernel_rfl
theorem P5:COk I Tryz.prog gls Yd:=zi (qJ I) (cx:=qX Tryz.prog) qM Lp TB
theorem Lh:qo jO (qX Tryz.prog) 300 Yg=F6:=by kernel_rfl
theorem PI:COk I Tryz.prog gls Yg:=zi (qJ I) (cx:=qX Tryz.prog) qM Lh TV
theorem Ot:qo jO (qX Tryz.prog) 300 (zl 0)=Hz:=by kernel_rfl
theorem C9:COk I Tryz.prog gls (zl 0):=zi (qJ I) (cx:=qX Tryz.prog) qM Ot UH
theorem Om:qo jO (qX Tryz.prog) 300 (zl 1)=y7 16:=by kernel_rfl
theorem C8:COk I Tryz.prog gls (zl 1):=zi (qJ I) (cx:=qX Tryz.prog) qM Om (vC 16 (by decide) (by decide))
theorem Oh:qo jO (qX Tryz.prog) 300 (zl 2)=y7 32:=by kernel_rfl
theorem CO:COk I Tryz.prog gls (zl 2):=zi (qJ I) (cx:=qX Tryz.prog) qM Oh (vC 32 (by decide) (by decide))
theorem Od:qo jO (qX Tryz.prog) 300 (zl 3)=y7 48:=by kernel_rfl
theorem CU:COk I Tryz.prog gls (zl 3):=zi (qJ I) (cx:=qX Tryz.prog) qM Od (vC 48 (by decide) (by decide))
theorem Ob:qo jO (qX Tryz.prog) 300 (zl 4)=y7 64:=by kernel_rfl
theorem CS:COk I Tryz.prog gls (zl 4):=zi (qJ I) (cx:=qX Tryz.prog) qM Ob (vC 64 (by decide) (by decide))
theorem Og:qo jO (qX Tryz.prog) 300 (zl 5)=y7 80:=by kernel_rfl
theorem CP:COk I Tryz.prog gls (zl 5):=zi (qJ I) (cx:=qX Tryz.prog) qM Og (vC 80 (by decide) (by decide))
theorem Ov:qo jO (qX Tryz.prog) 300 (zl 6)=y7 96:=by kernel_rfl
theorem CF:COk I Tryz.prog gls (zl 6):=zi (qJ I) (cx:=qX Tryz.prog) qM Ov (vC 96 (by decide) (by decide))
theorem Ox:qo jO (qX Tryz.prog) 300 (zl 7)=y7 112:=by kernel_rfl
theorem CB:COk I Tryz.prog gls (zl 7):=zi (qJ I) (cx:=qX Tryz.prog) qM Ox (vC 112 (by decide) (by decide))
theorem Oy:qo jO (qX Tryz.prog) 300 (zl 8)=y7 128:=by kernel_rfl
theorem CG:COk I Tryz.prog gls (zl 8):=zi (qJ I) (cx:=qX Tryz.prog) qM Oy (vC 128 (by decide) (by decide))
theorem Ow:qo jO (qX Tryz.prog) 300 (zl 9)=y7 144:=by kernel_rfl
theorem CV:COk I Tryz.prog gls (zl 9):=zi (qJ I) (cx:=qX Tryz.prog) qM Ow (vC 144 (by decide) (by decide))
theorem LG:qo jO (qX Tryz.prog) 300 (zl 10)=y7 160:=by kernel_rfl
theorem Rm:COk I Tryz.prog gls (zl 10):=zi (qJ I) (cx:=qX Tryz.prog) qM LG (vC 160 (by decide) (by decide))
theorem LX:qo jO (qX Tryz.prog) 300 (zl 11)=y7 176:=by kernel_rfl
theorem Rh:COk I Tryz.prog gls (zl 11):=zi (qJ I) (cx:=qX Tryz.prog) qM LX (vC 176 (by decide) (by decide))
theorem LY:qo jO (qX Tryz.prog) 300 (zl 12)=y7 192:=by kernel_rfl
theorem Rf:COk I Tryz.prog gls (zl 12):=zi (qJ I) (cx:=qX Tryz.prog) qM LY (vC 192 (by decide) (by decide))
theorem LW:qo jO (qX Tryz.prog) 300 (zl 13)=y7 208:=by kernel_rfl
theorem Rb:COk I Tryz.prog gls (zl 13):=zi (qJ I) (cx:=qX Tryz.prog) qM LW (vC 208 (by decide) (by decide))
theorem LK:qo jO (qX Tryz.prog) 300 (zl 14)=y7 224:=by kernel_rfl
theorem Rv:COk I Tryz.prog gls (zl 14):=zi (qJ I) (cx:=qX Tryz.prog) qM LK (vC 224 (by decide) (by decide))
theorem LJ:qo jO (qX Tryz.prog) 300 (zl 15)=y7 240:=by kernel_rfl
theorem Rx:COk I Tryz.prog gls (zl 15):=zi (qJ I) (cx:=qX Tryz.prog) qM LJ (vC 240 (by decide) (by decide))
theorem LZ:qo jO (qX Tryz.prog) 300 (zl 16)=y7 256:=by kernel_rfl
theorem Ry:COk I Tryz.prog gls (zl 16):=zi (qJ I) (cx:=qX Tryz.prog) qM LZ (vC 256 (by decide) (by decide))
theorem LQ:qo jO (qX Tryz.prog) 300 (zl 17)=y7 272:=by kernel_rfl
theorem Rw:COk I Tryz.prog gls (zl 17):=zi (qJ I) (cx:=qX Tryz.prog) qM LQ (vC 272 (by decide) (by decide))
theorem La:qo jO (qX Tryz.prog) 300 (zl 18)=y7 288:=by kernel_rfl
theorem Rk:COk I Tryz.prog gls (zl 18):=zi (qJ I) (cx:=qX Tryz.prog) qM La (vC 288 (by decide) (by decide))
theorem Li:qo jO (qX Tryz.prog) 300 (zl 19)=y7 304:=by kernel_rfl
theorem Rj:COk I Tryz.prog gls (zl 19):=zi (qJ I) (cx:=qX Tryz.prog) qM Li (vC 304 (by decide) (by decide))
theorem Lu:qo jO (qX Tryz.prog) 300 (zl 20)=y7 320:=by kernel_rfl
theorem Rz:COk I Tryz.prog gls (zl 20):=zi (qJ I) (cx:=qX Tryz.prog) qM Lu (vC 320 (by decide) (by decide))
theorem Ll:qo jO (qX Tryz.prog) 300 (zl 21)=y7 336:=by kernel_rfl
theorem Rq:COk I Tryz.prog gls (zl 21):=zi (qJ I) (cx:=qX Tryz.prog) qM Ll (vC 336 (by decide) (by decide))
theorem kL:∀c∈loops,COk I Tryz.prog gls c:=by
 refine qx Mc (qx PO (qx P5 (qx PI ?_)))
 show ∀c∈[zl 0,zl 1,zl 2,zl 3,zl 4,zl 5,zl 6,zl 7,zl 8,zl 9,zl 10,zl 11,zl 12,zl 13,zl 14,zl 15,zl 16,zl 17,zl 18,zl 19,zl 20,zl 21],COk I Tryz.prog gls c
 exact qx C9 (qx C8 (qx CO (qx CU (qx CS (qx CP (qx CF (qx CB (qx CG (qx CV (qx Rm (qx Rh (qx Rf (qx Rb (qx Rv (qx Rx (qx Ry (qx Rw (qx Rk (qx Rj (qx Rz (qx Rq (qM))))))))))))))))))))))
end Go.Mg
