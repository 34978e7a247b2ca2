/-
  The three loops' contracts hold of the program. Conditions: none.
-/
import Derived.Test.YtmjjjhinedogjaaGreatDoorProg
import Derived.Test.YtmjjjhinedogjaaGreatDoorB1
import Derived.KernelRfl
namespace Go.Mg
open Go Go.Sx Go.Proofs
variable {I:Itp}
theorem LH:ql kM (qP Tryz.prog) 300 ZF=YQ:=by kernel_rfl
theorem Sk:COk I Tryz.prog gls ZF:=qN (qV I) (cx:=qP Tryz.prog) qG LH Ch
theorem AB:ql kM (qP Tryz.prog) 300 XA=BL:=by kernel_rfl
theorem Lj:COk I Tryz.prog gls XA:=qN (qV I) (cx:=qP Tryz.prog) qG AB Ol
theorem A8:ql kM (qP Tryz.prog) 300 XE=BU:=by kernel_rfl
theorem Lx:COk I Tryz.prog gls XE:=qN (qV I) (cx:=qP Tryz.prog) qG A8 Ou
theorem AX:ql kM (qP Tryz.prog) 300 XO=Rz:=by kernel_rfl
theorem C9:COk I Tryz.prog gls XO:=qN (qV I) (cx:=qP Tryz.prog) qG AX Oc
theorem qz2:ql kM (qP Tryz.prog) 300 (zD 0)=Rb:=by kernel_rfl
theorem Au:COk I Tryz.prog gls (zD 0):=qN (qV I) (cx:=qP Tryz.prog) qG qz2 qqG
theorem qz1:ql kM (qP Tryz.prog) 300 (zD 1)=vk 16:=by kernel_rfl
theorem Al:COk I Tryz.prog gls (zD 1):=qN (qV I) (cx:=qP Tryz.prog) qG qz1 (bD 16 (by decide) (by decide))
theorem qz0:ql kM (qP Tryz.prog) 300 (zD 2)=vk 32:=by kernel_rfl
theorem Ac:COk I Tryz.prog gls (zD 2):=qN (qV I) (cx:=qP Tryz.prog) qG qz0 (bD 32 (by decide) (by decide))
theorem qzE:ql kM (qP Tryz.prog) 300 (zD 3)=vk 48:=by kernel_rfl
theorem Ap:COk I Tryz.prog gls (zD 3):=qN (qV I) (cx:=qP Tryz.prog) qG qzE (bD 48 (by decide) (by decide))
theorem qzA:ql kM (qP Tryz.prog) 300 (zD 4)=vk 64:=by kernel_rfl
theorem Am:COk I Tryz.prog gls (zD 4):=qN (qV I) (cx:=qP Tryz.prog) qG qzA (bD 64 (by decide) (by decide))
theorem qzO:ql kM (qP Tryz.prog) 300 (zD 5)=vk 80:=by kernel_rfl
theorem Ah:COk I Tryz.prog gls (zD 5):=qN (qV I) (cx:=qP Tryz.prog) qG qzO (bD 80 (by decide) (by decide))
theorem qzI:ql kM (qP Tryz.prog) 300 (zD 6)=vk 96:=by kernel_rfl
theorem Af:COk I Tryz.prog gls (zD 6):=qN (qV I) (cx:=qP Tryz.prog) qG qzI (bD 96 (by decide) (by decide))
theorem qzU:ql kM (qP Tryz.prog) 300 (zD 7)=vk 112:=by kernel_rfl
theorem Ad:COk I Tryz.prog gls (zD 7):=qN (qV I) (cx:=qP Tryz.prog) qG qzU (bD 112 (by decide) (by decide))
theorem qzL:ql kM (qP Tryz.prog) 300 (zD 8)=vk 128:=by kernel_rfl
theorem Ab:COk I Tryz.prog gls (zD 8):=qN (qV I) (cx:=qP Tryz.prog) qG qzL (bD 128 (by decide) (by decide))
theorem qzC:ql kM (qP Tryz.prog) 300 (zD 9)=vk 144:=by kernel_rfl
theorem Ag:COk I Tryz.prog gls (zD 9):=qN (qV I) (cx:=qP Tryz.prog) qG qzC (bD 144 (by decide) (by decide))
theorem El:ql kM (qP Tryz.prog) 300 (zD 10)=vk 160:=by kernel_rfl
theorem La:COk I Tryz.prog gls (zD 10):=qN (qV I) (cx:=qP Tryz.prog) qG El (bD 160 (by decide) (by decide))
theorem Ec:ql kM (qP Tryz.prog) 300 (zD 11)=vk 176:=by kernel_rfl
theorem Li:COk I Tryz.prog gls (zD 11):=qN (qV I) (cx:=qP Tryz.prog) qG Ec (bD 176 (by decide) (by decide))
theorem Et:ql kM (qP Tryz.prog) 300 (zD 12)=vk 192:=by kernel_rfl
theorem Lu:COk I Tryz.prog gls (zD 12):=qN (qV I) (cx:=qP Tryz.prog) qG Et (bD 192 (by decide) (by decide))
theorem Es:ql kM (qP Tryz.prog) 300 (zD 13)=vk 208:=by kernel_rfl
theorem Ll:COk I Tryz.prog gls (zD 13):=qN (qV I) (cx:=qP Tryz.prog) qG Es (bD 208 (by decide) (by decide))
theorem Er:ql kM (qP Tryz.prog) 300 (zD 14)=vk 224:=by kernel_rfl
theorem Lc:COk I Tryz.prog gls (zD 14):=qN (qV I) (cx:=qP Tryz.prog) qG Er (bD 224 (by decide) (by decide))
theorem Ep:ql kM (qP Tryz.prog) 300 (zD 15)=vk 240:=by kernel_rfl
theorem Ls:COk I Tryz.prog gls (zD 15):=qN (qV I) (cx:=qP Tryz.prog) qG Ep (bD 240 (by decide) (by decide))
theorem Em:ql kM (qP Tryz.prog) 300 (zD 16)=vk 256:=by kernel_rfl
theorem Lr:COk I Tryz.prog gls (zD 16):=qN (qV I) (cx:=qP Tryz.prog) qG Em (bD 256 (by decide) (by decide))
theorem Eh:ql kM (qP Tryz.prog) 300 (zD 17)=vk 272:=by kernel_rfl
theorem Lp:COk I Tryz.prog gls (zD 17):=qN (qV I) (cx:=qP Tryz.prog) qG Eh (bD 272 (by decide) (by decide))
theorem Ef:ql kM (qP Tryz.prog) 300 (zD 18)=vk 288:=by kernel_rfl
theorem Lm:COk I Tryz.prog gls (zD 18):=qN (qV I) (cx:=qP Tryz.prog) qG Ef (bD 288 (by decide) (by decide))
theorem Ed:ql kM (qP Tryz.prog) 300 (zD 19)=vk 304:=by kernel_rfl
theorem Lh:COk I Tryz.prog gls (zD 19):=qN (qV I) (cx:=qP Tryz.prog) qG Ed (bD 304 (by decide) (by decide))
theorem Eb:ql kM (qP Tryz.prog) 300 (zD 20)=vk 320:=by kernel_rfl
theorem Lf:COk I Tryz.prog gls (zD 20):=qN (qV I) (cx:=qP Tryz.prog) qG Eb (bD 320 (by decide) (by decide))
theorem Ey:ql kM (qP Tryz.prog) 300 (zD 21)=vk 336:=by kernel_rfl
theorem Ld:COk I Tryz.prog gls (zD 21):=qN (qV I) (cx:=qP Tryz.prog) qG Ey (bD 336 (by decide) (by decide))
theorem wC:∀c∈loops,COk I Tryz.prog gls c:=by
 refine qx Sk (qx Lj (qx Lx (qx C9 ?_)));show ∀c∈[zD 0,zD 1,zD 2,zD 3,zD 4,zD 5,zD 6,zD 7,zD 8,zD 9,zD 10,zD 11,zD 12,zD 13,zD 14,zD 15,zD 16,zD 17,zD 18,zD 19,zD 20,zD 21],COk I Tryz.prog gls c;exact qx Au (qx Al (qx Ac (qx Ap (qx Am (qx Ah (qx Af (qx Ad (qx Ab (qx Ag (qx La (qx Li (qx Lu (qx Ll (qx Lc (qx Ls (qx Lr (qx Lp (qx Lm (qx Lh (qx Lf (qx Ld (qG))))))))))))))))))))))
end Go.Mg
