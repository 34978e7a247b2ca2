/-
  Contracts of the functions that speak of a state's places. Conditions: none.
-/
import Derived.Test.YtmjjjhinedogjaaGreatDoorA5
import Derived.Test.YtmjjjhinedogjaaGreatDoorB1
noncomputable section
namespace Go.Sp
open Go Go.Sx
inductive Ly where
 | c (k:CK)
 | s (ks:List CK)
def i64:CK:=.int .i64
def qqL {α:Type} (n:Nat) (x:α):List α:=List.replicate n x
def wT:List CK:=[i64,i64]
def iY:List CK:=[i64,.lst [.int .i64,.int .i64]]
def MG:List CK:=i64::qqL 64 (.int .u8)
def Sy:List CK:=[i64,i64,i64,i64,.bool]
def Vi:List CK:=[i64,i64,i64,i64]
def UK:List Ly:=[.c i64,.c i64,.c i64,.c i64,.c i64,.c i64,.c i64,.s wT,.c .bool,.s wT,.s wT,.c i64]
def I5 (l:List Ly):Nat->List Ly
 | 0=>[]
 | n+1=>l++I5 l n
def ni:List Ly:=
 [.s [i64,i64,i64],.s [i64],.s MG,.s Vi]++(qqL 14 (.c i64)++([.c i64,.s wT,.s Sy,.c i64,.c i64,.c i64,.s wT,.s iY,.c i64,.s [i64],.s [.bool],.s [i64]]++I5 UK 16))
def Ly.avs:Nat->Nat->List Ly->List AV
 | _,_,[]=>[]
 | v,b,.c k::l=>k.av (.var v)::Ly.avs (v+1) b l
 | v,b,.s ks::l=>.slice b (.lit 0) (.var (v+1)) ks.length true::Ly.avs (v+2) (b+1) l
def Ly.mem (wr:Bool):Nat->Nat->List Ly->Mem
 | _,_,[]=>[]
 | v,b,.c _::l=>Ly.mem wr (v+1) b l
 | v,b,.s ks::l=>(b,.rows ks (.var v) (.var (v+1)) wr true)::Ly.mem wr (v+2) (b+1) l
def Ly.sorts:List Ly->List Bool
 | []=>[]
 | .c _::l=>false::Ly.sorts l
 | .s _::l=>true::false::Ly.sorts l
def stA (v b:Nat):List AV:=Ly.avs v b ni
def stM (wr:Bool) (v b:Nat):Mem:=Ly.mem wr v b ni
def stS:List Bool:=Ly.sorts ni
def NV:Nat:=281
def NB:Nat:=59
def rg (a n:Nat):List E:=(List.range n).map fun i=>.var (a+i)
def rgs (a n:Nat) (l:List E):List E:=rg a n++l
def vs (v:Nat):List E:=(List.range NV).map fun i=>.var (v+i)
def iv (i:Nat):AV:=.int .i64 (.var i)
def fZ:Contract where
 fn:=46
 sorts:=stS++[false]
 args:=[.agg (stA 0 0),iv NV]
 mem:=stM false 0 0
 nb:=NB
 pre:=[]
 outs:=[false]
 res:=iv (NV+1)
 mods:=[]
 fresh:=[]
 post:=[.pr 20 (vs 0++[.var NV,.var (NV+1)])]
def fJ:Contract where
 fn:=47
 sorts:=stS++[false,false]
 args:=[.agg (stA 0 0),iv NV,iv (NV+1)]
 mem:=stM false 0 0
 nb:=NB
 pre:=[.pr 31 (vs 0),.pr 33 (vs 0++[.var NV,.var (NV+1)])]
 outs:=[false]
 res:=iv (NV+2)
 mods:=[]
 fresh:=[]
 post:=[.pr 21 (vs 0++[.var NV,.var (NV+1),.var (NV+2)])]
def Bn:Contract where
 fn:=48
 sorts:=stS++[false,false,false]
 args:=[.agg (stA 0 0),iv NV,iv (NV+1),iv (NV+2)]
 mem:=stM false 0 0
 nb:=NB
 pre:=[.pr 31 (vs 0)]
 outs:=[false]
 res:=.bool (.var (NV+3))
 mods:=[]
 fresh:=[]
 post:=[.pr 22 (vs 0++[.var NV,.var (NV+1),.var (NV+2),.var (NV+3)])]
def Wj:Contract where
 fn:=49
 sorts:=stS++[false,false,false]
 args:=[.agg (stA 0 0),iv NV,iv (NV+1),iv (NV+2)]
 mem:=stM false 0 0
 nb:=NB
 pre:=[.pr 32 (vs 0++[.var NV,.var (NV+1),.var (NV+2)])]
 outs:=[false]
 res:=iv (NV+3)
 mods:=[]
 fresh:=[]
 post:=[.pr 23 (vs 0++[.var NV,.var (NV+1),.var (NV+2),.var (NV+3)])]
def spS (j:Nat):Option Bool:=if Nat.ble 1000 j then some (MS (j - 1000)) else none
def kn0:Kn:={ wrp:=false,globs:=Go.Mg.gls,arr:=[(61,16),(28,7),(124,64),(156,70)] }
def TF:Contract:={ Wj with fn:=69,pre:=[.pr 31 (vs 0),.pr 34 (vs 0++[.var NV,.var (NV+1),.var (NV+2)])] }
def Bh:Contract:={ Wj with fn:=71,pre:=[.pr 31 (vs 0),.pr 35 (vs 0++[.var NV,.var (NV+1),.var (NV+2)])] }
def arA (v b:Nat):List AV:=Ly.avs v b UK
def arS:List Bool:=Ly.sorts UK
def AVN:Nat:=15
def avs (v:Nat):List E:=(List.range AVN).map fun i=>.var (v+i)
def cAr:Contract where
 fn:=70
 sorts:=arS++[false,false]
 args:=[.agg (arA 0 0),iv AVN,iv (AVN+1)]
 mem:=Ly.mem false 0 0 UK
 nb:=3
 pre:=[.pr 36 (avs 0++[.var AVN,.var (AVN+1)])]
 outs:=[false]
 res:=iv (AVN+2)
 mods:=[]
 fresh:=[]
 post:=[.pr 26 (avs 0++[.var AVN,.var (AVN+1),.var (AVN+2)])]
def qjD:Contract where
 fn:=8
 sorts:=stS
 args:=[.agg (stA 0 0)]
 mem:=stM false 0 0
 nb:=NB
 pre:=[.pr 31 (vs 0)]
 outs:=stS
 res:=.agg (stA NV NB)
 mods:=[]
 fresh:=stM true NV NB
 post:=[.pr 28 (vs 0++vs NV)]
def dw:List CK:=[i64,i64,i64,i64]
def zD:Contract where
 fn:=19
 sorts:=stS
 args:=[.agg (stA 0 0)]
 mem:=stM false 0 0
 nb:=NB
 pre:=[.pr 31 (vs 0)]
 outs:=[true,false]
 res:=.slice NB (.lit 0) (.var (NV+1)) 4 true
 mods:=[]
 fresh:=[(NB,.rows dw (.var NV) (.var (NV+1)) true true)]
 post:=[.pr 24 (vs 0++[.var NV,.var (NV+1)])]
def KN:Contract where
 fn:=20
 sorts:=[true,false,true,false]
 args:=[.agg [.slice 0 (.lit 0) (.var 1) 4 true],.agg [.slice 1 (.lit 0) (.var 3) 4 true]]
 mem:=[(0,.rows Vi (.var 0) (.var 1) false true),(1,.rows Vi (.var 2) (.var 3) false true)]
 nb:=2
 pre:=[.tt (.bin .le (.lit 0) (.var 1)),.tt (.bin .le (.lit 0) (.var 3)),.rng .i64 (.var 1),.rng .i64 (.var 3)]
 outs:=[false]
 res:=.bool (.var 4)
 mods:=[]
 fresh:=[]
 post:=[.pr 25 [.var 0,.var 1,.var 2,.var 3,.var 4]]
def N2:Nat:=562
def o7:Contract where
 fn:=11
 sorts:=stS++stS
 args:=[.agg (stA 0 0),.agg (stA NV NB)]
 mem:=stM false 0 0++stM false NV NB
 nb:=118
 pre:=[.pr 31 (vs 0),.pr 31 (vs NV)]
 outs:=[true,false,false]
 res:=.tup [.slice 118 (.lit 0) (.var (N2+1)) 4 true,.int .i64 (.var (N2+2))]
 mods:=[]
 fresh:=[(118,.rows dw (.var N2) (.var (N2+1)) true true)]
 post:=[.pr 40 (vs 0++vs NV++[.var N2,.var (N2+1),.var (N2+2)])]
def KP:Contract where
 fn:=10
 sorts:=stS++stS
 args:=[.agg (stA 0 0),.agg (stA NV NB)]
 mem:=stM false 0 0++stM false NV NB
 nb:=118
 pre:=[.pr 31 (vs 0),.pr 31 (vs NV)]
 outs:=[false]
 res:=.bool (.var N2)
 mods:=[]
 fresh:=[]
 post:=[.pr 41 (vs 0++vs NV++[.var N2])]
def v (i:Nat):E:=.var i
def lt (a b:E):PE:=.tt (.bin .lt a b)
def le (a b:E):PE:=.tt (.bin .le a b)
def Oz (fn bid:Nat) (keep:List Nat) (b t i:Nat):Ann where
 fn:=fn
 bid:=bid
 keep:=keep
 tmps:=[(t,iv i)]
 drop:=[b]
 mem:=[(b,.rows iY (v (i+1)) (v 33) true true)]
 sorts:=[false,true]
 nbl:=0
 inv:=[le (.lit 0) (v i),le (v i) (v 33),.pr 50 [v 32,v 33,v (i+1)]]
 meas:=.bin .sub (v 33) (v i)
def vX (fn:Nat) (ks:List CK):Contract where
 fn:=fn
 sorts:=[true,false]
 args:=[.slice 0 (.lit 0) (v 1) ks.length true]
 mem:=[(0,.rows ks (v 0) (v 1) false true)]
 nb:=1
 pre:=[le (.lit 0) (v 1),le (v 1) (.lit 100000)]
 outs:=[true,false]
 res:=.slice 1 (.lit 0) (v 3) ks.length true
 mods:=[]
 fresh:=[(1,.rows ks (v 2) (v 3) true true)]
 post:=[.same (v 3) (v 1),.agr (v 2) (v 0) (v 1) ks.length]
def yC (fn:Nat) (ks:List SK):Contract where
 fn:=fn
 sorts:=[false]
 args:=[.lst ks (v 0)]
 mem:=[]
 nb:=0
 pre:=[le (j5 ks (v 0)) (.lit 100000)]
 outs:=[true,false]
 res:=.slice 0 (.lit 0) (v 2) ks.length true
 mods:=[]
 fresh:=[(0,.rows (ks.map SK.ck) (v 1) (v 2) true true)]
 post:=[.same (v 2) (j5 ks (v 0)),.agr (v 1) (.fn 1017 (v 0) (.lit ks.length) (.lit 0) (.lit 0)) (v 2) ks.length]
def zZ (fn:Nat) (ks:List CK):Contract:={ vX fn ks with pre:=[.pr 57 [v 1]],outs:=[],res:=.slice 1 (.lit 0) (v 1) ks.length true,fresh:=[(1,.rows ks (v 0) (v 1) true true)],post:=[] }
def dZ (fn:Nat) (ks:List SK):Contract:={ yC fn ks with pre:=[.pr 57 [j5 ks (v 0)]],outs:=[],res:=.slice 0 (.lit 0) (j5 ks (v 0)) ks.length true,fresh:=[(0,.rows (ks.map SK.ck) (.fn 1017 (v 0) (.lit ks.length) (.lit 0) (.lit 0)) (j5 ks (v 0)) true true)],post:=[] }
def clones:List Contract:=[zZ 32 [i64,i64,i64],zZ 33 [i64],zZ 34 MG,zZ 35 Vi,zZ 36 wT,zZ 37 Sy,zZ 38 wT,zZ 39 iY,zZ 41 [.bool],zZ 42 wT,zZ 43 wT,zZ 44 wT,dZ 40 [.int .i64,.int .i64],zZ 40 wT]
def pz (fn f g1 s1 g2 s2:Nat):Contract where
 fn:=fn
 sorts:=[true,false]
 args:=[.slice 0 (.lit 0) (v 1) 2 true,.func f []]
 mem:=[(0,.rows wT (v 0) (v 1) false true)]
 nb:=1
 pre:=[.pr 57 [v 1]]
 outs:=[true,false]
 res:=.slice 1 (.lit 0) (v 3) 4 true
 mods:=[]
 fresh:=[(1,.rows [.clo [⟨g1,0,2,0⟩,⟨g2,0,2,1⟩],.clo [⟨s1,0,2,0⟩,⟨s2,0,2,1⟩],i64,i64] (v 2) (v 3) true true)]
 post:=[.same (v 3) (.bin .mul (v 1) (.lit 2)),.pr 54 [v 2,v 3]]
def cPS:Contract:=pz 129 130 182 183 182 183
def cPB:Contract:=pz 132 133 187 188 187 188
def cPM:Contract:=pz 135 136 187 188 182 183
def vS (fn f g1 s1 g2 s2:Nat):Contract:={ pz fn f g1 s1 g2 s2 with
 outs:=[]
 res:=.slice 1 (.lit 0) (.bin .mul (v 1) (.lit 2)) 4 true
 fresh:=[(1,.rows [.clo [⟨g1,0,2,0⟩,⟨g2,0,2,1⟩],.clo [⟨s1,0,2,0⟩,⟨s2,0,2,1⟩],i64,i64] (.fn 1018 (.lit 0) (.lit 0) (.lit 0) (.lit 0)) (.bin .mul (v 1) (.lit 2)) true true)]
 post:=[] }
def Dc:List Contract:=[vS 129 130 182 183 182 183,vS 132 133 187 188 187 188,vS 135 136 187 188 182 183]
def PW (g:E):Mem->Mem
 | []=>[]
 | (b,.rows ks (.var 32) n w nl)::M=>(b,.rows ks g n w nl)::PW g M
 | x::M=>x::PW g M
def Pt:Contract where
 fn:=17
 sorts:=stS
 args:=[.agg (stA 0 0)]
 mem:=stM false 0 0
 nb:=NB
 pre:=[.pr 31 (vs 0)]
 outs:=[true]
 res:=.agg (stA 0 NB)
 mods:=[]
 fresh:=PW (v 281) (stM true 0 NB)
 post:=[.pr 50 [v 32,v 33,v 281]]
def Pp:Contract where
 fn:=9
 sorts:=stS++[false,false,false,false]
 args:=[.agg (stA 0 0),.agg [iv NV,iv (NV+1),iv (NV+2),iv (NV+3)]]
 mem:=stM false 0 0
 nb:=NB
 pre:=[.pr 31 (vs 0),.rng .i64 (v (NV+3))]
 outs:=stS++[false,false]
 res:=.tup [.agg (stA 285 NB),iv 566,iv 567]
 mods:=[]
 fresh:=stM true 285 NB
 post:=[.pr 29 (vs 0++([v 281,v 282,v 283,v 284]++(vs 285++[v 566,v 567])))]
def UQ:E:=.lit 2000000
def qjL:Ann where
 fn:=19
 bid:=0
 keep:=[1]
 tmps:=[(4,iv 281),(3,.slice 60 (.lit 0) (v 283) 4 true)]
 drop:=[]
 mem:=[(60,.rows dw (v 282) (v 283) true true)]
 sorts:=[false,true,false]
 nbl:=1
 inv:=[le (.lit 1) (v 281),le (v 281) (.lit 17),le (.lit 0) (v 283),.pr 51 (vs 0++[v 281,.lit 0,.lit 0,v 282,v 283])]
 meas:=.bin .sub (.lit 17) (v 281)
def qjU:Ann where
 fn:=19
 bid:=2
 keep:=[1,4]
 tmps:=[(5,iv 284),(3,.slice 61 (.lit 0) (v 286) 4 true)]
 drop:=[60]
 mem:=[(61,.rows dw (v 285) (v 286) true true)]
 sorts:=[false,true,false]
 nbl:=1
 inv:=[le (.lit 0) (v 284),le (v 284) UQ,le (.lit 0) (v 286),.pr 51 (vs 0++[v 281,v 284,.lit 0,v 285,v 286])]
 meas:=.bin .sub UQ (v 284)
def qjI:Ann where
 fn:=19
 bid:=4
 keep:=[1,4,5]
 tmps:=[(6,iv 288),(3,.slice 62 (.lit 0) (v 290) 4 true)]
 drop:=[61]
 mem:=[(62,.rows dw (v 289) (v 290) true true)]
 sorts:=[false,true,false]
 nbl:=1
 inv:=[le (.lit 0) (v 288),le (v 288) UQ,le (.lit 0) (v 290),.pr 51 (vs 0++[v 281,v 284,v 288,v 289,v 290])]
 meas:=.bin .sub UQ (v 288)
def Bu:Ann where
 fn:=20
 bid:=0
 keep:=[2,3]
 tmps:=[(5,iv 4)]
 drop:=[]
 mem:=[]
 sorts:=[false]
 nbl:=0
 inv:=[le (.lit 0) (v 4),le (v 4) (v 1),.pr 52 [v 0,v 2,v 4]]
 meas:=.bin .sub (v 1) (v 4)
def qjT:Ann where
 fn:=11
 bid:=0
 keep:=[6,7]
 tmps:=[(9,iv 567),(8,.slice 122 (.lit 0) (v 569) 4 true)]
 drop:=[]
 mem:=[(122,.rows dw (v 568) (v 569) true true)]
 sorts:=[false,true,false]
 nbl:=1
 inv:=[le (.lit 0) (v 567),le (v 567) (v 563),le (.lit 0) (v 569),.pr 53 [v 562,v 564,v 567,v 568,v 569]]
 meas:=.bin .sub (v 563) (v 567)
def Oj:Ann where
 fn:=17
 bid:=0
 keep:=[1,2,62]
 tmps:=[(63,iv 285)]
 drop:=[71]
 mem:=[(71,.rows iY (v 286) (v 33) true true)]
 sorts:=[false,true]
 nbl:=0
 inv:=[le (.lit 0) (v 285),le (v 285) (v 33),.pr 50 [v 32,v 33,v 286],.pr 55 [v 285,v 282,v 281]]
 meas:=.bin .sub (v 33) (v 285)
 split:=some (63,v 282,71,[(v 281,9)])
 leave:=true
def AZ:E:=j5 [.int .i64,.int .i64] (.sel (v 286) (v 282) 1)
def Cw:Ann where
 fn:=17
 bid:=0
 keep:=[1,2,62]
 tmps:=[(63,iv 287)]
 drop:=[71]
 mem:=[(71,.ovr iY (v 288) (v 33) (v 282) [.int .i64 (.sel (v 286) (v 282) 0),.slice 73 (.lit 0) AZ 2 true] true true)]
 sorts:=[false,true]
 nbl:=0
 inv:=[lt (v 282) (v 287),le (v 287) (v 33),.pr 50 [v 32,v 33,v 288]]
 meas:=.bin .sub (v 33) (v 287)
def G9 (p q:Nat):List CK:=[.clo [⟨182,p,2,0⟩,⟨182,q,2,0⟩,⟨182,q,2,1⟩],.clo [⟨183,p,2,0⟩,⟨183,q,2,0⟩,⟨183,q,2,1⟩],i64,i64]
def M7 (p q:Nat) (n h:E) (l b i:Nat):Ann where
 fn:=122
 bid:=0
 keep:=[0,1,5,24]
 tmps:=[(25,iv i),(6,.slice b (.lit 0) (v (i+2)) 4 true)]
 drop:=[l]
 mem:=[(b,.rows (G9 p q) (v (i+1)) (v (i+2)) true true)]
 sorts:=[false,true,false]
 nbl:=1
 inv:=[le (.lit 0) (v i),le (v i) n,.tt (.bin .eq (v (i+2)) (.bin .add (.lit 1) (.bin .mul (.lit 2) (v i)))),.pr 56 [v (i+1),v i,h]]
 meas:=.bin .sub n (v i)
def kS:Contract where
 fn:=26
 sorts:=stS
 args:=[.func 52 [.ptr NB (.lit 0) 0 0]]
 mem:=stM false 0 0++[(NB,.cells (stA 0 0) false)]
 nb:=60
 pre:=[.pr 31 (vs 0)]
 outs:=[true,false]
 res:=.slice 60 (.lit 0) (.var (NV+1)) 4 true
 mods:=[]
 fresh:=[(60,.rows dw (.var NV) (.var (NV+1)) true true)]
 post:=[.pr 24 (vs 0++[.var NV,.var (NV+1)])]
def aTh (k nv nb l:Nat) (n:E):Ann where
 fn:=52
 bid:=2
 keep:=[0,1,3,4,8,9,10,18,19]
 tmps:=[(20,iv nv)]
 drop:=if l=0 then [] else [l]
 mem:=[(60,.cells [.slice nb (.lit 0) (v (nv+2)) 4 true] true),(nb,.rows dw (v (nv+1)) (v (nv+2)) true true)]
 sorts:=[false,true,false]
 nbl:=1
 inv:=[le (.lit 0) (v nv),le (v nv) n,le (.lit 0) (v (nv+2)),.pr 51 (vs 0++[.lit k,v nv,.lit 0,v (nv+1),v (nv+2)])]
 meas:=.bin .sub n (v nv)
 on:=[(3,k)]
def aFd (k nv nb l:Nat) (i n:E):Ann where
 fn:=52
 bid:=4
 keep:=[0,1,3,4,5,8,9,10,18,19,20,26,27]
 tmps:=[(28,iv nv)]
 drop:=[l]
 mem:=[(60,.cells [.slice nb (.lit 0) (v (nv+2)) 4 true] true),(nb,.rows dw (v (nv+1)) (v (nv+2)) true true)]
 sorts:=[false,true,false]
 nbl:=1
 inv:=[le (.lit 0) (v nv),le (v nv) n,le (.lit 0) (v (nv+2)),.pr 51 (vs 0++[.lit k,i,v nv,v (nv+1),v (nv+2)])]
 meas:=.bin .sub n (v nv)
 on:=[(3,k)]
--ANNS
def Uc:List Ann:=[aTh 1 281 70 0 (v 1),aTh 2 284 72 70 (v 3),aTh 3 287 74 72 (v 5),aTh 4 290 76 74 (v 24),aTh 6 293 86 84 (v 26),aTh 8 296 108 106 (v 31),aTh 9 299 110 108 (v 33),aFd 9 305 116 110 (v 299) (v 304),aTh 11 302 120 118 (v 36),aTh 12 305 122 120 (.lit 16),aTh 13 308 124 122 (.lit 16),aFd 13 313 126 124 (v 308) (v 312),aTh 14 311 126 124 (.lit 16),aFd 14 316 128 126 (v 311) (v 315),aTh 15 314 128 126 (.lit 16),aFd 15 319 130 128 (v 314) (v 318)]
--END
def qqE (g1 s1 g2 s2:Nat):List CK:=[.clo [⟨g1,0,2,0⟩,⟨g2,0,2,1⟩],.clo [⟨s1,0,2,0⟩,⟨s2,0,2,1⟩],i64,i64]
def FV (fn g1 s1 g2 s2:Nat):Ann where
 fn:=fn
 bid:=0
 keep:=[0,1,10]
 tmps:=[(11,iv 2),(5,.slice 1 (.lit 0) (v 4) 4 true)]
 drop:=[]
 mem:=[(1,.rows (qqE g1 s1 g2 s2) (v 3) (v 4) true true)]
 sorts:=[false,true,false]
 nbl:=1
 inv:=[le (.lit 0) (v 2),le (v 2) (v 1),.tt (.bin .eq (v 4) (.bin .mul (v 2) (.lit 2))),.pr 54 [v 3,v 4]]
 meas:=.bin .sub (v 1) (v 2)
def xO (P:Program):Cx:={ P,cs:=[],dJ:=[FV 129 182 183 182 183,FV 132 187 188 187 188,FV 135 187 188 182 183],kn:=kn0 }
def qkW (P:Program):Cx:={ P,cs:=[cPS,cPB,cPM]++clones,dJ:=[Oj,Cw,M7 71 73 AZ (v 282) 134 135 289],SE:=[(122,0,6,G9 71 73)],pins:=[(122,0,5)],stops:=[(122,0)],kn:=kn0 }
def Om (P:Program):Cx:={ P,cs:=clones,dJ:=[Oz 17 0 [1,2,62] 68 63 281],kn:=kn0 }
def jk:Contract:={ Pp with pre:=[.pr 31 (vs 0),.rng .i64 (v (NV+3)),.tt (.bin .ne (v 281) (.lit 9))] }
def jJ (P:Program):Cx:={ P,cs:=Dc++[Pt],dJ:=[],stops:=[(122,0)],kn:=kn0 }
def oO:Contract:={ Pp with pre:=[.pr 31 (vs 0),.rng .i64 (v (NV+3)),.same (v 281) (.lit 9)] }
def Vk (P:Program):Cx:={ P,cs:=Dc++clones,dJ:=[Oj,Cw,M7 71 73 AZ (v 282) 134 135 289],SE:=[(122,0,6,G9 71 73)],pins:=[(122,0,5)],stops:=[(122,0)],kn:=kn0 }
def qkY (P:Program):Cx:={ P,cs:=[cPS,cPB,cPM],dJ:=M7 7 114 (j5 [.int .i64,.int .i64] (.sel (v 32) (v 299) 1)) (v 299) 113 115 302::Uc,kn:=kn0,pins:=[(122,0,5)],SE:=[(122,0,6,G9 7 114)],stops:=[(122,0)] }
def x0 (P:Program):Cx:={ P,cs:=[],dJ:=[],kn:=kn0 }
def Oh (P:Program):Cx:={ x0 P with cs:=[TF,Bh,cAr] }
def Ot (P:Program):Cx:={ x0 P with cs:=[fZ,fJ,Bn,Wj],dJ:=[qjL,qjU,qjI] }
def PX (P:Program):Cx:={ x0 P with dJ:=[Oz 8 0 [1,2] 76 3 281] }
def PY (P:Program):Cx:={ x0 P with cs:=[zD,KN],dJ:=[qjT] }
def all:List (String × (Program->Cx) × Contract × List (Nat × Nat)):=[("ClS",Om,Pt,[(17,0)]),("PutA",jJ,jk,[(17,0),(122,0),(122,1)]),("PutZ",Vk,oO,[(17,0),(122,0),(122,1)]),("PS",xO,cPS,[(129,0)]),("PB",xO,cPB,[(132,0)]),("PM",xO,cPM,[(135,0)]),("Clone",xO,vX 32 [i64,i64,i64],[]),("CloneZ",xO,vX 39 iY,[]),("CloneL",xO,yC 40 [.int .i64,.int .i64],[]), ("Col",qkY,kS,[(52,2),(52,4),(122,0)]),("Put",qkW,Pp,[(17,0),(122,0),(122,1)]),
 ("Things",x0,fZ,[]),("Fields",x0,fJ,[]),("Has",fun P=>{ x0 P with cs:=[fZ,fJ] },Bn,[]),("Get",Oh,Wj,[]),("Sys",x0,TF,[]),("Part",x0,Bh,[]),("Ar",x0,cAr,[]),
 ("Copy",PX,qjD,[(8,0)]),("All",Ot,zD,(List.range 9).map fun i=>(19,i)),("Plan",fun P=>{ x0 P with dJ:=[Bu] },KN,(List.range 9).map fun i=>(20,i)),("DifR",PY,o7,(List.range 9).map fun i=>(11,i)),("Equal",fun P=>{ x0 P with cs:=[o7] },KP,[])]
end Go.Sp
end
noncomputable section
namespace Go.Sp
open Go Go.Sx
def gi (S:List D) (i:Nat):Int:=match S[i]? with
 | some (.i n)=>n
 | _=>0
def gt (S:List D) (i:Nat):Int->Nat->Int:=match S[i]? with
 | some (.t f)=>f
 | _=>fun _ _=>0
def tr (n:Int):Int:=if n≠0 then 1 else 0
def arB (i:Int):Nat:=41+15*i.toNat
def arP (S:List D) (i:Int):List D:=(S.drop (arB i)).take 15
def qz (S:List D) (k:Int):Int:=
 if k=1 then gi S 1 else if k=2 then gi S 3 else if k=3 then gi S 5 else if k=4 then gi S 24 else if k=6 then gi S 26 else if k=8 then gi S 31 else if k=9 then gi S 33 else if k=11 then gi S 36
 else if k=12 then 16 else if k=13 then 16 else if k=14 then 16 else if k=15 then 16 else 1
def arF (A:List D) (k:Int):Int:=if k=12 then 9 else if k=13 then 2*gi A 8 else if k=14 then 2*gi A 11 else 2*gi A 13
def qj (S:List D) (k i:Int):Int:=
 if k=1 then 3 else if k=7 then 3 else if k=11 then 3 else if k=3 then 65 else if k=4 then 2 else if k=8 then 2 else if k=6 then 5 else if k=9 then 1+2*llen (gt S 32 i 1) 2
 else if k=12 then arF (arP S i) k else if k=13 then arF (arP S i) k else if k=14 then arF (arP S i) k else if k=15 then arF (arP S i) k else if k=16 then 14 else 1
def zo (S:List D) (k i f:Int):Bool:=
 decide (0<=i/\i<qz S k/\0<=f/\f<qj S k i/\(k≠11\/f=0\/f=1/\i<gi S 38\/f=2/\i<gi S 40))
def arG (A:List D) (k f:Int):Int:=
 if k=13 then gt A 7 (f / 2) (f % 2).toNat else if k=14 then gt A 10 (f / 2) (f % 2).toNat else if k=15 then gt A 12 (f / 2) (f % 2).toNat
 else if f=7 then tr (gi A 9) else if f=8 then gi A 14 else gi A f.toNat
def qh (S:List D) (k i f:Int):Int:=
 if k=1 then gt S 0 i f.toNat else if k=2 then gt S 2 i 0 else if k=3 then (if f<64 then IntKind.i64.wrap (gt S 4 i (f.toNat+1)) else gt S 4 i 0) else if k=4 then gt S 23 i f.toNat else if k=5 then gi S 22
 else if k=6 then (if f=4 then tr (gt S 25 i 4) else gt S 25 i f.toNat) else if k=7 then (if f=0 then gi S 27 else if f=1 then gi S 29 else gi S 28) else if k=8 then gt S 30 i f.toNat
 else if k=9 then (if f=0 then gt S 32 i 0 else dY (gt S 32 i 1) ((f - 1) / 2) 2 ((f - 1) % 2)) else if k=10 then gi S 34
 else if k=11 then (if f=0 then gt S 35 i 0 else if f=1 then tr (gt S 37 i 0) else gt S 39 i 0) else if k=16 then gi S (8+f.toNat) else arG (arP S i) k f
def qF (f:Int->Nat->Int) (n:Int):List (Int × Int × Int × Int):=(List.range n.toNat).map fun i:Nat=>(f i 0,f i 1,f i 2,f i 3)
def jQ (S:List D) (k i:Int) (n:Nat):List (Int × Int × Int × Int):=(List.range n).filterMap fun f:Nat=>if zo S k i f=true then some (k,i,(f:Int),qh S k i f) else none
def wz (S:List D) (k:Int) (n:Nat):List (Int × Int × Int × Int):=(List.range n).flatMap fun i:Nat=>jQ S k i (qj S k i).toNat
def mJ (S:List D) (n:Nat):List (Int × Int × Int × Int):=(List.range n).flatMap fun j:Nat=>wz S (j+1) (qz S (j+1)).toNat
def zG (S:List D) (k i f:Int):List (Int × Int × Int × Int):=mJ S (k.toNat - 1)++(wz S k i.toNat++jQ S k i f.toNat)
def j6 (S:List D):List (Int × Int × Int × Int):=mJ S 16
def qM (k f x:Int):Prop:=
 (k=3/\f<64->0<=x/\x<=255)/\(k=6/\f=4\/k=11/\f=1\/k=12/\f=7->0<=x/\x<=1)/\-9223372036854775808<=x/\x<=9223372036854775807
structure Small (S:List D):Prop where
 a1:0<=gi S 1/\gi S 1<=1100
 a3:0<=gi S 3/\gi S 3<=1100
 a5:0<=gi S 5/\gi S 5<=40
 a7:0<=gi S 7/\gi S 7<=1100
 a24:0<=gi S 24/\gi S 24<=1100
 a26:0<=gi S 26/\gi S 26<=1100
 a31:0<=gi S 31/\gi S 31<=1100
 a33:0<=gi S 33/\gi S 33<=1100
 a36:0<=gi S 36/\gi S 36<=1100
 a38:0<=gi S 38/\gi S 38<=1100
 a40:0<=gi S 40/\gi S 40<=1100
 cut:∀i,0<=i->i<gi S 33->llen (gt S 32 i 1) 2<=20
 ar:∀j,j<16->0<=gi S (49+15*j)/\gi S (49+15*j)<=600/\0<=gi S (52+15*j)/\gi S (52+15*j)<=600/\0<=gi S (54+15*j)/\gi S (54+15*j)<=600
 val:∀k i f,1<=k->k<=16->zo S k i f=true->qM k f (qh S k i f)
structure Typed (S:List D):Prop where
 ln:0<=gi S 1/\0<=gi S 3/\0<=gi S 5/\0<=gi S 7/\0<=gi S 24/\0<=gi S 26/\0<=gi S 31/\0<=gi S 33/\0<=gi S 36/\0<=gi S 38/\0<=gi S 40
 ar:∀j,j<16->0<=gi S (49+15*j)/\0<=gi S (52+15*j)/\0<=gi S (54+15*j)
 val:∀k i f,1<=k->k<=16->zo S k i f=true->qM k f (qh S k i f)
def nJ (f:Int->Nat->Int) (n:Int) (h:Int->Nat->Int) (m:Int):Prop:=n=m/\∀r:Int,0<=r->r<n->∀c,c<4->f r c=h r c
def WQ (l m:List (Int × Int × Int × Int)):Prop:=l.map (fun x=>(x.1,x.2.1,x.2.2.1))=m.map fun x=>(x.1,x.2.1,x.2.2.1)
def dX (l m:List (Int × Int × Int × Int)):List (Int × Int × Int × Int):=(l.zip m).filterMap fun x=>if x.1.2.2.2=x.2.2.2.2 then none else some x.2
def jq (f:Int->Nat->Int) (n:Int) (g:Int->Nat->Int):Prop:=
 ∀r:Int,0<=r->r<n->g r 0=f r 0/\llen (g r 1) 2=llen (f r 1) 2/\∀i c:Int,0<=i->i<llen (f r 1) 2->0<=c->c<2->dY (g r 1) i 2 c=dY (f r 1) i 2 c
def okD (S T:List D):Prop:=WQ (j6 S) (j6 T)/\nJ (gt S 6) (gi S 7) (gt T 6) (gi T 7)
def Pq (S:List D) (k i f to:Int) (e:Int):Prop:=
 (k<1\/17<=k)/\e=2\/(1<=k/\k<=16)/\(zo S k i f=false/\e=4\/zo S k i f=true/\(¬qM k f to/\e=7\/qM k f to/\e=0))
structure kD (S:List D) (k i f to:Int) (T:List D):Prop where
 th:∀k',qz T k'=qz S k'
 fd:∀k' i',0<=i'->i'<qz S k'->qj T k' i'=qj S k' i'
 al:gi T 38=gi S 38/\gi T 40=gi S 40
 ge:∀k' i' f',1<=k'->k'<=16->zo S k' i' f'=true->(k'=k/\i'=i/\f'=f->qh T k' i' f'=to)/\(¬(k'=k/\i'=i/\f'=f)->qh T k' i' f'=qh S k' i' f')
 ru:gt T 6=gt S 6/\gi T 7=gi S 7
 sm:Small T
def rz:List D:=stS.map fun b=>if b then .t fun _ _=>0 else .i 0
def CB (S:List D) (k i f to:Int) (T:List D) (was e:Int):Prop:=
 Pq S k i f to e/\(e=0->was=qh S k i f/\kD S k i f to T)/\(e≠0->was=0/\T=rz)
def eX (T:Int->Nat->Int) (n:Int):Prop:=∀r:Int,0<=r->r<n->T r 0=r+1/\T r 1=r+1/\T r 2=0/\T r 3=0
def oP (T:Int->Nat->Int) (m i:Int):Prop:=
 (T 0 0=3*i+1/\T 0 1=3*i+1/\T 0 2=0/\T 0 3=0)/\
 ∀q:Int,0<=q->q<m->(T (1+2*q) 0=3*q+2/\T (1+2*q) 1=3*q+2/\T (1+2*q) 2=0/\T (1+2*q) 3=0)/\(T (2+2*q) 0=3*q+3/\T (2+2*q) 1=3*q+3/\T (2+2*q) 2=0/\T (2+2*q) 3=0)
def dW:Nat->List D->Prop
 | 20,xs=>match xs.drop 281 with
   | [.i k,.i r]=>r=qz (xs.take 281) k
   | _=>False
 | 21,xs=>match xs.drop 281 with
   | [.i k,.i i,.i r]=>r=qj (xs.take 281) k i
   | _=>False
 | 22,xs=>match xs.drop 281 with
   | [.i k,.i i,.i f,.i r]=>decide (r≠0)=zo (xs.take 281) k i f
   | _=>False
 | 23,xs=>match xs.drop 281 with
   | [.i k,.i i,.i f,.i r]=>r=qh (xs.take 281) k i f
   | _=>False
 | 24,xs=>match xs.drop 281 with
   | [.t f,.i n]=>0<=n/\qF f n=j6 (xs.take 281)
   | _=>False
 | 25,xs=>match xs with
   | [.t f,.i n,.t h,.i m,.i r]=>r≠0↔nJ f n h m
   | _=>False
 | 26,xs=>match xs.drop 15 with
   | [.i k,.i f,.i r]=>r=arG (xs.take 15) k f
   | _=>False
 | 29,xs=>match (xs.drop 281).take 4,xs.drop 566 with
   | [.i k,.i i,.i f,.i to],[.i was,.i e]=>CB (xs.take 281) k i f to ((xs.drop 285).take 281) was e
   | _,_=>False
 | 54,xs=>match xs with
   | [.t T,.i n]=>eX T n
   | _=>False
 | 55,xs=>match xs with
   | [.i j,.i i,.i k]=>k=9->i<0\/j<=i
   | _=>False
 | 56,xs=>match xs with
   | [.t T,.i m,.i i]=>oP T m i
   | _=>False
 | 58,xs=>Typed (xs.take 281)
 | 59,xs=>match xs.drop 281 with
   | [.i r]=>r=0->Small (xs.take 281)
   | _=>False
 | 60,xs=>match xs with
   | [.t f,.i n]=>∀r:Int,0<=r->r<n->llen (f r 1) 2<=20
   | _=>False
 | 57,xs=>match xs with
   | [.i n]=>0<=n/\n<=100000
   | _=>False
 | 31,xs=>Small (xs.take 281)
 | 52,xs=>match xs with
   | [.t f,.t h,.i n]=>∀r:Int,0<=r->r<n->∀c,c<4->f r c=h r c
   | _=>False
 | 32,xs=>match xs.drop 281 with
   | [.i k,.i i,.i f]=>Small (xs.take 281)/\zo (xs.take 281) k i f=true/\1<=k/\k<=16
   | _=>False
 | 33,xs=>match xs.drop 281 with
   | [.i k,.i i]=>0<=i/\i<qz (xs.take 281) k
   | _=>False
 | 34,xs=>match xs.drop 281 with
   | [.i k,.i i,.i f]=>zo (xs.take 281) k i f=true/\(1<=k/\k<=6\/k=16)
   | _=>False
 | 35,xs=>match xs.drop 281 with
   | [.i k,.i i,.i f]=>zo (xs.take 281) k i f=true/\7<=k/\k<=11
   | _=>False
 | 36,xs=>match xs.drop 15 with
   | [.i k,.i f]=>12<=k/\k<=15/\0<=f/\f<arF (xs.take 15) k/\f<=2000
   | _=>False
 | 28,xs=>∃g,xs.drop 281=(xs.take 281).set 32 (.t g)/\jq (gt (xs.take 281) 32) (gi (xs.take 281) 33) g
 | 50,xs=>match xs with
   | [.t f,.i n,.t g]=>jq f n g
   | _=>False
 | 40,xs=>match xs.drop 562 with
   | [.t F,.i n,.i e]=>0<=n/\(e=0/\okD (xs.take 281) ((xs.drop 281).take 281)/\qF F n=dX (j6 (xs.take 281)) (j6 ((xs.drop 281).take 281))\/e=6/\n=0/\¬okD (xs.take 281) ((xs.drop 281).take 281))
   | _=>False
 | 41,xs=>match xs.drop 562 with
   | [.i r]=>r≠0↔okD (xs.take 281) ((xs.drop 281).take 281)/\dX (j6 (xs.take 281)) (j6 ((xs.drop 281).take 281))=[]
   | _=>False
 | 53,xs=>match xs with
   | [.t A,.t B,.i i,.t F,.i n]=>(∀r:Int,0<=r->r<i->A r 0=B r 0/\A r 1=B r 1/\A r 2=B r 2)/\qF F n=dX (qF A i) (qF B i)
   | _=>False
 | 51,xs=>match xs.drop 281 with
   | [.i k,.i i,.i f,.t T,.i n]=>qF T n=zG (xs.take 281) k i f
   | _=>False
 | _,_=>False
def JI:Itp:=⟨fun _ _ _ _ _=>none,dW⟩
theorem jL {I:Itp} {env:List D}:∀{l m:List E},qg I env (l++m)=(qg I env l).bind fun a=>(qg I env m).map (a ++ ·)
 | [],m=>by simp [qg]
 | e::l,m=>by
   simp only [List.cons_append,qg,jL (l:=l)];cases e.den I env <;> cases qg I env l <;> cases qg I env m <;> rfl
theorem tX {I:Itp} {env:List D} {a:Nat}:∀{n:Nat},a+n<=env.length->qg I env (rg a n)=some ((env.drop a).take n)
 | 0,_=>by simp [rg,qg]
 | n+1,h=>by
   have e:rg a (n+1)=rg a n++[.var (a+n)]:=by simp [rg,List.range_succ]
   rw [e,jL,tX (by omega)];have hlt:a+n<env.length:=by omega
   simp only [Option.bind_some,qg,E.den,List.getElem?_eq_getElem hlt,Option.map_some,Option.some.injEq];rw [List.take_succ_eq_append_getElem (by simp;omega)];simp
theorem qqA {I:Itp} {S r:List D} {j n m:Nat} {l:List E} (hS:S.length=281) (hn:n=281+m) (hm:m<=r.length) :
   (PE.pr j (rg 0 n++l)).den I (S++r)↔∃ds,qg I (S++r) l=some ds/\I.pr j (S++(r.take m++ds)):=by
 subst hn
 have e:qg I (S++r) (rg 0 (281+m)++l)=(qg I (S++r) l).map fun ds=>S++(r.take m++ds):=by
   rw [jL,tX (by simp;omega)];simp only [Option.bind_some,List.drop_zero];have:(S++r).take (281+m)=S++r.take m:=by rw [List.take_append,hS];simp [List.take_of_length_le (show S.length<=281+m by omega)]
   rw [this]
   congr 1
   funext ds
   simp
 simp only [PE.den,e];constructor
 . rintro ⟨ds,h1,h2⟩;rw [Option.map_eq_some_iff] at h1;obtain ⟨d,h3,rfl⟩:=h1;exact ⟨d,h3,h2⟩
 . rintro ⟨d,h3,h2⟩;exact ⟨_,by rw [h3];rfl,h2⟩
theorem su {I:Itp} {S r:List D} {j n m:Nat} {l:List E} (hS:S.length=281) (hn:n=281+m) (hm:m<=r.length) :
   (PE.pr j (rgs 0 n l)).den I (S++r)↔∃ds,qg I (S++r) l=some ds/\I.pr j (S++(r.take m++ds)):=qqA hS hn hm
theorem ZE:stS.length=281:=by kernel_rfl
theorem y7:∀{l:List Bool} {S:List D},Sorts l S->S.length=l.length/\∀i:Nat,(l[i]?=some false->S[i]?=some (.i (gi S i)))/\(l[i]?=some true->S[i]?=some (.t (gt S i)))
 | [],[],_=>⟨rfl,fun i=>⟨fun h=>by simp at h,fun h=>by simp at h⟩⟩
 | true::l,.t f::S,h=>by
   obtain ⟨h1,h2⟩:=y7 (l:=l) (S:=S) h;refine ⟨by simp [h1],fun i=>?_⟩;cases i with
   | zero=>exact ⟨fun h=>by simp at h,fun _=>rfl⟩
   | succ i=>simpa [gi,gt] using h2 i
 | false::l,.i n::S,h=>by
   obtain ⟨h1,h2⟩:=y7 (l:=l) (S:=S) h;refine ⟨by simp [h1],fun i=>?_⟩;cases i with
   | zero=>exact ⟨fun _=>rfl,fun h=>by simp at h⟩
   | succ i=>simpa [gi,gt] using h2 i
 | [],_::_,h=>h.elim
 | true::_,[],h=>h.elim
 | false::_,[],h=>h.elim
 | true::_,.i _::_,h=>h.elim
 | false::_,.t _::_,h=>h.elim
theorem zB:∀{l m:List Bool} {env:List D},Sorts (l++m) env->∃S r,env=S++r/\Sorts l S/\Sorts m r
 | [],m,env,h=>⟨[],env,rfl,trivial,h⟩
 | b::l,m,[],h=>by cases b <;> exact h.elim
 | true::l,m,.t f::env,h=>by
   obtain ⟨S,r,rfl,h1,h2⟩:=zB (l:=l) h;exact ⟨.t f::S,r,rfl,h1,h2⟩
 | false::l,m,.i n::env,h=>by
   obtain ⟨S,r,rfl,h1,h2⟩:=zB (l:=l) h;exact ⟨.i n::S,r,rfl,h1,h2⟩
 | true::l,m,.i n::env,h=>h.elim
 | false::l,m,.t f::env,h=>h.elim
structure St (S:List D):Prop where
 so:Sorts stS S
theorem St.len {S:List D} (h:St S):S.length=281:=(y7 h.so).1.trans ZE
theorem St.i {S r:List D} (h:St S) (i:Nat) (hi:stS[i]?=some false):(S++r)[i]?=some (.i (gi S i)):=by
 have:=((y7 h.so).2 i).1 hi;rw [List.getElem?_append_left (List.getElem?_eq_some_iff.1 this).1];exact this
theorem St.t {S r:List D} (h:St S) (i:Nat) (hi:stS[i]?=some true):(S++r)[i]?=some (.t (gt S i)):=by
 have:=((y7 h.so).2 i).2 hi;rw [List.getElem?_append_left (List.getElem?_eq_some_iff.1 this).1];exact this
theorem St.r {S r:List D} (h:St S) (i:Nat) (hi:281<=i):(S++r)[i]?=r[i - 281]?:=by
 rw [List.getElem?_append_right (by rw [h.len];exact hi),h.len]
section
variable {S:List D}
theorem p20 (h:St S) {k r:Int}:JI.pr 20 (S++[.i k,.i r])↔r=qz S k:=by simp [JI,dW,<-h.len]
theorem p21 (h:St S) {k i r:Int}:JI.pr 21 (S++[.i k,.i i,.i r])↔r=qj S k i:=by simp [JI,dW,<-h.len]
theorem p22 (h:St S) {k i f r:Int}:JI.pr 22 (S++[.i k,.i i,.i f,.i r])↔decide (r≠0)=zo S k i f:=by simp [JI,dW,<-h.len]
theorem p23 (h:St S) {k i f r:Int}:JI.pr 23 (S++[.i k,.i i,.i f,.i r])↔r=qh S k i f:=by simp [JI,dW,<-h.len]
theorem p24 (h:St S) {f:Int->Nat->Int} {n:Int}:JI.pr 24 (S++[.t f,.i n])↔0<=n/\qF f n=j6 S:=by simp [JI,dW,<-h.len]
theorem p31 (h:St S):JI.pr 31 S↔Small S:=by simp [JI,dW,<-h.len]
theorem p31' (h:St S):JI.pr 31 (S++[])↔Small S:=by rw [List.append_nil];exact p31 h
theorem p32 (h:St S) {k i f:Int}:JI.pr 32 (S++[.i k,.i i,.i f])↔Small S/\zo S k i f=true/\1<=k/\k<=16:=by simp [JI,dW,<-h.len]
theorem p33 (h:St S) {k i:Int}:JI.pr 33 (S++[.i k,.i i])↔0<=i/\i<qz S k:=by simp [JI,dW,<-h.len]
theorem p34 (h:St S) {k i f:Int}:JI.pr 34 (S++[.i k,.i i,.i f])↔zo S k i f=true/\(1<=k/\k<=6\/k=16):=by simp [JI,dW,<-h.len]
theorem p35 (h:St S) {k i f:Int}:JI.pr 35 (S++[.i k,.i i,.i f])↔zo S k i f=true/\7<=k/\k<=11:=by simp [JI,dW,<-h.len]
theorem p51 (h:St S) {k i f n:Int} {T:Int->Nat->Int}:JI.pr 51 (S++[.i k,.i i,.i f,.t T,.i n])↔qF T n=zG S k i f:=by simp [JI,dW,<-h.len]
end
end Go.Sp
noncomputable section
namespace Go.Sp
open Go Go.Sx
end Go.Sp
namespace Go.Sx
def Tree.q (a:Nat) (n:Int) (t u:Tree):Tree:=.branch (.bin .eq (.var a) (.lit n)) t u
def Tree.l (j n:Nat) (e:E):Tree:=.assert (.pr j (Go.Sp.rgs 0 n [e])) .ok
def Tree.g (e:E) (t:Tree):Tree:=.assert (.tt (.bin .le (.lit 0) e)) t
def Tree.h (e f:E) (t:Tree):Tree:=.assert (.tt (.bin .lt e f)) t
def Tree.r (j n:Nat) (e:E):Tree:=.assert (.rng .i64 e) (.l j n e)
def Tree.z (j a n x y w k m:Nat):Tree:=.qp false (.assume (.pr j (Go.Sp.rgs a n [.var x,.var y,.var w])) (.assert (.pr k (Go.Sp.rgs 0 m [])) .ok))
end Go.Sx
namespace Go.Sp
open Go Go.Sx
def Ya:Tree:=.q 281 1 (.l 20 282 (.var 1)) (.q 281 2 (.l 20 282 (.var 3)) (.q 281 3 (.l 20 282 (.var 5)) (.q 281 4 (.l 20 282 (.var 24)) (.q 281 6 (.l 20 282 (.var 26)) (.q 281 8 (.l 20 282 (.var 31)) (.q 281 9 (.l 20 282 (.var 33)) (.q 281 11 (.l 20 282 (.var 36)) (.q 281 12 (.l 20 282 (.lit 16)) (.q 281 13 (.l 20 282 (.lit 16)) (.q 281 14 (.l 20 282 (.lit 16)) (.q 281 15 (.l 20 282 (.lit 16)) (.l 20 282 (.lit 1)))))))))))))
def Ye:Tree:=.assume (.pr 31 (rgs 0 281 [])) (.assume (.pr 33 (rgs 0 283 [])) (.q 281 1 (.l 21 283 (.lit 3)) (.q 281 7 (.l 21 283 (.lit 3)) (.q 281 11 (.l 21 283 (.lit 3)) (.q 281 3 (.l 21 283 (.lit 65)) (.q 281 4 (.l 21 283 (.lit 2)) (.q 281 8 (.l 21 283 (.lit 2)) (.q 281 6 (.l 21 283 (.lit 5)) (.q 281 9 (.g (.var 282) (.h (.var 282) (.var 33) (.assert (.rng .i64 (.bin .mul (.lit 2) (.fn 1014 (.sel (.var 32) (.var 282) 1) (.lit 2) (.lit 0) (.lit 0)))) (.r 21 283 (.bin .add (.lit 1) (.bin .mul (.lit 2) (.fn 1014 (.sel (.var 32) (.var 282) 1) (.lit 2) (.lit 0) (.lit 0)))))))) (.q 281 12 (.l 21 283 (.lit 9)) (.q 281 13 (.q 282 15 (.r 21 283 (.bin .mul (.lit 2) (.var 274))) (.q 282 14 (.r 21 283 (.bin .mul (.lit 2) (.var 259))) (.q 282 13 (.r 21 283 (.bin .mul (.lit 2) (.var 244))) (.q 282 12 (.r 21 283 (.bin .mul (.lit 2) (.var 229))) (.q 282 11 (.r 21 283 (.bin .mul (.lit 2) (.var 214))) (.q 282 10 (.r 21 283 (.bin .mul (.lit 2) (.var 199))) (.q 282 9 (.r 21 283 (.bin .mul (.lit 2) (.var 184))) (.q 282 8 (.r 21 283 (.bin .mul (.lit 2) (.var 169))) (.q 282 7 (.r 21 283 (.bin .mul (.lit 2) (.var 154))) (.q 282 6 (.r 21 283 (.bin .mul (.lit 2) (.var 139))) (.q 282 5 (.r 21 283 (.bin .mul (.lit 2) (.var 124))) (.q 282 4 (.r 21 283 (.bin .mul (.lit 2) (.var 109))) (.q 282 3 (.r 21 283 (.bin .mul (.lit 2) (.var 94))) (.q 282 2 (.r 21 283 (.bin .mul (.lit 2) (.var 79))) (.q 282 1 (.r 21 283 (.bin .mul (.lit 2) (.var 64))) (.q 282 0 (.r 21 283 (.bin .mul (.lit 2) (.var 49))) (.fail 29))))))))))))))))) (.q 281 14 (.q 282 15 (.r 21 283 (.bin .mul (.lit 2) (.var 277))) (.q 282 14 (.r 21 283 (.bin .mul (.lit 2) (.var 262))) (.q 282 13 (.r 21 283 (.bin .mul (.lit 2) (.var 247))) (.q 282 12 (.r 21 283 (.bin .mul (.lit 2) (.var 232))) (.q 282 11 (.r 21 283 (.bin .mul (.lit 2) (.var 217))) (.q 282 10 (.r 21 283 (.bin .mul (.lit 2) (.var 202))) (.q 282 9 (.r 21 283 (.bin .mul (.lit 2) (.var 187))) (.q 282 8 (.r 21 283 (.bin .mul (.lit 2) (.var 172))) (.q 282 7 (.r 21 283 (.bin .mul (.lit 2) (.var 157))) (.q 282 6 (.r 21 283 (.bin .mul (.lit 2) (.var 142))) (.q 282 5 (.r 21 283 (.bin .mul (.lit 2) (.var 127))) (.q 282 4 (.r 21 283 (.bin .mul (.lit 2) (.var 112))) (.q 282 3 (.r 21 283 (.bin .mul (.lit 2) (.var 97))) (.q 282 2 (.r 21 283 (.bin .mul (.lit 2) (.var 82))) (.q 282 1 (.r 21 283 (.bin .mul (.lit 2) (.var 67))) (.q 282 0 (.r 21 283 (.bin .mul (.lit 2) (.var 52))) (.fail 29))))))))))))))))) (.q 281 15 (.q 282 15 (.r 21 283 (.bin .mul (.lit 2) (.var 279))) (.q 282 14 (.r 21 283 (.bin .mul (.lit 2) (.var 264))) (.q 282 13 (.r 21 283 (.bin .mul (.lit 2) (.var 249))) (.q 282 12 (.r 21 283 (.bin .mul (.lit 2) (.var 234))) (.q 282 11 (.r 21 283 (.bin .mul (.lit 2) (.var 219))) (.q 282 10 (.r 21 283 (.bin .mul (.lit 2) (.var 204))) (.q 282 9 (.r 21 283 (.bin .mul (.lit 2) (.var 189))) (.q 282 8 (.r 21 283 (.bin .mul (.lit 2) (.var 174))) (.q 282 7 (.r 21 283 (.bin .mul (.lit 2) (.var 159))) (.q 282 6 (.r 21 283 (.bin .mul (.lit 2) (.var 144))) (.q 282 5 (.r 21 283 (.bin .mul (.lit 2) (.var 129))) (.q 282 4 (.r 21 283 (.bin .mul (.lit 2) (.var 114))) (.q 282 3 (.r 21 283 (.bin .mul (.lit 2) (.var 99))) (.q 282 2 (.r 21 283 (.bin .mul (.lit 2) (.var 84))) (.q 282 1 (.r 21 283 (.bin .mul (.lit 2) (.var 69))) (.q 282 0 (.r 21 283 (.bin .mul (.lit 2) (.var 54))) (.fail 29))))))))))))))))) (.q 281 16 (.l 21 283 (.lit 14)) (.l 21 283 (.lit 1))))))))))))))))
def OB:Tree:=.assume (.pr 31 (rgs 0 281 [])) (.branch (.bin .lt (.var 282) (.lit 0)) (.l 22 284 (.lit 0)) (.qp false (.assume (.pr 20 (rgs 0 282 [.var 284])) (.branch (.bin .le (.var 284) (.var 282)) (.l 22 284 (.lit 0)) (.branch (.bin .lt (.var 283) (.lit 0)) (.l 22 284 (.lit 0)) (.assert (.pr 33 (rgs 0 283 [])) (.qp false (.assume (.pr 21 (rgs 0 283 [.var 285])) (.branch (.bin .le (.var 285) (.var 283)) (.l 22 284 (.lit 0)) (.branch (.bin .eq (.bin .eq (.var 281) (.lit 11)) (.lit 0)) (.l 22 284 (.lit 1)) (.q 283 0 (.l 22 284 (.lit 1)) (.q 283 1 (.branch (.bin .lt (.var 282) (.var 38)) (.l 22 284 (.lit 1)) (.q 283 2 (.l 22 284 (.bin .lt (.var 282) (.var 40))) (.l 22 284 (.lit 0)))) (.q 283 2 (.l 22 284 (.bin .lt (.var 282) (.var 40))) (.l 22 284 (.lit 0)))))))))))))))
def OD:Tree:=.assume (.pr 32 (rgs 0 284 [])) (.q 281 1 (.assert (.pr 31 (rgs 0 281 [])) (.assert (.pr 34 (rgs 0 284 [])) .ok)) (.q 281 2 (.assert (.pr 31 (rgs 0 281 [])) (.assert (.pr 34 (rgs 0 284 [])) .ok)) (.q 281 3 (.assert (.pr 31 (rgs 0 281 [])) (.assert (.pr 34 (rgs 0 284 [])) .ok)) (.q 281 4 (.assert (.pr 31 (rgs 0 281 [])) (.assert (.pr 34 (rgs 0 284 [])) .ok)) (.q 281 5 (.assert (.pr 31 (rgs 0 281 [])) (.assert (.pr 34 (rgs 0 284 [])) .ok)) (.q 281 6 (.assert (.pr 31 (rgs 0 281 [])) (.assert (.pr 34 (rgs 0 284 [])) .ok)) (.q 281 16 (.assert (.pr 31 (rgs 0 281 [])) (.assert (.pr 34 (rgs 0 284 [])) .ok)) (.q 281 12 (.q 282 15 (.assert (.pr 36 (rgs 266 16 [.var 283])) (.qp false (.assume (.pr 26 (rgs 266 16 [.var 283,.var 284])) (.assert (.pr 23 (rgs 0 285 [])) .ok)))) (.q 282 14 (.assert (.pr 36 (rgs 251 15 [.var 281,.var 283])) (.z 26 251 15 281 283 284 23 285)) (.q 282 13 (.assert (.pr 36 (rgs 236 15 [.var 281,.var 283])) (.z 26 236 15 281 283 284 23 285)) (.q 282 12 (.assert (.pr 36 (rgs 221 15 [.var 281,.var 283])) (.z 26 221 15 281 283 284 23 285)) (.q 282 11 (.assert (.pr 36 (rgs 206 15 [.var 281,.var 283])) (.z 26 206 15 281 283 284 23 285)) (.q 282 10 (.assert (.pr 36 (rgs 191 15 [.var 281,.var 283])) (.z 26 191 15 281 283 284 23 285)) (.q 282 9 (.assert (.pr 36 (rgs 176 15 [.var 281,.var 283])) (.z 26 176 15 281 283 284 23 285)) (.q 282 8 (.assert (.pr 36 (rgs 161 15 [.var 281,.var 283])) (.z 26 161 15 281 283 284 23 285)) (.q 282 7 (.assert (.pr 36 (rgs 146 15 [.var 281,.var 283])) (.z 26 146 15 281 283 284 23 285)) (.q 282 6 (.assert (.pr 36 (rgs 131 15 [.var 281,.var 283])) (.z 26 131 15 281 283 284 23 285)) (.q 282 5 (.assert (.pr 36 (rgs 116 15 [.var 281,.var 283])) (.z 26 116 15 281 283 284 23 285)) (.q 282 4 (.assert (.pr 36 (rgs 101 15 [.var 281,.var 283])) (.z 26 101 15 281 283 284 23 285)) (.q 282 3 (.assert (.pr 36 (rgs 86 15 [.var 281,.var 283])) (.z 26 86 15 281 283 284 23 285)) (.q 282 2 (.assert (.pr 36 (rgs 71 15 [.var 281,.var 283])) (.z 26 71 15 281 283 284 23 285)) (.q 282 1 (.assert (.pr 36 (rgs 56 15 [.var 281,.var 283])) (.z 26 56 15 281 283 284 23 285)) (.q 282 0 (.assert (.pr 36 (rgs 41 15 [.var 281,.var 283])) (.z 26 41 15 281 283 284 23 285)) (.fail 29))))))))))))))))) (.q 281 13 (.q 282 15 (.assert (.pr 36 (rgs 266 16 [.var 283])) (.qp false (.assume (.pr 26 (rgs 266 16 [.var 283,.var 284])) (.assert (.pr 23 (rgs 0 285 [])) .ok)))) (.q 282 14 (.assert (.pr 36 (rgs 251 15 [.var 281,.var 283])) (.z 26 251 15 281 283 284 23 285)) (.q 282 13 (.assert (.pr 36 (rgs 236 15 [.var 281,.var 283])) (.z 26 236 15 281 283 284 23 285)) (.q 282 12 (.assert (.pr 36 (rgs 221 15 [.var 281,.var 283])) (.z 26 221 15 281 283 284 23 285)) (.q 282 11 (.assert (.pr 36 (rgs 206 15 [.var 281,.var 283])) (.z 26 206 15 281 283 284 23 285)) (.q 282 10 (.assert (.pr 36 (rgs 191 15 [.var 281,.var 283])) (.z 26 191 15 281 283 284 23 285)) (.q 282 9 (.assert (.pr 36 (rgs 176 15 [.var 281,.var 283])) (.z 26 176 15 281 283 284 23 285)) (.q 282 8 (.assert (.pr 36 (rgs 161 15 [.var 281,.var 283])) (.z 26 161 15 281 283 284 23 285)) (.q 282 7 (.assert (.pr 36 (rgs 146 15 [.var 281,.var 283])) (.z 26 146 15 281 283 284 23 285)) (.q 282 6 (.assert (.pr 36 (rgs 131 15 [.var 281,.var 283])) (.z 26 131 15 281 283 284 23 285)) (.q 282 5 (.assert (.pr 36 (rgs 116 15 [.var 281,.var 283])) (.z 26 116 15 281 283 284 23 285)) (.q 282 4 (.assert (.pr 36 (rgs 101 15 [.var 281,.var 283])) (.z 26 101 15 281 283 284 23 285)) (.q 282 3 (.assert (.pr 36 (rgs 86 15 [.var 281,.var 283])) (.z 26 86 15 281 283 284 23 285)) (.q 282 2 (.assert (.pr 36 (rgs 71 15 [.var 281,.var 283])) (.z 26 71 15 281 283 284 23 285)) (.q 282 1 (.assert (.pr 36 (rgs 56 15 [.var 281,.var 283])) (.z 26 56 15 281 283 284 23 285)) (.q 282 0 (.assert (.pr 36 (rgs 41 15 [.var 281,.var 283])) (.z 26 41 15 281 283 284 23 285)) (.fail 29))))))))))))))))) (.q 281 14 (.q 282 15 (.assert (.pr 36 (rgs 266 16 [.var 283])) (.qp false (.assume (.pr 26 (rgs 266 16 [.var 283,.var 284])) (.assert (.pr 23 (rgs 0 285 [])) .ok)))) (.q 282 14 (.assert (.pr 36 (rgs 251 15 [.var 281,.var 283])) (.z 26 251 15 281 283 284 23 285)) (.q 282 13 (.assert (.pr 36 (rgs 236 15 [.var 281,.var 283])) (.z 26 236 15 281 283 284 23 285)) (.q 282 12 (.assert (.pr 36 (rgs 221 15 [.var 281,.var 283])) (.z 26 221 15 281 283 284 23 285)) (.q 282 11 (.assert (.pr 36 (rgs 206 15 [.var 281,.var 283])) (.z 26 206 15 281 283 284 23 285)) (.q 282 10 (.assert (.pr 36 (rgs 191 15 [.var 281,.var 283])) (.z 26 191 15 281 283 284 23 285)) (.q 282 9 (.assert (.pr 36 (rgs 176 15 [.var 281,.var 283])) (.z 26 176 15 281 283 284 23 285)) (.q 282 8 (.assert (.pr 36 (rgs 161 15 [.var 281,.var 283])) (.z 26 161 15 281 283 284 23 285)) (.q 282 7 (.assert (.pr 36 (rgs 146 15 [.var 281,.var 283])) (.z 26 146 15 281 283 284 23 285)) (.q 282 6 (.assert (.pr 36 (rgs 131 15 [.var 281,.var 283])) (.z 26 131 15 281 283 284 23 285)) (.q 282 5 (.assert (.pr 36 (rgs 116 15 [.var 281,.var 283])) (.z 26 116 15 281 283 284 23 285)) (.q 282 4 (.assert (.pr 36 (rgs 101 15 [.var 281,.var 283])) (.z 26 101 15 281 283 284 23 285)) (.q 282 3 (.assert (.pr 36 (rgs 86 15 [.var 281,.var 283])) (.z 26 86 15 281 283 284 23 285)) (.q 282 2 (.assert (.pr 36 (rgs 71 15 [.var 281,.var 283])) (.z 26 71 15 281 283 284 23 285)) (.q 282 1 (.assert (.pr 36 (rgs 56 15 [.var 281,.var 283])) (.z 26 56 15 281 283 284 23 285)) (.q 282 0 (.assert (.pr 36 (rgs 41 15 [.var 281,.var 283])) (.z 26 41 15 281 283 284 23 285)) (.fail 29))))))))))))))))) (.q 281 15 (.q 282 15 (.assert (.pr 36 (rgs 266 16 [.var 283])) (.qp false (.assume (.pr 26 (rgs 266 16 [.var 283,.var 284])) (.assert (.pr 23 (rgs 0 285 [])) .ok)))) (.q 282 14 (.assert (.pr 36 (rgs 251 15 [.var 281,.var 283])) (.z 26 251 15 281 283 284 23 285)) (.q 282 13 (.assert (.pr 36 (rgs 236 15 [.var 281,.var 283])) (.z 26 236 15 281 283 284 23 285)) (.q 282 12 (.assert (.pr 36 (rgs 221 15 [.var 281,.var 283])) (.z 26 221 15 281 283 284 23 285)) (.q 282 11 (.assert (.pr 36 (rgs 206 15 [.var 281,.var 283])) (.z 26 206 15 281 283 284 23 285)) (.q 282 10 (.assert (.pr 36 (rgs 191 15 [.var 281,.var 283])) (.z 26 191 15 281 283 284 23 285)) (.q 282 9 (.assert (.pr 36 (rgs 176 15 [.var 281,.var 283])) (.z 26 176 15 281 283 284 23 285)) (.q 282 8 (.assert (.pr 36 (rgs 161 15 [.var 281,.var 283])) (.z 26 161 15 281 283 284 23 285)) (.q 282 7 (.assert (.pr 36 (rgs 146 15 [.var 281,.var 283])) (.z 26 146 15 281 283 284 23 285)) (.q 282 6 (.assert (.pr 36 (rgs 131 15 [.var 281,.var 283])) (.z 26 131 15 281 283 284 23 285)) (.q 282 5 (.assert (.pr 36 (rgs 116 15 [.var 281,.var 283])) (.z 26 116 15 281 283 284 23 285)) (.q 282 4 (.assert (.pr 36 (rgs 101 15 [.var 281,.var 283])) (.z 26 101 15 281 283 284 23 285)) (.q 282 3 (.assert (.pr 36 (rgs 86 15 [.var 281,.var 283])) (.z 26 86 15 281 283 284 23 285)) (.q 282 2 (.assert (.pr 36 (rgs 71 15 [.var 281,.var 283])) (.z 26 71 15 281 283 284 23 285)) (.q 282 1 (.assert (.pr 36 (rgs 56 15 [.var 281,.var 283])) (.z 26 56 15 281 283 284 23 285)) (.q 282 0 (.assert (.pr 36 (rgs 41 15 [.var 281,.var 283])) (.z 26 41 15 281 283 284 23 285)) (.fail 29))))))))))))))))) (.assert (.pr 31 (rgs 0 281 [])) (.assert (.pr 35 (rgs 0 284 [])) .ok)))))))))))))
def OG:Tree:=.assume (.pr 31 (rgs 0 281 [])) (.assume (.pr 34 (rgs 0 284 [])) (.q 281 1 (.g (.var 282) (.h (.var 282) (.var 1) (.g (.var 283) (.h (.var 283) (.lit 3) (.l 23 284 (.sel (.upd (.upd (.upd .zt (.lit 0) 0 (.sel (.var 0) (.var 282) 0)) (.lit 1) 0 (.sel (.var 0) (.var 282) 1)) (.lit 2) 0 (.sel (.var 0) (.var 282) 2)) (.var 283) 0)))))) (.q 281 2 (.g (.var 282) (.h (.var 282) (.var 3) (.l 23 284 (.sel (.var 2) (.var 282) 0)))) (.q 281 3 (.branch (.bin .lt (.var 283) (.lit 64)) (.g (.var 282) (.h (.var 282) (.var 5) (.q 283 63 (.l 23 284 (.wrap .i64 (.sel (.var 4) (.var 282) 64))) (.q 283 62 (.l 23 284 (.wrap .i64 (.sel (.var 4) (.var 282) 63))) (.q 283 61 (.l 23 284 (.wrap .i64 (.sel (.var 4) (.var 282) 62))) (.q 283 60 (.l 23 284 (.wrap .i64 (.sel (.var 4) (.var 282) 61))) (.q 283 59 (.l 23 284 (.wrap .i64 (.sel (.var 4) (.var 282) 60))) (.q 283 58 (.l 23 284 (.wrap .i64 (.sel (.var 4) (.var 282) 59))) (.q 283 57 (.l 23 284 (.wrap .i64 (.sel (.var 4) (.var 282) 58))) (.q 283 56 (.l 23 284 (.wrap .i64 (.sel (.var 4) (.var 282) 57))) (.q 283 55 (.l 23 284 (.wrap .i64 (.sel (.var 4) (.var 282) 56))) (.q 283 54 (.l 23 284 (.wrap .i64 (.sel (.var 4) (.var 282) 55))) (.q 283 53 (.l 23 284 (.wrap .i64 (.sel (.var 4) (.var 282) 54))) (.q 283 52 (.l 23 284 (.wrap .i64 (.sel (.var 4) (.var 282) 53))) (.q 283 51 (.l 23 284 (.wrap .i64 (.sel (.var 4) (.var 282) 52))) (.q 283 50 (.l 23 284 (.wrap .i64 (.sel (.var 4) (.var 282) 51))) (.q 283 49 (.l 23 284 (.wrap .i64 (.sel (.var 4) (.var 282) 50))) (.q 283 48 (.l 23 284 (.wrap .i64 (.sel (.var 4) (.var 282) 49))) (.q 283 47 (.l 23 284 (.wrap .i64 (.sel (.var 4) (.var 282) 48))) (.q 283 46 (.l 23 284 (.wrap .i64 (.sel (.var 4) (.var 282) 47))) (.q 283 45 (.l 23 284 (.wrap .i64 (.sel (.var 4) (.var 282) 46))) (.q 283 44 (.l 23 284 (.wrap .i64 (.sel (.var 4) (.var 282) 45))) (.q 283 43 (.l 23 284 (.wrap .i64 (.sel (.var 4) (.var 282) 44))) (.q 283 42 (.l 23 284 (.wrap .i64 (.sel (.var 4) (.var 282) 43))) (.q 283 41 (.l 23 284 (.wrap .i64 (.sel (.var 4) (.var 282) 42))) (.q 283 40 (.l 23 284 (.wrap .i64 (.sel (.var 4) (.var 282) 41))) (.q 283 39 (.l 23 284 (.wrap .i64 (.sel (.var 4) (.var 282) 40))) (.q 283 38 (.l 23 284 (.wrap .i64 (.sel (.var 4) (.var 282) 39))) (.q 283 37 (.l 23 284 (.wrap .i64 (.sel (.var 4) (.var 282) 38))) (.q 283 36 (.l 23 284 (.wrap .i64 (.sel (.var 4) (.var 282) 37))) (.q 283 35 (.l 23 284 (.wrap .i64 (.sel (.var 4) (.var 282) 36))) (.q 283 34 (.l 23 284 (.wrap .i64 (.sel (.var 4) (.var 282) 35))) (.q 283 33 (.l 23 284 (.wrap .i64 (.sel (.var 4) (.var 282) 34))) (.q 283 32 (.l 23 284 (.wrap .i64 (.sel (.var 4) (.var 282) 33))) (.q 283 31 (.l 23 284 (.wrap .i64 (.sel (.var 4) (.var 282) 32))) (.q 283 30 (.l 23 284 (.wrap .i64 (.sel (.var 4) (.var 282) 31))) (.q 283 29 (.l 23 284 (.wrap .i64 (.sel (.var 4) (.var 282) 30))) (.q 283 28 (.l 23 284 (.wrap .i64 (.sel (.var 4) (.var 282) 29))) (.q 283 27 (.l 23 284 (.wrap .i64 (.sel (.var 4) (.var 282) 28))) (.q 283 26 (.l 23 284 (.wrap .i64 (.sel (.var 4) (.var 282) 27))) (.q 283 25 (.l 23 284 (.wrap .i64 (.sel (.var 4) (.var 282) 26))) (.q 283 24 (.l 23 284 (.wrap .i64 (.sel (.var 4) (.var 282) 25))) (.q 283 23 (.l 23 284 (.wrap .i64 (.sel (.var 4) (.var 282) 24))) (.q 283 22 (.l 23 284 (.wrap .i64 (.sel (.var 4) (.var 282) 23))) (.q 283 21 (.l 23 284 (.wrap .i64 (.sel (.var 4) (.var 282) 22))) (.q 283 20 (.l 23 284 (.wrap .i64 (.sel (.var 4) (.var 282) 21))) (.q 283 19 (.l 23 284 (.wrap .i64 (.sel (.var 4) (.var 282) 20))) (.q 283 18 (.l 23 284 (.wrap .i64 (.sel (.var 4) (.var 282) 19))) (.q 283 17 (.l 23 284 (.wrap .i64 (.sel (.var 4) (.var 282) 18))) (.q 283 16 (.l 23 284 (.wrap .i64 (.sel (.var 4) (.var 282) 17))) (.q 283 15 (.l 23 284 (.wrap .i64 (.sel (.var 4) (.var 282) 16))) (.q 283 14 (.l 23 284 (.wrap .i64 (.sel (.var 4) (.var 282) 15))) (.q 283 13 (.l 23 284 (.wrap .i64 (.sel (.var 4) (.var 282) 14))) (.q 283 12 (.l 23 284 (.wrap .i64 (.sel (.var 4) (.var 282) 13))) (.q 283 11 (.l 23 284 (.wrap .i64 (.sel (.var 4) (.var 282) 12))) (.q 283 10 (.l 23 284 (.wrap .i64 (.sel (.var 4) (.var 282) 11))) (.q 283 9 (.l 23 284 (.wrap .i64 (.sel (.var 4) (.var 282) 10))) (.q 283 8 (.l 23 284 (.wrap .i64 (.sel (.var 4) (.var 282) 9))) (.q 283 7 (.l 23 284 (.wrap .i64 (.sel (.var 4) (.var 282) 8))) (.q 283 6 (.l 23 284 (.wrap .i64 (.sel (.var 4) (.var 282) 7))) (.q 283 5 (.l 23 284 (.wrap .i64 (.sel (.var 4) (.var 282) 6))) (.q 283 4 (.l 23 284 (.wrap .i64 (.sel (.var 4) (.var 282) 5))) (.q 283 3 (.l 23 284 (.wrap .i64 (.sel (.var 4) (.var 282) 4))) (.q 283 2 (.l 23 284 (.wrap .i64 (.sel (.var 4) (.var 282) 3))) (.q 283 1 (.l 23 284 (.wrap .i64 (.sel (.var 4) (.var 282) 2))) (.q 283 0 (.l 23 284 (.wrap .i64 (.sel (.var 4) (.var 282) 1))) (.fail 29))))))))))))))))))))))))))))))))))))))))))))))))))))))))))))))))))) (.g (.var 282) (.h (.var 282) (.var 5) (.l 23 284 (.sel (.var 4) (.var 282) 0))))) (.q 281 4 (.g (.var 282) (.h (.var 282) (.var 24) (.g (.var 283) (.h (.var 283) (.lit 2) (.l 23 284 (.sel (.upd (.upd .zt (.lit 0) 0 (.sel (.var 23) (.var 282) 0)) (.lit 1) 0 (.sel (.var 23) (.var 282) 1)) (.var 283) 0)))))) (.q 281 5 (.l 23 284 (.var 22)) (.q 281 6 (.g (.var 282) (.h (.var 282) (.var 26) (.branch (.sel (.var 25) (.var 282) 4) (.g (.var 283) (.h (.var 283) (.lit 5) (.l 23 284 (.sel (.upd (.upd (.upd (.upd (.upd .zt (.lit 0) 0 (.sel (.var 25) (.var 282) 0)) (.lit 1) 0 (.sel (.var 25) (.var 282) 1)) (.lit 2) 0 (.sel (.var 25) (.var 282) 2)) (.lit 3) 0 (.sel (.var 25) (.var 282) 3)) (.lit 4) 0 (.lit 1)) (.var 283) 0)))) (.g (.var 283) (.h (.var 283) (.lit 5) (.l 23 284 (.sel (.upd (.upd (.upd (.upd .zt (.lit 0) 0 (.sel (.var 25) (.var 282) 0)) (.lit 1) 0 (.sel (.var 25) (.var 282) 1)) (.lit 2) 0 (.sel (.var 25) (.var 282) 2)) (.lit 3) 0 (.sel (.var 25) (.var 282) 3)) (.var 283) 0))))))) (.branch (.bin .lt (.var 283) (.lit 7)) (.q 283 6 (.l 23 284 (.var 14)) (.q 283 5 (.l 23 284 (.var 13)) (.q 283 4 (.l 23 284 (.var 12)) (.q 283 3 (.l 23 284 (.var 11)) (.q 283 2 (.l 23 284 (.var 10)) (.q 283 1 (.l 23 284 (.var 9)) (.q 283 0 (.l 23 284 (.var 8)) (.fail 29)))))))) (.assert (.rng .i64 (.bin .sub (.var 283) (.lit 7))) (.branch (.bin .eq (.bin .sub (.var 283) (.lit 7)) (.lit 6)) (.l 23 284 (.var 21)) (.branch (.bin .eq (.bin .sub (.var 283) (.lit 7)) (.lit 5)) (.l 23 284 (.var 20)) (.branch (.bin .eq (.bin .sub (.var 283) (.lit 7)) (.lit 4)) (.l 23 284 (.var 19)) (.branch (.bin .eq (.bin .sub (.var 283) (.lit 7)) (.lit 3)) (.l 23 284 (.var 18)) (.branch (.bin .eq (.bin .sub (.var 283) (.lit 7)) (.lit 2)) (.l 23 284 (.var 17)) (.branch (.bin .eq (.bin .sub (.var 283) (.lit 7)) (.lit 1)) (.l 23 284 (.var 16)) (.branch (.bin .eq (.bin .sub (.var 283) (.lit 7)) (.lit 0)) (.l 23 284 (.var 15)) (.fail 29)))))))))))))))))
def Ry:Tree:=.assume (.pr 31 (rgs 0 281 [])) (.assume (.pr 35 (rgs 0 284 [])) (.q 281 7 (.g (.var 283) (.h (.var 283) (.lit 3) (.l 23 284 (.sel (.upd (.upd (.upd .zt (.lit 0) 0 (.var 27)) (.lit 1) 0 (.var 29)) (.lit 2) 0 (.var 28)) (.var 283) 0)))) (.q 281 8 (.g (.var 282) (.h (.var 282) (.var 31) (.g (.var 283) (.h (.var 283) (.lit 2) (.l 23 284 (.sel (.upd (.upd .zt (.lit 0) 0 (.sel (.var 30) (.var 282) 0)) (.lit 1) 0 (.sel (.var 30) (.var 282) 1)) (.var 283) 0)))))) (.q 281 9 (.g (.var 282) (.h (.var 282) (.var 33) (.q 283 0 (.l 23 284 (.sel (.var 32) (.var 282) 0)) (.assert (.rng .i64 (.bin .sub (.var 283) (.lit 1))) (.g (.bin (.bits 6 .i64) (.bin .sub (.var 283) (.lit 1)) (.lit 2)) (.h (.bin (.bits 6 .i64) (.bin .sub (.var 283) (.lit 1)) (.lit 2)) (.fn 1014 (.sel (.var 32) (.var 282) 1) (.lit 2) (.lit 0) (.lit 0)) (.g (.bin .tmod (.bin .sub (.var 283) (.lit 1)) (.lit 2)) (.h (.bin .tmod (.bin .sub (.var 283) (.lit 1)) (.lit 2)) (.lit 2) (.l 23 284 (.sel (.upd (.upd .zt (.lit 0) 0 (.fn 1015 (.sel (.var 32) (.var 282) 1) (.bin (.bits 6 .i64) (.bin .sub (.var 283) (.lit 1)) (.lit 2)) (.lit 2) (.lit 0))) (.lit 1) 0 (.fn 1015 (.sel (.var 32) (.var 282) 1) (.bin (.bits 6 .i64) (.bin .sub (.var 283) (.lit 1)) (.lit 2)) (.lit 2) (.lit 1))) (.bin .tmod (.bin .sub (.var 283) (.lit 1)) (.lit 2)) 0)))))))))) (.q 281 10 (.l 23 284 (.var 34)) (.q 283 0 (.g (.var 282) (.h (.var 282) (.var 36) (.l 23 284 (.sel (.var 35) (.var 282) 0)))) (.q 283 1 (.g (.var 282) (.h (.var 282) (.var 38) (.branch (.sel (.var 37) (.var 282) 0) (.l 23 284 (.lit 1)) (.l 23 284 (.lit 0))))) (.g (.var 282) (.h (.var 282) (.var 40) (.l 23 284 (.sel (.var 39) (.var 282) 0)))))))))))
def tAr:Tree:=.assume (.pr 36 (rgs 0 17 [])) (.q 15 13 (.g (.bin (.bits 6 .i64) (.var 16) (.lit 2)) (.h (.bin (.bits 6 .i64) (.var 16) (.lit 2)) (.var 8) (.g (.bin .tmod (.var 16) (.lit 2)) (.h (.bin .tmod (.var 16) (.lit 2)) (.lit 2) (.l 26 17 (.sel (.upd (.upd .zt (.lit 0) 0 (.sel (.var 7) (.bin (.bits 6 .i64) (.var 16) (.lit 2)) 0)) (.lit 1) 0 (.sel (.var 7) (.bin (.bits 6 .i64) (.var 16) (.lit 2)) 1)) (.bin .tmod (.var 16) (.lit 2)) 0)))))) (.q 15 14 (.g (.bin (.bits 6 .i64) (.var 16) (.lit 2)) (.h (.bin (.bits 6 .i64) (.var 16) (.lit 2)) (.var 11) (.g (.bin .tmod (.var 16) (.lit 2)) (.h (.bin .tmod (.var 16) (.lit 2)) (.lit 2) (.l 26 17 (.sel (.upd (.upd .zt (.lit 0) 0 (.sel (.var 10) (.bin (.bits 6 .i64) (.var 16) (.lit 2)) 0)) (.lit 1) 0 (.sel (.var 10) (.bin (.bits 6 .i64) (.var 16) (.lit 2)) 1)) (.bin .tmod (.var 16) (.lit 2)) 0)))))) (.q 15 15 (.g (.bin (.bits 6 .i64) (.var 16) (.lit 2)) (.h (.bin (.bits 6 .i64) (.var 16) (.lit 2)) (.var 13) (.g (.bin .tmod (.var 16) (.lit 2)) (.h (.bin .tmod (.var 16) (.lit 2)) (.lit 2) (.l 26 17 (.sel (.upd (.upd .zt (.lit 0) 0 (.sel (.var 12) (.bin (.bits 6 .i64) (.var 16) (.lit 2)) 0)) (.lit 1) 0 (.sel (.var 12) (.bin (.bits 6 .i64) (.var 16) (.lit 2)) 1)) (.bin .tmod (.var 16) (.lit 2)) 0)))))) (.branch (.var 9) (.g (.var 16) (.h (.var 16) (.lit 9) (.l 26 17 (.sel (.upd (.upd (.upd (.upd (.upd (.upd (.upd (.upd (.upd .zt (.lit 0) 0 (.var 0)) (.lit 1) 0 (.var 1)) (.lit 2) 0 (.var 2)) (.lit 3) 0 (.var 3)) (.lit 4) 0 (.var 4)) (.lit 5) 0 (.var 5)) (.lit 6) 0 (.var 6)) (.lit 7) 0 (.lit 1)) (.lit 8) 0 (.var 14)) (.var 16) 0)))) (.g (.var 16) (.h (.var 16) (.lit 9) (.l 26 17 (.sel (.upd (.upd (.upd (.upd (.upd (.upd (.upd (.upd .zt (.lit 0) 0 (.var 0)) (.lit 1) 0 (.var 1)) (.lit 2) 0 (.var 2)) (.lit 3) 0 (.var 3)) (.lit 4) 0 (.var 4)) (.lit 5) 0 (.var 5)) (.lit 6) 0 (.var 6)) (.lit 8) 0 (.var 14)) (.var 16) 0))))))))
def vk:Tree:=.assume (.pr 31 (rgs 0 281 [])) (.assert (.pr 51 (rgs 0 281 [.lit 1,.lit 0,.lit 0,.zt,.lit 0])) (.qp false (.qp true (.qp false (.assume (.tt (.bin .le (.lit 1) (.var 281))) (.assume (.tt (.bin .le (.var 281) (.lit 17))) (.assume (.tt (.bin .le (.lit 0) (.var 283))) (.assume (.pr 51 (rgs 0 282 [.lit 0,.lit 0,.var 282,.var 283])) (.branch (.bin .le (.var 281) (.lit 16)) (.qp false (.qp true (.qp false (.assume (.tt (.bin .le (.lit 0) (.var 284))) (.assume (.tt (.bin .le (.var 284) (.lit 2000000))) (.assume (.tt (.bin .le (.lit 0) (.var 286))) (.assume (.pr 51 (rgs 0 282 [.var 284,.lit 0,.var 285,.var 286])) (.qp false (.assume (.pr 20 (rgs 0 282 [.var 287])) (.branch (.bin .lt (.var 284) (.var 287)) (.qp false (.qp true (.qp false (.assume (.tt (.bin .le (.lit 0) (.var 288))) (.assume (.tt (.bin .le (.var 288) (.lit 2000000))) (.assume (.tt (.bin .le (.lit 0) (.var 290))) (.assume (.pr 51 (rgs 0 282 [.var 284,.var 288,.var 289,.var 290])) (.assert (.pr 33 (rgs 0 282 [.var 284])) (.qp false (.assume (.pr 21 (rgs 0 282 [.var 284,.var 291])) (.branch (.bin .lt (.var 288) (.var 291)) (.qp false (.assume (.pr 22 (rgs 0 282 [.var 284,.var 288,.var 292])) (.branch (.var 292) (.assert (.pr 32 (rgs 0 282 [.var 284,.var 288])) (.qp false (.assume (.pr 23 (rgs 0 282 [.var 284,.var 288,.var 293])) (.assert (.tt (.bin .le (.bin .add (.var 290) (.lit 1)) (.lit 1000000))) (.assert (.rng .i64 (.bin .add (.var 288) (.lit 1))) (.g (.bin .add (.var 288) (.lit 1)) (.assert (.tt (.bin .le (.bin .add (.var 288) (.lit 1)) (.lit 2000000))) (.g (.bin .add (.var 290) (.lit 1)) (.assert (.pr 51 (rgs 0 282 [.var 284,.bin .add (.var 288) (.lit 1),.upd (.upd (.upd (.upd (.var 289) (.var 290) 0 (.var 281)) (.var 290) 1 (.var 284)) (.var 290) 2 (.var 288)) (.var 290) 3 (.var 293),.bin .add (.var 290) (.lit 1)])) (.g (.bin .sub (.lit 2000000) (.bin .add (.var 288) (.lit 1))) (.h (.bin .sub (.lit 2000000) (.bin .add (.var 288) (.lit 1))) (.bin .sub (.lit 2000000) (.var 288)) .ok))))))))))) (.assert (.rng .i64 (.bin .add (.var 288) (.lit 1))) (.g (.bin .add (.var 288) (.lit 1)) (.assert (.tt (.bin .le (.bin .add (.var 288) (.lit 1)) (.lit 2000000))) (.assert (.pr 51 (rgs 0 282 [.var 284,.bin .add (.var 288) (.lit 1),.var 289,.var 290])) (.g (.bin .sub (.lit 2000000) (.bin .add (.var 288) (.lit 1))) (.h (.bin .sub (.lit 2000000) (.bin .add (.var 288) (.lit 1))) (.bin .sub (.lit 2000000) (.var 288)) .ok))))))))) (.assert (.rng .i64 (.bin .add (.var 284) (.lit 1))) (.g (.bin .add (.var 284) (.lit 1)) (.assert (.tt (.bin .le (.bin .add (.var 284) (.lit 1)) (.lit 2000000))) (.assert (.pr 51 (rgs 0 282 [.bin .add (.var 284) (.lit 1),.lit 0,.var 289,.var 290])) (.g (.bin .sub (.lit 2000000) (.bin .add (.var 284) (.lit 1))) (.h (.bin .sub (.lit 2000000) (.bin .add (.var 284) (.lit 1))) (.bin .sub (.lit 2000000) (.var 284)) .ok))))))))))))))))) (.assert (.rng .i64 (.bin .add (.var 281) (.lit 1))) (.assert (.tt (.bin .le (.lit 1) (.bin .add (.var 281) (.lit 1)))) (.assert (.tt (.bin .le (.bin .add (.var 281) (.lit 1)) (.lit 17))) (.assert (.pr 51 (rgs 0 281 [.bin .add (.var 281) (.lit 1),.lit 0,.lit 0,.var 285,.var 286])) (.g (.bin .sub (.lit 17) (.bin .add (.var 281) (.lit 1))) (.h (.bin .sub (.lit 17) (.bin .add (.var 281) (.lit 1))) (.bin .sub (.lit 17) (.var 281)) .ok)))))))))))))))) (.assert (.pr 24 (rgs 0 281 [.var 282,.var 283])) .ok))))))))))
def Rw:Tree:=.assume (.tt (.bin .le (.lit 0) (.var 1))) (.assume (.tt (.bin .le (.lit 0) (.var 3))) (.assume (.rng .i64 (.var 1)) (.assume (.rng .i64 (.var 3)) (.branch (.bin .eq (.bin .eq (.var 1) (.var 3)) (.lit 0)) (.assert (.pr 25 [.var 0,.var 1,.var 2,.var 3,.lit 0]) .ok) (.assert (.pr 52 [.var 0,.var 2,.lit 0]) (.qp false (.assume (.tt (.bin .le (.lit 0) (.var 4))) (.assume (.tt (.bin .le (.var 4) (.var 1))) (.assume (.pr 52 [.var 0,.var 2,.var 4]) (.branch (.bin .lt (.var 4) (.var 1)) (.h (.var 4) (.var 3) (.branch (.bin .eq (.bin .and (.bin .eq (.sel (.var 0) (.var 4) 0) (.sel (.var 2) (.var 4) 0)) (.bin .and (.bin .eq (.sel (.var 0) (.var 4) 1) (.sel (.var 2) (.var 4) 1)) (.bin .and (.bin .eq (.sel (.var 0) (.var 4) 2) (.sel (.var 2) (.var 4) 2)) (.bin .and (.bin .eq (.sel (.var 0) (.var 4) 3) (.sel (.var 2) (.var 4) 3)) (.lit 1))))) (.lit 0)) (.assert (.pr 25 [.var 0,.var 1,.var 2,.var 3,.lit 0]) .ok) (.assert (.rng .i64 (.bin .add (.var 4) (.lit 1))) (.g (.bin .add (.var 4) (.lit 1)) (.assert (.tt (.bin .le (.bin .add (.var 4) (.lit 1)) (.var 1))) (.assert (.pr 52 [.var 0,.var 2,.bin .add (.var 4) (.lit 1)]) (.g (.bin .sub (.var 1) (.bin .add (.var 4) (.lit 1))) (.h (.bin .sub (.var 1) (.bin .add (.var 4) (.lit 1))) (.bin .sub (.var 1) (.var 4)) .ok)))))))) (.assert (.pr 25 [.var 0,.var 1,.var 2,.var 3,.lit 1]) .ok)))))))))))
def Rx:Tree:=.assume (.pr 31 (rgs 0 281 [])) (.assume (.pr 31 (rgs 281 281 [])) (.qp true (.qp false (.assume (.pr 24 (rgs 0 281 [.var 562,.var 563])) (.qp true (.qp false (.assume (.pr 24 (rgs 281 281 [.var 564,.var 565])) (.branch (.bin .eq (.bin .eq (.var 563) (.var 565)) (.lit 0)) (.assert (.pr 40 (rgs 0 562 [.zt,.lit 0,.lit 6])) .ok) (.g (.var 7) (.g (.var 288) (.assert (.rng .i64 (.var 7)) (.assert (.rng .i64 (.var 288)) (.qp false (.assume (.pr 25 [.var 6,.var 7,.var 287,.var 288,.var 566]) (.q 566 0 (.assert (.pr 40 (rgs 0 562 [.zt,.lit 0,.lit 6])) .ok) (.g (.var 563) (.assert (.pr 53 [.var 562,.var 564,.lit 0,.zt,.lit 0]) (.qp false (.qp true (.qp false (.assume (.tt (.bin .le (.lit 0) (.var 567))) (.assume (.tt (.bin .le (.var 567) (.var 563))) (.assume (.tt (.bin .le (.lit 0) (.var 569))) (.assume (.pr 53 [.var 562,.var 564,.var 567,.var 568,.var 569]) (.branch (.bin .lt (.var 567) (.var 563)) (.h (.var 567) (.var 565) (.branch (.bin .eq (.bin .eq (.sel (.var 562) (.var 567) 0) (.sel (.var 564) (.var 567) 0)) (.lit 0)) (.assert (.pr 40 (rgs 0 562 [.zt,.lit 0,.lit 6])) .ok) (.branch (.bin .eq (.bin .eq (.sel (.var 562) (.var 567) 1) (.sel (.var 564) (.var 567) 1)) (.lit 0)) (.assert (.pr 40 (rgs 0 562 [.zt,.lit 0,.lit 6])) .ok) (.branch (.bin .eq (.bin .eq (.sel (.var 562) (.var 567) 2) (.sel (.var 564) (.var 567) 2)) (.lit 0)) (.assert (.pr 40 (rgs 0 562 [.zt,.lit 0,.lit 6])) .ok) (.branch (.bin .eq (.bin .eq (.sel (.var 562) (.var 567) 3) (.sel (.var 564) (.var 567) 3)) (.lit 0)) (.assert (.tt (.bin .le (.bin .add (.var 569) (.lit 1)) (.lit 1000000))) (.assert (.rng .i64 (.bin .add (.var 567) (.lit 1))) (.g (.bin .add (.var 567) (.lit 1)) (.assert (.tt (.bin .le (.bin .add (.var 567) (.lit 1)) (.var 563))) (.g (.bin .add (.var 569) (.lit 1)) (.assert (.pr 53 [.var 562,.var 564,.bin .add (.var 567) (.lit 1),.upd (.upd (.upd (.upd (.var 568) (.var 569) 0 (.sel (.var 564) (.var 567) 0)) (.var 569) 1 (.sel (.var 564) (.var 567) 1)) (.var 569) 2 (.sel (.var 564) (.var 567) 2)) (.var 569) 3 (.sel (.var 564) (.var 567) 3),.bin .add (.var 569) (.lit 1)]) (.g (.bin .sub (.var 563) (.bin .add (.var 567) (.lit 1))) (.h (.bin .sub (.var 563) (.bin .add (.var 567) (.lit 1))) (.bin .sub (.var 563) (.var 567)) .ok)))))))) (.assert (.rng .i64 (.bin .add (.var 567) (.lit 1))) (.g (.bin .add (.var 567) (.lit 1)) (.assert (.tt (.bin .le (.bin .add (.var 567) (.lit 1)) (.var 563))) (.assert (.pr 53 [.var 562,.var 564,.bin .add (.var 567) (.lit 1),.var 568,.var 569]) (.g (.bin .sub (.var 563) (.bin .add (.var 567) (.lit 1))) (.h (.bin .sub (.var 563) (.bin .add (.var 567) (.lit 1))) (.bin .sub (.var 563) (.var 567)) .ok))))))))))) (.assert (.pr 40 (rgs 0 562 [.var 568,.var 569,.lit 0])) .ok))))))))))))))))))))))))))
def BI:Tree:=.assume (.pr 31 (rgs 0 281 [])) (.assume (.pr 31 (rgs 281 281 [])) (.qp true (.qp false (.qp false (.assume (.pr 40 (rgs 0 565 [])) (.q 564 0 (.l 41 562 (.bin .eq (.var 563) (.lit 0))) (.l 41 562 (.lit 0))))))))
end Go.Sp
end
noncomputable section
set_option linter.unusedSimpArgs false
namespace Go.Sp
open Go Go.Sx
theorem gN {I:Itp} {e:E} {a b:Tree} {env:List D} {z:Int} (h:e.den I env=some (.i z)) (h1:z≠0->a.vc I env) (h2:z=0->b.vc I env):(Tree.branch e a b).vc I env:=
 ⟨fun n hn h0=>h1 (by rw [h] at hn;cases hn;exact h0),fun h0=>h2 (by rw [h] at h0;cases h0;rfl)⟩
theorem gD {p:Prop} [Decidable p]:((if p then (1:Int) else 0)=0)↔¬p:=by by_cases h:p <;> simp [h]
theorem bE {p:Prop} [Decidable p]:((if p then (1:Int) else 0)≠0)↔p:=by by_cases h:p <;> simp [h]
theorem OL {r:List D} (h:Sorts [false] r):∃k,r=[.i k]:=by
 match r,h with
 | [.i k],_=>exact ⟨k,rfl⟩
theorem Rs {r:List D} (h:Sorts [false,false] r):∃k i,r=[.i k,.i i]:=by
 match r,h with
 | [.i k,.i i],_=>exact ⟨k,i,rfl⟩
theorem YD {r:List D} (h:Sorts [false,false,false] r):∃k i f,r=[.i k,.i i,.i f]:=by
 match r,h with
 | [.i k,.i i,.i f],_=>exact ⟨k,i,f,rfl⟩
theorem zS {S:List D} {i:Int} {c:Nat} (hc:c<15):gi (arP S i) c=gi S (arB i+c):=by
 unfold gi arP;rw [List.getElem?_take_of_lt hc,List.getElem?_drop]
theorem iw {S:List D} {i:Int} {c:Nat} (hc:c<15):gt (arP S i) c=gt S (arB i+c):=by
 unfold gt arP;rw [List.getElem?_take_of_lt hc,List.getElem?_drop]
section
variable {I:Itp} {env:List D}
theorem bN {e:E}:(PE.tt e).den I env=∃n,e.den I env=some (.i n)/\n≠0:=rfl
theorem dP {e:E}:(PE.ff e).den I env=(e.den I env=some (.i 0)):=rfl
theorem yE {k:IntKind} {e:E}:(PE.rng k e).den I env=∃n,e.den I env=some (.i n)/\k.min<=n/\n<=k.max:=rfl
theorem wZ {a b:E}:(PE.same a b).den I env=∃d,a.den I env=some d/\b.den I env=some d:=rfl
theorem pF {e:E}:(PE.sort true e).den I env=∃f,e.den I env=some (.t f):=rfl
theorem pR {e:E}:(PE.sort false e).den I env=∃n,e.den I env=some (.i n):=rfl
theorem wV {a b c d:D}:JI.ap 1014 a b c d=some (.i (llen a.int b.int)):=rfl
theorem yI {a b c d:D}:JI.ap 1015 a b c d=some (.i (dY a.int b.int c.int d.int)):=rfl
theorem wX {a b c d:D}:JI.ap 1017 a b c d=some (.t (gG a.int b.int)):=rfl
theorem vV {a b c d:D}:JI.ap 1016 a b c d=some (.i (xG a.tab b.int c.int)):=rfl
theorem gL {n:Int}:(D.i n).int=n:=rfl
theorem fC {f:Int->Nat->Int}:(D.t f).tab=f:=rfl
end
theorem oK:IntKind.i64.min=-9223372036854775808:=rfl
theorem imax:IntKind.i64.max=9223372036854775807:=rfl
theorem yj (n w:Int):0<=llen n w:=Int.natCast_nonneg _
theorem rG {S:List D} (h:Small S):∀j:Nat,j<16->0<=gi S (49+15*j)/\gi S (49+15*j)<=600/\0<=gi S (52+15*j)/\gi S (52+15*j)<=600/\0<=gi S (54+15*j)/\gi S (54+15*j)<=600:=h.ar
theorem q0 {S:List D} (h:St S) {j:Nat} {r:List D} {l:List E}:(PE.pr j (rgs 0 281 l)).den JI (S++r)↔∃ds,qg JI (S++r) l=some ds/\JI.pr j (S++ds):=su (m:=0) h.len rfl (Nat.zero_le _)
theorem q0' {S:List D} (h:St S) {j:Nat} {l:List E}:(PE.pr j (rgs 0 281 l)).den JI S↔∃ds,qg JI S l=some ds/\JI.pr j (S++ds):=by
 have:=q0 h (j:=j) (r:=[]) (l:=l)
 rwa [List.append_nil] at this
theorem q1 {S:List D} (h:St S) {j:Nat} {a:D} {r:List D} {l:List E}:(PE.pr j (rgs 0 282 l)).den JI (S++a::r)↔∃ds,qg JI (S++a::r) l=some ds/\JI.pr j (S++a::ds):=su (m:=1) h.len rfl (by simp)
theorem q2 {S:List D} (h:St S) {j:Nat} {a b:D} {r:List D} {l:List E}:(PE.pr j (rgs 0 283 l)).den JI (S++a::b::r)↔∃ds,qg JI (S++a::b::r) l=some ds/\JI.pr j (S++a::b::ds):=su (m:=2) h.len rfl (by simp)
theorem q3 {S:List D} (h:St S) {j:Nat} {a b c:D} {r:List D} {l:List E}:(PE.pr j (rgs 0 284 l)).den JI (S++a::b::c::r)↔∃ds,qg JI (S++a::b::c::r) l=some ds/\JI.pr j (S++a::b::c::ds):=su (m:=3) h.len rfl (by simp)
theorem q4 {S:List D} (h:St S) {j:Nat} {a b c d:D} {r:List D} {l:List E}:(PE.pr j (rgs 0 285 l)).den JI (S++a::b::c::d::r)↔∃ds,qg JI (S++a::b::c::d::r) l=some ds/\JI.pr j (S++a::b::c::d::ds):=su (m:=4) h.len rfl (by simp)
def arQ (S:List D) (a:Nat):List D:=(S.drop a).take 15
theorem KC {S:List D} (h:St S) {a:Nat} (ha:a+15<=281):(arQ S a).length=15:=by simp [arQ,h.len];omega
theorem VP {I:Itp} {env:List D} {j a n:Nat} {l:List E} (h:a+n<=env.length):(PE.pr j (rgs a n l)).den I env↔∃ds,qg I env l=some ds/\I.pr j ((env.drop a).take n++ds):=by
 simp only [PE.den,rgs,jL,tX h,Option.bind_some];constructor
 . rintro ⟨ds,h1,h2⟩;rw [Option.map_eq_some_iff] at h1;obtain ⟨d,h3,rfl⟩:=h1;exact ⟨d,h3,h2⟩
 . rintro ⟨d,h3,h2⟩;exact ⟨_,by rw [h3];rfl,h2⟩
theorem qa {S:List D} (h:St S) {j a:Nat} {r:List D} {l:List E} (ha:a+15<=281):(PE.pr j (rgs a 15 l)).den JI (S++r)↔∃ds,qg JI (S++r) l=some ds/\JI.pr j (arQ S a++ds):=by
 rw [VP (by simp [h.len];omega),List.drop_append_of_le_length (by rw [h.len];omega),List.take_append_of_le_length (by simp [h.len];omega)];rfl
theorem qb {S:List D} (h:St S) {j:Nat} {d:D} {r:List D} {l:List E}:(PE.pr j (rgs 266 16 l)).den JI (S++d::r)↔∃ds,qg JI (S++d::r) l=some ds/\JI.pr j (arQ S 266++d::ds):=by
 rw [VP (by simp [h.len];omega),List.drop_append_of_le_length (by rw [h.len];omega)]
 have e:((List.drop 266 S++d::r).take 16)=arQ S 266++[d]:=by
   have hl:(List.drop 266 S).length=15:=by simp [h.len]
   rw [List.take_append,hl,arQ,List.take_of_length_le (by omega),List.take_of_length_le (l:=List.drop 266 S) (by omega)];rfl
 rw [e];simp only [List.append_assoc,List.cons_append,List.nil_append]
theorem q15 {A:List D} (h:A.length=15) {j:Nat} {a b:D} {r:List D} {l:List E}:(PE.pr j (rgs 0 17 l)).den JI (A++a::b::r)↔∃ds,qg JI (A++a::b::r) l=some ds/\JI.pr j (A++a::b::ds):=by
 rw [VP (by simp [h];omega),List.drop_zero]
 have e:(A++a::b::r).take 17=A++[a,b]:=by
   rw [List.take_append,List.take_of_length_le (by omega),h];simp
 rw [e];simp
theorem p36 {A:List D} (h:A.length=15) {k f:Int}:JI.pr 36 (A++[.i k,.i f])↔12<=k/\k<=15/\0<=f/\f<arF A k/\f<=2000:=by simp [JI,dW,<-h]
theorem p26 {A:List D} (h:A.length=15) {k f r:Int}:JI.pr 26 (A++[.i k,.i f,.i r])↔r=arG A k f:=by simp [JI,dW,<-h]
theorem qwT {S:List D} (h:St S) {a:Nat} {k f:Int} (ha:a+15<=281):JI.pr 36 (arQ S a++[.i k,.i f])↔12<=k/\k<=15/\0<=f/\f<arF (arQ S a) k/\f<=2000:=p36 (KC h ha)
theorem qwC {S:List D} (h:St S) {a:Nat} {k f r:Int} (ha:a+15<=281):JI.pr 26 (arQ S a++[.i k,.i f,.i r])↔r=arG (arQ S a) k f:=p26 (KC h ha)
theorem qk2 {l:List Bool} {S r:List D} (h:Sorts l S) (i:Nat) (hi:l[i]?=some false):(S++r)[i]?=some (.i (gi S i)):=by
 have:=((y7 h).2 i).1 hi;rw [List.getElem?_append_left (List.getElem?_eq_some_iff.1 this).1];exact this
theorem qk1 {l:List Bool} {S r:List D} (h:Sorts l S) (i:Nat) (hi:l[i]?=some true):(S++r)[i]?=some (.t (gt S i)):=by
 have:=((y7 h).2 i).2 hi;rw [List.getElem?_append_left (List.getElem?_eq_some_iff.1 this).1];exact this
section
variable {S T:List D}
theorem qq {j n m:Nat} {r:List D} {l:List E} (h:St S) (g:St T) (hn:n=562+m) (hm:m<=r.length):(PE.pr j (rgs 0 n l)).den JI (S++(T++r))↔∃ds,qg JI (S++(T++r)) l=some ds/\JI.pr j (S++(T++(r.take m++ds))):=by
 rw [VP (by simp [h.len,g.len];omega),List.drop_zero]
 have e:(S++(T++r)).take n=S++(T++r.take m):=by
   rw [List.take_append,List.take_append,List.take_of_length_le (by rw [h.len];omega),List.take_of_length_le (l:=T) (by rw [h.len,g.len];omega),h.len,g.len,show n - 281 - 281=m by omega]
 rw [e];simp only [List.append_assoc]
theorem qq0 {j:Nat} {r:List D} {l:List E} (h:St S) (g:St T):(PE.pr j (rgs 0 562 l)).den JI (S++(T++r))↔∃ds,qg JI (S++(T++r)) l=some ds/\JI.pr j (S++(T++ds)):=qq (m:=0) h g rfl (Nat.zero_le _)
theorem qq3 {j:Nat} {a b c:D} {r:List D} {l:List E} (h:St S) (g:St T):(PE.pr j (rgs 0 565 l)).den JI (S++(T++a::b::c::r))↔∃ds,qg JI (S++(T++a::b::c::r)) l=some ds/\JI.pr j (S++(T++a::b::c::ds)):=qq (m:=3) h g rfl (by simp)
theorem qT {j:Nat} {r:List D} {l:List E} (h:St S) (g:St T):(PE.pr j (rgs 281 281 l)).den JI (S++(T++r))↔∃ds,qg JI (S++(T++r)) l=some ds/\JI.pr j (T++ds):=by
 rw [VP (by simp [h.len,g.len];omega),List.drop_append_of_le_length (by rw [h.len];omega),List.drop_of_length_le (by rw [h.len];omega),List.nil_append,List.take_append_of_le_length (by rw [g.len];omega),List.take_of_length_le (by rw [g.len];omega)]
theorem p40 (h:St S) (g:St T) {F:Int->Nat->Int} {n e:Int}:JI.pr 40 (S++(T++[.t F,.i n,.i e]))↔0<=n/\(e=0/\okD S T/\qF F n=dX (j6 S) (j6 T)\/e=6/\n=0/\¬okD S T):=by
 have e1:(S++(T++[D.t F,.i n,.i e])).drop 562=[D.t F,.i n,.i e]:=by rw [List.drop_append,List.drop_append,h.len,g.len,List.drop_of_length_le (by rw [h.len];omega),List.drop_of_length_le (by rw [g.len];omega)];rfl
 have e2:(S++(T++[D.t F,.i n,.i e])).take 281=S:=by rw [List.take_append_of_le_length (by rw [h.len];omega),List.take_of_length_le (by rw [h.len];omega)]
 have e3:((S++(T++[D.t F,.i n,.i e])).drop 281).take 281=T:=by rw [List.drop_append_of_le_length (by rw [h.len];omega),List.drop_of_length_le (by rw [h.len];omega),List.nil_append,List.take_append_of_le_length (by rw [g.len];omega),List.take_of_length_le (by rw [g.len];omega)]
 show dW 40 _↔_;simp only [dW,e1,e2,e3]
theorem p41 (h:St S) (g:St T) {r:Int}:JI.pr 41 (S++(T++[.i r]))↔(r≠0↔okD S T/\dX (j6 S) (j6 T)=[]):=by
 have e1:(S++(T++[D.i r])).drop 562=[D.i r]:=by rw [List.drop_append,List.drop_append,h.len,g.len,List.drop_of_length_le (by rw [h.len];omega),List.drop_of_length_le (by rw [g.len];omega)];rfl
 have e2:(S++(T++[D.i r])).take 281=S:=by rw [List.take_append_of_le_length (by rw [h.len];omega),List.take_of_length_le (by rw [h.len];omega)]
 have e3:((S++(T++[D.i r])).drop 281).take 281=T:=by rw [List.drop_append_of_le_length (by rw [h.len];omega),List.drop_of_length_le (by rw [h.len];omega),List.nil_append,List.take_append_of_le_length (by rw [g.len];omega),List.take_of_length_le (by rw [g.len];omega)]
 show dW 41 _↔_;simp only [dW,e1,e2,e3]
end
theorem p50 {f g:Int->Nat->Int} {n:Int}:JI.pr 50 [.t f,.i n,.t g]↔jq f n g:=Iff.rfl
theorem KW {I:Itp} {env:List D} {a n:Nat} {l:List E} (h:a+n<=env.length):qg I env (rgs a n l)=(qg I env l).map ((env.drop a).take n ++ ·):=by
 rw [rgs,jL,tX h,Option.bind_some]
theorem p53 {A B F:Int->Nat->Int} {i n:Int}:JI.pr 53 [.t A,.t B,.i i,.t F,.i n]↔(∀r:Int,0<=r->r<i->A r 0=B r 0/\A r 1=B r 1/\A r 2=B r 2)/\qF F n=dX (qF A i) (qF B i):=Iff.rfl
theorem QS {I:Itp} {env:List D} {j:Nat} {l:List E}:(PE.pr j l).den I env↔∃ds,qg I env l=some ds/\I.pr j ds:=Iff.rfl
theorem p25 {f g:Int->Nat->Int} {n m r:Int}:JI.pr 25 [.t f,.i n,.t g,.i m,.i r]↔(r≠0↔nJ f n g m):=Iff.rfl
theorem MC {a:Int} (h:0<=a) (h1:a<=9223372036854775807):wR 6 IntKind.i64 a 2=a / 2:=by
 show IntKind.i64.wrap (a.tdiv 2)=a / 2;rw [Int.tdiv_eq_ediv_of_nonneg h];exact rZ ⟨by rw [oK];omega,by rw [imax];omega⟩
theorem Vg {a:Int} (h:0<=a):a.tmod 2=a % 2:=Int.tmod_eq_emod_of_nonneg h
theorem qZ {S:List D} {k i f:Int} (h:zo S k i f=true):0<=i/\i<qz S k/\0<=f/\f<qj S k i/\(k≠11\/f=0\/f=1/\i<gi S 38\/f=2/\i<gi S 40):=of_decide_eq_true h
end Go.Sp
noncomputable section
namespace Go.Sp
open Go Go.Sx
variable {S:List D}
theorem zK {T:Int->Nat->Int} {n:Int}:(qF T n).length=n.toNat:=by simp [qF]
theorem vo {T:Int->Nat->Int} {n a b c d:Int} (h:0<=n):qF (qd (qd (qd (qd T n 0 a) n 1 b) n 2 c) n 3 d) (n+1)=qF T n++[(a,b,c,d)]:=by
 have e:(n+1).toNat=n.toNat+1:=by omega
 have en:((n.toNat:Nat):Int)=n:=by omega
 rw [qF,qF,e,List.range_succ,List.map_append]
 congr 1
 . apply List.map_congr_left;intro r hr;have hr:(r:Int)≠n:=by have:=List.mem_range.1 hr;omega
   simp [qd,hr]
 . simp [qd,en]
theorem jB {k i:Int} {f:Nat}:jQ S k i (f+1)=jQ S k i f++(if zo S k i f=true then [(k,i,(f:Int),qh S k i f)] else []):=by
 rw [jQ,List.range_succ,List.filterMap_append]
 congr 1
 by_cases h:zo S k i f=true <;> simp [h]
theorem D9 {k i f:Int} (h:qj S k i<=f):¬zo S k i f=true:=fun e=>by have:=(qZ e).2.2.2.1;omega
theorem D8 {k i f:Int} (h:qz S k<=i):¬zo S k i f=true:=fun e=>by have:=(qZ e).2.1;omega
theorem QM {k i:Int} {f:Nat} (h:qj S k i<=f):jQ S k i f=jQ S k i (qj S k i).toNat:=by
 have:∀d:Nat,jQ S k i ((qj S k i).toNat+d)=jQ S k i (qj S k i).toNat:=by
   intro d
   induction d with
   | zero=>rfl
   | succ d ih=>rw [<-Nat.add_assoc,jB,if_neg (D9 (by omega)),List.append_nil,ih]
 have e:f=(qj S k i).toNat+(f - (qj S k i).toNat):=by omega
 rw [e,this]
theorem dM {k i:Int} (h:qz S k<=i):∀{f:Nat},jQ S k i f=[]
 | 0=>rfl
 | f+1=>by rw [jB,dM h,if_neg (D8 h)];rfl
theorem wO {k:Int} {n:Nat}:wz S k (n+1)=wz S k n++jQ S k n (qj S k n).toNat:=by
 rw [wz,List.range_succ,List.flatMap_append];simp [wz]
theorem Vb {k:Int} {n:Nat} (h:qz S k<=n):wz S k n=wz S k (qz S k).toNat:=by
 have:∀d:Nat,wz S k ((qz S k).toNat+d)=wz S k (qz S k).toNat:=by
   intro d
   induction d with
   | zero=>rfl
   | succ d ih=>rw [<-Nat.add_assoc,wO,dM (by omega),List.append_nil,ih]
 have e:n=(qz S k).toNat+(n - (qz S k).toNat):=by omega
 rw [e,this]
theorem bO {n:Nat}:mJ S (n+1)=mJ S n++wz S ((n:Int)+1) (qz S ((n:Int)+1)).toNat:=by
 rw [mJ,List.range_succ,List.flatMap_append];simp [mJ]
theorem Yi {k i f:Int} (h:0<=f):zG S k i (f+1)=zG S k i f++(if zo S k i f=true then [(k,i,f,qh S k i f)] else []):=by
 have e:(f+1).toNat=f.toNat+1:=by omega
 have ef:((f.toNat:Nat):Int)=f:=by omega
 rw [zG,e,jB,ef,zG];simp only [List.append_assoc]
theorem Yu {k i f:Int} (h:0<=i) (hf:0<=f) (hs:qj S k i<=f):zG S k (i+1) 0=zG S k i f:=by
 have e:(i+1).toNat=i.toNat+1:=by omega
 have ei:((i.toNat:Nat):Int)=i:=by omega
 have ef:((f.toNat:Nat):Int)=f:=by omega
 rw [zG,e,wO,ei,zG,QM (f:=f.toNat) (by omega)];show _++(_++[])=_;rw [List.append_nil]
theorem BM {k i:Int} (h:1<=k) (hi:0<=i) (hs:qz S k<=i):zG S (k+1) 0 0=zG S k i 0:=by
 have e:(k+1).toNat - 1=(k.toNat - 1)+1:=by omega
 have ek:((k.toNat - 1:Nat):Int)+1=k:=by omega
 rw [zG,e,bO,ek,zG,Vb (n:=i.toNat) (by omega)];show (_++_)++([]++[])=_++(_++[]);simp
theorem Vx:zG S 17 0 0=j6 S:=by
 show mJ S 16++([]++[])=_;simp [j6]
def eP (k:Int):Nat:=if k=9 then 41 else if k=12\/k=13\/k=14\/k=15 then 1200 else if k=3 then 65 else 14
def Xv (k:Int):Nat:=if k=12\/k=13\/k=14\/k=15 then 16 else if k=3 then 40 else 1100
theorem uP {k i:Int}:∀{f:Nat},(jQ S k i f).length<=f
 | 0=>Nat.le_refl _
 | f+1=>by
   rw [jB,List.length_append];have:=uP (k:=k) (i:=i) (f:=f);by_cases h:zo S k i f=true
   . simp [h];omega
   . simp [h];omega
theorem QN {k i:Int} {f:Nat}:(jQ S k i f).length<=(qj S k i).toNat:=by
 by_cases h:qj S k i<=f
 . rw [QM h];exact uP
 . exact Nat.le_trans uP (by omega)
theorem Wm (hs:Small S) {k:Int} (h1:1<=k) (h2:k<=16):qz S k<=Xv k:=by
 have hk:k=1\/k=2\/k=3\/k=4\/k=5\/k=6\/k=7\/k=8\/k=9\/k=10\/k=11\/k=12\/k=13\/k=14\/k=15\/k=16:=by omega
 have:=hs.a1;have:=hs.a3;have:=hs.a5;have:=hs.a24;have:=hs.a26;have:=hs.a31;have:=hs.a33;have:=hs.a36;rcases hk with rfl | rfl | rfl | rfl | rfl | rfl | rfl | rfl | rfl | rfl | rfl | rfl | rfl | rfl | rfl | rfl <;> simp [qz,Xv] <;> omega
theorem lH (hs:Small S) {k i:Int} (h1:1<=k) (h2:k<=16) (i0:0<=i) (i1:i<qz S k):qj S k i<=eP k:=by
 have hk:k=1\/k=2\/k=3\/k=4\/k=5\/k=6\/k=7\/k=8\/k=9\/k=10\/k=11\/k=12\/k=13\/k=14\/k=15\/k=16:=by omega
 have ar:i<16->2*gi (arP S i) 8<=1200/\2*gi (arP S i) 11<=1200/\2*gi (arP S i) 13<=1200:=by
   intro h;have b:=rG hs i.toNat (by omega);have g8:gi (arP S i) 8=gi S (49+15*i.toNat):=by rw [zS (by decide)];simp only [arB];congr 1;omega
   have g11:gi (arP S i) 11=gi S (52+15*i.toNat):=by rw [zS (by decide)];simp only [arB];congr 1;omega
   have g13:gi (arP S i) 13=gi S (54+15*i.toNat):=by rw [zS (by decide)];simp only [arB];congr 1;omega
   rw [g8,g11,g13];omega
 have c:k=9->llen (gt S 32 i 1) 2<=20:=by
   rintro rfl;exact hs.cut i i0 (by simpa [qz] using i1)
 rcases hk with rfl | rfl | rfl | rfl | rfl | rfl | rfl | rfl | rfl | rfl | rfl | rfl | rfl | rfl | rfl | rfl
 all_goals first
   | (simp [qj,eP,arF];done)
   | (have c:=c rfl;simp [qj,eP];omega)
   | (have a:=ar (by simpa [qz] using i1);simp [qj,eP,arF];omega)
theorem ZC (hs:Small S) {k:Int} (h1:1<=k) (h2:k<=16):∀{n:Nat},(wz S k n).length<=min n (Xv k)*eP k
 | 0=>by simp [wz]
 | n+1=>by
   rw [wO,List.length_append];have ih:=ZC hs h1 h2 (n:=n);have ht:=Wm hs h1 h2;by_cases h:qz S k<=n
   . rw [dM h,List.length_nil];exact Nat.le_trans ih (Nat.mul_le_mul_right _ (by omega))
   . have hf:=lH hs h1 h2 (i:=n) (by omega) (by omega);have hp:=QN (S:=S) (k:=k) (i:=n) (f:=(qj S k n).toNat);have e:min (n+1) (Xv k)=min n (Xv k)+1:=by omega
     rw [e,Nat.add_mul];omega
theorem max_le {k:Int}:Xv k*eP k<=45100:=by
 unfold Xv eP;by_cases h9:k=9
 . subst h9;decide
 . by_cases h12:k=12\/k=13\/k=14\/k=15
   . simp [h9,h12]
   . by_cases h3:k=3
     . simp [h3]
     . simp [h9,h12,h3]
theorem Ws (hs:Small S) {k:Int} (h1:1<=k) (h2:k<=16) {n:Nat}:(wz S k n).length<=45100:=
 Nat.le_trans (ZC hs h1 h2) (Nat.le_trans (Nat.mul_le_mul_right _ (by omega)) (max_le (k:=k)))
theorem J6 (hs:Small S):∀{n:Nat},n<=16->(mJ S n).length<=n*45100
 | 0,_=>by simp [mJ]
 | n+1,h=>by
   rw [bO,List.length_append];have:=J6 hs (n:=n) (by omega);have:=Ws hs (k:=(n:Int)+1) (by omega) (by omega) (n:=(qz S ((n:Int)+1)).toNat);omega
theorem iV (hs:Small S) {k i f:Int} (h1:1<=k) (h2:k<=16) (i0:0<=i):(zG S k i f).length<=900000:=by
 rw [zG,List.length_append,List.length_append];have a:=J6 hs (n:=k.toNat - 1) (by omega);have b:=Ws hs h1 h2 (n:=i.toNat)
 have c:(jQ S k i f.toNat).length<=1200:=by
   by_cases h:qz S k<=i
   . rw [dM h];simp
   . have d:=QN (S:=S) (k:=k) (i:=i) (f:=f.toNat);have e:=lH hs h1 h2 i0 (by omega);have g:eP k<=1200:=by unfold eP;split <;> (try split) <;> (try split) <;> omega
     omega
 omega
theorem all_le (hs:Small S):(j6 S).length<=900000:=Nat.le_trans (J6 hs (Nat.le_refl _)) (by decide)
theorem Jk {T:Int->Nat->Int} {n:Int} (h:0<=n):qF T (n+1)=qF T n++[(T n 0,T n 1,T n 2,T n 3)]:=by
 have e:(n+1).toNat=n.toNat+1:=by omega
 have en:((n.toNat:Nat):Int)=n:=by omega
 rw [qF,qF,e,List.range_succ,List.map_append,List.map_singleton,en]
theorem nQ {A B:Int->Nat->Int} {n:Int}:WQ (qF A n) (qF B n)↔∀r:Int,0<=r->r<n->A r 0=B r 0/\A r 1=B r 1/\A r 2=B r 2:=by
 simp only [WQ,qF,List.map_map,List.map_inj_left,List.mem_range,Function.comp_apply,Prod.mk.injEq];constructor
 . intro h r h0 h1;have e:((r.toNat:Nat):Int)=r:=by omega
   have:=h r.toNat (by omega)
   rwa [e] at this
 . intro h r hr;exact h r (by omega) (by omega)
theorem iC {l m:List (Int × Int × Int × Int)} (h:WQ l m):l.length=m.length:=by
 have:=congrArg List.length h;simpa using this
theorem lN {A B:Int->Nat->Int} {n:Int} (h:0<=n):dX (qF A (n+1)) (qF B (n+1))=dX (qF A n) (qF B n)++(if A n 3=B n 3 then [] else [(B n 0,B n 1,B n 2,B n 3)]):=by
 rw [dX,Jk h,Jk h,List.zip_append (by rw [zK,zK]),List.filterMap_append];by_cases e:A n 3=B n 3 <;> simp [dX,e]
theorem tY {l m:List (Int × Int × Int × Int)}:(dX l m).length<=l.length:=by
 refine Nat.le_trans (List.length_filterMap_le _ _) ?_;rw [List.length_zip];omega
end Go.Sp
end
noncomputable section
set_option linter.unusedSimpArgs false
namespace Go.Sp
open Go Go.Sx
variable {S T:List D}
theorem Ml {c n:Nat} {x:Int} (hc:c<S.length):gi (S.set c (.i x)) n=if c=n then x else gi S n:=by
 unfold gi;rw [List.getElem?_set];by_cases h:c=n
 . subst h;simp [hc]
 . simp [h]
theorem oD {c n:Nat} {x:Int->Nat->Int} (hc:c<S.length):gi (S.set c (.t x)) n=if c=n then 0 else gi S n:=by
 unfold gi;rw [List.getElem?_set];by_cases h:c=n
 . subst h;simp [hc]
 . simp [h]
theorem vN {c n:Nat} {x:Int->Nat->Int} (hc:c<S.length):gt (S.set c (.t x)) n=if c=n then x else gt S n:=by
 unfold gt;rw [List.getElem?_set];by_cases h:c=n
 . subst h;simp [hc]
 . simp [h]
theorem Mc {c n:Nat} {x:Int} (hc:c<S.length):gt (S.set c (.i x)) n=if c=n then (fun _ _=>0) else gt S n:=by
 unfold gt;rw [List.getElem?_set];by_cases h:c=n
 . subst h;simp [hc]
 . simp [h]
structure Eqv (S T:List D) (c:Nat):Prop where
 i:∀n,n≠c->n≠32->gi T n=gi S n
 t:∀n,n≠c->n≠32->gt T n=gt S n
theorem qxT (hS:S.length=281) {c:Nat} (hc:c<281) {g:Int->Nat->Int} {x:Int}:Eqv S ((S.set 32 (.t g)).set c (.i x)) c:=
 ⟨fun n h h2=>by rw [Ml (by simp [hS];omega),if_neg (fun e=>h e.symm),oD (by omega),if_neg (fun e=>h2 e.symm)],fun n h h2=>by rw [Mc (by simp [hS];omega),if_neg (fun e=>h e.symm),vN (by omega),if_neg (fun e=>h2 e.symm)]⟩
theorem qxS (hS:S.length=281) {c:Nat} (hc:c<281) {g f:Int->Nat->Int}:Eqv S ((S.set 32 (.t g)).set c (.t f)) c:=
 ⟨fun n h h2=>by rw [oD (by simp [hS];omega),if_neg (fun e=>h e.symm),oD (by omega),if_neg (fun e=>h2 e.symm)],fun n h h2=>by rw [vN (by simp [hS];omega),if_neg (fun e=>h e.symm),vN (by omega),if_neg (fun e=>h2 e.symm)]⟩
theorem qxR (hS:S.length=281) {g:Int->Nat->Int}:Eqv S (S.set 32 (.t g)) 32:=
 ⟨fun n h h2=>by rw [oD (by omega),if_neg (fun e=>h2 e.symm)],fun n h h2=>by rw [vN (by omega),if_neg (fun e=>h2 e.symm)]⟩
def nl (c:Nat):Prop:=c≠1/\c≠3/\c≠5/\c≠6/\c≠7/\c≠24/\c≠26/\c≠31/\c≠33/\c≠36/\c≠38/\c≠40/\∀j:Nat,c≠49+15*j/\c≠52+15*j/\c≠54+15*j
def Qh (S T:List D):Prop:=∀r:Int,0<=r->r<gi S 33->llen (gt T 32 r 1) 2=llen (gt S 32 r 1) 2
section
variable {c:Nat} (h:Eqv S T c) (hc:nl c)
include h hc
theorem Wn {k:Int}:qz T k=qz S k:=by
 obtain ⟨c1,c3,c5,c6,c7,c24,c26,c31,c33,c36,c38,c40,cj⟩:=hc;unfold qz;rw [h.i 1 (Ne.symm c1) (by decide),h.i 3 (Ne.symm c3) (by decide),h.i 5 (Ne.symm c5) (by decide),h.i 24 (Ne.symm c24) (by decide),h.i 26 (Ne.symm c26) (by decide),h.i 31 (Ne.symm c31) (by decide),h.i 33 (Ne.symm c33) (by decide),h.i 36 (Ne.symm c36) (by decide)]
theorem qqg {k i:Int}:arF (arP T i) k=arF (arP S i) k:=by
 obtain ⟨c1,c3,c5,c6,c7,c24,c26,c31,c33,c36,c38,c40,cj⟩:=hc;have a:=cj i.toNat;unfold arF;rw [zS (by decide),zS (by decide),zS (by decide),zS (by decide),zS (by decide),zS (by decide)];unfold arB;rw [h.i _ (by omega) (by omega),h.i (41+15*i.toNat+11) (by omega) (by omega),h.i (41+15*i.toNat+13) (by omega) (by omega)]
theorem W9 (z:Qh S T) {k i:Int} (i0:0<=i) (i1:i<qz S k):qj T k i=qj S k i:=by
 unfold qj;by_cases h9:k=9
 . subst h9;have i1:i<gi S 33:=by simpa [qz] using i1
   simp [z i i0 i1]
 . simp only [h9,if_false,qqg h hc]
theorem has_eq (z:Qh S T) {k i f:Int}:zo T k i f=zo S k i f:=by
 obtain ⟨c1,c3,c5,c6,c7,c24,c26,c31,c33,c36,c38,c40,cj⟩:=id hc;unfold zo;rw [Wn h hc,h.i 38 (Ne.symm c38) (by decide),h.i 40 (Ne.symm c40) (by decide)];by_cases hi:0<=i/\i<qz S k
 . rw [W9 h hc z hi.1 hi.2]
 . have e:∀a b:Prop,¬(0<=i/\i<qz S k/\a/\b):=fun a b x=>hi ⟨x.1,x.2.1⟩;simp only [e,decide_false]
end
def inP (c:Nat) (k i:Int):Prop:=
 k=1/\c=0\/k=2/\c=2\/k=3/\c=4\/k=4/\c=23\/k=5/\c=22\/k=6/\c=25\/k=7/\(c=27\/c=28\/c=29)\/k=8/\c=30\/k=10/\c=34\/k=11/\(c=35\/c=37\/c=39)\/k=16/\8<=c/\c<=21\/
 k=12/\(41+15*i.toNat<=c/\c<=47+15*i.toNat\/c=50+15*i.toNat\/c=55+15*i.toNat)\/k=13/\c=48+15*i.toNat\/k=14/\c=51+15*i.toNat\/k=15/\c=53+15*i.toNat
theorem bW {S:List D} {k i f:Int} (hk:k=12):qh S k i f=if f=7 then tr (gi S (50+15*i.toNat)) else if f=8 then gi S (55+15*i.toNat) else gi (arP S i) f.toNat:=by
 subst hk;simp only [qh,arG,Int.reduceEq,if_false];rw [zS (show 9<15 by decide),zS (show 14<15 by decide)];have e1:arB i+9=50+15*i.toNat:=by unfold arB;omega
 have e2:arB i+14=55+15*i.toNat:=by unfold arB;omega
 rw [e1,e2]
theorem sO {S:List D} {i f:Int}:qh S 13 i f=gt S (48+15*i.toNat) (f / 2) (f % 2).toNat:=by
 simp only [qh,arG,Int.reduceEq,if_false,if_true];rw [iw (show 7<15 by decide)];have e1:arB i+7=48+15*i.toNat:=by unfold arB;omega
 rw [e1]
theorem sI {S:List D} {i f:Int}:qh S 14 i f=gt S (51+15*i.toNat) (f / 2) (f % 2).toNat:=by
 simp only [qh,arG,Int.reduceEq,if_false,if_true];rw [iw (show 10<15 by decide)];have e1:arB i+10=51+15*i.toNat:=by unfold arB;omega
 rw [e1]
theorem sU {S:List D} {i f:Int}:qh S 15 i f=gt S (53+15*i.toNat) (f / 2) (f % 2).toNat:=by
 simp only [qh,arG,Int.reduceEq,if_false,if_true];rw [iw (show 12<15 by decide)];have e1:arB i+12=53+15*i.toNat:=by unfold arB;omega
 rw [e1]
theorem Md {k:Int} (h1:1<=k) (h2:k<=16):k=1\/k=2\/k=3\/k=4\/k=5\/k=6\/k=7\/k=8\/k=9\/k=10\/k=11\/k=12\/k=13\/k=14\/k=15\/k=16:=by omega
section
variable {c:Nat} (h:Eqv S T c)
include h
theorem pU {k i:Int} {n:Nat} (hn:¬inP c k i) (e:c=n->inP c k i) (h2:n≠32):gt T n=gt S n:=h.t n (fun x=>hn (e x.symm)) h2
theorem WX {k i:Int} {n:Nat} (hn:¬inP c k i) (e:c=n->inP c k i) (h2:n≠32):gi T n=gi S n:=h.i n (fun x=>hn (e x.symm)) h2
theorem qq9 {i f:Int} (hn:¬inP c 1 i):qh T 1 i f=qh S 1 i f:=by
 simp only [qh,if_true];rw [pU h hn (n:=0) (fun e=>.inl ⟨rfl,e⟩) (by decide)]
theorem qq8 {i f:Int} (hn:¬inP c 2 i):qh T 2 i f=qh S 2 i f:=by
 simp only [qh,Int.reduceEq,if_false,if_true];rw [pU h hn (n:=2) (fun e=>by simp [inP,e]) (by decide)]
theorem qq7 {i f:Int} (hn:¬inP c 3 i):qh T 3 i f=qh S 3 i f:=by
 simp only [qh,Int.reduceEq,if_false,if_true];rw [pU h hn (n:=4) (fun e=>by simp [inP,e]) (by decide)]
theorem qq6 {i f:Int} (hn:¬inP c 4 i):qh T 4 i f=qh S 4 i f:=by
 simp only [qh,Int.reduceEq,if_false,if_true];rw [pU h hn (n:=23) (fun e=>by simp [inP,e]) (by decide)]
theorem qq5 {i f:Int} (hn:¬inP c 5 i):qh T 5 i f=qh S 5 i f:=by
 simp only [qh,Int.reduceEq,if_false,if_true];rw [WX h hn (n:=22) (fun e=>by simp [inP,e]) (by decide)]
theorem qq4 {i f:Int} (hn:¬inP c 6 i):qh T 6 i f=qh S 6 i f:=by
 simp only [qh,Int.reduceEq,if_false,if_true];rw [pU h hn (n:=25) (fun e=>by simp [inP,e]) (by decide)]
theorem qq2 {i f:Int} (hn:¬inP c 7 i):qh T 7 i f=qh S 7 i f:=by
 simp only [qh,Int.reduceEq,if_false,if_true];rw [WX h hn (n:=27) (fun e=>by simp [inP,e]) (by decide),WX h hn (n:=28) (fun e=>by simp [inP,e]) (by decide),WX h hn (n:=29) (fun e=>by simp [inP,e]) (by decide)]
theorem qq1 {i f:Int} (hn:¬inP c 8 i):qh T 8 i f=qh S 8 i f:=by
 simp only [qh,Int.reduceEq,if_false,if_true];rw [pU h hn (n:=30) (fun e=>by simp [inP,e]) (by decide)]
theorem Ia {i f:Int} (hn:¬inP c 10 i):qh T 10 i f=qh S 10 i f:=by
 simp only [qh,Int.reduceEq,if_false,if_true];rw [WX h hn (n:=34) (fun e=>by simp [inP,e]) (by decide)]
theorem Io {i f:Int} (hn:¬inP c 11 i):qh T 11 i f=qh S 11 i f:=by
 simp only [qh,Int.reduceEq,if_false,if_true];rw [pU h hn (n:=35) (fun e=>by simp [inP,e]) (by decide),pU h hn (n:=37) (fun e=>by simp [inP,e]) (by decide),pU h hn (n:=39) (fun e=>by simp [inP,e]) (by decide)]
theorem Ir {i f:Int} (h1:0<=f) (h2:f<14) (hn:¬inP c 16 i):qh T 16 i f=qh S 16 i f:=by
 simp only [qh,Int.reduceEq,if_false,if_true];refine WX h hn (fun e=>?_) (by omega);simp only [inP,Int.reduceEq,false_and,false_or,true_and,or_false];omega
theorem Ii {i f:Int} (h1:0<=f) (h2:f<9) (hn:¬inP c 12 i):qh T 12 i f=qh S 12 i f:=by
 rw [bW rfl,bW rfl];have e:inP c 12 i↔(41+15*i.toNat<=c/\c<=47+15*i.toNat\/c=50+15*i.toNat\/c=55+15*i.toNat):=by simp only [inP,Int.reduceEq,false_and,false_or,true_and,or_false]
 rw [e] at hn;rw [h.i (50+15*i.toNat) (by omega) (by omega),h.i (55+15*i.toNat) (by omega) (by omega)];by_cases f7:f=7
 . simp [f7]
 by_cases f8:f=8
 . simp [f8]
 rw [zS (by omega),zS (by omega),h.i _ (by unfold arB;omega) (by unfold arB;omega)]
theorem Iu {i f:Int} (hn:¬inP c 13 i):qh T 13 i f=qh S 13 i f:=by
 rw [sO,sO,pU h hn (fun e=>by simp only [inP,Int.reduceEq,false_and,false_or,true_and,or_false];exact e) (by omega)]
theorem Il {i f:Int} (hn:¬inP c 14 i):qh T 14 i f=qh S 14 i f:=by
 rw [sI,sI,pU h hn (fun e=>by simp only [inP,Int.reduceEq,false_and,false_or,true_and,or_false];exact e) (by omega)]
theorem Ic {i f:Int} (hn:¬inP c 15 i):qh T 15 i f=qh S 15 i f:=by
 rw [sU,sU,pU h hn (fun e=>by simp only [inP,Int.reduceEq,false_and,false_or,true_and,or_false];exact e) (by omega)]
theorem Uj (z:∀r:Int,0<=r->r<gi S 33->∀f,0<=f->f<1+2*llen (gt S 32 r 1) 2->qh T 9 r f=qh S 9 r f) {k i f:Int} (h1:1<=k) (h2:k<=16) (hh:zo S k i f=true) (hn:¬inP c k i):qh T k i f=qh S k i f:=by
 have hf:=qZ hh;rcases Md h1 h2 with rfl | rfl | rfl | rfl | rfl | rfl | rfl | rfl | rfl | rfl | rfl | rfl | rfl | rfl | rfl | rfl
 . exact qq9 h hn
 . exact qq8 h hn
 . exact qq7 h hn
 . exact qq6 h hn
 . exact qq5 h hn
 . exact qq4 h hn
 . exact qq2 h hn
 . exact qq1 h hn
 . simp only [qz,qj,Int.reduceEq,if_false,if_true] at hf;exact z i hf.1 hf.2.1 f hf.2.2.1 hf.2.2.2.1
 . exact Ia h hn
 . exact Io h hn
 . simp only [qj,arF,Int.reduceEq,if_false,if_true] at hf;exact Ii h hf.2.2.1 hf.2.2.2.1 hn
 . exact Iu h hn
 . exact Il h hn
 . exact Ic h hn
 . simp only [qj,Int.reduceEq,if_false,if_true] at hf;exact Ir h hf.2.2.1 hf.2.2.2.1 hn
end
theorem Rt {c:Nat} (hs:Small S) (h:Eqv S T c) (hc:nl c) (z:Qh S T) (hv:∀k i f,1<=k->k<=16->zo S k i f=true->qM k f (qh T k i f)):Small T:=by
 obtain ⟨c1,c3,c5,c6,c7,c24,c26,c31,c33,c36,c38,c40,cj⟩:=id hc;have e33:=h.i 33 (Ne.symm c33) (by decide)
 exact { a1:=by rw [h.i 1 (Ne.symm c1) (by decide)];exact hs.a1
         a3:=by rw [h.i 3 (Ne.symm c3) (by decide)];exact hs.a3
         a5:=by rw [h.i 5 (Ne.symm c5) (by decide)];exact hs.a5
         a7:=by rw [h.i 7 (Ne.symm c7) (by decide)];exact hs.a7
         a24:=by rw [h.i 24 (Ne.symm c24) (by decide)];exact hs.a24
         a26:=by rw [h.i 26 (Ne.symm c26) (by decide)];exact hs.a26
         a31:=by rw [h.i 31 (Ne.symm c31) (by decide)];exact hs.a31
         a33:=by rw [e33];exact hs.a33
         a36:=by rw [h.i 36 (Ne.symm c36) (by decide)];exact hs.a36
         a38:=by rw [h.i 38 (Ne.symm c38) (by decide)];exact hs.a38
         a40:=by rw [h.i 40 (Ne.symm c40) (by decide)];exact hs.a40
         cut:=fun i i0 i1=>by rw [e33] at i1;rw [z i i0 i1];exact hs.cut i i0 i1
         ar:=fun j hj=>by
           rw [h.i _ (Ne.symm (cj j).1) (by omega),h.i _ (Ne.symm (cj j).2.1) (by omega),h.i _ (Ne.symm (cj j).2.2) (by omega)];exact hs.ar j hj
         val:=fun k i f h1 h2 hh=>by rw [has_eq h hc z] at hh;exact hv k i f h1 h2 hh }
theorem Hw {c:Nat} {k i f to:Int} (hs:Small S) (h:Eqv S T c) (hc:nl c) (z:Qh S T) (hx:qM k f to)
   (hg:∀k' i' f',1<=k'->k'<=16->zo S k' i' f'=true->(k'=k/\i'=i/\f'=f->qh T k' i' f'=to)/\(¬(k'=k/\i'=i/\f'=f)->qh T k' i' f'=qh S k' i' f')):kD S k i f to T:=by
 obtain ⟨c1,c3,c5,c6,c7,c24,c26,c31,c33,c36,c38,c40,cj⟩:=id hc;refine ⟨fun k'=>Wn h hc,fun k' i' i0 i1=>W9 h hc z i0 i1,⟨h.i 38 (Ne.symm c38) (by decide),h.i 40 (Ne.symm c40) (by decide)⟩,hg,⟨h.t 6 (Ne.symm c6) (by decide),h.i 7 (Ne.symm c7) (by decide)⟩,Rt hs h hc z fun k' i' f' h1 h2 hh=>?_⟩;have a:=hg k' i' f' h1 h2 hh;by_cases e:k'=k/\i'=i/\f'=f
 . rw [a.1 e];obtain ⟨rfl,rfl,rfl⟩:=e;exact hx
 . rw [a.2 e];exact hs.val k' i' f' h1 h2 hh
theorem Vq {g:Int->Nat->Int} (hz:jq (gt S 32) (gi S 33) g) (e:gt T 32=g):Qh S T:=fun r r0 r1=>by rw [e];exact (hz r r0 r1).2.1
theorem BX {g:Int->Nat->Int} (hz:jq (gt S 32) (gi S 33) g) (e:gt T 32=g):∀r:Int,0<=r->r<gi S 33->∀f,0<=f->f<1+2*llen (gt S 32 r 1) 2->qh T 9 r f=qh S 9 r f:=by
 intro r r0 r1 f f0 f1;have a:=hz r r0 r1;simp only [qh,Int.reduceEq,if_false,if_true];rw [e];by_cases hf:f=0
 . simp [hf,a.1]
 . simp only [hf,if_false];exact a.2.2 _ _ (by omega) (by omega) (by omega) (by omega)
theorem Hy {c:Nat} {k i f to:Int} {g:Int->Nat->Int} (hs:Small S) (h:Eqv S T c) (hc:nl c) (hz:jq (gt S 32) (gi S 33) g) (eg:gt T 32=g) (hx:qM k f to) (hk:inP c k i)
   (hg:∀k' i' f',1<=k'->k'<=16->zo S k' i' f'=true->inP c k' i'->(k'=k/\i'=i/\f'=f->qh T k' i' f'=to)/\(¬(k'=k/\i'=i/\f'=f)->qh T k' i' f'=qh S k' i' f')):kD S k i f to T:=
 Hw hs h hc (Vq hz eg) hx fun k' i' f' h1 h2 hh=>by
   by_cases e:inP c k' i'
   . exact hg k' i' f' h1 h2 hh e
   . exact ⟨fun x=>(e (by obtain ⟨rfl,rfl,rfl⟩:=x;exact hk)).elim,fun _=>Uj h (BX hz eg) h1 h2 hh e⟩
end Go.Sp
noncomputable section
set_option linter.unusedSimpArgs false
namespace Go.Sp
open Go Go.Sx
variable {S T:List D}
section
variable {g:Int->Nat->Int} (hS:St S) (hs:Small S) (hz:jq (gt S 32) (gi S 33) g)
def toI (S:List D) (g:Int->Nat->Int) (c:Nat) (y:Int):List D:=(S.set 32 (.t g)).set c (.i y)
def toT (S:List D) (g:Int->Nat->Int) (c:Nat) (y:Int->Nat->Int):List D:=(S.set 32 (.t g)).set c (.t y)
include hS
theorem uz {c n:Nat} {y:Int} (hc:c<281) (h2:n≠32):gi (toI S g c y) n=if c=n then y else gi S n:=by
 unfold toI;rw [Ml (by simp [hS.len];omega),oD (by rw [hS.len];omega),if_neg (Ne.symm h2)]
theorem bH {c n:Nat} {y:Int->Nat->Int} (hc:c<281) (h2:n≠32):gt (toT S g c y) n=if c=n then y else gt S n:=by
 unfold toT;rw [vN (by simp [hS.len];omega),vN (by rw [hS.len];omega),if_neg (Ne.symm h2)]
theorem OY {c:Nat} {y:Int} (hc:c<281) (h2:c≠32):gt (toI S g c y) 32=g:=by
 unfold toI;rw [Mc (by simp [hS.len];omega),vN (by rw [hS.len];omega),if_pos rfl,if_neg h2]
theorem OW {c:Nat} {y:Int->Nat->Int} (hc:c<281) (h2:c≠32):gt (toT S g c y) 32=g:=by
 unfold toT;rw [vN (by simp [hS.len];omega),vN (by rw [hS.len];omega),if_pos rfl,if_neg h2]
include hs hz
theorem WC {c:Nat} {k i f to y:Int} (hc:c<281) (h2:c≠32) (hn:nl c) (hx:qM k f to) (hk:inP c k i)
   (hg:∀k' i' f',1<=k'->k'<=16->zo S k' i' f'=true->inP c k' i'->(k'=k/\i'=i/\f'=f->qh (toI S g c y) k' i' f'=to)/\(¬(k'=k/\i'=i/\f'=f)->qh (toI S g c y) k' i' f'=qh S k' i' f')):kD S k i f to (toI S g c y):=
 Hy hs (qxT hS.len hc) hn hz (OY hS hc h2) hx hk hg
theorem mZ {c:Nat} {k i f to:Int} {y:Int->Nat->Int} (hc:c<281) (h2:c≠32) (hn:nl c) (hx:qM k f to) (hk:inP c k i)
   (hg:∀k' i' f',1<=k'->k'<=16->zo S k' i' f'=true->inP c k' i'->(k'=k/\i'=i/\f'=f->qh (toT S g c y) k' i' f'=to)/\(¬(k'=k/\i'=i/\f'=f)->qh (toT S g c y) k' i' f'=qh S k' i' f')):kD S k i f to (toT S g c y):=
 Hy hs (qxS hS.len hc) hn hz (OW hS hc h2) hx hk hg
theorem bP {c:Nat} (h:c<41) (h1:c≠1/\c≠3/\c≠5/\c≠6/\c≠7/\c≠24/\c≠26/\c≠31/\c≠33/\c≠36/\c≠38/\c≠40):nl c:=have _:=hS;have _:=hs;have _:=hz;⟨h1.1,h1.2.1,h1.2.2.1,h1.2.2.2.1,h1.2.2.2.2.1,h1.2.2.2.2.2.1,h1.2.2.2.2.2.2.1,h1.2.2.2.2.2.2.2.1,h1.2.2.2.2.2.2.2.2.1,h1.2.2.2.2.2.2.2.2.2.1,h1.2.2.2.2.2.2.2.2.2.2.1,h1.2.2.2.2.2.2.2.2.2.2.2,fun j=>by omega⟩
theorem qqO {to:Int} (hx:qM 5 0 to):kD S 5 0 0 to (toI S g 22 to):=
 WC hS hs hz (by decide) (by decide) (bP hS hs hz (by decide) (by decide)) hx (by simp [inP]) fun k i f h1 h2 hh hi=>by
   simp [inP] at hi;have e:k=5:=by omega
   subst e;have hf:=qZ hh;simp only [qz,qj,Int.reduceEq,if_false,if_true] at hf;have e1:i=0:=by omega
   have e2:f=0:=by omega
   subst e1;subst e2;exact ⟨fun _=>by simp [qh,uz hS],fun h=>(h ⟨rfl,rfl,rfl⟩).elim⟩
theorem Ih {to:Int} (hx:qM 10 0 to):kD S 10 0 0 to (toI S g 34 to):=
 WC hS hs hz (by decide) (by decide) (bP hS hs hz (by decide) (by decide)) hx (by simp [inP]) fun k i f h1 h2 hh hi=>by
   simp [inP] at hi;have e:k=10:=by omega
   subst e;have hf:=qZ hh;simp only [qz,qj,Int.reduceEq,if_false,if_true] at hf;have e1:i=0:=by omega
   have e2:f=0:=by omega
   subst e1;subst e2;exact ⟨fun _=>by simp [qh,uz hS],fun h=>(h ⟨rfl,rfl,rfl⟩).elim⟩
theorem CP {f to:Int} {c:Nat} (hc:f=0/\c=27\/f=1/\c=29\/f=2/\c=28) (hx:qM 7 f to):kD S 7 0 f to (toI S g c to):=by
 refine WC hS hs hz (by omega) (by omega) (bP hS hs hz (by omega) (by omega)) hx (by simp [inP];omega) fun k i f1 h1 h2 hh hi=>?_
 have e:k=7:=by
   rcases hc with ⟨_,rfl⟩ | ⟨_,rfl⟩ | ⟨_,rfl⟩ <;> simp [inP] at hi <;> omega
 subst e;have hf:=qZ hh;simp only [qz,qj,Int.reduceEq,if_false,if_true] at hf;have e1:i=0:=by omega
 subst e1;have e2:f1=0\/f1=1\/f1=2:=by omega
 rcases hc with ⟨rfl,rfl⟩ | ⟨rfl,rfl⟩ | ⟨rfl,rfl⟩ <;> rcases e2 with rfl | rfl | rfl <;> simp [qh,uz hS]
theorem RP {m:Nat} {to:Int} (hm:m<14) (hx:qM 16 (m:Int) to):kD S 16 0 m to (toI S g (8+m) to):=by
 refine WC hS hs hz (by omega) (by omega) (bP hS hs hz (by omega) (by omega)) hx (by simp [inP];omega) fun k i f h1 h2 hh hi=>?_
 have e:k=16:=by
   simp only [inP] at hi;omega
 subst e;have hf:=qZ hh;simp only [qz,qj,Int.reduceEq,if_false,if_true] at hf;have e1:i=0:=by omega
 subst e1;simp only [qh,Int.reduceEq,if_false,if_true];rw [uz hS (by omega) (by omega)];by_cases e:f=m
 . subst e;simp
 . rw [if_neg (by omega)];simp [e]
theorem Iw {m:Nat} {i to:Int} (_hm:m<3) (hx:qM 1 m to):kD S 1 i m to (toT S g 0 (qd (gt S 0) i m to)):=by
 refine mZ hS hs hz (by omega) (by omega) (bP hS hs hz (by omega) (by omega)) hx (by simp [inP]) fun k i' f h1 h2 hh hi=>?_;have e:k=1:=by simp [inP] at hi;omega
 subst e;have hf:=qZ hh;simp only [qz,qj,Int.reduceEq,if_false,if_true] at hf;simp only [qh,if_true];rw [bH hS (by omega) (by omega),if_pos rfl];unfold qd;by_cases e:i'=i/\f=m
 . obtain ⟨rfl,rfl⟩:=e;simp
 . rw [if_neg (by omega)];simp [e]
theorem Iq {m:Nat} {i to:Int} (_hm:m<2) (hx:qM 4 m to):kD S 4 i m to (toT S g 23 (qd (gt S 23) i m to)):=by
 refine mZ hS hs hz (by omega) (by omega) (bP hS hs hz (by omega) (by omega)) hx (by simp [inP]) fun k i' f h1 h2 hh hi=>?_;have e:k=4:=by simp [inP] at hi;omega
 subst e;have hf:=qZ hh;simp only [qz,qj,Int.reduceEq,if_false,if_true] at hf;simp only [qh,Int.reduceEq,if_false,if_true];rw [bH hS (by omega) (by omega),if_pos rfl];unfold qd;by_cases e:i'=i/\f=m
 . obtain ⟨rfl,rfl⟩:=e;simp
 . rw [if_neg (by omega)];simp [e]
theorem RH {m:Nat} {i to:Int} (_hm:m<2) (hx:qM 8 m to):kD S 8 i m to (toT S g 30 (qd (gt S 30) i m to)):=by
 refine mZ hS hs hz (by omega) (by omega) (bP hS hs hz (by omega) (by omega)) hx (by simp [inP]) fun k i' f h1 h2 hh hi=>?_;have e:k=8:=by simp [inP] at hi;omega
 subst e;have hf:=qZ hh;simp only [qz,qj,Int.reduceEq,if_false,if_true] at hf;simp only [qh,Int.reduceEq,if_false,if_true];rw [bH hS (by omega) (by omega),if_pos rfl];unfold qd;by_cases e:i'=i/\f=m
 . obtain ⟨rfl,rfl⟩:=e;simp
 . rw [if_neg (by omega)];simp [e]
theorem Ik {i to:Int} (hx:qM 2 0 to):kD S 2 i 0 to (toT S g 2 (qd (gt S 2) i 0 to)):=by
 refine mZ hS hs hz (by omega) (by omega) (bP hS hs hz (by omega) (by omega)) hx (by simp [inP]) fun k i' f h1 h2 hh hi=>?_;have e:k=2:=by simp [inP] at hi;omega
 subst e;have hf:=qZ hh;simp only [qz,qj,Int.reduceEq,if_false,if_true] at hf;have e1:f=0:=by omega
 subst e1;simp only [qh,Int.reduceEq,if_false,if_true];rw [bH hS (by omega) (by omega),if_pos rfl];unfold qd;by_cases e:i'=i
 . subst e;simp
 . simp [e]
theorem P5 {to:Int} (h0:0<=to) (h1:to<=1):tr (if to=1 then 1 else 0)=to:=by
 have _:=hS;have _:=hs;have _:=hz;unfold tr;by_cases h:to=1 <;> simp [h];omega
theorem U8 {m:Nat} {i to:Int} (hm:m<4) (hx:qM 6 m to):kD S 6 i m to (toT S g 25 (qd (gt S 25) i m to)):=by
 refine mZ hS hs hz (by omega) (by omega) (bP hS hs hz (by omega) (by omega)) hx (by simp [inP]) fun k i' f h1 h2 hh hi=>?_;have e:k=6:=by simp [inP] at hi;omega
 subst e;have hf:=qZ hh;simp only [qz,qj,Int.reduceEq,if_false,if_true] at hf;simp only [qh,Int.reduceEq,if_false,if_true];rw [bH hS (by omega) (by omega),if_pos rfl];unfold qd;by_cases e4:f=4
 . subst e4;rw [if_pos rfl,if_pos rfl,if_neg (by omega)];exact ⟨fun h=>by omega,fun _=>rfl⟩
 rw [if_neg e4,if_neg e4];by_cases e:i'=i/\f=m
 . obtain ⟨rfl,rfl⟩:=e;simp
 . rw [if_neg (by omega)];simp [e]
theorem U9 {i to:Int} (hx:qM 6 4 to):kD S 6 i 4 to (toT S g 25 (qd (gt S 25) i 4 (if to=1 then 1 else 0))):=by
 refine mZ hS hs hz (by omega) (by omega) (bP hS hs hz (by omega) (by omega)) hx (by simp [inP]) fun k i' f h1 h2 hh hi=>?_;have e:k=6:=by simp [inP] at hi;omega
 subst e;have hf:=qZ hh;simp only [qz,qj,Int.reduceEq,if_false,if_true] at hf;simp only [qh,Int.reduceEq,if_false,if_true];rw [bH hS (by omega) (by omega),if_pos rfl];have b:=hx.2.1 (.inl ⟨rfl,rfl⟩);by_cases e4:f=4
 . subst e4;rw [if_pos rfl,if_pos rfl];by_cases e:i'=i
   . subst e;rw [show qd (gt S 25) i' 4 (if to=1 then 1 else 0) i' 4=(if to=1 then 1 else 0) by simp [qd]];simp [P5 hS hs hz b.1 b.2]
   . rw [show qd (gt S 25) i 4 (if to=1 then 1 else 0) i' 4=gt S 25 i' 4 by simp [qd,e]];simp [e]
 rw [if_neg e4,if_neg e4];rw [show qd (gt S 25) i 4 (if to=1 then 1 else 0) i' f.toNat=gt S 25 i' f.toNat by unfold qd;rw [if_neg (by omega)]];simp [e4]
theorem Iz {i to:Int} (hx:qM 3 64 to):kD S 3 i 64 to (toT S g 4 (qd (gt S 4) i 0 to)):=by
 refine mZ hS hs hz (by omega) (by omega) (bP hS hs hz (by omega) (by omega)) hx (by simp [inP]) fun k i' f h1 h2 hh hi=>?_;have e:k=3:=by simp [inP] at hi;omega
 subst e;have hf:=qZ hh;simp only [qz,qj,Int.reduceEq,if_false,if_true] at hf;simp only [qh,Int.reduceEq,if_false,if_true];rw [bH hS (by omega) (by omega),if_pos rfl];by_cases e4:f<64
 . rw [if_pos e4,if_pos e4];rw [show qd (gt S 4) i 0 to i' (f.toNat+1)=gt S 4 i' (f.toNat+1) by unfold qd;rw [if_neg (by omega)]];exact ⟨fun h=>by omega,fun _=>rfl⟩
 . have e:f=64:=by omega
   subst e;simp only [Int.reduceLT,if_false];unfold qd;by_cases e:i'=i
   . subst e;simp
   . simp [e]
theorem M9 {to:Int} (h0:0<=to) (h1:to<=255):IntKind.i64.wrap (IntKind.u8.wrap to)=to:=by
 have _:=hS;have _:=hs;have _:=hz;rw [rZ (k:=.u8) ⟨by show (0:Int)<=_;exact h0,by show _<=(255:Int);exact h1⟩];exact rZ ⟨by rw [oK];omega,by rw [imax];omega⟩
theorem Ij {m:Nat} {i to:Int} (hm:m<64) (hx:qM 3 m to):kD S 3 i m to (toT S g 4 (qd (gt S 4) i (m+1) (IntKind.u8.wrap to))):=by
 refine mZ hS hs hz (by omega) (by omega) (bP hS hs hz (by omega) (by omega)) hx (by simp [inP]) fun k i' f h1 h2 hh hi=>?_;have e:k=3:=by simp [inP] at hi;omega
 subst e;have hf:=qZ hh;simp only [qz,qj,Int.reduceEq,if_false,if_true] at hf;simp only [qh,Int.reduceEq,if_false,if_true];rw [bH hS (by omega) (by omega),if_pos rfl];have b:=hx.1 ⟨rfl,by omega⟩;by_cases e4:f<64
 . rw [if_pos e4,if_pos e4];by_cases e:i'=i/\f=m
   . obtain ⟨rfl,rfl⟩:=e;rw [show qd (gt S 4) i' (m+1) (IntKind.u8.wrap to) i' ((m:Int).toNat+1)=IntKind.u8.wrap to by simp [qd]];simp [M9 hS hs hz b.1 b.2]
   . rw [show qd (gt S 4) i (m+1) (IntKind.u8.wrap to) i' (f.toNat+1)=gt S 4 i' (f.toNat+1) by unfold qd;rw [if_neg (by omega)]];simp [e]
 . rw [if_neg e4,if_neg e4];rw [show qd (gt S 4) i (m+1) (IntKind.u8.wrap to) i' 0=gt S 4 i' 0 by simp [qd]];exact ⟨fun h=>by omega,fun _=>rfl⟩
theorem Ht {f to:Int} {i:Int} {c:Nat} (hc:f=0/\c=35\/f=2/\c=39) (hx:qM 11 f to):kD S 11 i f to (toT S g c (qd (gt S c) i 0 to)):=by
 refine mZ hS hs hz (by omega) (by omega) (bP hS hs hz (by omega) (by omega)) hx (by simp [inP];omega) fun k i' f1 h1 h2 hh hi=>?_
 have e:k=11:=by
   rcases hc with ⟨_,rfl⟩ | ⟨_,rfl⟩ <;> simp [inP] at hi <;> omega
 subst e;have hf:=qZ hh;simp only [qz,qj,Int.reduceEq,if_false,if_true] at hf;have e2:f1=0\/f1=1\/f1=2:=by omega
 by_cases e:i'=i
 . subst e;rcases hc with ⟨rfl,rfl⟩ | ⟨rfl,rfl⟩ <;> rcases e2 with rfl | rfl | rfl <;> simp [qh,bH hS,qd]
 . rcases hc with ⟨rfl,rfl⟩ | ⟨rfl,rfl⟩ <;> rcases e2 with rfl | rfl | rfl <;> simp [qh,bH hS,qd,e]
theorem RL {i to:Int} (hx:qM 11 1 to):kD S 11 i 1 to (toT S g 37 (qd (gt S 37) i 0 (if to=1 then 1 else 0))):=by
 refine mZ hS hs hz (by omega) (by omega) (bP hS hs hz (by omega) (by omega)) hx (by simp [inP]) fun k i' f1 h1 h2 hh hi=>?_;have e:k=11:=by simp [inP] at hi;omega
 subst e;have hf:=qZ hh;simp only [qz,qj,Int.reduceEq,if_false,if_true] at hf;have e2:f1=0\/f1=1\/f1=2:=by omega
 have b:=hx.2.1 (.inr (.inl ⟨rfl,rfl⟩));by_cases e:i'=i
 . subst e;rcases e2 with rfl | rfl | rfl <;> simp [qh,bH hS,qd,P5 hS hs hz b.1 b.2]
 . rcases e2 with rfl | rfl | rfl <;> simp [qh,bH hS,qd,e]
theorem VO {j m:Nat} (h:m<15) (h1:m≠8/\m≠11/\m≠13):nl (41+15*j+m):=have _:=hS;have _:=hs;have _:=hz;⟨by omega,by omega,by omega,by omega,by omega,by omega,by omega,by omega,by omega,by omega,by omega,by omega,fun i=>by omega⟩
theorem Gs {j m:Nat} {k i:Int} (h:m<15) (hi:inP (41+15*j+m) k i):i.toNat=j/\(k=12/\(m<=6\/m=9\/m=14)\/k=13/\m=7\/k=14/\m=10\/k=15/\m=12):=by
 have _:=hS;have _:=hs;have _:=hz;unfold inP at hi;have n1:∀n,n<41->41+15*j+m≠n:=fun n h=>by omega
 simp only [n1 0 (by omega),n1 2 (by omega),n1 4 (by omega),n1 23 (by omega),n1 22 (by omega),n1 25 (by omega),n1 27 (by omega),n1 28 (by omega),n1 29 (by omega),n1 30 (by omega),n1 34 (by omega),n1 35 (by omega),n1 37 (by omega),n1 39 (by omega),and_false,false_or,or_false] at hi;rcases hi with h | h | h | h | h
 . omega
 . obtain ⟨hk,h⟩:=h;refine ⟨by omega,.inl ⟨hk,by omega⟩⟩
 . obtain ⟨hk,h⟩:=h;exact ⟨by omega,.inr (.inl ⟨hk,by omega⟩)⟩
 . obtain ⟨hk,h⟩:=h;exact ⟨by omega,.inr (.inr (.inl ⟨hk,by omega⟩))⟩
 . obtain ⟨hk,h⟩:=h;exact ⟨by omega,.inr (.inr (.inr ⟨hk,by omega⟩))⟩
theorem Hr {j m:Nat} {f to:Int} (hj:j<16) (hm:m<=6/\f=m\/m=14/\f=8) (hx:qM 12 f to):kD S 12 j f to (toI S g (41+15*j+m) to):=by
 refine WC hS hs hz (by omega) (by omega) (VO hS hs hz (by omega) (by omega)) hx (by unfold inP;right;right;right;right;right;right;right;right;right;right;right;left;exact ⟨rfl,by omega⟩) fun k i f1 h1 h2 hh hi=>?_;obtain ⟨a,b⟩:=Gs hS hs hz (by omega) hi;have e:k=12:=by omega
 subst e;have hf:=qZ hh;simp only [qz,qj,arF,Int.reduceEq,if_false,if_true] at hf;have ei:i=j:=by omega
 subst ei;rw [bW rfl,bW rfl,uz hS (by omega) (by omega),uz hS (by omega) (by omega),if_neg (show ¬41+15*j+m=50+15*((j:Nat):Int).toNat by omega)];have et:((j:Nat):Int).toNat=j:=by omega
 by_cases f7:f1=7
 . subst f7;rw [if_pos rfl,if_pos rfl];exact ⟨fun h=>by omega,fun _=>rfl⟩
 rw [if_neg f7,if_neg f7];by_cases f8:f1=8
 . subst f8;simp only [if_true,et];by_cases e:m=14
   . subst e;have:f=8:=by omega
     subst this;simp;omega
   . rw [if_neg (by omega)];exact ⟨fun h=>by omega,fun _=>rfl⟩
 rw [if_neg f8,if_neg f8,zS (by omega),zS (by omega),uz hS (by omega) (by unfold arB;omega)];unfold arB;rw [et];by_cases e:f1=f
 . subst e;rw [if_pos (by omega)];simp
 . rw [if_neg (by omega)];simp [e]
theorem RS {j:Nat} {to:Int} (hj:j<16) (hx:qM 12 7 to):kD S 12 j 7 to (toI S g (50+15*j) (if to=1 then 1 else 0)):=by
 have ec:50+15*j=41+15*j+9:=by omega
 rw [ec];refine WC hS hs hz (by omega) (by omega) (VO hS hs hz (by omega) (by omega)) hx (by unfold inP;right;right;right;right;right;right;right;right;right;right;right;left;exact ⟨rfl,by omega⟩) fun k i f1 h1 h2 hh hi=>?_;obtain ⟨a,b⟩:=Gs hS hs hz (by omega) hi;have e:k=12:=by omega
 subst e;have hf:=qZ hh;simp only [qz,qj,arF,Int.reduceEq,if_false,if_true] at hf;have ei:i=j:=by omega
 subst ei;have et:((j:Nat):Int).toNat=j:=by omega
 have b:=hx.2.1 (.inr (.inr ⟨rfl,rfl⟩));rw [bW rfl,bW rfl,uz hS (by omega) (by omega),uz hS (by omega) (by omega),if_pos (show 41+15*j+9=50+15*((j:Nat):Int).toNat by omega),if_neg (show ¬41+15*j+9=55+15*((j:Nat):Int).toNat by omega)];by_cases f7:f1=7
 . subst f7;simp [P5 hS hs hz b.1 b.2]
 rw [if_neg f7,if_neg f7];by_cases f8:f1=8
 . subst f8;simp
 rw [if_neg f8,if_neg f8,zS (by omega),zS (by omega),uz hS (by omega) (by unfold arB;omega),if_neg (by unfold arB;omega)];simp [f7]
theorem fdiv {f q:Int} {a:Nat} (ha:a<2) (h:f=2*q+a):f / 2=q/\(f % 2).toNat=a:=by
 have _:=hS;have _:=hs;have _:=hz;omega
theorem Ib {j a:Nat} {f to q:Int} (hj:j<16) (ha:a<2) (hf:f=2*q+a) (hx:qM 13 f to):kD S 13 j f to (toT S g (48+15*j) (qd (gt S (48+15*j)) q a to)):=by
 have ec:48+15*j=41+15*j+7:=by omega
 rw [ec];refine mZ hS hs hz (by omega) (by omega) (VO hS hs hz (by omega) (by omega)) hx (by unfold inP;right;right;right;right;right;right;right;right;right;right;right;right;left;exact ⟨rfl,by omega⟩) fun k i f1 h1 h2 hh hi=>?_;obtain ⟨e1,b⟩:=Gs hS hs hz (by omega) hi;have e:k=13:=by omega
 subst e;have ei:i=j:=by have:=(qZ hh).1;omega
 subst ei;have et:((j:Nat):Int).toNat=j:=by omega
 rw [sO,sO,bH hS (by omega) (by omega),if_pos (by omega),et];rw [<-ec];unfold qd;by_cases e:f1=f
 . subst e;rw [if_pos (fdiv hS hs hz ha hf)];simp
 . rw [if_neg (by omega)];simp [e]
theorem Ig {j a:Nat} {f to q:Int} (hj:j<16) (ha:a<2) (hf:f=2*q+a) (hx:qM 14 f to):kD S 14 j f to (toT S g (51+15*j) (qd (gt S (51+15*j)) q a to)):=by
 have ec:51+15*j=41+15*j+10:=by omega
 rw [ec];refine mZ hS hs hz (by omega) (by omega) (VO hS hs hz (by omega) (by omega)) hx (by unfold inP;right;right;right;right;right;right;right;right;right;right;right;right;right;left;exact ⟨rfl,by omega⟩) fun k i f1 h1 h2 hh hi=>?_;obtain ⟨e1,b⟩:=Gs hS hs hz (by omega) hi;have e:k=14:=by omega
 subst e;have ei:i=j:=by have:=(qZ hh).1;omega
 subst ei;have et:((j:Nat):Int).toNat=j:=by omega
 rw [sI,sI,bH hS (by omega) (by omega),if_pos (by omega),et];rw [<-ec];unfold qd;by_cases e:f1=f
 . subst e;rw [if_pos (fdiv hS hs hz ha hf)];simp
 . rw [if_neg (by omega)];simp [e]
theorem Iy {j a:Nat} {f to q:Int} (hj:j<16) (ha:a<2) (hf:f=2*q+a) (hx:qM 15 f to):kD S 15 j f to (toT S g (53+15*j) (qd (gt S (53+15*j)) q a to)):=by
 have ec:53+15*j=41+15*j+12:=by omega
 rw [ec];refine mZ hS hs hz (by omega) (by omega) (VO hS hs hz (by omega) (by omega)) hx (by unfold inP;right;right;right;right;right;right;right;right;right;right;right;right;right;right;exact ⟨rfl,by omega⟩) fun k i f1 h1 h2 hh hi=>?_;obtain ⟨e1,b⟩:=Gs hS hs hz (by omega) hi;have e:k=15:=by omega
 subst e;have ei:i=j:=by have:=(qZ hh).1;omega
 subst ei;have et:((j:Nat):Int).toNat=j:=by omega
 rw [sU,sU,bH hS (by omega) (by omega),if_pos (by omega),et];rw [<-ec];unfold qd;by_cases e:f1=f
 . subst e;rw [if_pos (fdiv hS hs hz ha hf)];simp
 . rw [if_neg (by omega)];simp [e]
end
end Go.Sp
noncomputable section
namespace Go.Sp
open Go Go.Sx
theorem YC {g:G} {env:List D} {k:CK} {n:Int} {x:Option Value} (h:k.at g n x):k.at { g with env:=env } n x:=by
 obtain ⟨y,h1,h2⟩:=h;exact ⟨y,h1,by cases k <;> exact h2⟩
theorem qX.told {A:Amb} {I:Itp} {P:Program} {g:G} {M M':Mem} {w:World} (h:qX A I P g M w) {env:List D} (hB:∀b x,get M' b=some x->jN I P { g with env:=env } b (fun i=>w.heap[i]?) x)
   (hM:∀b x,get M' b=some x->∃y,get M b=some y/\y.wr=x.wr/\x.wF=false):qX A I P { g with env:=env } M' w where
 wf:=h.wf
 blk:=hB
 lt:=fun b x hb=>by obtain ⟨y,h1,_⟩:=hM b x hb;exact h.lt b y h1
 inj:=fun b c x y p q hb hc hx hp hq=>by
   obtain ⟨x',h1,h2,_⟩:=hM b x hb;obtain ⟨y',h3,h4,_⟩:=hM c y hc;exact h.inj b c x' y' p q h1 h3 (by rw [h2];exact hx) hp hq
 bnd:=h.bnd
 own:=fun b x p hb hx hp=>by
   obtain ⟨x',h1,h2,_⟩:=hM b x hb;exact h.own b x' p h1 (by rw [h2];exact hx) hp
 size:=h.size
 keep:=h.keep
 same:=h.same
 fam:=fun b x o hb hr=>by
   obtain ⟨x',h1,h2,h3⟩:=hM b x hb;rw [hr.fam] at h3;cases h3
 frz:=fun o c hc=>by
   obtain ⟨a1,a2,a3,a4,a5⟩:=h.frz o c hc;refine ⟨a1,a2,a3,fun b x q hb hx hq=>?_,fun b x hb hr=>?_⟩
   . obtain ⟨x',h1,h2,_⟩:=hM b x hb;exact a4 b x' q h1 (by rw [h2];exact hx) hq
   . obtain ⟨x',h1,h2,h3⟩:=hM b x hb;rw [hr.fam] at h3;cases h3
theorem Bz {P:Program} {gl:List Glob} {fn:Nat} {ks:List CK} (h:COk JI P gl (vX fn ks)):COk JI P gl (zZ fn ks):=by
 intro g w xs hso hnb hG hm ha hp0
 have hp:∀p∈(vX fn ks).pre,p.den JI g.env:=by
   obtain ⟨ds,e1,e2⟩:=hp0 (.pr 57 [v 1]) (by simp [zZ]);have hs:Sorts [true,false] g.env:=hso;intro p hp
   match hh:g.env,hs with
   | [.t f,.i m],_=>
     rw [hh] at e1;cases e1;have e2:0<=m/\m<=100000:=e2;simp only [vX,List.mem_cons,List.not_mem_nil,or_false] at hp;rcases hp with rfl | rfl
     . exact ⟨_,rfl,by show (if (0:Int)<=m then (1:Int) else 0)≠0;rw [if_pos e2.1];decide⟩
     . exact ⟨_,rfl,by show (if m<=(100000:Int) then (1:Int) else 0)≠0;rw [if_pos e2.2];decide⟩
 refine (h g w xs hso hnb hG hm ha hp).mono fun e w' he=>?_;obtain ⟨val,outs,g',h1,h2,h3,h4,h5,hz,h6,h7,h8⟩:=he
 obtain ⟨f,m,e0⟩:∃f m,g.env=[.t f,.i m]:=by
   have hs:Sorts [true,false] g.env:=hso
   match hh:g.env,hs with
   | [.t f,.i m],_=>exact ⟨f,m,rfl⟩
 obtain ⟨F,n,rfl⟩:∃F n,outs=[.t F,.i n]:=by
   have hs:Sorts [true,false] outs:=h2
   match outs,hs with
   | [.t f,.i m],_=>exact ⟨f,m,rfl⟩
 rw [e0] at h3;have h3:g'.env=[.t f,.i m,.t F,.i n]:=h3;have p1:=h8 (.same (v 3) (v 1)) (by simp [vX]);have p2:=h8 (.agr (v 2) (v 0) (v 1) ks.length) (by simp [vX]);rw [h3] at p1 p2;obtain ⟨d,q1,q2⟩:=p1;cases q1;cases q2;obtain ⟨F',f',m',q1,q2,q3,q4⟩:=p2;cases q1;cases q2;cases q3
 have hget:∀b x,get ((vX fn ks).mods++(vX fn ks).fresh) b=some x->x=.rows ks (v 2) (v 3) true true:=by
   intro b x hb;have hb:get [(1,Blk.rows ks (v 2) (v 3) true true)] b=some x:=hb;rw [Go.Sx.qQ,Go.Sx.get_nil] at hb;split at hb
   . cases hb;rfl
   . cases hb
 have hnew:∀b x,get ((zZ fn ks).mods++(zZ fn ks).fresh) b=some x->x=.rows ks (v 0) (v 1) true true/\get ((vX fn ks).mods++(vX fn ks).fresh) b=some (.rows ks (v 2) (v 3) true true):=by
   intro b x hb;have hb:get [(1,Blk.rows ks (v 0) (v 1) true true)] b=some x:=hb;show _/\get [(1,Blk.rows ks (v 2) (v 3) true true)] b=_;rw [Go.Sx.qQ,Go.Sx.get_nil] at hb ⊢;split at hb
   . rename_i e;cases hb;exact ⟨rfl,if_pos e⟩
   . cases hb
 refine ⟨val,[],{ g' with env:=[.t f,.i m] },h1,trivial,by rw [e0];rfl,h4,h5,hz,?_,?_,?_⟩
 . obtain ⟨l,n,a1,a2,a3,a4,a5⟩:=h6;rw [h3] at a2;cases a2;exact ⟨l,m,a1,rfl,a3,a4,a5⟩
 . refine qX.told h7 (fun b x hb=>?_) fun b x hb=>?_
   . obtain ⟨rfl,hx⟩:=hnew b x hb;have hB:=h7.blk b _ hx;obtain ⟨f0,n0,b1,b2,b3,b4⟩:=hB;rw [h3] at b1 b2;cases b1;cases b2;refine ⟨f,m,rfl,rfl,b3,?_⟩;rcases b4 with ⟨p,c,T,fr,c1,c2,c3,c4⟩ | b4
     . refine .inl ⟨p,c,T,fr,c1,c2,fun r j k hr hk=>?_,c4⟩;have:=c3 r j k hr hk;rw [q4 r j (by omega) (by omega) (List.getElem?_eq_some_iff.1 hk).1] at this;exact YC this
     . exact .inr b4
   . obtain ⟨rfl,hx⟩:=hnew b x hb;exact ⟨_,hx,rfl,rfl⟩
 . intro p hp;simp [zZ] at hp
theorem XI {P:Program} {gl:List Glob} {fn:Nat} {ks:List SK} (h:COk JI P gl (yC fn ks)):COk JI P gl (dZ fn ks):=by
 intro g w xs hso hnb hG hm ha hp0
 have hp:∀p∈(yC fn ks).pre,p.den JI g.env:=by
   obtain ⟨ds,e1,e2⟩:=hp0 (.pr 57 [j5 ks (v 0)]) (by simp [dZ]);have hs:Sorts [false] g.env:=hso;intro p hp
   match hh:g.env,hs with
   | [.i m],_=>
     rw [hh] at e1;cases e1;have e2:0<=llen m ks.length/\llen m ks.length<=100000:=e2;simp only [yC,List.mem_cons,List.not_mem_nil,or_false] at hp;subst hp;exact ⟨_,rfl,by show (if llen m ks.length<=(100000:Int) then (1:Int) else 0)≠0;rw [if_pos e2.2];decide⟩
 refine (h g w xs hso hnb hG hm ha hp).mono fun e w' he=>?_;obtain ⟨val,outs,g',h1,h2,h3,h4,h5,hz,h6,h7,h8⟩:=he
 obtain ⟨a,e0⟩:∃a,g.env=[.i a]:=by
   have hs:Sorts [false] g.env:=hso
   match hh:g.env,hs with
   | [.i a],_=>exact ⟨a,rfl⟩
 obtain ⟨F,n,rfl⟩:∃F n,outs=[.t F,.i n]:=by
   have hs:Sorts [true,false] outs:=h2
   match outs,hs with
   | [.t f,.i m],_=>exact ⟨f,m,rfl⟩
 rw [e0] at h3;have h3:g'.env=[.i a,.t F,.i n]:=h3;have p1:=h8 (.same (v 2) (j5 ks (v 0))) (by simp [yC]);have p2:=h8 (.agr (v 1) (.fn 1017 (v 0) (.lit ks.length) (.lit 0) (.lit 0)) (v 2) ks.length) (by simp [yC]);rw [h3] at p1 p2;obtain ⟨d,q1,q2⟩:=p1;cases q1;obtain ⟨F',f,m',r1,r2,r3,q4⟩:=p2;cases r1;cases r3;have r2':f=gG a ks.length:=by cases r2;rfl
 have en:llen a ks.length=n:=by cases q2;rfl
 have hget:∀b x,get ((yC fn ks).mods++(yC fn ks).fresh) b=some x->x=.rows (ks.map SK.ck) (v 1) (v 2) true true:=by
   intro b x hb;have hb:get [(0,Blk.rows (ks.map SK.ck) (v 1) (v 2) true true)] b=some x:=hb;rw [Go.Sx.qQ,Go.Sx.get_nil] at hb;split at hb
   . cases hb;rfl
   . cases hb
 have hnew:∀b x,get ((dZ fn ks).mods++(dZ fn ks).fresh) b=some x->x=.rows (ks.map SK.ck) (.fn 1017 (v 0) (.lit ks.length) (.lit 0) (.lit 0)) (j5 ks (v 0)) true true/\get ((yC fn ks).mods++(yC fn ks).fresh) b=some (.rows (ks.map SK.ck) (v 1) (v 2) true true):=by
   intro b x hb;have hb:get [(0,Blk.rows (ks.map SK.ck) (.fn 1017 (v 0) (.lit ks.length) (.lit 0) (.lit 0)) (j5 ks (v 0)) true true)] b=some x:=hb;show _/\get [(0,Blk.rows (ks.map SK.ck) (v 1) (v 2) true true)] b=_;rw [Go.Sx.qQ,Go.Sx.get_nil] at hb ⊢;split at hb
   . rename_i e;cases hb;exact ⟨rfl,if_pos e⟩
   . cases hb
 refine ⟨val,[],{ g' with env:=[.i a] },h1,trivial,by rw [e0];rfl,h4,h5,hz,?_,?_,?_⟩
 . obtain ⟨l,n',a1,a2,a3,a4,a5⟩:=h6;rw [h3] at a2;cases a2;subst en;exact ⟨l,_,a1,rfl,a3,a4,a5⟩
 . refine qX.told h7 (fun b x hb=>?_) fun b x hb=>?_
   . obtain ⟨rfl,hx⟩:=hnew b x hb;have hB:=h7.blk b _ hx;obtain ⟨f0,n0,b1,b2,b3,b4⟩:=hB;rw [h3] at b1 b2;cases b1;cases b2;subst en;subst r2';refine ⟨_,_,rfl,rfl,b3,?_⟩;rcases b4 with ⟨p,c,T,fr,c1,c2,c3,c4⟩ | b4
     . refine .inl ⟨p,c,T,fr,c1,c2,fun r j k hr hk=>?_,c4⟩;have:=c3 r j k hr hk;have hj:=(List.getElem?_eq_some_iff.1 hk).1;have hr:r<(llen a ks.length).toNat:=hr;rw [List.length_map] at hj;rw [q4 r j (by omega) (by omega) hj] at this;exact YC this
     . exact .inr b4
   . obtain ⟨rfl,hx⟩:=hnew b x hb;exact ⟨_,hx,rfl,rfl⟩
 . intro p hp;simp [dZ] at hp
theorem sZ {P:Program} {gl:List Glob} {fn f g1 s1 g2 s2:Nat} (h:COk JI P gl (pz fn f g1 s1 g2 s2)):COk JI P gl (vS fn f g1 s1 g2 s2):=by
 intro g w xs hso hnb hG hm ha hp;refine (h g w xs hso hnb hG hm ha hp).mono fun e w' he=>?_;obtain ⟨val,outs,g',h1,h2,h3,h4,h5,hz,h6,h7,h8⟩:=he
 obtain ⟨f0,m,e0⟩:∃f m,g.env=[.t f,.i m]:=by
   have hs:Sorts [true,false] g.env:=hso
   match hh:g.env,hs with
   | [.t f,.i m],_=>exact ⟨f,m,rfl⟩
 obtain ⟨F,n,rfl⟩:∃F n,outs=[.t F,.i n]:=by
   have hs:Sorts [true,false] outs:=h2
   match outs,hs with
   | [.t f,.i m],_=>exact ⟨f,m,rfl⟩
 rw [e0] at h3;have h3:g'.env=[.t f0,.i m,.t F,.i n]:=h3;have p1:=h8 (.same (v 3) (.bin .mul (v 1) (.lit 2))) (by simp [pz]);have p2:=h8 (.pr 54 [v 2,v 3]) (by simp [pz]);rw [h3] at p1 p2
 have en:n=m*2:=by
   obtain ⟨d,q1,q2⟩:=p1;cases q1;have q2:some (D.i (m*2))=some (D.i n):=q2;cases q2;rfl
 have hP:eX F n:=by
   obtain ⟨ds,q1,q2⟩:=p2;cases q1;exact q2
 generalize hk1:CK.clo [⟨g1,0,2,0⟩,⟨g2,0,2,1⟩]=k1 at *;generalize hk2:CK.clo [⟨s1,0,2,0⟩,⟨s2,0,2,1⟩]=k2 at *
 have hnew:∀b x,get ((vS fn f g1 s1 g2 s2).mods++(vS fn f g1 s1 g2 s2).fresh) b=some x->x=.rows [k1,k2,i64,i64] (.fn 1018 (.lit 0) (.lit 0) (.lit 0) (.lit 0)) (.bin .mul (v 1) (.lit 2)) true true/\get ((pz fn f g1 s1 g2 s2).mods++(pz fn f g1 s1 g2 s2).fresh) b=some (.rows [k1,k2,i64,i64] (v 2) (v 3) true true):=by
   subst hk1 hk2;intro b x hb;have hb:get [(1,Blk.rows [.clo [⟨g1,0,2,0⟩,⟨g2,0,2,1⟩],.clo [⟨s1,0,2,0⟩,⟨s2,0,2,1⟩],i64,i64] (.fn 1018 (.lit 0) (.lit 0) (.lit 0) (.lit 0)) (.bin .mul (v 1) (.lit 2)) true true)] b=some x:=hb;show _/\get [(1,Blk.rows [.clo [⟨g1,0,2,0⟩,⟨g2,0,2,1⟩],.clo [⟨s1,0,2,0⟩,⟨s2,0,2,1⟩],i64,i64] (v 2) (v 3) true true)] b=_;rw [Go.Sx.qQ,Go.Sx.get_nil] at hb ⊢;split at hb
   . rename_i e;cases hb;exact ⟨rfl,if_pos e⟩
   . cases hb
 refine ⟨val,[],{ g' with env:=[.t f0,.i m] },h1,trivial,by rw [e0];rfl,h4,h5,hz,?_,?_,?_⟩
 . obtain ⟨l,n',a1,a2,a3,a4,a5⟩:=h6;rw [h3] at a2;cases a2;subst en;exact ⟨l,_,a1,rfl,a3,a4,a5⟩
 . refine qX.told h7 (fun b x hb=>?_) fun b x hb=>?_
   . obtain ⟨rfl,hx⟩:=hnew b x hb;have hB:=h7.blk b _ hx;obtain ⟨f1,n1,b1,b2,b3,b4⟩:=hB;rw [h3] at b1 b2;cases b1;cases b2;subst en;refine ⟨Nc,_,rfl,rfl,b3,?_⟩;rcases b4 with ⟨p,c,T,fr,c1,c2,c3,c4⟩ | b4
     . refine .inl ⟨p,c,T,fr,c1,c2,fun r j k hr hk=>?_,c4⟩;have:=c3 r j k hr hk;have hj:=(List.getElem?_eq_some_iff.1 hk).1;have hj:j<4:=hj;have hr:r<(m*2).toNat:=hr;have q:=hP r (by omega) (by omega)
       have q4:Nc r j=F r j:=by
         have e:j=0\/j=1\/j=2\/j=3:=by omega
         rcases e with rfl | rfl | rfl | rfl <;> simp [Nc,q]
       rw [<-q4] at this;exact YC this
     . exact .inr b4
   . obtain ⟨rfl,hx⟩:=hnew b x hb;exact ⟨_,hx,rfl,rfl⟩
 . intro p hp;simp [vS] at hp
end Go.Sp
end
noncomputable section
namespace Go.Sp
open Go Go.Sx
abbrev gl0:List Glob:=kn0.globs
theorem qjF (j:Nat) (a b c d:D):(bi j a b c d).is (MS j):=by
 rcases Nat.lt_or_ge j 19 with h | h
 . have:j=0\/j=1\/j=2\/j=3\/j=4\/j=5\/j=6\/j=7\/j=8\/j=9\/j=10\/j=11\/j=12\/j=13\/j=14\/j=15\/j=16\/j=17\/j=18:=by omega
   rcases this with rfl | rfl | rfl | rfl | rfl | rfl | rfl | rfl | rfl | rfl | rfl | rfl | rfl | rfl | rfl | rfl | rfl | rfl | rfl <;> exact trivial
 . have e:MS j=false:=by
     simp only [MS,Bool.or_eq_false_iff,beq_eq_false_iff_ne];omega
   rw [e];have:∀m,(bi (m+19) a b c d).is false:=fun m=>by unfold bi;exact trivial
   have e2:j=(j - 19)+19:=by omega
   rw [e2];exact this _
theorem zy:JI.tot spS:=by
 intro j s hs a b c d;unfold spS at hs;by_cases h:1000<=j
 . rw [if_pos (Nat.ble_eq_true_of_le h)] at hs;have hs:=Option.some.inj hs;rw [<-hs];unfold Itp.ap;rw [if_pos h];generalize j - 1000=m;exact ⟨_,rfl,qjF m a b c d⟩
 . rw [if_neg (fun e=>h (Nat.le_of_ble_eq_true e))] at hs;cases hs
end Go.Sp
end
noncomputable section
namespace Go.Sp
open Go Go.Sx
def br (o:BO) (a b:E) (t f:Tree):Tree:=.branch (.bin o a b) t f
def n0 (n:Int):E:=.lit n
def zeroV:List E:=stS.map fun b=>if b then .zt else .lit 0
def k':E:=v 281
def i':E:=v 282
def f':E:=v 283
def to':E:=v 284
def tJ (k:E) (l:List E):List E:=rgs 0 281 (k::i' :: f' :: to' :: l)
def qqI (w c:Nat) (e:E):List E:=((rg 0 281).set 32 (.var w)).set c e
def BG (k:E) (n:Int):Tree:=.assert (.pr 29 (tJ k (zeroV++[.lit 0,.lit n]))) .ok
def zer (n:Int):Tree:=BG k' n
def Vz (n:Int):Tree:=BG (n0 9) n
def Xk (c:Nat) (e was:E):Tree:=.assert (.pr 29 (tJ k' (qqI 285 c e++[was,.lit 0]))) .ok
def chain (e:E) (g:Nat->Tree) (last:Tree):Nat->Tree
 | 0=>last
 | n+1=>br .eq e (.lit (n:Nat)) (g n) (chain e g last n)
def fld (n:Nat) (g:Nat->Tree):Tree:=br .lt f' (n0 0) (zer 4) (br .le (.lit (n:Nat)) f' (zer 4) (chain f' g (.fail 29) n))
def Xw (t:Tree):Tree:=br .le (n0 1) i' (zer 4) t
def oI (n:Nat) (t:Tree):Tree:=br .le (v n) i' (zer 4) t
def arI (g:Nat->Tree):Tree:=br .le (n0 16) i' (zer 4) (chain i' g (.fail 29) 16)
def Kk (c:Nat):Tree:=Xk c to' (v c)
def rowP (t c:Nat):Tree:=Xk t (.upd (v t) i' c to') (.sel (v t) i' c)
def tru (c:Nat) (cell e:E):Tree:=br .lt to' (n0 0) (zer 7) (br .lt (n0 1) to' (zer 7) (.branch cell (Xk c e (.lit 1)) (Xk c e (.lit 0))))
def isT:E:=.bin .eq to' (n0 1)
def OZ (t c:Nat):Tree:=tru t (.sel (v t) i' c) (.upd (v t) i' c isT)
def TP (j:Nat):Tree:=
 if j=64 then rowP 4 0 else br .lt to' (n0 0) (zer 7) (br .lt (n0 255) to' (zer 7) (Xk 4 (.upd (v 4) i' (j+1) (.wrap .u8 to')) (.wrap .i64 (.sel (v 4) i' (j+1)))))
def hf:E:=.bin .tdiv f' (n0 2)
def rf (j:Int) (t u:Tree):Tree:=br .eq (.bin .tmod f' (n0 2)) (n0 j) t u
def O1 (t a:Nat):Tree:=.assert (le (n0 0) hf) (.assert (.tt (.bin .lt hf (v (t+1)))) (Xk t (.upd (v t) hf a to') (.sel (v t) hf a)))
def prs (t:Nat):Tree:=
 .assert (.pr 57 [v (t+1)]) (br .lt f' (n0 0) (zer 4) (br .le (.bin .mul (v (t+1)) (n0 2)) f' (zer 4) (br .eq (.bin .add f' (n0 1)) (n0 0) (zer 4)
   (.assert (.tt (.bin .lt (n0 0) (.bin .add f' (n0 1)))) (rf 0 (O1 t 0) (rf 1 (O1 t 1) (.fail 51)))))))
def qjN (j:Nat):Tree:=fld 9 fun m=>if m=8 then Kk (55+15*j) else if m=7 then tru (50+15*j) (v (50+15*j)) isT else Kk (41+15*j+m)
def slot (a b:Bool):Tree:=fld 3 fun m=>if m=2 then (if b then rowP 39 0 else zer 4) else if m=1 then (if a then OZ 37 0 else zer 4) else rowP 35 0
def slots:Tree:=oI 36 (br .lt i' (v 38) (br .lt i' (v 40) (slot true true) (slot true false)) (br .lt i' (v 40) (slot false true) (slot false false)))
def kch:Tree:=
 br .eq k' (n0 16) (Xw (fld 14 fun j=>Kk (8+j))) (br .eq k' (n0 15) (arI fun j=>prs (53+15*j)) (br .eq k' (n0 14) (arI fun j=>prs (51+15*j)) (br .eq k' (n0 13) (arI fun j=>prs (48+15*j))
 (br .eq k' (n0 12) (arI qjN) (br .eq k' (n0 11) slots (br .eq k' (n0 10) (Xw (fld 1 fun _=>Kk 34))
 (br .eq k' (n0 8) (oI 31 (fld 2 (rowP 30))) (br .eq k' (n0 7) (Xw (fld 3 fun j=>Kk (if j=2 then 28 else if j=1 then 29 else 27)))
 (br .eq k' (n0 6) (oI 26 (fld 5 fun j=>if j=4 then OZ 25 4 else rowP 25 j)) (br .eq k' (n0 5) (Xw (fld 1 fun _=>Kk 22)) (br .eq k' (n0 4) (oI 24 (fld 2 (rowP 23)))
 (br .eq k' (n0 3) (oI 5 (fld 65 TP)) (br .eq k' (n0 2) (oI 3 (fld 1 (rowP 2))) (br .eq k' (n0 1) (oI 1 (fld 3 (rowP 0))) (br .eq k' (n0 0) (.fail 50) (.fail 29))))))))))))))))
def I7:Tree:=br .lt k' (n0 1) (zer 2) (br .le (n0 17) k' (zer 2) (br .lt i' (n0 0) (zer 4) kch))
def jR:Tree:=.assume (.pr 31 (rgs 0 281 [])) (.assume (.rng .i64 to') (.assume (.tt (.bin .ne k' (n0 9))) (.qp true (.assume (.pr 50 [v 32,v 33,v 285]) I7))))
def cl1 (t:Nat) (K:Tree):Tree:=.assert (.pr 57 [v (t+1)]) K
def cls:List Nat->Tree->Tree
 | [],K=>K
 | t::l,K=>cl1 t (cls l K)
def qjB:Nat->List Nat
 | 0=>[]
 | n+1=>qjB n++[48+15*n,51+15*n,53+15*n]
def clA:List Nat:=[35,37,39]++qjB 16
def c9 (w:Nat) (r:E):E:=.sel (v w) r 1
def n9 (w:Nat) (r:E):E:=.fn 1014 (c9 w r) (.lit 2) (.lit 0) (.lit 0)
def t9 (w:Nat) (r:E):E:=.fn 1017 (c9 w r) (.lit 2) (.lit 0) (.lit 0)
def plus (a b:E):E:=.bin .add a b
def minus (a b:E):E:=.bin .sub a b
def FR (w:Nat) (r:E) (K:Tree):Tree:=
 .assert (.pr 57 [n9 w r]) (.assert (le (n9 w r) (n9 w r)) (.assert (.rng .i64 (plus r (n0 1))) K))
def Pk (w:Nat) (r:E) (K:Tree):Tree:=
 .assert (le (plus r (n0 1)) (v 33)) (.assert (.pr 50 [v 32,v 33,.upd (v w) r 1 (.fn 1016 (t9 w r) (n9 w r) (.lit 2) (.lit 0))]) K)
def WH (r:E):Tree:=.assert (le (n0 0) (minus (v 33) (plus r (n0 1)))) (.assert (lt (minus (v 33) (plus r (n0 1))) (minus (v 33) r)) .ok)
def Im:Tree:=br .lt (v 285) (v 33)
 (FR 286 (v 285) (.assert (le (n0 0) (plus (v 285) (n0 1))) (Pk 286 (v 285) (.assert (.pr 55 [plus (v 285) (n0 1),i',n0 9]) (WH (v 285))))))
 (cls clA (br .lt i' (n0 0) (Vz 4) (br .le (v 33) i' (Vz 4) (.fail 53))))
def s9 (c:Nat):E:=.sel (v 290) f' c
def q9 (c:Nat):E:=.bin .tdiv (minus (s9 c) (n0 1)) (n0 3)
def r9 (c:Nat) (j:Int) (t u:Tree):Tree:=br .eq (.bin .tmod (minus (s9 c) (n0 1)) (n0 3)) (n0 j) t u
def N9:E:=n9 286 i'
def T9:E:=t9 286 i'
def CF (p l was:E):Tree:=.assert (le N9 N9) (.assert (.pr 29 (tJ (n0 9) ((rg 0 281).set 32 (.upd (.upd (v 288) i' 0 p) i' 1 (.fn 1016 l N9 (.lit 2) (.lit 0)))++[was,.lit 0]))) .ok)
def P9:E:=.sel (v 286) i' 0
def in9 (c:Nat) (K:Tree):Tree:=.assert (le (n0 0) (q9 c)) (.assert (lt (q9 c) N9) K)
def OU (was:E):Tree:=.assert (.tt (.bin .lt (n0 0) (s9 1)))
 (r9 1 0 (.assert (.tt (.bin .eq (q9 1) i')) (CF to' T9 was)) (r9 1 1 (in9 1 (CF P9 (.upd T9 (q9 1) 0 to') was)) (r9 1 2 (in9 1 (CF P9 (.upd T9 (q9 1) 1 to') was)) (.fail 51))))
def EM:Tree:=.assert (.tt (.bin .lt (n0 0) (s9 0)))
 (r9 0 0 (.assert (.tt (.bin .eq (q9 0) i')) (OU P9)) (r9 0 1 (in9 0 (OU (.sel T9 (q9 0) 0))) (r9 0 2 (in9 0 (OU (.sel T9 (q9 0) 1))) (.fail 51))))
def OI (t:E) (r:E) (n:E):E:=.upd (.upd (.upd (.upd t r 0 n) r 1 n) r 2 (n0 0)) r 3 (n0 0)
def Ai (d:Int):E:=plus (.bin .mul (v 289) (n0 3)) (n0 d)
def I4:Tree:=
 .assert (le (n0 0) N9) (.assert (.pr 56 [.upd (.upd .zt (n0 0) 0 (plus (.bin .mul i' (n0 3)) (n0 1))) (n0 0) 1 (plus (.bin .mul i' (n0 3)) (n0 1)),n0 0,i'])
 (.qp false (.qp true (.qp false (.assume (le (n0 0) (v 289)) (.assume (le (v 289) N9) (.assume (.tt (.bin .eq (v 291) (plus (n0 1) (.bin .mul (n0 2) (v 289))))) (.assume (.pr 56 [v 290,v 289,i'])
 (br .lt (v 289) N9
   (.assert (le (plus (v 291) (n0 2)) (n0 1000000)) (.assert (.rng .i64 (plus (v 289) (n0 1))) (.assert (le (n0 0) (plus (v 289) (n0 1))) (.assert (le (plus (v 289) (n0 1)) N9)
     (.assert (.tt (.bin .eq (plus (v 291) (n0 2)) (plus (n0 1) (.bin .mul (n0 2) (plus (v 289) (n0 1)))))) (.assert (.pr 56 [OI (OI (v 290) (v 291) (Ai 2)) (plus (v 291) (n0 1)) (Ai 3),plus (v 289) (n0 1),i'])
     (.assert (le (n0 0) (minus N9 (plus (v 289) (n0 1)))) (.assert (lt (minus N9 (plus (v 289) (n0 1))) (minus N9 (v 289))) .ok))))))))
   (br .lt f' (n0 0) (Vz 4) (br .le (v 291) f' (Vz 4) (br .eq (s9 0) (n0 0) (Vz 4) (br .lt (s9 2) (s9 3) (br .lt to' (s9 2) (Vz 7) (br .lt (s9 3) to' (Vz 7) EM)) EM)))))))))))))
def Ip:Tree:=
 .assert (.pr 57 [N9]) (.assert (.rng .i64 (plus i' (n0 1))) (.assert (lt i' (plus i' (n0 1))) (.assert (le (plus i' (n0 1)) (v 33))
 (.qp false (.qp true (.assume (lt i' (v 287)) (.assume (le (v 287) (v 33)) (.assume (.pr 50 [v 32,v 33,v 288])
 (br .lt (v 287) (v 33)
   (.assert (le (n0 0) (v 287)) (.assert (.tt (.bin .ne (v 287) i')) (FR 288 (v 287) (.assert (lt i' (plus (v 287) (n0 1))) (Pk 288 (v 287) (WH (v 287)))))))
   (cls clA I4))))))))))
def Rk:Tree:=
 .assume (.pr 31 (rgs 0 281 [])) (.assume (.rng .i64 to') (.assume (.same k' (n0 9)) (cls [0,2,4,6,23,25,30,32]
 (.assert (le (n0 0) (v 33)) (.assert (.pr 50 [v 32,v 33,v 32]) (.assert (.pr 55 [n0 0,i',n0 9]) (.qp false (.qp true (.assume (le (n0 0) (v 285)) (.assume (le (v 285) (v 33)) (.assume (.pr 50 [v 32,v 33,v 286]) (.assume (.pr 55 [v 285,i',n0 9])
 (.branch (.bin .and (n0 1) (.bin .and (.bin .eq (v 285) i') (.bin .and (.bin .le (n0 0) i') (.bin .lt i' (v 33))))) Ip Im)))))))))))))
def qqH:Tree:=
 .assume (.pr 31 (rgs 0 281 [])) (cls [0,2,4,6,23,25,30,32]
 (.assert (le (n0 0) (v 33)) (.assert (.pr 50 [v 32,v 33,v 32]) (.qp false (.qp true (.assume (le (n0 0) (v 281)) (.assume (le (v 281) (v 33)) (.assume (.pr 50 [v 32,v 33,v 282])
 (br .lt (v 281) (v 33)
   (FR 282 (v 281) (.assert (le (n0 0) (plus (v 281) (n0 1))) (Pk 282 (v 281) (WH (v 281)))))
   (cls clA .ok))))))))))
end Go.Sp
end
