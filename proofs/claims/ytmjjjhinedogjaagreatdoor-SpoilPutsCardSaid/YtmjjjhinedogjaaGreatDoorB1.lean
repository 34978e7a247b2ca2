/-
  Contracts of three loops over all pages; what the executor knows of the manager's types and variables. Definitions alone; nothing here speaks of a program.
-/
import Derived.Test.YtmjjjhinedogjaaGreatDoorA5
namespace Go.Mg
open Go Go.Sx
def v (i:Nat):E:=.var i
def i64 (e:E):AV:=.int .i64 e
def eLe (a b:E):PE:=.tt (.bin .le a b)
def pgK:List CK:=.int .i64 :: .bool::List.replicate 64 (.int .u8)
def bgs:List Big:=[⟨231,1,pgK,1024⟩,⟨238,2,[.int .u64],352⟩,⟨514,0,[.int .u64],1024⟩,⟨224,5,[.int .i64],1024⟩]
def UE:List Int:=[0,1,56,2,57,49,28,3,61,58,42,50,38,29,17,4,62,47,59,36,45,43,51,22,53,39,33,30,24,18,12,5,63,55,48,27,60,41,37,16,46,35,44,21,52,32,23,11,54,26,40,15,34,20,31,10,25,14,19,9,13,8,7,6]
def U0:List Int:=[0,1,28,2,29,14,24,3,30,22,20,15,25,17,4,8,31,27,13,23,21,19,16,7,26,12,18,6,11,5,10,9]
def gls:List Glob:=[{ g:=1,k:=.int .u8,l:=UE },{ g:=0,k:=.int .u8,l:=U0 }]
def kn:Kn:={ p9:=bgs,globs:=gls }
def c0:Contract where
 fn:=0
 sorts:=[]
 args:=[]
 mem:=[]
 nb:=0
 pre:=[]
 outs:=[]
 res:=.tup []
 mods:=[]
 fresh:=[]
 post:=[]
def ZF:Contract:={ c0 with fn:=252,sorts:=[true],args:=[.ptr 0 (.lit 0) 0 0],mem:=[(0,.big [.bool (.lit 1)] pgK (v 0) 1024 [] false)],nb:=1,pre:=[.col (v 0) 0 0 3],outs:=[false,false,false,false,false],res:=.tup [.agg [i64 (v 1),i64 (v 2),i64 (v 3),i64 (v 4),i64 (v 5)],i64 (.lit 0)] }
def UG:Ann where
 fn:=252
 bid:=0
 keep:=[5,4,2,0]
 tmps:=[(16,i64 (v 6))]
 drop:=[]
 mem:=[(2,.cells [i64 (v 1),i64 (v 2),i64 (v 3),i64 (v 4),i64 (v 5)] true)]
 sorts:=[false,false,false,false,false,false]
 nbl:=0
 inv:=[eLe (.lit 0) (v 6),eLe (v 6) (.lit 1024),eLe (.lit 0) (v 1),eLe (v 1) (v 6),eLe (.lit 0) (v 2),eLe (v 2) (v 6),eLe (.lit 0) (v 3),eLe (v 3) (v 6),eLe (.lit 0) (v 4),eLe (v 4) (v 6),eLe (.lit 0) (v 5),eLe (v 5) (v 6)]
 meas:=.bin .sub (.lit 1024) (v 6)
def zD (q:Nat):Contract:={ c0 with fn:=235,sorts:=[true],args:=[.any,.ptr 0 (.lit 0) 0 0],mem:=[(0,.cells [.ptr 1 (.lit 0) 0 (2+16*q)] false),(1,.big [.any,.any] [.int .u64] (v 0) 352 [] false)],nb:=2,pre:=(List.range 16).map fun i=>.ff (.sel (v 0) (.lit ((16*q+i:Nat):Int)) 0) }
def qx0:Ann where
 fn:=235
 bid:=0
 keep:=[0,1]
 tmps:=[(4,i64 (v 1))]
 drop:=[]
 mem:=[]
 sorts:=[false]
 nbl:=0
 inv:=[eLe (.lit 0) (v 1),eLe (v 1) (.lit 1024)]
 meas:=.bin .sub (.lit 1024) (v 1)
def XA:Contract:={ c0 with fn:=305,sorts:=[true],args:=[.ptr 0 (.lit 0) 0 0],mem:=[(0,.big [] [.int .u64] (v 0) 1024 [] false)],nb:=1,pre:=[.col (v 0) 0 0 0],res:=.agg [.qJ] }
def qqb:Ann where
 fn:=305
 bid:=0
 keep:=[6,3,2,0]
 tmps:=[(7,i64 (v 1))]
 drop:=[]
 mem:=[]
 sorts:=[false]
 nbl:=0
 inv:=[eLe (.lit 0) (v 1),eLe (v 1) (.lit 1024)]
 meas:=.bin .sub (.lit 1024) (v 1)
def k5:List CK:=[.int .i64,.int .i64,.int .i64,.int .i64,.int .i64]
def k3:List CK:=[.int .i64,.int .i64,.int .i64]
def XE:Contract:={ c0 with fn:=140,args:=[i64 (.lit 1024),i64 (.lit 1)],res:=.ptr 0 (.lit 0) 0 0,fresh:=[(0,.cells [.slice 1 (.lit 0) (.lit 1024) 5 false,.slice 2 (.lit 0) (.lit 1) 3 false,i64 (.lit 0)] true),(1,.rows k5 (.kt [0,0,-1,-1,-1]) (.lit 1024) true false),(2,.rows k3 (.kt [-1,-1,0]) (.lit 1) true false)] }
def UY:Ann where
 fn:=140
 bid:=0
 keep:=[5,18]
 tmps:=[(19,i64 (v 1))]
 drop:=[]
 mem:=[(0,.rows k5 (v 0) (.lit 1024) true false)]
 sorts:=[true,false]
 nbl:=0
 inv:=[eLe (.lit 0) (v 1),eLe (v 1) (.lit 1024),.agr (v 0) (.kt [0,0,-1,-1,-1]) (v 1) 5]
 meas:=.bin .sub (.lit 1024) (v 1)
def XO:Contract:={ c0 with fn:=55,args:=[.agg [.qJ]],res:=.tup [.ptr 0 (.lit 0) 0 0,i64 (.lit 0)],fresh:=[(0,.big [.bool (.lit 1)] pgK .zt 1024 (.qJ::List.replicate 14 (i64 (.lit 0))) true)] }
def qP (P:Program):Cx:={ P,cs:=[],dJ:=[UG,qx0,qqb,UY],kn:=kn }
def loops:List Contract:=[ZF,XA,XE,XO]++(List.range 22).map zD
end Go.Mg
namespace Go.Mg
open Go Go.Sx
def ν (n:Nat):E:=.var n
def κ (n:Int):E:=.lit n
def ο:E:=.lit 0
def γ (a b:E):PE:=.tt (.bin .le a b)
def ω (a b:E):PE:=.tt (.bin .lt a b)
def ρ (a:E):PE:=.rng .i64 a
def χ (a b:E):E:=.bin .eq a b
def π (a b:E):E:=.bin .add a b
def δ (a b:E):E:=.bin .sub a b
def ξ (t r:E) (c:Nat):E:=.sel t r c
def α (p:PE) (t:Tree):Tree:=.assert p t
def μ (p:PE) (t:Tree):Tree:=.assume p t
def β (e:E) (a b:Tree):Tree:=.branch e a b
def η (t:Tree):Tree:=.qp false t
def τ (t:Tree):Tree:=.qp true t
def YQ:Tree:=(μ (.col (ν 0) 0 0 3) (η (η (η (η (η (η (μ (γ ο (ν 6)) (μ (γ (ν 6) (κ 1024)) (μ (γ ο (ν 1)) (μ (γ (ν 1) (ν 6)) (μ (γ ο (ν 2)) (μ (γ (ν 2) (ν 6)) (μ (γ ο (ν 3)) (μ (γ (ν 3) (ν 6)) (μ (γ ο (ν 4)) (μ (γ (ν 4) (ν 6)) (μ (γ ο (ν 5)) (μ (γ (ν 5) (ν 6)) (β (.bin .lt (ν 6) (κ 1024)) (β (χ (ξ (ν 0) (ν 6) 0) (κ 3)) (α (ρ (π (ν 4) (κ 1))) (β (ξ (ν 0) (ν 6) 1) (β (χ (.bin .tmod (ν 6) (κ 16)) ο) (α (ρ (π (ν 5) (κ 1))) (α (ρ (π (ν 6) (κ 1))) (α (γ ο (π (ν 6) (κ 1))) (α (γ (π (ν 6) (κ 1)) (κ 1024)) (α (γ (ν 1) (π (ν 6) (κ 1))) (α (γ (ν 2) (π (ν 6) (κ 1))) (α (γ (ν 3) (π (ν 6) (κ 1))) (α (γ ο (π (ν 4) (κ 1))) (α (γ (π (ν 4) (κ 1)) (π (ν 6) (κ 1))) (α (γ ο (π (ν 5) (κ 1))) (α (γ (π (ν 5) (κ 1)) (π (ν 6) (κ 1))) (α (γ ο (δ (κ 1024) (π (ν 6) (κ 1)))) (α (ω (δ (κ 1024) (π (ν 6) (κ 1))) (δ (κ 1024) (ν 6))) .ok))))))))))))) (α (ρ (π (ν 6) (κ 1))) (α (γ ο (π (ν 6) (κ 1))) (α (γ (π (ν 6) (κ 1)) (κ 1024)) (α (γ (ν 1) (π (ν 6) (κ 1))) (α (γ (ν 2) (π (ν 6) (κ 1))) (α (γ (ν 3) (π (ν 6) (κ 1))) (α (γ ο (π (ν 4) (κ 1))) (α (γ (π (ν 4) (κ 1)) (π (ν 6) (κ 1))) (α (γ (ν 5) (π (ν 6) (κ 1))) (α (γ ο (δ (κ 1024) (π (ν 6) (κ 1)))) (α (ω (δ (κ 1024) (π (ν 6) (κ 1))) (δ (κ 1024) (ν 6))) .ok)))))))))))) (α (ρ (π (ν 6) (κ 1))) (α (γ ο (π (ν 6) (κ 1))) (α (γ (π (ν 6) (κ 1)) (κ 1024)) (α (γ (ν 1) (π (ν 6) (κ 1))) (α (γ (ν 2) (π (ν 6) (κ 1))) (α (γ (ν 3) (π (ν 6) (κ 1))) (α (γ ο (π (ν 4) (κ 1))) (α (γ (π (ν 4) (κ 1)) (π (ν 6) (κ 1))) (α (γ (ν 5) (π (ν 6) (κ 1))) (α (γ ο (δ (κ 1024) (π (ν 6) (κ 1)))) (α (ω (δ (κ 1024) (π (ν 6) (κ 1))) (δ (κ 1024) (ν 6))) .ok))))))))))))) (β (χ (ξ (ν 0) (ν 6) 0) (κ 2)) (α (ρ (π (ν 3) (κ 1))) (β (ξ (ν 0) (ν 6) 1) (β (χ (.bin .tmod (ν 6) (κ 16)) ο) (α (ρ (π (ν 5) (κ 1))) (α (ρ (π (ν 6) (κ 1))) (α (γ ο (π (ν 6) (κ 1))) (α (γ (π (ν 6) (κ 1)) (κ 1024)) (α (γ (ν 1) (π (ν 6) (κ 1))) (α (γ (ν 2) (π (ν 6) (κ 1))) (α (γ ο (π (ν 3) (κ 1))) (α (γ (π (ν 3) (κ 1)) (π (ν 6) (κ 1))) (α (γ (ν 4) (π (ν 6) (κ 1))) (α (γ ο (π (ν 5) (κ 1))) (α (γ (π (ν 5) (κ 1)) (π (ν 6) (κ 1))) (α (γ ο (δ (κ 1024) (π (ν 6) (κ 1)))) (α (ω (δ (κ 1024) (π (ν 6) (κ 1))) (δ (κ 1024) (ν 6))) .ok))))))))))))) (α (ρ (π (ν 6) (κ 1))) (α (γ ο (π (ν 6) (κ 1))) (α (γ (π (ν 6) (κ 1)) (κ 1024)) (α (γ (ν 1) (π (ν 6) (κ 1))) (α (γ (ν 2) (π (ν 6) (κ 1))) (α (γ ο (π (ν 3) (κ 1))) (α (γ (π (ν 3) (κ 1)) (π (ν 6) (κ 1))) (α (γ (ν 4) (π (ν 6) (κ 1))) (α (γ (ν 5) (π (ν 6) (κ 1))) (α (γ ο (δ (κ 1024) (π (ν 6) (κ 1)))) (α (ω (δ (κ 1024) (π (ν 6) (κ 1))) (δ (κ 1024) (ν 6))) .ok)))))))))))) (α (ρ (π (ν 6) (κ 1))) (α (γ ο (π (ν 6) (κ 1))) (α (γ (π (ν 6) (κ 1)) (κ 1024)) (α (γ (ν 1) (π (ν 6) (κ 1))) (α (γ (ν 2) (π (ν 6) (κ 1))) (α (γ ο (π (ν 3) (κ 1))) (α (γ (π (ν 3) (κ 1)) (π (ν 6) (κ 1))) (α (γ (ν 4) (π (ν 6) (κ 1))) (α (γ (ν 5) (π (ν 6) (κ 1))) (α (γ ο (δ (κ 1024) (π (ν 6) (κ 1)))) (α (ω (δ (κ 1024) (π (ν 6) (κ 1))) (δ (κ 1024) (ν 6))) .ok))))))))))))) (β (χ (ξ (ν 0) (ν 6) 0) (κ 1)) (α (ρ (π (ν 2) (κ 1))) (β (ξ (ν 0) (ν 6) 1) (β (χ (.bin .tmod (ν 6) (κ 16)) ο) (α (ρ (π (ν 5) (κ 1))) (α (ρ (π (ν 6) (κ 1))) (α (γ ο (π (ν 6) (κ 1))) (α (γ (π (ν 6) (κ 1)) (κ 1024)) (α (γ (ν 1) (π (ν 6) (κ 1))) (α (γ ο (π (ν 2) (κ 1))) (α (γ (π (ν 2) (κ 1)) (π (ν 6) (κ 1))) (α (γ (ν 3) (π (ν 6) (κ 1))) (α (γ (ν 4) (π (ν 6) (κ 1))) (α (γ ο (π (ν 5) (κ 1))) (α (γ (π (ν 5) (κ 1)) (π (ν 6) (κ 1))) (α (γ ο (δ (κ 1024) (π (ν 6) (κ 1)))) (α (ω (δ (κ 1024) (π (ν 6) (κ 1))) (δ (κ 1024) (ν 6))) .ok))))))))))))) (α (ρ (π (ν 6) (κ 1))) (α (γ ο (π (ν 6) (κ 1))) (α (γ (π (ν 6) (κ 1)) (κ 1024)) (α (γ (ν 1) (π (ν 6) (κ 1))) (α (γ ο (π (ν 2) (κ 1))) (α (γ (π (ν 2) (κ 1)) (π (ν 6) (κ 1))) (α (γ (ν 3) (π (ν 6) (κ 1))) (α (γ (ν 4) (π (ν 6) (κ 1))) (α (γ (ν 5) (π (ν 6) (κ 1))) (α (γ ο (δ (κ 1024) (π (ν 6) (κ 1)))) (α (ω (δ (κ 1024) (π (ν 6) (κ 1))) (δ (κ 1024) (ν 6))) .ok)))))))))))) (α (ρ (π (ν 6) (κ 1))) (α (γ ο (π (ν 6) (κ 1))) (α (γ (π (ν 6) (κ 1)) (κ 1024)) (α (γ (ν 1) (π (ν 6) (κ 1))) (α (γ ο (π (ν 2) (κ 1))) (α (γ (π (ν 2) (κ 1)) (π (ν 6) (κ 1))) (α (γ (ν 3) (π (ν 6) (κ 1))) (α (γ (ν 4) (π (ν 6) (κ 1))) (α (γ (ν 5) (π (ν 6) (κ 1))) (α (γ ο (δ (κ 1024) (π (ν 6) (κ 1)))) (α (ω (δ (κ 1024) (π (ν 6) (κ 1))) (δ (κ 1024) (ν 6))) .ok))))))))))))) (β (χ (ξ (ν 0) (ν 6) 0) ο) (α (ρ (π (ν 1) (κ 1))) (β (ξ (ν 0) (ν 6) 1) (β (χ (.bin .tmod (ν 6) (κ 16)) ο) (α (ρ (π (ν 5) (κ 1))) (α (ρ (π (ν 6) (κ 1))) (α (γ ο (π (ν 6) (κ 1))) (α (γ (π (ν 6) (κ 1)) (κ 1024)) (α (γ ο (π (ν 1) (κ 1))) (α (γ (π (ν 1) (κ 1)) (π (ν 6) (κ 1))) (α (γ (ν 2) (π (ν 6) (κ 1))) (α (γ (ν 3) (π (ν 6) (κ 1))) (α (γ (ν 4) (π (ν 6) (κ 1))) (α (γ ο (π (ν 5) (κ 1))) (α (γ (π (ν 5) (κ 1)) (π (ν 6) (κ 1))) (α (γ ο (δ (κ 1024) (π (ν 6) (κ 1)))) (α (ω (δ (κ 1024) (π (ν 6) (κ 1))) (δ (κ 1024) (ν 6))) .ok))))))))))))) (α (ρ (π (ν 6) (κ 1))) (α (γ ο (π (ν 6) (κ 1))) (α (γ (π (ν 6) (κ 1)) (κ 1024)) (α (γ ο (π (ν 1) (κ 1))) (α (γ (π (ν 1) (κ 1)) (π (ν 6) (κ 1))) (α (γ (ν 2) (π (ν 6) (κ 1))) (α (γ (ν 3) (π (ν 6) (κ 1))) (α (γ (ν 4) (π (ν 6) (κ 1))) (α (γ (ν 5) (π (ν 6) (κ 1))) (α (γ ο (δ (κ 1024) (π (ν 6) (κ 1)))) (α (ω (δ (κ 1024) (π (ν 6) (κ 1))) (δ (κ 1024) (ν 6))) .ok)))))))))))) (α (ρ (π (ν 6) (κ 1))) (α (γ ο (π (ν 6) (κ 1))) (α (γ (π (ν 6) (κ 1)) (κ 1024)) (α (γ ο (π (ν 1) (κ 1))) (α (γ (π (ν 1) (κ 1)) (π (ν 6) (κ 1))) (α (γ (ν 2) (π (ν 6) (κ 1))) (α (γ (ν 3) (π (ν 6) (κ 1))) (α (γ (ν 4) (π (ν 6) (κ 1))) (α (γ (ν 5) (π (ν 6) (κ 1))) (α (γ ο (δ (κ 1024) (π (ν 6) (κ 1)))) (α (ω (δ (κ 1024) (π (ν 6) (κ 1))) (δ (κ 1024) (ν 6))) .ok))))))))))))) (.fail 29))))) .ok))))))))))))))))))))
def BL:Tree:=(μ (.col (ν 0) 0 0 0) (η (μ (γ ο (ν 1)) (μ (γ (ν 1) (κ 1024)) (β (.bin .lt (ν 1) (κ 1024)) (β (χ (χ (ξ (ν 0) (ν 1) 0) ο) ο) (β (χ (χ (.bin (.bits 5 .u64) (ξ (ν 0) (ν 1) 0) ο) ο) ο) (.fail 20) (α (ρ (π (ν 1) (κ 1))) (.fail 61))) (α (ρ (π (ν 1) (κ 1))) (α (γ ο (π (ν 1) (κ 1))) (α (γ (π (ν 1) (κ 1)) (κ 1024)) (α (γ ο (δ (κ 1024) (π (ν 1) (κ 1)))) (α (ω (δ (κ 1024) (π (ν 1) (κ 1))) (δ (κ 1024) (ν 1))) .ok)))))) .ok)))))
def BU:Tree:=(α (.agr .zt (.kt [0,0,(-1),(-1),(-1)]) ο 5) (τ (η (μ (γ ο (ν 1)) (μ (γ (ν 1) (κ 1024)) (μ (.agr (ν 0) (.kt [0,0,(-1),(-1),(-1)]) (ν 1) 5) (β (.bin .lt (ν 1) (κ 1024)) (α (ρ (π (ν 1) (κ 1))) (α (γ ο (π (ν 1) (κ 1))) (α (γ (π (ν 1) (κ 1)) (κ 1024)) (α (.agr (.upd (.upd (.upd (.upd (.upd (ν 0) (ν 1) 0 ο) (ν 1) 1 ο) (ν 1) 2 (κ (-1))) (ν 1) 3 (κ (-1))) (ν 1) 4 (κ (-1))) (.kt [0,0,(-1),(-1),(-1)]) (π (ν 1) (κ 1)) 5) (α (γ ο (δ (κ 1024) (π (ν 1) (κ 1)))) (α (ω (δ (κ 1024) (π (ν 1) (κ 1))) (δ (κ 1024) (ν 1))) .ok)))))) (α (.agr (.kt [0,0,(-1),(-1),(-1)]) (ν 0) (κ 1024) 5) (α (.agr (.kt [(-1),(-1),0]) (.upd (.upd .zt ο 0 (κ (-1))) ο 1 (κ (-1))) (κ 1) 3) .ok)))))))))
def Rz:Tree:=.ok
def vk (c:Int):Tree:=(μ (.ff (ξ (ν 0) (κ c) 0)) (μ (.ff (ξ (ν 0) (κ (c+1)) 0)) (μ (.ff (ξ (ν 0) (κ (c+2)) 0)) (μ (.ff (ξ (ν 0) (κ (c+3)) 0)) (μ (.ff (ξ (ν 0) (κ (c+4)) 0)) (μ (.ff (ξ (ν 0) (κ (c+5)) 0)) (μ (.ff (ξ (ν 0) (κ (c+6)) 0)) (μ (.ff (ξ (ν 0) (κ (c+7)) 0)) (μ (.ff (ξ (ν 0) (κ (c+8)) 0)) (μ (.ff (ξ (ν 0) (κ (c+9)) 0)) (μ (.ff (ξ (ν 0) (κ (c+10)) 0)) (μ (.ff (ξ (ν 0) (κ (c+11)) 0)) (μ (.ff (ξ (ν 0) (κ (c+12)) 0)) (μ (.ff (ξ (ν 0) (κ (c+13)) 0)) (μ (.ff (ξ (ν 0) (κ (c+14)) 0)) (μ (.ff (ξ (ν 0) (κ (c+15)) 0)) (η (μ (γ ο (ν 1)) (μ (γ (ν 1) (κ 1024)) (β (.bin .lt (ν 1) (κ 1024)) (α (γ ο (.bin (.bits 6 .i64) (ν 1) (κ 64))) (α (ω (.bin (.bits 6 .i64) (ν 1) (κ 64)) (κ 16)) (α (γ ο (π (.bin (.bits 6 .i64) (ν 1) (κ 64)) (κ c))) (α (ω (π (.bin (.bits 6 .i64) (ν 1) (κ 64)) (κ c)) (κ 352)) (α (γ ο (.bin .tmod (ν 1) (κ 64))) (β (χ (.bin (.bits 0 .u64) (.bin (.bits 5 .u64) (ξ (ν 0) (π (.bin (.bits 6 .i64) (ν 1) (κ 64)) (κ c)) 0) (.bin .tmod (ν 1) (κ 64))) (κ 1)) (κ 1)) (.fail 20) (α (ρ (π (ν 1) (κ 1))) (α (γ ο (π (ν 1) (κ 1))) (α (γ (π (ν 1) (κ 1)) (κ 1024)) (α (γ ο (δ (κ 1024) (π (ν 1) (κ 1)))) (α (ω (δ (κ 1024) (π (ν 1) (κ 1))) (δ (κ 1024) (ν 1))) .ok))))))))))) .ok))))))))))))))))))))
def Rb:Tree:=(.assume (.ff (.sel (.var 0) (.lit 0) 0)) (.assume (.ff (.sel (.var 0) (.lit 1) 0)) (.assume (.ff (.sel (.var 0) (.lit 2) 0)) (.assume (.ff (.sel (.var 0) (.lit 3) 0)) (.assume (.ff (.sel (.var 0) (.lit 4) 0)) (.assume (.ff (.sel (.var 0) (.lit 5) 0)) (.assume (.ff (.sel (.var 0) (.lit 6) 0)) (.assume (.ff (.sel (.var 0) (.lit 7) 0)) (.assume (.ff (.sel (.var 0) (.lit 8) 0)) (.assume (.ff (.sel (.var 0) (.lit 9) 0)) (.assume (.ff (.sel (.var 0) (.lit 10) 0)) (.assume (.ff (.sel (.var 0) (.lit 11) 0)) (.assume (.ff (.sel (.var 0) (.lit 12) 0)) (.assume (.ff (.sel (.var 0) (.lit 13) 0)) (.assume (.ff (.sel (.var 0) (.lit 14) 0)) (.assume (.ff (.sel (.var 0) (.lit 15) 0)) (.qp false (.assume (.tt (.bin .le (.lit 0) (.var 1))) (.assume (.tt (.bin .le (.var 1) (.lit 1024))) (.branch (.bin .lt (.var 1) (.lit 1024)) (.assert (.tt (.bin .le (.lit 0) (.bin (.bits 6 .i64) (.var 1) (.lit 64)))) (.assert (.tt (.bin .lt (.bin (.bits 6 .i64) (.var 1) (.lit 64)) (.lit 16))) (.assert (.tt (.bin .lt (.bin (.bits 6 .i64) (.var 1) (.lit 64)) (.lit 352))) (.assert (.tt (.bin .le (.lit 0) (.bin .tmod (.var 1) (.lit 64)))) (.branch (.bin .eq (.bin (.bits 0 .u64) (.bin (.bits 5 .u64) (.sel (.var 0) (.bin (.bits 6 .i64) (.var 1) (.lit 64)) 0) (.bin .tmod (.var 1) (.lit 64))) (.lit 1)) (.lit 1)) (.fail 20) (.assert (.rng .i64 (.bin .add (.var 1) (.lit 1))) (.assert (.tt (.bin .le (.lit 0) (.bin .add (.var 1) (.lit 1)))) (.assert (.tt (.bin .le (.bin .add (.var 1) (.lit 1)) (.lit 1024))) (.assert (.tt (.bin .le (.lit 0) (.bin .sub (.lit 1024) (.bin .add (.var 1) (.lit 1))))) (.assert (.tt (.bin .lt (.bin .sub (.lit 1024) (.bin .add (.var 1) (.lit 1))) (.bin .sub (.lit 1024) (.var 1)))) .ok)))))))))) .ok))))))))))))))))))))
end Go.Mg
namespace Go.Mg
open Go Go.Sx
variable {I:Itp}
theorem words {f:Int->Nat->Int} {c x:Int} (h:∀i:Nat,i<16->f (c+i) 0=0) (h0:0<=x) (h1:x<1024):f (x / 64+c) 0=0:=by
 have:=h (x / 64).toNat (by omega);rw [<-this];congr 1;omega
theorem Ch:∀ds,Sorts ZF.sorts ds->YQ.vc I ds:=by
 refine M5 fun T=>KL ?_
 set_option linter.unusedSimpArgs false in
 simp only [YQ,ν,κ,ο,γ,ω,ρ,χ,π,δ,ξ,α,μ,β,η,τ,Tree.vc,PE.den,E.den,qg,BO.ev,List.getElem?_cons_zero,List.getElem?_cons_succ,List.cons_append,List.nil_append,Option.some.injEq,D.i.injEq,D.t.injEq,exists_eq_left',exists_const,forall_const,forall_eq',uR,uS,ny,zero_eq,min_i64,max_i64,min_u8,max_u8,min_u16,max_u16,min_u32,max_u32,min_u64,max_u64,and_true,true_and];intro hT a b c d e x h0 h1 h2 h3 h4 h5 h6 h7 h8 h9 h10 h11;have hx:=hT x;generalize T x 0=k at *;generalize T x 1=y at *;clear hT;refine ⟨fun h=>?_,fun _=>trivial⟩
 repeat' (first | omega | (intro _) | (refine And.intro ?_ ?_) | trivial)
theorem Ol:∀ds,Sorts XA.sorts ds->BL.vc I ds:=by
 refine M5 fun T=>KL ?_
 set_option linter.unusedSimpArgs false in
 simp only [BL,ν,κ,ο,γ,ω,ρ,χ,π,δ,ξ,α,μ,β,η,τ,Tree.vc,PE.den,E.den,qg,BO.ev,List.getElem?_cons_zero,List.getElem?_cons_succ,List.cons_append,List.nil_append,Option.some.injEq,D.i.injEq,D.t.injEq,exists_eq_left',exists_const,forall_const,forall_eq',uR,uS,ny,zero_eq,min_i64,max_i64,min_u8,max_u8,min_u16,max_u16,min_u32,max_u32,min_u64,max_u64,and_true,true_and];intro hT x h0 h1;have hx:=hT x;have hx:T x 0=0:=by omega
 rw [hx];clear hT;refine ⟨fun h=>?_,fun _=>trivial⟩
 repeat' (first | omega | (intro _) | (refine And.intro ?_ ?_) | trivial)
theorem bD (c:Int) (hc:0<=c) (hd:c<=336):∀ds,Sorts [true] ds->(vk c).vc I ds:=by
 refine M5 fun T=>KL ?_
 set_option linter.unusedSimpArgs false in
 simp only [vk,ν,κ,ο,γ,ω,ρ,χ,π,δ,ξ,α,μ,β,η,τ,Tree.vc,PE.den,E.den,qg,BO.ev,List.getElem?_cons_zero,List.getElem?_cons_succ,List.cons_append,List.nil_append,Option.some.injEq,D.i.injEq,D.t.injEq,exists_eq_left',exists_const,forall_const,forall_eq',uR,uS,ny,zero_eq,min_i64,max_i64,min_u8,max_u8,min_u16,max_u16,min_u32,max_u32,min_u64,max_u64,and_true,true_and];intro a0 a1 a2 a3 a4 a5 a6 a7 a8 a9 a10 a11 a12 a13 a14 a15 x h0 h1;refine ⟨fun h=>?_,fun _=>trivial⟩
 have hw:=words (f:=T) (c:=c) (x:=x) (fun i hi=>by
   match i,hi with
   | 0,_=>simpa using a0 | 1,_=>exact a1 | 2,_=>exact a2 | 3,_=>exact a3 | 4,_=>exact a4 | 5,_=>exact a5 | 6,_=>exact a6 | 7,_=>exact a7
   | 8,_=>exact a8 | 9,_=>exact a9 | 10,_=>exact a10 | 11,_=>exact a11 | 12,_=>exact a12 | 13,_=>exact a13 | 14,_=>exact a14 | 15,_=>exact a15
   | n+16,hi=>omega) h0 h
 rw [RB h0 h];rw [hw,Qt];have hm:x.tmod 64=x % 64:=Int.tmod_eq_emod_of_nonneg h0;rw [hm];clear a0 a1 a2 a3 a4 a5 a6 a7 a8 a9 a10 a11 a12 a13 a14 a15 hw
 repeat' (first | omega | (intro _) | (refine And.intro ?_ ?_) | trivial)
theorem Ou:∀ds,Sorts XE.sorts ds->BU.vc I ds:=by
 refine KL ?_
 set_option linter.unusedSimpArgs false in
 simp only [BU,ν,κ,ο,γ,ω,ρ,χ,π,δ,ξ,α,μ,β,η,τ,Tree.vc,PE.den,E.den,qg,BO.ev,List.getElem?_cons_zero,List.getElem?_cons_succ,List.cons_append,List.nil_append,Option.some.injEq,D.i.injEq,D.t.injEq,exists_eq_left',exists_const,forall_const,forall_eq',uR,uS,ny,zero_eq,min_i64,max_i64,min_u8,max_u8,min_u16,max_u16,min_u32,max_u32,min_u64,max_u64,and_true,true_and];refine ⟨⟨_,_,_,rfl,rfl,rfl,fun r c h0 h1 _=>by omega⟩,?_⟩;rintro T x h0 h1 ⟨_,_,_,rfl,rfl,rfl,hT⟩;refine ⟨fun h=>⟨by omega,by omega,by omega,⟨_,_,_,rfl,rfl,rfl,?_⟩,by omega,by omega⟩,fun h=>⟨⟨_,_,_,rfl,rfl,rfl,?_⟩,⟨_,_,_,rfl,rfl,rfl,?_⟩⟩⟩
 . intro r c hr hx hc;by_cases hrx:r=x
   . subst hrx
     match c,hc with
     | 0,_=>simp [qd]
     | 1,_=>simp [qd]
     | 2,_=>simp [qd]
     | 3,_=>simp [qd]
     | 4,_=>simp [qd]
     | n+5,hc=>omega
   . simp only [qd,hrx,false_and,if_false];exact hT r c hr (by omega) hc
 . intro r c hr hx hc;exact (hT r c hr (by omega) hc).symm
 . intro r c hr hx hc;have:r=0:=by omega
   subst this
   match c,hc with
   | 0,_=>simp [qd]
   | 1,_=>simp [qd]
   | 2,_=>simp [qd]
   | n+3,hc=>omega
theorem Oc:∀ds,Sorts XO.sorts ds->Rz.vc I ds:=fun _ _=>trivial
theorem qqG:∀ds,Sorts (zD 0).sorts ds->Rb.vc I ds:=by
 refine M5 fun T=>KL ?_
 set_option linter.unusedSimpArgs false in
 simp only [Rb,Tree.vc,PE.den,E.den,qg,BO.ev,List.getElem?_cons_zero,List.getElem?_cons_succ,List.cons_append,List.nil_append,Option.some.injEq,D.i.injEq,D.t.injEq,exists_eq_left',exists_const,forall_const,forall_eq',uR,uS,ny,zero_eq,min_i64,max_i64,min_u8,max_u8,min_u16,max_u16,min_u32,max_u32,min_u64,max_u64,and_true,true_and];intro a0 a1 a2 a3 a4 a5 a6 a7 a8 a9 a10 a11 a12 a13 a14 a15 x h0 h1;refine ⟨fun h=>?_,fun _=>trivial⟩
 have hw:=words (f:=T) (c:=0) (x:=x) (fun i hi=>by
   match i,hi with
   | 0,_=>exact a0 | 1,_=>exact a1 | 2,_=>exact a2 | 3,_=>exact a3 | 4,_=>exact a4 | 5,_=>exact a5 | 6,_=>exact a6 | 7,_=>exact a7
   | 8,_=>exact a8 | 9,_=>exact a9 | 10,_=>exact a10 | 11,_=>exact a11 | 12,_=>exact a12 | 13,_=>exact a13 | 14,_=>exact a14 | 15,_=>exact a15
   | n+16,hi=>omega) h0 h
 rw [RB h0 h];simp only [Int.add_zero] at hw;rw [hw,Qt];have hm:x.tmod 64=x % 64:=Int.tmod_eq_emod_of_nonneg h0;rw [hm];clear a0 a1 a2 a3 a4 a5 a6 a7 a8 a9 a10 a11 a12 a13 a14 a15 hw
 repeat' (first | omega | (intro _) | (refine And.intro ?_ ?_) | trivial)
end Go.Mg
namespace Go.Mg
open Go Go.Sx
set_option maxRecDepth 10000
def wu (t:E) (r:Int) (c:Nat) (x:Int):E:=.upd t (.lit r) c (.lit x)
def qn (n:Int):AV:=.int .i64 (.lit n)
def q0:AV:=.int .i64 (.lit 0)
def q1:AV:=.int .i64 (.lit 1)
def b0:AV:=.bool (.lit 0)
def b1:AV:=.bool (.lit 1)
def ns:AV:=.qJ
def pn (b k:Nat):AV:=.ptr b (.lit 0) 0 k
def TD:Contract where
 fn:=61
 sorts:=[]
 args:=[(.ptr 0 (.lit 0) 0 0)]
 mem:=[(0,.big [(.bool (.lit 1))] pgK (.upd (.upd (.upd (.upd (.upd (.upd (.upd (.upd .zt (.lit 0) 0 (.lit 3)) (.lit 1) 0 (.lit 2)) (.lit 2) 0 (.lit 2)) (.lit 3) 0 (.lit 1)) (.lit 4) 0 (.lit 1)) (.lit 5) 0 (.lit 1)) (.lit 6) 0 (.lit 1)) (.lit 7) 0 (.lit 3)) 1024 [.qJ,(.int .i64 (.lit 1)),(.int .i64 (.lit 0)),(.int .i64 (.lit 1)),(.int .i64 (.lit 0)),(.int .i64 (.lit 2)),(.int .i64 (.lit 0)),(.int .i64 (.lit 0)),(.int .i64 (.lit 0)),(.int .i64 (.lit 0)),(.int .i64 (.lit 0)),(.int .i64 (.lit 0)),(.int .i64 (.lit 0)),(.int .i64 (.lit 0)),(.int .i64 (.lit 0))] true)]
 nb:=1
 pre:=[]
 outs:=[]
 res:=(.agg [(.slice 1 (.lit 0) (.lit 4) 3 false),.qJ,.qJ,.qJ,(.int .i64 (.lit 1)),(.int .i64 (.lit 0)),(.int .i64 (.lit 1)),(.int .i64 (.lit 0)),(.int .i64 (.lit 2)),(.int .i64 (.lit 0)),(.int .i64 (.lit 0)),(.int .i64 (.lit 0)),(.int .i64 (.lit 0)),(.int .i64 (.lit 0)),(.int .i64 (.lit 0)),(.int .i64 (.lit 0)),(.int .i64 (.lit 0)),(.int .i64 (.lit 0))])
 mods:=[(0,.big [(.bool (.lit 1))] pgK (.upd (.upd (.upd (.upd (.upd (.upd (.upd (.upd .zt (.lit 0) 0 (.lit 3)) (.lit 1) 0 (.lit 2)) (.lit 2) 0 (.lit 2)) (.lit 3) 0 (.lit 1)) (.lit 4) 0 (.lit 1)) (.lit 5) 0 (.lit 1)) (.lit 6) 0 (.lit 1)) (.lit 7) 0 (.lit 3)) 1024 [.qJ,(.int .i64 (.lit 1)),(.int .i64 (.lit 0)),(.int .i64 (.lit 1)),(.int .i64 (.lit 0)),(.int .i64 (.lit 2)),(.int .i64 (.lit 0)),(.int .i64 (.lit 0)),(.int .i64 (.lit 0)),(.int .i64 (.lit 0)),(.int .i64 (.lit 0)),(.int .i64 (.lit 0)),(.int .i64 (.lit 0)),(.int .i64 (.lit 0)),(.int .i64 (.lit 0))] true)]
 fresh:=[(1,.rows [(.int .i64),(.int .i64),(.int .i64)] (.upd (.upd (.upd (.upd (.upd (.upd (.upd (.upd (.upd (.upd (.upd .zt (.lit 0) 1 (.lit 1)) (.lit 0) 2 (.lit 3)) (.lit 1) 0 (.lit 1)) (.lit 1) 1 (.lit 2)) (.lit 1) 2 (.lit 2)) (.lit 2) 0 (.lit 3)) (.lit 2) 1 (.lit 4)) (.lit 2) 2 (.lit 1)) (.lit 3) 0 (.lit 7)) (.lit 3) 1 (.lit 1)) (.lit 3) 2 (.lit 3)) (.lit 4) true false)]
 post:=[]
def TM:Contract where
 fn:=62
 sorts:=[]
 args:=[(.ptr 0 (.lit 0) 0 0)]
 mem:=[(0,.big [(.bool (.lit 1)),(.int .i64 (.lit 10))] [(.int .u64)] (.upd (.upd (.upd (.upd (.upd (.upd (.upd (.upd (.upd .zt (.lit 160) 0 (.lit 0)) (.lit 152) 0 (.lit 1)) (.lit 132) 0 (.lit 1)) (.lit 114) 0 (.lit 1)) (.lit 97) 0 (.lit 1)) (.lit 80) 0 (.lit 4294967296)) (.lit 64) 0 (.lit 65536)) (.lit 48) 0 (.lit 256)) (.lit 224) 0 (.lit 1)) 352 [] true)]
 nb:=1
 pre:=[]
 outs:=[]
 res:=(.agg [(.int .i64 (.lit 10)),(.slice 1 (.lit 0) (.lit 1) 2 false)])
 mods:=[(0,.big [(.bool (.lit 1)),(.int .i64 (.lit 10))] [(.int .u64)] (.upd (.upd (.upd (.upd (.upd (.upd (.upd (.upd (.upd .zt (.lit 160) 0 (.lit 0)) (.lit 152) 0 (.lit 1)) (.lit 132) 0 (.lit 1)) (.lit 114) 0 (.lit 1)) (.lit 97) 0 (.lit 1)) (.lit 80) 0 (.lit 4294967296)) (.lit 64) 0 (.lit 65536)) (.lit 48) 0 (.lit 256)) (.lit 224) 0 (.lit 1)) 352 [] true)]
 fresh:=[(1,.rows [(.int .i64),(.int .i64)] (.upd .zt (.lit 0) 1 (.lit 3)) (.lit 1) true false)]
 post:=[]
def qqd:Ann where
 fn:=176
 bid:=0
 keep:=[0,1]
 tmps:=[(3,i64 (v 0))]
 drop:=[4]
 mem:=[(4,.cells [.slice 22 (.lit 0) (.lit 4) 3 false] true)]
 sorts:=[false]
 nbl:=0
 inv:=[eLe (.lit 8) (v 0),eLe (v 0) (.lit 1024),.tt (.bin .or (.bin .eq (v 0) (.lit 8)) (.bin .eq (v 0) (.lit 1024)))]
 meas:=.bin .sub (.lit 1024) (v 0)
def qqf:Ann where
 fn:=176
 bid:=2
 keep:=[0,1,4]
 tmps:=[(3,i64 (v 1))]
 drop:=[23]
 mem:=[(23,.cells [i64 (v 0),i64 (v 2),i64 (v 3)] true)]
 sorts:=[false,false,false]
 nbl:=0
 inv:=[eLe (v 0) (v 1),eLe (v 1) (.lit 1024),.same (v 2) (.bin .sub (v 1) (v 0)),.same (v 3) (.lit 0)]
 meas:=.bin .sub (.lit 1024) (v 1)
def qqh:Ann where
 fn:=61
 bid:=0
 keep:=[0,2,3]
 tmps:=[(28,i64 (v 1))]
 drop:=[]
 mem:=[]
 sorts:=[false]
 nbl:=0
 inv:=[eLe (.lit 0) (v 1),eLe (v 1) (.lit 1024)]
 meas:=.bin .sub (.lit 1024) (v 1)
def qqm:Ann where
 fn:=235
 bid:=0
 keep:=[0,1]
 tmps:=[(4,i64 (v 0))]
 drop:=[2]
 mem:=[(2,.cells [.slice 20 (.lit 0) (.lit 1) 2 false] true)]
 sorts:=[false]
 nbl:=0
 inv:=[eLe (.lit 1) (v 0),eLe (v 0) (.lit 1024)]
 meas:=.bin .sub (.lit 1024) (v 0)
def xSv (P:Program):Cx:={ P,cs:=loops,dJ:=[qqd,qqf,qqh,qqm],kn:=kn }
end Go.Mg
namespace Go.Mg
open Go Go.Sx
variable {I:Itp}
set_option maxRecDepth 10000
def OV:Tree:=(.qp false (.assume (.tt (.bin .le (.lit 8) (.var 0))) (.assume (.tt (.bin .le (.var 0) (.lit 1024))) (.assume (.tt (.bin .or (.bin .eq (.var 0) (.lit 8)) (.bin .eq (.var 0) (.lit 1024)))) (.branch (.bin .lt (.var 0) (.lit 1024)) (.assert (.tt (.bin .le (.lit 0) (.var 0))) (.assert (.tt (.bin .le (.var 0) (.var 0))) (.assert (.same (.lit 0) (.bin .sub (.var 0) (.var 0))) (.assert (.same (.sel (.upd (.upd (.upd (.upd (.upd (.upd (.upd (.upd .zt (.lit 0) 0 (.lit 3)) (.lit 1) 0 (.lit 2)) (.lit 2) 0 (.lit 2)) (.lit 3) 0 (.lit 1)) (.lit 4) 0 (.lit 1)) (.lit 5) 0 (.lit 1)) (.lit 6) 0 (.lit 1)) (.lit 7) 0 (.lit 3)) (.var 0) 0) (.lit 0)) (.qp false (.qp false (.qp false (.assume (.tt (.bin .le (.var 0) (.var 1))) (.assume (.tt (.bin .le (.var 1) (.lit 1024))) (.assume (.same (.var 2) (.bin .sub (.var 1) (.var 0))) (.assume (.same (.var 3) (.lit 0)) (.branch (.bin .lt (.var 1) (.lit 1024)) (.assert (.tt (.bin .le (.lit 0) (.var 1))) (.branch (.bin .eq (.sel (.upd (.upd (.upd (.upd (.upd (.upd (.upd (.upd .zt (.lit 0) 0 (.lit 3)) (.lit 1) 0 (.lit 2)) (.lit 2) 0 (.lit 2)) (.lit 3) 0 (.lit 1)) (.lit 4) 0 (.lit 1)) (.lit 5) 0 (.lit 1)) (.lit 6) 0 (.lit 1)) (.lit 7) 0 (.lit 3)) (.var 1) 0) (.lit 0)) (.assert (.rng .i64 (.bin .add (.var 1) (.lit 1))) (.assert (.rng .i64 (.bin .add (.bin .sub (.var 1) (.var 0)) (.lit 1))) (.assert (.tt (.bin .le (.var 0) (.bin .add (.var 1) (.lit 1)))) (.assert (.tt (.bin .le (.bin .add (.var 1) (.lit 1)) (.lit 1024))) (.assert (.same (.bin .add (.bin .sub (.var 1) (.var 0)) (.lit 1)) (.bin .sub (.bin .add (.var 1) (.lit 1)) (.var 0))) (.assert (.tt (.bin .le (.lit 0) (.bin .sub (.lit 1024) (.bin .add (.var 1) (.lit 1))))) (.assert (.tt (.bin .lt (.bin .sub (.lit 1024) (.bin .add (.var 1) (.lit 1))) (.bin .sub (.lit 1024) (.var 1)))) .ok))))))) (.assert (.tt (.bin .le (.lit 8) (.var 1))) (.assert (.tt (.bin .or (.bin .eq (.var 1) (.lit 8)) (.bin .eq (.var 1) (.lit 1024)))) (.assert (.tt (.bin .le (.lit 0) (.bin .sub (.lit 1024) (.var 1)))) (.assert (.tt (.bin .lt (.bin .sub (.lit 1024) (.var 1)) (.bin .sub (.lit 1024) (.var 0)))) .ok)))))) (.assert (.tt (.bin .le (.lit 8) (.var 1))) (.assert (.tt (.bin .or (.bin .eq (.var 1) (.lit 8)) (.bin .eq (.var 1) (.lit 1024)))) (.assert (.tt (.bin .le (.lit 0) (.bin .sub (.lit 1024) (.var 1)))) (.assert (.tt (.bin .lt (.bin .sub (.lit 1024) (.var 1)) (.bin .sub (.lit 1024) (.var 0)))) .ok)))))))))))))))) (.qp false (.assume (.tt (.bin .le (.lit 0) (.var 1))) (.assume (.tt (.bin .le (.var 1) (.lit 1024))) (.branch (.bin .lt (.var 1) (.lit 1024)) (.branch (.bin .eq (.bin .tmod (.var 1) (.lit 16)) (.lit 0)) (.assert (.rng .i64 (.bin .add (.var 1) (.lit 1))) (.assert (.tt (.bin .le (.lit 0) (.bin .add (.var 1) (.lit 1)))) (.assert (.tt (.bin .le (.bin .add (.var 1) (.lit 1)) (.lit 1024))) (.assert (.tt (.bin .le (.lit 0) (.bin .sub (.lit 1024) (.bin .add (.var 1) (.lit 1))))) (.assert (.tt (.bin .lt (.bin .sub (.lit 1024) (.bin .add (.var 1) (.lit 1))) (.bin .sub (.lit 1024) (.var 1)))) .ok))))) (.assert (.rng .i64 (.bin .add (.var 1) (.lit 1))) (.assert (.tt (.bin .le (.lit 0) (.bin .add (.var 1) (.lit 1)))) (.assert (.tt (.bin .le (.bin .add (.var 1) (.lit 1)) (.lit 1024))) (.assert (.tt (.bin .le (.lit 0) (.bin .sub (.lit 1024) (.bin .add (.var 1) (.lit 1))))) (.assert (.tt (.bin .lt (.bin .sub (.lit 1024) (.bin .add (.var 1) (.lit 1))) (.bin .sub (.lit 1024) (.var 1)))) .ok)))))) .ok)))))))))
def OP:Tree:=(.qp false (.assume (.tt (.bin .le (.lit 1) (.var 0))) (.assume (.tt (.bin .le (.var 0) (.lit 1024))) (.branch (.bin .lt (.var 0) (.lit 1024)) (.assert (.tt (.bin .le (.lit 0) (.bin (.bits 6 .i64) (.var 0) (.lit 64)))) (.assert (.tt (.bin .lt (.bin (.bits 6 .i64) (.var 0) (.lit 64)) (.lit 16))) (.assert (.tt (.bin .le (.lit 0) (.bin .add (.bin (.bits 6 .i64) (.var 0) (.lit 64)) (.lit 224)))) (.assert (.tt (.bin .lt (.bin .add (.bin (.bits 6 .i64) (.var 0) (.lit 64)) (.lit 224)) (.lit 352))) (.assert (.tt (.bin .le (.lit 0) (.bin .tmod (.var 0) (.lit 64)))) (.branch (.bin .eq (.bin (.bits 0 .u64) (.bin (.bits 5 .u64) (.sel (.upd (.upd (.upd (.upd (.upd (.upd (.upd (.upd (.upd .zt (.lit 160) 0 (.lit 0)) (.lit 152) 0 (.lit 1)) (.lit 132) 0 (.lit 1)) (.lit 114) 0 (.lit 1)) (.lit 97) 0 (.lit 1)) (.lit 80) 0 (.lit 4294967296)) (.lit 64) 0 (.lit 65536)) (.lit 48) 0 (.lit 256)) (.lit 224) 0 (.lit 1)) (.bin .add (.bin (.bits 6 .i64) (.var 0) (.lit 64)) (.lit 224)) 0) (.bin .tmod (.var 0) (.lit 64))) (.lit 1)) (.lit 1)) (.assert (.rng .i64 (.bin .add (.var 0) (.lit 1))) (.fail 61)) (.assert (.rng .i64 (.bin .add (.var 0) (.lit 1))) (.assert (.tt (.bin .le (.lit 1) (.bin .add (.var 0) (.lit 1)))) (.assert (.tt (.bin .le (.bin .add (.var 0) (.lit 1)) (.lit 1024))) (.assert (.tt (.bin .le (.lit 0) (.bin .sub (.lit 1024) (.bin .add (.var 0) (.lit 1))))) (.assert (.tt (.bin .lt (.bin .sub (.lit 1024) (.bin .add (.var 0) (.lit 1))) (.bin .sub (.lit 1024) (.var 0)))) .ok))))))))))) .ok))))
theorem far {f:Int->Nat->Int} {r x v:Int} {c:Nat} (h:x≠r):qd f r c v x 0=f x 0:=by simp [qd,h]
theorem Je {x:Int} (h:8<=x):qd (qd (qd (qd (qd (qd (qd (qd (fun _ _=>0) 0 0 3) 1 0 2) 2 0 2) 3 0 1) 4 0 1) 5 0 1) 6 0 1) 7 0 3 x 0=0:=by
 rw [far (by omega),far (by omega),far (by omega),far (by omega),far (by omega),far (by omega),far (by omega),far (by omega)]
theorem Ce:∀k:Fin 64,k.val≠0->wR 5 .u64 1 (k.val:Int)=0:=by decide
theorem Fz {x:Int} (h1:1<=x) (h2:x<1024):wR 0 .u64 (wR 5 .u64 (qd (qd (qd (qd (qd (qd (qd (qd (qd (fun _ _=>0) 160 0 0) 152 0 1) 132 0 1) 114 0 1) 97 0 1) 80 0 4294967296) 64 0 65536) 48 0 256) 224 0 1 (x / 64+224) 0) (x % 64)) 1=0:=by
 by_cases h:x<64
 . have e:x / 64+224=224:=by omega
   have e2:x % 64=x:=by omega
   rw [e,e2];have:=Ce ⟨x.toNat,by omega⟩ (by simp only;omega);simp only [show ((x.toNat:Nat):Int)=x by omega] at this;simp only [qd,and_self,if_true,this];rfl
 . rw [far (by omega),far (by omega),far (by omega),far (by omega),far (by omega),far (by omega),far (by omega),far (by omega),far (by omega)];exact Qt _
theorem qkX:∀ds,Sorts TD.sorts ds->OV.vc I ds:=by
 refine KL ?_
 set_option linter.unusedSimpArgs false in
 simp only [OV,Tree.vc,PE.den,E.den,qg,BO.ev,List.getElem?_cons_zero,List.getElem?_cons_succ,List.cons_append,List.nil_append,Option.some.injEq,D.i.injEq,D.t.injEq,exists_eq_left',exists_const,forall_const,forall_eq',uR,uS,ny,zero_eq,min_i64,max_i64,min_u8,max_u8,min_u16,max_u16,min_u32,max_u32,min_u64,max_u64,and_true,true_and];intro x h8 hx hor;refine ⟨fun hlt=>?_,fun hge y h0 hy=>⟨fun hlt=>?_,fun _=>trivial⟩⟩
 . rw [Je h8];refine ⟨by omega,by omega,by omega,rfl,?_⟩;rintro y _ _ hxy hy rfl rfl;rw [Je (show 8<=y by omega)]
   repeat' (first | omega | (intro _) | (refine And.intro ?_ ?_) | trivial)
 . repeat' (first | omega | (intro _) | (refine And.intro ?_ ?_) | trivial)
theorem qkA:∀ds,Sorts TM.sorts ds->OP.vc I ds:=by
 refine KL ?_
 set_option linter.unusedSimpArgs false in
 simp only [OP,Tree.vc,PE.den,E.den,qg,BO.ev,List.getElem?_cons_zero,List.getElem?_cons_succ,List.cons_append,List.nil_append,Option.some.injEq,D.i.injEq,D.t.injEq,exists_eq_left',exists_const,forall_const,forall_eq',uR,uS,ny,zero_eq,min_i64,max_i64,min_u8,max_u8,min_u16,max_u16,min_u32,max_u32,min_u64,max_u64,and_true,true_and];intro x h1 h2;refine ⟨fun hlt=>?_,fun _=>trivial⟩;have hm:x.tmod 64=x % 64:=Int.tmod_eq_emod_of_nonneg (by omega);rw [RB (by omega) hlt,hm,Fz h1 hlt]
 repeat' (first | omega | (intro _) | (refine And.intro ?_ ?_) | trivial)
end Go.Mg
namespace Go.Mg
open Go Go.Sx
set_option maxRecDepth 10000
def st0:Contract where
 fn:=29
 sorts:=[]
 args:=[(qn 20),(qn 10),(qn 2)]
 mem:=[]
 nb:=0
 pre:=[]
 outs:=[]
 res:=(.tup [(pn 0 0),q0])
 mods:=[]
 fresh:=[(0,.cells [(pn 1 0),(pn 2 0),q0,(pn 3 0),q0,q0,q0,q0,q0,q0,q0,ns,b0,ns,ns,q0,q0,q0,q0,q0,q0,q0,q0,ns,b0,ns,ns,q0,q0,q0,q0,q0,q0,q0,q0,ns,b0,ns,ns,q0,q0,q0,q0,q0,q0,q0,q0,ns,b0,ns,ns,q0,q0,q0,q0,q0,q0,q0,q0,ns,b0,ns,ns,q0,q0,q0,q0,q0,q0,q0,q0,ns,b0,ns,ns,q0,q0,q0,q0,q0,q0,q0,q0,ns,b0,ns,ns,q0,q0,q0,q0,q0,q0,q0,q0,ns,b0,ns,ns,q0,q0,q0,q0,q0,q0,q0,q0,ns,b0,ns,ns,q0,q0,q0,q0,q0,q0,q0,q0,ns,b0,ns,ns,q0,q0,q0,q0,q0,q0,q0,q0,ns,b0,ns,ns,q0,q0,q0,q0,q0,q0,q0,q0,ns,b0,ns,ns,q0,q0,q0,q0,q0,q0,q0,q0,ns,b0,ns,ns,q0,q0,q0,q0,q0,q0,q0,q0,ns,b0,ns,ns,q0,q0,q0,q0,q0,q0,q0,q0,ns,b0,ns,ns,q0,q0,q0,q0,q0,q0,q0,q0,ns,b0,ns,ns,q0] true),(1,.cells [(pn 4 0),(pn 5 0),(pn 6 0),ns,q0] true),(2,.big [b1,(qn 10)] [(.int .u64)] (wu .zt 160 0 1) 352 [] true),(3,.cells [(.slice 7 (.lit 0) (.lit 16) 3 false),(qn 16),(.slice 8 (.lit 0) (.lit 1) 1 false),q0] true),(4,.big [b1] pgK .zt 1024 [ns,q0,q0,q0,q0,q0,q0,q0,q0,q0,q0,q0,q0,q0,q0] true),(5,.cells [b1,(.slice 9 (.lit 0) (.lit 1) 6 false)] true),(6,.big [(qn 10),q0,(qn 2),q0,(pn 10 0)] [(.int .i64)] .zt 1024 [] true),(7,.rows [(.int .i64),.bool,(.int .i64)] .zt (.lit 16) true false),(8,.rows [(.int .u64)] (wu .zt 0 0 65535) (.lit 1) true false),(9,.rows [(.int .i64),(.int .i64),(.int .i64),(.int .i64),.bool,(.int .i64)] (wu (wu .zt 0 0 (-1)) 0 1 20) (.lit 1) true false),(10,.cells [(.slice 11 (.lit 0) (.lit 1024) 5 false),(.slice 12 (.lit 0) (.lit 1) 3 false),q0] true),(11,.rows [(.int .i64),(.int .i64),(.int .i64),(.int .i64),(.int .i64)] (.kt [0,0,-1,-1,-1]) (.lit 1024) true false),(12,.rows [(.int .i64),(.int .i64),(.int .i64)] (.kt [-1,-1,0]) (.lit 1) true false)]
 post:=[]
def st1:Contract where
 fn:=30
 sorts:=[]
 args:=[(pn 0 0),(.agg [q1,q0,(qn 3),q1,q0])]
 mem:=[(0,.cells [(pn 1 0),(pn 2 0),q0,(pn 3 0),q0,q0,q0,q0,q0,q0,q0,ns,b0,ns,ns,q0,q0,q0,q0,q0,q0,q0,q0,ns,b0,ns,ns,q0,q0,q0,q0,q0,q0,q0,q0,ns,b0,ns,ns,q0,q0,q0,q0,q0,q0,q0,q0,ns,b0,ns,ns,q0,q0,q0,q0,q0,q0,q0,q0,ns,b0,ns,ns,q0,q0,q0,q0,q0,q0,q0,q0,ns,b0,ns,ns,q0,q0,q0,q0,q0,q0,q0,q0,ns,b0,ns,ns,q0,q0,q0,q0,q0,q0,q0,q0,ns,b0,ns,ns,q0,q0,q0,q0,q0,q0,q0,q0,ns,b0,ns,ns,q0,q0,q0,q0,q0,q0,q0,q0,ns,b0,ns,ns,q0,q0,q0,q0,q0,q0,q0,q0,ns,b0,ns,ns,q0,q0,q0,q0,q0,q0,q0,q0,ns,b0,ns,ns,q0,q0,q0,q0,q0,q0,q0,q0,ns,b0,ns,ns,q0,q0,q0,q0,q0,q0,q0,q0,ns,b0,ns,ns,q0,q0,q0,q0,q0,q0,q0,q0,ns,b0,ns,ns,q0,q0,q0,q0,q0,q0,q0,q0,ns,b0,ns,ns,q0] true),(1,.cells [(pn 4 0),(pn 5 0),(pn 6 0),ns,q0] true),(2,.big [b1,(qn 10)] [(.int .u64)] (wu .zt 160 0 1) 352 [] true),(3,.cells [(.slice 7 (.lit 0) (.lit 16) 3 false),(qn 16),(.slice 8 (.lit 0) (.lit 1) 1 false),q0] true),(4,.big [b1] pgK .zt 1024 [ns,q0,q0,q0,q0,q0,q0,q0,q0,q0,q0,q0,q0,q0,q0] true),(5,.cells [b1,(.slice 9 (.lit 0) (.lit 1) 6 false)] true),(6,.big [(qn 10),q0,(qn 2),q0,(pn 10 0)] [(.int .i64)] .zt 1024 [] true),(7,.rows [(.int .i64),.bool,(.int .i64)] .zt (.lit 16) true false),(8,.rows [(.int .u64)] (wu .zt 0 0 65535) (.lit 1) true false),(9,.rows [(.int .i64),(.int .i64),(.int .i64),(.int .i64),.bool,(.int .i64)] (wu (wu .zt 0 0 (-1)) 0 1 20) (.lit 1) true false),(10,.cells [(.slice 11 (.lit 0) (.lit 1024) 5 false),(.slice 12 (.lit 0) (.lit 1) 3 false),q0] true),(11,.rows [(.int .i64),(.int .i64),(.int .i64),(.int .i64),(.int .i64)] (.kt [0,0,-1,-1,-1]) (.lit 1024) true false),(12,.rows [(.int .i64),(.int .i64),(.int .i64)] (.kt [-1,-1,0]) (.lit 1) true false)]
 nb:=13
 pre:=[]
 outs:=[]
 res:=(.agg [(qn 65536),q0])
 mods:=[(0,.cells [(pn 1 0),(pn 2 0),q0,(pn 3 0),q0,(qn 8),q1,q1,q0,q1,q0,ns,b0,ns,ns,q1,q0,q0,q0,q0,q0,q0,q0,ns,b0,ns,ns,q0,q0,q0,q0,q0,q0,q0,q0,ns,b0,ns,ns,q0,q0,q0,q0,q0,q0,q0,q0,ns,b0,ns,ns,q0,q0,q0,q0,q0,q0,q0,q0,ns,b0,ns,ns,q0,q0,q0,q0,q0,q0,q0,q0,ns,b0,ns,ns,q0,q0,q0,q0,q0,q0,q0,q0,ns,b0,ns,ns,q0,q0,q0,q0,q0,q0,q0,q0,ns,b0,ns,ns,q0,q0,q0,q0,q0,q0,q0,q0,ns,b0,ns,ns,q0,q0,q0,q0,q0,q0,q0,q0,ns,b0,ns,ns,q0,q0,q0,q0,q0,q0,q0,q0,ns,b0,ns,ns,q0,q0,q0,q0,q0,q0,q0,q0,ns,b0,ns,ns,q0,q0,q0,q0,q0,q0,q0,q0,ns,b0,ns,ns,q0,q0,q0,q0,q0,q0,q0,q0,ns,b0,ns,ns,q0,q0,q0,q0,q0,q0,q0,q0,ns,b0,ns,ns,q0,q0,q0,q0,q0,q0,q0,q0,ns,b0,ns,ns,q0] true),(1,.cells [(pn 4 0),(pn 5 0),(pn 6 0),ns,q0] true),(2,.big [b1,(qn 10)] [(.int .u64)] (wu (wu (wu (wu (wu (wu (wu (wu (wu .zt 160 0 0) 152 0 1) 132 0 1) 114 0 1) 97 0 1) 80 0 4294967296) 64 0 65536) 48 0 256) 224 0 1) 352 [] true),(3,.cells [(.slice 7 (.lit 0) (.lit 16) 3 false),(qn 16),(.slice 13 (.lit 0) (.lit 1) 1 false),q1] true),(4,.big [b1] pgK (wu (wu (wu (wu (wu (wu (wu (wu .zt 0 0 3) 1 0 1) 2 0 1) 3 0 1) 4 0 1) 5 0 1) 6 0 1) 7 0 3) 1024 [ns,q1,q0,q0,q0,(qn 2),q0,q0,q0,q0,q0,q0,q0,q0,q0] true),(5,.cells [b1,(.slice 14 (.lit 0) (.lit 2) 6 false)] true),(6,.big [(qn 10),q0,(qn 2),q0,(pn 10 0)] [(.int .i64)] .zt 1024 [] true),(7,.rows [(.int .i64),.bool,(.int .i64)] (wu (wu .zt 0 0 1) 0 1 1) (.lit 16) true false),(8,.rows [(.int .u64)] (wu .zt 0 0 65535) (.lit 1) true false),(10,.cells [(.slice 11 (.lit 0) (.lit 1024) 5 false),(.slice 12 (.lit 0) (.lit 1) 3 false),q0] true),(11,.rows [(.int .i64),(.int .i64),(.int .i64),(.int .i64),(.int .i64)] (.kt [0,0,-1,-1,-1]) (.lit 1024) true false),(12,.rows [(.int .i64),(.int .i64),(.int .i64)] (.kt [-1,-1,0]) (.lit 1) true false)]
 fresh:=[(13,.rows [(.int .u64)] (wu .zt 0 0 65534) (.lit 1) true false),(14,.rows [(.int .i64),(.int .i64),(.int .i64),(.int .i64),.bool,(.int .i64)] (wu (wu (wu .zt 0 0 (-1)) 0 1 20) 1 1 4096) (.lit 2) true false)]
 post:=[]
def st2:Contract where
 fn:=212
 sorts:=[]
 args:=[(pn 0 0),(.agg [q0,(qn 8),q1,q1,q0,q1,(qn 2),ns,b0])]
 mem:=[(0,.cells [(pn 1 0),q0,(qn 8),q1,q1,q0,q1,q0,ns,b0,ns,ns,q1] true),(1,.cells [(pn 2 0),(pn 3 0),(pn 4 0),ns,q0] true),(2,.big [b1] pgK (wu (wu (wu (wu (wu (wu (wu (wu .zt 0 0 3) 1 0 2) 2 0 2) 3 0 1) 4 0 1) 5 0 1) 6 0 1) 7 0 3) 1024 [ns,q1,q0,q1,q0,(qn 2),q0,q0,q0,q0,q0,q0,q0,q0,q0] true),(3,.cells [b1,(.slice 5 (.lit 0) (.lit 2) 6 false)] true),(4,.big [(qn 10),q0,(qn 2),q0,(pn 6 0)] [(.int .i64)] .zt 1024 [] true),(5,.rows [(.int .i64),(.int .i64),(.int .i64),(.int .i64),.bool,(.int .i64)] (wu (wu (wu (wu (wu (wu (wu (wu .zt 0 0 (-1)) 0 1 20) 1 1 4096) 1 2 2) 1 5 2) 1 3 2) 0 5 2) 0 3 2) (.lit 2) true false),(6,.cells [(.slice 7 (.lit 0) (.lit 1024) 5 false),(.slice 8 (.lit 0) (.lit 1) 3 false),q0] true),(7,.rows [(.int .i64),(.int .i64),(.int .i64),(.int .i64),(.int .i64)] (.kt [0,0,-1,-1,-1]) (.lit 1024) true false),(8,.rows [(.int .i64),(.int .i64),(.int .i64)] (.kt [-1,-1,0]) (.lit 1) true false)]
 nb:=9
 pre:=[]
 outs:=[]
 res:=(.tup [])
 mods:=[(0,.cells [(pn 1 0),q0,(qn 8),q1,q1,q0,q1,(qn 2),ns,b0,ns,ns,q1] true),(1,.cells [(pn 2 0),(pn 3 0),(pn 4 0),ns,q0] true),(2,.big [b1] pgK (wu (wu (wu (wu (wu (wu (wu (wu .zt 0 0 3) 1 0 2) 2 0 2) 3 0 1) 4 0 1) 5 0 1) 6 0 1) 7 0 3) 1024 [ns,q1,q0,q1,q0,(qn 2),q0,q0,q0,q0,q0,q0,q0,q0,q0] true),(3,.cells [b1,(.slice 5 (.lit 0) (.lit 2) 6 false)] true),(4,.big [(qn 10),q0,(qn 2),q0,(pn 6 0)] [(.int .i64)] .zt 1024 [] true),(5,.rows [(.int .i64),(.int .i64),(.int .i64),(.int .i64),.bool,(.int .i64)] (wu (wu (wu (wu (wu (wu (wu (wu .zt 0 0 (-1)) 0 1 20) 1 1 4096) 1 2 2) 1 5 2) 1 3 2) 0 5 2) 0 3 2) (.lit 2) true false),(6,.cells [(.slice 7 (.lit 0) (.lit 1024) 5 false),(.slice 8 (.lit 0) (.lit 1) 3 false),q0] true),(7,.rows [(.int .i64),(.int .i64),(.int .i64),(.int .i64),(.int .i64)] (.kt [0,0,-1,-1,-1]) (.lit 1024) true false),(8,.rows [(.int .i64),(.int .i64),(.int .i64)] (.kt [-1,-1,0]) (.lit 1) true false)]
 fresh:=[]
 post:=[]
def st3:Contract where
 fn:=157
 sorts:=[]
 args:=[(pn 0 0),(.agg [q0,(qn 8),q1,q1,q0,q1,q0,ns,b0,ns,ns,q1]),(qn 100),q1]
 mem:=[(0,.cells [(pn 1 0),(pn 2 0),(pn 3 0),ns,q0] true),(1,.big [b1] pgK (wu (wu (wu (wu (wu (wu (wu (wu .zt 0 0 3) 1 0 1) 2 0 1) 3 0 1) 4 0 1) 5 0 1) 6 0 1) 7 0 3) 1024 [ns,q1,q0,q0,q0,(qn 2),q0,q0,q0,q0,q0,q0,q0,q0,q0] true),(2,.cells [b1,(.slice 4 (.lit 0) (.lit 2) 6 false)] true),(3,.big [(qn 10),q0,(qn 2),q0,(pn 5 0)] [(.int .i64)] .zt 1024 [] true),(4,.rows [(.int .i64),(.int .i64),(.int .i64),(.int .i64),.bool,(.int .i64)] (wu (wu (wu .zt 0 0 (-1)) 0 1 20) 1 1 4096) (.lit 2) true false),(5,.cells [(.slice 6 (.lit 0) (.lit 1024) 5 false),(.slice 7 (.lit 0) (.lit 1) 3 false),q0] true),(6,.rows [(.int .i64),(.int .i64),(.int .i64),(.int .i64),(.int .i64)] (.kt [0,0,-1,-1,-1]) (.lit 1024) true false),(7,.rows [(.int .i64),(.int .i64),(.int .i64)] (.kt [-1,-1,0]) (.lit 1) true false)]
 nb:=8
 pre:=[]
 outs:=[]
 res:=(.tup [(.agg [q0,(qn 8),q1,q1,q0,q1,(qn 2),ns,b0,(.slice 8 (.lit 0) (.lit 1) 2 false),ns,q1]),(qn 64),q0])
 mods:=[(0,.cells [(pn 1 0),(pn 2 0),(pn 3 0),ns,q0] true),(1,.big [b1] pgK (wu (wu (wu (wu (wu (wu (wu (wu .zt 0 0 3) 1 0 2) 2 0 2) 3 0 1) 4 0 1) 5 0 1) 6 0 1) 7 0 3) 1024 [ns,q1,q0,q1,q0,(qn 2),q0,q0,q0,q0,q0,q0,q0,q0,q0] true),(2,.cells [b1,(.slice 4 (.lit 0) (.lit 2) 6 false)] true),(3,.big [(qn 10),q0,(qn 2),q0,(pn 5 0)] [(.int .i64)] .zt 1024 [] true),(4,.rows [(.int .i64),(.int .i64),(.int .i64),(.int .i64),.bool,(.int .i64)] (wu (wu (wu (wu (wu (wu (wu (wu .zt 0 0 (-1)) 0 1 20) 1 1 4096) 1 2 2) 1 5 2) 1 3 2) 0 5 2) 0 3 2) (.lit 2) true false),(5,.cells [(.slice 6 (.lit 0) (.lit 1024) 5 false),(.slice 7 (.lit 0) (.lit 1) 3 false),q0] true),(6,.rows [(.int .i64),(.int .i64),(.int .i64),(.int .i64),(.int .i64)] (.kt [0,0,-1,-1,-1]) (.lit 1024) true false),(7,.rows [(.int .i64),(.int .i64),(.int .i64)] (.kt [-1,-1,0]) (.lit 1) true false)]
 fresh:=[(8,.rows [(.int .i64),(.int .i64)] (wu (wu .zt 0 0 64) 0 1 100) (.lit 1) true false)]
 post:=[]
def st4:Contract where
 fn:=30
 sorts:=[]
 args:=[(pn 0 0),(.agg [(qn 3),(qn 65536),(qn 100),q1,q0])]
 mem:=[(0,.cells [(pn 1 0),(pn 2 0),q0,(pn 3 0),q0,(qn 8),q1,q1,q0,q1,q0,ns,b0,ns,ns,q1,q0,q0,q0,q0,q0,q0,q0,ns,b0,ns,ns,q0,q0,q0,q0,q0,q0,q0,q0,ns,b0,ns,ns,q0,q0,q0,q0,q0,q0,q0,q0,ns,b0,ns,ns,q0,q0,q0,q0,q0,q0,q0,q0,ns,b0,ns,ns,q0,q0,q0,q0,q0,q0,q0,q0,ns,b0,ns,ns,q0,q0,q0,q0,q0,q0,q0,q0,ns,b0,ns,ns,q0,q0,q0,q0,q0,q0,q0,q0,ns,b0,ns,ns,q0,q0,q0,q0,q0,q0,q0,q0,ns,b0,ns,ns,q0,q0,q0,q0,q0,q0,q0,q0,ns,b0,ns,ns,q0,q0,q0,q0,q0,q0,q0,q0,ns,b0,ns,ns,q0,q0,q0,q0,q0,q0,q0,q0,ns,b0,ns,ns,q0,q0,q0,q0,q0,q0,q0,q0,ns,b0,ns,ns,q0,q0,q0,q0,q0,q0,q0,q0,ns,b0,ns,ns,q0,q0,q0,q0,q0,q0,q0,q0,ns,b0,ns,ns,q0,q0,q0,q0,q0,q0,q0,q0,ns,b0,ns,ns,q0] true),(1,.cells [(pn 4 0),(pn 5 0),(pn 6 0),ns,q0] true),(2,.big [b1,(qn 10)] [(.int .u64)] (wu (wu (wu (wu (wu (wu (wu (wu (wu .zt 160 0 0) 152 0 1) 132 0 1) 114 0 1) 97 0 1) 80 0 4294967296) 64 0 65536) 48 0 256) 224 0 1) 352 [] true),(3,.cells [(.slice 7 (.lit 0) (.lit 16) 3 false),(qn 16),(.slice 8 (.lit 0) (.lit 1) 1 false),q1] true),(4,.big [b1] pgK (wu (wu (wu (wu (wu (wu (wu (wu .zt 0 0 3) 1 0 1) 2 0 1) 3 0 1) 4 0 1) 5 0 1) 6 0 1) 7 0 3) 1024 [ns,q1,q0,q0,q0,(qn 2),q0,q0,q0,q0,q0,q0,q0,q0,q0] true),(5,.cells [b1,(.slice 9 (.lit 0) (.lit 2) 6 false)] true),(6,.big [(qn 10),q0,(qn 2),q0,(pn 10 0)] [(.int .i64)] .zt 1024 [] true),(7,.rows [(.int .i64),.bool,(.int .i64)] (wu (wu .zt 0 0 1) 0 1 1) (.lit 16) true false),(8,.rows [(.int .u64)] (wu .zt 0 0 65534) (.lit 1) true false),(9,.rows [(.int .i64),(.int .i64),(.int .i64),(.int .i64),.bool,(.int .i64)] (wu (wu (wu .zt 0 0 (-1)) 0 1 20) 1 1 4096) (.lit 2) true false),(10,.cells [(.slice 11 (.lit 0) (.lit 1024) 5 false),(.slice 12 (.lit 0) (.lit 1) 3 false),q0] true),(11,.rows [(.int .i64),(.int .i64),(.int .i64),(.int .i64),(.int .i64)] (.kt [0,0,-1,-1,-1]) (.lit 1024) true false),(12,.rows [(.int .i64),(.int .i64),(.int .i64)] (.kt [-1,-1,0]) (.lit 1) true false)]
 nb:=13
 pre:=[]
 outs:=[]
 res:=(.agg [(qn 64),q0])
 mods:=[(0,.cells [(pn 1 0),(pn 2 0),q0,(pn 3 0),q0,(qn 8),q1,q1,q0,q1,(qn 2),ns,b0,(.slice 13 (.lit 0) (.lit 1) 2 false),ns,q1,q0,q0,q0,q0,q0,q0,q0,ns,b0,ns,ns,q0,q0,q0,q0,q0,q0,q0,q0,ns,b0,ns,ns,q0,q0,q0,q0,q0,q0,q0,q0,ns,b0,ns,ns,q0,q0,q0,q0,q0,q0,q0,q0,ns,b0,ns,ns,q0,q0,q0,q0,q0,q0,q0,q0,ns,b0,ns,ns,q0,q0,q0,q0,q0,q0,q0,q0,ns,b0,ns,ns,q0,q0,q0,q0,q0,q0,q0,q0,ns,b0,ns,ns,q0,q0,q0,q0,q0,q0,q0,q0,ns,b0,ns,ns,q0,q0,q0,q0,q0,q0,q0,q0,ns,b0,ns,ns,q0,q0,q0,q0,q0,q0,q0,q0,ns,b0,ns,ns,q0,q0,q0,q0,q0,q0,q0,q0,ns,b0,ns,ns,q0,q0,q0,q0,q0,q0,q0,q0,ns,b0,ns,ns,q0,q0,q0,q0,q0,q0,q0,q0,ns,b0,ns,ns,q0,q0,q0,q0,q0,q0,q0,q0,ns,b0,ns,ns,q0,q0,q0,q0,q0,q0,q0,q0,ns,b0,ns,ns,q0] true),(1,.cells [(pn 4 0),(pn 5 0),(pn 6 0),ns,q0] true),(2,.big [b1,(qn 10)] [(.int .u64)] (wu (wu (wu (wu (wu (wu (wu (wu (wu .zt 160 0 0) 152 0 1) 132 0 1) 114 0 1) 97 0 1) 80 0 4294967296) 64 0 65536) 48 0 256) 224 0 1) 352 [] true),(3,.cells [(.slice 7 (.lit 0) (.lit 16) 3 false),(qn 16),(.slice 8 (.lit 0) (.lit 1) 1 false),q1] true),(4,.big [b1] pgK (wu (wu (wu (wu (wu (wu (wu (wu .zt 0 0 3) 1 0 2) 2 0 2) 3 0 1) 4 0 1) 5 0 1) 6 0 1) 7 0 3) 1024 [ns,q1,q0,q1,q0,(qn 2),q0,q0,q0,q0,q0,q0,q0,q0,q0] true),(5,.cells [b1,(.slice 9 (.lit 0) (.lit 2) 6 false)] true),(6,.big [(qn 10),q0,(qn 2),q0,(pn 10 0)] [(.int .i64)] .zt 1024 [] true),(7,.rows [(.int .i64),.bool,(.int .i64)] (wu (wu .zt 0 0 1) 0 1 1) (.lit 16) true false),(8,.rows [(.int .u64)] (wu .zt 0 0 65534) (.lit 1) true false),(9,.rows [(.int .i64),(.int .i64),(.int .i64),(.int .i64),.bool,(.int .i64)] (wu (wu (wu (wu (wu (wu (wu (wu .zt 0 0 (-1)) 0 1 20) 1 1 4096) 1 2 2) 1 5 2) 1 3 2) 0 5 2) 0 3 2) (.lit 2) true false),(10,.cells [(.slice 11 (.lit 0) (.lit 1024) 5 false),(.slice 12 (.lit 0) (.lit 1) 3 false),q0] true),(11,.rows [(.int .i64),(.int .i64),(.int .i64),(.int .i64),(.int .i64)] (.kt [0,0,-1,-1,-1]) (.lit 1024) true false),(12,.rows [(.int .i64),(.int .i64),(.int .i64)] (.kt [-1,-1,0]) (.lit 1) true false)]
 fresh:=[(13,.rows [(.int .i64),(.int .i64)] (wu (wu .zt 0 0 64) 0 1 100) (.lit 1) true false)]
 post:=[]
def st5:Contract where
 fn:=212
 sorts:=[]
 args:=[(pn 0 0),(.agg [q0,(qn 8),q1,q1,q0,q1,q0,(.slice 1 (.lit 0) (.lit 1) 2 false),b0])]
 mem:=[(0,.cells [(pn 2 0),q0,(qn 8),q1,q1,q0,q1,(qn 2),ns,b0,(.slice 3 (.lit 0) (.lit 0) 2 false),ns,q1] true),(1,.rows [(.int .i64),(.int .i64)] (wu .zt 0 1 2) (.lit 1) true false),(2,.cells [(pn 4 0),(pn 5 0),(pn 6 0),ns,q0] true),(3,.rows [(.int .i64),(.int .i64)] .zt (.lit 0) true false),(4,.big [b1] pgK (wu (wu (wu (wu (wu (wu (wu (wu .zt 0 0 3) 1 0 2) 2 0 2) 3 0 1) 4 0 1) 5 0 1) 6 0 1) 7 0 3) 1024 [ns,q1,q0,q1,q0,(qn 2),q0,q0,q0,q0,q0,q0,q0,q0,q0] true),(5,.cells [b1,(.slice 7 (.lit 0) (.lit 2) 6 false)] true),(6,.big [(qn 10),q0,(qn 2),q0,(pn 8 0)] [(.int .i64)] .zt 1024 [] true),(7,.rows [(.int .i64),(.int .i64),(.int .i64),(.int .i64),.bool,(.int .i64)] (wu (wu (wu (wu (wu (wu (wu (wu .zt 0 0 (-1)) 0 1 20) 1 1 4096) 1 2 2) 1 5 2) 1 3 2) 0 5 2) 0 3 2) (.lit 2) true false),(8,.cells [(.slice 9 (.lit 0) (.lit 1024) 5 false),(.slice 10 (.lit 0) (.lit 1) 3 false),q0] true),(9,.rows [(.int .i64),(.int .i64),(.int .i64),(.int .i64),(.int .i64)] (.kt [0,0,-1,-1,-1]) (.lit 1024) true false),(10,.rows [(.int .i64),(.int .i64),(.int .i64)] (.kt [-1,-1,0]) (.lit 1) true false)]
 nb:=11
 pre:=[]
 outs:=[]
 res:=(.tup [])
 mods:=[(0,.cells [(pn 2 0),q0,(qn 8),q1,q1,q0,q1,q0,(.slice 1 (.lit 0) (.lit 1) 2 false),b0,(.slice 3 (.lit 0) (.lit 0) 2 false),ns,q1] true),(1,.rows [(.int .i64),(.int .i64)] (wu .zt 0 1 2) (.lit 1) true false),(2,.cells [(pn 4 0),(pn 5 0),(pn 6 0),ns,q0] true),(3,.rows [(.int .i64),(.int .i64)] .zt (.lit 0) true false),(4,.big [b1] pgK (wu (wu (wu (wu (wu (wu (wu (wu .zt 0 0 3) 1 0 2) 2 0 2) 3 0 1) 4 0 1) 5 0 1) 6 0 1) 7 0 3) 1024 [ns,q1,q0,q1,q0,(qn 2),q0,q0,q0,q0,q0,q0,q0,q0,q0] true),(5,.cells [b1,(.slice 7 (.lit 0) (.lit 2) 6 false)] true),(6,.big [(qn 10),q0,(qn 2),(qn 2),(pn 8 0)] [(.int .i64)] (wu (wu .zt 1 0 1) 2 0 2) 1024 [] true),(7,.rows [(.int .i64),(.int .i64),(.int .i64),(.int .i64),.bool,(.int .i64)] (wu (wu (wu (wu (wu (wu (wu (wu .zt 0 0 (-1)) 0 1 20) 1 1 4096) 1 2 2) 1 5 2) 1 3 2) 0 5 2) 0 3 2) (.lit 2) true false),(8,.cells [(.slice 9 (.lit 0) (.lit 1024) 5 false),(.slice 10 (.lit 0) (.lit 1) 3 false),q1] true),(9,.rows [(.int .i64),(.int .i64),(.int .i64),(.int .i64),(.int .i64)] (wu (wu (wu (wu (wu (wu (.kt [0,0,-1,-1,-1]) 0 0 1) 0 2 0) 1 0 2) 1 2 0) 1 4 0) 0 3 1) (.lit 1024) true false),(10,.rows [(.int .i64),(.int .i64),(.int .i64)] (wu (wu (wu (.kt [-1,-1,0]) 0 0 0) 0 1 1) 0 2 2) (.lit 1) true false)]
 fresh:=[]
 post:=[]
def st6:Contract where
 fn:=208
 sorts:=[]
 args:=[(pn 0 0),q0,q0]
 mem:=[(0,.cells [(pn 1 0),q0,(qn 8),q1,q1,q0,q1,(qn 2),ns,b0,(.slice 2 (.lit 0) (.lit 1) 2 false),ns,q1] true),(1,.cells [(pn 3 0),(pn 4 0),(pn 5 0),ns,q0] true),(2,.rows [(.int .i64),(.int .i64)] (wu (wu .zt 0 0 64) 0 1 100) (.lit 1) true false),(3,.big [b1] pgK (wu (wu (wu (wu (wu (wu (wu (wu .zt 0 0 3) 1 0 2) 2 0 2) 3 0 1) 4 0 1) 5 0 1) 6 0 1) 7 0 3) 1024 [ns,q1,q0,q1,q0,(qn 2),q0,q0,q0,q0,q0,q0,q0,q0,q0] true),(4,.cells [b1,(.slice 6 (.lit 0) (.lit 2) 6 false)] true),(5,.big [(qn 10),q0,(qn 2),q0,(pn 7 0)] [(.int .i64)] .zt 1024 [] true),(6,.rows [(.int .i64),(.int .i64),(.int .i64),(.int .i64),.bool,(.int .i64)] (wu (wu (wu (wu (wu (wu (wu (wu .zt 0 0 (-1)) 0 1 20) 1 1 4096) 1 2 2) 1 5 2) 1 3 2) 0 5 2) 0 3 2) (.lit 2) true false),(7,.cells [(.slice 8 (.lit 0) (.lit 1024) 5 false),(.slice 9 (.lit 0) (.lit 1) 3 false),q0] true),(8,.rows [(.int .i64),(.int .i64),(.int .i64),(.int .i64),(.int .i64)] (.kt [0,0,-1,-1,-1]) (.lit 1024) true false),(9,.rows [(.int .i64),(.int .i64),(.int .i64)] (.kt [-1,-1,0]) (.lit 1) true false)]
 nb:=10
 pre:=[]
 outs:=[]
 res:=(.agg [q0,(qn 8),q1,q1,q0,q1,q0,(.slice 10 (.lit 0) (.lit 1) 2 false),b0,(.slice 11 (.lit 0) (.lit 0) 2 false),ns,q1])
 mods:=[(0,.cells [(pn 1 0),q0,(qn 8),q1,q1,q0,q1,q0,(.slice 10 (.lit 0) (.lit 1) 2 false),b0,(.slice 11 (.lit 0) (.lit 0) 2 false),ns,q1] true),(1,.cells [(pn 3 0),(pn 4 0),(pn 5 0),ns,q0] true),(2,.rows [(.int .i64),(.int .i64)] (wu (wu .zt 0 0 64) 0 1 100) (.lit 1) true false),(3,.big [b1] pgK (wu (wu (wu (wu (wu (wu (wu (wu .zt 0 0 3) 1 0 2) 2 0 2) 3 0 1) 4 0 1) 5 0 1) 6 0 1) 7 0 3) 1024 [ns,q1,q0,q1,q0,(qn 2),q0,q0,q0,q0,q0,q0,q0,q0,q0] true),(4,.cells [b1,(.slice 6 (.lit 0) (.lit 2) 6 false)] true),(5,.big [(qn 10),q0,(qn 2),(qn 2),(pn 7 0)] [(.int .i64)] (wu (wu .zt 1 0 1) 2 0 2) 1024 [] true),(6,.rows [(.int .i64),(.int .i64),(.int .i64),(.int .i64),.bool,(.int .i64)] (wu (wu (wu (wu (wu (wu (wu (wu .zt 0 0 (-1)) 0 1 20) 1 1 4096) 1 2 2) 1 5 2) 1 3 2) 0 5 2) 0 3 2) (.lit 2) true false),(7,.cells [(.slice 8 (.lit 0) (.lit 1024) 5 false),(.slice 9 (.lit 0) (.lit 1) 3 false),q1] true),(8,.rows [(.int .i64),(.int .i64),(.int .i64),(.int .i64),(.int .i64)] (wu (wu (wu (wu (wu (wu (.kt [0,0,-1,-1,-1]) 0 0 1) 0 2 0) 1 0 2) 1 2 0) 1 4 0) 0 3 1) (.lit 1024) true false),(9,.rows [(.int .i64),(.int .i64),(.int .i64)] (wu (wu (wu (.kt [-1,-1,0]) 0 0 0) 0 1 1) 0 2 2) (.lit 1) true false)]
 fresh:=[(10,.rows [(.int .i64),(.int .i64)] (wu .zt 0 1 2) (.lit 1) true false),(11,.rows [(.int .i64),(.int .i64)] .zt (.lit 0) true false)]
 post:=[]
def st7:Contract where
 fn:=30
 sorts:=[]
 args:=[(pn 0 0),(.agg [(qn 6),(qn 65536),q0,q0,q0])]
 mem:=[(0,.cells [(pn 1 0),(pn 2 0),q0,(pn 3 0),q0,(qn 8),q1,q1,q0,q1,(qn 2),ns,b0,(.slice 4 (.lit 0) (.lit 1) 2 false),ns,q1,q0,q0,q0,q0,q0,q0,q0,ns,b0,ns,ns,q0,q0,q0,q0,q0,q0,q0,q0,ns,b0,ns,ns,q0,q0,q0,q0,q0,q0,q0,q0,ns,b0,ns,ns,q0,q0,q0,q0,q0,q0,q0,q0,ns,b0,ns,ns,q0,q0,q0,q0,q0,q0,q0,q0,ns,b0,ns,ns,q0,q0,q0,q0,q0,q0,q0,q0,ns,b0,ns,ns,q0,q0,q0,q0,q0,q0,q0,q0,ns,b0,ns,ns,q0,q0,q0,q0,q0,q0,q0,q0,ns,b0,ns,ns,q0,q0,q0,q0,q0,q0,q0,q0,ns,b0,ns,ns,q0,q0,q0,q0,q0,q0,q0,q0,ns,b0,ns,ns,q0,q0,q0,q0,q0,q0,q0,q0,ns,b0,ns,ns,q0,q0,q0,q0,q0,q0,q0,q0,ns,b0,ns,ns,q0,q0,q0,q0,q0,q0,q0,q0,ns,b0,ns,ns,q0,q0,q0,q0,q0,q0,q0,q0,ns,b0,ns,ns,q0,q0,q0,q0,q0,q0,q0,q0,ns,b0,ns,ns,q0] true),(1,.cells [(pn 5 0),(pn 6 0),(pn 7 0),ns,q0] true),(2,.big [b1,(qn 10)] [(.int .u64)] (wu (wu (wu (wu (wu (wu (wu (wu (wu .zt 160 0 0) 152 0 1) 132 0 1) 114 0 1) 97 0 1) 80 0 4294967296) 64 0 65536) 48 0 256) 224 0 1) 352 [] true),(3,.cells [(.slice 8 (.lit 0) (.lit 16) 3 false),(qn 16),(.slice 9 (.lit 0) (.lit 1) 1 false),q1] true),(4,.rows [(.int .i64),(.int .i64)] (wu (wu .zt 0 0 64) 0 1 100) (.lit 1) true false),(5,.big [b1] pgK (wu (wu (wu (wu (wu (wu (wu (wu .zt 0 0 3) 1 0 2) 2 0 2) 3 0 1) 4 0 1) 5 0 1) 6 0 1) 7 0 3) 1024 [ns,q1,q0,q1,q0,(qn 2),q0,q0,q0,q0,q0,q0,q0,q0,q0] true),(6,.cells [b1,(.slice 10 (.lit 0) (.lit 2) 6 false)] true),(7,.big [(qn 10),q0,(qn 2),q0,(pn 11 0)] [(.int .i64)] .zt 1024 [] true),(8,.rows [(.int .i64),.bool,(.int .i64)] (wu (wu .zt 0 0 1) 0 1 1) (.lit 16) true false),(9,.rows [(.int .u64)] (wu .zt 0 0 65534) (.lit 1) true false),(10,.rows [(.int .i64),(.int .i64),(.int .i64),(.int .i64),.bool,(.int .i64)] (wu (wu (wu (wu (wu (wu (wu (wu .zt 0 0 (-1)) 0 1 20) 1 1 4096) 1 2 2) 1 5 2) 1 3 2) 0 5 2) 0 3 2) (.lit 2) true false),(11,.cells [(.slice 12 (.lit 0) (.lit 1024) 5 false),(.slice 13 (.lit 0) (.lit 1) 3 false),q0] true),(12,.rows [(.int .i64),(.int .i64),(.int .i64),(.int .i64),(.int .i64)] (.kt [0,0,-1,-1,-1]) (.lit 1024) true false),(13,.rows [(.int .i64),(.int .i64),(.int .i64)] (.kt [-1,-1,0]) (.lit 1) true false)]
 nb:=14
 pre:=[]
 outs:=[]
 res:=(.agg [q0,q0])
 mods:=[(0,.cells [(pn 1 0),(pn 2 0),q0,(pn 3 0),q0,(qn 8),q1,q1,q0,q1,q0,(.slice 14 (.lit 0) (.lit 1) 2 false),b0,(.slice 15 (.lit 0) (.lit 0) 2 false),ns,q1,q0,q0,q0,q0,q0,q0,q0,ns,b0,ns,ns,q0,q0,q0,q0,q0,q0,q0,q0,ns,b0,ns,ns,q0,q0,q0,q0,q0,q0,q0,q0,ns,b0,ns,ns,q0,q0,q0,q0,q0,q0,q0,q0,ns,b0,ns,ns,q0,q0,q0,q0,q0,q0,q0,q0,ns,b0,ns,ns,q0,q0,q0,q0,q0,q0,q0,q0,ns,b0,ns,ns,q0,q0,q0,q0,q0,q0,q0,q0,ns,b0,ns,ns,q0,q0,q0,q0,q0,q0,q0,q0,ns,b0,ns,ns,q0,q0,q0,q0,q0,q0,q0,q0,ns,b0,ns,ns,q0,q0,q0,q0,q0,q0,q0,q0,ns,b0,ns,ns,q0,q0,q0,q0,q0,q0,q0,q0,ns,b0,ns,ns,q0,q0,q0,q0,q0,q0,q0,q0,ns,b0,ns,ns,q0,q0,q0,q0,q0,q0,q0,q0,ns,b0,ns,ns,q0,q0,q0,q0,q0,q0,q0,q0,ns,b0,ns,ns,q0,q0,q0,q0,q0,q0,q0,q0,ns,b0,ns,ns,q0] true),(1,.cells [(pn 5 0),(pn 6 0),(pn 7 0),ns,q0] true),(2,.big [b1,(qn 10)] [(.int .u64)] (wu (wu (wu (wu (wu (wu (wu (wu (wu .zt 160 0 0) 152 0 1) 132 0 1) 114 0 1) 97 0 1) 80 0 4294967296) 64 0 65536) 48 0 256) 224 0 1) 352 [] true),(3,.cells [(.slice 8 (.lit 0) (.lit 16) 3 false),(qn 16),(.slice 9 (.lit 0) (.lit 1) 1 false),q1] true),(4,.rows [(.int .i64),(.int .i64)] (wu (wu .zt 0 0 64) 0 1 100) (.lit 1) true false),(5,.big [b1] pgK (wu (wu (wu (wu (wu (wu (wu (wu .zt 0 0 3) 1 0 2) 2 0 2) 3 0 1) 4 0 1) 5 0 1) 6 0 1) 7 0 3) 1024 [ns,q1,q0,q1,q0,(qn 2),q0,q0,q0,q0,q0,q0,q0,q0,q0] true),(6,.cells [b1,(.slice 10 (.lit 0) (.lit 2) 6 false)] true),(7,.big [(qn 10),q0,(qn 2),(qn 2),(pn 11 0)] [(.int .i64)] (wu (wu .zt 1 0 1) 2 0 2) 1024 [] true),(8,.rows [(.int .i64),.bool,(.int .i64)] (wu (wu .zt 0 0 1) 0 1 1) (.lit 16) true false),(9,.rows [(.int .u64)] (wu .zt 0 0 65534) (.lit 1) true false),(10,.rows [(.int .i64),(.int .i64),(.int .i64),(.int .i64),.bool,(.int .i64)] (wu (wu (wu (wu (wu (wu (wu (wu .zt 0 0 (-1)) 0 1 20) 1 1 4096) 1 2 2) 1 5 2) 1 3 2) 0 5 2) 0 3 2) (.lit 2) true false),(11,.cells [(.slice 12 (.lit 0) (.lit 1024) 5 false),(.slice 13 (.lit 0) (.lit 1) 3 false),q1] true),(12,.rows [(.int .i64),(.int .i64),(.int .i64),(.int .i64),(.int .i64)] (wu (wu (wu (wu (wu (wu (.kt [0,0,-1,-1,-1]) 0 0 1) 0 2 0) 1 0 2) 1 2 0) 1 4 0) 0 3 1) (.lit 1024) true false),(13,.rows [(.int .i64),(.int .i64),(.int .i64)] (wu (wu (wu (.kt [-1,-1,0]) 0 0 0) 0 1 1) 0 2 2) (.lit 1) true false)]
 fresh:=[(14,.rows [(.int .i64),(.int .i64)] (wu .zt 0 1 2) (.lit 1) true false),(15,.rows [(.int .i64),(.int .i64)] .zt (.lit 0) true false)]
 post:=[]
def Co:Contract where
 fn:=31
 sorts:=[]
 args:=[(pn 0 0)]
 mem:=[(0,.cells [(pn 1 0),(pn 2 0),q0,(pn 3 0),q0,(qn 8),q1,q1,q0,q1,q0,(.slice 4 (.lit 0) (.lit 1) 2 false),b0,(.slice 5 (.lit 0) (.lit 0) 2 false),ns,q1,q0,q0,q0,q0,q0,q0,q0,ns,b0,ns,ns,q0,q0,q0,q0,q0,q0,q0,q0,ns,b0,ns,ns,q0,q0,q0,q0,q0,q0,q0,q0,ns,b0,ns,ns,q0,q0,q0,q0,q0,q0,q0,q0,ns,b0,ns,ns,q0,q0,q0,q0,q0,q0,q0,q0,ns,b0,ns,ns,q0,q0,q0,q0,q0,q0,q0,q0,ns,b0,ns,ns,q0,q0,q0,q0,q0,q0,q0,q0,ns,b0,ns,ns,q0,q0,q0,q0,q0,q0,q0,q0,ns,b0,ns,ns,q0,q0,q0,q0,q0,q0,q0,q0,ns,b0,ns,ns,q0,q0,q0,q0,q0,q0,q0,q0,ns,b0,ns,ns,q0,q0,q0,q0,q0,q0,q0,q0,ns,b0,ns,ns,q0,q0,q0,q0,q0,q0,q0,q0,ns,b0,ns,ns,q0,q0,q0,q0,q0,q0,q0,q0,ns,b0,ns,ns,q0,q0,q0,q0,q0,q0,q0,q0,ns,b0,ns,ns,q0,q0,q0,q0,q0,q0,q0,q0,ns,b0,ns,ns,q0] true),(1,.cells [(pn 6 0),(pn 7 0),(pn 8 0),ns,q0] true),(2,.big [b1,(qn 10)] [(.int .u64)] (wu (wu (wu (wu (wu (wu (wu (wu (wu .zt 160 0 0) 152 0 1) 132 0 1) 114 0 1) 97 0 1) 80 0 4294967296) 64 0 65536) 48 0 256) 224 0 1) 352 [] true),(3,.cells [(.slice 9 (.lit 0) (.lit 16) 3 false),(qn 16),(.slice 10 (.lit 0) (.lit 1) 1 false),q1] true),(4,.rows [(.int .i64),(.int .i64)] (wu .zt 0 1 2) (.lit 1) true false),(5,.rows [(.int .i64),(.int .i64)] .zt (.lit 0) true false),(6,.big [b1] pgK (wu (wu (wu (wu (wu (wu (wu (wu .zt 0 0 3) 1 0 2) 2 0 2) 3 0 1) 4 0 1) 5 0 1) 6 0 1) 7 0 3) 1024 [ns,q1,q0,q1,q0,(qn 2),q0,q0,q0,q0,q0,q0,q0,q0,q0] true),(7,.cells [b1,(.slice 11 (.lit 0) (.lit 2) 6 false)] true),(8,.big [(qn 10),q0,(qn 2),(qn 2),(pn 12 0)] [(.int .i64)] (wu (wu .zt 1 0 1) 2 0 2) 1024 [] true),(9,.rows [(.int .i64),.bool,(.int .i64)] (wu (wu .zt 0 0 1) 0 1 1) (.lit 16) true false),(10,.rows [(.int .u64)] (wu .zt 0 0 65534) (.lit 1) true false),(11,.rows [(.int .i64),(.int .i64),(.int .i64),(.int .i64),.bool,(.int .i64)] (wu (wu (wu (wu (wu (wu (wu (wu .zt 0 0 (-1)) 0 1 20) 1 1 4096) 1 2 2) 1 5 2) 1 3 2) 0 5 2) 0 3 2) (.lit 2) true false),(12,.cells [(.slice 13 (.lit 0) (.lit 1024) 5 false),(.slice 14 (.lit 0) (.lit 1) 3 false),q1] true),(13,.rows [(.int .i64),(.int .i64),(.int .i64),(.int .i64),(.int .i64)] (wu (wu (wu (wu (wu (wu (.kt [0,0,-1,-1,-1]) 0 0 1) 0 2 0) 1 0 2) 1 2 0) 1 4 0) 0 3 1) (.lit 1024) true false),(14,.rows [(.int .i64),(.int .i64),(.int .i64)] (wu (wu (wu (.kt [-1,-1,0]) 0 0 0) 0 1 1) 0 2 2) (.lit 1) true false)]
 nb:=15
 pre:=[]
 outs:=[]
 res:=(.agg [(.slice 15 (.lit 0) (.lit 4) 3 false),ns,ns,ns,q1,q0,q1,q0,(qn 2),q0,q0,q0,q0,q0,q0,q0,q0,q0,(qn 10),(.slice 16 (.lit 0) (.lit 1) 2 false),(.slice 17 (.lit 0) (.lit 2) 5 false),(qn 10),q0,(qn 2),(.slice 18 (.lit 0) (.lit 2) 2 false),ns,q0,(.slice 19 (.lit 0) (.lit 16) 1 false),(.slice 20 (.lit 0) (.lit 16) 1 false),(.slice 21 (.lit 0) (.lit 16) 1 false),q0,(qn 8),q1,q1,q0,q1,q0,(.slice 22 (.lit 0) (.lit 1) 2 false),b0,(.slice 23 (.lit 0) (.lit 0) 2 false),ns,q1,q0,q0,q0,q0,q0,q0,q0,ns,b0,ns,ns,q0,q0,q0,q0,q0,q0,q0,q0,ns,b0,ns,ns,q0,q0,q0,q0,q0,q0,q0,q0,ns,b0,ns,ns,q0,q0,q0,q0,q0,q0,q0,q0,ns,b0,ns,ns,q0,q0,q0,q0,q0,q0,q0,q0,ns,b0,ns,ns,q0,q0,q0,q0,q0,q0,q0,q0,ns,b0,ns,ns,q0,q0,q0,q0,q0,q0,q0,q0,ns,b0,ns,ns,q0,q0,q0,q0,q0,q0,q0,q0,ns,b0,ns,ns,q0,q0,q0,q0,q0,q0,q0,q0,ns,b0,ns,ns,q0,q0,q0,q0,q0,q0,q0,q0,ns,b0,ns,ns,q0,q0,q0,q0,q0,q0,q0,q0,ns,b0,ns,ns,q0,q0,q0,q0,q0,q0,q0,q0,ns,b0,ns,ns,q0,q0,q0,q0,q0,q0,q0,q0,ns,b0,ns,ns,q0,q0,q0,q0,q0,q0,q0,q0,ns,b0,ns,ns,q0,q0,q0,q0,q0,q0,q0,q0,ns,b0,ns,ns,q0])
 mods:=[(0,.cells [(pn 1 0),(pn 2 0),q0,(pn 3 0),q0,(qn 8),q1,q1,q0,q1,q0,(.slice 4 (.lit 0) (.lit 1) 2 false),b0,(.slice 5 (.lit 0) (.lit 0) 2 false),ns,q1,q0,q0,q0,q0,q0,q0,q0,ns,b0,ns,ns,q0,q0,q0,q0,q0,q0,q0,q0,ns,b0,ns,ns,q0,q0,q0,q0,q0,q0,q0,q0,ns,b0,ns,ns,q0,q0,q0,q0,q0,q0,q0,q0,ns,b0,ns,ns,q0,q0,q0,q0,q0,q0,q0,q0,ns,b0,ns,ns,q0,q0,q0,q0,q0,q0,q0,q0,ns,b0,ns,ns,q0,q0,q0,q0,q0,q0,q0,q0,ns,b0,ns,ns,q0,q0,q0,q0,q0,q0,q0,q0,ns,b0,ns,ns,q0,q0,q0,q0,q0,q0,q0,q0,ns,b0,ns,ns,q0,q0,q0,q0,q0,q0,q0,q0,ns,b0,ns,ns,q0,q0,q0,q0,q0,q0,q0,q0,ns,b0,ns,ns,q0,q0,q0,q0,q0,q0,q0,q0,ns,b0,ns,ns,q0,q0,q0,q0,q0,q0,q0,q0,ns,b0,ns,ns,q0,q0,q0,q0,q0,q0,q0,q0,ns,b0,ns,ns,q0,q0,q0,q0,q0,q0,q0,q0,ns,b0,ns,ns,q0] true),(1,.cells [(pn 6 0),(pn 7 0),(pn 8 0),ns,q0] true),(2,.big [b1,(qn 10)] [(.int .u64)] (wu (wu (wu (wu (wu (wu (wu (wu (wu .zt 160 0 0) 152 0 1) 132 0 1) 114 0 1) 97 0 1) 80 0 4294967296) 64 0 65536) 48 0 256) 224 0 1) 352 [] true),(3,.cells [(.slice 9 (.lit 0) (.lit 16) 3 false),(qn 16),(.slice 10 (.lit 0) (.lit 1) 1 false),q1] true),(4,.rows [(.int .i64),(.int .i64)] (wu .zt 0 1 2) (.lit 1) true false),(5,.rows [(.int .i64),(.int .i64)] .zt (.lit 0) true false),(6,.big [b1] pgK (wu (wu (wu (wu (wu (wu (wu (wu .zt 0 0 3) 1 0 2) 2 0 2) 3 0 1) 4 0 1) 5 0 1) 6 0 1) 7 0 3) 1024 [ns,q1,q0,q1,q0,(qn 2),q0,q0,q0,q0,q0,q0,q0,q0,q0] true),(7,.cells [b1,(.slice 11 (.lit 0) (.lit 2) 6 false)] true),(8,.big [(qn 10),q0,(qn 2),(qn 2),(pn 12 0)] [(.int .i64)] (wu (wu .zt 1 0 1) 2 0 2) 1024 [] true),(9,.rows [(.int .i64),.bool,(.int .i64)] (wu (wu .zt 0 0 1) 0 1 1) (.lit 16) true false),(10,.rows [(.int .u64)] (wu .zt 0 0 65534) (.lit 1) true false),(11,.rows [(.int .i64),(.int .i64),(.int .i64),(.int .i64),.bool,(.int .i64)] (wu (wu (wu (wu (wu (wu (wu (wu .zt 0 0 (-1)) 0 1 20) 1 1 4096) 1 2 2) 1 5 2) 1 3 2) 0 5 2) 0 3 2) (.lit 2) true false),(12,.cells [(.slice 13 (.lit 0) (.lit 1024) 5 false),(.slice 14 (.lit 0) (.lit 1) 3 false),q1] true),(13,.rows [(.int .i64),(.int .i64),(.int .i64),(.int .i64),(.int .i64)] (wu (wu (wu (wu (wu (wu (.kt [0,0,-1,-1,-1]) 0 0 1) 0 2 0) 1 0 2) 1 2 0) 1 4 0) 0 3 1) (.lit 1024) true false),(14,.rows [(.int .i64),(.int .i64),(.int .i64)] (wu (wu (wu (.kt [-1,-1,0]) 0 0 0) 0 1 1) 0 2 2) (.lit 1) true false)]
 fresh:=[(15,.rows [(.int .i64),(.int .i64),(.int .i64)] (wu (wu (wu (wu (wu (wu (wu (wu (wu (wu (wu .zt 0 1 1) 0 2 3) 1 0 1) 1 1 2) 1 2 2) 2 0 3) 2 1 4) 2 2 1) 3 0 7) 3 1 1) 3 2 3) (.lit 4) true false),(16,.rows [(.int .i64),(.int .i64)] (wu .zt 0 1 3) (.lit 1) true false),(17,.rows [(.int .i64),(.int .i64),(.int .i64),(.int .i64),.bool] (wu (wu (wu (wu (wu (wu .zt 0 0 (-1)) 0 1 20) 0 3 2) 1 1 4096) 1 2 2) 1 3 2) (.lit 2) true false),(18,.rows [(.int .i64),(.int .i64)] (wu (wu .zt 0 0 1) 1 0 2) (.lit 2) true false),(19,.rows [(.int .i64)] (wu .zt 0 0 1) (.lit 16) true false),(20,.rows [.bool] (wu .zt 0 0 1) (.lit 16) true false),(21,.rows [(.int .i64)] .zt (.lit 16) true false),(22,.rows [(.int .i64),(.int .i64)] (wu .zt 0 1 2) (.lit 1) true false),(23,.rows [(.int .i64),(.int .i64)] .zt (.lit 0) true false)]
 post:=[]
def Ci:Contract where
 fn:=15
 sorts:=[]
 args:=[]
 mem:=[]
 nb:=0
 pre:=[]
 outs:=[]
 res:=(.tup [(.agg [(.slice 0 (.lit 0) (.lit 4) 3 false),ns,ns,ns,q1,q0,q1,q0,(qn 2),q0,q0,q0,q0,q0,q0,q0,q0,q0,(qn 10),(.slice 1 (.lit 0) (.lit 1) 2 false),(.slice 2 (.lit 0) (.lit 2) 5 false),(qn 10),q0,(qn 2),(.slice 3 (.lit 0) (.lit 2) 2 false),ns,q0,(.slice 4 (.lit 0) (.lit 16) 1 false),(.slice 5 (.lit 0) (.lit 16) 1 false),(.slice 6 (.lit 0) (.lit 16) 1 false),q0,(qn 8),q1,q1,q0,q1,q0,(.slice 7 (.lit 0) (.lit 1) 2 false),b0,(.slice 8 (.lit 0) (.lit 0) 2 false),ns,q1,q0,q0,q0,q0,q0,q0,q0,ns,b0,ns,ns,q0,q0,q0,q0,q0,q0,q0,q0,ns,b0,ns,ns,q0,q0,q0,q0,q0,q0,q0,q0,ns,b0,ns,ns,q0,q0,q0,q0,q0,q0,q0,q0,ns,b0,ns,ns,q0,q0,q0,q0,q0,q0,q0,q0,ns,b0,ns,ns,q0,q0,q0,q0,q0,q0,q0,q0,ns,b0,ns,ns,q0,q0,q0,q0,q0,q0,q0,q0,ns,b0,ns,ns,q0,q0,q0,q0,q0,q0,q0,q0,ns,b0,ns,ns,q0,q0,q0,q0,q0,q0,q0,q0,ns,b0,ns,ns,q0,q0,q0,q0,q0,q0,q0,q0,ns,b0,ns,ns,q0,q0,q0,q0,q0,q0,q0,q0,ns,b0,ns,ns,q0,q0,q0,q0,q0,q0,q0,q0,ns,b0,ns,ns,q0,q0,q0,q0,q0,q0,q0,q0,ns,b0,ns,ns,q0,q0,q0,q0,q0,q0,q0,q0,ns,b0,ns,ns,q0,q0,q0,q0,q0,q0,q0,q0,ns,b0,ns,ns,q0]),b1])
 mods:=[]
 fresh:=[(0,.rows [(.int .i64),(.int .i64),(.int .i64)] (wu (wu (wu (wu (wu (wu (wu (wu (wu (wu (wu .zt 0 1 1) 0 2 3) 1 0 1) 1 1 2) 1 2 2) 2 0 3) 2 1 4) 2 2 1) 3 0 7) 3 1 1) 3 2 3) (.lit 4) true false),(1,.rows [(.int .i64),(.int .i64)] (wu .zt 0 1 3) (.lit 1) true false),(2,.rows [(.int .i64),(.int .i64),(.int .i64),(.int .i64),.bool] (wu (wu (wu (wu (wu (wu .zt 0 0 (-1)) 0 1 20) 0 3 2) 1 1 4096) 1 2 2) 1 3 2) (.lit 2) true false),(3,.rows [(.int .i64),(.int .i64)] (wu (wu .zt 0 0 1) 1 0 2) (.lit 2) true false),(4,.rows [(.int .i64)] (wu .zt 0 0 1) (.lit 16) true false),(5,.rows [.bool] (wu .zt 0 0 1) (.lit 16) true false),(6,.rows [(.int .i64)] .zt (.lit 16) true false),(7,.rows [(.int .i64),(.int .i64)] (wu .zt 0 1 2) (.lit 1) true false),(8,.rows [(.int .i64),(.int .i64)] .zt (.lit 0) true false)]
 post:=[]
def Cu:Contract where
 fn:=9
 sorts:=[]
 args:=[(.agg [(.slice 0 (.lit 0) (.lit 4) 3 false),ns,ns,ns,q1,q0,q1,q0,(qn 2),q0,q0,q0,q0,q0,q0,q0,q0,q0,(qn 10),(.slice 1 (.lit 0) (.lit 1) 2 false),(.slice 2 (.lit 0) (.lit 2) 5 false),(qn 10),q0,(qn 2),(.slice 3 (.lit 0) (.lit 2) 2 false),ns,q0,(.slice 4 (.lit 0) (.lit 16) 1 false),(.slice 5 (.lit 0) (.lit 16) 1 false),(.slice 6 (.lit 0) (.lit 16) 1 false),q0,(qn 8),q1,q1,q0,q1,q0,(.slice 7 (.lit 0) (.lit 1) 2 false),b0,(.slice 8 (.lit 0) (.lit 0) 2 false),ns,q1,q0,q0,q0,q0,q0,q0,q0,ns,b0,ns,ns,q0,q0,q0,q0,q0,q0,q0,q0,ns,b0,ns,ns,q0,q0,q0,q0,q0,q0,q0,q0,ns,b0,ns,ns,q0,q0,q0,q0,q0,q0,q0,q0,ns,b0,ns,ns,q0,q0,q0,q0,q0,q0,q0,q0,ns,b0,ns,ns,q0,q0,q0,q0,q0,q0,q0,q0,ns,b0,ns,ns,q0,q0,q0,q0,q0,q0,q0,q0,ns,b0,ns,ns,q0,q0,q0,q0,q0,q0,q0,q0,ns,b0,ns,ns,q0,q0,q0,q0,q0,q0,q0,q0,ns,b0,ns,ns,q0,q0,q0,q0,q0,q0,q0,q0,ns,b0,ns,ns,q0,q0,q0,q0,q0,q0,q0,q0,ns,b0,ns,ns,q0,q0,q0,q0,q0,q0,q0,q0,ns,b0,ns,ns,q0,q0,q0,q0,q0,q0,q0,q0,ns,b0,ns,ns,q0,q0,q0,q0,q0,q0,q0,q0,ns,b0,ns,ns,q0,q0,q0,q0,q0,q0,q0,q0,ns,b0,ns,ns,q0]),(.agg [(qn 8),q0,q0,(qn 5)])]
 mem:=[(0,.rows [(.int .i64),(.int .i64),(.int .i64)] (wu (wu (wu (wu (wu (wu (wu (wu (wu (wu (wu .zt 0 1 1) 0 2 3) 1 0 1) 1 1 2) 1 2 2) 2 0 3) 2 1 4) 2 2 1) 3 0 7) 3 1 1) 3 2 3) (.lit 4) true false),(1,.rows [(.int .i64),(.int .i64)] (wu .zt 0 1 3) (.lit 1) true false),(2,.rows [(.int .i64),(.int .i64),(.int .i64),(.int .i64),.bool] (wu (wu (wu (wu (wu (wu .zt 0 0 (-1)) 0 1 20) 0 3 2) 1 1 4096) 1 2 2) 1 3 2) (.lit 2) true false),(3,.rows [(.int .i64),(.int .i64)] (wu (wu .zt 0 0 1) 1 0 2) (.lit 2) true false),(4,.rows [(.int .i64)] (wu .zt 0 0 1) (.lit 16) true false),(5,.rows [.bool] (wu .zt 0 0 1) (.lit 16) true false),(6,.rows [(.int .i64)] .zt (.lit 16) true false),(7,.rows [(.int .i64),(.int .i64)] (wu .zt 0 1 2) (.lit 1) true false),(8,.rows [(.int .i64),(.int .i64)] .zt (.lit 0) true false)]
 nb:=9
 pre:=[]
 outs:=[]
 res:=(.tup [(.agg [(.slice 9 (.lit 0) (.lit 4) 3 false),ns,ns,ns,q1,q0,q1,q0,(qn 2),q0,q0,q0,q0,q0,q0,q0,q0,q0,(qn 10),(.slice 10 (.lit 0) (.lit 1) 2 false),(.slice 11 (.lit 0) (.lit 2) 5 false),(qn 10),q0,(qn 2),(.slice 12 (.lit 0) (.lit 2) 2 false),ns,q0,(.slice 13 (.lit 0) (.lit 16) 1 false),(.slice 14 (.lit 0) (.lit 16) 1 false),(.slice 15 (.lit 0) (.lit 16) 1 false),q0,(qn 8),q1,q1,q0,q1,q0,(.slice 16 (.lit 0) (.lit 1) 2 false),b0,(.slice 17 (.lit 0) (.lit 0) 2 false),ns,q1,q0,q0,q0,q0,q0,q0,q0,ns,b0,ns,ns,q0,q0,q0,q0,q0,q0,q0,q0,ns,b0,ns,ns,q0,q0,q0,q0,q0,q0,q0,q0,ns,b0,ns,ns,q0,q0,q0,q0,q0,q0,q0,q0,ns,b0,ns,ns,q0,q0,q0,q0,q0,q0,q0,q0,ns,b0,ns,ns,q0,q0,q0,q0,q0,q0,q0,q0,ns,b0,ns,ns,q0,q0,q0,q0,q0,q0,q0,q0,ns,b0,ns,ns,q0,q0,q0,q0,q0,q0,q0,q0,ns,b0,ns,ns,q0,q0,q0,q0,q0,q0,q0,q0,ns,b0,ns,ns,q0,q0,q0,q0,q0,q0,q0,q0,ns,b0,ns,ns,q0,q0,q0,q0,q0,q0,q0,q0,ns,b0,ns,ns,q0,q0,q0,q0,q0,q0,q0,q0,ns,b0,ns,ns,q0,q0,q0,q0,q0,q0,q0,q0,ns,b0,ns,ns,q0,q0,q0,q0,q0,q0,q0,q0,ns,b0,ns,ns,q0,q0,q0,q0,q0,q0,q0,q0,ns,b0,ns,ns,q0]),q1,q0])
 mods:=[(0,.rows [(.int .i64),(.int .i64),(.int .i64)] (wu (wu (wu (wu (wu (wu (wu (wu (wu (wu (wu .zt 0 1 1) 0 2 3) 1 0 1) 1 1 2) 1 2 2) 2 0 3) 2 1 4) 2 2 1) 3 0 7) 3 1 1) 3 2 3) (.lit 4) true false),(1,.rows [(.int .i64),(.int .i64)] (wu .zt 0 1 3) (.lit 1) true false),(2,.rows [(.int .i64),(.int .i64),(.int .i64),(.int .i64),.bool] (wu (wu (wu (wu (wu (wu .zt 0 0 (-1)) 0 1 20) 0 3 2) 1 1 4096) 1 2 2) 1 3 2) (.lit 2) true false),(3,.rows [(.int .i64),(.int .i64)] (wu (wu .zt 0 0 1) 1 0 2) (.lit 2) true false),(4,.rows [(.int .i64)] (wu .zt 0 0 1) (.lit 16) true false),(5,.rows [.bool] (wu .zt 0 0 1) (.lit 16) true false),(6,.rows [(.int .i64)] .zt (.lit 16) true false),(7,.rows [(.int .i64),(.int .i64)] (wu .zt 0 1 2) (.lit 1) true false),(8,.rows [(.int .i64),(.int .i64)] .zt (.lit 0) true false)]
 fresh:=[(9,.rows [(.int .i64),(.int .i64),(.int .i64)] (wu (wu (wu (wu (wu (wu (wu (wu (wu (wu (wu .zt 0 1 1) 0 2 3) 1 0 1) 1 1 2) 1 2 2) 2 0 3) 2 1 4) 2 2 1) 3 0 7) 3 1 1) 3 2 3) (.lit 4) true false),(10,.rows [(.int .i64),(.int .i64)] (wu .zt 0 1 3) (.lit 1) true false),(11,.rows [(.int .i64),(.int .i64),(.int .i64),(.int .i64),.bool] (wu (wu (wu (wu (wu (wu .zt 0 0 (-1)) 0 1 20) 0 3 2) 1 1 4096) 1 2 2) 1 3 2) (.lit 2) true false),(12,.rows [(.int .i64),(.int .i64)] (wu (wu .zt 0 0 5) 1 0 2) (.lit 2) true false),(13,.rows [(.int .i64)] (wu .zt 0 0 1) (.lit 16) true false),(14,.rows [.bool] (wu .zt 0 0 1) (.lit 16) true false),(15,.rows [(.int .i64)] .zt (.lit 16) true false),(16,.rows [(.int .i64),(.int .i64)] (wu .zt 0 1 2) (.lit 1) true false),(17,.rows [(.int .i64),(.int .i64)] .zt (.lit 0) true false)]
 post:=[]
def wS (P:Program) (l:List Contract):Cx:={ P,cs:=l++loops,dJ:=[],kn:=kn }
def TN:Contract:={ c0 with fn:=7,res:=.bool (.lit 1) }
end Go.Mg
