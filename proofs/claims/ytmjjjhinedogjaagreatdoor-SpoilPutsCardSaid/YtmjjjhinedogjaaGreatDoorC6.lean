/-
  Contracts of spoil.Differ and of a list's equality. Conditions: none.
-/
import Derived.Test.YtmjjjhinedogjaaGreatDoorC5
import Derived.Test.YtmjjjhinedogjaaGreatDoorC4
import Derived.Test.YtmjjjhinedogjaaGreatDoorC2
import Derived.Test.YtmjjjhinedogjaaGreatDoorC3
import Derived.Test.YtmjjjhinedogjaaGreatDoorC1
noncomputable section
namespace Go.Sp
open Go Go.Sx
def Ua:Contract:={ KN with fn:=28,args:=[.slice 0 (.lit 0) (.var 1) 4 true,.slice 1 (.lit 0) (.var 3) 4 true] }
def qxO:Ann:={ Bu with fn:=28,keep:=[0,1,4,12],tmps:=[(13,iv 4)] }
def MR:Contract:={ o7 with fn:=13 }
def qjC:Ann where
 fn:=13
 bid:=0
 keep:=[6,7,37,38]
 tmps:=[(39,iv 567),(8,.slice 124 (.lit 0) (v 569) 4 true)]
 drop:=[]
 mem:=[(124,.rows dw (v 568) (v 569) true true)]
 sorts:=[false,true,false]
 nbl:=1
 inv:=[le (.lit 0) (v 567),le (v 567) (v 563),le (.lit 0) (v 569),.pr 53 [v 562,v 564,v 567,v 568,v 569]]
 meas:=.bin .sub (v 563) (v 567)
def qqr (P:Program):Cx:={ x0 P with dJ:=[qxO] }
def UR (P:Program):Cx:={ x0 P with cs:=[kS,Ua],dJ:=[qjC] }
end Go.Sp
end
noncomputable section
namespace Go.Sp
open Go Go.Sx
def qqF:Tree:=(.assume (.tt (.bin .le (.lit 0) (.var 1))) (.assume (.tt (.bin .le (.lit 0) (.var 3))) (.assume (.rng .i64 (.var 1)) (.assume (.rng .i64 (.var 3)) (.branch (.bin .eq (.bin .eq (.var 1) (.var 3)) (.lit 0)) (.assert (.pr 25 [.var 0,.var 1,.var 2,.var 3,(.lit 0)]) .ok) (.assert (.pr 52 [.var 0,.var 2,(.lit 0)]) (.qp false (.assume (.tt (.bin .le (.lit 0) (.var 4))) (.assume (.tt (.bin .le (.var 4) (.var 1))) (.assume (.pr 52 [.var 0,.var 2,.var 4]) (.branch (.bin .lt (.var 4) (.var 1)) (.assert (.tt (.bin .lt (.var 4) (.var 3))) (.branch (.bin .eq (.bin .and (.bin .eq (.sel (.var 0) (.var 4) 0) (.sel (.var 2) (.var 4) 0)) (.bin .and (.bin .eq (.sel (.var 0) (.var 4) 1) (.sel (.var 2) (.var 4) 1)) (.bin .and (.bin .eq (.sel (.var 0) (.var 4) 2) (.sel (.var 2) (.var 4) 2)) (.bin .and (.bin .eq (.sel (.var 0) (.var 4) 3) (.sel (.var 2) (.var 4) 3)) (.lit 1))))) (.lit 0)) (.assert (.pr 25 [.var 0,.var 1,.var 2,.var 3,(.lit 0)]) .ok) (.assert (.rng .i64 (.bin .add (.var 4) (.lit 1))) (.assert (.tt (.bin .le (.lit 0) (.bin .add (.var 4) (.lit 1)))) (.assert (.tt (.bin .le (.bin .add (.var 4) (.lit 1)) (.var 1))) (.assert (.pr 52 [.var 0,.var 2,(.bin .add (.var 4) (.lit 1))]) (.assert (.tt (.bin .le (.lit 0) (.bin .sub (.var 1) (.bin .add (.var 4) (.lit 1))))) (.assert (.tt (.bin .lt (.bin .sub (.var 1) (.bin .add (.var 4) (.lit 1))) (.bin .sub (.var 1) (.var 4)))) .ok)))))))) (.assert (.pr 25 [.var 0,.var 1,.var 2,.var 3,(.lit 1)]) .ok))))))))))))
def Rv:Tree:=(.assume (.pr 31 (rgs 0 281 [])) (.assume (.pr 31 (rgs 281 281 [])) (.qp true (.qp false (.assume (.pr 24 (rgs 0 281 [.var 562,.var 563])) (.qp true (.qp false (.assume (.pr 24 (rgs 281 281 [.var 564,.var 565])) (.branch (.bin .eq (.bin .eq (.var 563) (.var 565)) (.lit 0)) (.assert (.pr 40 (rgs 0 562 [.zt,(.lit 0),(.lit 6)])) .ok) (.assert (.tt (.bin .le (.lit 0) (.var 7))) (.assert (.tt (.bin .le (.lit 0) (.var 288))) (.assert (.rng .i64 (.var 7)) (.assert (.rng .i64 (.var 288)) (.qp false (.assume (.pr 25 [.var 6,.var 7,.var 287,.var 288,.var 566]) (.branch (.bin .eq (.var 566) (.lit 0)) (.assert (.pr 40 (rgs 0 562 [.zt,(.lit 0),(.lit 6)])) .ok) (.assert (.tt (.bin .le (.lit 0) (.var 563))) (.assert (.pr 53 [.var 562,.var 564,(.lit 0),.zt,(.lit 0)]) (.qp false (.qp true (.qp false (.assume (.tt (.bin .le (.lit 0) (.var 567))) (.assume (.tt (.bin .le (.var 567) (.var 563))) (.assume (.tt (.bin .le (.lit 0) (.var 569))) (.assume (.pr 53 [.var 562,.var 564,.var 567,.var 568,.var 569]) (.branch (.bin .lt (.var 567) (.var 563)) (.assert (.tt (.bin .lt (.var 567) (.var 565))) (.branch (.bin .and (.bin .eq (.sel (.var 562) (.var 567) 0) (.sel (.var 564) (.var 567) 0)) (.bin .and (.bin .eq (.sel (.var 562) (.var 567) 1) (.sel (.var 564) (.var 567) 1)) (.bin .and (.bin .eq (.sel (.var 562) (.var 567) 2) (.sel (.var 564) (.var 567) 2)) (.bin .and (.bin .eq (.sel (.var 562) (.var 567) 3) (.sel (.var 564) (.var 567) 3)) (.lit 1))))) (.assert (.rng .i64 (.bin .add (.var 567) (.lit 1))) (.assert (.tt (.bin .le (.lit 0) (.bin .add (.var 567) (.lit 1)))) (.assert (.tt (.bin .le (.bin .add (.var 567) (.lit 1)) (.var 563))) (.assert (.pr 53 [.var 562,.var 564,(.bin .add (.var 567) (.lit 1)),.var 568,.var 569]) (.assert (.tt (.bin .le (.lit 0) (.bin .sub (.var 563) (.bin .add (.var 567) (.lit 1))))) (.assert (.tt (.bin .lt (.bin .sub (.var 563) (.bin .add (.var 567) (.lit 1))) (.bin .sub (.var 563) (.var 567)))) .ok)))))) (.branch (.bin .eq (.bin .and (.bin .eq (.sel (.var 562) (.var 567) 0) (.sel (.var 564) (.var 567) 0)) (.bin .and (.bin .eq (.sel (.var 562) (.var 567) 1) (.sel (.var 564) (.var 567) 1)) (.bin .and (.bin .eq (.sel (.var 562) (.var 567) 2) (.sel (.var 564) (.var 567) 2)) (.bin .and (.bin .eq (.sel (.var 564) (.var 567) 3) (.sel (.var 564) (.var 567) 3)) (.lit 1))))) (.lit 0)) (.assert (.pr 40 (rgs 0 562 [.zt,(.lit 0),(.lit 6)])) .ok) (.assert (.tt (.bin .le (.bin .add (.var 569) (.lit 1)) (.lit 1000000))) (.assert (.rng .i64 (.bin .add (.var 567) (.lit 1))) (.assert (.tt (.bin .le (.lit 0) (.bin .add (.var 567) (.lit 1)))) (.assert (.tt (.bin .le (.bin .add (.var 567) (.lit 1)) (.var 563))) (.assert (.tt (.bin .le (.lit 0) (.bin .add (.var 569) (.lit 1)))) (.assert (.pr 53 [.var 562,.var 564,(.bin .add (.var 567) (.lit 1)),(.upd (.upd (.upd (.upd (.var 568) (.var 569) 0 (.sel (.var 564) (.var 567) 0)) (.var 569) 1 (.sel (.var 564) (.var 567) 1)) (.var 569) 2 (.sel (.var 564) (.var 567) 2)) (.var 569) 3 (.sel (.var 564) (.var 567) 3)),(.bin .add (.var 569) (.lit 1))]) (.assert (.tt (.bin .le (.lit 0) (.bin .sub (.var 563) (.bin .add (.var 567) (.lit 1))))) (.assert (.tt (.bin .lt (.bin .sub (.var 563) (.bin .add (.var 567) (.lit 1))) (.bin .sub (.var 563) (.var 567)))) .ok))))))))))) (.assert (.pr 40 (rgs 0 562 [.var 568,.var 569,(.lit 0)])) .ok)))))))))))))))))))))))))))
end Go.Sp
end
noncomputable section
set_option linter.unusedSimpArgs false
namespace Go.Sp
open Go Go.Sx
theorem qkG:∀env,Sorts Ua.sorts env->qqF.vc JI env:=UL
set_option maxRecDepth 100000 in
set_option maxHeartbeats 4000000 in
theorem qqV:∀env,Sorts MR.sorts env->Rv.vc JI env:=by
 intro env h;obtain ⟨S,T,rfl,hS,hT⟩:=zB (l:=stS) (m:=stS) h;have hS:St S:=⟨hS⟩;have hT:St T:=⟨hT⟩;rw [<-List.append_nil T]
 simp (disch:=first | decide | omega) only [Rv,Tree.vc,E.den,BO.ev,hS.i,hS.t,hS.r,qg,Option.some.injEq,exists_eq_left',List.take_succ_cons,List.take_zero,List.cons_append,List.nil_append,D.i.injEq,D.t.injEq,forall_eq',and_true,gD,bE,
   Nat.reduceSub,List.getElem?_cons_zero,List.getElem?_cons_succ,bN,dP,yE,wZ,pF,pR,wV,yI,wX,vV,gL,fC,List.append_assoc,q0 hS,q1 hS,q2 hS,q3 hS,p20 hS,p21 hS,p22 hS,p23 hS,p24 hS,p31 hS,p31' hS,p32 hS,p33 hS,p34 hS,p35 hS,p51 hS,hT.i,hT.t,hT.r,qq0 hS hT,qq3 hS hT,qT hS hT,p31 hT,p31' hT,p24 hT,p40 hS hT,p41 hS hT,p53,p25,QS]
 clear h;intro hs ht A n hA B m hB;rw [oK,imax];have a7:=hs.a7;have b7:=ht.a7;have no:¬okD S T->0<=(0:Int)/\((6:Int)=0/\okD S T/\qF (fun x x_1=>0) 0=dX (j6 S) (j6 T)\/True/\True/\¬okD S T):=fun h=>⟨Int.le_refl _,Or.inr ⟨trivial,trivial,h⟩⟩
 have ln:n=m->okD S T->∀r:Int,0<=r->r<n->A r 0=B r 0/\A r 1=B r 1/\A r 2=B r 2:=by
   rintro rfl h;have:=h.1;rw [<-hA.2,<-hB.2] at this;exact nQ.1 this
 have la:=all_le hs;rw [<-hA.2,zK] at la;refine ⟨fun h=>no fun e=>h ?_,fun h=>⟨a7.1,b7.1,⟨by omega,by omega⟩,⟨by omega,by omega⟩,fun w hw=>⟨fun h0=>no fun e=>hw.2 e.2 h0,fun h0=>⟨hA.1,⟨fun r h1 h2=>by omega,rfl⟩,fun i F d i0 i1 d0 hd=>⟨fun hl=>⟨by omega,fun c0=>?_,fun c0=>⟨fun c1=>no fun e=>c1 ?_,fun c1=>?_⟩⟩,fun hl=>?_⟩⟩⟩⟩⟩
 . have:=iC e.1;rw [<-hA.2,<-hB.2,zK,zK] at this;omega
 . obtain ⟨q0,q1,q2,q3,_⟩:=c0;refine ⟨⟨by omega,by omega⟩,by omega,by omega,⟨fun r r0 r1=>?_,?_⟩,by omega,by omega⟩
   . by_cases e:r=i
     . subst e;exact ⟨q0,q1,q2⟩
     . exact hd.1 r r0 (by omega)
   . rw [lN i0,if_pos q3,List.append_nil,hd.2]
 . have:=ln (Classical.not_not.1 h) e i i0 hl;exact ⟨this.1,this.2.1,this.2.2,trivial,by omega⟩
 . obtain ⟨q0,q1,q2,_,_⟩:=Classical.not_not.1 c1;have c3:¬A i 3=B i 3:=fun q3=>c0 ⟨q0,q1,q2,q3,by omega⟩;have ld:=tY (l:=qF A i) (m:=qF B i);rw [<-hd.2,zK,zK] at ld;refine ⟨by omega,⟨by omega,by omega⟩,by omega,by omega,by omega,⟨fun r r0 r1=>?_,?_⟩,by omega,by omega⟩
   . by_cases e:r=i
     . subst e;exact ⟨q0,q1,q2⟩
     . exact hd.1 r r0 (by omega)
   . rw [vo d0,lN i0,if_neg c3,hd.2]
 . have e:i=n:=by omega
   subst e;have h:=Classical.not_not.1 h;subst h;exact ⟨d0,Or.inl ⟨trivial,⟨by rw [<-hA.2,<-hB.2];exact nQ.2 hd.1,hw.1 h0⟩,by rw [<-hA.2,<-hB.2];exact hd.2⟩⟩
end Go.Sp
end
noncomputable section
namespace Go.Sp
open Go Go.Sx
end Go.Sp
end
noncomputable section
namespace Go.Sp
open Go Go.Sx
def OE (S f T:Nat) (t:Tree):Tree:=sN (stS++[false,false]) (.assume (.pr 29 (rgs S 281 (v f::v (f+1)::v (f+2)::v (f+3)::rgs T 283 []))) t)
end Go.Sp
end
noncomputable section
set_option linter.unusedSimpArgs false
namespace Go.Sp
open Go Go.Sx
variable {S A B U W:List D}
section
variable {k i f to k2 i2 f2 to2:Int} (h1:kD S k i f to A) (h3:kD A k2 i2 f2 to2 U) (hne:¬(k=k2/\i=i2/\f=f2)) (hk:1<=k/\k<=16) (hk2:1<=k2/\k2<=16) (hh:zo S k i f=true) (hh2:zo S k2 i2 f2=true)
include h1 h3 hne hk hk2 hh hh2
end
end Go.Sp
noncomputable section
set_option linter.unusedSimpArgs false
namespace Go.Sp
open Go Go.Sx
theorem MI {env X Y:List D} {a:Nat} (h:At env a (X++Y)):At env a X:=by
 obtain ⟨p,r,e,hp⟩:=h;exact ⟨p,Y++r,by rw [e];simp,hp⟩
theorem ME {env T:List D} {a:Nat} {x y:D} (hT:St T) (h:At env a (T++[x,y])) {m:Nat} (hm:m=a+281):(v m).den JI env=some x:=
 h.v (i:=281) (by rw [List.getElem?_append_right (by rw [hT.len];omega),hT.len];rfl) hm
theorem MO {env T:List D} {a:Nat} {x y:D} (hT:St T) (h:At env a (T++[x,y])) {m:Nat} (hm:m=a+282):(v m).den JI env=some y:=
 h.v (i:=282) (by rw [List.getElem?_append_right (by rw [hT.len];omega),hT.len];rfl) hm
theorem Hf {env S:List D} {s f T:Nat} {t:Tree} {k i q to:Int} (hS:St S) (hL:env.length=T) (aS:At env s S) (af:At env f [.i k,.i i,.i q,.i to])
   (H:∀U was e,St U->CB S k i q to U was e->t.vc JI (env++(U++[.i was,.i e]))):(OE s f T t).vc JI env:=by
 refine Qw fun ds hds h29=>?_;obtain ⟨U,was,e,hU,rfl⟩:=Nb hds;have hU:St U:=⟨hU⟩;refine H U was e hU ?_;have aU:At (env++(U++[.i was,.i e])) T (U++[.i was,.i e]):=hL ▸ At.new _ _;have bf:=af.more (U++[.i was,.i e]);obtain ⟨x,q1,q2⟩:=h29;rw [(aS.more _).qg hS.len] at q1;simp only [qg,bf.v (i:=0) rfl (m:=f) rfl,bf.v (i:=1) rfl (m:=f+1) rfl,bf.v (i:=2) rfl (m:=f+2) rfl,bf.v (i:=3) rfl (m:=f+3) rfl,aU.qg (show (U++[D.i was,.i e]).length=283 by simp [hU.len]),Option.map_some,Option.some.injEq,List.append_nil] at q1;subst q1;exact (p29 hS hU.len).1 (by simpa using q2)
theorem kF {env:List D} {i:Nat} {e:Int} {a b:Tree} (h:(v i).den JI env=some (.i e)) (h1:e≠0->a.vc JI env) (h2:e=0->b.vc JI env):(Tree.branch (isOk i) a b).vc JI env:=
 gN (Eu h) (fun k=>h1 fun e=>k (by rw [if_pos e])) fun k=>h2 (Classical.byContradiction fun e=>by rw [if_neg e] at k;cases k)
theorem H7 {env:List D} {c:E} {x:Int} {a b:Tree} (h:c.den JI env=some (.i x)) (h1:x=0->a.vc JI env) (h2:x≠0->b.vc JI env):(Tree.branch (notE c) a b).vc JI env:=
 gN (Du h) (fun k=>h1 (Classical.byContradiction fun e=>k (if_neg e))) fun k=>h2 fun e=>by rw [if_pos e] at k;cases k
section
variable {k i f to k2 i2 f2 to2:Int}
def two (c d:Bool) (p q:Pl):List Pl:=(bif c then [] else [p])++(bif d then [] else [q])
end
end Go.Sp
noncomputable section
namespace Go.Sp
open Go Go.Sx
end Go.Sp
end
noncomputable section
namespace Go.Sp
open Go Go.Sx
def Bb:Contract:={ Pp with fn:=12 }
def zL (k:Int):Contract:={ Bb with pre:=[.pr 31 (vs 0),.rng .i64 (v (NV+3)),.same (v NV) (.lit k)] }
def Bd:Contract:={ Bb with pre:=[.pr 31 (vs 0),.rng .i64 (v (NV+3)),.ff (.bin .le (.lit 1) (v NV))] }
def Bf:Contract:={ Bb with pre:=[.pr 31 (vs 0),.rng .i64 (v (NV+3)),.tt (.bin .le (.lit 1) (v NV)),.ff (.bin .le (v NV) (.lit 16))] }
def MP:Contract:={ KN with fn:=14,args:=[.slice 0 (.lit 0) (.var 1) 4 true,.slice 1 (.lit 0) (.var 3) 4 true] }
def qjS:Ann:={ Bu with fn:=14,keep:=[0,1,4],tmps:=[(5,iv 4)] }
def UM (P:Program):Cx:={ x0 P with dJ:=[qjS] }
def knR:Kn:={ kn0 with arr:=(164,7)::(170,2)::kn0.arr }
def jE (P:Program):Cx:={ x0 P with kn:=knR,cs:=[Bn,Wj,KR] }
def aRZ:Ann where
 fn:=8
 bid:=0
 keep:=[1,2]
 tmps:=[(3,iv 287)]
 drop:=[80]
 mem:=[(80,.rows iY (v 288) (v 33) true true)]
 sorts:=[false,true]
 nbl:=0
 inv:=[le (.lit 0) (v 287),le (v 287) (v 33),.pr 50 [v 32,v 33,v 288],.pr 55 [v 287,v 282,.lit 9]]
 meas:=.bin .sub (v 33) (v 287)
 split:=some (3,v 282,80,[])
 leave:=true
def qw8:E:=j5 [.int .i64,.int .i64] (.sel (v 288) (v 282) 1)
def qxA:Ann where
 fn:=8
 bid:=0
 keep:=[1,2]
 tmps:=[(3,iv 289)]
 drop:=[80]
 mem:=[(80,.ovr iY (v 290) (v 33) (v 282) [.int .i64 (.sel (v 288) (v 282) 0),.slice 83 (.lit 0) qw8 2 false] true true)]
 sorts:=[false,true]
 nbl:=0
 inv:=[lt (v 282) (v 289),le (v 289) (v 33),.pr 50 [v 32,v 33,v 290]]
 meas:=.bin .sub (v 33) (v 289)
def qqs (P:Program):Cx:={ x0 P with kn:=knR,cs:=[Bn,Wj],dJ:=[aRZ,qxA] }
def TH:Contract where
 fn:=4
 sorts:=stS++(stS++[false,false,false,false])
 args:=[.agg (stA 0 0),.agg (stA NV NB),.agg [iv N2,iv (N2+1),iv (N2+2),iv (N2+3)]]
 mem:=stM false 0 0++stM false NV NB
 nb:=118
 pre:=[.pr 58 (vs 0),.pr 58 (vs NV),.rng .i64 (v (N2+3))]
 outs:=[]
 res:=.bool (.lit 1)
 mods:=[]
 fresh:=[]
 post:=[]
def UN (P:Program):Cx:={ x0 P with cs:=[Ue,Pp,Bb,KP,o7,MR,MP,cAw] }
end Go.Sp
end
noncomputable section
namespace Go.Sp
open Go Go.Sx
def qy4 (k:Int) (body:Tree):Tree:=
 .assume (.pr 31 (rgs 0 281 [])) (.assume (.rng .i64 to') (.assume (.same k' (n0 k)) (.qp false (.assume (.pr 22 (rgs 0 281 [n0 k,i',f',v 285]))
   (br .eq (v 285) (n0 0) (BG (n0 k) 4) (.assert (.pr 32 (rgs 0 281 [n0 k,i',f'])) (.qp false (.assume (.pr 23 (rgs 0 281 [n0 k,i',f',v 286])) body))))))))
def ES (k lo hi:Int) (t:Tree):Tree:=br .lt to' (n0 lo) (BG (n0 k) 7) (br .lt (n0 hi) to' (BG (n0 k) 7) t)
def NA (k lo hi:Int) (t:Tree):Tree:=ES k lo hi (.qp true (.assume (.pr 50 [v 32,v 33,v 287]) t))
def wide (k:Int) (t:Tree):Tree:=NA k (-9223372036854775808) 9223372036854775807 t
def fD (k:Int) (c:Nat) (e:E):Tree:=.assert (.pr 29 (tJ (n0 k) (qqI 287 c e++[v 286,n0 0]))) .ok
def ix (e:E) (n:Nat) (t:Tree):Tree:=.assert (le (n0 0) e) (.assert (lt e (v n)) t)
def noT (e:E) (n:Int) (t:Tree):Tree:=.assert (le (n0 0) e) (.assert (lt e (n0 n)) t)
def noI (e:E) (n:Int) (m:Nat):Tree:=noT e n (.fail m)
def chR (e:E) (n:Nat) (g:Nat->Tree):Tree:=chain e g (noI e n 70) n
def Dx (k:Int) (t c:Nat):Tree:=fD k t (.upd (v t) i' c to')
def arL (t:Tree) (g:Nat->Tree):Tree:=chain i' g (noT i' 16 t) 16
def arR (g:Nat->Tree):Tree:=arL (.fail 20) g
def hR:E:=.bin (.bits 6 .i64) f' (n0 2)
def mR:E:=.bin .tmod f' (n0 2)
def prR (k:Int) (t:Nat):Tree:=ix hR (t+1) (chR mR 2 fun j=>fD k t (.upd (v t) hR j to'))
def prB (k:Int) (t:Nat):Tree:=br .eq mR (n0 0) (ix hR (t+1) (fD k t (.upd (v t) hR 0 to'))) (ix hR (t+1) (fD k t (.upd (v t) hR 1 to')))
def sR (k:Int) (t n:Nat):Tree:=ix i' n (Dx k t 0)
def s7R:E:=.bin .sub f' (n0 7)
def UZ (n:E) (t:Tree):Tree:=.assert (le n (n0 1000000)) t
def p9:List Nat->Tree->Tree
 | [],K=>K
 | t::l,K=>UZ (v (t+1)) (p9 l K)
def Rf (w:Nat) (r:E) (K:Tree):Tree:=UZ (n9 w r) (.assert (le (n9 w r) (n9 w r)) (.assert (.rng .i64 (plus r (n0 1))) K))
def NR:E:=n9 288 i'
def TR:E:=t9 288 i'
def VN (p l:E):Tree:=.assert (le NR NR) (.assert (.pr 29 (tJ (n0 9) ((rg 0 281).set 32 (.upd (.upd (v 290) i' 0 p) i' 1 (.fn 1016 l NR (.lit 2) (.lit 0)))++[v 286,n0 0]))) .ok)
def f1R:E:=minus f' (n0 1)
def h9R:E:=.bin (.bits 6 .i64) f1R (n0 2)
def m9R:E:=.bin .tmod f1R (n0 2)
def Ug (a:Tree) (g:Nat->Tree):Tree:=br .eq f' (n0 0) a (.assert (.rng .i64 f1R) (.assert (le (n0 0) h9R) (.assert (lt h9R NR) (chR m9R 2 g))))
def R3:Tree:=
 UZ NR (.assert (.rng .i64 (plus i' (n0 1))) (.assert (lt i' (plus i' (n0 1))) (.assert (le (plus i' (n0 1)) (v 33))
 (.qp false (.qp true (.assume (lt i' (v 289)) (.assume (le (v 289) (v 33)) (.assume (.pr 50 [v 32,v 33,v 290])
 (br .lt (v 289) (v 33)
   (.assert (le (n0 0) (v 289)) (.assert (.tt (.bin .ne (v 289) i')) (Rf 290 (v 289) (.assert (lt i' (plus (v 289) (n0 1))) (Pk 290 (v 289) (WH (v 289)))))))
   (p9 clA (Ug (VN to' TR) fun c=>VN (.sel (v 288) i' 0) (.upd TR h9R c to'))))))))))))
def RO:Tree:=br .lt (v 287) (v 33)
 (Rf 288 (v 287) (.assert (le (n0 0) (plus (v 287) (n0 1))) (Pk 288 (v 287) (.assert (.pr 55 [plus (v 287) (n0 1),i',n0 9]) (WH (v 287))))))
 (p9 clA (ix i' 33 (Ug (.assert (.pr 29 (tJ (n0 9) ((rg 0 281).set 32 (.upd (v 288) i' 0 to')++[v 286,n0 0]))) .ok) fun _=>.fail 70)))
def qqw:Tree:=ES 9 (-9223372036854775808) 9223372036854775807 (p9 [0,2,4,6,23,25,30,32]
 (.assert (le (n0 0) (v 33)) (.assert (.pr 50 [v 32,v 33,v 32]) (.assert (.pr 55 [n0 0,i',n0 9]) (.qp false (.qp true (.assume (le (n0 0) (v 287)) (.assume (le (v 287) (v 33)) (.assume (.pr 50 [v 32,v 33,v 288]) (.assume (.pr 55 [v 287,i',n0 9])
 (.branch (.bin .and (.bin .eq (v 287) i') (.bin .and (.bin .le (n0 0) i') (.bin .lt i' (v 33)))) R3 RO)))))))))))
def xE (k:Nat):Tree:=
 match k with
 | 1=>wide 1 (ix i' 1 (chR f' 3 (Dx 1 0)))
 | 2=>wide 2 (sR 2 2 3)
 | 3=>br .lt f' (n0 64) (NA 3 0 255 (ix i' 5 (chain f' (fun j=>fD 3 4 (.upd (v 4) i' (j+1) (.wrap .u8 to'))) (.fail 70) 64))) (wide 3 (sR 3 4 5))
 | 4=>wide 4 (ix i' 24 (chR f' 2 (Dx 4 23)))
 | 5=>wide 5 (fD 5 22 to')
 | 6=>br .eq f' (n0 4) (NA 6 0 1 (ix i' 26 (fD 6 25 (.upd (v 25) i' 4 isT)))) (wide 6 (ix i' 26 (chR f' 4 (Dx 6 25))))
 | 7=>wide 7 (br .eq f' (n0 0) (fD 7 27 to') (br .eq f' (n0 1) (fD 7 29 to') (fD 7 28 to')))
 | 8=>wide 8 (br .eq f' (n0 0) (ix i' 31 (Dx 8 30 0)) (ix i' 31 (Dx 8 30 1)))
 | 9=>qqw
 | 10=>wide 10 (fD 10 34 to')
 | 11=>br .eq f' (n0 1) (NA 11 0 1 (br .eq f' (n0 0) (sR 11 35 36) (ix i' 38 (fD 11 37 (.upd (v 37) i' 0 isT))))) (wide 11 (br .eq f' (n0 0) (sR 11 35 36) (sR 11 39 40)))
 | 12=>br .eq f' (n0 7) (NA 12 0 1 (arR fun j=>fD 12 (50+15*j) isT)) (wide 12 (arL (br .eq f' (n0 8) (.fail 20) (chain f' (fun _=>.fail 70) (noI f' 7 70) 7)) fun j=>br .eq f' (n0 8) (fD 12 (55+15*j) to') (chR f' 7 fun m=>fD 12 (41+15*j+m) to')))
 | 13=>wide 13 (arR fun j=>prR 13 (48+15*j))
 | 14=>wide 14 (arR fun j=>prR 14 (51+15*j))
 | 15=>wide 15 (arL (br .eq mR (n0 0) (.fail 70) (.fail 20)) fun j=>prB 15 (53+15*j))
 | 16=>wide 16 (br .lt f' (n0 7) (chain f' (fun j=>fD 16 (8+j) to') (.assert (le (n0 0) f') (.fail 70)) 7) (.assert (.rng .i64 s7R) (chR s7R 7 fun j=>fD 16 (15+j) to')))
 | _=>.ok
def kR (k:Nat):Tree:=qy4 k (xE k)
def U1:Tree:=.assume (.pr 31 (rgs 0 281 [])) (.assume (.rng .i64 to') (.assume (.ff (.bin .le (.lit 1) k')) (zer 2)))
def U2:Tree:=.assume (.pr 31 (rgs 0 281 [])) (.assume (.rng .i64 to') (.assume (.tt (.bin .le (.lit 1) k')) (.assume (.ff (.bin .le k' (.lit 16))) (zer 2))))
end Go.Sp
end
noncomputable section
set_option linter.unusedSimpArgs false
namespace Go.Sp
open Go Go.Sx
variable {S:List D} {k i f to:Int}
structure Ew (S:List D) (k i f to:Int) (n:Nat) (env:List D):Prop where
 en:En S k i f to n env
 was:env[286]?=some (.i (qh S k i f))
 has:zo S k i f=true
 k1:1<=k/\k<=16
structure Ev (S:List D) (k i f to:Int) (g:Int->Nat->Int) (env:List D):Prop where
 en:En S k i f to 288 env
 was:env[286]?=some (.i (qh S k i f))
 has:zo S k i f=true
 k1:1<=k/\k<=16
 tab:env[287]?=some (.t g)
 z:jq (gt S 32) (gi S 33) g
 fit:qM k f to
theorem Me {env:List D} {n:Nat} (h:Ew S k i f to n env) {lo hi:Int} {t:Tree} (hn:¬(lo<=to/\to<=hi)->¬qM k f to) (ht:lo<=to->to<=hi->t.vc JI env):(ES k lo hi t).vc JI env:=by
 have z:¬qM k f to->(BG (n0 k) 7).vc JI env:=fun hf=>Zr h.en dl (.inr ⟨h.k1,.inr ⟨h.has,.inl ⟨hf,rfl⟩⟩⟩) (by decide);exact wU h.en.dto dl (fun e=>z (hn (by omega))) fun e=>wU dl h.en.dto (fun e2=>z (hn (by omega))) fun e2=>ht (by omega) (by omega)
theorem oF {env:List D} (h:Ew S k i f to 287 env) {lo hi:Int} {t:Tree} (hn:¬(lo<=to/\to<=hi)->¬qM k f to) (hy:lo<=to->to<=hi->qM k f to) (ht:∀g env,Ev S k i f to g env->t.vc JI env):(NA k lo hi t).vc JI env:=by
 refine Me h hn fun a b g hp=>?_;have e2:=h.en.more [.t g] (m:=288) rfl;refine ht g _ ⟨e2,jf (e:=.var 286) h.was,h.has,h.k1,h.en.last (.t g),?_,hy a b⟩;obtain ⟨ds,e1,e3⟩:=hp;have d1:(E.var 287).den JI (env++[.t g])=some (.t g):=h.en.last (.t g);simp only [v,qg,e2.gT (m:=32) (by decide),e2.gI (m:=33) (by decide),d1,Option.some.injEq] at e1;subst e1;exact e3
theorem kU {env:List D} (h:Ew S k i f to 287 env) {t:Tree} (h1:¬(k=3/\f<64)) (h2:¬(k=6/\f=4\/k=11/\f=1\/k=12/\f=7)) (ht:∀g env,Ev S k i f to g env->t.vc JI env):(wide k t).vc JI env:=
 oF h (fun x=>(x h.en.rg).elim) (fun _ _=>jA h.en h1 h2) ht
section
variable {env:List D} {g:Int->Nat->Int} (h:Ev S k i f to g env)
include h
theorem Ev.VF {c:Nat} {e:E} {y:Int} (he:e.den JI env=some (.i y)) (hp:kD S k i f to (toI S g c y)):(fD k c e).vc JI env:=
 ⟨Df h.en (kE:=n0 k) dl (kP he (kP (e:=.var 287) h.tab h.en.all)) (by simp [h.en.st.len]) (w:=v 286) h.was dl ⟨.inr ⟨h.k1,.inr ⟨h.has,.inr ⟨h.fit,rfl⟩⟩⟩,fun _=>⟨rfl,hp⟩,fun x=>(x rfl).elim⟩,trivial⟩
theorem Ev.vU {c:Nat} {e:E} {y:Int->Nat->Int} (he:e.den JI env=some (.t y)) (hp:kD S k i f to (toT S g c y)):(fD k c e).vc JI env:=
 ⟨Df h.en (kE:=n0 k) dl (kP he (kP (e:=.var 287) h.tab h.en.all)) (by simp [h.en.st.len]) (w:=v 286) h.was dl ⟨.inr ⟨h.k1,.inr ⟨h.has,.inr ⟨h.fit,rfl⟩⟩⟩,fun _=>⟨rfl,hp⟩,fun x=>(x rfl).elim⟩,trivial⟩
theorem Ev.upd {t c:Nat} (ht:stS[t]?=some true) {r e:E} {x y:Int} (hr:r.den JI env=some (.i x)) (he:e.den JI env=some (.i y)):(E.upd (v t) r c e).den JI env=some (.t (qd (gt S t) x c y)):=bF (t:=.var t) (h.en.gT ht) hr he
theorem Ev.row {t c:Nat} (ht:stS[t]?=some true) (hp:kD S k i f to (toT S g t (qd (gt S t) i c to))):(Dx k t c).vc JI env:=h.vU (h.upd ht h.en.di h.en.dto) hp
theorem Ev.ix {n:Nat} {t:Tree} (hn:stS[n]?=some false) (h1:i<gi S n) (ht:t.vc JI env):(ix i' n t).vc JI env:=
 ⟨ku dl h.en.di (qZ h.has).1,pX h.en.di (h.en.gI hn) h1,ht⟩
theorem Ev.isT:isT.den JI env=some (.i (if to=1 then 1 else 0)):=by
 have:=h.en.dto;simp only [Go.Sp.isT,n0,E.den,BO.ev] at this ⊢;simp only [this]
theorem Ev.ch {n:Nat} {G:Nat->Tree} {last:Tree} (f1:f<n) (hv:∀j:Nat,j<n->f=j->(G j).vc JI env):(chain f' G last n).vc JI env:=xU h.en.df (qZ h.has).2.2.1 f1 hv
theorem Ev.ar {G:Nat->Tree} {last:Tree} (i1:i<16) (hv:∀j:Nat,j<16->i=j->(G j).vc JI env):(arL last G).vc JI env:=xU h.en.di (qZ h.has).1 i1 hv
end
theorem yB (h:zo S k i f=true):f<qj S k i:=(qZ h).2.2.2.1
theorem je (h:zo S k i f=true):i<qz S k:=(qZ h).2.1
theorem aP:∀j,j<16->∀c,c<15->stS[41+15*j+c]?=arS[c]?:=by decide
theorem rk1 {env:List D} (h:Ew S 1 i f to 287 env):(xE 1).vc JI env:=
 kU h (by omega) (by omega) fun g env e=>e.ix (by decide) (je e.has) (e.ch (n:=3) (yB e.has) fun j hj hf=>by subst hf;exact e.row (by decide) (Iw e.en.st e.en.sm e.z hj e.fit))
theorem rk2 {env:List D} (h:Ew S 2 i f to 287 env):(xE 2).vc JI env:=
 kU h (by omega) (by omega) fun g env e=>e.ix (by decide) (je e.has) (by
   have f0:=(qZ e.has).2.2.1;have f1:f<1:=yB e.has;have:f=0:=by omega
   subst this;exact e.row (by decide) (Ik e.en.st e.en.sm e.z e.fit))
theorem rk4 {env:List D} (h:Ew S 4 i f to 287 env):(xE 4).vc JI env:=
 kU h (by omega) (by omega) fun g env e=>e.ix (by decide) (je e.has) (e.ch (n:=2) (yB e.has) fun j hj hf=>by subst hf;exact e.row (by decide) (Iq e.en.st e.en.sm e.z hj e.fit))
theorem rk5 {env:List D} (h:Ew S 5 i f to 287 env):(xE 5).vc JI env:=
 kU h (by omega) (by omega) fun g env e=>by
   have f0:=(qZ e.has).2.2.1;have f1:f<1:=yB e.has;have i0:=(qZ e.has).1;have i1:i<1:=je e.has;have:f=0:=by omega
   subst this;have:i=0:=by omega
   subst this;exact e.VF e.en.dto (qqO e.en.st e.en.sm e.z e.fit)
theorem qk9 {env:List D} (h:Ew S 10 i f to 287 env):(xE 10).vc JI env:=
 kU h (by omega) (by omega) fun g env e=>by
   have f0:=(qZ e.has).2.2.1;have f1:f<1:=yB e.has;have i0:=(qZ e.has).1;have i1:i<1:=je e.has;have:f=0:=by omega
   subst this;have:i=0:=by omega
   subst this;exact e.VF e.en.dto (Ih e.en.st e.en.sm e.z e.fit)
theorem rk8 {env:List D} (h:Ew S 8 i f to 287 env):(xE 8).vc JI env:=
 kU h (by omega) (by omega) fun g env e=>by
   have f0:=(qZ e.has).2.2.1;have f1:f<2:=yB e.has;refine jF e.en.df dl (fun q=>?_) fun q=>?_
   . subst q;exact e.ix (by decide) (je e.has) (e.row (by decide) (RH (m:=0) e.en.st e.en.sm e.z (by decide) e.fit))
   . have:f=1:=by omega
     subst this;exact e.ix (by decide) (je e.has) (e.row (by decide) (RH (m:=1) e.en.st e.en.sm e.z (by decide) e.fit))
theorem rk7 {env:List D} (h:Ew S 7 i f to 287 env):(xE 7).vc JI env:=
 kU h (by omega) (by omega) fun g env e=>by
   have f0:=(qZ e.has).2.2.1;have f1:f<3:=yB e.has;have i0:=(qZ e.has).1;have i1:i<1:=je e.has;have:i=0:=by omega
   subst this;have L:∀{c:Nat},(f=0/\c=27\/f=1/\c=29\/f=2/\c=28)->(fD 7 c to').vc JI env:=fun hc=>e.VF e.en.dto (CP e.en.st e.en.sm e.z hc e.fit);exact jF e.en.df dl (fun q=>L (by omega)) fun q=>jF e.en.df dl (fun q=>L (by omega)) fun q=>L (by omega)
theorem rk6 {env:List D} (h:Ew S 6 i f to 287 env):(xE 6).vc JI env:=by
 refine jF h.en.df dl (fun q=>?_) fun q=>?_
 . subst q;refine oF h (fun x y=>x (y.2.1 (by omega))) (fun a b=>Kl h.en (by decide) ⟨a,b⟩) fun g env e=>e.ix (by decide) (je e.has) ?_;exact e.vU (e.upd (by decide) e.en.di e.isT) (U9 e.en.st e.en.sm e.z e.fit)
 . refine kU h (by omega) (by omega) fun g env e=>e.ix (by decide) (je e.has) (e.ch (n:=4) ?_ fun j hj hf=>?_)
   . have f1:f<5:=yB e.has;omega
   . subst hf;exact e.row (by decide) (U8 e.en.st e.en.sm e.z hj e.fit)
theorem rk3 {env:List D} (h:Ew S 3 i f to 287 env):(xE 3).vc JI env:=by
 refine wU h.en.df dl (fun q=>?_) fun q=>?_
 . refine oF h (fun x y=>x (y.1 ⟨rfl,q⟩)) (fun a b=>⟨fun _=>⟨a,b⟩,fun x=>by omega,h.en.rg⟩) fun g env e=>e.ix (by decide) (je e.has) (e.ch (n:=64) q fun j hj hf=>?_);subst hf
   have ew:(E.wrap .u8 to').den JI env=some (.i (IntKind.u8.wrap to)):=by
     have:=e.en.dto;simp only [E.den,this]
   exact e.vU (e.upd (by decide) e.en.di ew) (Ij e.en.st e.en.sm e.z hj e.fit)
 . refine kU h (by omega) (by omega) fun g env e=>e.ix (by decide) (je e.has) ?_;have f1:f<65:=yB e.has;have:f=64:=by omega
   subst this;exact e.row (by decide) (Iz e.en.st e.en.sm e.z e.fit)
theorem qk8 {env:List D} (h:Ew S 11 i f to 287 env):(xE 11).vc JI env:=by
 refine jF h.en.df dl (fun q=>?_) fun q=>?_
 . subst q;refine oF h (fun x y=>x (y.2.1 (by omega))) (fun a b=>Kl h.en (by decide) ⟨a,b⟩) fun g env e=>jF e.en.df dl (fun x=>by omega) fun _=>?_;have a:=(qZ e.has).2.2.2.2;refine e.ix (by decide) ?_ (e.vU (e.upd (by decide) e.en.di e.isT) (RL e.en.st e.en.sm e.z e.fit));rcases a with a | a | a | a
   . exact (a rfl).elim
   . omega
   . exact a.2
   . omega
 . refine kU h (by omega) (by omega) fun g env e=>jF e.en.df dl (fun x=>?_) fun x=>?_
   . subst x;exact e.ix (by decide) (je e.has) (e.row (by decide) (Ht e.en.st e.en.sm e.z (.inl ⟨rfl,rfl⟩) e.fit))
   . have a:=(qZ e.has).2.2.2.2;have f0:=(qZ e.has).2.2.1;have f1:f<3:=yB e.has;have:f=2:=by omega
     subst this;refine e.ix (by decide) ?_ (e.row (by decide) (Ht e.en.st e.en.sm e.z (.inr ⟨rfl,rfl⟩) e.fit));rcases a with a | a | a | a
     . exact (a rfl).elim
     . omega
     . omega
     . exact a.2
theorem qk7 {env:List D} (h:Ew S 12 i f to 287 env):(xE 12).vc JI env:=by
 refine jF h.en.df dl (fun q=>?_) fun q=>?_
 . subst q;refine oF h (fun x y=>x (y.2.1 (by omega))) (fun a b=>Kl h.en (by decide) ⟨a,b⟩) fun g env e=>e.ar (je e.has) fun j hj hi=>?_;subst hi;exact e.VF e.isT (RS e.en.st e.en.sm e.z hj e.fit)
 . refine kU h (by omega) (by omega) fun g env e=>e.ar (je e.has) fun j hj hi=>jF e.en.df dl (fun x=>?_) fun x=>?_
   . subst hi;subst x;have e1:55+15*j=41+15*j+14:=by omega
     rw [e1];exact e.VF e.en.dto (Hr e.en.st e.en.sm e.z hj (.inr ⟨rfl,rfl⟩) e.fit)
   . have f1:f<9:=yB e.has;refine e.ch (n:=7) (by omega) fun m hm hf=>?_;subst hi;subst hf;exact e.VF e.en.dto (Hr e.en.st e.en.sm e.z hj (.inl ⟨by omega,rfl⟩) e.fit)
theorem qk3 {env:List D} (h:Ew S 16 i f to 287 env):(xE 16).vc JI env:=by
 refine kU h (by omega) (by omega) fun g env e=>?_;have f0:=(qZ e.has).2.2.1;have f1:f<14:=yB e.has;have i0:=(qZ e.has).1;have i1:i<1:=je e.has;have:i=0:=by omega
 subst this;refine wU e.en.df dl (fun q=>e.ch (n:=7) q fun j hj hf=>?_) fun q=>?_
 . subst hf;exact e.VF e.en.dto (RP e.en.st e.en.sm e.z (by omega) e.fit)
 . have hs:s7R.den JI env=some (.i (f - 7)):=vH e.en.df dl;refine ⟨iO hs (by omega) (by omega),xU hs (by omega) (n:=7) (by omega) fun j hj hf=>?_⟩;have e1:f=((7+j:Nat):Int):=by omega
   subst e1;rw [show 15+j=8+(7+j) by omega];exact e.VF e.en.dto (RP e.en.st e.en.sm e.z (by omega) e.fit)
section
variable {env:List D} {g:Int->Nat->Int} (h:Ev S k i f to g env)
include h
theorem Ev.hR (hb:f<=9223372036854775807):hR.den JI env=some (.i (f / 2)):=by
 have f0:=(qZ h.has).2.2.1;have:=h.en.df;simp only [Go.Sp.hR,n0,E.den,BO.ev] at this ⊢;simp only [this];rw [MC f0 hb]
theorem Ev.mR:mR.den JI env=some (.i (f % 2)):=by
 have f0:=(qZ h.has).2.2.1;show (E.bin .tmod f' (.lit 2)).den JI env=_;simp only [E.den,h.en.df,BO.ev];rw [Vg f0]
theorem Ev.ixh {n:Nat} {t:Tree} (hn:stS[n]?=some false) (h1:f<2*gi S n) (hb:f<=9223372036854775807) (ht:t.vc JI env):(Go.Sp.ix Go.Sp.hR n t).vc JI env:=by
 have f0:=(qZ h.has).2.2.1;exact ⟨ku dl (h.hR hb) (by omega),pX (h.hR hb) (h.en.gI hn) (by omega),ht⟩
end
theorem Oq {j:Nat} (h:zo S 13 (j:Int) f=true):f<2*gi S (49+15*j):=by
 have:=yB h;have e:qj S 13 (j:Int)=2*gi (arP S j) 8:=rfl;rw [e,zS (by decide)] at this;unfold arB at this;rw [show 49+15*j=41+15*((j:Nat):Int).toNat+8 by omega];exact this
theorem I9 {j:Nat} (h:zo S 14 (j:Int) f=true):f<2*gi S (52+15*j):=by
 have:=yB h;have e:qj S 14 (j:Int)=2*gi (arP S j) 11:=rfl;rw [e,zS (by decide)] at this;unfold arB at this;rw [show 52+15*j=41+15*((j:Nat):Int).toNat+11 by omega];exact this
theorem I8 {j:Nat} (h:zo S 15 (j:Int) f=true):f<2*gi S (54+15*j):=by
 have:=yB h;have e:qj S 15 (j:Int)=2*gi (arP S j) 13:=rfl;rw [e,zS (by decide)] at this;unfold arB at this;rw [show 54+15*j=41+15*((j:Nat):Int).toNat+13 by omega];exact this
theorem qk6 {env:List D} (h:Ew S 13 i f to 287 env):(xE 13).vc JI env:=by
 refine kU h (by omega) (by omega) fun g env e=>e.ar (je e.has) fun j hj hi=>?_;subst hi;have f0:=(qZ e.has).2.2.1;have hb:f<=9223372036854775807:=by have a:=Oq e.has;have b:=e.en.sm.ar j hj;omega
 refine e.ixh (by rw [show 48+15*j+1=41+15*j+8 by omega,aP j hj 8 (by decide)];rfl) (by rw [show 48+15*j+1=49+15*j by omega];exact Oq e.has) hb (xU e.mR (by omega) (n:=2) (by omega) fun a ha hf=>?_);exact e.vU (e.upd (by rw [show 48+15*j=41+15*j+7 by omega,aP j hj 7 (by decide)];rfl) (e.hR hb) e.en.dto) (Ib e.en.st e.en.sm e.z hj ha (by omega) e.fit)
theorem qk5 {env:List D} (h:Ew S 14 i f to 287 env):(xE 14).vc JI env:=by
 refine kU h (by omega) (by omega) fun g env e=>e.ar (je e.has) fun j hj hi=>?_;subst hi;have f0:=(qZ e.has).2.2.1;have hb:f<=9223372036854775807:=by have a:=I9 e.has;have b:=e.en.sm.ar j hj;omega
 refine e.ixh (by rw [show 51+15*j+1=41+15*j+11 by omega,aP j hj 11 (by decide)];rfl) (by rw [show 51+15*j+1=52+15*j by omega];exact I9 e.has) hb (xU e.mR (by omega) (n:=2) (by omega) fun a ha hf=>?_);exact e.vU (e.upd (by rw [show 51+15*j=41+15*j+10 by omega,aP j hj 10 (by decide)];rfl) (e.hR hb) e.en.dto) (Ig e.en.st e.en.sm e.z hj ha (by omega) e.fit)
theorem qk4 {env:List D} (h:Ew S 15 i f to 287 env):(xE 15).vc JI env:=by
 refine kU h (by omega) (by omega) fun g env e=>e.ar (je e.has) fun j hj hi=>?_;subst hi;have f0:=(qZ e.has).2.2.1;have hb:f<=9223372036854775807:=by have a:=I8 e.has;have b:=e.en.sm.ar j hj;omega
 have L:∀a:Nat,a<2->f % 2=a->(ix hR (53+15*j+1) (fD 15 (53+15*j) (.upd (v (53+15*j)) hR a to'))).vc JI env:=fun a ha hf=>
   e.ixh (by rw [show 53+15*j+1=41+15*j+13 by omega,aP j hj 13 (by decide)];rfl) (by rw [show 53+15*j+1=54+15*j by omega];exact I8 e.has) hb
     (e.vU (e.upd (by rw [show 53+15*j=41+15*j+12 by omega,aP j hj 12 (by decide)];rfl) (e.hR hb) e.en.dto) (Iy e.en.st e.en.sm e.z hj ha (by omega) e.fit))
 exact jF e.mR dl (fun q=>L 0 (by decide) q) fun q=>L 1 (by decide) (by omega)
theorem MU {env:List D} {n:E} {x:Int} {t:Tree} (hn:n.den JI env=some (.i x)) (h:x<=1000000) (ht:t.vc JI env):(UZ n t).vc JI env:=⟨ku hn dl h,ht⟩
theorem X3 {K:Tree} {env:List D} (hE:En0 S env) (hK:K.vc JI env):∀{l:List Nat},(∀t∈l,stS[t+1]?=some false/\0<=gi S (t+1)/\gi S (t+1)<=100000)->(p9 l K).vc JI env
 | [],_=>hK
 | t::l,hl=>by
   obtain ⟨a,b,c⟩:=hl t (by simp);exact MU (hE.gI a) (by omega) (X3 hE hK fun t ht=>hl t (by simp [ht]))
theorem Vd {w:Nat} {env:List D} {r:E} {K:Tree} {g:Int->Nat->Int} {x:Int} (hE:En0 S env) (hw:env[w]?=some (.t g)) (hr:r.den JI env=some (.i x)) (hz:jq (gt S 32) (gi S 33) g) (x0:0<=x) (x1:x<gi S 33)
   (hK:K.vc JI env):(Rf w r K).vc JI env:=by
 have z:=(hz x x0 x1).2.1;have a:=hE.sm.cut x x0 x1;have b:=hE.sm.a33;have q:=Di hw hr;exact ⟨ku q dl (by rw [z];omega),ku q q (Int.le_refl _),iO (j4 hr dl) (by omega) (by omega),hK⟩
theorem Ew.more {n m:Nat} {env:List D} (h:Ew S k i f to n env) (xs:List D) (hm:m=n+xs.length):Ew S k i f to m (env++xs):=⟨h.en.more xs hm,jf (e:=.var 286) h.was,h.has,h.k1⟩
theorem f9 (h:zo S 9 i f=true):f<1+2*llen (gt S 32 i 1) 2:=by
 have:=yB h;have e:qj S 9 i=1+2*llen (gt S 32 i 1) 2:=by simp [qj]
 omega
section
variable {env:List D} {n:Nat} (h:Ew S 9 i f to n env) {g2:Int->Nat->Int} (hg2:env[288]?=some (.t g2)) (hz2:jq (gt S 32) (gi S 33) g2)
include h hg2 hz2
theorem Ew.dN:NR.den JI env=some (.i (llen (gt S 32 i 1) 2)):=by
 rw [<-(hz2 i (qZ h.has).1 (je h.has)).2.1];exact Di hg2 h.en.di
theorem Ew.fld {a:Tree} {G:Nat->Tree} (h0:f=0->a.vc JI env) (h1:∀c:Nat,c<2->(f - 1) % 2=c->1<=f->h9R.den JI env=some (.i ((f - 1) / 2))->(G c).vc JI env):(Ug a G).vc JI env:=by
 have hN:=h.dN hg2 hz2;have f0:=(qZ h.has).2.2.1;have f1:=f9 h.has;have a20:=h.en.sm.cut i (qZ h.has).1 (je h.has);have d1:f1R.den JI env=some (.i (f - 1)):=vH h.en.df dl;refine jF h.en.df dl h0 fun q=>?_
 have d2:h9R.den JI env=some (.i ((f - 1) / 2)):=by
   have:=d1;simp only [h9R,n0,E.den,BO.ev] at this ⊢;simp only [this];rw [MC (by omega) (by omega)]
 have d3:m9R.den JI env=some (.i ((f - 1) % 2)):=by
   show (E.bin .tmod f1R (.lit 2)).den JI env=_;simp only [E.den,d1,BO.ev];rw [Vg (by omega)]
 exact ⟨iO d1 (by omega) (by omega),ku dl d2 (by omega),pX d2 hN (by omega),xU d3 (by omega) (n:=2) (by omega) fun c hc e=>h1 c hc e (by omega) d2⟩
end
section
variable {env:List D} (h:Ew S 9 i f to 291 env) {g2 g6:Int->Nat->Int} (hg2:env[288]?=some (.t g2)) (hz2:jq (gt S 32) (gi S 33) g2) (hg6:env[290]?=some (.t g6)) (hz6:jq (gt S 32) (gi S 33) g6) (hx:qM 9 f to)
include h hg2 hz2 hg6 hz6 hx
theorem VH {p l:E} {xp:Int} {tl:Int->Nat->Int} (hp:p.den JI env=some (.i xp)) (hl:l.den JI env=some (.t tl)) (h0:f=0->xp=to) (h1:f≠0->xp=gt S 32 i 0)
   (ht:∀f',1<=f'->f'<1+2*llen (gt S 32 i 1) 2->tl ((f' - 1) / 2) ((f' - 1) % 2).toNat=if f'=f then to else dY (gt S 32 i 1) ((f' - 1) / 2) 2 ((f' - 1) % 2)):(VN p l).vc JI env:=by
 have hN:=h.dN hg2 hz2;have hf:=qZ h.has;refine ⟨ku hN hN (Int.le_refl _),Df h.en (kE:=n0 9) dl (kP (bF (bF (t:=.var 290) hg6 h.en.di hp) h.en.di (Sc hl hN)) h.en.all) (by simp [h.en.st.len]) (w:=v 286) h.was dl ?_,trivial⟩;exact ⟨.inr ⟨h.k1,.inr ⟨h.has,.inr ⟨hx,rfl⟩⟩⟩,fun _=>⟨rfl,Hg h.en.st h.en.sm hz6 hf.1 (je h.has) hf.2.2.1 hx rfl h0 h1 ht⟩,fun x=>(x rfl).elim⟩
theorem Uv:(Ug (VN to' TR) fun c=>VN (.sel (v 288) i' 0) (.upd TR h9R c to')).vc JI env:=by
 have hf:=qZ h.has;have z2:=hz2 i hf.1 (je h.has);have hT:TR.den JI env=some (.t (gG (g2 i 1) 2)):=OT hg2 h.en.di;have lt2:∀(j c:Int),0<=j->j<llen (gt S 32 i 1) 2->0<=c->c<2->gG (g2 i 1) 2 j c.toNat=dY (gt S 32 i 1) j 2 c:=fun j c a b c0 c1=>z2.2.2 j c a b c0 c1;refine h.fld hg2 hz2 (fun e=>?_) fun c hc e f1 d2=>?_
 . refine VH h hg2 hz2 hg6 hz6 hx h.en.dto hT (fun _=>rfl) (fun x=>(x e).elim) fun f' a b=>?_;rw [if_neg (by omega)];exact lt2 _ _ (by omega) (by omega) (by omega) (by omega)
 . have hs:(E.sel (v 288) i' 0).den JI env=some (.i (g2 i 0)):=Vr (t:=.var 288) hg2 h.en.di;rw [z2.1] at hs;refine VH h hg2 hz2 hg6 hz6 hx hs (bF hT d2 h.en.dto) (fun x=>by omega) (fun _=>rfl) fun f' a b=>?_;unfold qd;by_cases e:f'=f
   . subst e;rw [if_pos rfl,if_pos (by omega)]
   . rw [if_neg e,if_neg (by omega)];exact lt2 _ _ (by omega) (by omega) (by omega) (by omega)
end
theorem Ni {env:List D} {g:Int->Nat->Int} (h:Ew S 9 i f to 289 env) (hg:env[288]?=some (.t g)) (hz:jq (gt S 32) (gi S 33) g) (hx:qM 9 f to):R3.vc JI env:=by
 have i0:=(qZ h.has).1;have i1:i<gi S 33:=je h.has;have a33:=h.en.sm.a33;have a20:=h.en.sm.cut i i0 i1;have hN:=h.dN hg hz;have di1:=j4 h.en.di (dl (n:=1));have h33:=h.en.gI (m:=33) (by decide);refine MU hN (by omega) ⟨iO di1 (by omega) (by omega),pX h.en.di di1 (by omega),ku di1 h33 (by omega),fun y g6 hy0 hy1 h50=>?_⟩;have h3:Ew S 9 i f to 291 (env++[.i y]++[.t g6]):=(h.more [.i y] (m:=290) rfl).more [.t g6] rfl;have hg3:(env++[.i y]++[.t g6])[288]?=some (.t g):=jf (e:=.var 288) (jf (e:=.var 288) hg);have d5:(v 289).den JI (env++[.i y]++[.t g6])=some (.i y):=jf (h.en.last (.i y));have d6:(v 290).den JI (env++[.i y]++[.t g6])=some (.t g6):=(h.en.more [.i y] (m:=290) rfl).last (.t g6);generalize env++[.i y]++[.t g6]=qxC at *;have h33:=h3.en.gI (m:=33) (by decide);have y0:=PI h3.en.di d5 hy0;have y1:=fV d5 h33 hy1;have hz6:jq (gt S 32) (gi S 33) g6:=iW h3.en.e0 d6 h50;refine wU d5 h33 (fun hl=>?_) fun hl=>X3 h3.en.e0 (Uv h3 hg3 hz d6 hz6 hx) (lT h3.en.sm);exact ⟨ku dl d5 (by omega),PU d5 h3.en.di (by omega),Vd h3.en.e0 d6 d5 hz6 (by omega) hl ⟨pX h3.en.di (j4 d5 (dl (n:=1))) (by omega),Ke h3.en.e0 d6 d5 hz6 (by omega) hl (ow h3.en.e0 d5 hl)⟩⟩
theorem Nu {env:List D} {g:Int->Nat->Int} {x:Int} (h:Ew S 9 i f to 289 env) (hx:(v 287).den JI env=some (.i x)) (hg:env[288]?=some (.t g)) (hz:jq (gt S 32) (gi S 33) g) (x0:0<=x) (x1:x<=gi S 33)
   (h55:i<0\/x<=i) (hn:¬(x=i/\0<=i/\i<gi S 33)):RO.vc JI env:=by
 have i0:=(qZ h.has).1;have i1:i<gi S 33:=je h.has;refine wU hx (h.en.gI (m:=33) (by decide)) (fun hl=>Vd h.en.e0 hg hx hz x0 hl ?_) fun hl=>by omega
 refine ⟨ku dl (j4 hx dl) (by omega),Ke h.en.e0 hg hx hz x0 hl ⟨⟨[.i (x+1),.i i,.i 9],?_,?_⟩,ow h.en.e0 hx hl⟩⟩
 . simp only [qg,j4 hx (dl (n:=1)),h.en.di,show n0 1=E.lit 1 from rfl,show n0 9=E.lit 9 from rfl,dl]
 . show (9:Int)=9->i<0\/x+1<=i;intro _;omega
theorem rk9 {env:List D} (h:Ew S 9 i f to 287 env):(xE 9).vc JI env:=by
 refine Me h (fun x=>(x h.en.rg).elim) fun _ _=>X3 h.en.e0 ?_ (cl8 h.en.sm);have hx:qM 9 f to:=jA h.en (by omega) (by omega);have d32:=h.en.gT (m:=32) (by decide);have d33:=h.en.gI (m:=33) (by decide);refine ⟨ku dl d33 h.en.sm.a33.1,⟨[.t (gt S 32),.i (gi S 33),.t (gt S 32)],?_,dV⟩,⟨[.i 0,.i i,.i 9],?_,?_⟩,fun x g hx0 hx1 h50 h55=>?_⟩
 . simp only [v,qg,d32,d33]
 . simp only [qg,h.en.di,show n0 0=E.lit 0 from rfl,show n0 9=E.lit 9 from rfl,dl]
 . show (9:Int)=9->i<0\/0<=i;intro _;omega
 have h5:Ew S 9 i f to 289 (env++[.i x]++[.t g]):=(h.more [.i x] (m:=288) rfl).more [.t g] rfl;have d1:(v 287).den JI (env++[.i x]++[.t g])=some (.i x):=jf (h.en.last (.i x));have d2:(v 288).den JI (env++[.i x]++[.t g])=some (.t g):=(h.en.more [.i x] (m:=288) rfl).last (.t g);generalize env++[.i x]++[.t g]=Qg at *;have d33:=h5.en.gI (m:=33) (by decide);have x0:0<=x:=fV (a:=n0 0) dl d1 hx0;have x1:=fV d1 d33 hx1;have hz:=iW h5.en.e0 d2 h50
 have h55:i<0\/x<=i:=by
   obtain ⟨ds,e1,e2⟩:=h55;simp only [qg,d1,h5.en.di,show n0 9=E.lit 9 from rfl,dl,Option.some.injEq] at e1;subst e1;exact (show (9:Int)=9->i<0\/x<=i from e2) rfl
 have i0:=(qZ h.has).1;have i1:i<gi S 33:=je h.has;by_cases e:x=i
 . subst e;refine gN (z:=1) ?_ (fun _=>Ni h5 d2 hz hx) fun e=>absurd e (by decide);have a:=h5.en.di;simp only [n0,v,E.den,BO.ev] at a d1 d33 ⊢;simp only [a,d1,d33];simp [i0,i1]
 . refine gN (z:=0) ?_ (fun e=>absurd rfl e) fun _=>Nu h5 d1 d2 hz x0 x1 h55 (by omega);have a:=h5.en.di;simp only [n0,v,E.den,BO.ev] at a d1 d33 ⊢;simp only [a,d1,d33];simp [e]
theorem kH {kk:Nat} (hk:1<=kk/\kk<=16) (hb:∀(S:List D) (i f to:Int) (env:List D),Ew S kk i f to 287 env->(xE kk).vc JI env):∀env,Sorts (zL kk).sorts env->(kR kk).vc JI env:=by
 intro env h;obtain ⟨S,k,i,f,to,hS,rfl⟩:=nX h;intro hs0 hr0 h9;have hE:=uN hS hs0 hr0;clear hs0 hr0
 have hk':k=kk:=by
   obtain ⟨d,e1,e2⟩:=h9;rw [hE.dk] at e1;cases e1;have e2:some (D.i kk)=some (D.i k):=e2;cases e2;rfl
 clear h9;subst hk';intro x h22;have h1:En S kk i f to 286 (S++[.i kk,.i i,.i f,.i to]++[.i x]):=hE.more [.i x] rfl;have d1:(v 285).den JI (S++[.i kk,.i i,.i f,.i to]++[.i x])=some (.i x):=hE.last (.i x);generalize S++[D.i kk,.i i,.i f,.i to]++[.i x]=env at *;have a1:=h1.all
 have hx:decide (x≠0)=zo S kk i f:=by
   obtain ⟨ds,e1,e2⟩:=h22;rw [rgs,jL,a1] at e1;simp only [qg,h1.di,h1.df,d1,n0,E.den,Option.map_some,Option.bind_some,Option.some.injEq] at e1;subst e1;exact (p22 hS).1 e2
 refine jF d1 dl (fun e=>Zr h1 dl (.inr ⟨by omega,.inl ⟨by rw [<-hx,e];rfl,rfl⟩⟩) (by decide)) fun e=>?_;have hh:zo S kk i f=true:=by rw [<-hx];exact decide_eq_true e
 refine ⟨⟨S++[.i kk,.i i,.i f],?_,(p32 hS).2 ⟨h1.sm,hh,by omega,by omega⟩⟩,fun w h23=>?_⟩
 . rw [rgs,jL,a1];simp only [qg,h1.di,h1.df,n0,E.den,Option.map_some,Option.bind_some]
 have h2:En S kk i f to 287 (env++[.i w]):=h1.more [.i w] rfl;have d2:(v 286).den JI (env++[.i w])=some (.i w):=h1.last (.i w);generalize env++[.i w]=Qg at *;have a2:=h2.all
 have hw:w=qh S kk i f:=by
   obtain ⟨ds,e1,e2⟩:=h23;rw [rgs,jL,a2] at e1;simp only [qg,h2.di,h2.df,d2,n0,E.den,Option.map_some,Option.bind_some,Option.some.injEq] at e1;subst e1;exact (p23 hS).1 e2
 subst hw;exact hb S i f to Qg ⟨h2,d2,hh,by omega⟩
end Go.Sp
noncomputable section
set_option linter.unusedSimpArgs false
namespace Go.Sp
open Go Go.Sx
def Rj:Tree:=
 .assume (leP (.lit 0) (v 1)) (.assume (leP (.lit 0) (v 3)) (.assume (.rng .i64 (v 1)) (.assume (.rng .i64 (v 3)) (.branch (notE (.bin .eq (v 1) (v 3)))
   (.assert (.pr 25 [v 0,v 1,v 2,v 3,n0 0]) .ok)
   (.assert (.pr 52 [v 0,v 2,n0 0]) (.qp false (.assume (leP (.lit 0) (v 4)) (.assume (leP (v 4) (v 1)) (.assume (.pr 52 [v 0,v 2,v 4]) (br .lt (v 4) (v 1)
     (.assert (.tt (.bin .lt (v 4) (v 3))) (.branch (notE (.bin .and (.bin .eq (.sel (v 0) (v 4) 0) (.sel (v 2) (v 4) 0)) (.bin .and (.bin .eq (.sel (v 0) (v 4) 1) (.sel (v 2) (v 4) 1)) (.bin .and (.bin .eq (.sel (v 0) (v 4) 2) (.sel (v 2) (v 4) 2)) (.bin .and (.bin .eq (.sel (v 0) (v 4) 3) (.sel (v 2) (v 4) 3)) (n0 1))))))
       (.assert (.pr 25 [v 0,v 1,v 2,v 3,n0 0]) .ok)
       (.assert (.rng .i64 (plus (v 4) (n0 1))) (.assert (leP (.lit 0) (plus (v 4) (n0 1))) (.assert (leP (plus (v 4) (n0 1)) (v 1)) (.assert (.pr 52 [v 0,v 2,plus (v 4) (n0 1)]) (asA (decP (v 4) (v 1)) .ok)))))))
     (.assert (.pr 25 [v 0,v 1,v 2,v 3,n0 1]) .ok)))))))))))
def U5:Tree:=.qp false (.assume (.pr 25 [v 1135,v 1136,v 1138,v 1139,v 1141]) (.branch (v 1141) (br .eq (v 1137) (v 1140) .ok no) no))
def qjW:Tree:=.qp true (.qp false (.qp false (.assume (.pr 40 (rgs 0 562 [v 1135,v 1136,v 1137])) (.qp true (.qp false (.qp false (.assume (.pr 40 (rgs 0 562 [v 1138,v 1139,v 1140]))
 (.assert (leP (.lit 0) (v 1136)) (.assert (leP (.lit 0) (v 1139)) (.assert (.rng .i64 (v 1136)) (.assert (.rng .i64 (v 1139)) U5)))))))))))
def qjG:Tree:=.assert (.pr 31 (rgs 568 281 [])) (.assert (.pr 31 (rgs 851 281 [])) (.qp false (.assume (.pr 41 (rgs 568 281 (rgs 851 281 [v 1134]))) (br .eq (v 1134) (n0 0) no (.assert (.pr 31 (rgs 281 281 [])) qjW)))))
def U3:Tree:=
 .assume (.pr 58 (rgs 0 281 [])) (.assume (.pr 58 (rgs 281 281 [])) (.assume (.rng .i64 (v 565)) (.qp false (.assume (.pr 59 (rgs 0 281 [v 566])) (.branch (v 566) .ok (.qp false (.assume (.pr 59 (rgs 281 281 [v 567])) (.branch (v 567) .ok
   (.assert (.pr 31 (rgs 0 281 [])) (OE 0 562 568 (OE 0 562 851 (.branch (notE (.bin .eq (v 849) (v 1132))) no (.branch (notE (.bin .eq (v 850) (v 1133))) no qjG)))))))))))))
theorem qqc:∀env,Sorts MP.sorts env->Rj.vc JI env:=by
 intro env h;obtain ⟨f,n,g,m,rfl⟩:=Rp h;simp only [Rj,br,notE,n0,v,plus,leP,asA,decP,plE,List.foldr,Tree.vc,E.den,BO.ev,qg,QS,Option.some.injEq,exists_eq_left',D.i.injEq,D.t.injEq,forall_eq',and_true,gD,bE,List.cons_append,List.nil_append,List.getElem?_cons_zero,List.getElem?_cons_succ,bN,dP,yE,wZ,p25,p52,oK,imax];intro n0 m0 hn hm;have no:∀{p:Prop},¬p->((0:Int)≠0↔p):=fun h=>⟨fun h0=>absurd rfl h0,fun hp=>absurd hp h⟩;refine ⟨fun h=>no fun e=>h e.1,fun h=>?_⟩;have h:n=m:=Classical.not_not.1 h;subst h;refine ⟨fun r h0 h1=>by omega,fun i i0 i1 hi=>⟨fun hl=>⟨hl,fun hc=>no fun e=>hc ?_,fun hc=>?_⟩,fun hl=>?_⟩⟩
 . exact ⟨e.2 i i0 hl 0 (by omega),e.2 i i0 hl 1 (by omega),e.2 i i0 hl 2 (by omega),e.2 i i0 hl 3 (by omega),by omega⟩
 . have hc:=Classical.not_not.1 hc;refine ⟨⟨by omega,by omega⟩,by omega,by omega,fun r h0 h1 c h2=>?_,by omega,by omega⟩;by_cases e:r=i
   . subst e;have:c=0\/c=1\/c=2\/c=3:=by omega
     rcases this with rfl | rfl | rfl | rfl
     . exact hc.1
     . exact hc.2.1
     . exact hc.2.2.1
     . exact hc.2.2.2.1
   . exact hi r h0 (by omega) c h2
 . refine ⟨fun _=>⟨rfl,fun r h0 h1 c h2=>hi r h0 (by omega) c h2⟩,fun _=>by omega⟩
def Zl (S:List D):Prop:=∀x∈S,x=.i 0\/x=.t fun _ _=>0
theorem qjo {S:List D} (h:Zl S) (i:Nat):gi S i=0:=by
 unfold gi;cases e:S[i]? with
 | none=>rfl
 | some x=>rcases h x (List.mem_of_getElem? e) with rfl | rfl <;> rfl
theorem qju {S:List D} (h:Zl S) (i:Nat):gt S i=fun _ _=>0:=by
 unfold gt;cases e:S[i]? with
 | none=>rfl
 | some x=>rcases h x (List.mem_of_getElem? e) with rfl | rfl <;> rfl
theorem Zl.ar {S:List D} (h:Zl S) (j:Int):Zl (arP S j):=fun x hx=>h x (List.mem_of_mem_drop (List.mem_of_mem_take hx))
theorem Zp:Zl rz:=fun x hx=>by
 obtain ⟨b,_,rfl⟩:=List.mem_map.1 hx;cases b
 . exact .inl rfl
 . exact .inr rfl
theorem qje {k f:Int}:qM k f 0:=⟨fun _=>by omega,fun _=>by omega,by omega⟩
theorem Z7:Small rz:=by
 have z:=qjo Zp;refine ⟨by rw [z];omega,by rw [z];omega,by rw [z];omega,by rw [z];omega,by rw [z];omega,by rw [z];omega,by rw [z];omega,by rw [z];omega,by rw [z];omega,by rw [z];omega,by rw [z];omega,fun i a b=>by rw [z] at b;omega,fun j hj=>by simp only [z];omega,fun k i f k1 k2 hh=>?_⟩;have t:=je hh
 have e:qh rz k i f=0:=by
   by_cases k3:k=3
   . subst k3;have a:qz rz 3=gi rz 5:=rfl;rw [a,z] at t;have:=(qZ hh).1;omega
   by_cases k9:k=9
   . subst k9;have a:qz rz 9=gi rz 33:=rfl;rw [a,z] at t;have:=(qZ hh).1;omega
   simp only [qh,arG,z,qju Zp,qjo (Zp.ar i),qju (Zp.ar i),tr,k3,k9,if_false];simp
 rw [e];exact qje
theorem Uf {S:List D} {k i f to e e':Int} (h:Pq S k i f to e) (h':Pq S k i f to e'):e=e':=by
 rcases h with ⟨a,rfl⟩ | ⟨a,⟨b,rfl⟩ | ⟨b,⟨c,rfl⟩ | ⟨c,rfl⟩⟩⟩ <;> rcases h' with ⟨a',rfl⟩ | ⟨a',⟨b',rfl⟩ | ⟨b',⟨c',rfl⟩ | ⟨c',rfl⟩⟩⟩ <;>
   first
   | rfl
   | omega
   | exact absurd c' c
   | exact absurd c c'
   | (rw [b] at b';cases b')
theorem Shape.rfl' {S:List D}:Shape S S:=⟨fun _=>rfl,fun _ _ _ _=>rfl,⟨rfl,rfl⟩⟩
theorem CG {S A B:List D} {k i f to:Int} (h1:kD S k i f to A) (h2:kD S k i f to B):okD A B/\dX (j6 A) (j6 B)=[]:=by
 have sh:Shape A B:=h1.shape.symm.trans h2.shape;refine ⟨⟨Vt sh,?_⟩,Vs sh fun k' i' f' a b hh=>?_⟩
 . rw [h2.ru.1,h2.ru.2,h1.ru.1,h1.ru.2];exact Jj
 . rw [h1.shape.has] at hh;have x:=h1.ge k' i' f' a b hh;have y:=h2.ge k' i' f' a b hh;by_cases e:k'=k/\i'=i/\f'=f
   . rw [x.1 e,y.1 e]
   . rw [x.2 e,y.2 e]
theorem Rc {A:List D}:okD A A/\dX (j6 A) (j6 A)=[]:=⟨⟨Vt .rfl',Jj⟩,Vs .rfl' fun _ _ _ _ _ _=>rfl⟩
theorem Np {F G:Int->Nat->Int} {n:Int} (h:qF F n=qF G n):nJ F n G n:=by
 refine ⟨rfl,fun r r0 rn c hc=>?_⟩;have a:=List.map_inj_left.1 h r.toNat (List.mem_range.2 (by omega));have e:((r.toNat:Nat):Int)=r:=by omega
 rw [e] at a;simp only [Prod.mk.injEq] at a;have:c=0\/c=1\/c=2\/c=3:=by omega
 rcases this with rfl | rfl | rfl | rfl
 . exact a.1
 . exact a.2.1
 . exact a.2.2.1
 . exact a.2.2.2
theorem Ro {env:List D} {F G:Int->Nat->Int} {n m e e':Int} (hL:env.length=1141) (d5:(v 1135).den JI env=some (.t F)) (d6:(v 1136).den JI env=some (.i n)) (d7:(v 1137).den JI env=some (.i e)) (d8:(v 1138).den JI env=some (.t G)) (d9:(v 1139).den JI env=some (.i m)) (d10:(v 1140).den JI env=some (.i e')) (hr:nJ F n G m) (he:e=e'):U5.vc JI env:=by
 intro q h25;have aq:At (env++[.i q]) 1141 [.i q]:=hL ▸ At.new _ _;have dq:=aq.v (i:=0) rfl (m:=1141) rfl
 have hq:q≠0:=by
   obtain ⟨x,q1,q2⟩:=h25;simp only [qg,zQ [.i q] d5,zQ [.i q] d6,zQ [.i q] d8,zQ [.i q] d9,dq,Option.some.injEq] at q1;subst q1;exact (p25.1 q2).2 hr
 exact gN dq (fun _=>jF (zQ [.i q] d7) (zQ [.i q] d10) (fun _=>trivial) fun h=>(h he).elim) fun h=>(hq h).elim
theorem Un {S T env:List D} (hS:St S) (hT:St T) (sS:Small S) (hL:env.length=1135) (a0:At env 0 S) (aT:At env 281 T):qjW.vc JI env:=by
 intro F n e h1;have ee:env++[D.t F]++[.i n]++[.i e]=env++[.t F,.i n,.i e]:=by simp
 rw [ee] at h1 ⊢;have hL1:(env++[D.t F,.i n,.i e]).length=1138:=by simp [hL]
 have aF:At (env++[.t F,.i n,.i e]) 1135 [.t F,.i n,.i e]:=hL ▸ At.new _ _;have b0:=a0.more [.t F,.i n,.i e];have bT:=aT.more [.t F,.i n,.i e];generalize env++[D.t F,.i n,.i e]=env at *;intro G m e' h2;have ee:env++[D.t G]++[.i m]++[.i e']=env++[.t G,.i m,.i e']:=by simp
 rw [ee] at h2 ⊢;have hL2:(env++[D.t G,.i m,.i e']).length=1141:=by simp [hL1]
 have aG:At (env++[.t G,.i m,.i e']) 1138 [.t G,.i m,.i e']:=hL1 ▸ At.new _ _;have c0:=b0.more [.t G,.i m,.i e'];have cT:=bT.more [.t G,.i m,.i e'];have cF:=aF.more [.t G,.i m,.i e']
 have two:∀{X:List D},St S->At X 0 S->At X 281 T->∀{l:List E},qg JI X (rgs 0 562 l)=(qg JI X l).map fun z=>S++(T++z):=by
   intro X _ x0 xT l
   have xa:At X 0 (S++T):=by
     obtain ⟨p,r,e1,e2⟩:=x0;obtain ⟨p2,r2,e3,e4⟩:=xT;have hp:p=[]:=List.length_eq_zero_iff.1 e2;subst hp;refine ⟨[],r2,?_,rfl⟩
     have:p2=S:=by
       have h:p2++(T++r2)=S++r:=by rw [<-e3,e1];rfl
       exact (List.append_inj h (by rw [e4,hS.len])).1
     rw [e3,this];simp
   rw [xa.qg (n:=562) (by simp [hS.len,hT.len])]
   congr 1
   funext z
   simp
 have k1:0<=n/\(e=0/\okD S T/\qF F n=dX (j6 S) (j6 T)\/e=6/\n=0/\¬okD S T):=by
   obtain ⟨x,q1,q2⟩:=h1;rw [two hS b0 bT] at q1;simp only [qg,aF.v (i:=0) rfl (m:=1135) rfl,aF.v (i:=1) rfl (m:=1136) rfl,aF.v (i:=2) rfl (m:=1137) rfl,Option.map_some,Option.some.injEq] at q1;subst q1;exact (p40 hS hT).1 q2
 have k2:0<=m/\(e'=0/\okD S T/\qF G m=dX (j6 S) (j6 T)\/e'=6/\m=0/\¬okD S T):=by
   obtain ⟨x,q1,q2⟩:=h2;rw [two hS c0 cT] at q1;simp only [qg,aG.v (i:=0) rfl (m:=1138) rfl,aG.v (i:=1) rfl (m:=1139) rfl,aG.v (i:=2) rfl (m:=1140) rfl,Option.map_some,Option.some.injEq] at q1;subst q1;exact (p40 hS hT).1 q2
 have big:=Nat.le_trans (tY (l:=j6 S) (m:=j6 T)) (all_le sS)
 have res:n<=900000/\m<=900000/\nJ F n G m/\e=e':=by
   rcases k1 with ⟨n0,⟨rfl,ok,h3⟩ | ⟨rfl,rfl,ok⟩⟩
   . rcases k2 with ⟨m0,⟨rfl,_,h4⟩ | ⟨_,_,no⟩⟩
     . have l1:=fE h3 n0;have l2:=fE h4 m0;have e:n=m:=by omega
       subst e;exact ⟨by omega,by omega,Np (h3.trans h4.symm),rfl⟩
     . exact (no ok).elim
   . rcases k2 with ⟨m0,⟨_,no,_⟩ | ⟨rfl,rfl,_⟩⟩
     . exact (ok no).elim
     . exact ⟨by omega,by omega,⟨rfl,fun r a b=>by omega⟩,rfl⟩
 have d6:=cF.v (i:=1) rfl (m:=1136) rfl;have d9:=aG.v (i:=1) rfl (m:=1139) rfl;exact ⟨ku dl d6 k1.1,ku dl d9 k2.1,iO d6 (by omega) (by omega),iO d9 (by omega) (by omega),Ro hL2 (cF.v (i:=0) rfl rfl) d6 (cF.v (i:=2) rfl rfl) (aG.v (i:=0) rfl rfl) d9 (aG.v (i:=2) rfl rfl) res.2.2.1 res.2.2.2⟩
theorem Ul {S T A B env:List D} (hS:St S) (hT:St T) (sS:Small S) (sT:Small T) (hA:St A) (hB:St B) (sA:Small A) (sB:Small B) (hL:env.length=1134) (a0:At env 0 S) (aT:At env 281 T) (aA:At env 568 A) (aB:At env 851 B) (h:okD A B/\dX (j6 A) (j6 B)=[]):qjG.vc JI env:=by
 refine ⟨⟨A,by rw [aA.qg hA.len];simp [qg],(p31 hA).2 sA⟩,⟨B,by rw [aB.qg hB.len];simp [qg],(p31 hB).2 sB⟩,fun q h41=>?_⟩;have aq:At (env++[.i q]) 1134 [.i q]:=hL ▸ At.new _ _;have dq:=aq.v (i:=0) rfl (m:=1134) rfl
 have hq:q≠0:=by
   obtain ⟨x,q1,q2⟩:=h41;rw [(aA.more _).qg hA.len,(aB.more _).qg hB.len] at q1;simp only [qg,dq,Option.map_some,Option.some.injEq] at q1;subst q1;exact ((p41 hA hB).1 q2).2 h
 have bT:=aT.more [.i q];exact jF dq dl (fun e=>(hq e).elim) fun _=>⟨⟨T,by rw [bT.qg hT.len];simp [qg],(p31 hT).2 sT⟩,Un hS hT sS (by simp [hL]) (a0.more [.i q]) bT⟩
theorem qqK:∀env,Sorts TH.sorts env->U3.vc JI env:=by
 intro env h;obtain ⟨S,r0,rfl,hS,hr0⟩:=zB (l:=stS) (m:=stS++[false,false,false,false]) h;obtain ⟨T,r,rfl,hT,hr⟩:=zB (l:=stS) (m:=[false,false,false,false]) hr0;have hS:St S:=⟨hS⟩;have hT:St T:=⟨hT⟩
 match r,hr with
 | [.i k,.i i,.i f,.i to],_=>
   intro _ _ _;have l0:=hS.len;have l1:=hT.len;have a0:At (S++(T++[D.i k,.i i,.i f,.i to])) 0 S:=⟨[],_,rfl,rfl⟩;have aT:At (S++(T++[D.i k,.i i,.i f,.i to])) 281 T:=⟨S,_,rfl,l0⟩;have af:At (S++(T++[D.i k,.i i,.i f,.i to])) 562 [.i k,.i i,.i f,.i to]:=⟨S++T,[],by simp,by simp [l0,l1]⟩;have hL:(S++(T++[D.i k,.i i,.i f,.i to])).length=566:=by simp [l0,l1]
   generalize S++(T++[D.i k,.i i,.i f,.i to])=env at *
   have far:∀{env X:List D} {a n:Nat} {u:Tree},St X->At env a X->env.length=n->(∀q,Small X->u.vc JI (env++[.i q]))->(Tree.qp false (.assume (.pr 59 (rgs a 281 [v n])) (.branch (v n) .ok u))).vc JI env:=by
     intro env X a n u hX aX hn hu q h59;have aq:At (env++[.i q]) n [.i q]:=hn ▸ At.new _ _;have dq:=aq.v (i:=0) rfl (m:=n) rfl;refine gN dq (fun _=>trivial) fun e0=>hu q ?_;obtain ⟨x,q1,q2⟩:=h59;rw [(aX.more _).qg hX.len] at q1;simp only [qg,dq,Option.map_some,Option.some.injEq] at q1;subst q1;exact (p59 hX).1 q2 e0
   refine far hS a0 hL fun q sS=>far hT (aT.more _) (by simp [hL]) fun q2 sT=>?_;have c0:=(a0.more [.i q]).more [.i q2];have cT:=(aT.more [.i q]).more [.i q2];have cf:=(af.more [.i q]).more [.i q2];have hL2:(env++[D.i q]++[D.i q2]).length=568:=by simp [hL]
   generalize env++[D.i q]++[D.i q2]=env at *;refine ⟨⟨S,by rw [c0.qg hS.len];simp [qg],(p31 hS).2 sS⟩,Hf hS hL2 c0 cf fun A w1 e1 hA hp1=>?_⟩;have aA:At (env++(A++[.i w1,.i e1])) 568 (A++[.i w1,.i e1]):=hL2 ▸ At.new _ _;have hL3:(env++(A++[D.i w1,D.i e1])).length=851:=by simp [hL2,hA.len]
   have d0:=c0.more (A++[D.i w1,D.i e1]);have dT:=cT.more (A++[D.i w1,D.i e1]);have df:=cf.more (A++[D.i w1,D.i e1]);generalize env++(A++[D.i w1,.i e1])=env at *;refine Hf hS hL3 d0 df fun B w2 e2 hB hp2=>?_;have aB:At (env++(B++[.i w2,.i e2])) 851 (B++[.i w2,.i e2]):=hL3 ▸ At.new _ _;have hL4:(env++(B++[D.i w2,.i e2])).length=1134:=by simp [hL3,hB.len]
   have f0:=d0.more (B++[D.i w2,D.i e2]);have fT:=dT.more (B++[D.i w2,D.i e2]);have fA:=aA.more (B++[D.i w2,D.i e2]);generalize env++(B++[D.i w2,.i e2])=env at *;have ee:e1=e2:=Uf hp1.1 hp2.1;subst ee
   have key:w1=w2/\Small A/\Small B/\okD A B/\dX (j6 A) (j6 B)=[]:=by
     by_cases e0:e1=0
     . have x:=hp1.2.1 e0;have y:=hp2.2.1 e0;exact ⟨x.1.trans y.1.symm,x.2.sm,y.2.sm,CG x.2 y.2⟩
     . have x:=hp1.2.2 e0;have y:=hp2.2.2 e0;obtain ⟨rfl,rfl⟩:=x;obtain ⟨rfl,rfl⟩:=y;exact ⟨rfl,Z7,Z7,Rc⟩
   have t1:(E.bin .eq (v 849) (v 1132)).den JI env=some (.i (if w1=w2 then 1 else 0)):=xC (ME hA fA rfl) (ME hB aB rfl);have t2:(E.bin .eq (v 850) (v 1133)).den JI env=some (.i (if e1=e1 then 1 else 0)):=xC (MO hA fA rfl) (MO hB aB rfl);refine H7 t1 (fun z=>(by rw [if_pos key.1] at z;cases z)) fun _=>H7 t2 (fun z=>(by rw [if_pos rfl] at z;cases z)) fun _=>?_;exact Ul hS hT sS sT hA hB key.2.1 key.2.2.1 hL4 f0 fT (MI fA) (MI aB) key.2.2.2
end Go.Sp
end
noncomputable section
namespace Go.Sp
open Go Go.Sx
def mR3:List Mask:=
 [.node A (.node (.node A (.node A (Up 32 O))) O),
  .node O (.node (Dn 34 A) A)]
def eU:List Mask:=
 [.node A (.node A O),
  .node O (.node O (.node A (.node A (Up 4 O)))),
  .node O (.node O (Dn 6 (Up 4 O))),
  .node O (.node O (Dn 10 (Up 4 O))),
  .node O (.node O (Dn 14 A))]
end Go.Sp
end
