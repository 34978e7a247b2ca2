/-
  Contracts of spoil.Differ and of a list's equality. Conditions: none.
-/
import Derived.Test.YtmjjjhinedogjaaGreatDoorC5
import Derived.Test.YtmjjjhinedogjaaGreatDoorC4
import Derived.Test.YtmjjjhinedogjaaGreatDoorC2
import Derived.Test.YtmjjjhinedogjaaGreatDoorC3
noncomputable section
namespace Go.Sp
open Go Go.Sx
def Lh:Contract:={ WC with fn:=28,args:=[.slice 0 (.lit 0) (.var 1) 4 true,.slice 1 (.lit 0) (.var 3) 4 true] }
def qwT:Ann:={ Mf with fn:=28,keep:=[0,1,4,12],tmps:=[(13,iv 4)] }
def Mj:Contract:={ QG with fn:=13 }
def qzb:Ann where
 fn:=13
 bid:=0
 keep:=[6,7,37,38]
 tmps:=[(39,iv 567),(8,.slice 124 (.lit 0) (v 569) 4 true)]
 drop:=[]
 mem:=[(124,.rows bN (v 568) (v 569) true true)]
 sorts:=[false,true,false]
 nbl:=1
 inv:=[le (.lit 0) (v 567),le (v 567) (v 563),le (.lit 0) (v 569),.pr 53 [v 562,v 564,v 567,v 568,v 569]]
 meas:=.bin .sub (v 563) (v 567)
def Ao (P:Program):Cx:={ x0 P with bO:=[qwT] }
def LQ (P:Program):Cx:={ x0 P with cs:=[kD,Lh],bO:=[qzb] }
end Go.Sp
end
noncomputable section
namespace Go.Sp
open Go Go.Sx
def AL:Tree:=(.assume (.tt (.bin .le (.lit 0) (.var 1))) (.assume (.tt (.bin .le (.lit 0) (.var 3))) (.assume (.rng .i64 (.var 1)) (.assume (.rng .i64 (.var 3)) (.branch (.bin .eq (.bin .eq (.var 1) (.var 3)) (.lit 0)) (.assert (.pr 25 [.var 0,.var 1,.var 2,.var 3,(.lit 0)]) .ok) (.assert (.pr 52 [.var 0,.var 2,(.lit 0)]) (.qo false (.assume (.tt (.bin .le (.lit 0) (.var 4))) (.assume (.tt (.bin .le (.var 4) (.var 1))) (.assume (.pr 52 [.var 0,.var 2,.var 4]) (.branch (.bin .lt (.var 4) (.var 1)) (.assert (.tt (.bin .lt (.var 4) (.var 3))) (.branch (.bin .eq (.bin .and (.bin .eq (.sel (.var 0) (.var 4) 0) (.sel (.var 2) (.var 4) 0)) (.bin .and (.bin .eq (.sel (.var 0) (.var 4) 1) (.sel (.var 2) (.var 4) 1)) (.bin .and (.bin .eq (.sel (.var 0) (.var 4) 2) (.sel (.var 2) (.var 4) 2)) (.bin .and (.bin .eq (.sel (.var 0) (.var 4) 3) (.sel (.var 2) (.var 4) 3)) (.lit 1))))) (.lit 0)) (.assert (.pr 25 [.var 0,.var 1,.var 2,.var 3,(.lit 0)]) .ok) (.assert (.rng .i64 (.bin .add (.var 4) (.lit 1))) (.assert (.tt (.bin .le (.lit 0) (.bin .add (.var 4) (.lit 1)))) (.assert (.tt (.bin .le (.bin .add (.var 4) (.lit 1)) (.var 1))) (.assert (.pr 52 [.var 0,.var 2,(.bin .add (.var 4) (.lit 1))]) (.assert (.tt (.bin .le (.lit 0) (.bin .sub (.var 1) (.bin .add (.var 4) (.lit 1))))) (.assert (.tt (.bin .lt (.bin .sub (.var 1) (.bin .add (.var 4) (.lit 1))) (.bin .sub (.var 1) (.var 4)))) .ok)))))))) (.assert (.pr 25 [.var 0,.var 1,.var 2,.var 3,(.lit 1)]) .ok))))))))))))
def Pq:Tree:=(.assume (.pr 31 (rgs 0 281 [])) (.assume (.pr 31 (rgs 281 281 [])) (.qo true (.qo false (.assume (.pr 24 (rgs 0 281 [.var 562,.var 563])) (.qo true (.qo false (.assume (.pr 24 (rgs 281 281 [.var 564,.var 565])) (.branch (.bin .eq (.bin .eq (.var 563) (.var 565)) (.lit 0)) (.assert (.pr 40 (rgs 0 562 [.zt,(.lit 0),(.lit 6)])) .ok) (.assert (.tt (.bin .le (.lit 0) (.var 7))) (.assert (.tt (.bin .le (.lit 0) (.var 288))) (.assert (.rng .i64 (.var 7)) (.assert (.rng .i64 (.var 288)) (.qo false (.assume (.pr 25 [.var 6,.var 7,.var 287,.var 288,.var 566]) (.branch (.bin .eq (.var 566) (.lit 0)) (.assert (.pr 40 (rgs 0 562 [.zt,(.lit 0),(.lit 6)])) .ok) (.assert (.tt (.bin .le (.lit 0) (.var 563))) (.assert (.pr 53 [.var 562,.var 564,(.lit 0),.zt,(.lit 0)]) (.qo false (.qo true (.qo false (.assume (.tt (.bin .le (.lit 0) (.var 567))) (.assume (.tt (.bin .le (.var 567) (.var 563))) (.assume (.tt (.bin .le (.lit 0) (.var 569))) (.assume (.pr 53 [.var 562,.var 564,.var 567,.var 568,.var 569]) (.branch (.bin .lt (.var 567) (.var 563)) (.assert (.tt (.bin .lt (.var 567) (.var 565))) (.branch (.bin .and (.bin .eq (.sel (.var 562) (.var 567) 0) (.sel (.var 564) (.var 567) 0)) (.bin .and (.bin .eq (.sel (.var 562) (.var 567) 1) (.sel (.var 564) (.var 567) 1)) (.bin .and (.bin .eq (.sel (.var 562) (.var 567) 2) (.sel (.var 564) (.var 567) 2)) (.bin .and (.bin .eq (.sel (.var 562) (.var 567) 3) (.sel (.var 564) (.var 567) 3)) (.lit 1))))) (.assert (.rng .i64 (.bin .add (.var 567) (.lit 1))) (.assert (.tt (.bin .le (.lit 0) (.bin .add (.var 567) (.lit 1)))) (.assert (.tt (.bin .le (.bin .add (.var 567) (.lit 1)) (.var 563))) (.assert (.pr 53 [.var 562,.var 564,(.bin .add (.var 567) (.lit 1)),.var 568,.var 569]) (.assert (.tt (.bin .le (.lit 0) (.bin .sub (.var 563) (.bin .add (.var 567) (.lit 1))))) (.assert (.tt (.bin .lt (.bin .sub (.var 563) (.bin .add (.var 567) (.lit 1))) (.bin .sub (.var 563) (.var 567)))) .ok)))))) (.branch (.bin .eq (.bin .and (.bin .eq (.sel (.var 562) (.var 567) 0) (.sel (.var 564) (.var 567) 0)) (.bin .and (.bin .eq (.sel (.var 562) (.var 567) 1) (.sel (.var 564) (.var 567) 1)) (.bin .and (.bin .eq (.sel (.var 562) (.var 567) 2) (.sel (.var 564) (.var 567) 2)) (.bin .and (.bin .eq (.sel (.var 564) (.var 567) 3) (.sel (.var 564) (.var 567) 3)) (.lit 1))))) (.lit 0)) (.assert (.pr 40 (rgs 0 562 [.zt,(.lit 0),(.lit 6)])) .ok) (.assert (.tt (.bin .le (.bin .add (.var 569) (.lit 1)) (.lit 1000000))) (.assert (.rng .i64 (.bin .add (.var 567) (.lit 1))) (.assert (.tt (.bin .le (.lit 0) (.bin .add (.var 567) (.lit 1)))) (.assert (.tt (.bin .le (.bin .add (.var 567) (.lit 1)) (.var 563))) (.assert (.tt (.bin .le (.lit 0) (.bin .add (.var 569) (.lit 1)))) (.assert (.pr 53 [.var 562,.var 564,(.bin .add (.var 567) (.lit 1)),(.upd (.upd (.upd (.upd (.var 568) (.var 569) 0 (.sel (.var 564) (.var 567) 0)) (.var 569) 1 (.sel (.var 564) (.var 567) 1)) (.var 569) 2 (.sel (.var 564) (.var 567) 2)) (.var 569) 3 (.sel (.var 564) (.var 567) 3)),(.bin .add (.var 569) (.lit 1))]) (.assert (.tt (.bin .le (.lit 0) (.bin .sub (.var 563) (.bin .add (.var 567) (.lit 1))))) (.assert (.tt (.bin .lt (.bin .sub (.var 563) (.bin .add (.var 567) (.lit 1))) (.bin .sub (.var 563) (.var 567)))) .ok))))))))))) (.assert (.pr 40 (rgs 0 562 [.var 568,.var 569,(.lit 0)])) .ok)))))))))))))))))))))))))))
end Go.Sp
end
noncomputable section
set_option linter.unusedSimpArgs false
namespace Go.Sp
open Go Go.Sx
theorem qz8:∀env,Sorts Lh.sorts env→AL.vc JI env:=LJ
set_option maxRecDepth 100000 in
set_option maxHeartbeats 4000000 in
theorem AY:∀env,Sorts Mj.sorts env→Pq.vc JI env:=by
 intro env h
 obtain ⟨S,T,rfl,hS,hT⟩:=zM (l:=stS) (m:=stS) h
 have hS:St S:=⟨hS⟩
 have hT:St T:=⟨hT⟩
 rw [←List.append_nil T]
 simp (disch:=first | decide | omega) only [Pq,Tree.vc,E.den,BO.ev,hS.i,hS.t,hS.r,qh,Option.some.injEq,exists_eq_left',List.take_succ_cons,List.take_zero,List.cons_append,List.nil_append,D.i.injEq,D.t.injEq,forall_eq',and_true,dI,dL,
   Nat.reduceSub,List.getElem?_cons_zero,List.getElem?_cons_succ,bZ,nR,xI,kL,rX,rV,wH,xD,wF,gu,bH,nM,List.append_assoc,q0 hS,q1 hS,q2 hS,q3 hS,p20 hS,p21 hS,p22 hS,p23 hS,p24 hS,p31 hS,p31' hS,p32 hS,p33 hS,p34 hS,p35 hS,p51 hS,hT.i,hT.t,hT.r,qq0 hS hT,qq3 hS hT,qT hS hT,p31 hT,p31' hT,p24 hT,p40 hS hT,p41 hS hT,p53,p25,Ww]
 clear h
 intro hs ht A n hA B m hB
 rw [QU,imax]
 have a7:=hs.a7
 have b7:=ht.a7
 have no:¬okD S T→0≤(0:Int)∧((6:Int)=0∧okD S T∧qH (fun x x_1=>0) 0=bI (kg S) (kg T)∨True∧True∧¬okD S T):=fun h=>⟨Int.le_refl _,Or.inr ⟨trivial,trivial,h⟩⟩
 have ln:n=m→okD S T→∀r:Int,0≤r→r<n→A r 0=B r 0∧A r 1=B r 1∧A r 2=B r 2:=by
   rintro rfl h
   have:=h.1
   rw [←hA.2,←hB.2] at this
   exact mV.1 this
 have la:=all_le hs
 rw [←hA.2,zZ] at la
 refine ⟨fun h=>no fun e=>h ?_,fun h=>⟨a7.1,b7.1,⟨by omega,by omega⟩,⟨by omega,by omega⟩,fun w hw=>⟨fun h0=>no fun e=>hw.2 e.2 h0,fun h0=>⟨hA.1,⟨fun r h1 h2=>by omega,rfl⟩,fun i F d i0 i1 d0 hd=>⟨fun hl=>⟨by omega,fun c0=>?_,fun c0=>⟨fun c1=>no fun e=>c1 ?_,fun c1=>?_⟩⟩,fun hl=>?_⟩⟩⟩⟩⟩
 · have:=iw e.1
   rw [←hA.2,←hB.2,zZ,zZ] at this
   omega
 · obtain ⟨q0,q1,q2,q3,_⟩:=c0
   refine ⟨⟨by omega,by omega⟩,by omega,by omega,⟨fun r r0 r1=>?_,?_⟩,by omega,by omega⟩
   · by_cases e:r=i
     · subst e
       exact ⟨q0,q1,q2⟩
     · exact hd.1 r r0 (by omega)
   · rw [cu i0,if_pos q3,List.append_nil,hd.2]
 · have:=ln (Classical.not_not.1 h) e i i0 hl
   exact ⟨this.1,this.2.1,this.2.2,trivial,by omega⟩
 · obtain ⟨q0,q1,q2,_,_⟩:=Classical.not_not.1 c1
   have c3:¬A i 3=B i 3:=fun q3=>c0 ⟨q0,q1,q2,q3,by omega⟩
   have ld:=QW (l:=qH A i) (m:=qH B i)
   rw [←hd.2,zZ,zZ] at ld
   refine ⟨by omega,⟨by omega,by omega⟩,by omega,by omega,by omega,⟨fun r r0 r1=>?_,?_⟩,by omega,by omega⟩
   · by_cases e:r=i
     · subst e
       exact ⟨q0,q1,q2⟩
     · exact hd.1 r r0 (by omega)
   · rw [xL d0,cu i0,if_neg c3,hd.2]
 · have e:i=n:=by omega
   subst e
   have h:=Classical.not_not.1 h
   subst h
   exact ⟨d0,Or.inl ⟨trivial,⟨by rw [←hA.2,←hB.2];exact mV.2 hd.1,hw.1 h0⟩,by rw [←hA.2,←hB.2];exact hd.2⟩⟩
end Go.Sp
end
noncomputable section
namespace Go.Sp
open Go Go.Sx
def KN:Contract where
 fn:=5
 sorts:=stS++[false,false,false,false,false,false,false,false]
 args:=[.agg (stA 0 0),.agg [iv NV,iv (NV+1),iv (NV+2),iv (NV+3)],.agg [iv (NV+4),iv (NV+5),iv (NV+6),iv (NV+7)]]
 mem:=stM false 0 0
 nb:=NB
 pre:=[.pr 58 (vs 0),.rng .i64 (v (NV+3)),.rng .i64 (v (NV+7))]
 outs:=[]
 res:=.bool (.lit 1)
 mods:=[]
 fresh:=[]
 post:=[]
def qwC:Ann where
 fn:=5
 bid:=0
 keep:=[3,4,5,8,9,11,15]
 tmps:=[(17,iv 1426),(16,iv 1426)]
 drop:=[]
 mem:=[]
 sorts:=[false]
 nbl:=0
 inv:=[le (.lit 0) (v 1426),le (v 1426) (v 1424)]
 meas:=.bin .sub (v 1424) (v 1426)
def G9 (P:Program):Cx:={ x0 P with cs:=[Lm,Sm,Kt,Mj,cAw],bO:=[qwC] }
end Go.Sp
end
noncomputable section
namespace Go.Sp
open Go Go.Sx
def lu (c:Nat) (e:E):E:=.bin .eq (.sel (v 1423) (v 1426) c) e
def qqk (a:Nat):E:=notE (.bin .and (lu 0 (v a)) (.bin .and (lu 1 (v (a+1))) (.bin .and (lu 2 (v (a+2))) (.bin .and (lu 3 (v (a+3))) (n0 1)))))
def I9:Tree:=asA (Qs (v 1426) (v 1424)++decP (v 1426) (v 1424)) .ok
def R3 (k:Int):Tree:=br .eq (v 1425) (n0 0) (br .eq (v 1426) (n0 k) .ok no) no
def qqx:Tree:=
 .qo false (.assume (leP (.lit 0) (v 1426)) (.assume (leP (v 1426) (v 1424)) (br .lt (v 1426) (v 1424)
   (.branch (qqk 281) (.branch (qqk 285) no I9) I9)
   (.branch (notE (.bin .eq (v 571) (v 284)))
     (.branch (notE (.bin .eq (v 854) (v 288))) (R3 2) (R3 1))
     (.branch (notE (.bin .eq (v 854) (v 288))) (R3 1) (R3 0))))))
def qq6:Tree:=
 .assert (.pr 31 (rgs 856 281 [])) (.assert (.pr 31 (rgs 1139 281 [])) (.qo false (.assume (.pr 41 (rgs 856 281 (rgs 1139 281 [v 1422]))) (br .eq (v 1422) (n0 0) no
   (.qo true (.qo false (.qo false (.assume (.pr 40 (rgs 0 281 (rgs 856 281 [v 1423,v 1424,v 1425]))) (.assert (leP (.lit 0) (v 1424)) qqx)))))))))
def PG (S f T:Nat) (t:Tree):Tree:=rO (stS++[false,false]) (.assume (.pr 29 (rgs S 281 (v f::v (f+1)::v (f+2)::v (f+3)::rgs T 283 []))) t)
def Fa:Tree:=
 .assert (.pr 31 (rgs 0 281 [])) (PG 0 281 290 (PG 0 285 573 (.branch (isOk 572) .ok (.branch (isOk 855) .ok
   (.assert (.pr 31 (rgs 290 281 [])) (PG 290 285 856 (.assert (.pr 31 (rgs 573 281 [])) (PG 573 281 1139
     (.branch (isOk 1138) no (.branch (isOk 1421) no (.branch (notE (.bin .eq (v 1137) (v 854))) no (.branch (notE (.bin .eq (v 1420) (v 571))) no qq6))))))))))))
def N7:Tree:=
 .assume (.pr 58 (rgs 0 281 [])) (.assume (.rng .i64 (v 284)) (.assume (.rng .i64 (v 288)) (.qo false (.assume (.pr 59 (rgs 0 281 [v 289])) (.branch (v 289) .ok
   (br .eq (v 281) (v 285) (br .eq (v 282) (v 286) (br .eq (v 283) (v 287) .ok Fa) Fa) Fa))))))
end Go.Sp
end
noncomputable section
set_option linter.unusedSimpArgs false
namespace Go.Sp
open Go Go.Sx
variable {S A B U W:List D}
theorem KM {l:List Pl} (hl:l.Nodup) {p q:Pl} (hp:p∈l) (hq:q∈l) (hpq:p≠q) {g:Pl→Option Pl} (h:∀x∈l,x≠p→x≠q→g x=none) :
   l.filterMap g=(g p).toList++(g q).toList∨l.filterMap g=(g q).toList++(g p).toList:=by
 induction l with
 | nil=>cases hp
 | cons a l ih=>
   rw [List.nodup_cons] at hl
   have cons:(a::l).filterMap g=(g a).toList++l.filterMap g:=by
     rw [List.filterMap_cons];cases g a <;> rfl
   rw [cons]
   by_cases ep:a=p
   · subst ep
     have hq':q∈l:=by
       rcases List.mem_cons.1 hq with e | e
       · exact (hpq e.symm).elim
       · exact e
     left
     rw [lI hl.2 hq' fun x hx hne=>h x (List.mem_cons_of_mem _ hx) (fun e=>hl.1 (e ▸ hx)) hne]
   · by_cases eq:a=q
     · subst eq
       have hp':p∈l:=by
         rcases List.mem_cons.1 hp with e | e
         · exact (hpq e).elim
         · exact e
       right
       rw [lI hl.2 hp' fun x hx hne=>h x (List.mem_cons_of_mem _ hx) hne fun e=>hl.1 (e ▸ hx)]
     · have ea:g a=none:=h a (List.mem_cons_self ..) ep eq
       rw [ea]
       refine ih hl.2 ?_ ?_ fun x hx=>h x (List.mem_cons_of_mem _ hx)
       · rcases List.mem_cons.1 hp with e | e
         · exact (ep e.symm).elim
         · exact e
       · rcases List.mem_cons.1 hq with e | e
         · exact (eq e.symm).elim
         · exact e
section
variable {k i f to k2 i2 f2 to2:Int} (h1:kr S k i f to A) (h3:kr A k2 i2 f2 to2 U) (hne:¬(k=k2∧i=i2∧f=f2)) (hk:1≤k∧k≤16) (hk2:1≤k2∧k2≤16) (hh:zi S k i f=true) (hh2:zi S k2 i2 f2=true)
include h1 h3 hne hk hk2 hh hh2
theorem Yy {k' i' f':Int} (a:1≤k') (b:k'≤16) (c:zi S k' i' f'=true):qx U k' i' f'=if k'=k2∧i'=i2∧f'=f2 then to2 else if k'=k∧i'=i∧f'=f then to else qx S k' i' f':=by
 have _:=hne;have _:=hk;have _:=hk2;have _:=hh;have _:=hh2
 have c2:zi A k' i' f'=true:=by rw [h1.shape.has];exact c
 by_cases e:k'=k2∧i'=i2∧f'=f2
 · rw [if_pos e];exact (h3.ge k' i' f' a b c2).1 e
 · rw [if_neg e,(h3.ge k' i' f' a b c2).2 e]
   by_cases e:k'=k∧i'=i∧f'=f
   · rw [if_pos e];exact (h1.ge k' i' f' a b c).1 e
   · rw [if_neg e];exact (h1.ge k' i' f' a b c).2 e
theorem Tq:bI (kg S) (kg U)=(if qx S k i f=to then [] else [(k,i,f,to)])++(if qx S k2 i2 f2=to2 then [] else [(k2,i2,f2,to2)])∨
   bI (kg S) (kg U)=(if qx S k2 i2 f2=to2 then [] else [(k2,i2,f2,to2)])++(if qx S k i f=to then [] else [(k,i,f,to)]):=by
 have sh:=h1.shape.trans h3.shape
 have g:=fun {k' i' f':Int} (a:1≤k') (b:k'≤16) (c:zi S k' i' f'=true)=>Yy h1 h3 hne hk hk2 hh hh2 a b c
 have p1:=iY.2 ⟨hk.1,hk.2,hh,rfl⟩
 have p2:=iY.2 ⟨hk2.1,hk2.2,hh2,rfl⟩
 have hpq:((k,i,f,qx S k i f):Pl)≠(k2,i2,f2,qx S k2 i2 f2):=fun e=>by
   simp only [Prod.mk.injEq] at e
   exact hne ⟨e.1,e.2.1,e.2.2.1⟩
 have e1:qx U k i f=to:=by rw [g hk.1 hk.2 hh,if_neg hne,if_pos ⟨rfl,rfl,rfl⟩]
 have e2:qx U k2 i2 f2=to2:=by rw [g hk2.1 hk2.2 hh2,if_pos ⟨rfl,rfl,rfl⟩]
 have t:=KM MP p1 p2 hpq (g:=fun x=>if x.2.2.2=qx U x.1 x.2.1 x.2.2.1 then none else some (re U x)) (by
   rintro ⟨k',i',f',z⟩ hx n1 n2
   obtain ⟨a,b,c,rfl⟩:=iY.1 hx
   have q1:¬(k'=k∧i'=i∧f'=f):=fun ⟨x1,x2,x3⟩=>n1 (by rw [x1,x2,x3])
   have q2:¬(k'=k2∧i'=i2∧f'=f2):=fun ⟨x1,x2,x3⟩=>n2 (by rw [x1,x2,x3])
   simp only [g a b c,if_neg q1,if_neg q2,if_true])
 have s1:((if qx S k i f=qx U k i f then none else some (re U (k,i,f,qx S k i f)):Option Pl)).toList=if qx S k i f=to then [] else [(k,i,f,to)]:=by
   rw [e1];simp only [re,e1];by_cases e:qx S k i f=to <;> simp [e]
 have s2:((if qx S k2 i2 f2=qx U k2 i2 f2 then none else some (re U (k2,i2,f2,qx S k2 i2 f2)):Option Pl)).toList=if qx S k2 i2 f2=to2 then [] else [(k2,i2,f2,to2)]:=by
   rw [e2];simp only [re,e2];by_cases e:qx S k2 i2 f2=to2 <;> simp [e]
 rw [HZ sh]
 rcases t with t | t
 · left;rw [t,←s1,←s2]
 · right;rw [t,←s1,←s2]
theorem NG (h2:kr S k2 i2 f2 to2 B) (h4:kr B k i f to W):Shape U W∧(∀k' i' f',1≤k'→k'≤16→zi U k' i' f'=true→qx W k' i' f'=qx U k' i' f')∧okD U W:=by
 have s1:=h1.shape.trans h3.shape
 have s2:=h2.shape.trans h4.shape
 have sh:=s1.symm.trans s2
 refine ⟨sh,fun k' i' f' a b c=>?_,Vz sh,?_⟩
 · rw [s1.has] at c
   rw [Yy h1 h3 hne hk hk2 hh hh2 a b c,Yy h2 h4 (fun e=>hne ⟨e.1.symm,e.2.1.symm,e.2.2.symm⟩) hk2 hk hh2 hh a b c]
   by_cases e:k'=k∧i'=i∧f'=f
   · have e2:¬(k'=k2∧i'=i2∧f'=f2):=fun e2=>hne ⟨e.1.symm.trans e2.1,e.2.1.symm.trans e2.2.1,e.2.2.symm.trans e2.2.2⟩
     rw [if_pos e,if_neg e2,if_pos e]
   · rw [if_neg e]
     by_cases e2:k'=k2∧i'=i2∧f'=f2
     · rw [if_pos e2,if_pos e2]
     · rw [if_neg e2,if_neg e2,if_neg e]
 · rw [h4.ru.1,h4.ru.2,h2.ru.1,h2.ru.2,h3.ru.1,h3.ru.2,h1.ru.1,h1.ru.2];exact ZP
end
end Go.Sp
noncomputable section
set_option linter.unusedSimpArgs false
namespace Go.Sp
open Go Go.Sx
theorem cB {env X Y:List D} {a:Nat} (h:At env a (X++Y)):At env a X:=by
 obtain ⟨p,r,e,hp⟩:=h
 exact ⟨p,Y++r,by rw [e];simp,hp⟩
theorem cO {env T:List D} {a:Nat} {x y:D} (hT:St T) (h:At env a (T++[x,y])) {m:Nat} (hm:m=a+281):(v m).den JI env=some x:=
 h.v (i:=281) (by rw [List.getElem?_append_right (by rw [hT.len];omega),hT.len];rfl) hm
theorem Zn {env T:List D} {a:Nat} {x y:D} (hT:St T) (h:At env a (T++[x,y])) {m:Nat} (hm:m=a+282):(v m).den JI env=some y:=
 h.v (i:=282) (by rw [List.getElem?_append_right (by rw [hT.len];omega),hT.len];rfl) hm
theorem Zk {env S:List D} {s f T:Nat} {t:Tree} {k i q to:Int} (hS:St S) (hL:env.length=T) (aS:At env s S) (af:At env f [.i k,.i i,.i q,.i to])
   (H:∀U was e,St U→MB S k i q to U was e→t.vc JI (env++(U++[.i was,.i e]))):(PG s f T t).vc JI env:=by
 refine aN fun ds hds h29=>?_
 obtain ⟨U,was,e,hU,rfl⟩:=MJ hds
 have hU:St U:=⟨hU⟩
 refine H U was e hU ?_
 have aU:At (env++(U++[.i was,.i e])) T (U++[.i was,.i e]):=hL ▸ At.new _ _
 have bf:=af.more (U++[.i was,.i e])
 obtain ⟨x,q1,q2⟩:=h29
 rw [(aS.more _).qh hS.len] at q1
 simp only [qh,bf.v (i:=0) rfl (m:=f) rfl,bf.v (i:=1) rfl (m:=f+1) rfl,bf.v (i:=2) rfl (m:=f+2) rfl,bf.v (i:=3) rfl (m:=f+3) rfl,aU.qh (show (U++[D.i was,.i e]).length=283 by simp [hU.len]),Option.map_some,Option.some.injEq,List.append_nil] at q1
 subst q1
 exact (p29 hS hU.len).1 (by simpa using q2)
theorem jH {env:List D} {i:Nat} {e:Int} {a b:Tree} (h:(v i).den JI env=some (.i e)) (h1:e≠0→a.vc JI env) (h2:e=0→b.vc JI env):(Tree.branch (isOk i) a b).vc JI env:=
 dO (OJ h) (fun k=>h1 fun e=>k (by rw [if_pos e])) fun k=>h2 (Classical.byContradiction fun e=>by rw [if_neg e] at k;cases k)
theorem mP {env:List D} {c:E} {x:Int} {a b:Tree} (h:c.den JI env=some (.i x)) (h1:x=0→a.vc JI env) (h2:x≠0→b.vc JI env):(Tree.branch (notE c) a b).vc JI env:=
 dO (BF h) (fun k=>h1 (Classical.byContradiction fun e=>k (if_neg e))) fun k=>h2 fun e=>by rw [if_pos e] at k;cases k
section
variable {k i f to k2 i2 f2 to2:Int}
def two (c d:Bool) (p q:Pl):List Pl:=(bif c then [] else [p])++(bif d then [] else [q])
theorem Oj {env:List D} {F:Int→Nat→Int} {n w1 w2:Int} (hL:env.length=1426) (af:At env 281 [.i k,.i i,.i f,.i to]) (ag:At env 285 [.i k2,.i i2,.i f2,.i to2]) (dF:(v 1423).den JI env=some (.t F)) (dn:(v 1424).den JI env=some (.i n)) (de:(v 1425).den JI env=some (.i 0))
   (d1:(v 571).den JI env=some (.i w1)) (d2:(v 854).den JI env=some (.i w2)) (ge0:0≤n) (n6:n≤2) (hall:∀r:Int,0≤r→r<n→(F r 0=k∧F r 1=i∧F r 2=f∧F r 3=to)∨(F r 0=k2∧F r 1=i2∧F r 2=f2∧F r 3=to2))
   (hn:n=(if w1=to then 0 else 1)+(if w2=to2 then 0 else 1)):qqx.vc JI env:=by
 intro x h1 h2
 have ax:At (env++[.i x]) 1426 [.i x]:=hL ▸ At.new _ _
 have dx:=ax.v (i:=0) rfl (m:=1426) rfl
 have bf:=af.more [.i x]
 have bg:=ag.more [.i x]
 have dF:=zS (xs:=[.i x]) dF
 have dn:=zS (xs:=[.i x]) dn
 have de:=zS (xs:=[.i x]) de
 have d1:=zS (xs:=[.i x]) d1
 have d2:=zS (xs:=[.i x]) d2
 have qwN:=bf.v (i:=3) rfl (m:=284) rfl
 have qwM:=bg.v (i:=3) rfl (m:=288) rfl
 have x0:=fM qD dx h1
 have xn:=fM dx dn h2
 have nx:x<n→I9.vc JI (env++[.i x]):=fun c=>jN (fun p hp=>by
   rcases List.mem_append.1 hp with hp | hp
   · exact rF dx dn x0 c (by omega) p hp
   · exact iE dx dn c p hp) trivial
 have row:∀{a:Nat} {b0 b1 b2 b3:Int},At (env++[.i x]) a [.i b0,.i b1,.i b2,.i b3]→(F x 0=b0∧F x 1=b1∧F x 2=b2∧F x 3=b3)→∃z:Int,z≠0∧(E.bin .and (lu 0 (v a)) (.bin .and (lu 1 (v (a+1))) (.bin .and (lu 2 (v (a+2))) (.bin .and (lu 3 (v (a+3))) (n0 1))))).den JI (env++[.i x])=some (.i z):=by
   intro a b0 b1 b2 b3 A h
   have fd:∀(c:Nat) (y:Int) (e:E),e.den JI (env++[.i x])=some (.i y)→F x c=y→(lu c e).den JI (env++[.i x])=some (.i 1):=fun c y e he hy=>by
     unfold lu
     rw [E.den,K6 dF dx,he]
     show some (D.i (if F x c=y then 1 else 0))=_
     rw [if_pos hy]
   exact ⟨_,by simp,sN (fd 0 _ _ (A.v (i:=0) rfl rfl) h.1) (sN (fd 1 _ _ (A.v (i:=1) rfl rfl) h.2.1) (sN (fd 2 _ _ (A.v (i:=2) rfl rfl) h.2.2.1) (sN (fd 3 _ _ (A.v (i:=3) rfl rfl) h.2.2.2) (dl (n:=1)))))⟩
 have any:∀{a:Nat} {b0 b1 b2 b3:Int},At (env++[.i x]) a [.i b0,.i b1,.i b2,.i b3]→∃z:Int,(E.bin .and (lu 0 (v a)) (.bin .and (lu 1 (v (a+1))) (.bin .and (lu 2 (v (a+2))) (.bin .and (lu 3 (v (a+3))) (n0 1))))).den JI (env++[.i x])=some (.i z):=by
   intro a b0 b1 b2 b3 A
   have fd:∀(c:Nat) (y:Int) (e:E),e.den JI (env++[.i x])=some (.i y)→(lu c e).den JI (env++[.i x])=some (.i (if F x c=y then 1 else 0)):=fun c y e he=>by
     unfold lu
     rw [E.den,K6 dF dx,he]
     rfl
   exact ⟨_,sN (fd 0 _ _ (A.v (i:=0) rfl rfl)) (sN (fd 1 _ _ (A.v (i:=1) rfl rfl)) (sN (fd 2 _ _ (A.v (i:=2) rfl rfl)) (sN (fd 3 _ _ (A.v (i:=3) rfl rfl)) (dl (n:=1)))))⟩
 refine xG dx dn (fun c=>?_) fun c=>?_
 · obtain ⟨z1,q1⟩:=any bf
   obtain ⟨z2,q2⟩:=any bg
   refine mP q1 (fun e1=>mP q2 (fun e2=>?_) fun _=>nx c) fun _=>nx c
   rcases hall x x0 c with h | h
   · obtain ⟨z,hz,q⟩:=row bf h
     rw [q] at q1;cases q1;exact (hz e1).elim
   · obtain ⟨z,hz,q⟩:=row bg h
     rw [q] at q2;cases q2;exact (hz e2).elim
 · have ex:x=n:=by omega
   subst ex
   have fin:∀m:Int,x=m→(R3 m).vc JI (env++[.i x]):=fun m e=>kG de dl (fun _=>kG dx dl (fun _=>trivial) fun h=>(h e).elim) fun h=>(h rfl).elim
   have c1:(E.bin .eq (v 571) (v 284)).den JI (env++[.i x])=some (.i (if w1=to then 1 else 0)):=yZ d1 qwN
   have c2:(E.bin .eq (v 854) (v 288)).den JI (env++[.i x])=some (.i (if w2=to2 then 1 else 0)):=yZ d2 qwM
   refine mP c1 (fun e1=>mP c2 (fun e2=>fin 2 ?_) fun e2=>fin 1 ?_) fun e1=>mP c2 (fun e2=>fin 1 ?_) fun e2=>fin 0 ?_
   all_goals
     by_cases p1:w1=to <;> by_cases p2:w2=to2 <;> simp [p1,p2] at e1 e2 hn ⊢ <;> omega
theorem Ti {F:Int→Nat→Int} {n:Int} {l:List Pl} (h:qH F n=l) {r:Int} (r0:0≤r) (rn:r<n):(F r 0,F r 1,F r 2,F r 3)∈l:=by
 rw [←h]
 refine List.mem_map.2 ⟨r.toNat,List.mem_range.2 (by omega),?_⟩
 have e:((r.toNat:Nat):Int)=r:=by omega
 rw [e]
theorem C9 {S U W A B:List D} {env:List D} {w1 w2:Int} (hS:St S) (hU:St U) (hW:St W) (hL:env.length=1422) (a0:At env 0 S) (af:At env 281 [.i k,.i i,.i f,.i to]) (ag:At env 285 [.i k2,.i i2,.i f2,.i to2]) (aU:At env 856 U) (aW:At env 1139 W)
   (d1:(v 571).den JI env=some (.i w1)) (d2:(v 854).den JI env=some (.i w2)) (h1:kr S k i f to A) (h3:kr A k2 i2 f2 to2 U) (h2:kr S k2 i2 f2 to2 B) (h4:kr B k i f to W)
   (hne:¬(k=k2∧i=i2∧f=f2)) (hk:1≤k∧k≤16) (hk2:1≤k2∧k2≤16) (hh:zi S k i f=true) (hh2:zi S k2 i2 f2=true) (e1:w1=qx S k i f) (e2:w2=qx S k2 i2 f2):qq6.vc JI env:=by
 have same:=NG h1 h3 hne hk hk2 hh hh2 h2 h4
 have dif:=Tq h1 h3 hne hk hk2 hh hh2
 have okU:okD S U:=by
   refine ⟨Vz (h1.shape.trans h3.shape),?_⟩
   rw [h3.ru.1,h3.ru.2,h1.ru.1,h1.ru.2];exact ZP
 refine ⟨⟨U,by rw [aU.qh hU.len];simp [qh],(p31 hU).2 h3.sm⟩,⟨W,by rw [aW.qh hW.len];simp [qh],(p31 hW).2 h4.sm⟩,fun q h41=>?_⟩
 have aq:At (env++[.i q]) 1422 [.i q]:=hL ▸ At.new _ _
 have dq:=aq.v (i:=0) rfl (m:=1422) rfl
 have hq:q≠0:=by
   obtain ⟨x,q1,q2⟩:=h41
   rw [(aU.more _).qh hU.len,(aW.more _).qh hW.len] at q1
   simp only [qh,dq,Option.map_some,Option.some.injEq] at q1
   subst q1
   exact ((p41 hU hW).1 q2).2 ⟨same.2.2,Pb same.1 same.2.1⟩
 refine kG dq dl (fun e=>(hq e).elim) fun _=>fun F n e h40=>?_
 have ee:env++[.i q]++[D.t F]++[.i n]++[.i e]=env++[.i q]++[.t F,.i n,.i e]:=by simp
 rw [ee] at h40 ⊢
 have aF:At (env++[.i q]++[.t F,.i n,.i e]) 1423 [.t F,.i n,.i e]:=by
   have:(env++[D.i q]).length=1423:=by simp [hL]
   exact this ▸ At.new _ _
 have dF:=aF.v (i:=0) rfl (m:=1423) rfl
 have dn:=aF.v (i:=1) rfl (m:=1424) rfl
 have de:=aF.v (i:=2) rfl (m:=1425) rfl
 have b0:=(a0.more [.i q]).more [.t F,.i n,.i e]
 have bU:=(aU.more [.i q]).more [.t F,.i n,.i e]
 have h40:0≤n∧(e=0∧okD S U∧qH F n=bI (kg S) (kg U)∨e=6∧n=0∧¬okD S U):=by
   obtain ⟨x,q1,q2⟩:=h40
   rw [b0.qh hS.len,bU.qh hU.len] at q1
   simp only [qh,dF,dn,de,Option.map_some,Option.some.injEq] at q1
   subst q1
   exact (p40 hS hU).1 q2
 obtain ⟨n0',hd⟩:=h40
 have hd:e=0∧qH F n=bI (kg S) (kg U):=by
   rcases hd with ⟨a,_,b⟩ | ⟨_,_,c⟩
   · exact ⟨a,b⟩
   · exact (c okU).elim
 obtain ⟨rfl,hrow⟩:=hd
 have hlen:=pE hrow n0'
 have mem:∀x∈bI (kg S) (kg U),x=(k,i,f,to)∨x=(k2,i2,f2,to2):=by
   intro x hx
   rcases dif with h | h <;> rw [h] at hx <;> rcases List.mem_append.1 hx with hx | hx <;> split at hx <;> simp at hx <;> simp [hx]
 have cnt:((bI (kg S) (kg U)).length:Int)=(if w1=to then 0 else 1)+(if w2=to2 then 0 else 1):=by
   rw [e1,e2]
   rcases dif with h | h <;> rw [h,List.length_append] <;> by_cases p1:qx S k i f=to <;> by_cases p2:qx S k2 i2 f2=to2 <;> simp [p1,p2]
 have hn:n=(if w1=to then 0 else 1)+(if w2=to2 then 0 else 1):=by rw [hlen,cnt]
 refine ⟨zh qD dn n0',Oj (by simp [hL]) ((af.more _).more _) ((ag.more _).more _) dF dn de (zS (zS d1)) (zS (zS d2)) n0' ?_ (fun r r0 rn=>?_) hn⟩
 · rw [hn];split <;> split <;> omega
 · have:=mem _ (Ti hrow r0 rn)
   simpa only [Prod.mk.injEq] using this
theorem Po {S env:List D} (hS:St S) (hs:Small S) (hL:env.length=290) (a0:At env 0 S) (af:At env 281 [.i k,.i i,.i f,.i to]) (ag:At env 285 [.i k2,.i i2,.i f2,.i to2]) (hne:¬(k=k2∧i=i2∧f=f2)):Fa.vc JI env:=by
 refine ⟨⟨S,by rw [a0.qh hS.len];simp [qh],(p31 hS).2 hs⟩,Zk hS hL a0 af fun A w1 x1 hA hP1=>?_⟩
 have aA:At (env++(A++[.i w1,.i x1])) 290 (A++[.i w1,.i x1]):=hL ▸ At.new _ _
 have a0:=a0.more (A++[.i w1,.i x1])
 have af:=af.more (A++[.i w1,.i x1])
 have ag:=ag.more (A++[.i w1,.i x1])
 have hL:(env++(A++[D.i w1,.i x1])).length=573:=by simp [hL,hA.len]
 generalize env++(A++[D.i w1,.i x1])=O8 at *
 refine Zk hS hL a0 ag fun B w2 x2 hB hP2=>?_
 have aB:At (O8++(B++[.i w2,.i x2])) 573 (B++[.i w2,.i x2]):=hL ▸ At.new _ _
 have a0:=a0.more (B++[.i w2,.i x2])
 have af:=af.more (B++[.i w2,.i x2])
 have ag:=ag.more (B++[.i w2,.i x2])
 have aA:=aA.more (B++[.i w2,.i x2])
 have hL:(O8++(B++[D.i w2,.i x2])).length=856:=by simp [hL,hB.len]
 generalize O8++(B++[D.i w2,.i x2])=iO at *
 refine jH (Zn hA aA rfl) (fun _=>trivial) fun z1=>jH (Zn hB aB rfl) (fun _=>trivial) fun z2=>?_
 subst z1 z2
 obtain ⟨hk,hh,hf,e1,h1⟩:=YL hP1 rfl
 obtain ⟨hk2,hh2,hf2,e2,h2⟩:=YL hP2 rfl
 refine ⟨⟨A,by rw [(cB aA).qh hA.len];simp [qh],(p31 hA).2 h1.sm⟩,Zk hA hL (cB aA) ag fun U w3 x3 hU hP3=>?_⟩
 have aU:At (iO++(U++[.i w3,.i x3])) 856 (U++[.i w3,.i x3]):=hL ▸ At.new _ _
 have a0:=a0.more (U++[.i w3,.i x3])
 have af:=af.more (U++[.i w3,.i x3])
 have ag:=ag.more (U++[.i w3,.i x3])
 have aA:=aA.more (U++[.i w3,.i x3])
 have aB:=aB.more (U++[.i w3,.i x3])
 have hL:(iO++(U++[D.i w3,.i x3])).length=1139:=by simp [hL,hU.len]
 generalize iO++(U++[D.i w3,.i x3])=CU at *
 refine ⟨⟨B,by rw [(cB aB).qh hB.len];simp [qh],(p31 hB).2 h2.sm⟩,Zk hB hL (cB aB) af fun W w4 x4 hW hP4=>?_⟩
 have aW:At (CU++(W++[.i w4,.i x4])) 1139 (W++[.i w4,.i x4]):=hL ▸ At.new _ _
 have a0:=a0.more (W++[.i w4,.i x4])
 have af:=af.more (W++[.i w4,.i x4])
 have ag:=ag.more (W++[.i w4,.i x4])
 have aA:=aA.more (W++[.i w4,.i x4])
 have aB:=aB.more (W++[.i w4,.i x4])
 have aU:=aU.more (W++[.i w4,.i x4])
 have hL:(CU++(W++[D.i w4,.i x4])).length=1422:=by simp [hL,hW.len]
 generalize CU++(W++[D.i w4,.i x4])=env4 at *
 have z3:=Vs hP3 hk2 (by rw [h1.shape.has];exact hh2) hf2
 have z4:=Vs hP4 hk (by rw [h2.shape.has];exact hh) hf
 subst z3 z4
 obtain ⟨_,_,_,e3,h3⟩:=YL hP3 rfl
 obtain ⟨_,_,_,e4,h4⟩:=YL hP4 rfl
 have m3:w3=w2:=by rw [e3,e2];exact (h1.ge k2 i2 f2 hk2.1 hk2.2 hh2).2 fun e=>hne ⟨e.1.symm,e.2.1.symm,e.2.2.symm⟩
 have m4:w4=w1:=by rw [e4,e1];exact (h2.ge k i f hk.1 hk.2 hh).2 hne
 refine jH (Zn hU aU rfl) (fun e=>(e rfl).elim) fun _=>jH (Zn hW aW rfl) (fun e=>(e rfl).elim) fun _=>?_
 refine mP (yZ (cO hU aU rfl) (cO hB aB rfl)) (fun e=>by rw [if_pos m3] at e;cases e) fun _=>mP (yZ (cO hW aW rfl) (cO hA aA rfl)) (fun e=>by rw [if_pos m4] at e;cases e) fun _=>?_
 exact C9 hS hU hW hL a0 af ag (cB aU) (cB aW) (cO hA aA rfl) (cO hB aB rfl) h1 h3 h2 h4 hne hk hk2 hh hh2 e1 e2
end
theorem qz9:∀env,Sorts KN.sorts env→N7.vc JI env:=by
 intro env h
 obtain ⟨S,r,rfl,hS,hr⟩:=zM (l:=stS) (m:=[false,false,false,false,false,false,false,false]) h
 have hS:St S:=⟨hS⟩
 match r,hr with
 | [.i k,.i i,.i f,.i to,.i k2,.i i2,.i f2,.i to2],_=>
   intro _ _ _ r OU
   have l0:=hS.len
   have ee:S++[D.i k,.i i,.i f,.i to,.i k2,.i i2,.i f2,.i to2]++[.i r]=S++[.i k,.i i,.i f,.i to,.i k2,.i i2,.i f2,.i to2,.i r]:=by simp
   rw [ee] at OU ⊢
   have a0:At (S++[.i k,.i i,.i f,.i to,.i k2,.i i2,.i f2,.i to2,.i r]) 0 S:=⟨[],_,rfl,rfl⟩
   have af:At (S++[.i k,.i i,.i f,.i to,.i k2,.i i2,.i f2,.i to2,.i r]) 281 [.i k,.i i,.i f,.i to]:=⟨S,[.i k2,.i i2,.i f2,.i to2,.i r],by simp,l0⟩
   have ag:At (S++[.i k,.i i,.i f,.i to,.i k2,.i i2,.i f2,.i to2,.i r]) 285 [.i k2,.i i2,.i f2,.i to2]:=⟨S++[.i k,.i i,.i f,.i to],[.i r],by simp,by simp [l0]⟩
   have ar:At (S++[.i k,.i i,.i f,.i to,.i k2,.i i2,.i f2,.i to2,.i r]) 289 [.i r]:=⟨S++[.i k,.i i,.i f,.i to,.i k2,.i i2,.i f2,.i to2],[],by simp,by simp [l0]⟩
   have hL:(S++[D.i k,.i i,.i f,.i to,.i k2,.i i2,.i f2,.i to2,.i r]).length=290:=by simp [l0]
   have dr:=ar.v (i:=0) rfl (m:=289) rfl
   have h59:r=0→Small S:=by
     obtain ⟨x,q1,q2⟩:=OU
     rw [a0.qh l0] at q1
     simp only [qh,dr,Option.map_some,Option.some.injEq] at q1
     subst q1
     exact (p59 hS).1 q2
   clear OU
   generalize S++[D.i k,.i i,.i f,.i to,.i k2,.i i2,.i f2,.i to2,.i r]=env at *
   refine dO dr (fun _=>trivial) fun e0=>?_
   have hs:=h59 e0
   have rest:=fun hne:¬(k=k2∧i=i2∧f=f2)=>Po hS hs hL a0 af ag hne
   exact kG (af.v (i:=0) rfl rfl) (ag.v (i:=0) rfl rfl) (fun e1=>kG (af.v (i:=1) rfl rfl) (ag.v (i:=1) rfl rfl) (fun e2=>kG (af.v (i:=2) rfl rfl) (ag.v (i:=2) rfl rfl) (fun _=>trivial) fun n=>rest fun e=>n e.2.2) fun n=>rest fun e=>n e.2.1) fun n=>rest fun e=>n e.1
end Go.Sp
noncomputable section
namespace Go.Sp
open Go Go.Sx
def Y7:List Mask:=[.node A (.node O A),.node O (.node (.node O A) O),.node O (.node (.node A O) O)]
end Go.Sp
end
