/-
  The formulas of what a state has hold. Conditions: none.
-/
import Derived.Test.YtmjjjhinedogjaaGreatDoorC1
noncomputable section
set_option linter.unusedSimpArgs false
namespace Go.Sp
open Go Go.Sx
theorem Cg:∀env,Sorts fZ.sorts env->Ya.vc JI env:=by
 intro env h;obtain ⟨S,r,rfl,hS,hr⟩:=zB (l:=stS) (m:=[false]) h;have hS:St S:=⟨hS⟩;obtain ⟨k,rfl⟩:=OL hr;have qqB:(S++[D.i k])[281]?=some (.i k):=by rw [hS.r 281 (by omega)];rfl
 have d1:=hS.i (r:=[.i k]) 1 (by kernel_rfl);have d3:=hS.i (r:=[.i k]) 3 (by kernel_rfl);have d5:=hS.i (r:=[.i k]) 5 (by kernel_rfl);have d24:=hS.i (r:=[.i k]) 24 (by kernel_rfl);have d26:=hS.i (r:=[.i k]) 26 (by kernel_rfl);have d31:=hS.i (r:=[.i k]) 31 (by kernel_rfl);have d33:=hS.i (r:=[.i k]) 33 (by kernel_rfl);have d36:=hS.i (r:=[.i k]) 36 (by kernel_rfl);have q:∀{j:Nat} {l:List E},(PE.pr j (rgs 0 282 l)).den JI (S++[.i k])↔_:=fun {j l}=>su (m:=1) hS.len rfl (Nat.le_refl _);simp only [Ya,Tree.q,Tree.l,Tree.g,Tree.h,Tree.r,Tree.z,Tree.vc,E.den,BO.ev,qqB,d1,d3,d5,d24,d26,d31,d33,d36,q,qg,Option.some.injEq,exists_eq_left',List.take_succ_cons,List.take_zero,List.cons_append,List.nil_append,p20 hS,D.i.injEq,forall_eq',and_true,gD,bE,qz];clear d1 d3 d5 d24 d26 d31 d33 d36 q qqB h hr
 repeat' first | apply And.intro | intro _
 all_goals simp [*]
set_option maxHeartbeats 2000000 in
theorem Cb:∀env,Sorts fJ.sorts env->Ye.vc JI env:=by
 intro env h;obtain ⟨S,r,rfl,hS,hr⟩:=zB (l:=stS) (m:=[false,false]) h;have hS:St S:=⟨hS⟩;obtain ⟨k,i,rfl⟩:=Rs hr;have q:∀{j:Nat} {l:List E},(PE.pr j (rgs 0 283 l)).den JI (S++[.i k,.i i])↔_:=fun {j l}=>su (m:=2) hS.len rfl (Nat.le_refl _);have q0:∀{j:Nat} {l:List E},(PE.pr j (rgs 0 281 l)).den JI (S++[.i k,.i i])↔_:=fun {j l}=>su (m:=0) hS.len rfl (Nat.zero_le _)
 simp (disch:=first | decide | omega) only [Ye,Tree.q,Tree.l,Tree.g,Tree.h,Tree.r,Tree.z,Tree.vc,E.den,BO.ev,hS.i,hS.t,hS.r,q,q0,qg,Option.some.injEq,exists_eq_left',List.take_succ_cons,List.take_zero,List.cons_append,List.nil_append,List.append_nil,p21 hS,p31 hS,p33 hS,D.i.injEq,D.t.injEq,forall_eq',and_true,gD,bE,
   Nat.reduceSub,List.getElem?_cons_zero,List.getElem?_cons_succ,bN,dP,yE,wZ,pF,pR,wV,yI,wX,vV,gL,fC]
 intro hs hi;have b:=rG hs
 have c:k=9->i<gi S 33/\0<=llen (gt S 32 i 1) 2/\llen (gt S 32 i 1) 2<=20:=by
   rintro rfl;have h33:i<gi S 33:=by simpa [qz] using hi.2
   exact ⟨h33,yj _ _,hs.cut i hi.1 h33⟩
 have b0:=b 0 (by omega);have b1:=b 1 (by omega);have b2:=b 2 (by omega);have b3:=b 3 (by omega);have b4:=b 4 (by omega);have b5:=b 5 (by omega);have b6:=b 6 (by omega);have b7:=b 7 (by omega);have b8:=b 8 (by omega);have b9:=b 9 (by omega);have b10:=b 10 (by omega);have b11:=b 11 (by omega);have b12:=b 12 (by omega);have b13:=b 13 (by omega);have b14:=b 14 (by omega);have b15:=b 15 (by omega);simp only [Nat.reduceMul,Nat.reduceAdd] at b0 b1 b2 b3 b4 b5 b6 b7 b8 b9 b10 b11 b12 b13 b14 b15;clear q q0 h hr b;rw [oK,imax]
 repeat' first | apply And.intro | intro _
 all_goals subst_vars
 all_goals first
   | (simp [qj,arF,zS,arB, *];done)
   | (exfalso;simp [qz] at hi;omega)
   | omega
end Go.Sp
end
noncomputable section
set_option linter.unusedSimpArgs false
namespace Go.Sp
open Go Go.Sx
set_option maxHeartbeats 4000000 in
theorem qkT:∀env,Sorts Bn.sorts env->OB.vc JI env:=by
 intro env h;obtain ⟨S,r,rfl,hS,hr⟩:=zB (l:=stS) (m:=[false,false,false]) h;have hS:St S:=⟨hS⟩;obtain ⟨k,i,f,rfl⟩:=YD hr
 simp (disch:=first | decide | omega) only [OB,Tree.q,Tree.l,Tree.g,Tree.h,Tree.r,Tree.z,Tree.vc,E.den,BO.ev,hS.i,hS.t,hS.r,qg,Option.some.injEq,exists_eq_left',List.take_succ_cons,List.take_zero,List.cons_append,List.nil_append,List.append_nil,D.i.injEq,D.t.injEq,forall_eq',and_true,gD,bE,
   Nat.reduceSub,List.getElem?_cons_zero,List.getElem?_cons_succ,bN,dP,yE,wZ,pF,pR,wV,yI,wX,vV,gL,fC,List.append_assoc,q0 hS,q1 hS,q2 hS,q3 hS,p20 hS,p21 hS,p22 hS,p23 hS,p24 hS,p31 hS,p31' hS,p32 hS,p33 hS,p34 hS,p35 hS,p51 hS]
 clear h hr;intro hs;have hd0:∀b:Bool,(decide ((0:Int)≠0)=b)↔b=false:=by intro b;cases b <;> simp
 have hd1:∀b:Bool,(decide ((1:Int)≠0)=b)↔b=true:=by intro b;cases b <;> simp
 simp only [hd0,hd1,zo,decide_eq_false_iff_not,decide_eq_true_iff,decide_eq_decide]
 repeat' first | apply And.intro | intro _
 all_goals subst_vars
 all_goals first
   | omega
   | skip
set_option maxHeartbeats 4000000 in
theorem qqY:∀env,Sorts Bh.sorts env->Ry.vc JI env:=by
 intro env h;obtain ⟨S,r,rfl,hS,hr⟩:=zB (l:=stS) (m:=[false,false,false]) h;have hS:St S:=⟨hS⟩;obtain ⟨k,i,f,rfl⟩:=YD hr
 simp (disch:=first | decide | omega) only [Ry,Tree.q,Tree.l,Tree.g,Tree.h,Tree.r,Tree.z,Tree.vc,E.den,BO.ev,hS.i,hS.t,hS.r,qg,Option.some.injEq,exists_eq_left',List.take_succ_cons,List.take_zero,List.cons_append,List.nil_append,List.append_nil,D.i.injEq,D.t.injEq,forall_eq',and_true,gD,bE,
   Nat.reduceSub,List.getElem?_cons_zero,List.getElem?_cons_succ,bN,dP,yE,wZ,pF,pR,wV,yI,wX,vV,gL,fC,List.append_assoc,q0 hS,q1 hS,q2 hS,q3 hS,p20 hS,p21 hS,p22 hS,p23 hS,p24 hS,p31 hS,p31' hS,p32 hS,p33 hS,p34 hS,p35 hS,p51 hS]
 clear h hr;rintro hs ⟨hh,k1,k2⟩;obtain ⟨i0,i1,f0,f1,hx⟩:=qZ hh
 have c:k=9->llen (gt S 32 i 1) 2<=20:=by
   rintro rfl;exact hs.cut i i0 (by simpa [qz] using i1)
 clear hs hh;have hk:k=7\/k=8\/k=9\/k=10\/k=11:=by omega
 rcases hk with rfl | rfl | rfl | rfl | rfl
 . simp only [qz,qj,Int.reduceEq,if_true,if_false] at i1 f1;have:f=0\/f=1\/f=2:=by omega
   rcases this with rfl | rfl | rfl <;> simp [qd,qh]
 . simp only [qz,qj,Int.reduceEq,if_true,if_false] at i1 f1;have:f=0\/f=1:=by omega
   rcases this with rfl | rfl <;> simp [qd,qh,i0,i1]
 . simp only [qz,qj,Int.reduceEq,if_true,if_false] at i1 f1
   replace c:=c rfl
   simp only [Int.reduceEq,false_imp_iff,true_imp_iff,not_true_eq_false,not_false_eq_true,true_and,and_true];refine ⟨i0,i1,fun h=>by simp [qh,h],fun h=>?_⟩;rw [MC (by omega) (by omega),Vg (by omega),oK,imax];refine ⟨⟨by omega,by omega⟩,by omega,by omega,by omega,by omega,?_⟩;have:(f - 1) % 2=0\/(f - 1) % 2=1:=by omega
   rcases this with e | e <;> simp [qd,qh,h,e]
 . simp [qh]
 . simp only [qz,qj,Int.reduceEq,if_true,if_false,ne_eq,not_true_eq_false,false_or] at i1 f1 hx;simp only [Int.reduceEq,false_imp_iff,true_imp_iff,not_true_eq_false,not_false_eq_true,true_and,and_true];refine ⟨fun h=>⟨i0,i1,by simp [qh,h]⟩,fun h=>⟨fun h1=>⟨i0,by omega,fun h2=>by simp [qh,h1,tr,h2],fun h2=>by simp [qh,h1,tr,h2]⟩,fun h1=>⟨i0,by omega,by simp [qh,h,h1]⟩⟩⟩
end Go.Sp
end
noncomputable section
set_option linter.unusedSimpArgs false
namespace Go.Sp
open Go Go.Sx
set_option maxRecDepth 100000 in
set_option maxHeartbeats 4000000 in
theorem qkV:∀env,Sorts TF.sorts env->OG.vc JI env:=by
 intro env h;obtain ⟨S,r,rfl,hS,hr⟩:=zB (l:=stS) (m:=[false,false,false]) h;have hS:St S:=⟨hS⟩;obtain ⟨k,i,f,rfl⟩:=YD hr
 simp (disch:=first | decide | omega) only [OG,Tree.q,Tree.l,Tree.g,Tree.h,Tree.r,Tree.z,Tree.vc,E.den,BO.ev,hS.i,hS.t,hS.r,qg,Option.some.injEq,exists_eq_left',List.take_succ_cons,List.take_zero,List.cons_append,List.nil_append,List.append_nil,D.i.injEq,D.t.injEq,forall_eq',and_true,gD,bE,
   Nat.reduceSub,List.getElem?_cons_zero,List.getElem?_cons_succ,bN,dP,yE,wZ,pF,pR,wV,yI,wX,vV,gL,fC,List.append_assoc,q0 hS,q1 hS,q2 hS,q3 hS,p20 hS,p21 hS,p22 hS,p23 hS,p24 hS,p31 hS,p31' hS,p32 hS,p33 hS,p34 hS,p35 hS,p51 hS]
 clear h hr;rintro hs ⟨hh,hk⟩;obtain ⟨i0,i1,f0,f1,hx⟩:=qZ hh;clear hs hh;rw [oK,imax];have hk:k=1\/k=2\/k=3\/k=4\/k=5\/k=6\/k=16:=by omega
 have e3:f=0\/f=1\/f=2\/f=3\/f=4\/5<=f:=by omega
 rcases hk with rfl | rfl | rfl | rfl | rfl | rfl | rfl
 all_goals
   simp only [qz,qj,Int.reduceEq,if_true,if_false] at i1 f1;simp only [Int.reduceEq,false_imp_iff,true_imp_iff,not_true_eq_false,not_false_eq_true,true_and,and_true]
   repeat' first | apply And.intro | intro _
   all_goals first
     | omega
     | (rcases e3 with rfl | rfl | rfl | rfl | rfl | h <;> first | omega | (simp [qd,qh,tr, *];done))
     | (have e:f - 7=f - 7:=rfl;subst_vars;simp [qh];done)
     | (simp [qh, *];done)
     | (simp [qh];have e:f.toNat=7+(f - 7).toNat:=by omega
        rw [e];simp [*];done)
     | (simp [qh];omega)
     | skip
end Go.Sp
end
noncomputable section
set_option linter.unusedSimpArgs false
namespace Go.Sp
open Go Go.Sx
set_option maxRecDepth 100000 in
set_option maxHeartbeats 4000000 in
theorem vAr:∀env,Sorts cAr.sorts env->tAr.vc JI env:=by
 intro env h;obtain ⟨A,r,rfl,hA,hr⟩:=zB (l:=arS) (m:=[false,false]) h;obtain ⟨k,f,rfl⟩:=Rs hr;have hn:A.length=15:=(y7 hA).1;have e15:(A++[D.i k,.i f])[15]?=some (.i k):=by rw [List.getElem?_append_right (by omega),hn];rfl
 have e16:(A++[D.i k,.i f])[16]?=some (.i f):=by rw [List.getElem?_append_right (by omega),hn];rfl
 simp (disch:=first | decide | omega) only [tAr,Tree.q,Tree.l,Tree.g,Tree.h,Tree.r,Tree.z,Tree.vc,E.den,BO.ev,qk2 hA,qk1 hA,e15,e16,q15 hn,p36 hn,p26 hn,qg,Option.some.injEq,exists_eq_left',List.take_succ_cons,List.take_zero,List.cons_append,List.nil_append,List.append_nil,D.i.injEq,D.t.injEq,forall_eq',and_true,gD,bE,
   Nat.reduceSub,List.getElem?_cons_zero,List.getElem?_cons_succ,bN,dP,yE,wZ,pF,pR,wV,yI,wX,vV,gL,fC,List.append_assoc]
 clear h hr e15 e16;rintro ⟨k1,k2,f0,f1,f2⟩;have hk:k=12\/k=13\/k=14\/k=15:=by omega
 have e3:k=12->f=0\/f=1\/f=2\/f=3\/f=4\/f=5\/f=6\/f=7\/f=8:=by
   rintro rfl;simp only [arF,Int.reduceEq,if_true,if_false] at f1;omega
 have e2:f % 2=0\/f % 2=1:=by omega
 rw [MC f0 (by omega),Vg f0];rcases hk with rfl | rfl | rfl | rfl
 all_goals
   simp only [arF,Int.reduceEq,if_true,if_false] at f1;simp only [Int.reduceEq,false_imp_iff,true_imp_iff,not_true_eq_false,not_false_eq_true,true_and,and_true]
   try replace e3:=e3 rfl
   repeat' first | apply And.intro | intro _
   all_goals first
     | omega
     | (rcases e2 with e | e <;> simp [qd,arG,e];done)
     | (rcases e3 with rfl | rfl | rfl | rfl | rfl | rfl | rfl | rfl | rfl <;> simp [qd,arG,tr, *];done)
     | skip
theorem EH {S:List D} (hs:Small S) {k i f:Int} (k1:12<=k) (k2:k<=15) (f0:0<=f) (f1:f<qj S k i) (j a:Nat) (hj:j<16) (hi:i=j) (ha:a=41+15*j) :
   (12<=k/\k<=15/\0<=f/\f<arF (arQ S a) k/\f<=2000)/\∀n:Int,n=arG (arQ S a) k f->n=qh S k i f:=by
 subst hi;have e:arP S (j:Int)=arQ S a:=by rw [ha];simp [arP,arQ,arB]
 have b:=rG hs j hj;have g8:gi (arP S (j:Int)) 8=gi S (49+15*j):=by rw [zS (by decide)];simp [arB];congr 1;omega
 have g11:gi (arP S (j:Int)) 11=gi S (52+15*j):=by rw [zS (by decide)];simp [arB];congr 1;omega
 have g13:gi (arP S (j:Int)) 13=gi S (54+15*j):=by rw [zS (by decide)];simp [arB];congr 1;omega
 rw [<-e];have hk:k=12\/k=13\/k=14\/k=15:=by omega
 rcases hk with rfl | rfl | rfl | rfl
 all_goals
   simp only [qj,arF,Int.reduceEq,if_true,if_false,g8,g11,g13] at f1;refine ⟨⟨k1,k2,f0,by simp only [arF,Int.reduceEq,if_true,if_false,g8,g11,g13];omega,by omega⟩,fun n h=>by simp [qh,h]⟩
set_option maxRecDepth 100000 in
set_option maxHeartbeats 4000000 in
theorem qkC:∀env,Sorts Wj.sorts env->OD.vc JI env:=by
 intro env h;obtain ⟨S,r,rfl,hS,hr⟩:=zB (l:=stS) (m:=[false,false,false]) h;have hS:St S:=⟨hS⟩;obtain ⟨k,i,f,rfl⟩:=YD hr
 simp (disch:=first | decide | omega) only [OD,Tree.q,Tree.l,Tree.g,Tree.h,Tree.r,Tree.z,Tree.vc,E.den,BO.ev,hS.i,hS.t,hS.r,qg,Option.some.injEq,exists_eq_left',List.take_succ_cons,List.take_zero,List.cons_append,List.nil_append,List.append_nil,D.i.injEq,D.t.injEq,forall_eq',and_true,gD,bE,
   Nat.reduceSub,List.getElem?_cons_zero,List.getElem?_cons_succ,bN,dP,yE,wZ,pF,pR,wV,yI,wX,vV,gL,fC,List.append_assoc,q0 hS,q1 hS,q2 hS,q3 hS,p20 hS,p21 hS,p22 hS,p23 hS,p24 hS,p31 hS,p31' hS,p32 hS,p33 hS,p34 hS,p35 hS,p51 hS,q4 hS,qa hS,qb hS,qwT hS,qwC hS]
 clear h hr;rintro ⟨hs,hh,k1,k2⟩;obtain ⟨i0,i1,f0,f1,hx⟩:=qZ hh
 have i16:12<=k->k<=15->i<16:=by
   intro h1 h2;have hk:k=12\/k=13\/k=14\/k=15:=by omega
   rcases hk with rfl | rfl | rfl | rfl <;> simpa [qz] using i1
 have g:=fun (j:Nat) (hj:j<16) (h1:12<=k) (h2:k<=15) (hi:i=j)=>EH hs h1 h2 f0 f1 j _ hj hi rfl;clear hx f0 f1 i1;have c:(12<=k/\k<=15)\/(1<=k/\k<=6\/k=16)\/(7<=k/\k<=11):=by omega
 rcases c with c | c | c
 . replace i16:=i16 c.1 c.2
   have hk:k=12\/k=13\/k=14\/k=15:=by omega
   have hi:i=0\/i=1\/i=2\/i=3\/i=4\/i=5\/i=6\/i=7\/i=8\/i=9\/i=10\/i=11\/i=12\/i=13\/i=14\/i=15:=by omega
   rcases hk with rfl | rfl | rfl | rfl
   all_goals
     simp only [Int.reduceEq,false_imp_iff,true_imp_iff,not_true_eq_false,not_false_eq_true,true_and,and_true];rcases hi with rfl | rfl | rfl | rfl | rfl | rfl | rfl | rfl | rfl | rfl | rfl | rfl | rfl | rfl | rfl | rfl
     . simp only [Int.reduceEq,false_imp_iff,true_imp_iff,not_true_eq_false,not_false_eq_true,true_and,and_true];exact g 0 (by decide) (by decide) (by decide) rfl
     . simp only [Int.reduceEq,false_imp_iff,true_imp_iff,not_true_eq_false,not_false_eq_true,true_and,and_true];exact g 1 (by decide) (by decide) (by decide) rfl
     . simp only [Int.reduceEq,false_imp_iff,true_imp_iff,not_true_eq_false,not_false_eq_true,true_and,and_true];exact g 2 (by decide) (by decide) (by decide) rfl
     . simp only [Int.reduceEq,false_imp_iff,true_imp_iff,not_true_eq_false,not_false_eq_true,true_and,and_true];exact g 3 (by decide) (by decide) (by decide) rfl
     . simp only [Int.reduceEq,false_imp_iff,true_imp_iff,not_true_eq_false,not_false_eq_true,true_and,and_true];exact g 4 (by decide) (by decide) (by decide) rfl
     . simp only [Int.reduceEq,false_imp_iff,true_imp_iff,not_true_eq_false,not_false_eq_true,true_and,and_true];exact g 5 (by decide) (by decide) (by decide) rfl
     . simp only [Int.reduceEq,false_imp_iff,true_imp_iff,not_true_eq_false,not_false_eq_true,true_and,and_true];exact g 6 (by decide) (by decide) (by decide) rfl
     . simp only [Int.reduceEq,false_imp_iff,true_imp_iff,not_true_eq_false,not_false_eq_true,true_and,and_true];exact g 7 (by decide) (by decide) (by decide) rfl
     . simp only [Int.reduceEq,false_imp_iff,true_imp_iff,not_true_eq_false,not_false_eq_true,true_and,and_true];exact g 8 (by decide) (by decide) (by decide) rfl
     . simp only [Int.reduceEq,false_imp_iff,true_imp_iff,not_true_eq_false,not_false_eq_true,true_and,and_true];exact g 9 (by decide) (by decide) (by decide) rfl
     . simp only [Int.reduceEq,false_imp_iff,true_imp_iff,not_true_eq_false,not_false_eq_true,true_and,and_true];exact g 10 (by decide) (by decide) (by decide) rfl
     . simp only [Int.reduceEq,false_imp_iff,true_imp_iff,not_true_eq_false,not_false_eq_true,true_and,and_true];exact g 11 (by decide) (by decide) (by decide) rfl
     . simp only [Int.reduceEq,false_imp_iff,true_imp_iff,not_true_eq_false,not_false_eq_true,true_and,and_true];exact g 12 (by decide) (by decide) (by decide) rfl
     . simp only [Int.reduceEq,false_imp_iff,true_imp_iff,not_true_eq_false,not_false_eq_true,true_and,and_true];exact g 13 (by decide) (by decide) (by decide) rfl
     . simp only [Int.reduceEq,false_imp_iff,true_imp_iff,not_true_eq_false,not_false_eq_true,true_and,and_true];exact g 14 (by decide) (by decide) (by decide) rfl
     . simp only [Int.reduceEq,false_imp_iff,true_imp_iff,not_true_eq_false,not_false_eq_true,true_and,and_true];exact g 15 (by decide) (by decide) (by decide) rfl
 . have hk:k=1\/k=2\/k=3\/k=4\/k=5\/k=6\/k=16:=by omega
   rcases hk with rfl | rfl | rfl | rfl | rfl | rfl | rfl <;> simp only [Int.reduceEq,false_imp_iff,true_imp_iff,not_true_eq_false,not_false_eq_true,true_and,and_true] <;> exact ⟨hs,hh,by first | omega | exact Or.inr trivial⟩
 . have hk:k=7\/k=8\/k=9\/k=10\/k=11:=by omega
   rcases hk with rfl | rfl | rfl | rfl | rfl <;> simp only [Int.reduceEq,false_imp_iff,true_imp_iff,not_true_eq_false,not_false_eq_true,true_and,and_true] <;> exact ⟨hs,hh,by omega⟩
end Go.Sp
end
noncomputable section
set_option linter.unusedSimpArgs false
namespace Go.Sp
open Go Go.Sx
theorem Rp {r:List D} (h:Sorts [true,false,true,false] r):∃f n g m,r=[.t f,.i n,.t g,.i m]:=by
 match r,h with
 | [.t f,.i n,.t g,.i m],_=>exact ⟨f,n,g,m,rfl⟩
theorem p52 {f g:Int->Nat->Int} {n:Int}:JI.pr 52 [.t f,.t g,.i n]↔∀r:Int,0<=r->r<n->∀c,c<4->f r c=g r c:=Iff.rfl
set_option maxRecDepth 100000 in
set_option maxHeartbeats 4000000 in
theorem UL:∀env,Sorts KN.sorts env->Rw.vc JI env:=by
 intro env h;obtain ⟨f,n,g,m,rfl⟩:=Rp h;simp only [Rw,Tree.q,Tree.l,Tree.g,Tree.h,Tree.r,Tree.z,Tree.vc,E.den,BO.ev,qg,QS,Option.some.injEq,exists_eq_left',D.i.injEq,D.t.injEq,forall_eq',and_true,gD,bE,List.cons_append,List.nil_append,List.getElem?_cons_zero,List.getElem?_cons_succ,bN,dP,yE,wZ,p25,p52,oK,imax];intro n0 m0 hn hm;have no:∀{p:Prop},¬p->((0:Int)≠0↔p):=fun h=>⟨fun h0=>absurd rfl h0,fun hp=>absurd hp h⟩;refine ⟨fun h=>no fun e=>h e.1,fun h=>?_⟩;have h:n=m:=Classical.not_not.1 h;subst h;refine ⟨fun r h0 h1=>by omega,fun i i0 i1 hi=>⟨fun hl=>⟨hl,fun hc=>no fun e=>hc ?_,fun hc=>?_⟩,fun hl=>?_⟩⟩
 . exact ⟨e.2 i i0 hl 0 (by omega),e.2 i i0 hl 1 (by omega),e.2 i i0 hl 2 (by omega),e.2 i i0 hl 3 (by omega),by omega⟩
 . have hc:=Classical.not_not.1 hc;refine ⟨⟨by omega,by omega⟩,by omega,by omega,fun r h0 h1 c h2=>?_,by omega,by omega⟩;by_cases e:r=i
   . subst e;have:c=0\/c=1\/c=2\/c=3:=by omega
     rcases this with rfl | rfl | rfl | rfl
     . exact hc.1
     . exact hc.2.1
     . exact hc.2.2.1
     . exact hc.2.2.2.1
   . exact hi r h0 (by omega) c h2
 . refine ⟨fun _=>⟨rfl,fun r h0 h1 c h2=>hi r h0 (by omega) c h2⟩,fun _=>by omega⟩
end Go.Sp
end
noncomputable section
set_option linter.unusedSimpArgs false
namespace Go.Sp
open Go Go.Sx
set_option maxRecDepth 100000 in
set_option maxHeartbeats 4000000 in
theorem bD:∀env,Sorts zD.sorts env->vk.vc JI env:=by
 intro env h;have hS:St env:=⟨h⟩;rw [<-List.append_nil env];generalize env=S at *
 simp (disch:=first | decide | omega) only [vk,Tree.q,Tree.l,Tree.g,Tree.h,Tree.r,Tree.z,Tree.vc,E.den,BO.ev,hS.i,hS.t,hS.r,qg,Option.some.injEq,exists_eq_left',List.take_succ_cons,List.take_zero,List.cons_append,List.nil_append,List.append_nil,D.i.injEq,D.t.injEq,forall_eq',and_true,gD,bE,
   Nat.reduceSub,List.getElem?_cons_zero,List.getElem?_cons_succ,bN,dP,yE,wZ,pF,pR,wV,yI,wX,vV,gL,fC,List.append_assoc,q0 hS,q0' hS,q1 hS,q2 hS,q3 hS,p20 hS,p21 hS,p22 hS,p23 hS,p24 hS,p31 hS,p31' hS,p32 hS,p33 hS,p34 hS,p35 hS,p51 hS]
 clear h;intro hs;rw [oK,imax];refine ⟨rfl,fun k F m k1 k17 m0 hm=>⟨fun k16 i G n i0 ib n0 hn t ht=>⟨fun hi f H p f0 fb p0 hp=>⟨⟨i0,ht ▸ hi⟩,fun w hw=>⟨fun hf a ha=>⟨fun a1=>?_,fun a1=>?_⟩,fun hf=>?_⟩⟩,fun hi=>?_⟩,fun k16=>?_⟩⟩
 . have hh:zo S k i f=true:=by rw [<-ha];simpa using a1
   have fl:=lH hs k1 k16 i0 (ht ▸ hi);have gl:eP k<=1200:=by unfold eP;split <;> (try split) <;> (try split) <;> omega
   have le:=iV hs k1 k16 i0 (i:=i) (f:=f);rw [<-hp,zK] at le;refine ⟨⟨hs,hh,k1,k16⟩,fun x hx=>⟨by omega,⟨by omega,by omega⟩,by omega,by omega,by omega,?_,by omega,by omega⟩⟩;rw [vo p0,hp,Yi f0,if_pos hh,hx]
 . have hh:¬zo S k i f=true:=by rw [<-ha];simp [a1]
   have fl:=lH hs k1 k16 i0 (ht ▸ hi);have gl:eP k<=1200:=by unfold eP;split <;> (try split) <;> (try split) <;> omega
   refine ⟨⟨by omega,by omega⟩,by omega,by omega,?_,by omega,by omega⟩;rw [hp,Yi f0,if_neg hh,List.append_nil]
 . have tl:=Wm hs k1 k16;have gl:Xv k<=1100:=by unfold Xv;split <;> (try split) <;> omega
   refine ⟨⟨by omega,by omega⟩,by omega,by omega,?_,by omega,by omega⟩;rw [hp,Yu i0 f0 (by omega)]
 . refine ⟨⟨by omega,by omega⟩,by omega,by omega,?_,by omega,by omega⟩;rw [hn,BM k1 i0 (by omega)]
 . have e:k=17:=by omega
   subst e;exact ⟨m0,hm.trans Vx⟩
end Go.Sp
end
noncomputable section
set_option linter.unusedSimpArgs false
namespace Go.Sp
open Go Go.Sx
set_option maxRecDepth 100000 in
set_option maxHeartbeats 4000000 in
theorem qqX:∀env,Sorts o7.sorts env->Rx.vc JI env:=by
 intro env h;obtain ⟨S,T,rfl,hS,hT⟩:=zB (l:=stS) (m:=stS) h;have hS:St S:=⟨hS⟩;have hT:St T:=⟨hT⟩;rw [<-List.append_nil T]
 simp (disch:=first | decide | omega) only [Rx,Tree.q,Tree.l,Tree.g,Tree.h,Tree.r,Tree.z,Tree.vc,E.den,BO.ev,hS.i,hS.t,hS.r,qg,Option.some.injEq,exists_eq_left',List.take_succ_cons,List.take_zero,List.cons_append,List.nil_append,D.i.injEq,D.t.injEq,forall_eq',and_true,gD,bE,
   Nat.reduceSub,List.getElem?_cons_zero,List.getElem?_cons_succ,bN,dP,yE,wZ,pF,pR,wV,yI,wX,vV,gL,fC,List.append_assoc,q0 hS,q1 hS,q2 hS,q3 hS,p20 hS,p21 hS,p22 hS,p23 hS,p24 hS,p31 hS,p31' hS,p32 hS,p33 hS,p34 hS,p35 hS,p51 hS,hT.i,hT.t,hT.r,qq0 hS hT,qq3 hS hT,qT hS hT,p31 hT,p31' hT,p24 hT,p40 hS hT,p41 hS hT,p53,p25,QS]
 clear h;intro hs ht A n hA B m hB;rw [oK,imax];have a7:=hs.a7;have b7:=ht.a7;have no:¬okD S T->0<=(0:Int)/\((6:Int)=0/\okD S T/\qF (fun x x_1=>0) 0=dX (j6 S) (j6 T)\/True/\True/\¬okD S T):=fun h=>⟨Int.le_refl _,Or.inr ⟨trivial,trivial,h⟩⟩
 have ln:n=m->okD S T->∀r:Int,0<=r->r<n->A r 0=B r 0/\A r 1=B r 1/\A r 2=B r 2:=by
   rintro rfl h;have:=h.1;rw [<-hA.2,<-hB.2] at this;exact nQ.1 this
 have la:=all_le hs;rw [<-hA.2,zK] at la;refine ⟨fun h=>no fun e=>h ?_,fun h=>⟨a7.1,b7.1,⟨by omega,by omega⟩,⟨by omega,by omega⟩,fun w hw=>⟨fun h0=>no fun e=>hw.2 e.2 h0,fun h0=>⟨hA.1,⟨fun r h1 h2=>by omega,rfl⟩,fun i F d i0 i1 d0 hd=>⟨fun hl=>⟨by omega,fun c0=>no fun e=>c0 (ln (Classical.not_not.1 h) e i i0 hl).1,fun c0=>⟨fun c1=>no fun e=>c1 (ln (Classical.not_not.1 h) e i i0 hl).2.1,fun c1=>⟨fun c2=>no fun e=>c2 (ln (Classical.not_not.1 h) e i i0 hl).2.2,fun c2=>⟨fun c3=>?_,fun c3=>?_⟩⟩⟩⟩,fun hl=>?_⟩⟩⟩⟩⟩
 . have:=iC e.1;rw [<-hA.2,<-hB.2,zK,zK] at this;omega
 . have ld:=tY (l:=qF A i) (m:=qF B i);rw [<-hd.2,zK,zK] at ld;refine ⟨by omega,⟨by omega,by omega⟩,by omega,by omega,by omega,⟨fun r r0 r1=>?_,?_⟩,by omega,by omega⟩
   . by_cases e:r=i
     . subst e;exact ⟨Classical.not_not.1 c0,Classical.not_not.1 c1,Classical.not_not.1 c2⟩
     . exact hd.1 r r0 (by omega)
   . rw [vo d0,lN i0,if_neg c3,hd.2]
 . refine ⟨⟨by omega,by omega⟩,by omega,by omega,⟨fun r r0 r1=>?_,?_⟩,by omega,by omega⟩
   . by_cases e:r=i
     . subst e;exact ⟨Classical.not_not.1 c0,Classical.not_not.1 c1,Classical.not_not.1 c2⟩
     . exact hd.1 r r0 (by omega)
   . rw [lN i0,if_pos (Classical.not_not.1 c3),List.append_nil,hd.2]
 . have e:i=n:=by omega
   subst e;have h:=Classical.not_not.1 h;subst h;exact ⟨d0,Or.inl ⟨trivial,⟨by rw [<-hA.2,<-hB.2];exact nQ.2 hd.1,hw.1 h0⟩,by rw [<-hA.2,<-hB.2];exact hd.2⟩⟩
set_option maxRecDepth 100000 in
set_option maxHeartbeats 4000000 in
theorem Oi:∀env,Sorts KP.sorts env->BI.vc JI env:=by
 intro env h;obtain ⟨S,T,rfl,hS,hT⟩:=zB (l:=stS) (m:=stS) h;have hS:St S:=⟨hS⟩;have hT:St T:=⟨hT⟩;rw [<-List.append_nil T]
 simp (disch:=first | decide | omega) only [BI,Tree.q,Tree.l,Tree.g,Tree.h,Tree.r,Tree.z,Tree.vc,E.den,BO.ev,hS.i,hS.t,hS.r,qg,Option.some.injEq,exists_eq_left',List.take_succ_cons,List.take_zero,List.cons_append,List.nil_append,D.i.injEq,D.t.injEq,forall_eq',and_true,gD,bE,
   Nat.reduceSub,List.getElem?_cons_zero,List.getElem?_cons_succ,bN,dP,yE,wZ,pF,pR,wV,yI,wX,vV,gL,fC,List.append_assoc,q0 hS,q1 hS,q2 hS,q3 hS,p20 hS,p21 hS,p22 hS,p23 hS,p24 hS,p31 hS,p31' hS,p32 hS,p33 hS,p34 hS,p35 hS,p51 hS,hT.i,hT.t,hT.r,qq0 hS hT,qq3 hS hT,qT hS hT,p31 hT,p31' hT,p24 hT,p40 hS hT,p41 hS hT,p53,p25,QS]
 clear h;intro hs ht F n e h
 have z:n=0↔qF F n=[]:=by
   constructor
   . rintro rfl;rfl
   . intro q;have:=congrArg List.length q;rw [zK] at this;simp at this;omega
 refine ⟨fun h0=>?_,fun h0=>?_⟩
 . rcases h.2 with h | h
   . rw [z,h.2.2];exact ⟨fun q=>⟨h.2.1,q⟩,fun q=>q.2⟩
   . omega
 . rcases h.2 with h | h
   . exact absurd h.1 h0
   . exact ⟨fun q=>absurd rfl q,fun q=>absurd q.1 h.2.2⟩
end Go.Sp
end
noncomputable section
set_option linter.unusedSimpArgs false
namespace Go.Sp
open Go Go.Sx
theorem cp {S:List D} (h:St S) {i:Int} {g:Int->Nat->Int}:qg JI (S++[.i i,.t g]) (rgs 0 32 ([.var 282]++rgs 33 248 []))=some (S.set 32 (.t g)):=by
 have e:(S++[D.i i,.t g])[282]?=some (.t g):=by rw [h.r 282 (by omega)];rfl
 have l:=h.len;rw [KW (by simp [l])];simp only [List.cons_append,List.nil_append,qg,E.den,e];rw [KW (by simp [l])];simp only [qg,Option.map_some,Option.some.injEq];rw [List.set_eq_take_append_cons_drop,if_pos (by omega),List.drop_zero,List.take_append_of_le_length (by omega),List.drop_append_of_le_length (by omega),List.take_append_of_le_length (by simp [l]),List.take_of_length_le (l:=S.drop 33) (by simp [l]),List.append_nil]
theorem Gw {x:Int}:llen (xG (gG x 2) (llen x 2) 2) 2=llen x 2/\∀i c:Int,0<=i->i<llen x 2->0<=c->c<2->dY (xG (gG x 2) (llen x 2) 2) i 2 c=dY x i 2 c:=by
 have e:gy (xG (gG x 2) (llen x 2) 2)=(List.range ((llen x 2).toNat*2)).map fun q=>(gy x).getD q 0:=by
   rw [xG,xw];apply List.map_congr_left;intro q _;show (gy x).getD _ 0=_
   congr 1
   show ((q / 2:Nat):Int).toNat*2+q % 2=q;omega
 have n0:0<=llen x 2:=yj x 2;constructor
 . rw [llen,e,List.length_map,List.length_range];show (((llen x 2).toNat*2 / 2:Nat):Int)=llen x 2;omega
 . intro i c i0 i1 c0 c1;rw [dY,e,dY];show ((List.range ((llen x 2).toNat*2)).map fun q=>(gy x).getD q 0).getD (i.toNat*2+c.toNat) 0=(gy x).getD (i.toNat*2+c.toNat) 0;have h:i.toNat*2+c.toNat<(llen x 2).toNat*2:=by omega
   rw [List.getD_eq_getElem?_getD,List.getElem?_map,List.getElem?_range h];rfl
theorem dV {f:Int->Nat->Int} {n:Int}:jq f n f:=fun _ _ _=>⟨rfl,rfl,fun _ _ _ _ _ _=>rfl⟩
theorem Qo {f g:Int->Nat->Int} {n i:Int} (h:jq f n g) (i0:0<=i) (i1:i<n):jq f n (qd g i 1 (xG (gG (g i 1) 2) (llen (g i 1) 2) 2)):=by
 intro r r0 r1;have a:=h r r0 r1;have e0:qd g i 1 (xG (gG (g i 1) 2) (llen (g i 1) 2) 2) r 0=g r 0:=by simp [qd]
 rw [e0];by_cases e:r=i
 . subst e;have e1:qd g r 1 (xG (gG (g r 1) 2) (llen (g r 1) 2) 2) r 1=xG (gG (g r 1) 2) (llen (g r 1) 2) 2:=by simp [qd]
   rw [e1];refine ⟨a.1,Gw.1.trans a.2.1,fun j c j0 j1 c0 c1=>?_⟩;rw [Gw.2 j c j0 (by rw [a.2.1];exact j1) c0 c1];exact a.2.2 j c j0 j1 c0 c1
 . have e1:qd g i 1 (xG (gG (g i 1) 2) (llen (g i 1) 2) 2) r 1=g r 1:=by simp [qd,e]
   rw [e1];exact a
end Go.Sp
end
