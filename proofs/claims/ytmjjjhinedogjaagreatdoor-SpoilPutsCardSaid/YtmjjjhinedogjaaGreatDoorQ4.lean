/-
  The reference's Put, joined; SpoilPuts holds of the program, if awake does. Conditions: none.
-/
import Derived.Test.YtmjjjhinedogjaaGreatDoorQ2
import Derived.Test.YtmjjjhinedogjaaGreatDoorQ1
import Derived.Test.YtmjjjhinedogjaaGreatDoorK4
import Derived.Test.YtmjjjhinedogjaaGreatDoorR0
import Derived.Test.YtmjjjhinedogjaaGreatDoorR1
import Derived.Test.YtmjjjhinedogjaaGreatDoorR2
import Derived.Test.YtmjjjhinedogjaaGreatDoorR3
import Derived.Test.YtmjjjhinedogjaaGreatDoorK6
import Derived.Test.YtmjjjhinedogjaaGreatDoorQ3
import Derived.Test.YtmjjjhinedogjaaGreatDoorB4
noncomputable section
namespace Go.Sp
open Go Go.Sx Go.Proofs
set_option maxRecDepth 1000000
theorem csR:∀c∈[Bn,Wj,KR],COk JI Tryz.prog gl0 c:=qx Sq (qx Sz (qx Lg qG))
theorem qkS:∀env,Sorts (zL 1).sorts env->(kR 1).vc JI env:=kH (kk:=1) (by omega) fun _ _ _ _ _ h=>rk1 h
theorem qkR:∀env,Sorts (zL 2).sorts env->(kR 2).vc JI env:=kH (kk:=2) (by omega) fun _ _ _ _ _ h=>rk2 h
theorem qkP:∀env,Sorts (zL 3).sorts env->(kR 3).vc JI env:=kH (kk:=3) (by omega) fun _ _ _ _ _ h=>rk3 h
theorem qkN:∀env,Sorts (zL 4).sorts env->(kR 4).vc JI env:=kH (kk:=4) (by omega) fun _ _ _ _ _ h=>rk4 h
theorem qkM:∀env,Sorts (zL 5).sorts env->(kR 5).vc JI env:=kH (kk:=5) (by omega) fun _ _ _ _ _ h=>rk5 h
theorem qkH:∀env,Sorts (zL 6).sorts env->(kR 6).vc JI env:=kH (kk:=6) (by omega) fun _ _ _ _ _ h=>rk6 h
theorem qkF:∀env,Sorts (zL 7).sorts env->(kR 7).vc JI env:=kH (kk:=7) (by omega) fun _ _ _ _ _ h=>rk7 h
theorem qkD:∀env,Sorts (zL 8).sorts env->(kR 8).vc JI env:=kH (kk:=8) (by omega) fun _ _ _ _ _ h=>rk8 h
theorem qkB:∀env,Sorts (zL 9).sorts env->(kR 9).vc JI env:=kH (kk:=9) (by omega) fun _ _ _ _ _ h=>rk9 h
theorem qqJ:∀env,Sorts (zL 10).sorts env->(kR 10).vc JI env:=kH (kk:=10) (by omega) fun _ _ _ _ _ h=>qk9 h
theorem qqZ:∀env,Sorts (zL 11).sorts env->(kR 11).vc JI env:=kH (kk:=11) (by omega) fun _ _ _ _ _ h=>qk8 h
theorem qqQ:∀env,Sorts (zL 12).sorts env->(kR 12).vc JI env:=kH (kk:=12) (by omega) fun _ _ _ _ _ h=>qk7 h
theorem qqe:∀env,Sorts (zL 13).sorts env->(kR 13).vc JI env:=kH (kk:=13) (by omega) fun _ _ _ _ _ h=>qk6 h
theorem qqa:∀env,Sorts (zL 14).sorts env->(kR 14).vc JI env:=kH (kk:=14) (by omega) fun _ _ _ _ _ h=>qk5 h
theorem qqo:∀env,Sorts (zL 15).sorts env->(kR 15).vc JI env:=kH (kk:=15) (by omega) fun _ _ _ _ _ h=>qk4 h
theorem qqi:∀env,Sorts (zL 16).sorts env->(kR 16).vc JI env:=kH (kk:=16) (by omega) fun _ _ _ _ _ h=>qk3 h
structure QR3 (m:Mask):Prop where
 h:∀ds,Sorts (zL 3).sorts ds->(qK spS (jE Tryz.prog) 3000 (zL 3) m).vc JI ds
def mr3 (i:Nat):Mask:=mR3.getD i .none
theorem qR3 (i:Nat) (h:qK spS (jE Tryz.prog) 3000 (zL 3) (mR3.getD i .none)=(kR 3).qY (mR3.getD i .none)):QR3 (mr3 i):=⟨lu h qkP⟩
theorem qqp:QR3 (mr3 0):=@qR3 (@OfNat.ofNat.{0} Nat (nat_lit 0) (instOfNatNat (nat_lit 0))) qzM
theorem qqn:QR3 (mr3 1):=@qR3 (@OfNat.ofNat.{0} Nat (nat_lit 1) (instOfNatNat (nat_lit 1))) qzH
def lR3:List Mask:=[mr3 0,mr3 1]
theorem qxN:∀m∈lR3,QR3 m:=(qc (Q:=QR3) qqp (qc (Q:=QR3) qqn Ju))
theorem qjQ:∀m∈lR3,∀ds,Sorts (zL 3).sorts ds->(qK spS (jE Tryz.prog) 3000 (zL 3) m).vc JI ds:=fun m hm=>(qxN m hm).h
theorem qya:(QT lR3).isAll=true:=by kernel_rfl
structure Zn (m:Mask):Prop where
 h:∀ds,Sorts (zL 12).sorts ds->(qK spS (jE Tryz.prog) 3000 (zL 12) m).vc JI ds
def JY (i:Nat):Mask:=eU.getD i .none
theorem RD (i:Nat) (h:qK spS (jE Tryz.prog) 3000 (zL 12) (eU.getD i .none)=(kR 12).qY (eU.getD i .none)):Zn (JY i):=⟨lu h qqQ⟩
theorem Od:Zn (JY 0):=@RD (@OfNat.ofNat.{0} Nat (nat_lit 0) (instOfNatNat (nat_lit 0))) AA
theorem Ob:Zn (JY 1):=@RD (@OfNat.ofNat.{0} Nat (nat_lit 1) (instOfNatNat (nat_lit 1))) AO
theorem Og:Zn (JY 2):=@RD (@OfNat.ofNat.{0} Nat (nat_lit 2) (instOfNatNat (nat_lit 2))) AU
theorem Ov:Zn (JY 3):=@RD (@OfNat.ofNat.{0} Nat (nat_lit 3) (instOfNatNat (nat_lit 3))) AL
theorem Ox:Zn (JY 4):=@RD (@OfNat.ofNat.{0} Nat (nat_lit 4) (instOfNatNat (nat_lit 4))) AP
def AJ:List Mask:=[JY 0,JY 1,JY 2,JY 3,JY 4]
theorem qjZ:∀m∈AJ,Zn m:=(qc (Q:=Zn) Od (qc (Q:=Zn) Ob (qc (Q:=Zn) Og (qc (Q:=Zn) Ov (qc (Q:=Zn) Ox Ju)))))
theorem EL:∀m∈AJ,∀ds,Sorts (zL 12).sorts ds->(qK spS (jE Tryz.prog) 3000 (zL 12) m).vc JI ds:=fun m hm=>(qjZ m hm).h
theorem qz4:(QT AJ).isAll=true:=by kernel_rfl
theorem qw2:COk JI Tryz.prog gl0 (zL 1):=qN zy (cx:=jE Tryz.prog) csR kR1 qkS
theorem qw1:COk JI Tryz.prog gl0 (zL 2):=qN zy (cx:=jE Tryz.prog) csR kR2 qkR
theorem qw0:COk JI Tryz.prog gl0 (zL 3):=gq (fuel:=3000) zy (cx:=jE Tryz.prog) csR qya qjQ
theorem qwE:COk JI Tryz.prog gl0 (zL 4):=qN zy (cx:=jE Tryz.prog) csR kR4 qkN
theorem qwA:COk JI Tryz.prog gl0 (zL 5):=qN zy (cx:=jE Tryz.prog) csR kR5 qkM
theorem qwO:COk JI Tryz.prog gl0 (zL 6):=qN zy (cx:=jE Tryz.prog) csR kR6 qkH
theorem qwI:COk JI Tryz.prog gl0 (zL 7):=qN zy (cx:=jE Tryz.prog) csR kR7 qkF
theorem qwU:COk JI Tryz.prog gl0 (zL 8):=qN zy (cx:=jE Tryz.prog) csR kR8 qkD
theorem qwL:COk JI Tryz.prog gl0 (zL 9):=qN zy (cx:=qqs Tryz.prog) (qx Sq (qx Sz qG)) kR9 qkB
theorem qzl:COk JI Tryz.prog gl0 (zL 10):=qN zy (cx:=jE Tryz.prog) csR qys qqJ
theorem qzc:COk JI Tryz.prog gl0 (zL 11):=qN zy (cx:=jE Tryz.prog) csR qyr qqZ
theorem qzt:COk JI Tryz.prog gl0 (zL 12):=gq (fuel:=3000) zy (cx:=jE Tryz.prog) csR qz4 EL
theorem qzs:COk JI Tryz.prog gl0 (zL 13):=qN zy (cx:=jE Tryz.prog) csR qyp qqe
theorem qzr:COk JI Tryz.prog gl0 (zL 14):=qN zy (cx:=jE Tryz.prog) csR qyn qqa
theorem qzp:COk JI Tryz.prog gl0 (zL 15):=qN zy (cx:=jE Tryz.prog) csR qym qqo
theorem qzn:COk JI Tryz.prog gl0 (zL 16):=qN zy (cx:=jE Tryz.prog) csR qyh qqi
theorem qql:∀env,Sorts Bd.sorts env->U1.vc JI env:=by
 intro env h;obtain ⟨S,k,i,f,to,hS,rfl⟩:=nX h;intro hs0 hr0 h1;have hE:=uN hS hs0 hr0;refine aD hE (.inl ⟨.inl ?_,rfl⟩) (by decide);have h1:(E.bin .le (.lit 1) k').den JI (S++[.i k,.i i,.i f,.i to])=some (.i 0):=h1;rw [E.den,dl,hE.dk] at h1;simp only [BO.ev,Option.some.injEq,D.i.injEq,gD] at h1;omega
theorem qqu:∀env,Sorts Bf.sorts env->U2.vc JI env:=by
 intro env h;obtain ⟨S,k,i,f,to,hS,rfl⟩:=nX h;intro hs0 hr0 _ h1;have hE:=uN hS hs0 hr0;refine aD hE (.inl ⟨.inr ?_,rfl⟩) (by decide);have h1:(E.bin .le k' (.lit 16)).den JI (S++[.i k,.i i,.i f,.i to])=some (.i 0):=h1;rw [E.den,dl,hE.dk] at h1;simp only [BO.ev,Option.some.injEq,D.i.injEq,gD] at h1;omega
theorem qzh:COk JI Tryz.prog gl0 Bd:=qN zy (cx:=jE Tryz.prog) csR qyd qql
theorem qzm:COk JI Tryz.prog gl0 Bf:=qN zy (cx:=jE Tryz.prog) csR qyf qqu
theorem Ay:∀j:Nat,j<16->COk JI Tryz.prog gl0 (zL ((j+1:Nat):Int))
 | 0,_=>qw2
 | 1,_=>qw1
 | 2,_=>qw0
 | 3,_=>qwE
 | 4,_=>qwA
 | 5,_=>qwO
 | 6,_=>qwI
 | 7,_=>qwU
 | 8,_=>qwL
 | 9,_=>qzl
 | 10,_=>qzc
 | 11,_=>qzt
 | 12,_=>qzs
 | 13,_=>qzr
 | 14,_=>qzp
 | 15,_=>qzn
 | n+16,h=>absurd h (by omega)
theorem Aq:COk JI Tryz.prog gl0 Bb:=
 COk.split (Bd.pre::Bf.pre::(List.range 16).map fun j=>(zL ((j+1:Nat):Int)).pre) (fun ps h=>by
   rcases List.mem_cons.1 h with rfl | h
   . exact qzh
   rcases List.mem_cons.1 h with rfl | h
   . exact qzm
   obtain ⟨j,hj,rfl⟩:=List.mem_map.1 h;exact Ay j (List.mem_range.1 hj)) fun env hs hp=>by
   obtain ⟨S,k,i,f,to,hS,rfl⟩:=nX hs;have hE:=uN hS (hp (.pr 31 (vs 0)) (List.Mem.head _)) (hp (.rng .i64 (v (NV+3))) (List.Mem.tail _ (List.Mem.head _)))
   have two:∀{l:List PE},(∀p∈l,p.den JI (S++[.i k,.i i,.i f,.i to]))->∀p∈PE.pr 31 (vs 0) :: .rng .i64 (v (NV+3))::l,p.den JI (S++[.i k,.i i,.i f,.i to]):=fun hl p h=>by
     rcases List.mem_cons.1 h with rfl | h
     . exact hp _ (List.Mem.head _)
     rcases List.mem_cons.1 h with rfl | h
     . exact hp _ (List.Mem.tail _ (List.Mem.head _))
     exact hl p h
   have d1:(E.bin .le (.lit 1) k').den JI (S++[.i k,.i i,.i f,.i to])=some (.i (if 1<=k then 1 else 0)):=by rw [E.den,dl,hE.dk];rfl
   have d2:(E.bin .le k' (.lit 16)).den JI (S++[.i k,.i i,.i f,.i to])=some (.i (if k<=16 then 1 else 0)):=by rw [E.den,dl,hE.dk];rfl
   by_cases a:1<=k
   . by_cases b:k<=16
     . refine ⟨_,List.mem_cons_of_mem _ (List.mem_cons_of_mem _ (List.mem_map.2 ⟨k.toNat - 1,List.mem_range.2 (by omega),rfl⟩)),two fun p h=>?_⟩;obtain rfl:=List.mem_singleton.1 h;have e:((k.toNat - 1+1:Nat):Int)=k:=by omega
       rw [e];exact ⟨_,hE.dk,rfl⟩
     . refine ⟨Bf.pre,List.mem_cons_of_mem _ (List.Mem.head _),two fun p h=>?_⟩;rcases List.mem_cons.1 h with rfl | h
       . exact ⟨1,by have d:=d1;rw [if_pos a] at d;exact d,by decide⟩
       obtain rfl:=List.mem_singleton.1 h;show (E.bin .le k' (.lit 16)).den JI _=some (.i 0);rw [d2,if_neg b]
   . refine ⟨Bd.pre,List.Mem.head _,two fun p h=>?_⟩;obtain rfl:=List.mem_singleton.1 h;show (E.bin .le (.lit 1) k').den JI _=some (.i 0);rw [d1,if_neg a]
theorem O9:COk JI Tryz.prog gl0 MP:=qN zy (cx:=UM Tryz.prog) qG qzF qqc
theorem R9 (hA:COk JI Tryz.prog gl0 cAw):COk JI Tryz.prog gl0 TH:=
 qN zy (cx:=UN Tryz.prog) (qx qze (qx qzu (qx Aq (qx Lv (qx Sj (qx Av (qx O9 (qx hA qG)))))))) qzN qqK
#print axioms R9
end Go.Sp
end
noncomputable section
namespace Go.Sp
open Go Go.Sx Go.Proofs
theorem qw6:COk JI Tryz.prog gl0 cAw:=Go.Mg.Lb
theorem JE {w:World}:∀{a b:List Ly} {cs cs2:List Value} {ds ds2:List D},fM w a cs ds->fM w b cs2 ds2->fM w (a++b) (cs++cs2) (ds++ds2)
 | [],_,[],_,[],_,_,h=>h
 | .c _::a,_,_::cs,_,.i _::ds,_,h,h2=>⟨h.1,h.2.1,JE (a:=a) h.2.2 h2⟩
 | .s _::a,_,_::cs,_,.t _ :: .i _::ds,_,h,h2=>⟨h.1,h.2.1,JE (a:=a) h.2.2 h2⟩
theorem Va {I:Itp} {g:G}:∀{l m:List AV} {xs ys:List Value},l.length=xs.length->qw I g (l++m) (xs++ys)->qw I g l xs/\qw I g m ys
 | [],_,[],_,_,h=>⟨trivial,h⟩
 | _::l,_,_::xs,_,hn,h=>by
   obtain ⟨a,b⟩:=Va (l:=l) (xs:=xs) (Nat.succ.inj hn) h.2;exact ⟨⟨h.1,a⟩,b⟩
theorem JA {w:World}:∀{a:List Ly} {cs:List Value} {ds:List D},fM w a cs ds->cs.length=a.length
 | [],[],[],_=>rfl
 | .c _::a,_::cs,.i _::ds,h=>by simp only [List.length_cons,JA (a:=a) h.2.2]
 | .s _::a,_::cs,.t _ :: .i _::ds,h=>by simp only [List.length_cons,JA (a:=a) h.2.2]
theorem UJ:Ly.avs 0 0 (ni++ni)=stA 0 0++stA NV NB:=by kernel_rfl
theorem Cc:(stA 0 0).length=ni.length:=by kernel_rfl
theorem ah {ds ds2 es:List D} (h:ds.length=281) (h2:ds2.length=281) (k:Nat) {d:D} (hk:es[k]?=some d):((ds++ds2)++es)[562+k]?=some d:=by
 rw [List.getElem?_append_right (by simp [h,h2])];simp only [List.length_append,h,h2];rw [show 562+k - (281+281)=k by omega];exact hk
set_option maxRecDepth 1000000 in
theorem PG {W:World} {cs cs2:Array Value} {ds ds2:List D} {a b c e:Int} (hl:fM W ni cs.toList ds) (hl2:fM W ni cs2.toList ds2) (he:R64 e) (hG:GOk gl0 { w0:=W,X:=fun _=>False }) :
   Calls Tryz.prog 4 #[.agg cs,.agg cs2,.agg #[.int .i64 a,.int .i64 b,.int .i64 c,.int .i64 e]] W fun r w'=>r=.returned (.bool true)/\w'.os=W.os/\w'.output=W.output/\W.heap.size<=w'.heap.size/\∀i,i<W.heap.size->w'.heap[i]?=W.heap[i]?:=by
 have hs:=nN hl;have hs2:=nN hl2;have hn:ds.length=281:=by rw [hs.length];decide +kernel
 have hn2:ds2.length=281:=by rw [hs2.length];decide +kernel
 have hso:Sorts (stS++(stS++[false,false,false,false])) ((ds++ds2)++[.i a,.i b,.i c,.i e]):=by
   rw [List.append_assoc];exact cK hs (cK hs2 trivial)
 have h:=COk.lies (R9 qw6) (JE hl hl2) (by kernel_rfl) (by decide +kernel) (es:=[.i a,.i b,.i c,.i e]) hso hG (xs:=[.agg cs,.agg cs2,.agg #[.int .i64 a,.int .i64 b,.int .i64 c,.int .i64 e]])
   (fun g hg hr=>by
     rw [UJ] at hr;obtain ⟨hr1,hr2⟩:=Va (by rw [Cc,JA hl]) hr;exact ⟨⟨_,rfl,hr1⟩,⟨_,rfl,hr2⟩,⟨_,rfl,⟨a,by rw [hg];exact ah hn hn2 0 rfl,rfl⟩,⟨b,by rw [hg];exact ah hn hn2 1 rfl,rfl⟩,⟨c,by rw [hg];exact ah hn hn2 2 rfl,rfl⟩,⟨e,by rw [hg];exact ah hn hn2 3 rfl,rfl⟩,trivial⟩,trivial⟩)
   (fun p hp=>by
     have hp:p∈[PE.pr 58 (rgs 0 281 []),.pr 58 (rgs 281 281 []),.rng .i64 (v (N2+3))]:=hp;have a1:At ((ds++ds2)++[.i a,.i b,.i c,.i e]) 0 ds:=⟨[],ds2++[.i a,.i b,.i c,.i e],by simp,rfl⟩;have a2:At ((ds++ds2)++[.i a,.i b,.i c,.i e]) 281 ds2:=⟨ds,[.i a,.i b,.i c,.i e],by simp,hn⟩;rcases List.mem_cons.1 hp with rfl | hp
     . exact ⟨ds++[],by rw [a1.qg hn];rfl,(p58 ⟨hs⟩).2 (Vv (ou hl))⟩
     rcases List.mem_cons.1 hp with rfl | hp
     . exact ⟨ds2++[],by rw [a2.qg hn2];rfl,(p58 ⟨hs2⟩).2 (Vv (ou hl2))⟩
     . obtain rfl:=List.mem_singleton.1 hp;exact ⟨e,ah hn hn2 3 rfl,qqC he⟩)
 refine h.mono fun r w' hr=>?_;obtain ⟨v,outs,g',rfl,_,_,⟨n,hn,rfl⟩,_,h1,h2,h3,h4⟩:=hr;simp only [E.den,Option.some.injEq,D.i.injEq] at hn;subst hn;exact ⟨rfl,h1,h2,h3,h4⟩
end Go.Sp
end
