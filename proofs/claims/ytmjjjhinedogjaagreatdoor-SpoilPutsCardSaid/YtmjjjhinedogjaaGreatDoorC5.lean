/-
  The walk over all places, kind by kind: annotations. Conditions: none.
-/
import Derived.Test.YtmjjjhinedogjaaGreatDoorC1
import Derived.Test.YtmjjjhinedogjaaGreatDoorC4
import Derived.Test.YtmjjjhinedogjaaGreatDoorC3
noncomputable section
namespace Go.Sp
open Go Go.Sx
def aKd:Ann where
 fn:=52
 bid:=0
 keep:=[0,1,8,9]
 tmps:=[(10,iv 281)]
 drop:=[]
 mem:=[(60,.cells [.slice 68 (.lit 0) (v 283) 4 true] true),(68,.rows dw (v 282) (v 283) true true)]
 sorts:=[false,true,false]
 nbl:=1
 inv:=[le (.lit 0) (v 281),le (v 281) (.lit 17),le (.lit 0) (v 283),.pr 51 (vs 0++[v 281,.lit 0,.lit 0,v 282,v 283])]
 meas:=.bin .sub (.lit 17) (v 281)
def aTk (k:Nat) (n:E):Ann:=aTh k 284 70 68 n
def OX:List Ann:=[aTk 1 (v 1),aTk 2 (v 3),aTk 3 (v 5),aTk 4 (v 24),aTk 6 (v 26),aTk 8 (v 31),aTk 9 (v 33),aTk 11 (v 36),aTk 12 (.lit 16),aTk 13 (.lit 16),aTk 14 (.lit 16),aTk 15 (.lit 16)]
def EC:List Ann:=[aFd 3 287 459 70 (v 284) (.lit 65),aFd 13 289 72 70 (v 284) (v 288),aFd 14 289 72 70 (v 284) (v 288),aFd 15 289 72 70 (v 284) (v 288)]
def qjX:Ann:=M7 7 74 (j5 [.int .i64,.int .i64] (.sel (v 32) (v 284) 1)) (v 284) 73 75 287
def jV (P:Program):Cx:={ P,cs:=[cPS,cPB,cPM],dJ:=aKd::qjX::aFd 9 290 76 70 (v 284) (v 289)::(OX++EC),kn:={ kn0 with arr:=(150,17)::kn0.arr },pins:=[(122,0,5)],SE:=[(122,0,6,G9 7 74)],stops:=[(122,0)] }
end Go.Sp
end
noncomputable section
namespace Go.Sp
open Go Go.Sx
def asA (l:List PE) (t:Tree):Tree:=l.foldr .assert t
def plE (a:E) (n:Nat):E:=.bin .add a (.lit n)
def leP (a b:E):PE:=.tt (.bin .le a b)
def Uo (n:E) (k:Nat):PE:=leP (plE n k) (.lit 1000000)
def xI (n:E) (a b:Nat):List PE:=(List.range (b - a)).map fun j=>Uo n (a+j+1)
def KA (k i f t n:E):PE:=.pr 51 (rgs 0 281 [k,i,f,t,n])
def Nr (n:E):Nat->E
 | 0=>n
 | j+1=>plE n (j+1)
def FP (n k i:E):Nat->List (Nat × E)->E->E
 | _,[],t=>t
 | j,(f,x)::l,t=>FP n k i (j+1) l (.upd (.upd (.upd (.upd t (Nr n j) 0 k) (Nr n j) 1 i) (Nr n j) 2 (.lit f)) (Nr n j) 3 x)
def decP (i bound:E):List PE:=[leP (.lit 0) (.bin .sub bound (plE i 1)),.tt (.bin .lt (.bin .sub bound (plE i 1)) (.bin .sub bound i))]
def JW (i bound:E):List PE:=[.rng .i64 (plE i 1),leP (.lit 0) (plE i 1),leP (plE i 1) bound]
def XP (k:Nat) (i bound t n:E) (l:List (Nat × E)):Tree:=
 asA (JW i bound++(leP (.lit 0) (plE n l.length)::KA (.lit k) (plE i 1) (.lit 0) (FP n (.lit k) i 0 l t) (plE n l.length)::decP i bound)) .ok
def MK (k:Nat) (i bound t n:E):Tree:=asA (JW i bound++(KA (.lit k) (plE i 1) (.lit 0) t n::decP i bound)) .ok
def GY (k:Nat) (i f bound t n x:E):Tree:=
 asA (Uo n 1::(JW f bound++(leP (.lit 0) (plE n 1)::KA (.lit k) i (plE f 1) (.upd (.upd (.upd (.upd t n 0 (.lit k)) n 1 i) n 2 f) n 3 x) (plE n 1)::decP f bound))) .ok
def IL (k:Nat) (i f bound t n:E):Tree:=asA (JW f bound++(KA (.lit k) i (plE f 1) t n::decP f bound)) .ok
def Ie (k nv:Nat) (bound:E) (body next:Tree):Tree:=
 .qp false (.qp true (.qp false (.assume (leP (.lit 0) (v nv)) (.assume (leP (v nv) bound) (.assume (leP (.lit 0) (v (nv+2))) (.assume (KA (.lit k) (v nv) (.lit 0) (v (nv+1)) (v (nv+2))) (.branch (.bin .lt (v nv) bound) body next)))))))
def qqS (k nv:Nat) (bound:E) (l:List (Nat × E)):Tree:=asA (xI (v (nv+2)) 0 l.length) (XP k (v nv) bound (v (nv+1)) (v (nv+2)) l)
def Ei (k:Nat) (t n:E):PE:=KA (.lit k) (.lit 0) (.lit 0) t n
def KG (a:Nat) (i:E) (m:Nat):List (Nat × E):=(List.range m).map fun c=>(c,.sel (v a) i c)
def inT (k nv iv:Nat) (bound:E) (body next:Tree):Tree:=
 .qp false (.qp true (.qp false (.assume (leP (.lit 0) (v nv)) (.assume (leP (v nv) bound) (.assume (leP (.lit 0) (v (nv+2))) (.assume (KA (.lit k) (v iv) (v nv) (v (nv+1)) (v (nv+2))) (.branch (.bin .lt (v nv) bound) body next)))))))
def oU (T f:E):E:=.bin .sub (.sel T f 0) (.lit 1)
def isE (T f:E):E:=.bin .eq (.bin .eq (.sel T f 0) (.lit 0)) (.lit 0)
def pairT (k nv a c:Nat):Tree:=
 .assert (.pr 57 [v (a+c+1)]) (.qp true (.qp false (.assume (.same (v (nv+4)) (.bin .mul (v (a+c+1)) (.lit 2))) (.assume (.pr 54 [v (nv+3),.bin .mul (v (a+c+1)) (.lit 2)])
   (.assert (leP (.lit 0) (.bin .mul (v (a+c+1)) (.lit 2)))
     (inT k (nv+5) nv (.bin .mul (v (a+c+1)) (.lit 2))
       (let T:=v (nv+3);let f:=v (nv+5);let B:=.bin .mul (v (a+c+1)) (.lit 2);let q:=.bin .tdiv (oU T f) (.lit 2)
        .branch (isE T f)
         (.assert (.tt (.bin .lt (.lit 0) (.sel T f 0)))
           (.branch (.bin .eq (.bin .tmod (oU T f) (.lit 2)) (.lit 0))
             (asA [leP (.lit 0) q,.tt (.bin .lt q (v (a+c+1)))] (GY k (v nv) f B (v (nv+6)) (v (nv+7)) (.sel (v (a+c)) q 0)))
             (.branch (.bin .eq (.bin .tmod (oU T f) (.lit 2)) (.lit 1))
               (asA [leP (.lit 0) q,.tt (.bin .lt q (v (a+c+1)))] (GY k (v nv) f B (v (nv+6)) (v (nv+7)) (.sel (v (a+c)) q 1)))
               (.fail 51))))
         (IL k (v nv) f B (v (nv+6)) (v (nv+7))))
       (MK k (v nv) (.lit 16) (v (nv+6)) (v (nv+7)))))))))
def iJ (nv:Nat) (F:Nat->Tree):Nat->Tree
 | 0=>.fail 29
 | j+1=>.branch (.bin .eq (v nv) (.lit j)) (F (41+15*j)) (iJ nv F j)
def arT (nv a:Nat):Tree:=
 let l (x:Int):List (Nat × E):=(List.range 7).map (fun c=>(c,v (a+c)))++[(7,.lit x),(8,v (a+14))]
 asA (xI (v (nv+2)) 0 7) (.branch (v (a+9)) (asA (xI (v (nv+2)) 7 9) (XP 12 (v nv) (.lit 16) (v (nv+1)) (v (nv+2)) (l 1))) (asA (xI (v (nv+2)) 7 9) (XP 12 (v nv) (.lit 16) (v (nv+1)) (v (nv+2)) (l 0))))
def lnC (nv:Nat):E:=.fn 1014 (.sel (v 32) (v nv) 1) (.lit 2) (.lit 0) (.lit 0)
def Ny (nv n:Nat):E:=.bin .add (.bin .mul (v (nv+3)) (.lit 3)) (.lit n)
def O4 (nv:Nat) (T m:E):PE:=.pr 56 [T,m,v nv]
def UH (nv:Nat):Tree:=
 let I:=v nv;let m:=v (nv+3);let U:=v (nv+4);let n:=v (nv+5);let L:=lnC nv
 .assert (leP (.lit 0) L) (.assert (O4 nv (.upd (.upd .zt (.lit 0) 0 (.bin .add (.bin .mul I (.lit 3)) (.lit 1))) (.lit 0) 1 (.bin .add (.bin .mul I (.lit 3)) (.lit 1))) (.lit 0))
   (.qp false (.qp true (.qp false (.assume (leP (.lit 0) m) (.assume (leP m L) (.assume (.tt (.bin .eq n (.bin .add (.lit 1) (.bin .mul (.lit 2) m)))) (.assume (O4 nv U m)
     (.branch (.bin .lt m L)
       (asA (Uo n 2::JW m L++[.tt (.bin .eq (plE n 2) (.bin .add (.lit 1) (.bin .mul (.lit 2) (plE m 1)))),
         O4 nv (.upd (.upd (.upd (.upd (.upd (.upd (.upd (.upd U n 0 (Ny nv 2)) n 1 (Ny nv 2)) n 2 (.lit 0)) n 3 (.lit 0)) (plE n 1) 0 (Ny nv 3)) (plE n 1) 1 (Ny nv 3)) (plE n 1) 2 (.lit 0)) (plE n 1) 3 (.lit 0)) (plE m 1)]++decP m L) .ok)
       (.assert (leP (.lit 0) n)
         (inT 9 (nv+6) nv n
           (let f:=v (nv+6);let q:=.bin .tdiv (oU U f) (.lit 3);let W:=.fn 1017 (.sel (v 32) I 1) (.lit 2) (.lit 0) (.lit 0)
            .branch (isE U f)
             (.assert (.tt (.bin .lt (.lit 0) (.sel U f 0)))
               (.branch (.bin .eq (.bin .tmod (oU U f) (.lit 3)) (.lit 0))
                 (asA [.tt (.bin .eq q I)] (GY 9 I f n (v (nv+7)) (v (nv+8)) (.sel (v 32) I 0)))
                 (.branch (.bin .eq (.bin .tmod (oU U f) (.lit 3)) (.lit 1))
                   (asA [leP (.lit 0) q,.tt (.bin .lt q L)] (GY 9 I f n (v (nv+7)) (v (nv+8)) (.sel W q 0)))
                   (.branch (.bin .eq (.bin .tmod (oU U f) (.lit 3)) (.lit 2))
                     (asA [leP (.lit 0) q,.tt (.bin .lt q L)] (GY 9 I f n (v (nv+7)) (v (nv+8)) (.sel W q 1)))
                     (.fail 51)))))
             (IL 9 I f n (v (nv+7)) (v (nv+8))))
           (MK 9 I (v 33) (v (nv+7)) (v (nv+8))))))))))))))
def qjl (nv:Nat):Tree:=
 let i:=v nv;let n:=v (nv+2);let e (l:List (Nat × E)):=XP 11 i (v 36) (v (nv+1)) n l
 .branch (.bin .lt i (v 38))
   (.branch (.bin .lt i (v 40))
     (asA (xI n 0 1) (.branch (.sel (v 37) i 0) (asA (xI n 1 3) (e [(0,.sel (v 35) i 0),(1,.lit 1),(2,.sel (v 39) i 0)])) (asA (xI n 1 3) (e [(0,.sel (v 35) i 0),(1,.lit 0),(2,.sel (v 39) i 0)]))))
     (asA (xI n 0 1) (.branch (.sel (v 37) i 0) (asA (xI n 1 2) (e [(0,.sel (v 35) i 0),(1,.lit 1)])) (asA (xI n 1 2) (e [(0,.sel (v 35) i 0),(1,.lit 0)])))))
   (.branch (.bin .lt i (v 40))
     (asA (xI n 0 2) (e [(0,.sel (v 35) i 0),(2,.sel (v 39) i 0)]))
     (asA (xI n 0 1) (e [(0,.sel (v 35) i 0)])))
def qzY (nv:Nat):Tree:=
 let i:=v nv;let n:=v (nv+2);let e (x:Int):=asA (xI n 4 5) (XP 6 i (v 26) (v (nv+1)) n (KG 25 i 4++[(4,.lit x)]))
 asA (xI n 0 4) (.branch (.sel (v 25) i 4) (e 1) (e 0))
def EA (nv j:Nat):E:=bif Nat.beq j 64 then .sel (v 4) (v nv) 0 else .wrap .i64 (.sel (v 4) (v nv) (j+1))
def E5 (nv:Nat):Nat->Tree
 | 0=>.fail 29
 | j+1=>.branch (.bin .eq (v (nv+3)) (.lit j))
     (asA [Uo (v (nv+5)) 1,leP (.lit 0) (plE (v (nv+5)) 1),KA (.lit 3) (v nv) (.lit (j+1:Nat)) (.upd (.upd (.upd (.upd (v (nv+4)) (v (nv+5)) 0 (.lit 3)) (v (nv+5)) 1 (v nv)) (v (nv+5)) 2 (.lit j)) (v (nv+5)) 3 (EA nv j)) (plE (v (nv+5)) 1),
       .tt (.bin .lt (.lit (64 - j:Nat)) (.bin .sub (.lit 65) (v (nv+3))))] .ok)
     (E5 nv j)
def qjY (nv:Nat):Tree:=inT 3 (nv+3) nv (.lit 65) (E5 nv 65) (MK 3 (v nv) (v 5) (v (nv+4)) (v (nv+5)))
def Mf (k:Nat) (t n:E):Tree:=asA [Ei (k+1) t n,.tt (.bin .lt (.lit (16 - k:Nat)) (.bin .sub (.lit 17) (v 281)))] .ok
def R8 (k:Nat) (l:List (Nat × E)):Tree:=asA (xI (v 283) 0 l.length++[leP (.lit 0) (plE (v 283) l.length)]) (Mf k (FP (v 283) (.lit k) (.lit 0) 0 l (v 282)) (plE (v 283) l.length))
def xA (k:Nat) (bound:E) (pre:List PE) (body:Tree):Tree:=asA (pre++[Ei k (v 282) (v 283)]) (Ie k 284 bound body (Mf k (v 285) (v 286)))
def Ca (k b:Nat) (l:List (Nat × E)):Tree:=xA k (v b) [leP (.lit 0) (v b)] (qqS k 284 (v b) l)
def SH:Nat->Tree
 | 0=>Mf 0 (v 282) (v 283)
 | 1=>Ca 1 1 (KG 0 (v 284) 3)
 | 2=>Ca 2 3 (KG 2 (v 284) 1)
 | 3=>xA 3 (v 5) [leP (.lit 0) (v 5)] (qjY 284)
 | 4=>Ca 4 24 (KG 23 (v 284) 2)
 | 5=>R8 5 [(0,v 22)]
 | 6=>xA 6 (v 26) [leP (.lit 0) (v 26)] (qzY 284)
 | 7=>R8 7 [(0,v 27),(1,v 29),(2,v 28)]
 | 8=>Ca 8 31 (KG 30 (v 284) 2)
 | 9=>xA 9 (v 33) [leP (.lit 0) (v 33)] (UH 284)
 | 10=>R8 10 [(0,v 34)]
 | 11=>xA 11 (v 36) [leP (.lit 0) (v 36)] (qjl 284)
 | 12=>xA 12 (.lit 16) [] (iJ 284 (arT 284) 16)
 | 13=>xA 13 (.lit 16) [] (iJ 284 (fun a=>pairT 13 284 a 7) 16)
 | 14=>xA 14 (.lit 16) [] (iJ 284 (fun a=>pairT 14 284 a 10) 16)
 | 15=>xA 15 (.lit 16) [] (iJ 284 (fun a=>pairT 15 284 a 12) 16)
 | _=>R8 16 ((List.range 14).map fun c=>(c,v (8+c)))
def FZ:Nat->Tree
 | 0=>.fail 29
 | j+1=>.branch (.bin .eq (v 281) (.lit j)) (SH j) (FZ j)
def yY:Tree:=
 .assume (.pr 31 (rgs 0 281 [])) (.assert (Ei 0 .zt (.lit 0)) (.qp false (.qp true (.qp false (.assume (leP (.lit 0) (v 281)) (.assume (leP (v 281) (.lit 17)) (.assume (leP (.lit 0) (v 283)) (.assume (KA (v 281) (.lit 0) (.lit 0) (v 282) (v 283))
   (.branch (.bin .lt (v 281) (.lit 17)) (FZ 17) (.assert (.pr 24 (rgs 0 281 [v 282,v 283])) .ok))))))))))
end Go.Sp
end
noncomputable section
set_option linter.unusedSimpArgs false
namespace Go.Sp
open Go Go.Sx
section
variable {S env:List D}
theorem jC:∀{l:List PE} {t:Tree},(∀p∈l,p.den JI env)->t.vc JI env->(asA l t).vc JI env
 | [],_,_,h=>h
 | p::l,_,h,ht=>⟨h p (List.Mem.head _),jC (l:=l) (fun q hq=>h q (List.Mem.tail _ hq)) ht⟩
theorem vi (hS:St S) (h0:At env 0 S) {c:Nat} (hc:stS[c]?=some false):(v c).den JI env=some (.i (gi S c)):=by
 obtain ⟨p,r,rfl,hp⟩:=h0;obtain rfl:p=[]:=List.length_eq_zero_iff.1 hp;exact hS.i c hc
theorem vt (hS:St S) (h0:At env 0 S) {c:Nat} (hc:stS[c]?=some true):(v c).den JI env=some (.t (gt S c)):=by
 obtain ⟨p,r,rfl,hp⟩:=h0;obtain rfl:p=[]:=List.length_eq_zero_iff.1 hp;exact hS.t c hc
theorem qL {n:Int}:(E.lit n).den JI env=some (.i n):=rfl
theorem jP {a:E} {x:Int} {n:Nat} (h:a.den JI env=some (.i x)):(plE a n).den JI env=some (.i (x+n)):=by
 show (E.bin .add a (.lit n)).den JI env=_;simp only [E.den,h,BO.ev]
theorem zn {a b:E} {x y:Int} (ha:a.den JI env=some (.i x)) (hb:b.den JI env=some (.i y)) (h:x<=y):(leP a b).den JI env:=
 ⟨1,by show (E.bin .le a b).den JI env=_;simp only [E.den,ha,hb,BO.ev];simp [h],by decide⟩
theorem sD {a b:E} {x y:Int} (ha:a.den JI env=some (.i x)) (hb:b.den JI env=some (.i y)) (h:(leP a b).den JI env):x<=y:=by
 obtain ⟨n,h1,h2⟩:=h;have h1:(E.bin .le a b).den JI env=_:=h1;simp only [E.den,ha,hb,BO.ev,Option.some.injEq,D.i.injEq] at h1;by_cases c:x<=y
 . exact c
 . simp [c] at h1;omega
theorem xX {a b:E} {x y:Int} (ha:a.den JI env=some (.i x)) (hb:b.den JI env=some (.i y)):(E.bin .lt a b).den JI env=some (.i (if x<y then 1 else 0)):=by
 simp only [E.den,ha,hb,BO.ev]
theorem xC {a b:E} {x y:Int} (ha:a.den JI env=some (.i x)) (hb:b.den JI env=some (.i y)):(E.bin .eq a b).den JI env=some (.i (if x=y then 1 else 0)):=by
 simp only [E.den,ha,hb,BO.ev]
theorem Qe {e:E} {x:Int} (h:e.den JI env=some (.i x)) (hx:x≠0):(PE.tt e).den JI env:=⟨x,h,hx⟩
theorem gU {e:E} {c:Prop} [Decidable c] {a b:Tree} (h:e.den JI env=some (.i (if c then 1 else 0))) (h1:c->a.vc JI env) (h2:¬c->b.vc JI env):(Tree.branch e a b).vc JI env:=
 gN h (fun e=>h1 (Decidable.byContradiction fun k=>by rw [if_neg k] at e;exact e rfl)) fun e=>h2 fun k=>by rw [if_pos k] at e;cases e
theorem ze {a b:E} {x y:Int} (ha:a.den JI env=some (.i x)) (hb:b.den JI env=some (.i y)):(E.bin .sub a b).den JI env=some (.i (x - y)):=by
 simp only [E.den,ha,hb,BO.ev]
theorem dQ {n:E} {N:Int} (hn:n.den JI env=some (.i N)) {a b:Nat} (h:N+b<=1000000) (hab:a<=b):∀p∈xI n a b,p.den JI env:=by
 intro p hp;obtain ⟨j,hj,rfl⟩:=List.mem_map.1 hp;have:=List.mem_range.1 hj;exact zn (jP hn) qL (by omega)
theorem oz {i b:E} {x B:Int} (hi:i.den JI env=some (.i x)) (hb:b.den JI env=some (.i B)) (x0:0<=x) (xB:x<B) (B6:B<=1000000):∀p∈JW i b,p.den JI env:=by
 intro p hp;have h1:=jP (n:=1) hi;simp only [JW,List.mem_cons,List.not_mem_nil,or_false] at hp;rcases hp with rfl | rfl | rfl
 . exact ⟨_,h1,by show (-9223372036854775808:Int)<=x+1;omega,by show x+1<=(9223372036854775807:Int);omega⟩
 . exact zn qL h1 (by omega)
 . exact zn h1 hb (by omega)
theorem ZB {i b:E} {x B:Int} (hi:i.den JI env=some (.i x)) (hb:b.den JI env=some (.i B)) (xB:x<B):∀p∈decP i b,p.den JI env:=by
 intro p hp;have h1:=jP (n:=1) hi;simp only [decP,List.mem_cons,List.not_mem_nil,or_false] at hp;rcases hp with rfl | rfl
 . exact zn qL (ze hb h1) (by omega)
 . exact Qe (xX (ze hb h1) (ze hb hi)) (by rw [if_pos (by omega)];decide)
theorem yH (hS:St S) (h0:At env 0 S) {k i f t n:E} {K J F N:Int} {T:Int->Nat->Int} (hk:k.den JI env=some (.i K)) (hi:i.den JI env=some (.i J)) (hf:f.den JI env=some (.i F)) (ht:t.den JI env=some (.t T))
   (hn:n.den JI env=some (.i N)):(KA k i f t n).den JI env↔qF T N=zG S K J F:=by
 have e:qg JI env (rgs 0 281 [k,i,f,t,n])=some (S++[.i K,.i J,.i F,.t T,.i N]):=by
   rw [h0.qg hS.len];simp [qg,hk,hi,hf,ht,hn]
 constructor
 . rintro ⟨ds,h1,h2⟩;rw [e] at h1;cases h1;exact (p51 hS).1 h2
 . exact fun h=>⟨_,e,(p51 hS).2 h⟩
def gK (env:List D):List (Nat × E)->List (Nat × Int)->Prop
 | [],[]=>True
 | (f,x)::l,(g,y)::m=>f=g/\x.den JI env=some (.i y)/\gK env l m
 | _,_=>False
theorem gK.length:∀{l:List (Nat × E)} {m:List (Nat × Int)},gK env l m->l.length=m.length
 | [],[],_=>rfl
 | (_,_)::l,(_,_)::m,h=>by simp [gK.length h.2.2]
 | [],_::_,h=>h.elim
 | _::_,[],h=>h.elim
theorem gK.map {α:Type} {f:α->Nat} {x:α->E} {y:α->Int}:∀{l:List α},(∀a∈l,(x a).den JI env=some (.i (y a)))->gK env (l.map fun a=>(f a,x a)) (l.map fun a=>(f a,y a))
 | [],_=>trivial
 | a::_,h=>⟨rfl,h a (List.Mem.head _),gK.map fun b hb=>h b (List.Mem.tail _ hb)⟩
theorem gK.app:∀{l l':List (Nat × E)} {m m':List (Nat × Int)},gK env l m->gK env l' m'->gK env (l++l') (m++m')
 | [],_,[],_,_,h=>h
 | (_,_)::_,_,(_,_)::_,_,h,h'=>⟨h.1,h.2.1,gK.app h.2.2 h'⟩
 | [],_,_::_,_,h,_=>h.elim
 | _::_,_,[],_,h,_=>h.elim
theorem CX {n:E} {N:Int} (hn:n.den JI env=some (.i N)):∀j:Nat,(Nr n j).den JI env=some (.i (N+j))
 | 0=>by simpa [Nr] using hn
 | j+1=>jP hn
theorem jc {t r x:E} {T:Int->Nat->Int} {R X:Int} {c:Nat} (ht:t.den JI env=some (.t T)) (hr:r.den JI env=some (.i R)) (hx:x.den JI env=some (.i X)):(E.upd t r c x).den JI env=some (.t (qd T R c X)):=by
 simp only [E.den,ht,hr,hx]
theorem ZP {n k i:E} {N K J:Int} (hn:n.den JI env=some (.i N)) (hk:k.den JI env=some (.i K)) (hi:i.den JI env=some (.i J)) (N0:0<=N):∀{l:List (Nat × E)} {m:List (Nat × Int)} {j:Nat} {t:E} {T:Int->Nat->Int},
   gK env l m->t.den JI env=some (.t T)->∃T',(FP n k i j l t).den JI env=some (.t T')/\qF T' (N+j+l.length)=qF T (N+j)++m.map fun p=>(K,J,(p.1:Int),p.2)
 | [],[],j,t,T,_,ht=>⟨T,ht,by simp⟩
 | (f,x)::l,(g,y)::m,j,t,T,h,ht=>by
   obtain ⟨rfl,hx,hv⟩:=h;have hr:=CX hn j;obtain ⟨T',h1,h2⟩:=ZP hn hk hi N0 (j:=j+1) hv (jc (c:=3) (jc (c:=2) (jc (c:=1) (jc (c:=0) ht hr hk) hr hi) hr (x:=.lit f) qL) hr hx);refine ⟨T',h1,?_⟩;have e:N+(j:Int)+((((f,x)::l).length:Nat):Int)=N+((j+1:Nat):Int)+(l.length:Int):=by simp;omega
   have e2:N+((j+1:Nat):Int)=N+j+1:=by omega
   rw [e,h2,e2,vo (by omega)];simp
 | [],_::_,_,_,_,h,_=>h.elim
 | _::_,[],_,_,_,h,_=>h.elim
theorem aH {k i:Int} (h:0<=i):zG S k (i+1) 0=zG S k i 0++jQ S k i (qj S k i).toNat:=by
 have e:(i+1).toNat=i.toNat+1:=by omega
 have ei:((i.toNat:Nat):Int)=i:=by omega
 rw [zG,e,wO,ei,zG];simp [jQ]
theorem fE {T:Int->Nat->Int} {n:Int} {l:List Pl} (h:qF T n=l) (h0:0<=n):n=l.length:=by
 have:=congrArg List.length h;rw [zK] at this;omega
structure Row (S:List D) (k J:Int) (m:List (Nat × Int)):Prop where
 eq:jQ S k J (qj S k J).toNat=m.map fun p=>(k,J,(p.1:Int),p.2)
theorem room (hs:Small S) {k J N:Int} {T:Int->Nat->Int} {m:List (Nat × Int)} (k1:1<=k) (k2:k<=16) (J0:0<=J) (N0:0<=N) (hT:qF T N=zG S k J 0) (hm:Row S k J m):N+m.length<=1000000:=by
 have a:=fE hT N0;have b:=iV hs (f:=0) k1 k2 (show 0<=J+1 by omega);rw [aH J0,hm.eq,List.length_append,List.length_map] at b;omega
theorem ZV (hS:St S) (h0:At env 0 S) {k:Nat} {i b t n:E} {J B N:Int} {T:Int->Nat->Int} {l:List (Nat × E)} {m:List (Nat × Int)} (hi:i.den JI env=some (.i J)) (hb:b.den JI env=some (.i B)) (ht:t.den JI env=some (.t T))
   (hn:n.den JI env=some (.i N)) (N0:0<=N) (J0:0<=J) (JB:J<B) (B6:B<=1000000) (hT:qF T N=zG S k J 0) (hv:gK env l m) (hm:Row S k J m):(XP k i b t n l).vc JI env:=by
 refine jC (fun p hp=>?_) trivial;rcases List.mem_append.1 hp with hp | hp
 . exact oz hi hb J0 JB B6 p hp
 rcases List.mem_cons.1 hp with rfl | hp
 . exact zn qL (jP hn) (by omega)
 rcases List.mem_cons.1 hp with rfl | hp
 . obtain ⟨T',h1,h2⟩:=ZP hn (k:=.lit k) qL hi N0 (j:=0) hv ht;refine (yH hS h0 qL (jP hi) qL h1 (jP hn)).2 ?_;have e:N+((0:Nat):Int)+(l.length:Int)=N+(l.length:Int):=by omega
   rw [e] at h2;rw [h2,show N+((0:Nat):Int)=N by omega,hT];show _=zG S k (J+1) 0;rw [aH J0,hm.eq]
 . exact ZB hi hb JB p hp
theorem KQ (hS:St S) (h0:At env 0 S) {k:Nat} {i b t n:E} {J B N:Int} {T:Int->Nat->Int} (hi:i.den JI env=some (.i J)) (hb:b.den JI env=some (.i B)) (ht:t.den JI env=some (.t T))
   (hn:n.den JI env=some (.i N)) (J0:0<=J) (JB:J<B) (B6:B<=1000000) (hT:qF T N=zG S k (J+1) 0):(MK k i b t n).vc JI env:=by
 refine jC (fun p hp=>?_) trivial;rcases List.mem_append.1 hp with hp | hp
 . exact oz hi hb J0 JB B6 p hp
 rcases List.mem_cons.1 hp with rfl | hp
 . exact (yH hS h0 qL (jP hi) qL ht hn).2 hT
 . exact ZB hi hb JB p hp
theorem Ma (hS:St S) (h0:At env 0 S) (hs:Small S) {k:Nat} {i f b t n x:E} {J F B N X:Int} {T:Int->Nat->Int} (hi:i.den JI env=some (.i J)) (hf:f.den JI env=some (.i F)) (hb:b.den JI env=some (.i B))
   (ht:t.den JI env=some (.t T)) (hn:n.den JI env=some (.i N)) (hx:x.den JI env=some (.i X)) (N0:0<=N) (J0:0<=J) (F0:0<=F) (FB:F<B) (B6:B<=1000000) (k1:1<=k) (k2:k<=16) (hT:qF T N=zG S k J F)
   (hh:zo S k J F=true) (hX:X=qh S k J F):(GY k i f b t n x).vc JI env:=by
 have nx:=Yi (S:=S) (k:=(k:Int)) (i:=J) F0;rw [if_pos hh] at nx;have a:=fE hT N0;have le:=iV hs (k:=(k:Int)) (f:=F+1) (by omega) (by omega) J0;rw [nx,List.length_append,List.length_singleton] at le;refine jC (fun p hp=>?_) trivial;rcases List.mem_cons.1 hp with rfl | hp
 . exact zn (jP hn) qL (by omega)
 rcases List.mem_append.1 hp with hp | hp
 . exact oz hf hb F0 FB B6 p hp
 rcases List.mem_cons.1 hp with rfl | hp
 . exact zn qL (jP hn) (by omega)
 rcases List.mem_cons.1 hp with rfl | hp
 . refine (yH hS h0 qL hi (jP hf) (jc (jc (jc (jc ht hn (x:=.lit k) qL) hn hi) hn hf) hn hx) (jP hn)).2 ?_;show qF _ (N+1)=zG S k J (F+1);rw [vo N0,hT,nx,hX]
 . exact ZB hf hb FB p hp
theorem At.pV {a b c:D} {n:Nat} (h:env.length=n):At (env++[a,b,c]) n [a,b,c]:=h ▸ At.new _ _
theorem zQ {e:E} {d:D} (xs:List D) (h:e.den JI env=some d):e.den JI (env++xs)=some d:=E.zT h
theorem UW (a b c:D):env++[a]++[b]++[c]=env++[a,b,c]:=by simp
theorem Sm (hS:St S) (h0:At env 0 S) {k nv:Nat} {bound:E} {B:Int} {body next:Tree} (hL:env.length=nv) (hb:bound.den JI env=some (.i B)) (hB:qz S k=B) (k1:1<=k)
   (h1:∀i T n,0<=i->i<B->0<=n->qF T n=zG S k i 0->body.vc JI (env++[.i i,.t T,.i n]))
   (h2:∀i T n,0<=n->qF T n=zG S (k+1:Nat) 0 0->next.vc JI (env++[.i i,.t T,.i n])):(Ie k nv bound body next).vc JI env:=by
 intro i T n;rw [UW];have A:=At.pV (a:=D.i i) (b:=D.t T) (c:=D.i n) hL;have a0:=A.v (i:=0) rfl (m:=nv) rfl;have a1:=A.v (i:=1) rfl (m:=nv+1) rfl;have a2:=A.v (i:=2) rfl (m:=nv+2) rfl;have b0:=zQ [.i i,.t T,.i n] hb;intro p1 p2 p3 p4;have i0:=sD qL a0 p1;have iB:=sD a0 b0 p2;have n0:=sD qL a2 p3;have hT:=(yH hS (h0.more _) qL a0 qL a1 a2).1 p4;refine gU (xX a0 b0) (fun c=>h1 i T n i0 c n0 hT) fun c=>h2 i T n n0 ?_;have e:((k+1:Nat):Int)=(k:Int)+1:=by omega
 rw [hT,e,BM (by omega) i0 (by omega)]
theorem DC (hS:St S) (h0:At env 0 S) {k nv iv:Nat} {bound:E} {J B:Int} {body next:Tree} (hL:env.length=nv) (hb:bound.den JI env=some (.i B)) (hi:(v iv).den JI env=some (.i J))
   (h1:∀f T n,0<=f->f<B->0<=n->qF T n=zG S k J f->body.vc JI (env++[.i f,.t T,.i n]))
   (h2:∀f T n,0<=n->f=B->qF T n=zG S k J B->next.vc JI (env++[.i f,.t T,.i n])):(inT k nv iv bound body next).vc JI env:=by
 intro f T n;rw [UW];have A:=At.pV (a:=D.i f) (b:=D.t T) (c:=D.i n) hL;have a0:=A.v (i:=0) rfl (m:=nv) rfl;have a1:=A.v (i:=1) rfl (m:=nv+1) rfl;have a2:=A.v (i:=2) rfl (m:=nv+2) rfl;have b0:=zQ [.i f,.t T,.i n] hb;intro p1 p2 p3 p4;have f0:=sD qL a0 p1;have fB:=sD a0 b0 p2;have n0:=sD qL a2 p3;have hT:=(yH hS (h0.more _) qL (zQ _ hi) a0 a1 a2).1 p4;refine gU (xX a0 b0) (fun c=>h1 f T n f0 c n0 hT) fun c=>?_;have e:f=B:=by omega
 exact h2 f T n n0 e (e ▸ hT)
end
end Go.Sp
noncomputable section
set_option linter.unusedSimpArgs false
namespace Go.Sp
open Go Go.Sx
section
variable {S env:List D}
theorem Zi (hS:St S) (h0:At env 0 S) (hs:Small S) {k nv:Nat} {b:E} {J B N:Int} {T:Int->Nat->Int} {l:List (Nat × E)} {m:List (Nat × Int)} (k1:1<=k) (k2:k<=16) (a0:(v nv).den JI env=some (.i J)) (a1:(v (nv+1)).den JI env=some (.t T))
   (a2:(v (nv+2)).den JI env=some (.i N)) (hb:b.den JI env=some (.i B)) (J0:0<=J) (JB:J<B) (B6:B<=1000000) (N0:0<=N) (hT:qF T N=zG S k J 0) (hv:gK env l m) (hm:Row S k J m):(qqS k nv b l).vc JI env:=by
 have r:=room hs (by omega) (by omega) J0 N0 hT hm;exact jC (dQ a2 (by rw [hv.length];exact r) (Nat.zero_le _)) (ZV hS h0 a0 hb a1 a2 N0 J0 JB B6 hT hv hm)
theorem WK {k i:Int} {n:Nat} (h:∀f:Nat,f<n->zo S k i f=true):jQ S k i n=(List.range n).map fun f:Nat=>(k,i,(f:Int),qh S k i f):=by
 induction n with
 | zero=>rfl
 | succ n ih=>
   rw [jB,ih fun f hf=>h f (by omega),if_pos (h n (by omega)),List.range_succ,List.map_append];rfl
theorem Mt {k i:Int} {n:Nat} (hf:qj S k i=n) (i0:0<=i) (i1:i<qz S k) (h:k≠11):∀f:Nat,f<n->zo S k i f=true:=fun f hlt=>decide_eq_true ⟨i0,i1,by omega,by omega,.inl h⟩
theorem dF {k i:Int} {n:Nat} {g:Nat->Int} (hf:qj S k i=n) (i0:0<=i) (i1:i<qz S k) (h:k≠11) (hg:∀f:Nat,f<n->qh S k i f=g f):Row S k i ((List.range n).map fun f=>(f,g f)):=by
 refine ⟨?_⟩;rw [hf,Int.toNat_natCast,WK (Mt hf i0 i1 h),List.map_map];refine List.map_congr_left fun f hm=>?_;rw [hg f (List.mem_range.1 hm)];rfl
theorem F6 {k i:Int} {n:Nat} {g:Nat->Int} {z:Int} (hf:qj S k i=(n+1:Nat)) (i0:0<=i) (i1:i<qz S k) (h:k≠11) (hg:∀f:Nat,f<n->qh S k i f=g f) (hz:qh S k i n=z) :
   Row S k i ((List.range n).map (fun f=>(f,g f))++[(n,z)]):=by
 refine ⟨?_⟩;rw [hf,Int.toNat_natCast,WK (Mt hf i0 i1 h),List.range_succ,List.map_append,List.map_append,List.map_map]
 congr 1
 . refine List.map_congr_left fun f hm=>?_;rw [hg f (List.mem_range.1 hm)];rfl
 . simp [hz]
theorem RZ {k i:Int} {n:Nat} {g:Nat->Int} {z y:Int} (hf:qj S k i=(n+2:Nat)) (i0:0<=i) (i1:i<qz S k) (h:k≠11) (hg:∀f:Nat,f<n->qh S k i f=g f) (hz:qh S k i n=z) (hy:qh S k i (n+1:Nat)=y) :
   Row S k i ((List.range n).map (fun f=>(f,g f))++[(n,z),(n+1,y)]):=by
 have:=(F6 (S:=S) (n:=n+1) (g:=fun f=>if f=n then z else g f) hf i0 i1 h (fun f hf=>by
   by_cases e:f=n
   . rw [if_pos e,e,hz]
   . rw [if_neg e,hg f (by omega)]) hy).eq
 refine ⟨this.trans ?_⟩;rw [List.range_succ,List.map_append,List.map_append,List.map_append,List.map_append,List.append_assoc]
 congr 1
 . rw [List.map_map,List.map_map];refine List.map_congr_left fun f hm=>?_;have:=List.mem_range.1 hm;simp [show f≠n by omega]
 . simp
theorem wm {t r:E} {c:Nat} {T:Int->Nat->Int} {R:Int} (ht:t.den JI env=some (.t T)) (hr:r.den JI env=some (.i R)):(E.sel t r c).den JI env=some (.i (T R c)):=by
 simp only [E.den,ht,hr]
theorem mF {a:Nat} {i:E} {J:Int} {T:Int->Nat->Int} (ha:(v a).den JI env=some (.t T)) (hi:i.den JI env=some (.i J)) (m:Nat):gK env (KG a i m) ((List.range m).map fun c=>(c,T J c)):=
 gK.map (f:=fun c=>c) (x:=fun c=>.sel (v a) i c) (y:=fun c=>T J c) fun _ _=>wm ha hi
theorem FN {f:Nat} {x:E} {y:Int} (h:x.den JI env=some (.i y)):gK env [(f,x)] [(f,y)]:=⟨rfl,h,trivial⟩
theorem FM {f g:Nat} {x x':E} {y y':Int} (h:x.den JI env=some (.i y)) (h':x'.den JI env=some (.i y')):gK env [(f,x),(g,x')] [(f,y),(g,y')]:=⟨rfl,h,rfl,h',trivial⟩
theorem PN {f g e:Nat} {x x' z:E} {y y' w:Int} (h:x.den JI env=some (.i y)) (h':x'.den JI env=some (.i y')) (h2:z.den JI env=some (.i w)):gK env [(f,x),(g,x'),(e,z)] [(f,y),(g,y'),(e,w)]:=⟨rfl,h,rfl,h',rfl,h2,trivial⟩
theorem Cm {z:Int} (h:z≠0):tr z=1:=if_pos h
theorem Cn {z:Int} (h:z=0):tr z=0:=if_neg (fun k=>k h)
theorem LQ (hS:St S) (h0:At env 0 S) (hs:Small S) {nv:Nat} {J N:Int} {T:Int->Nat->Int} (a0:(v nv).den JI env=some (.i J)) (a1:(v (nv+1)).den JI env=some (.t T)) (a2:(v (nv+2)).den JI env=some (.i N)) (J0:0<=J) (JB:J<gi S 26) (N0:0<=N) (hT:qF T N=zG S 6 J 0):(qzY nv).vc JI env:=by
 have b0:=vi hS h0 (c:=26) rfl;have t0:=vt hS h0 (c:=25) rfl;have B6:=hs.a26.2
 have hm:Row S 6 J ((List.range 4).map (fun f=>(f,gt S 25 J f))++[(4,tr (gt S 25 J 4))]):=F6 (n:=4) (by simp [qj]) J0 (by simpa [qz] using JB) (by decide) (fun f hf=>by
   simp only [qh,Int.reduceEq,if_true,if_false];rw [if_neg (by omega)];simp) (by simp [qh])
 have r:=room hs (by omega) (by omega) J0 N0 hT hm;have r:N+5<=1000000:=by simpa using r
 have go:∀x:Int,tr (gt S 25 J 4)=x->(asA (xI (v (nv+2)) 4 5) (XP 6 (v nv) (v 26) (v (nv+1)) (v (nv+2)) (KG 25 (v nv) 4++[(4,.lit x)]))).vc JI env:=fun x hx=>
   jC (dQ a2 r (by decide)) (ZV hS h0 a0 b0 a1 a2 N0 J0 JB (by omega) hT (gK.app (mF t0 a0 4) (FN qL)) (hx ▸ hm))
 exact jC (dQ a2 (by omega) (by decide)) (gN (wm t0 a0) (fun h=>go 1 (Cm h)) fun h=>go 0 (Cn h))
theorem CS {i:Int} (i0:0<=i) (i1:i<gi S 36):jQ S 11 i 3=[(11,i,0,gt S 35 i 0)]++(if i<gi S 38 then [(11,i,1,tr (gt S 37 i 0))] else [])++(if i<gi S 40 then [(11,i,2,gt S 39 i 0)] else []):=by
 have h0:zo S 11 i 0=true:=decide_eq_true ⟨i0,by simpa [qz] using i1,by decide,by simp [qj],.inr (.inl rfl)⟩
 have h1:zo S 11 i 1=decide (i<gi S 38):=by
   unfold zo;refine decide_eq_decide.2 ⟨fun h=>?_,fun h=>⟨i0,by simpa [qz] using i1,by decide,by simp [qj],.inr (.inr (.inl ⟨rfl,h⟩))⟩⟩;obtain ⟨_,_,_,_,h⟩:=h;omega
 have h2:zo S 11 i 2=decide (i<gi S 40):=by
   unfold zo;refine decide_eq_decide.2 ⟨fun h=>?_,fun h=>⟨i0,by simpa [qz] using i1,by decide,by simp [qj],.inr (.inr (.inr ⟨rfl,h⟩))⟩⟩;obtain ⟨_,_,_,_,h⟩:=h;omega
 rw [jB,jB,jB];simp only [show ((2:Nat):Int)=2 from rfl,show ((0:Nat):Int)=0 from rfl,show ((1:Nat):Int)=1 from rfl,h0,h1,h2,decide_eq_true_eq,if_true];simp [qh,jQ]
theorem Uq (hS:St S) (h0:At env 0 S) (hs:Small S) {nv:Nat} {J N:Int} {T:Int->Nat->Int} (a0:(v nv).den JI env=some (.i J)) (a1:(v (nv+1)).den JI env=some (.t T)) (a2:(v (nv+2)).den JI env=some (.i N)) (J0:0<=J) (JB:J<gi S 36) (N0:0<=N) (hT:qF T N=zG S 11 J 0):(qjl nv).vc JI env:=by
 have b36:=vi hS h0 (c:=36) rfl;have b38:=vi hS h0 (c:=38) rfl;have b40:=vi hS h0 (c:=40) rfl;have t35:=wm (c:=0) (vt hS h0 (c:=35) rfl) a0;have t37:=wm (c:=0) (vt hS h0 (c:=37) rfl) a0;have t39:=wm (c:=0) (vt hS h0 (c:=39) rfl) a0;have B6:=hs.a36.2;have hp:=CS (S:=S) J0 JB;have hf:(qj S 11 J).toNat=3:=by simp [qj]
 have a:=fE hT N0;have le:=iV hs (k:=11) (f:=0) (i:=J) (by decide) (by decide) J0
 have go:∀{l:List (Nat × E)} {m:List (Nat × Int)},gK env l m->jQ S 11 J 3=m.map (fun p=>((11:Int),J,(p.1:Int),p.2))->(XP 11 (v nv) (v 36) (v (nv+1)) (v (nv+2)) l).vc JI env:=fun hv hm=>
   ZV hS h0 a0 b36 a1 a2 N0 J0 JB (by omega) hT hv ⟨by show jQ S 11 J (qj S 11 J).toNat=_;rw [hf];exact hm⟩
 have cp:∀{a b:Nat},b<=3->a<=b->∀p∈xI (v (nv+2)) a b,p.den JI env:=fun hb hab=>dQ a2 (by omega) hab;refine gU (xX a0 b38) (fun c38=>gU (xX a0 b40) (fun c40=>?_) fun c40=>?_) fun c38=>gU (xX a0 b40) (fun c40=>?_) fun c40=>?_
 . rw [if_pos c38,if_pos c40] at hp;refine jC (cp (by decide) (by decide)) (gN t37 (fun h=>jC (cp (by decide) (by decide)) (go (PN t35 qL t39) ?_)) fun h=>jC (cp (by decide) (by decide)) (go (PN t35 qL t39) ?_))
   . rw [hp,Cm h];rfl
   . rw [hp,Cn h];rfl
 . rw [if_pos c38,if_neg c40] at hp;refine jC (cp (by decide) (by decide)) (gN t37 (fun h=>jC (cp (by decide) (by decide)) (go (FM t35 qL) ?_)) fun h=>jC (cp (by decide) (by decide)) (go (FM t35 qL) ?_))
   . rw [hp,Cm h];rfl
   . rw [hp,Cn h];rfl
 . rw [if_neg c38,if_pos c40] at hp;exact jC (cp (by decide) (by decide)) (go (FM t35 t39) (by rw [hp];rfl))
 . rw [if_neg c38,if_neg c40] at hp;exact jC (cp (by decide) (by decide)) (go (FN t35) (by rw [hp];rfl))
theorem Qp {nv:Nat} {F:Nat->Tree} {J:Int} (a0:(v nv).den JI env=some (.i J)) (J0:0<=J):∀m:Nat,J<m->(∀j:Nat,J=j->(F (41+15*j)).vc JI env)->(iJ nv F m).vc JI env
 | 0,h,_=>by omega
 | m+1,h,hF=>gU (xC a0 qL) (fun e=>hF m e) fun e=>Qp a0 J0 m (by omega) hF
theorem qjM:∀j:Nat,j<16->(∀c∈[0,1,2,3,4,5,6,8,9,11,13,14],stS[41+15*j+c]?=some false)/\∀c∈[7,10,12],stS[41+15*j+c]?=some true:=by
 have h:((List.range 16).all fun j=>([0,1,2,3,4,5,6,8,9,11,13,14].all fun c=>decide (stS[41+15*j+c]?=some false)) && [7,10,12].all fun c=>decide (stS[41+15*j+c]?=some true))=true:=by decide +kernel
 intro j hj;have h:=List.all_eq_true.1 h j (List.mem_range.2 hj);rw [Bool.and_eq_true] at h;exact ⟨fun c hc=>of_decide_eq_true (List.all_eq_true.1 h.1 c hc),fun c hc=>of_decide_eq_true (List.all_eq_true.1 h.2 c hc)⟩
theorem Yp {j:Nat} {c:Nat} (hc:c<15):gi (arP S (j:Int)) c=gi S (41+15*j+c):=by rw [zS hc];simp [arB]
theorem TA {j:Nat} {c:Nat} (hc:c<15):gt (arP S (j:Int)) c=gt S (41+15*j+c):=by rw [iw hc];simp [arB]
theorem qqv (hS:St S) (h0:At env 0 S) (hs:Small S) {nv j:Nat} {N:Int} {T:Int->Nat->Int} (hj:j<16) (a0:(v nv).den JI env=some (.i j)) (a1:(v (nv+1)).den JI env=some (.t T)) (a2:(v (nv+2)).den JI env=some (.i N)) (N0:0<=N) (hT:qF T N=zG S 12 j 0):(arT nv (41+15*j)).vc JI env:=by
 obtain ⟨si,_⟩:=qjM j hj
 have hm:Row S 12 (j:Int) ((List.range 7).map (fun f=>(f,gi S (41+15*j+f)))++[(7,tr (gi S (41+15*j+9))),(8,gi S (41+15*j+14))]):=RZ (n:=7) (by simp [qj,arF]) (by omega) (by simp [qz];omega) (by decide) (fun f hf=>by
   simp only [qh,arG,Int.reduceEq,if_true,if_false];rw [if_neg (by omega),if_neg (by omega),Int.toNat_natCast,Yp (by omega)]) (by
   simp [qh,arG,Yp]) (by simp [qh,arG,Yp])
 have r:=room hs (by omega) (by omega) (by omega) N0 hT hm;have r:N+9<=1000000:=by simpa using r
 have d9:=vi hS h0 (si 9 (by decide));have d14:=vi hS h0 (si 14 (by decide))
 have go:∀x:Int,tr (gi S (41+15*j+9))=x->(asA (xI (v (nv+2)) 7 9) (XP 12 (v nv) (.lit 16) (v (nv+1)) (v (nv+2)) ((List.range 7).map (fun c=>(c,v (41+15*j+c)))++[(7,.lit x),(8,v (41+15*j+14))]))).vc JI env:=fun x hx=>
   jC (dQ a2 (by omega) (by decide)) (ZV hS h0 a0 qL a1 a2 N0 (by omega) (by omega) (by decide) hT (gK.app (gK.map (f:=fun c=>c) (x:=fun c=>v (41+15*j+c)) (y:=fun c=>gi S (41+15*j+c)) fun c hc=>vi hS h0 (si c (by
     have:=List.mem_range.1 hc;have:c=0\/c=1\/c=2\/c=3\/c=4\/c=5\/c=6:=by omega
     rcases this with rfl | rfl | rfl | rfl | rfl | rfl | rfl <;> simp))) (FM qL d14)) (hx ▸ hm))
 exact jC (dQ a2 (by omega) (by decide)) (gN d9 (fun h=>go 1 (Cm h)) fun h=>go 0 (Cn h))
end
end Go.Sp
noncomputable section
set_option linter.unusedSimpArgs false
namespace Go.Sp
open Go Go.Sx
section
variable {S env:List D}
theorem Xy {a:E} {x y:Int} (ha:a.den JI env=some (.i x)) (hx:0<=x):(E.bin .tmod a (.lit y)).den JI env=some (.i (x % y)):=by
 simp only [E.den,ha,BO.ev,Int.tmod_eq_emod_of_nonneg hx]
theorem MW {a:E} {x y:Int} (ha:a.den JI env=some (.i x)) (hx:0<=x):(E.bin .tdiv a (.lit y)).den JI env=some (.i (x / y)):=by
 simp only [E.den,ha,BO.ev,Int.tdiv_eq_ediv_of_nonneg hx]
theorem lQ {a b:E} {x y:Int} (ha:a.den JI env=some (.i x)) (hb:b.den JI env=some (.i y)):(E.bin .mul a b).den JI env=some (.i (x*y)):=by
 simp only [E.den,ha,hb,BO.ev]
theorem aZ {a b:E} {x y:Int} (ha:a.den JI env=some (.i x)) (hb:b.den JI env=some (.i y)):(E.bin .add a b).den JI env=some (.i (x+y)):=by
 simp only [E.den,ha,hb,BO.ev]
theorem SC {T f:E} {x:Int} {a b:Tree} (h:(E.sel T f 0).den JI env=some (.i x)) (hx:x≠0) (ha:a.vc JI env):(Tree.branch (isE T f) a b).vc JI env:=by
 refine gU (xC (xC h qL) qL) (fun _=>ha) fun k=>?_;rw [if_neg hx] at k;exact absurd rfl k
theorem Ja (hS:St S) (h0:At env 0 S) (hs:Small S) {k nv a c j:Nat} {N:Int} {T:Int->Nat->Int} (hL:env.length=nv+3) (hk:k=13\/k=14\/k=15) (hj:j<16) (a0:(v nv).den JI env=some (.i j)) (_a1:(v (nv+1)).den JI env=some (.t T))
   (_a2:(v (nv+2)).den JI env=some (.i N)) (_N0:0<=N) (hT:qF T N=zG S k j 0) (st:stS[a+c]?=some true) (si:stS[a+c+1]?=some false) (hf:qj S k j=2*gi S (a+c+1)) (g0:0<=gi S (a+c+1)) (g1:gi S (a+c+1)<=600)
   (hg:∀f:Int,qh S k j f=gt S (a+c) (f / 2) (f % 2).toNat):(pairT k nv a c).vc JI env:=by
 have dl:=vi hS h0 si;have dt:=vt hS h0 st;refine ⟨p57 dl ⟨g0,by omega⟩,fun U n'=>?_⟩;have e2:env++[D.t U]++[.i n']=env++[.t U,.i n']:=by simp
 rw [e2];intro _ h54;have A:At (env++[.t U,.i n']) (nv+3) [.t U,.i n']:=hL ▸ At.new _ _;have dU:=A.v (i:=0) rfl (m:=nv+3) rfl;have dB:=lQ (zQ [.t U,.i n'] dl) (qL (n:=2))
 have hU:eX U (gi S (a+c+1)*2):=by
   obtain ⟨ds,e1,e2⟩:=h54;simp only [qg,dU,dB,Option.some.injEq] at e1;subst e1;exact e2
 refine ⟨zn qL dB (by omega),?_⟩;have H0:=h0.more [.t U,.i n'];refine DC hS H0 (nv:=nv+5) (iv:=nv) (by simp [hL]) dB (zQ _ a0) (fun f T' n f0 fB n0 hT'=>?_) fun f T' n n0 hfB hT'=>?_
 . have A':At (env++[.t U,.i n']++[.i f,.t T',.i n]) (nv+5) [.i f,.t T',.i n]:=At.pV (by simp [hL]);have b0:=A'.v (i:=0) rfl (m:=nv+5) rfl;have b1:=A'.v (i:=1) rfl (m:=nv+6) rfl;have b2:=A'.v (i:=2) rfl (m:=nv+7) rfl;have H1:=H0.more [.i f,.t T',.i n];have iZ:=wm (c:=0) (zQ [.i f,.t T',.i n] dU) b0;have hu:=(hU f f0 fB).1;rw [hu] at iZ
   have dco:(oU (v (nv+3)) (v (nv+5))).den JI (env++[.t U,.i n']++[.i f,.t T',.i n])=some (.i f):=by
     have:=ze iZ (qL (n:=1))
     rwa [show f+1 - 1=f by omega] at this
   have dj:=zQ [.i f,.t T',.i n] (zQ [.t U,.i n'] a0);have dB':=zQ [.i f,.t T',.i n] dB;have dl':=zQ [.i f,.t T',.i n] (zQ [.t U,.i n'] dl);have dt':=zQ [.i f,.t T',.i n] (zQ [.t U,.i n'] dt);have hh:zo S k j f=true:=decide_eq_true ⟨by omega,by rcases hk with rfl | rfl | rfl <;> (simp [qz];omega),f0,by omega,.inl (by omega)⟩;have dq:=MW (y:=2) dco f0
   have go:∀p:Nat,f % 2=p->(asA [leP (.lit 0) (.bin .tdiv (oU (v (nv+3)) (v (nv+5))) (.lit 2)),.tt (.bin .lt (.bin .tdiv (oU (v (nv+3)) (v (nv+5))) (.lit 2)) (v (a+c+1)))] (GY k (v nv) (v (nv+5)) (.bin .mul (v (a+c+1)) (.lit 2)) (v (nv+6)) (v (nv+7)) (.sel (v (a+c)) (.bin .tdiv (oU (v (nv+3)) (v (nv+5))) (.lit 2)) p))).vc JI (env++[.t U,.i n']++[.i f,.t T',.i n]):=fun p hp=>by
     refine jC (fun q hq=>?_) (Ma hS H1 hs dj b0 dB' b1 b2 (wm dt' dq) n0 (by omega) f0 fB (by omega) (by omega) (by omega) hT' hh ?_)
     . simp only [List.mem_cons,List.not_mem_nil,or_false] at hq;rcases hq with rfl | rfl
       . exact zn qL dq (by omega)
       . exact Qe (xX dq dl') (by rw [if_pos (by omega)];decide)
     . rw [hg,hp];rfl
   refine SC iZ (by omega) ⟨Qe (xX qL iZ) (by rw [if_pos (by omega)];decide),?_⟩;refine gU (xC (Xy (y:=2) dco f0) qL) (fun e=>go 0 e) fun e=>gU (xC (Xy (y:=2) dco f0) qL) (fun e=>go 1 e) fun e'=>?_;omega
 . have A':At (env++[.t U,.i n']++[.i f,.t T',.i n]) (nv+5) [.i f,.t T',.i n]:=At.pV (by simp [hL]);have H1:=H0.more [.i f,.t T',.i n];refine KQ hS H1 (zQ _ (zQ _ a0)) qL (A'.v (i:=1) rfl rfl) (A'.v (i:=2) rfl rfl) (by omega) (by omega) (by decide) ?_;rw [hT',Yu (f:=gi S (a+c+1)*2) (by omega) (by omega) (by omega)]
theorem p56 {env:List D} {T m i:E} {U:Int->Nat->Int} {M I:Int} (hT:T.den JI env=some (.t U)) (hm:m.den JI env=some (.i M)) (hi:i.den JI env=some (.i I)):(PE.pr 56 [T,m,i]).den JI env↔oP U M I:=by
 constructor
 . rintro ⟨ds,e1,e2⟩;simp only [qg,hT,hm,hi,Option.some.injEq] at e1;subst e1;exact e2
 . exact fun h=>⟨[.t U,.i M,.i I],by simp only [qg,hT,hm,hi],h⟩
theorem E9 {I:Int}:oP (qd (qd (fun _ _=>0) 0 0 (I*3+1)) 0 1 (I*3+1)) 0 I:=by
 refine ⟨?_,fun q q0 qm=>by omega⟩;simp [qd];omega
theorem E8 {U:Int->Nat->Int} {M I n:Int} (h:oP U M I) (m0:0<=M) (hn:n=1+2*M) :
   oP (qd (qd (qd (qd (qd (qd (qd (qd U n 0 (M*3+2)) n 1 (M*3+2)) n 2 0) n 3 0) (n+1) 0 (M*3+3)) (n+1) 1 (M*3+3)) (n+1) 2 0) (n+1) 3 0) (M+1) I:=by
 obtain ⟨a,b⟩:=h;refine ⟨?_,fun q q0 qm=>?_⟩
 . have e1:(0:Int)≠n:=by omega
   have e2:(0:Int)≠n+1:=by omega
   simpa [qd,e1,e2] using a
 . by_cases e:q=M
   . subst e;have e1:1+2*q=n:=by omega
     have e2:2+2*q=n+1:=by omega
     have e3:n≠n+1:=by omega
     rw [e1,e2];refine ⟨?_,?_⟩
     . simp [qd,e3];omega
     . simp [qd];omega
   . have b:=b q q0 (by omega);have e1:1+2*q≠n:=by omega
     have e2:1+2*q≠n+1:=by omega
     have e3:2+2*q≠n:=by omega
     have e4:2+2*q≠n+1:=by omega
     simpa [qd,e1,e2,e3,e4] using b
theorem qqq {U:Int->Nat->Int} {M I f:Int} (h:oP U M I) (f0:0<=f) (hf:f<1+2*M):(f=0/\U f 0=3*I+1)\/(f % 2=1/\U f 0=3*((f - 1) / 2)+2)\/(0<f/\f % 2=0/\U f 0=3*((f - 1) / 2)+3):=by
 obtain ⟨a,b⟩:=h;by_cases e:f=0
 . subst e;exact .inl ⟨rfl,a.1⟩
 . right;have b:=b ((f - 1) / 2) (by omega) (by omega);by_cases p:f % 2=1
   . left;have e1:1+2*((f - 1) / 2)=f:=by omega
     have b:=b.1.1;rw [e1] at b;exact ⟨p,b⟩
   . right;have e1:2+2*((f - 1) / 2)=f:=by omega
     have b:=b.2.1;rw [e1] at b;exact ⟨by omega,by omega,b⟩
theorem qxM {a b:E} {x y:Int} (ha:a.den JI env=some (.i x)) (hb:b.den JI env=some (.i y)):(E.fn 1014 a b (.lit 0) (.lit 0)).den JI env=some (.i (llen x y)):=by
 simp only [E.den,ha,hb,wV,D.int]
theorem qxH {a b:E} {x y:Int} (ha:a.den JI env=some (.i x)) (hb:b.den JI env=some (.i y)):(E.fn 1017 a b (.lit 0) (.lit 0)).den JI env=some (.t (gG x y)):=by
 simp only [E.den,ha,hb,wX,D.int]
end
end Go.Sp
noncomputable section
set_option linter.unusedSimpArgs false
namespace Go.Sp
open Go Go.Sx
section
variable {S env:List D}
theorem PV {k:IntKind} {a:E} {x:Int} (h:a.den JI env=some (.i x)):(E.wrap k a).den JI env=some (.i (k.wrap x)):=by
 simp only [E.den,h]
theorem qjK {a b:E} {x y:Int} (ha:a.den JI env=some (.i x)) (hb:b.den JI env=some (.i y)) (h:(PE.tt (.bin .eq a b)).den JI env):x=y:=by
 obtain ⟨n,h1,h2⟩:=h;rw [xC ha hb] at h1;simp only [Option.some.injEq,D.i.injEq] at h1;by_cases c:x=y
 . exact c
 . simp [c] at h1;omega
theorem IE {a b:E} {x y:Int} (ha:a.den JI env=some (.i x)) (hb:b.den JI env=some (.i y)) (h:x=y):(PE.tt (.bin .eq a b)).den JI env:=Qe (xC ha hb) (by rw [if_pos h];decide)
theorem MB (hS:St S) (h0:At env 0 S) (hs:Small S) {nv:Nat} {J f N:Int} {T:Int->Nat->Int} (a0:(v nv).den JI env=some (.i J)) (b0:(v (nv+3)).den JI env=some (.i f)) (b1:(v (nv+4)).den JI env=some (.t T)) (b2:(v (nv+5)).den JI env=some (.i N))
   (J0:0<=J) (JB:J<gi S 5) (N0:0<=N) (f0:0<=f) (hT:qF T N=zG S 3 J f):∀m:Nat,m<=65->f<m->(E5 nv m).vc JI env
 | 0,_,h=>by omega
 | j+1,hm,h=>gU (xC b0 qL) (fun e=>by
     subst e;have hh:zo S 3 J j=true:=decide_eq_true ⟨J0,by simpa [qz] using JB,by omega,by simp [qj];omega,.inl (by decide)⟩
     have hx:(EA nv j).den JI env=some (.i (qh S 3 J j)):=by
       have t4:=vt hS h0 (c:=4) rfl;unfold EA;by_cases c:j=64
       . subst c;exact wm t4 a0
       . have e:Nat.beq j 64=false:=Bool.eq_false_iff.2 fun h=>c (Nat.eq_of_beq_eq_true h);rw [e,cond_false,PV (wm t4 a0)];simp only [qh,Int.reduceEq,if_true,if_false];rw [if_pos (by omega),Int.toNat_natCast]
     have nx:=Yi (S:=S) (k:=3) (i:=J) f0;rw [if_pos hh] at nx;have a:=fE hT N0;have le:=iV hs (k:=3) (f:=(j:Int)+1) (by omega) (by omega) J0;rw [nx,List.length_append,List.length_singleton] at le;refine jC (fun p hp=>?_) trivial;simp only [List.mem_cons,List.not_mem_nil,or_false] at hp;rcases hp with rfl | rfl | rfl | rfl
     . exact zn (jP b2) qL (by omega)
     . exact zn qL (jP b2) (by omega)
     . refine (yH hS h0 qL a0 qL (jc (jc (jc (jc b1 b2 qL) b2 a0) b2 qL) b2 hx) (jP b2)).2 ?_;show qF _ (N+1)=zG S 3 J ((j:Int)+1);rw [vo N0,hT,nx]
     . exact Qe (xX qL (ze qL b0)) (by rw [if_pos (by omega)];decide)) fun e=>MB hS h0 hs a0 b0 b1 b2 J0 JB N0 f0 hT j (by omega) (by omega)
theorem Ut (hS:St S) (h0:At env 0 S) (hs:Small S) {nv:Nat} {J N:Int} {T:Int->Nat->Int} (hL:env.length=nv+3) (a0:(v nv).den JI env=some (.i J)) (J0:0<=J) (JB:J<gi S 5) (hT:qF T N=zG S 3 J 0):(qjY nv).vc JI env:=by
 have _:=hT;refine DC hS h0 (k:=3) (nv:=nv+3) (iv:=nv) hL qL a0 (fun f T' n f0 fB n0 hT'=>?_) fun f T' n n0 hfB hT'=>?_
 . have A':=At.pV (a:=D.i f) (b:=D.t T') (c:=D.i n) hL;exact MB hS (h0.more _) hs (zQ _ a0) (A'.v (i:=0) rfl rfl) (A'.v (i:=1) rfl rfl) (A'.v (i:=2) rfl rfl) J0 JB n0 f0 hT' 65 (Nat.le_refl _) fB
 . have A':=At.pV (a:=D.i f) (b:=D.t T') (c:=D.i n) hL;have H1:=h0.more [.i f,.t T',.i n];refine KQ hS H1 (zQ _ a0) (vi hS H1 (c:=5) rfl) (A'.v (i:=1) rfl rfl) (A'.v (i:=2) rfl rfl) J0 JB (by have:=hs.a5;omega) ?_;show qF T' n=zG S 3 (J+1) 0;rw [hT',Yu (f:=65) J0 (by omega) (by simp [qj])];rfl
theorem PK (hS:St S) (h0:At env 0 S) (hs:Small S) {nv:Nat} {J N:Int} {T:Int->Nat->Int} (hL:env.length=nv+3) (a0:(v nv).den JI env=some (.i J)) (_a1:(v (nv+1)).den JI env=some (.t T)) (_a2:(v (nv+2)).den JI env=some (.i N)) (J0:0<=J) (JB:J<gi S 33) (_N0:0<=N) (_hT:qF T N=zG S 9 J 0):(UH nv).vc JI env:=by
 have t32:=vt hS h0 (c:=32) rfl;have dc:=wm (c:=1) t32 a0;have EI:(lnC nv).den JI env=some (.i (llen (gt S 32 J 1) 2)):=qxM dc (qL (n:=2));have lm:=hs.cut J J0 JB;have l0:0<=llen (gt S 32 J 1) 2:=Int.natCast_nonneg _;generalize hG:llen (gt S 32 J 1) 2=L at EI lm l0;have d3:=aZ (lQ a0 (qL (n:=3))) (qL (n:=1));refine ⟨zn qL EI l0,(p56 (jc (jc rfl qL d3) qL d3) qL a0).2 E9,fun m U n=>?_⟩;rw [UW];have A:=At.pV (a:=D.i m) (b:=D.t U) (c:=D.i n) hL;have b0:=A.v (i:=0) rfl (m:=nv+3) rfl;have b1:=A.v (i:=1) rfl (m:=nv+4) rfl;have b2:=A.v (i:=2) rfl (m:=nv+5) rfl;have dl:=zQ [.i m,.t U,.i n] EI;have dj:=zQ [.i m,.t U,.i n] a0;have H0:=h0.more [.i m,.t U,.i n];intro q1 q2 q3 q4;have m0:=sD qL b0 q1;have mL:=sD b0 dl q2;have hn:=qjK b2 (aZ qL (lQ qL b0)) q3;have hc:=(p56 b1 b0 dj).1 q4;refine gU (xX b0 dl) (fun c=>jC (fun p hp=>?_) trivial) fun c=>?_
 . rcases List.mem_append.1 hp with hp | hp
   . rcases List.mem_append.1 hp with hp | hp
     . rcases List.mem_cons.1 hp with rfl | hp
       . exact zn (jP b2) qL (by omega)
       . exact oz b0 dl m0 c (by omega) p hp
     . rcases List.mem_cons.1 hp with rfl | hp
       . exact IE (jP b2) (aZ qL (lQ qL (jP b0))) (by show n+2=1+2*(m+1);omega)
       . obtain rfl:=List.mem_singleton.1 hp;have x2:(Ny nv 2).den JI (env++[.i m,.t U,.i n])=some (.i (m*3+2)):=aZ (lQ b0 qL) qL;have x3:(Ny nv 3).den JI (env++[.i m,.t U,.i n])=some (.i (m*3+3)):=aZ (lQ b0 qL) qL;exact (p56 (jc (jc (jc (jc (jc (jc (jc (jc b1 b2 x2) b2 x2) b2 qL) b2 qL) (jP b2) x3) (jP b2) x3) (jP b2) qL) (jP b2) qL) (jP b0) dj).2 (E8 hc m0 hn)
   . exact ZB b0 dl c p hp
 . obtain rfl:m=L:=by omega
   have hf:qj S 9 J=n:=by simp only [qj,Int.reduceEq,if_true,if_false,hG];omega
   refine ⟨zn qL b2 (by omega),?_⟩;refine DC hS H0 (k:=9) (nv:=nv+6) (iv:=nv) (by simp [hL]) b2 dj (fun f T' n' f0 fB n0 hT'=>?_) fun f T' n' n0 hfB hT'=>?_
   . have A':At (env++[.i m,.t U,.i n]++[.i f,.t T',.i n']) (nv+6) [.i f,.t T',.i n']:=At.pV (by simp [hL]);have e0:=A'.v (i:=0) rfl (m:=nv+6) rfl;have e1:=A'.v (i:=1) rfl (m:=nv+7) rfl;have e2:=A'.v (i:=2) rfl (m:=nv+8) rfl;have H1:=H0.more [.i f,.t T',.i n'];have iZ:=wm (c:=0) (zQ [.i f,.t T',.i n'] b1) e0;have dj':=zQ [.i f,.t T',.i n'] dj;have dn:=zQ [.i f,.t T',.i n'] b2;have dl':=zQ [.i f,.t T',.i n'] dl;have qqM:=vt hS H1 (c:=32) rfl;have dU':=qxH (wm (c:=1) qqM dj') (qL (n:=2));have hh:zo S 9 J f=true:=decide_eq_true ⟨J0,by simpa [qz] using JB,f0,by omega,.inl (by decide)⟩;have hcut:=qqq hc f0 (by omega);generalize hx:U f 0=x at iZ hcut;have x1:0<x:=by omega
     have dco:(oU (v (nv+4)) (v (nv+6))).den JI (env++[.i m,.t U,.i n]++[.i f,.t T',.i n'])=some (.i (x - 1)):=ze iZ (qL (n:=1));have dq:=MW (y:=3) dco (by omega);have dm:=Xy (y:=3) dco (by omega)
     have go:∀{l:List PE} {y:E} {Y:Int},(∀p∈l,p.den JI (env++[.i m,.t U,.i n]++[.i f,.t T',.i n']))->y.den JI (env++[.i m,.t U,.i n]++[.i f,.t T',.i n'])=some (.i Y)->Y=qh S 9 J f->
         (asA l (GY 9 (v nv) (v (nv+6)) (v (nv+5)) (v (nv+7)) (v (nv+8)) y)).vc JI (env++[.i m,.t U,.i n]++[.i f,.t T',.i n']):=fun hl hy hY=>
       jC hl (Ma hS H1 hs dj' e0 dn e1 e2 hy n0 J0 f0 fB (by omega) (by decide) (by decide) hT' hh hY)
     refine SC iZ (by omega) ⟨Qe (xX qL iZ) (by rw [if_pos (by omega)];decide),?_⟩
     have two:∀p∈[leP (.lit 0) (.bin .tdiv (oU (v (nv+4)) (v (nv+6))) (.lit 3)),.tt (.bin .lt (.bin .tdiv (oU (v (nv+4)) (v (nv+6))) (.lit 3)) (lnC nv))],f≠0->p.den JI (env++[.i m,.t U,.i n]++[.i f,.t T',.i n']):=fun p hp hf0=>by
       simp only [List.mem_cons,List.not_mem_nil,or_false] at hp;rcases hp with rfl | rfl
       . exact zn qL dq (by omega)
       . exact Qe (xX dq dl') (by rw [if_pos (by omega)];decide)
     refine gU (xC dm qL) (fun e=>?_) fun e=>gU (xC dm qL) (fun e=>?_) fun e'=>gU (xC dm qL) (fun e=>?_) fun e2=>?_
     . have ef:f=0:=by omega
       refine go (fun p hp=>?_) (wm (c:=0) qqM dj') (by simp [qh,ef]);obtain rfl:=List.mem_singleton.1 hp;exact IE dq dj' (by omega)
     . have ef:f≠0:=by omega
       have eq:(x - 1) / 3=(f - 1) / 2:=by omega
       refine go (fun p hp=>two p hp ef) (wm (c:=0) dU' dq) ?_;simp only [qh,Int.reduceEq,if_true,if_false];rw [if_neg ef,eq,show (f - 1) % 2=0 by omega];rfl
     . have ef:f≠0:=by omega
       have eq:(x - 1) / 3=(f - 1) / 2:=by omega
       refine go (fun p hp=>two p hp ef) (wm (c:=1) dU' dq) ?_;simp only [qh,Int.reduceEq,if_true,if_false];rw [if_neg ef,eq,show (f - 1) % 2=1 by omega];rfl
     . omega
   . have A':At (env++[.i m,.t U,.i n]++[.i f,.t T',.i n']) (nv+6) [.i f,.t T',.i n']:=At.pV (by simp [hL]);have H1:=H0.more [.i f,.t T',.i n'];refine KQ hS H1 (zQ _ dj) (vi hS H1 (c:=33) rfl) (A'.v (i:=1) rfl rfl) (A'.v (i:=2) rfl rfl) J0 JB (by have:=hs.a33;omega) ?_;show qF T' n'=zG S 9 (J+1) 0;rw [hT',Yu (f:=n) J0 (by omega) (by omega)];rfl
end
theorem J7 {S env:List D} (hS:St S) (h0:At env 0 S) {k:Nat} {t n:E} {K N:Int} {T:Int->Nat->Int} (hk:k<=16) (b0:(v 281).den JI env=some (.i K)) (e:K=k) (ht:t.den JI env=some (.t T)) (hn:n.den JI env=some (.i N)) (hT:qF T N=zG S (k+1:Nat) 0 0):(Mf k t n).vc JI env:=by
 refine jC (fun p hp=>?_) trivial;rcases List.mem_cons.1 hp with rfl | hp
 . exact (yH hS h0 qL qL qL ht hn).2 hT
 . obtain rfl:=List.mem_singleton.1 hp;exact Qe (xX qL (ze qL b0)) (by rw [if_pos (by omega)];decide)
theorem wD {S env:List D} (hS:St S) (h0:At env 0 S) (hL:env.length=284) {k:Nat} {bound:E} {pre:List PE} {body:Tree} {K B N:Int} {T:Int->Nat->Int} (k1:1<=k) (hk:k<=16) (b0:(v 281).den JI env=some (.i K)) (e:K=k) (b1:(v 282).den JI env=some (.t T)) (b2:(v 283).den JI env=some (.i N))
   (hT:qF T N=zG S k 0 0) (hp:∀p∈pre,p.den JI env) (hb:bound.den JI env=some (.i B)) (hB:qz S k=B)
   (h1:∀E i T n,E.length=287->At E 0 S->(v 284).den JI E=some (.i i)->(v 285).den JI E=some (.t T)->(v 286).den JI E=some (.i n)->bound.den JI E=some (.i B)->0<=i->i<B->0<=n->qF T n=zG S k i 0->body.vc JI E):(xA k bound pre body).vc JI env:=by
 refine jC (fun p hq=>?_) ?_
 . rcases List.mem_append.1 hq with hq | hq
   . exact hp p hq
   . obtain rfl:=List.mem_singleton.1 hq;exact (yH hS h0 qL qL qL b1 b2).2 hT
 . refine Sm hS h0 hL hb hB k1 (fun i T n i0 iB n0 hT=>?_) fun i T n n0 hT=>?_
   . have A:=At.pV (a:=D.i i) (b:=D.t T) (c:=D.i n) hL;exact h1 _ i T n (by simp [hL]) (h0.more _) (A.v (i:=0) rfl rfl) (A.v (i:=1) rfl rfl) (A.v (i:=2) rfl rfl) (zQ _ hb) i0 iB n0 hT
   . have A:=At.pV (a:=D.i i) (b:=D.t T) (c:=D.i n) hL;exact J7 hS (h0.more _) hk (zQ _ b0) e (A.v (i:=1) rfl rfl) (A.v (i:=2) rfl rfl) hT
theorem Ze {S env:List D} (hS:St S) (h0:At env 0 S) (hs:Small S) {k:Nat} {l:List (Nat × E)} {m:List (Nat × Int)} {K N:Int} {T:Int->Nat->Int} (k1:1<=k) (hk:k<=16) (b0:(v 281).den JI env=some (.i K)) (e:K=k) (b1:(v 282).den JI env=some (.t T)) (b2:(v 283).den JI env=some (.i N)) (N0:0<=N)
   (hT:qF T N=zG S k 0 0) (h1:qz S k=1) (hv:gK env l m) (hm:Row S k 0 m):(R8 k l).vc JI env:=by
 have r:=room hs (by omega) (by omega) (Int.le_refl 0) N0 hT hm;obtain ⟨T',g1,g2⟩:=ZP b2 (k:=.lit k) (i:=.lit 0) qL qL N0 (j:=0) hv b1;refine jC (fun p hq=>?_) (J7 hS h0 hk b0 e g1 (jP b2) ?_)
 . rcases List.mem_append.1 hq with hq | hq
   . exact dQ b2 (by rw [hv.length];exact r) (Nat.zero_le _) p hq
   . obtain rfl:=List.mem_singleton.1 hq;exact zn qL (jP b2) (by omega)
 . have e:N+((0:Nat):Int)+(l.length:Int)=N+(l.length:Int):=by omega
   have e2:((k+1:Nat):Int)=(k:Int)+1:=by omega
   rw [e] at g2;rw [g2,show N+((0:Nat):Int)=N by omega,hT,e2,BM (i:=1) (by omega) (by omega) (by omega)];rw [show (1:Int)=0+1 from rfl,aH (Int.le_refl 0),hm.eq]
set_option maxRecDepth 10000 in
theorem SF {S env:List D} (hS:St S) (h0:At env 0 S) (hs:Small S) (hL:env.length=284) {k:Nat} {K N:Int} {T:Int->Nat->Int} (hk:k<=16) (b0:(v 281).den JI env=some (.i K)) (e:K=k) (b1:(v 282).den JI env=some (.t T)) (b2:(v 283).den JI env=some (.i N)) (N0:0<=N) (hT:qF T N=zG S k 0 0):(SH k).vc JI env:=by
 have one:∀{c:Nat},stS[c]?=some false->0<=gi S c->∀p∈[leP (.lit 0) (v c)],p.den JI env:=fun hc h p hp=>by
   obtain rfl:=List.mem_singleton.1 hp;exact zn qL (vi hS h0 hc) h
 have none:∀p∈([]:List PE),p.den JI env:=fun p hp=>by cases hp
 have pairs:∀{E:List D} {k c:Nat} {i n:Int} {T:Int->Nat->Int},E.length=287->At E 0 S->(k=13/\c=7\/k=14/\c=10\/k=15/\c=12)->(v 284).den JI E=some (.i i)->(v 285).den JI E=some (.t T)->(v 286).den JI E=some (.i n)->0<=i->i<16->0<=n->qF T n=zG S k i 0->
     (iJ 284 (fun a=>pairT k 284 a c) 16).vc JI E:=fun {E k c i n T} hL h0 hk a0 a1 a2 i0 iB n0 hT=>Qp a0 i0 16 iB fun j e=>by
   subst e;have hj:j<16:=by omega
   obtain ⟨si,st⟩:=qjM j hj;have b:=rG hs j hj;have q8:41+15*j+7+1=49+15*j:=by omega
   have q11:41+15*j+10+1=52+15*j:=by omega
   have q13:41+15*j+12+1=54+15*j:=by omega
   rcases hk with ⟨rfl,rfl⟩ | ⟨rfl,rfl⟩ | ⟨rfl,rfl⟩
   . exact Ja hS h0 hs hL (by decide) hj a0 a1 a2 n0 hT (st 7 (by decide)) (si 8 (by decide)) (by simp [qj,arF,Yp,q8]) (by rw [q8];omega) (by rw [q8];omega) fun f=>by simp [qh,arG,TA]
   . exact Ja hS h0 hs hL (by decide) hj a0 a1 a2 n0 hT (st 10 (by decide)) (si 11 (by decide)) (by simp [qj,arF,Yp,q11]) (by rw [q11];omega) (by rw [q11];omega) fun f=>by simp [qh,arG,TA]
   . exact Ja hS h0 hs hL (by decide) hj a0 a1 a2 n0 hT (st 12 (by decide)) (si 13 (by decide)) (by simp [qj,arF,Yp,q13]) (by rw [q13];omega) (by rw [q13];omega) fun f=>by simp [qh,arG,TA]
 have hk':k=0\/k=1\/k=2\/k=3\/k=4\/k=5\/k=6\/k=7\/k=8\/k=9\/k=10\/k=11\/k=12\/k=13\/k=14\/k=15\/k=16:=by omega
 rcases hk' with rfl | rfl | rfl | rfl | rfl | rfl | rfl | rfl | rfl | rfl | rfl | rfl | rfl | rfl | rfl | rfl | rfl
 . exact J7 hS h0 (by decide) b0 e b1 b2 (hT.trans rfl)
 . exact wD hS h0 hL (by decide) hk b0 e b1 b2 hT (one rfl hs.a1.1) (vi hS h0 (c:=1) rfl) (by simp [qz]) fun E i T n hL h0 a0 a1 a2 hb i0 iB n0 hT=>Zi hS h0 hs (by decide) (by decide) a0 a1 a2 hb i0 iB (by have:=hs.a1;omega) n0 hT (mF (vt hS h0 (c:=0) rfl) a0 3)
     (dF (k:=1) (n:=3) (by simp [qj]) i0 (by simpa [qz] using iB) (by decide) fun f hf=>by simp [qh])
 . exact wD hS h0 hL (by decide) hk b0 e b1 b2 hT (one rfl hs.a3.1) (vi hS h0 (c:=3) rfl) (by simp [qz]) fun E i T n hL h0 a0 a1 a2 hb i0 iB n0 hT=>Zi hS h0 hs (by decide) (by decide) a0 a1 a2 hb i0 iB (by have:=hs.a3;omega) n0 hT (mF (vt hS h0 (c:=2) rfl) a0 1)
     (dF (k:=2) (n:=1) (g:=fun f=>gt S 2 i f) (by simp [qj]) i0 (by simpa [qz] using iB) (by decide) fun f hf=>by
       have e:f=0:=by omega
       subst e;simp [qh])
 . exact wD hS h0 hL (by decide) hk b0 e b1 b2 hT (one rfl hs.a5.1) (vi hS h0 (c:=5) rfl) (by simp [qz]) fun E i T n hL h0 a0 a1 a2 hb i0 iB n0 hT=>Ut hS h0 hs hL a0 i0 iB hT
 . exact wD hS h0 hL (by decide) hk b0 e b1 b2 hT (one rfl hs.a24.1) (vi hS h0 (c:=24) rfl) (by simp [qz]) fun E i T n hL h0 a0 a1 a2 hb i0 iB n0 hT=>Zi hS h0 hs (by decide) (by decide) a0 a1 a2 hb i0 iB (by have:=hs.a24;omega) n0 hT (mF (vt hS h0 (c:=23) rfl) a0 2)
     (dF (k:=4) (n:=2) (by simp [qj]) i0 (by simpa [qz] using iB) (by decide) fun f hf=>by simp [qh])
 . exact Ze hS h0 hs (by decide) hk b0 e b1 b2 N0 hT (by simp [qz]) (FN (vi hS h0 (c:=22) rfl)) (dF (k:=5) (n:=1) (g:=fun _=>gi S 22) (by simp [qj]) (by decide) (by simp [qz]) (by decide) fun f hf=>by simp [qh])
 . exact wD hS h0 hL (by decide) hk b0 e b1 b2 hT (one rfl hs.a26.1) (vi hS h0 (c:=26) rfl) (by simp [qz]) fun E i T n hL h0 a0 a1 a2 hb i0 iB n0 hT=>LQ hS h0 hs a0 a1 a2 i0 iB n0 hT
 . exact Ze hS h0 hs (m:=[(0,gi S 27),(1,gi S 29),(2,gi S 28)]) (by decide) hk b0 e b1 b2 N0 hT (by simp [qz]) (PN (vi hS h0 (c:=27) rfl) (vi hS h0 (c:=29) rfl) (vi hS h0 (c:=28) rfl))
     ⟨((dF (S:=S) (k:=7) (i:=0) (n:=3) (g:=fun f=>qh S 7 0 f) (by simp [qj]) (by decide) (by simp [qz]) (by decide) fun f hf=>rfl).eq).trans (by simp [List.range_succ,qh])⟩
 . exact wD hS h0 hL (by decide) hk b0 e b1 b2 hT (one rfl hs.a31.1) (vi hS h0 (c:=31) rfl) (by simp [qz]) fun E i T n hL h0 a0 a1 a2 hb i0 iB n0 hT=>Zi hS h0 hs (by decide) (by decide) a0 a1 a2 hb i0 iB (by have:=hs.a31;omega) n0 hT (mF (vt hS h0 (c:=30) rfl) a0 2)
     (dF (k:=8) (n:=2) (by simp [qj]) i0 (by simpa [qz] using iB) (by decide) fun f hf=>by simp [qh])
 . exact wD hS h0 hL (by decide) hk b0 e b1 b2 hT (one rfl hs.a33.1) (vi hS h0 (c:=33) rfl) (by simp [qz]) fun E i T n hL h0 a0 a1 a2 hb i0 iB n0 hT=>PK hS h0 hs hL a0 a1 a2 i0 iB n0 hT
 . exact Ze hS h0 hs (by decide) hk b0 e b1 b2 N0 hT (by simp [qz]) (FN (vi hS h0 (c:=34) rfl)) (dF (k:=10) (n:=1) (g:=fun _=>gi S 34) (by simp [qj]) (by decide) (by simp [qz]) (by decide) fun f hf=>by simp [qh])
 . exact wD hS h0 hL (by decide) hk b0 e b1 b2 hT (one rfl hs.a36.1) (vi hS h0 (c:=36) rfl) (by simp [qz]) fun E i T n hL h0 a0 a1 a2 hb i0 iB n0 hT=>Uq hS h0 hs a0 a1 a2 i0 iB n0 hT
 . exact wD hS h0 hL (by decide) hk b0 e b1 b2 hT none qL (by simp [qz]) fun E i T n hL h0 a0 a1 a2 hb i0 iB n0 hT=>Qp a0 i0 16 iB fun j e=>by
     subst e;exact qqv hS h0 hs (by omega) a0 a1 a2 n0 hT
 . exact wD hS h0 hL (by decide) hk b0 e b1 b2 hT none qL (by simp [qz]) fun E i T n hL h0 a0 a1 a2 hb i0 iB n0 hT=>pairs hL h0 (.inl ⟨rfl,rfl⟩) a0 a1 a2 i0 iB n0 hT
 . exact wD hS h0 hL (by decide) hk b0 e b1 b2 hT none qL (by simp [qz]) fun E i T n hL h0 a0 a1 a2 hb i0 iB n0 hT=>pairs hL h0 (.inr (.inl ⟨rfl,rfl⟩)) a0 a1 a2 i0 iB n0 hT
 . exact wD hS h0 hL (by decide) hk b0 e b1 b2 hT none qL (by simp [qz]) fun E i T n hL h0 a0 a1 a2 hb i0 iB n0 hT=>pairs hL h0 (.inr (.inr ⟨rfl,rfl⟩)) a0 a1 a2 i0 iB n0 hT
 . exact Ze hS h0 hs (by decide) hk b0 e b1 b2 N0 hT (by simp [qz]) (gK.map (f:=fun c=>c) (x:=fun c=>v (8+c)) (y:=fun c=>gi S (8+c)) fun c hc=>vi hS h0 (by
     have:=List.mem_range.1 hc;have:c=0\/c=1\/c=2\/c=3\/c=4\/c=5\/c=6\/c=7\/c=8\/c=9\/c=10\/c=11\/c=12\/c=13:=by omega
     rcases this with rfl | rfl | rfl | rfl | rfl | rfl | rfl | rfl | rfl | rfl | rfl | rfl | rfl | rfl <;> rfl))
     (dF (k:=16) (n:=14) (by simp [qj]) (by decide) (by simp [qz]) (by decide) fun f hf=>by simp [qh])
theorem Yf {S env:List D} (hS:St S) (h0:At env 0 S) (hs:Small S) (hL:env.length=284) {K N:Int} {T:Int->Nat->Int} (b0:(v 281).den JI env=some (.i K)) (K0:0<=K) (b1:(v 282).den JI env=some (.t T)) (b2:(v 283).den JI env=some (.i N)) (N0:0<=N) (hT:qF T N=zG S K 0 0) :
   ∀m:Nat,m<=17->K<m->(FZ m).vc JI env
 | 0,_,h=>by omega
 | m+1,hm,h=>gU (xC b0 qL) (fun e=>SF hS h0 hs hL (by omega) b0 e b1 b2 N0 (e ▸ hT)) fun e=>Yf hS h0 hs hL b0 K0 b1 b2 N0 hT m (by omega) (by omega)
theorem qkU:∀env,Sorts kS.sorts env->yY.vc JI env:=by
 intro S h;have hS:St S:=⟨h⟩;have h0:At S 0 S:=⟨[],[],by simp,rfl⟩;intro p31
 have hs:Small S:=by
   obtain ⟨ds,e1,e2⟩:=(q0' hS).1 p31;simp only [qg,Option.some.injEq] at e1;subst e1;exact (p31' hS).1 e2
 refine ⟨(yH hS h0 qL qL qL rfl qL).2 rfl,fun K T N=>?_⟩;rw [UW];have A:=At.pV (a:=D.i K) (b:=D.t T) (c:=D.i N) hS.len;have H0:=h0.more [.i K,.t T,.i N];have b0:=A.v (i:=0) rfl (m:=281) rfl;have b1:=A.v (i:=1) rfl (m:=282) rfl;have b2:=A.v (i:=2) rfl (m:=283) rfl;intro p1 p2 p3 p4;have K0:=sD qL b0 p1;have K1:=sD b0 qL p2;have N0:=sD qL b2 p3;have hT:=(yH hS H0 b0 qL qL b1 b2).1 p4;refine gU (xX b0 qL) (fun c=>Yf hS H0 hs (by simp [hS.len]) b0 K0 b1 b2 N0 hT 17 (by decide) c) fun c=>⟨?_,trivial⟩
 have e:qg JI (S++[.i K,.t T,.i N]) (rgs 0 281 [v 282,v 283])=some (S++[.t T,.i N]):=by
   rw [H0.qg hS.len];simp [qg,b1,b2]
 have eK:K=17:=by omega
 exact ⟨_,e,(p24 hS).2 ⟨N0,by rw [hT,eK];exact Vx⟩⟩
end Go.Sp
noncomputable section
namespace Go.Sp
open Go Go.Sx
def zI:List Mask:=
 [(.node (.node A (.node (.node (.node A O) O) O)) O),
  (.node (.node O (.node (.node (.node O (Up 5 O)) O) O)) O),
  (.node (.node O (.node (.node (Dn 6 (Up 5 O)) O) O)) O),
  (.node (.node O (.node (.node (Dn 11 A) A) O)) O),
  (.node (.node O (.node O (.node (.node (.node A O) O) O))) O),
  (.node (.node O (.node O (.node (.node (.node O (Up 5 O)) O) O))) O),
  (.node (.node O (.node O (.node (.node (Dn 6 (Up 5 O)) O) O))) O),
  (.node (.node O (.node O (.node (.node (Dn 11 A) A) O))) O),
  (.node (Dn 3 (.node (.node (.node A O) O) O)) O),
  (.node (Dn 3 (.node (.node (.node O (Up 5 O)) O) O)) O),
  (.node (Dn 3 (.node (.node (Dn 6 (Up 5 O)) O) O)) O),
  (.node (Dn 3 (.node (.node (Dn 11 A) A) O)) O),
  (.node (Dn 4 (.node (.node (.node A O) O) O)) O),
  (.node (Dn 4 (.node (.node (Dn 1 (Up 2 O)) O) O)) O),
  (.node (Dn 4 (.node (.node (Dn 3 (Up 2 O)) O) O)) O),
  (.node (Dn 4 (.node (.node (Dn 5 (Up 2 O)) O) O)) O),
  (.node (Dn 4 (.node (.node (Dn 7 (Up 2 O)) O) O)) O),
  (.node (Dn 4 (.node (.node (Dn 15 A) A) O)) O),
  (.node (Dn 5 (.node A O)) O),
  (.node (Dn 6 (Up 5 O)) O),
  (.node (Dn 13 (.node (.node (.node (Up 11 O) O) O) O)) O),
  (.node (Dn 13 (.node (.node (.node (Dn 11 (Up 12 O)) O) O) O)) O),
  (.node (Dn 13 (.node (.node (.node (Dn 23 (Up 12 O)) O) O) O)) O),
  (.node (Dn 13 (.node (.node (.node (Dn 35 (Up 12 O)) O) O) O)) O),
  (.node (Dn 13 (.node (.node (.node O A) A) A)) A),
  (.node (Dn 11 (.node A (.node A O))) O),
  (.node (Dn 13 (.node (.node (.node (Dn 47 (Up 9 O)) O) O) O)) O),
  (.node (Dn 13 (.node (.node (.node (Dn 56 A) O) O) O)) O),
  (.node (Dn 4 (.node (.node (Dn 9 (Up 2 O)) O) O)) O),
  (.node (Dn 4 (.node (.node (Dn 11 (Up 2 O)) O) O)) O),
  (.node (Dn 4 (.node (.node (Dn 13 (Up 2 O)) O) O)) O)]
end Go.Sp
end
