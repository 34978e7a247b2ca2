/-
  The statements about places: contracts. Conditions: none.
-/
import Derived.Test.YtmjjjhinedogjaaGreatDoorC1
import Derived.Test.YtmjjjhinedogjaaGreatDoorC3
noncomputable section
namespace Go.Sp
open Go Go.Sx
def Ue:Contract where
 fn:=6
 sorts:=stS
 args:=[.agg (stA 0 0)]
 mem:=stM false 0 0
 nb:=NB
 pre:=[.pr 58 (vs 0)]
 outs:=[false]
 res:=.bool (.var 281)
 mods:=[]
 fresh:=[]
 post:=[.pr 59 (vs 0++[.var 281])]
def KR:Contract:={ Pt with fn:=8 }
def cAw:Contract where
 fn:=7
 sorts:=[]
 args:=[]
 mem:=[]
 nb:=0
 pre:=[]
 outs:=[]
 res:=.bool (.lit 1)
 mods:=[]
 fresh:=[]
 post:=[]
def qxE:Ann where
 fn:=6
 bid:=0
 keep:=[1]
 tmps:=[(3,iv 281)]
 drop:=[]
 mem:=[]
 sorts:=[false]
 nbl:=0
 inv:=[le (.lit 0) (v 281),le (v 281) (v 33),.pr 60 [v 32,v 281]]
 meas:=.bin .sub (v 33) (v 281)
def qqt (P:Program):Cx:={ x0 P with dJ:=[qxE] }
end Go.Sp
end
noncomputable section
namespace Go.Sp
open Go Go.Sx
def OH:Tree:=(.assume (.pr 58 (rgs 0 281 [])) (.branch (.bin .lt (.lit 40) (.var 5)) (.assert (.pr 59 (rgs 0 281 [(.lit 1)])) .ok) (.branch (.bin .lt (.lit 1100) (.var 1)) (.assert (.pr 59 (rgs 0 281 [(.lit 1)])) .ok) (.branch (.bin .lt (.lit 1100) (.var 3)) (.assert (.pr 59 (rgs 0 281 [(.lit 1)])) .ok) (.branch (.bin .lt (.lit 1100) (.var 24)) (.assert (.pr 59 (rgs 0 281 [(.lit 1)])) .ok) (.branch (.bin .lt (.lit 1100) (.var 26)) (.assert (.pr 59 (rgs 0 281 [(.lit 1)])) .ok) (.branch (.bin .lt (.lit 1100) (.var 31)) (.assert (.pr 59 (rgs 0 281 [(.lit 1)])) .ok) (.branch (.bin .lt (.lit 1100) (.var 33)) (.assert (.pr 59 (rgs 0 281 [(.lit 1)])) .ok) (.branch (.bin .lt (.lit 1100) (.var 36)) (.assert (.pr 59 (rgs 0 281 [(.lit 1)])) .ok) (.branch (.bin .lt (.lit 1100) (.var 38)) (.assert (.pr 59 (rgs 0 281 [(.lit 1)])) .ok) (.branch (.bin .lt (.lit 1100) (.var 40)) (.assert (.pr 59 (rgs 0 281 [(.lit 1)])) .ok) (.branch (.bin .lt (.lit 60) (.var 7)) (.assert (.pr 59 (rgs 0 281 [(.lit 1)])) .ok) (.assert (.tt (.bin .le (.lit 0) (.var 33))) (.assert (.pr 60 [.var 32,(.lit 0)]) (.qp false (.assume (.tt (.bin .le (.lit 0) (.var 281))) (.assume (.tt (.bin .le (.var 281) (.var 33))) (.assume (.pr 60 [.var 32,.var 281]) (.branch (.bin .lt (.var 281) (.var 33)) (.branch (.bin .lt (.lit 20) (.fn 1014 (.sel (.var 32) (.var 281) 1) (.lit 2) (.lit 0) (.lit 0))) (.assert (.pr 59 (rgs 0 281 [(.lit 1)])) .ok) (.assert (.rng .i64 (.bin .add (.var 281) (.lit 1))) (.assert (.tt (.bin .le (.lit 0) (.bin .add (.var 281) (.lit 1)))) (.assert (.tt (.bin .le (.bin .add (.var 281) (.lit 1)) (.var 33))) (.assert (.pr 60 [.var 32,(.bin .add (.var 281) (.lit 1))]) (.assert (.tt (.bin .le (.lit 0) (.bin .sub (.var 33) (.bin .add (.var 281) (.lit 1))))) (.assert (.tt (.bin .lt (.bin .sub (.var 33) (.bin .add (.var 281) (.lit 1))) (.bin .sub (.var 33) (.var 281)))) .ok))))))) (.branch (.bin .lt (.lit 600) (.var 49)) (.assert (.pr 59 (rgs 0 281 [(.lit 1)])) .ok) (.branch (.bin .lt (.lit 600) (.var 52)) (.assert (.pr 59 (rgs 0 281 [(.lit 1)])) .ok) (.branch (.bin .lt (.lit 600) (.var 54)) (.assert (.pr 59 (rgs 0 281 [(.lit 1)])) .ok) (.branch (.bin .lt (.lit 600) (.var 64)) (.assert (.pr 59 (rgs 0 281 [(.lit 1)])) .ok) (.branch (.bin .lt (.lit 600) (.var 67)) (.assert (.pr 59 (rgs 0 281 [(.lit 1)])) .ok) (.branch (.bin .lt (.lit 600) (.var 69)) (.assert (.pr 59 (rgs 0 281 [(.lit 1)])) .ok) (.branch (.bin .lt (.lit 600) (.var 79)) (.assert (.pr 59 (rgs 0 281 [(.lit 1)])) .ok) (.branch (.bin .lt (.lit 600) (.var 82)) (.assert (.pr 59 (rgs 0 281 [(.lit 1)])) .ok) (.branch (.bin .lt (.lit 600) (.var 84)) (.assert (.pr 59 (rgs 0 281 [(.lit 1)])) .ok) (.branch (.bin .lt (.lit 600) (.var 94)) (.assert (.pr 59 (rgs 0 281 [(.lit 1)])) .ok) (.branch (.bin .lt (.lit 600) (.var 97)) (.assert (.pr 59 (rgs 0 281 [(.lit 1)])) .ok) (.branch (.bin .lt (.lit 600) (.var 99)) (.assert (.pr 59 (rgs 0 281 [(.lit 1)])) .ok) (.branch (.bin .lt (.lit 600) (.var 109)) (.assert (.pr 59 (rgs 0 281 [(.lit 1)])) .ok) (.branch (.bin .lt (.lit 600) (.var 112)) (.assert (.pr 59 (rgs 0 281 [(.lit 1)])) .ok) (.branch (.bin .lt (.lit 600) (.var 114)) (.assert (.pr 59 (rgs 0 281 [(.lit 1)])) .ok) (.branch (.bin .lt (.lit 600) (.var 124)) (.assert (.pr 59 (rgs 0 281 [(.lit 1)])) .ok) (.branch (.bin .lt (.lit 600) (.var 127)) (.assert (.pr 59 (rgs 0 281 [(.lit 1)])) .ok) (.branch (.bin .lt (.lit 600) (.var 129)) (.assert (.pr 59 (rgs 0 281 [(.lit 1)])) .ok) (.branch (.bin .lt (.lit 600) (.var 139)) (.assert (.pr 59 (rgs 0 281 [(.lit 1)])) .ok) (.branch (.bin .lt (.lit 600) (.var 142)) (.assert (.pr 59 (rgs 0 281 [(.lit 1)])) .ok) (.branch (.bin .lt (.lit 600) (.var 144)) (.assert (.pr 59 (rgs 0 281 [(.lit 1)])) .ok) (.branch (.bin .lt (.lit 600) (.var 154)) (.assert (.pr 59 (rgs 0 281 [(.lit 1)])) .ok) (.branch (.bin .lt (.lit 600) (.var 157)) (.assert (.pr 59 (rgs 0 281 [(.lit 1)])) .ok) (.branch (.bin .lt (.lit 600) (.var 159)) (.assert (.pr 59 (rgs 0 281 [(.lit 1)])) .ok) (.branch (.bin .lt (.lit 600) (.var 169)) (.assert (.pr 59 (rgs 0 281 [(.lit 1)])) .ok) (.branch (.bin .lt (.lit 600) (.var 172)) (.assert (.pr 59 (rgs 0 281 [(.lit 1)])) .ok) (.branch (.bin .lt (.lit 600) (.var 174)) (.assert (.pr 59 (rgs 0 281 [(.lit 1)])) .ok) (.branch (.bin .lt (.lit 600) (.var 184)) (.assert (.pr 59 (rgs 0 281 [(.lit 1)])) .ok) (.branch (.bin .lt (.lit 600) (.var 187)) (.assert (.pr 59 (rgs 0 281 [(.lit 1)])) .ok) (.branch (.bin .lt (.lit 600) (.var 189)) (.assert (.pr 59 (rgs 0 281 [(.lit 1)])) .ok) (.branch (.bin .lt (.lit 600) (.var 199)) (.assert (.pr 59 (rgs 0 281 [(.lit 1)])) .ok) (.branch (.bin .lt (.lit 600) (.var 202)) (.assert (.pr 59 (rgs 0 281 [(.lit 1)])) .ok) (.branch (.bin .lt (.lit 600) (.var 204)) (.assert (.pr 59 (rgs 0 281 [(.lit 1)])) .ok) (.branch (.bin .lt (.lit 600) (.var 214)) (.assert (.pr 59 (rgs 0 281 [(.lit 1)])) .ok) (.branch (.bin .lt (.lit 600) (.var 217)) (.assert (.pr 59 (rgs 0 281 [(.lit 1)])) .ok) (.branch (.bin .lt (.lit 600) (.var 219)) (.assert (.pr 59 (rgs 0 281 [(.lit 1)])) .ok) (.branch (.bin .lt (.lit 600) (.var 229)) (.assert (.pr 59 (rgs 0 281 [(.lit 1)])) .ok) (.branch (.bin .lt (.lit 600) (.var 232)) (.assert (.pr 59 (rgs 0 281 [(.lit 1)])) .ok) (.branch (.bin .lt (.lit 600) (.var 234)) (.assert (.pr 59 (rgs 0 281 [(.lit 1)])) .ok) (.branch (.bin .lt (.lit 600) (.var 244)) (.assert (.pr 59 (rgs 0 281 [(.lit 1)])) .ok) (.branch (.bin .lt (.lit 600) (.var 247)) (.assert (.pr 59 (rgs 0 281 [(.lit 1)])) .ok) (.branch (.bin .lt (.lit 600) (.var 249)) (.assert (.pr 59 (rgs 0 281 [(.lit 1)])) .ok) (.branch (.bin .lt (.lit 600) (.var 259)) (.assert (.pr 59 (rgs 0 281 [(.lit 1)])) .ok) (.branch (.bin .lt (.lit 600) (.var 262)) (.assert (.pr 59 (rgs 0 281 [(.lit 1)])) .ok) (.branch (.bin .lt (.lit 600) (.var 264)) (.assert (.pr 59 (rgs 0 281 [(.lit 1)])) .ok) (.branch (.bin .lt (.lit 600) (.var 274)) (.assert (.pr 59 (rgs 0 281 [(.lit 1)])) .ok) (.branch (.bin .lt (.lit 600) (.var 277)) (.assert (.pr 59 (rgs 0 281 [(.lit 1)])) .ok) (.branch (.bin .lt (.lit 600) (.var 279)) (.assert (.pr 59 (rgs 0 281 [(.lit 1)])) .ok) (.assert (.pr 59 (rgs 0 281 [(.lit 0)])) .ok))))))))))))))))))))))))))))))))))))))))))))))))))))))))))))))))))))
def BA:Tree:=(.assume (.pr 31 (rgs 0 281 [])) (.assert (.tt (.bin .le (.var 1) (.lit 1000000))) (.assert (.tt (.bin .le (.var 3) (.lit 1000000))) (.assert (.tt (.bin .le (.var 5) (.lit 1000000))) (.assert (.tt (.bin .le (.var 7) (.lit 1000000))) (.assert (.tt (.bin .le (.var 24) (.lit 1000000))) (.assert (.tt (.bin .le (.var 26) (.lit 1000000))) (.assert (.tt (.bin .le (.var 31) (.lit 1000000))) (.assert (.tt (.bin .le (.var 33) (.lit 1000000))) (.assert (.tt (.bin .le (.lit 0) (.var 33))) (.assert (.pr 50 [.var 32,.var 33,.var 32]) (.qp false (.qp true (.assume (.tt (.bin .le (.lit 0) (.var 281))) (.assume (.tt (.bin .le (.var 281) (.var 33))) (.assume (.pr 50 [.var 32,.var 33,.var 282]) (.branch (.bin .lt (.var 281) (.var 33)) (.assert (.tt (.bin .le (.fn 1014 (.sel (.var 282) (.var 281) 1) (.lit 2) (.lit 0) (.lit 0)) (.lit 1000000))) (.assert (.tt (.bin .le (.fn 1014 (.sel (.var 282) (.var 281) 1) (.lit 2) (.lit 0) (.lit 0)) (.fn 1014 (.sel (.var 282) (.var 281) 1) (.lit 2) (.lit 0) (.lit 0)))) (.assert (.rng .i64 (.bin .add (.var 281) (.lit 1))) (.assert (.tt (.bin .le (.lit 0) (.bin .add (.var 281) (.lit 1)))) (.assert (.tt (.bin .le (.bin .add (.var 281) (.lit 1)) (.var 33))) (.assert (.pr 50 [.var 32,.var 33,(.upd (.var 282) (.var 281) 1 (.fn 1016 (.fn 1017 (.sel (.var 282) (.var 281) 1) (.lit 2) (.lit 0) (.lit 0)) (.fn 1014 (.sel (.var 282) (.var 281) 1) (.lit 2) (.lit 0) (.lit 0)) (.lit 2) (.lit 0)))]) (.assert (.tt (.bin .le (.lit 0) (.bin .sub (.var 33) (.bin .add (.var 281) (.lit 1))))) (.assert (.tt (.bin .lt (.bin .sub (.var 33) (.bin .add (.var 281) (.lit 1))) (.bin .sub (.var 33) (.var 281)))) .ok)))))))) (.assert (.tt (.bin .le (.var 36) (.lit 1000000))) (.assert (.tt (.bin .le (.var 38) (.lit 1000000))) (.assert (.tt (.bin .le (.var 40) (.lit 1000000))) (.assert (.tt (.bin .le (.var 49) (.lit 1000000))) (.assert (.tt (.bin .le (.var 52) (.lit 1000000))) (.assert (.tt (.bin .le (.var 54) (.lit 1000000))) (.assert (.tt (.bin .le (.var 64) (.lit 1000000))) (.assert (.tt (.bin .le (.var 67) (.lit 1000000))) (.assert (.tt (.bin .le (.var 69) (.lit 1000000))) (.assert (.tt (.bin .le (.var 79) (.lit 1000000))) (.assert (.tt (.bin .le (.var 82) (.lit 1000000))) (.assert (.tt (.bin .le (.var 84) (.lit 1000000))) (.assert (.tt (.bin .le (.var 94) (.lit 1000000))) (.assert (.tt (.bin .le (.var 97) (.lit 1000000))) (.assert (.tt (.bin .le (.var 99) (.lit 1000000))) (.assert (.tt (.bin .le (.var 109) (.lit 1000000))) (.assert (.tt (.bin .le (.var 112) (.lit 1000000))) (.assert (.tt (.bin .le (.var 114) (.lit 1000000))) (.assert (.tt (.bin .le (.var 124) (.lit 1000000))) (.assert (.tt (.bin .le (.var 127) (.lit 1000000))) (.assert (.tt (.bin .le (.var 129) (.lit 1000000))) (.assert (.tt (.bin .le (.var 139) (.lit 1000000))) (.assert (.tt (.bin .le (.var 142) (.lit 1000000))) (.assert (.tt (.bin .le (.var 144) (.lit 1000000))) (.assert (.tt (.bin .le (.var 154) (.lit 1000000))) (.assert (.tt (.bin .le (.var 157) (.lit 1000000))) (.assert (.tt (.bin .le (.var 159) (.lit 1000000))) (.assert (.tt (.bin .le (.var 169) (.lit 1000000))) (.assert (.tt (.bin .le (.var 172) (.lit 1000000))) (.assert (.tt (.bin .le (.var 174) (.lit 1000000))) (.assert (.tt (.bin .le (.var 184) (.lit 1000000))) (.assert (.tt (.bin .le (.var 187) (.lit 1000000))) (.assert (.tt (.bin .le (.var 189) (.lit 1000000))) (.assert (.tt (.bin .le (.var 199) (.lit 1000000))) (.assert (.tt (.bin .le (.var 202) (.lit 1000000))) (.assert (.tt (.bin .le (.var 204) (.lit 1000000))) (.assert (.tt (.bin .le (.var 214) (.lit 1000000))) (.assert (.tt (.bin .le (.var 217) (.lit 1000000))) (.assert (.tt (.bin .le (.var 219) (.lit 1000000))) (.assert (.tt (.bin .le (.var 229) (.lit 1000000))) (.assert (.tt (.bin .le (.var 232) (.lit 1000000))) (.assert (.tt (.bin .le (.var 234) (.lit 1000000))) (.assert (.tt (.bin .le (.var 244) (.lit 1000000))) (.assert (.tt (.bin .le (.var 247) (.lit 1000000))) (.assert (.tt (.bin .le (.var 249) (.lit 1000000))) (.assert (.tt (.bin .le (.var 259) (.lit 1000000))) (.assert (.tt (.bin .le (.var 262) (.lit 1000000))) (.assert (.tt (.bin .le (.var 264) (.lit 1000000))) (.assert (.tt (.bin .le (.var 274) (.lit 1000000))) (.assert (.tt (.bin .le (.var 277) (.lit 1000000))) (.assert (.tt (.bin .le (.var 279) (.lit 1000000))) .ok))))))))))))))))))))))))))))))))))))))))))))))))))))))))))))))))))))
end Go.Sp
end
noncomputable section
set_option linter.unusedSimpArgs false
namespace Go.Sp
open Go Go.Sx
variable {S T:List D}
abbrev Pl:=Int × Int × Int × Int
def re (T:List D) (x:Pl):Pl:=(x.1,x.2.1,x.2.2.1,qh T x.1 x.2.1 x.2.2.1)
structure Shape (S T:List D):Prop where
 th:∀k,qz T k=qz S k
 fd:∀k i,0<=i->i<qz S k->qj T k i=qj S k i
 al:gi T 38=gi S 38/\gi T 40=gi S 40
theorem Shape.has (h:Shape S T) {k i f:Int}:zo T k i f=zo S k i f:=by
 unfold zo;rw [h.th,h.al.1,h.al.2];by_cases hi:0<=i/\i<qz S k
 . rw [h.fd k i hi.1 hi.2]
 . have e:∀a b:Prop,¬(0<=i/\i<qz S k/\a/\b):=fun a b x=>hi ⟨x.1,x.2.1⟩;simp only [e,decide_false]
theorem Shape.symm (h:Shape S T):Shape T S:=⟨fun k=>(h.th k).symm,fun k i i0 i1=>(h.fd k i i0 (by rw [<-h.th];exact i1)).symm,⟨h.al.1.symm,h.al.2.symm⟩⟩
theorem Shape.trans {U:List D} (h:Shape S T) (g:Shape T U):Shape S U:=⟨fun k=>(g.th k).trans (h.th k),fun k i i0 i1=>(g.fd k i i0 (by rw [h.th];exact i1)).trans (h.fd k i i0 i1),⟨g.al.1.trans h.al.1,g.al.2.trans h.al.2⟩⟩
theorem WW (h:Shape S T) {k i:Int}:∀{n:Nat},jQ T k i n=(jQ S k i n).map (re T)
 | 0=>rfl
 | n+1=>by
   rw [jB,jB,List.map_append,WW h,h.has];by_cases e:zo S k i n=true <;> simp [e,re]
theorem Wp (h:Shape S T) {k:Int}:∀{n:Nat},n<=(qz S k).toNat->wz T k n=(wz S k n).map (re T)
 | 0,_=>rfl
 | n+1,hn=>by
   rw [wO,wO,List.map_append,Wp h (by omega),WW h,h.fd k n (by omega) (by omega)]
theorem Gm (h:Shape S T):∀{n:Nat},mJ T n=(mJ S n).map (re T)
 | 0=>rfl
 | n+1=>by
   rw [bO,bO,List.map_append,Gm h,h.th,Wp h (Nat.le_refl _)]
theorem M6 (h:Shape S T):j6 T=(j6 S).map (re T):=Gm h
theorem Vt (h:Shape S T):WQ (j6 S) (j6 T):=by
 rw [M6 h,WQ,List.map_map];rfl
theorem Um (h:Shape S T):dX (j6 S) (j6 T)=(j6 S).filterMap fun x=>if x.2.2.2=qh T x.1 x.2.1 x.2.2.1 then none else some (re T x):=by
 rw [M6 h,dX];generalize j6 S=l
 induction l with
 | nil=>rfl
 | cons a l ih=>
   simp only [List.map_cons,List.zip_cons_cons,List.filterMap_cons];rw [ih];rfl
theorem uU {k i:Int} {x:Pl}:∀{n:Nat},x∈jQ S k i n↔∃f:Nat,f<n/\zo S k i f=true/\x=(k,i,(f:Int),qh S k i f)
 | 0=>by simp [jQ]
 | n+1=>by
   rw [jB,List.mem_append,uU];constructor
   . rintro (⟨f,h1,h2,h3⟩ | h)
     . exact ⟨f,by omega,h2,h3⟩
     . by_cases e:zo S k i n=true
       . rw [if_pos e,List.mem_singleton] at h;exact ⟨n,by omega,e,h⟩
       . rw [if_neg e] at h;cases h
   . rintro ⟨f,h1,h2,h3⟩;by_cases e:f=n
     . subst e;right;rw [if_pos h2];simp [h3]
     . exact .inl ⟨f,by omega,h2,h3⟩
theorem uT {k:Int} {x:Pl}:∀{n:Nat},x∈wz S k n↔∃i:Nat,i<n/\x∈jQ S k i (qj S k i).toNat
 | 0=>by simp [wz]
 | n+1=>by
   rw [wO,List.mem_append,uT];constructor
   . rintro (⟨i,h1,h2⟩ | h)
     . exact ⟨i,by omega,h2⟩
     . exact ⟨n,by omega,h⟩
   . rintro ⟨i,h1,h2⟩;by_cases e:i=n
     . subst e;exact .inr h2
     . exact .inl ⟨i,by omega,h2⟩
theorem WB {x:Pl}:∀{n:Nat},x∈mJ S n↔∃j:Nat,j<n/\x∈wz S ((j:Int)+1) (qz S ((j:Int)+1)).toNat
 | 0=>by simp [mJ]
 | n+1=>by
   rw [bO,List.mem_append,WB];constructor
   . rintro (⟨i,h1,h2⟩ | h)
     . exact ⟨i,by omega,h2⟩
     . exact ⟨n,by omega,h⟩
   . rintro ⟨i,h1,h2⟩;by_cases e:i=n
     . subst e;exact .inr h2
     . exact .inl ⟨i,by omega,h2⟩
theorem Sb {k i f z:Int}:(k,i,f,z)∈j6 S↔1<=k/\k<=16/\zo S k i f=true/\z=qh S k i f:=by
 unfold j6;rw [WB];constructor
 . rintro ⟨j,hj,h⟩;obtain ⟨i',h1,h⟩:=uT.1 h;obtain ⟨f',h2,h3,h4⟩:=uU.1 h;simp only [Prod.mk.injEq] at h4;obtain ⟨rfl,rfl,rfl,rfl⟩:=h4;exact ⟨by omega,by omega,h3,rfl⟩
 . rintro ⟨k0,k1,hh,rfl⟩;have hf:=qZ hh;refine ⟨(k - 1).toNat,by omega,uT.2 ⟨i.toNat,?_,uU.2 ⟨f.toNat,?_,?_,?_⟩⟩⟩
   all_goals rw [show (((k - 1).toNat:Nat):Int)+1=k by omega]
   . omega
   all_goals rw [show ((i.toNat:Nat):Int)=i by omega]
   . omega
   all_goals rw [show ((f.toNat:Nat):Int)=f by omega]
   exact hh
theorem Ku {l:List Pl} {g:Pl->Option Pl} (h:∀x∈l,g x=none):l.filterMap g=[]:=by
 rw [List.filterMap_eq_nil_iff];exact h
theorem kD.shape {k i f to:Int} (h:kD S k i f to T):Shape S T:=⟨h.th,h.fd,h.al⟩
theorem Vs (h:Shape S T) (hg:∀k i f,1<=k->k<=16->zo S k i f=true->qh T k i f=qh S k i f):dX (j6 S) (j6 T)=[]:=by
 rw [Um h];refine Ku ?_;rintro ⟨k,i,f,z⟩ hx;obtain ⟨a,b,c,rfl⟩:=Sb.1 hx;simp only [hg k i f a b c,if_true]
theorem Jj {f:Int->Nat->Int} {n:Int}:nJ f n f n:=⟨rfl,fun _ _ _ _ _=>rfl⟩
end Go.Sp
end
noncomputable section
set_option linter.unusedSimpArgs false
namespace Go.Sp
open Go Go.Sx
def no:Tree:=.fail 100
def notE (e:E):E:=.bin .eq e (n0 0)
def isOk (i:Nat):E:=notE (.bin .eq (v i) (n0 0))
theorem Qw {I:Itp}:∀{l:List Bool} {env:List D} {t:Tree},(∀ds,Sorts l ds->t.vc I (env++ds))->(sN l t).vc I env
 | [],env,t,h=>by simpa [sN] using h [] trivial
 | true::l,env,t,h=>fun f=>Qw (l:=l) fun ds hs=>by simpa using h (.t f::ds) hs
 | false::l,env,t,h=>fun n=>Qw (l:=l) fun ds hs=>by simpa using h (.i n::ds) hs
def At (env:List D) (a:Nat) (X:List D):Prop:=∃p r,env=p++(X++r)/\p.length=a
theorem At.more {env X:List D} {a:Nat} (h:At env a X) (xs:List D):At (env++xs) a X:=by
 obtain ⟨p,r,e,hp⟩:=h;exact ⟨p,r++xs,by rw [e];simp,hp⟩
theorem At.new (env X:List D):At (env++X) env.length X:=⟨env,[],by simp,rfl⟩
theorem At.qg {env X:List D} {a n:Nat} {l:List E} (h:At env a X) (hn:X.length=n):qg JI env (rgs a n l)=(qg JI env l).map (X ++ ·):=by
 obtain ⟨p,r,e,hp⟩:=h;rw [KW (by rw [e];simp;omega)]
 have:(env.drop a).take n=X:=by
   rw [e,List.drop_append_of_le_length (by omega),List.drop_of_length_le (by omega),List.nil_append,List.take_append_of_le_length (by omega),List.take_of_length_le (by omega)]
 rw [this]
theorem At.v {env X:List D} {a i:Nat} {d:D} (h:At env a X) (hi:X[i]?=some d) {m:Nat} (hm:m=a+i):(v m).den JI env=some d:=by
 obtain ⟨p,r,e,hp⟩:=h;show env[m]?=_;have:=(List.getElem?_eq_some_iff.1 hi).1;rw [e,List.getElem?_append_right (by omega),List.getElem?_append_left (by omega),<-hi]
 congr 1;omega
theorem St.set {S:List D} (h:St S) {g:Int->Nat->Int}:St (S.set 32 (.t g)):=by
 have key:∀{l:List Bool} {S:List D} {i:Nat},Sorts l S->l[i]?=some true->Sorts l (S.set i (.t g)):=by
   intro l
   induction l with
   | nil=>intro S i h hi;simp at hi
   | cons b l ih=>
     intro S i h hi
     match b,S,h with
     | true,.t f::S,h=>
       cases i with
       | zero=>exact h
       | succ i=>exact ih (S:=S) (i:=i) h (by simpa using hi)
     | false,.i n::S,h=>
       cases i with
       | zero=>simp at hi
       | succ i=>exact ih (S:=S) (i:=i) h (by simpa using hi)
 exact ⟨key h.so (by decide)⟩
theorem Nb {l:List Bool} {ds:List D} (h:Sorts (l++[false,false]) ds):∃T a b,Sorts l T/\ds=T++[.i a,.i b]:=by
 obtain ⟨T,r,rfl,h1,h2⟩:=zB h
 match r,h2 with
 | [.i a,.i b],_=>exact ⟨T,a,b,h1,rfl⟩
theorem Du {env:List D} {e:E} {x:Int} (h:e.den JI env=some (.i x)):(notE e).den JI env=some (.i (if x=0 then 1 else 0)):=by
 show (E.bin .eq e (.lit 0)).den JI env=_;simp only [E.den,h,BO.ev]
theorem Eu {env:List D} {i:Nat} {x:Int} (h:(v i).den JI env=some (.i x)):(isOk i).den JI env=some (.i (if x=0 then 0 else 1)):=by
 have e:(E.bin .eq (v i) (n0 0)).den JI env=some (.i (if x=0 then 1 else 0)):=Du h;have:=Du e;unfold isOk;rw [this];by_cases c:x=0 <;> simp [c]
section
variable {S T:List D} {k i f to was:Int} {env:List D} (hS:St S) (hT:St T) (hE:env.length=574) (a0:At env 0 S) (af:At env 281 [.i k,.i i,.i f,.i to]) (aT:At env 287 (T++[.i was,.i 0]))
 (hk:1<=k/\k<=16) (hh:zo S k i f=true) (hf:qM k f to) (hw:was=qh S k i f) (hR:kD S k i f to T) (hs:Small S)
include hS hT hE a0 af aT hk hh hf hw hR hs
end
section
variable {S T:List D} {k i f to was:Int} (hS:St S) (hT:St T)
 (hk:1<=k/\k<=16) (hh:zo S k i f=true) (hf:qM k f to) (hw:was=qh S k i f) (hR:kD S k i f to T) (hs:Small S)
include hS hT hk hh hf hw hR hs
end
theorem p58 {S:List D} (h:St S):JI.pr 58 (S++[])↔Typed S:=by simp [JI,dW,<-h.len]
theorem p59 {S:List D} (h:St S) {r:Int}:JI.pr 59 (S++[.i r])↔(r=0->Small S):=by simp [JI,dW,<-h.len]
end Go.Sp
noncomputable section
set_option linter.unusedSimpArgs false
namespace Go.Sp
open Go Go.Sx
theorem p60 {f:Int->Nat->Int} {n:Int}:JI.pr 60 [.t f,.i n]↔∀r:Int,0<=r->r<n->llen (f r 1) 2<=20:=Iff.rfl
set_option maxRecDepth 100000 in
set_option maxHeartbeats 4000000 in
theorem Oo:∀env,Sorts KR.sorts env->BA.vc JI env:=by
 intro env h;have hS:St env:=⟨h⟩;rw [<-List.append_nil env];generalize env=S at *
 simp (disch:=first | decide | omega) only [BA,Tree.vc,E.den,BO.ev,hS.i,hS.t,hS.r,qg,Option.some.injEq,exists_eq_left',List.take_succ_cons,List.take_zero,List.cons_append,List.nil_append,D.i.injEq,D.t.injEq,forall_eq',and_true,gD,bE,
   Nat.reduceSub,List.getElem?_cons_zero,List.getElem?_cons_succ,bN,dP,yE,wZ,pF,pR,wV,yI,wX,vV,gL,fC,List.append_assoc,q0 hS,q1 hS,q2 hS,q3 hS,p31 hS,p31' hS,p50,QS]
 clear h;intro hs;have b:=rG hs;have:=hs.a1;have:=hs.a3;have:=hs.a5;have:=hs.a7;have:=hs.a24;have:=hs.a26;have:=hs.a31;have:=hs.a33;have:=hs.a36;have:=hs.a38;have:=hs.a40;have cl:=hs.cut;rw [oK,imax];refine ⟨by omega,by omega,by omega,by omega,by omega,by omega,by omega,by omega,by omega,dV,fun i g i0 i1 hg=>⟨fun hl=>?_,fun _=>?_⟩⟩
 . have a:=cl i i0 hl;have e:=(hg i i0 hl).2.1;exact ⟨by omega,by omega,⟨by omega,by omega⟩,by omega,by omega,Qo hg i0 hl,by omega,by omega⟩
 . clear cl;have b0:=b 0 (by omega);have b1:=b 1 (by omega);have b2:=b 2 (by omega);have b3:=b 3 (by omega);have b4:=b 4 (by omega);have b5:=b 5 (by omega);have b6:=b 6 (by omega);have b7:=b 7 (by omega);have b8:=b 8 (by omega);have b9:=b 9 (by omega);have b10:=b 10 (by omega);have b11:=b 11 (by omega);have b12:=b 12 (by omega);have b13:=b 13 (by omega);have b14:=b 14 (by omega);have b15:=b 15 (by omega);simp only [Nat.reduceMul,Nat.reduceAdd] at b0 b1 b2 b3 b4 b5 b6 b7 b8 b9 b10 b11 b12 b13 b14 b15;clear b;refine ⟨by omega,by omega,by omega,by omega,by omega,by omega,by omega,by omega,by omega,by omega,by omega,by omega,by omega,by omega,by omega,by omega,by omega,by omega,by omega,by omega,by omega,by omega,by omega,by omega,by omega,by omega,by omega,by omega,by omega,by omega,by omega,by omega,by omega,by omega,by omega,by omega,by omega,by omega,by omega,by omega,by omega,by omega,by omega,by omega,by omega,by omega,by omega,by omega,by omega,by omega,by omega⟩
theorem qjH {S:List D} (h:Typed S) (b:∀j:Nat,j<16->gi S (49+15*j)<=600/\gi S (52+15*j)<=600/\gi S (54+15*j)<=600):∀j,j<16->0<=gi S (49+15*j)/\gi S (49+15*j)<=600/\0<=gi S (52+15*j)/\gi S (52+15*j)<=600/\0<=gi S (54+15*j)/\gi S (54+15*j)<=600:=fun j hj=>by
 have a:=h.ar j hj;have c:=b j hj;omega
theorem nx {c R Q:Prop} (h:¬c->Q):(c->(1:Int)=0->R)/\(¬c->Q):=⟨fun _ e=>by omega,h⟩
set_option maxRecDepth 100000 in
set_option maxHeartbeats 4000000 in
theorem qkL:∀env,Sorts Ue.sorts env->OH.vc JI env:=by
 intro env h;have hS:St env:=⟨h⟩;rw [<-List.append_nil env];generalize env=S at *
 simp (disch:=first | decide | omega) only [OH,Tree.vc,E.den,BO.ev,hS.i,hS.t,hS.r,qg,Option.some.injEq,exists_eq_left',List.take_succ_cons,List.take_zero,List.cons_append,List.nil_append,D.i.injEq,D.t.injEq,forall_eq',and_true,gD,bE,
   Nat.reduceSub,List.getElem?_cons_zero,List.getElem?_cons_succ,bN,dP,yE,wZ,pF,pR,wV,yI,wX,vV,gL,fC,List.append_assoc,q0 hS,q1 hS,q2 hS,q3 hS,p58 hS,p59 hS,p60,QS]
 intro ht;obtain ⟨l1,l3,l5,l7,l24,l26,l31,l33,l36,l38,l40⟩:=ht.ln;refine nx fun h5=>?_;refine nx fun h1=>?_;refine nx fun h3=>?_;refine nx fun h24=>?_;refine nx fun h26=>?_;refine nx fun h31=>?_;refine nx fun h33=>?_;refine nx fun h36=>?_;refine nx fun h38=>?_;refine nx fun h40=>?_;refine nx fun h7=>?_;refine ⟨by omega,fun r a b=>by omega,fun n n0 n1 hn=>⟨fun hl=>nx fun hc=>⟨⟨by rw [oK];omega,by rw [imax];omega⟩,by omega,by omega,fun r r0 r1=>?_,by omega,by omega⟩,fun hl=>?_⟩⟩
 . by_cases e:r=n
   . subst e;omega
   . exact hn r r0 (by omega)
 refine nx fun g49=>?_;refine nx fun g52=>?_;refine nx fun g54=>?_;refine nx fun g64=>?_;refine nx fun g67=>?_;refine nx fun g69=>?_;refine nx fun g79=>?_;refine nx fun g82=>?_;refine nx fun g84=>?_;refine nx fun g94=>?_;refine nx fun g97=>?_;refine nx fun g99=>?_;refine nx fun qxF=>?_;refine nx fun qxD=>?_;refine nx fun qxB=>?_;refine nx fun qxG=>?_;refine nx fun qxV=>?_;refine nx fun qxX=>?_;refine nx fun qxY=>?_;refine nx fun qxW=>?_;refine nx fun qxK=>?_;refine nx fun qxJ=>?_;refine nx fun qxZ=>?_;refine nx fun qxQ=>?_;refine nx fun qxe=>?_;refine nx fun qxa=>?_;refine nx fun qxo=>?_;refine nx fun qxi=>?_;refine nx fun qxu=>?_;refine nx fun qxl=>?_;refine nx fun qxc=>?_;refine nx fun qxt=>?_;refine nx fun qxs=>?_;refine nx fun qxr=>?_;refine nx fun qxp=>?_;refine nx fun qxn=>?_;refine nx fun qxm=>?_;refine nx fun qxh=>?_;refine nx fun qxf=>?_;refine nx fun qxd=>?_;refine nx fun qxb=>?_;refine nx fun qxg=>?_;refine nx fun qxv=>?_;refine nx fun qxx=>?_;refine nx fun qxy=>?_;refine nx fun qxw=>?_;refine nx fun qxk=>?_;refine nx fun qxj=>?_;intro _;have en:n=gi S 33:=by omega
 subst en
 exact { a1:=by omega,a3:=by omega,a5:=by omega,a7:=by omega,a24:=by omega,a26:=by omega,a31:=by omega,a33:=by omega,a36:=by omega,a38:=by omega,a40:=by omega
         cut:=hn
         ar:=qjH ht fun j hj=>by
           clear hn h1 h3 h5 h7;have e:j=0\/j=1\/j=2\/j=3\/j=4\/j=5\/j=6\/j=7\/j=8\/j=9\/j=10\/j=11\/j=12\/j=13\/j=14\/j=15:=by omega
           rcases e with rfl | rfl | rfl | rfl | rfl | rfl | rfl | rfl | rfl | rfl | rfl | rfl | rfl | rfl | rfl | rfl
           . exact ⟨Int.not_lt.1 g49,Int.not_lt.1 g52,Int.not_lt.1 g54⟩
           . exact ⟨Int.not_lt.1 g64,Int.not_lt.1 g67,Int.not_lt.1 g69⟩
           . exact ⟨Int.not_lt.1 g79,Int.not_lt.1 g82,Int.not_lt.1 g84⟩
           . exact ⟨Int.not_lt.1 g94,Int.not_lt.1 g97,Int.not_lt.1 g99⟩
           . exact ⟨Int.not_lt.1 qxF,Int.not_lt.1 qxD,Int.not_lt.1 qxB⟩
           . exact ⟨Int.not_lt.1 qxG,Int.not_lt.1 qxV,Int.not_lt.1 qxX⟩
           . exact ⟨Int.not_lt.1 qxY,Int.not_lt.1 qxW,Int.not_lt.1 qxK⟩
           . exact ⟨Int.not_lt.1 qxJ,Int.not_lt.1 qxZ,Int.not_lt.1 qxQ⟩
           . exact ⟨Int.not_lt.1 qxe,Int.not_lt.1 qxa,Int.not_lt.1 qxo⟩
           . exact ⟨Int.not_lt.1 qxi,Int.not_lt.1 qxu,Int.not_lt.1 qxl⟩
           . exact ⟨Int.not_lt.1 qxc,Int.not_lt.1 qxt,Int.not_lt.1 qxs⟩
           . exact ⟨Int.not_lt.1 qxr,Int.not_lt.1 qxp,Int.not_lt.1 qxn⟩
           . exact ⟨Int.not_lt.1 qxm,Int.not_lt.1 qxh,Int.not_lt.1 qxf⟩
           . exact ⟨Int.not_lt.1 qxd,Int.not_lt.1 qxb,Int.not_lt.1 qxg⟩
           . exact ⟨Int.not_lt.1 qxv,Int.not_lt.1 qxx,Int.not_lt.1 qxy⟩
           . exact ⟨Int.not_lt.1 qxw,Int.not_lt.1 qxk,Int.not_lt.1 qxj⟩
         val:=ht.val }
end Go.Sp
end
