/-
  The statements about places: contracts. Conditions: none.
-/
import Derived.Test.YtmjjjhinedogjaaGreatDoorC1
import Derived.Test.YtmjjjhinedogjaaGreatDoorC3
noncomputable section
namespace Go.Sp
open Go Go.Sx
def Lm:Contract where
 fn:=6
 sorts:=stS
 args:=[.agg (stA 0 0)]
 mem:=stM false 0 0
 nb:=NB
 pre:=[.pr 58 (vs 0)]
 outs:=[false]
 res:=.bool (.var 281)
 mods:=[]
 fresh:=[]
 post:=[.pr 59 (vs 0++[.var 281])]
def cAw:Contract where
 fn:=7
 sorts:=[]
 args:=[]
 mem:=[]
 nb:=0
 pre:=[]
 outs:=[]
 res:=.bool (.lit 1)
 mods:=[]
 fresh:=[]
 post:=[]
def qwL:Ann where
 fn:=6
 bid:=0
 keep:=[1]
 tmps:=[(3,iv 281)]
 drop:=[]
 mem:=[]
 sorts:=[false]
 nbl:=0
 inv:=[le (.lit 0) (v 281),le (v 281) (v 33),.pr 60 [v 32,v 281]]
 meas:=.bin .sub (v 33) (v 281)
def Aa (P:Program):Cx:={ x0 P with bO:=[qwL] }
end Go.Sp
end
noncomputable section
namespace Go.Sp
open Go Go.Sx
def Iz:Tree:=(.assume (.pr 58 (rgs 0 281 [])) (.branch (.bin .lt (.lit 40) (.var 5)) (.assert (.pr 59 (rgs 0 281 [(.lit 1)])) .ok) (.branch (.bin .lt (.lit 1100) (.var 1)) (.assert (.pr 59 (rgs 0 281 [(.lit 1)])) .ok) (.branch (.bin .lt (.lit 1100) (.var 3)) (.assert (.pr 59 (rgs 0 281 [(.lit 1)])) .ok) (.branch (.bin .lt (.lit 1100) (.var 24)) (.assert (.pr 59 (rgs 0 281 [(.lit 1)])) .ok) (.branch (.bin .lt (.lit 1100) (.var 26)) (.assert (.pr 59 (rgs 0 281 [(.lit 1)])) .ok) (.branch (.bin .lt (.lit 1100) (.var 31)) (.assert (.pr 59 (rgs 0 281 [(.lit 1)])) .ok) (.branch (.bin .lt (.lit 1100) (.var 33)) (.assert (.pr 59 (rgs 0 281 [(.lit 1)])) .ok) (.branch (.bin .lt (.lit 1100) (.var 36)) (.assert (.pr 59 (rgs 0 281 [(.lit 1)])) .ok) (.branch (.bin .lt (.lit 1100) (.var 38)) (.assert (.pr 59 (rgs 0 281 [(.lit 1)])) .ok) (.branch (.bin .lt (.lit 1100) (.var 40)) (.assert (.pr 59 (rgs 0 281 [(.lit 1)])) .ok) (.branch (.bin .lt (.lit 60) (.var 7)) (.assert (.pr 59 (rgs 0 281 [(.lit 1)])) .ok) (.assert (.tt (.bin .le (.lit 0) (.var 33))) (.assert (.pr 60 [.var 32,(.lit 0)]) (.qo false (.assume (.tt (.bin .le (.lit 0) (.var 281))) (.assume (.tt (.bin .le (.var 281) (.var 33))) (.assume (.pr 60 [.var 32,.var 281]) (.branch (.bin .lt (.var 281) (.var 33)) (.branch (.bin .lt (.lit 20) (.fn 1014 (.sel (.var 32) (.var 281) 1) (.lit 2) (.lit 0) (.lit 0))) (.assert (.pr 59 (rgs 0 281 [(.lit 1)])) .ok) (.assert (.rng .i64 (.bin .add (.var 281) (.lit 1))) (.assert (.tt (.bin .le (.lit 0) (.bin .add (.var 281) (.lit 1)))) (.assert (.tt (.bin .le (.bin .add (.var 281) (.lit 1)) (.var 33))) (.assert (.pr 60 [.var 32,(.bin .add (.var 281) (.lit 1))]) (.assert (.tt (.bin .le (.lit 0) (.bin .sub (.var 33) (.bin .add (.var 281) (.lit 1))))) (.assert (.tt (.bin .lt (.bin .sub (.var 33) (.bin .add (.var 281) (.lit 1))) (.bin .sub (.var 33) (.var 281)))) .ok))))))) (.branch (.bin .lt (.lit 600) (.var 49)) (.assert (.pr 59 (rgs 0 281 [(.lit 1)])) .ok) (.branch (.bin .lt (.lit 600) (.var 52)) (.assert (.pr 59 (rgs 0 281 [(.lit 1)])) .ok) (.branch (.bin .lt (.lit 600) (.var 54)) (.assert (.pr 59 (rgs 0 281 [(.lit 1)])) .ok) (.branch (.bin .lt (.lit 600) (.var 64)) (.assert (.pr 59 (rgs 0 281 [(.lit 1)])) .ok) (.branch (.bin .lt (.lit 600) (.var 67)) (.assert (.pr 59 (rgs 0 281 [(.lit 1)])) .ok) (.branch (.bin .lt (.lit 600) (.var 69)) (.assert (.pr 59 (rgs 0 281 [(.lit 1)])) .ok) (.branch (.bin .lt (.lit 600) (.var 79)) (.assert (.pr 59 (rgs 0 281 [(.lit 1)])) .ok) (.branch (.bin .lt (.lit 600) (.var 82)) (.assert (.pr 59 (rgs 0 281 [(.lit 1)])) .ok) (.branch (.bin .lt (.lit 600) (.var 84)) (.assert (.pr 59 (rgs 0 281 [(.lit 1)])) .ok) (.branch (.bin .lt (.lit 600) (.var 94)) (.assert (.pr 59 (rgs 0 281 [(.lit 1)])) .ok) (.branch (.bin .lt (.lit 600) (.var 97)) (.assert (.pr 59 (rgs 0 281 [(.lit 1)])) .ok) (.branch (.bin .lt (.lit 600) (.var 99)) (.assert (.pr 59 (rgs 0 281 [(.lit 1)])) .ok) (.branch (.bin .lt (.lit 600) (.var 109)) (.assert (.pr 59 (rgs 0 281 [(.lit 1)])) .ok) (.branch (.bin .lt (.lit 600) (.var 112)) (.assert (.pr 59 (rgs 0 281 [(.lit 1)])) .ok) (.branch (.bin .lt (.lit 600) (.var 114)) (.assert (.pr 59 (rgs 0 281 [(.lit 1)])) .ok) (.branch (.bin .lt (.lit 600) (.var 124)) (.assert (.pr 59 (rgs 0 281 [(.lit 1)])) .ok) (.branch (.bin .lt (.lit 600) (.var 127)) (.assert (.pr 59 (rgs 0 281 [(.lit 1)])) .ok) (.branch (.bin .lt (.lit 600) (.var 129)) (.assert (.pr 59 (rgs 0 281 [(.lit 1)])) .ok) (.branch (.bin .lt (.lit 600) (.var 139)) (.assert (.pr 59 (rgs 0 281 [(.lit 1)])) .ok) (.branch (.bin .lt (.lit 600) (.var 142)) (.assert (.pr 59 (rgs 0 281 [(.lit 1)])) .ok) (.branch (.bin .lt (.lit 600) (.var 144)) (.assert (.pr 59 (rgs 0 281 [(.lit 1)])) .ok) (.branch (.bin .lt (.lit 600) (.var 154)) (.assert (.pr 59 (rgs 0 281 [(.lit 1)])) .ok) (.branch (.bin .lt (.lit 600) (.var 157)) (.assert (.pr 59 (rgs 0 281 [(.lit 1)])) .ok) (.branch (.bin .lt (.lit 600) (.var 159)) (.assert (.pr 59 (rgs 0 281 [(.lit 1)])) .ok) (.branch (.bin .lt (.lit 600) (.var 169)) (.assert (.pr 59 (rgs 0 281 [(.lit 1)])) .ok) (.branch (.bin .lt (.lit 600) (.var 172)) (.assert (.pr 59 (rgs 0 281 [(.lit 1)])) .ok) (.branch (.bin .lt (.lit 600) (.var 174)) (.assert (.pr 59 (rgs 0 281 [(.lit 1)])) .ok) (.branch (.bin .lt (.lit 600) (.var 184)) (.assert (.pr 59 (rgs 0 281 [(.lit 1)])) .ok) (.branch (.bin .lt (.lit 600) (.var 187)) (.assert (.pr 59 (rgs 0 281 [(.lit 1)])) .ok) (.branch (.bin .lt (.lit 600) (.var 189)) (.assert (.pr 59 (rgs 0 281 [(.lit 1)])) .ok) (.branch (.bin .lt (.lit 600) (.var 199)) (.assert (.pr 59 (rgs 0 281 [(.lit 1)])) .ok) (.branch (.bin .lt (.lit 600) (.var 202)) (.assert (.pr 59 (rgs 0 281 [(.lit 1)])) .ok) (.branch (.bin .lt (.lit 600) (.var 204)) (.assert (.pr 59 (rgs 0 281 [(.lit 1)])) .ok) (.branch (.bin .lt (.lit 600) (.var 214)) (.assert (.pr 59 (rgs 0 281 [(.lit 1)])) .ok) (.branch (.bin .lt (.lit 600) (.var 217)) (.assert (.pr 59 (rgs 0 281 [(.lit 1)])) .ok) (.branch (.bin .lt (.lit 600) (.var 219)) (.assert (.pr 59 (rgs 0 281 [(.lit 1)])) .ok) (.branch (.bin .lt (.lit 600) (.var 229)) (.assert (.pr 59 (rgs 0 281 [(.lit 1)])) .ok) (.branch (.bin .lt (.lit 600) (.var 232)) (.assert (.pr 59 (rgs 0 281 [(.lit 1)])) .ok) (.branch (.bin .lt (.lit 600) (.var 234)) (.assert (.pr 59 (rgs 0 281 [(.lit 1)])) .ok) (.branch (.bin .lt (.lit 600) (.var 244)) (.assert (.pr 59 (rgs 0 281 [(.lit 1)])) .ok) (.branch (.bin .lt (.lit 600) (.var 247)) (.assert (.pr 59 (rgs 0 281 [(.lit 1)])) .ok) (.branch (.bin .lt (.lit 600) (.var 249)) (.assert (.pr 59 (rgs 0 281 [(.lit 1)])) .ok) (.branch (.bin .lt (.lit 600) (.var 259)) (.assert (.pr 59 (rgs 0 281 [(.lit 1)])) .ok) (.branch (.bin .lt (.lit 600) (.var 262)) (.assert (.pr 59 (rgs 0 281 [(.lit 1)])) .ok) (.branch (.bin .lt (.lit 600) (.var 264)) (.assert (.pr 59 (rgs 0 281 [(.lit 1)])) .ok) (.branch (.bin .lt (.lit 600) (.var 274)) (.assert (.pr 59 (rgs 0 281 [(.lit 1)])) .ok) (.branch (.bin .lt (.lit 600) (.var 277)) (.assert (.pr 59 (rgs 0 281 [(.lit 1)])) .ok) (.branch (.bin .lt (.lit 600) (.var 279)) (.assert (.pr 59 (rgs 0 281 [(.lit 1)])) .ok) (.assert (.pr 59 (rgs 0 281 [(.lit 0)])) .ok))))))))))))))))))))))))))))))))))))))))))))))))))))))))))))))))))))
end Go.Sp
end
noncomputable section
set_option linter.unusedSimpArgs false
namespace Go.Sp
open Go Go.Sx
variable {S T:List D}
abbrev Pl:=Int × Int × Int × Int
def re (T:List D) (x:Pl):Pl:=(x.1,x.2.1,x.2.2.1,qx T x.1 x.2.1 x.2.2.1)
structure Shape (S T:List D):Prop where
 th:∀k,qz T k=qz S k
 fd:∀k i,0≤i→i<qz S k→qw T k i=qw S k i
 al:gi T 38=gi S 38∧gi T 40=gi S 40
theorem Shape.has (h:Shape S T) {k i f:Int}:zi T k i f=zi S k i f:=by
 unfold zi
 rw [h.th,h.al.1,h.al.2]
 by_cases hi:0≤i∧i<qz S k
 · rw [h.fd k i hi.1 hi.2]
 · have e:∀a b:Prop,¬(0≤i∧i<qz S k∧a∧b):=fun a b x=>hi ⟨x.1,x.2.1⟩
   simp only [e,decide_false]
theorem Shape.symm (h:Shape S T):Shape T S:=⟨fun k=>(h.th k).symm,fun k i i0 i1=>(h.fd k i i0 (by rw [←h.th];exact i1)).symm,⟨h.al.1.symm,h.al.2.symm⟩⟩
theorem Shape.trans {U:List D} (h:Shape S T) (g:Shape T U):Shape S U:=⟨fun k=>(g.th k).trans (h.th k),fun k i i0 i1=>(g.fd k i i0 (by rw [h.th];exact i1)).trans (h.fd k i i0 i1),⟨g.al.1.trans h.al.1,g.al.2.trans h.al.2⟩⟩
theorem Wz (h:Shape S T) {k i:Int}:∀{n:Nat},jv T k i n=(jv S k i n).map (re T)
 | 0=>rfl
 | n+1=>by
   rw [jm,jm,List.map_append,Wz h,h.has]
   by_cases e:zi S k i n=true <;> simp [e,re]
theorem KO (h:Shape S T) {k:Int}:∀{n:Nat},n≤(qz S k).toNat→ko T k n=(ko S k n).map (re T)
 | 0,_=>rfl
 | n+1,hn=>by
   rw [kF,kF,List.map_append,KO h (by omega),Wz h,h.fd k n (by omega) (by omega)]
theorem VE (h:Shape S T):∀{n:Nat},bD T n=(bD S n).map (re T)
 | 0=>rfl
 | n+1=>by
   rw [xE,xE,List.map_append,VE h,h.th,KO h (Nat.le_refl _)]
theorem Md (h:Shape S T):kg T=(kg S).map (re T):=VE h
theorem Vz (h:Shape S T):K7 (kg S) (kg T):=by
 rw [Md h,K7,List.map_map];rfl
theorem HZ (h:Shape S T):bI (kg S) (kg T)=(kg S).filterMap fun x=>if x.2.2.2=qx T x.1 x.2.1 x.2.2.1 then none else some (re T x):=by
 rw [Md h,bI]
 generalize kg S=l
 induction l with
 | nil=>rfl
 | cons a l ih=>
   simp only [List.map_cons,List.zip_cons_cons,List.filterMap_cons]
   rw [ih];rfl
theorem wS {k i:Int} {x:Pl}:∀{n:Nat},x∈jv S k i n↔∃f:Nat,f<n∧zi S k i f=true∧x=(k,i,(f:Int),qx S k i f)
 | 0=>by simp [jv]
 | n+1=>by
   rw [jm,List.mem_append,wS]
   constructor
   · rintro (⟨f,h1,h2,h3⟩ | h)
     · exact ⟨f,by omega,h2,h3⟩
     · by_cases e:zi S k i n=true
       · rw [if_pos e,List.mem_singleton] at h;exact ⟨n,by omega,e,h⟩
       · rw [if_neg e] at h;cases h
   · rintro ⟨f,h1,h2,h3⟩
     by_cases e:f=n
     · subst e;right;rw [if_pos h2];simp [h3]
     · exact .inl ⟨f,by omega,h2,h3⟩
theorem xO {k:Int} {x:Pl}:∀{n:Nat},x∈ko S k n↔∃i:Nat,i<n∧x∈jv S k i (qw S k i).toNat
 | 0=>by simp [ko]
 | n+1=>by
   rw [kF,List.mem_append,xO]
   constructor
   · rintro (⟨i,h1,h2⟩ | h)
     · exact ⟨i,by omega,h2⟩
     · exact ⟨n,by omega,h⟩
   · rintro ⟨i,h1,h2⟩
     by_cases e:i=n
     · subst e;exact .inr h2
     · exact .inl ⟨i,by omega,h2⟩
theorem aK {x:Pl}:∀{n:Nat},x∈bD S n↔∃j:Nat,j<n∧x∈ko S ((j:Int)+1) (qz S ((j:Int)+1)).toNat
 | 0=>by simp [bD]
 | n+1=>by
   rw [xE,List.mem_append,aK]
   constructor
   · rintro (⟨i,h1,h2⟩ | h)
     · exact ⟨i,by omega,h2⟩
     · exact ⟨n,by omega,h⟩
   · rintro ⟨i,h1,h2⟩
     by_cases e:i=n
     · subst e;exact .inr h2
     · exact .inl ⟨i,by omega,h2⟩
theorem iY {k i f z:Int}:(k,i,f,z)∈kg S↔1≤k∧k≤16∧zi S k i f=true∧z=qx S k i f:=by
 unfold kg
 rw [aK]
 constructor
 · rintro ⟨j,hj,h⟩
   obtain ⟨i',h1,h⟩:=xO.1 h
   obtain ⟨f',h2,h3,h4⟩:=wS.1 h
   simp only [Prod.mk.injEq] at h4
   obtain ⟨rfl,rfl,rfl,rfl⟩:=h4
   exact ⟨by omega,by omega,h3,rfl⟩
 · rintro ⟨k0,k1,hh,rfl⟩
   have hf:=zu hh
   refine ⟨(k - 1).toNat,by omega,xO.2 ⟨i.toNat,?_,wS.2 ⟨f.toNat,?_,?_,?_⟩⟩⟩
   all_goals rw [show (((k - 1).toNat:Nat):Int)+1=k by omega]
   · omega
   all_goals rw [show ((i.toNat:Nat):Int)=i by omega]
   · omega
   all_goals rw [show ((f.toNat:Nat):Int)=f by omega]
   exact hh
theorem Qr {k i:Int}:∀{n:Nat},(jv S k i n).Nodup
 | 0=>by simp [jv]
 | n+1=>by
   rw [jm,List.nodup_append]
   refine ⟨Qr,by by_cases e:zi S k i n=true <;> simp [e],fun x hx y hy e=>?_⟩
   subst e
   obtain ⟨f,h1,_,h3⟩:=wS.1 hx
   by_cases e:zi S k i n=true
   · rw [if_pos e,List.mem_singleton] at hy
     rw [hy] at h3
     simp only [Prod.mk.injEq] at h3
     omega
   · rw [if_neg e] at hy;cases hy
theorem Qp {k:Int}:∀{n:Nat},(ko S k n).Nodup
 | 0=>by simp [ko]
 | n+1=>by
   rw [kF,List.nodup_append]
   refine ⟨Qp,Qr,fun x hx y hy e=>?_⟩
   subst e
   obtain ⟨i,h1,h⟩:=xO.1 hx
   obtain ⟨f,_,_,h3⟩:=wS.1 h
   obtain ⟨f',_,_,h4⟩:=wS.1 hy
   rw [h3] at h4
   simp only [Prod.mk.injEq] at h4
   omega
theorem Jd:∀{n:Nat},(bD S n).Nodup
 | 0=>by simp [bD]
 | n+1=>by
   rw [xE,List.nodup_append]
   refine ⟨Jd,Qp,fun x hx y hy e=>?_⟩
   subst e
   obtain ⟨j,h1,h⟩:=aK.1 hx
   obtain ⟨i,_,h⟩:=xO.1 h
   obtain ⟨f,_,_,h3⟩:=wS.1 h
   obtain ⟨i',_,h'⟩:=xO.1 hy
   obtain ⟨f',_,_,h4⟩:=wS.1 h'
   rw [h3] at h4
   simp only [Prod.mk.injEq] at h4
   omega
theorem MP:(kg S).Nodup:=Jd
theorem lI {l:List Pl} (hl:l.Nodup) {p:Pl} (hp:p∈l) {g:Pl→Option Pl} (h:∀x∈l,x≠p→g x=none):l.filterMap g=(g p).toList:=by
 induction l with
 | nil=>cases hp
 | cons a l ih=>
   rw [List.nodup_cons] at hl
   rcases List.mem_cons.1 hp with rfl | hp
   · have e:l.filterMap g=[]:=by
       rw [List.filterMap_eq_nil_iff]
       intro x hx
       exact h x (by simp [hx]) fun e=>hl.1 (e ▸ hx)
     rw [List.filterMap_cons,e]
     cases g p <;> rfl
   · have e:g a=none:=h a (by simp) fun e=>hl.1 (e ▸ hp)
     rw [List.filterMap_cons,e]
     exact ih hl.2 hp fun x hx=>h x (by simp [hx])
theorem J2 {l:List Pl} {g:Pl→Option Pl} (h:∀x∈l,g x=none):l.filterMap g=[]:=by
 rw [List.filterMap_eq_nil_iff];exact h
theorem kr.shape {k i f to:Int} (h:kr S k i f to T):Shape S T:=⟨h.th,h.fd,h.al⟩
theorem Pb (h:Shape S T) (hg:∀k i f,1≤k→k≤16→zi S k i f=true→qx T k i f=qx S k i f):bI (kg S) (kg T)=[]:=by
 rw [HZ h]
 refine J2 ?_
 rintro ⟨k,i,f,z⟩ hx
 obtain ⟨a,b,c,rfl⟩:=iY.1 hx
 simp only [hg k i f a b c,if_true]
theorem ZP {f:Int→Nat→Int} {n:Int}:Zq f n f n:=⟨rfl,fun _ _ _ _ _=>rfl⟩
end Go.Sp
end
noncomputable section
set_option linter.unusedSimpArgs false
namespace Go.Sp
open Go Go.Sx
def no:Tree:=.fail 100
def notE (e:E):E:=.bin .eq e (n0 0)
def isOk (i:Nat):E:=notE (.bin .eq (v i) (n0 0))
theorem aN {I:Itp}:∀{l:List Bool} {env:List D} {t:Tree},(∀ds,Sorts l ds→t.vc I (env++ds))→(rO l t).vc I env
 | [],env,t,h=>by simpa [rO] using h [] trivial
 | true::l,env,t,h=>fun f=>aN (l:=l) fun ds hs=>by simpa using h (.t f::ds) hs
 | false::l,env,t,h=>fun n=>aN (l:=l) fun ds hs=>by simpa using h (.i n::ds) hs
def At (env:List D) (a:Nat) (X:List D):Prop:=∃p r,env=p++(X++r)∧p.length=a
theorem At.more {env X:List D} {a:Nat} (h:At env a X) (xs:List D):At (env++xs) a X:=by
 obtain ⟨p,r,e,hp⟩:=h
 exact ⟨p,r++xs,by rw [e];simp,hp⟩
theorem At.new (env X:List D):At (env++X) env.length X:=⟨env,[],by simp,rfl⟩
theorem At.qh {env X:List D} {a n:Nat} {l:List E} (h:At env a X) (hn:X.length=n):qh JI env (rgs a n l)=(qh JI env l).map (X ++ ·):=by
 obtain ⟨p,r,e,hp⟩:=h
 rw [Kz (by rw [e];simp;omega)]
 have:(env.drop a).take n=X:=by
   rw [e,List.drop_append_of_le_length (by omega),List.drop_of_length_le (by omega),List.nil_append,List.take_append_of_le_length (by omega),List.take_of_length_le (by omega)]
 rw [this]
theorem At.v {env X:List D} {a i:Nat} {d:D} (h:At env a X) (hi:X[i]?=some d) {m:Nat} (hm:m=a+i):(v m).den JI env=some d:=by
 obtain ⟨p,r,e,hp⟩:=h
 show env[m]?=_
 have:=(List.getElem?_eq_some_iff.1 hi).1
 rw [e,List.getElem?_append_right (by omega),List.getElem?_append_left (by omega),←hi]
 congr 1;omega
theorem St.set {S:List D} (h:St S) {g:Int→Nat→Int}:St (S.set 32 (.t g)):=by
 have key:∀{l:List Bool} {S:List D} {i:Nat},Sorts l S→l[i]?=some true→Sorts l (S.set i (.t g)):=by
   intro l
   induction l with
   | nil=>intro S i h hi;simp at hi
   | cons b l ih=>
     intro S i h hi
     match b,S,h with
     | true,.t f::S,h=>
       cases i with
       | zero=>exact h
       | succ i=>exact ih (S:=S) (i:=i) h (by simpa using hi)
     | false,.i n::S,h=>
       cases i with
       | zero=>simp at hi
       | succ i=>exact ih (S:=S) (i:=i) h (by simpa using hi)
 exact ⟨key h.so (by decide)⟩
theorem MJ {l:List Bool} {ds:List D} (h:Sorts (l++[false,false]) ds):∃T a b,Sorts l T∧ds=T++[.i a,.i b]:=by
 obtain ⟨T,r,rfl,h1,h2⟩:=zM h
 match r,h2 with
 | [.i a,.i b],_=>exact ⟨T,a,b,h1,rfl⟩
theorem BF {env:List D} {e:E} {x:Int} (h:e.den JI env=some (.i x)):(notE e).den JI env=some (.i (if x=0 then 1 else 0)):=by
 show (E.bin .eq e (.lit 0)).den JI env=_
 simp only [E.den,h,BO.ev]
theorem OJ {env:List D} {i:Nat} {x:Int} (h:(v i).den JI env=some (.i x)):(isOk i).den JI env=some (.i (if x=0 then 0 else 1)):=by
 have e:(E.bin .eq (v i) (n0 0)).den JI env=some (.i (if x=0 then 1 else 0)):=BF h
 have:=BF e
 unfold isOk
 rw [this]
 by_cases c:x=0 <;> simp [c]
theorem YL {S T:List D} {k i f to was e:Int} (h:MB S k i f to T was e) (e0:e=0):(1≤k∧k≤16)∧zi S k i f=true∧zk k f to∧was=qx S k i f∧kr S k i f to T:=by
 obtain ⟨h1,h2,h3⟩:=h
 obtain ⟨a,b⟩:=h2 e0
 rcases h1 with ⟨_,h⟩ | ⟨hk,⟨_,h⟩ | ⟨hh,⟨_,h⟩ | ⟨hf,_⟩⟩⟩
 · omega
 · omega
 · omega
 · exact ⟨hk,hh,hf,a,b⟩
theorem Vs {S T:List D} {k i f to was e:Int} (h:MB S k i f to T was e) (hk:1≤k∧k≤16) (hh:zi S k i f=true) (hf:zk k f to):e=0:=by
 obtain ⟨h1,_⟩:=h
 rcases h1 with ⟨a,_⟩ | ⟨_,⟨a,_⟩ | ⟨_,⟨a,_⟩ | ⟨_,h⟩⟩⟩
 · omega
 · rw [hh] at a;cases a
 · exact (a hf).elim
 · exact h
section
variable {S T:List D} {k i f to was:Int} {env:List D} (hS:St S) (hT:St T) (hE:env.length=574) (a0:At env 0 S) (af:At env 281 [.i k,.i i,.i f,.i to]) (aT:At env 287 (T++[.i was,.i 0]))
 (hk:1≤k∧k≤16) (hh:zi S k i f=true) (hf:zk k f to) (hw:was=qx S k i f) (hR:kr S k i f to T) (hs:Small S)
include hS hT hE a0 af aT hk hh hf hw hR hs
end
section
variable {S T:List D} {k i f to was:Int} (hS:St S) (hT:St T)
 (hk:1≤k∧k≤16) (hh:zi S k i f=true) (hf:zk k f to) (hw:was=qx S k i f) (hR:kr S k i f to T) (hs:Small S)
include hS hT hk hh hf hw hR hs
end
theorem p58 {S:List D} (h:St S):JI.pr 58 (S++[])↔Typed S:=by simp [JI,bL,←h.len]
theorem p59 {S:List D} (h:St S) {r:Int}:JI.pr 59 (S++[.i r])↔(r=0→Small S):=by simp [JI,bL,←h.len]
end Go.Sp
noncomputable section
set_option linter.unusedSimpArgs false
namespace Go.Sp
open Go Go.Sx
theorem p60 {f:Int→Nat→Int} {n:Int}:JI.pr 60 [.t f,.i n]↔∀r:Int,0≤r→r<n→llen (f r 1) 2≤20:=Iff.rfl
theorem qzk {S:List D} (h:Typed S) (b:∀j:Nat,j<16→gi S (49+15*j)≤600∧gi S (52+15*j)≤600∧gi S (54+15*j)≤600):∀j,j<16→0≤gi S (49+15*j)∧gi S (49+15*j)≤600∧0≤gi S (52+15*j)∧gi S (52+15*j)≤600∧0≤gi S (54+15*j)∧gi S (54+15*j)≤600:=fun j hj=>by
 have a:=h.ar j hj
 have c:=b j hj
 omega
theorem nx {c R Q:Prop} (h:¬c→Q):(c→(1:Int)=0→R)∧(¬c→Q):=⟨fun _ e=>by omega,h⟩
set_option maxRecDepth 100000 in
set_option maxHeartbeats 4000000 in
theorem qjj:∀env,Sorts Lm.sorts env→Iz.vc JI env:=by
 intro env h
 have hS:St env:=⟨h⟩
 rw [←List.append_nil env]
 generalize env=S at *
 simp (disch:=first | decide | omega) only [Iz,Tree.vc,E.den,BO.ev,hS.i,hS.t,hS.r,qh,Option.some.injEq,exists_eq_left',List.take_succ_cons,List.take_zero,List.cons_append,List.nil_append,D.i.injEq,D.t.injEq,forall_eq',and_true,dI,dL,
   Nat.reduceSub,List.getElem?_cons_zero,List.getElem?_cons_succ,bZ,nR,xI,kL,rX,rV,wH,xD,wF,gu,bH,nM,List.append_assoc,q0 hS,q1 hS,q2 hS,q3 hS,p58 hS,p59 hS,p60,Ww]
 intro ht
 obtain ⟨l1,l3,l5,l7,l24,l26,l31,l33,l36,l38,l40⟩:=ht.ln
 refine nx fun h5=>?_
 refine nx fun h1=>?_
 refine nx fun h3=>?_
 refine nx fun h24=>?_
 refine nx fun h26=>?_
 refine nx fun h31=>?_
 refine nx fun h33=>?_
 refine nx fun h36=>?_
 refine nx fun h38=>?_
 refine nx fun h40=>?_
 refine nx fun h7=>?_
 refine ⟨by omega,fun r a b=>by omega,fun n n0 n1 hn=>⟨fun hl=>nx fun hc=>⟨⟨by rw [QU];omega,by rw [imax];omega⟩,by omega,by omega,fun r r0 r1=>?_,by omega,by omega⟩,fun hl=>?_⟩⟩
 · by_cases e:r=n
   · subst e;omega
   · exact hn r r0 (by omega)
 refine nx fun g49=>?_
 refine nx fun g52=>?_
 refine nx fun g54=>?_
 refine nx fun g64=>?_
 refine nx fun g67=>?_
 refine nx fun g69=>?_
 refine nx fun g79=>?_
 refine nx fun g82=>?_
 refine nx fun g84=>?_
 refine nx fun g94=>?_
 refine nx fun g97=>?_
 refine nx fun g99=>?_
 refine nx fun qwY=>?_
 refine nx fun qwW=>?_
 refine nx fun qwK=>?_
 refine nx fun qwJ=>?_
 refine nx fun qwZ=>?_
 refine nx fun qwQ=>?_
 refine nx fun qwe=>?_
 refine nx fun qwa=>?_
 refine nx fun qwo=>?_
 refine nx fun qwi=>?_
 refine nx fun qwu=>?_
 refine nx fun qwl=>?_
 refine nx fun qwc=>?_
 refine nx fun qwt=>?_
 refine nx fun qws=>?_
 refine nx fun qwr=>?_
 refine nx fun qwp=>?_
 refine nx fun qwn=>?_
 refine nx fun qwm=>?_
 refine nx fun qwh=>?_
 refine nx fun qwf=>?_
 refine nx fun qwd=>?_
 refine nx fun qwb=>?_
 refine nx fun qwg=>?_
 refine nx fun qwv=>?_
 refine nx fun qwx=>?_
 refine nx fun qwy=>?_
 refine nx fun qww=>?_
 refine nx fun qwk=>?_
 refine nx fun qwj=>?_
 refine nx fun qwz=>?_
 refine nx fun qwq=>?_
 refine nx fun qk9=>?_
 refine nx fun qk8=>?_
 refine nx fun qk7=>?_
 refine nx fun qk6=>?_
 intro _
 have en:n=gi S 33:=by omega
 subst en
 exact { a1:=by omega,a3:=by omega,a5:=by omega,a7:=by omega,a24:=by omega,a26:=by omega,a31:=by omega,a33:=by omega,a36:=by omega,a38:=by omega,a40:=by omega
         cut:=hn
         ar:=qzk ht fun j hj=>by
           clear hn h1 h3 h5 h7
           have e:j=0∨j=1∨j=2∨j=3∨j=4∨j=5∨j=6∨j=7∨j=8∨j=9∨j=10∨j=11∨j=12∨j=13∨j=14∨j=15:=by omega
           rcases e with rfl | rfl | rfl | rfl | rfl | rfl | rfl | rfl | rfl | rfl | rfl | rfl | rfl | rfl | rfl | rfl
           · exact ⟨Int.not_lt.1 g49,Int.not_lt.1 g52,Int.not_lt.1 g54⟩
           · exact ⟨Int.not_lt.1 g64,Int.not_lt.1 g67,Int.not_lt.1 g69⟩
           · exact ⟨Int.not_lt.1 g79,Int.not_lt.1 g82,Int.not_lt.1 g84⟩
           · exact ⟨Int.not_lt.1 g94,Int.not_lt.1 g97,Int.not_lt.1 g99⟩
           · exact ⟨Int.not_lt.1 qwY,Int.not_lt.1 qwW,Int.not_lt.1 qwK⟩
           · exact ⟨Int.not_lt.1 qwJ,Int.not_lt.1 qwZ,Int.not_lt.1 qwQ⟩
           · exact ⟨Int.not_lt.1 qwe,Int.not_lt.1 qwa,Int.not_lt.1 qwo⟩
           · exact ⟨Int.not_lt.1 qwi,Int.not_lt.1 qwu,Int.not_lt.1 qwl⟩
           · exact ⟨Int.not_lt.1 qwc,Int.not_lt.1 qwt,Int.not_lt.1 qws⟩
           · exact ⟨Int.not_lt.1 qwr,Int.not_lt.1 qwp,Int.not_lt.1 qwn⟩
           · exact ⟨Int.not_lt.1 qwm,Int.not_lt.1 qwh,Int.not_lt.1 qwf⟩
           · exact ⟨Int.not_lt.1 qwd,Int.not_lt.1 qwb,Int.not_lt.1 qwg⟩
           · exact ⟨Int.not_lt.1 qwv,Int.not_lt.1 qwx,Int.not_lt.1 qwy⟩
           · exact ⟨Int.not_lt.1 qww,Int.not_lt.1 qwk,Int.not_lt.1 qwj⟩
           · exact ⟨Int.not_lt.1 qwz,Int.not_lt.1 qwq,Int.not_lt.1 qk9⟩
           · exact ⟨Int.not_lt.1 qk8,Int.not_lt.1 qk7,Int.not_lt.1 qk6⟩
         val:=ht.val }
end Go.Sp
end
