/-
  The statements about places: contracts. Conditions: none.
-/
import Derived.Test.YtmjjjhinedogjaaGreatDoorC1
import Derived.Test.YtmjjjhinedogjaaGreatDoorC3
noncomputable section
namespace Go.Sp
open Go Go.Sx
def R9:Contract where
 fn:=6
 sorts:=stS
 args:=[.agg (stA 0 0)]
 mem:=stM false 0 0
 nb:=NB
 pre:=[.pr 58 (vs 0)]
 outs:=[false]
 res:=.bool (.var 281)
 mods:=[]
 fresh:=[]
 post:=[.pr 59 (vs 0++[.var 281])]
def Yf:Contract:={ FX with fn:=8 }
def Ul:Contract where
 fn:=3
 sorts:=stS++[false,false,false,false]
 args:=[.agg (stA 0 0),.agg [iv NV,iv (NV+1),iv (NV+2),iv (NV+3)]]
 mem:=stM false 0 0
 nb:=NB
 pre:=[.pr 58 (vs 0),.rng .i64 (v (NV+3))]
 outs:=[]
 res:=.bool (.lit 1)
 mods:=[]
 fresh:=[]
 post:=[]
def cAw:Contract where
 fn:=7
 sorts:=[]
 args:=[]
 mem:=[]
 nb:=0
 pre:=[]
 outs:=[]
 res:=.bool (.lit 1)
 mods:=[]
 fresh:=[]
 post:=[]
def qzF:Ann where
 fn:=6
 bid:=0
 keep:=[1]
 tmps:=[(3,iv 281)]
 drop:=[]
 mem:=[]
 sorts:=[false]
 nbl:=0
 inv:=[le (.lit 0) (v 281),le (v 281) (v 33),.pr 60 [v 32,v 281]]
 meas:=.bin .sub (v 33) (v 281)
def UW (P:Program):Cx:={ x0 P with mZ:=[qzF] }
def UK (P:Program):Cx:={ x0 P with cs:=[R9,Yf,NG,Z0,aW,cAw] }
end Go.Sp
end
noncomputable section
namespace Go.Sp
open Go Go.Sx
def Cw:Tree:=(.assume (.pr 58 (rgs 0 281 [])) (.branch (.bin .lt (.lit 40) (.var 5)) (.assert (.pr 59 (rgs 0 281 [(.lit 1)])) .ok) (.branch (.bin .lt (.lit 1100) (.var 1)) (.assert (.pr 59 (rgs 0 281 [(.lit 1)])) .ok) (.branch (.bin .lt (.lit 1100) (.var 3)) (.assert (.pr 59 (rgs 0 281 [(.lit 1)])) .ok) (.branch (.bin .lt (.lit 1100) (.var 24)) (.assert (.pr 59 (rgs 0 281 [(.lit 1)])) .ok) (.branch (.bin .lt (.lit 1100) (.var 26)) (.assert (.pr 59 (rgs 0 281 [(.lit 1)])) .ok) (.branch (.bin .lt (.lit 1100) (.var 31)) (.assert (.pr 59 (rgs 0 281 [(.lit 1)])) .ok) (.branch (.bin .lt (.lit 1100) (.var 33)) (.assert (.pr 59 (rgs 0 281 [(.lit 1)])) .ok) (.branch (.bin .lt (.lit 1100) (.var 36)) (.assert (.pr 59 (rgs 0 281 [(.lit 1)])) .ok) (.branch (.bin .lt (.lit 1100) (.var 38)) (.assert (.pr 59 (rgs 0 281 [(.lit 1)])) .ok) (.branch (.bin .lt (.lit 1100) (.var 40)) (.assert (.pr 59 (rgs 0 281 [(.lit 1)])) .ok) (.branch (.bin .lt (.lit 60) (.var 7)) (.assert (.pr 59 (rgs 0 281 [(.lit 1)])) .ok) (.assert (.tt (.bin .le (.lit 0) (.var 33))) (.assert (.pr 60 [.var 32,(.lit 0)]) (.qw false (.assume (.tt (.bin .le (.lit 0) (.var 281))) (.assume (.tt (.bin .le (.var 281) (.var 33))) (.assume (.pr 60 [.var 32,.var 281]) (.branch (.bin .lt (.var 281) (.var 33)) (.branch (.bin .lt (.lit 20) (.fn 1014 (.sel (.var 32) (.var 281) 1) (.lit 2) (.lit 0) (.lit 0))) (.assert (.pr 59 (rgs 0 281 [(.lit 1)])) .ok) (.assert (.rng .i64 (.bin .add (.var 281) (.lit 1))) (.assert (.tt (.bin .le (.lit 0) (.bin .add (.var 281) (.lit 1)))) (.assert (.tt (.bin .le (.bin .add (.var 281) (.lit 1)) (.var 33))) (.assert (.pr 60 [.var 32,(.bin .add (.var 281) (.lit 1))]) (.assert (.tt (.bin .le (.lit 0) (.bin .sub (.var 33) (.bin .add (.var 281) (.lit 1))))) (.assert (.tt (.bin .lt (.bin .sub (.var 33) (.bin .add (.var 281) (.lit 1))) (.bin .sub (.var 33) (.var 281)))) .ok))))))) (.branch (.bin .lt (.lit 600) (.var 49)) (.assert (.pr 59 (rgs 0 281 [(.lit 1)])) .ok) (.branch (.bin .lt (.lit 600) (.var 52)) (.assert (.pr 59 (rgs 0 281 [(.lit 1)])) .ok) (.branch (.bin .lt (.lit 600) (.var 54)) (.assert (.pr 59 (rgs 0 281 [(.lit 1)])) .ok) (.branch (.bin .lt (.lit 600) (.var 64)) (.assert (.pr 59 (rgs 0 281 [(.lit 1)])) .ok) (.branch (.bin .lt (.lit 600) (.var 67)) (.assert (.pr 59 (rgs 0 281 [(.lit 1)])) .ok) (.branch (.bin .lt (.lit 600) (.var 69)) (.assert (.pr 59 (rgs 0 281 [(.lit 1)])) .ok) (.branch (.bin .lt (.lit 600) (.var 79)) (.assert (.pr 59 (rgs 0 281 [(.lit 1)])) .ok) (.branch (.bin .lt (.lit 600) (.var 82)) (.assert (.pr 59 (rgs 0 281 [(.lit 1)])) .ok) (.branch (.bin .lt (.lit 600) (.var 84)) (.assert (.pr 59 (rgs 0 281 [(.lit 1)])) .ok) (.branch (.bin .lt (.lit 600) (.var 94)) (.assert (.pr 59 (rgs 0 281 [(.lit 1)])) .ok) (.branch (.bin .lt (.lit 600) (.var 97)) (.assert (.pr 59 (rgs 0 281 [(.lit 1)])) .ok) (.branch (.bin .lt (.lit 600) (.var 99)) (.assert (.pr 59 (rgs 0 281 [(.lit 1)])) .ok) (.branch (.bin .lt (.lit 600) (.var 109)) (.assert (.pr 59 (rgs 0 281 [(.lit 1)])) .ok) (.branch (.bin .lt (.lit 600) (.var 112)) (.assert (.pr 59 (rgs 0 281 [(.lit 1)])) .ok) (.branch (.bin .lt (.lit 600) (.var 114)) (.assert (.pr 59 (rgs 0 281 [(.lit 1)])) .ok) (.branch (.bin .lt (.lit 600) (.var 124)) (.assert (.pr 59 (rgs 0 281 [(.lit 1)])) .ok) (.branch (.bin .lt (.lit 600) (.var 127)) (.assert (.pr 59 (rgs 0 281 [(.lit 1)])) .ok) (.branch (.bin .lt (.lit 600) (.var 129)) (.assert (.pr 59 (rgs 0 281 [(.lit 1)])) .ok) (.branch (.bin .lt (.lit 600) (.var 139)) (.assert (.pr 59 (rgs 0 281 [(.lit 1)])) .ok) (.branch (.bin .lt (.lit 600) (.var 142)) (.assert (.pr 59 (rgs 0 281 [(.lit 1)])) .ok) (.branch (.bin .lt (.lit 600) (.var 144)) (.assert (.pr 59 (rgs 0 281 [(.lit 1)])) .ok) (.branch (.bin .lt (.lit 600) (.var 154)) (.assert (.pr 59 (rgs 0 281 [(.lit 1)])) .ok) (.branch (.bin .lt (.lit 600) (.var 157)) (.assert (.pr 59 (rgs 0 281 [(.lit 1)])) .ok) (.branch (.bin .lt (.lit 600) (.var 159)) (.assert (.pr 59 (rgs 0 281 [(.lit 1)])) .ok) (.branch (.bin .lt (.lit 600) (.var 169)) (.assert (.pr 59 (rgs 0 281 [(.lit 1)])) .ok) (.branch (.bin .lt (.lit 600) (.var 172)) (.assert (.pr 59 (rgs 0 281 [(.lit 1)])) .ok) (.branch (.bin .lt (.lit 600) (.var 174)) (.assert (.pr 59 (rgs 0 281 [(.lit 1)])) .ok) (.branch (.bin .lt (.lit 600) (.var 184)) (.assert (.pr 59 (rgs 0 281 [(.lit 1)])) .ok) (.branch (.bin .lt (.lit 600) (.var 187)) (.assert (.pr 59 (rgs 0 281 [(.lit 1)])) .ok) (.branch (.bin .lt (.lit 600) (.var 189)) (.assert (.pr 59 (rgs 0 281 [(.lit 1)])) .ok) (.branch (.bin .lt (.lit 600) (.var 199)) (.assert (.pr 59 (rgs 0 281 [(.lit 1)])) .ok) (.branch (.bin .lt (.lit 600) (.var 202)) (.assert (.pr 59 (rgs 0 281 [(.lit 1)])) .ok) (.branch (.bin .lt (.lit 600) (.var 204)) (.assert (.pr 59 (rgs 0 281 [(.lit 1)])) .ok) (.branch (.bin .lt (.lit 600) (.var 214)) (.assert (.pr 59 (rgs 0 281 [(.lit 1)])) .ok) (.branch (.bin .lt (.lit 600) (.var 217)) (.assert (.pr 59 (rgs 0 281 [(.lit 1)])) .ok) (.branch (.bin .lt (.lit 600) (.var 219)) (.assert (.pr 59 (rgs 0 281 [(.lit 1)])) .ok) (.branch (.bin .lt (.lit 600) (.var 229)) (.assert (.pr 59 (rgs 0 281 [(.lit 1)])) .ok) (.branch (.bin .lt (.lit 600) (.var 232)) (.assert (.pr 59 (rgs 0 281 [(.lit 1)])) .ok) (.branch (.bin .lt (.lit 600) (.var 234)) (.assert (.pr 59 (rgs 0 281 [(.lit 1)])) .ok) (.branch (.bin .lt (.lit 600) (.var 244)) (.assert (.pr 59 (rgs 0 281 [(.lit 1)])) .ok) (.branch (.bin .lt (.lit 600) (.var 247)) (.assert (.pr 59 (rgs 0 281 [(.lit 1)])) .ok) (.branch (.bin .lt (.lit 600) (.var 249)) (.assert (.pr 59 (rgs 0 281 [(.lit 1)])) .ok) (.branch (.bin .lt (.lit 600) (.var 259)) (.assert (.pr 59 (rgs 0 281 [(.lit 1)])) .ok) (.branch (.bin .lt (.lit 600) (.var 262)) (.assert (.pr 59 (rgs 0 281 [(.lit 1)])) .ok) (.branch (.bin .lt (.lit 600) (.var 264)) (.assert (.pr 59 (rgs 0 281 [(.lit 1)])) .ok) (.branch (.bin .lt (.lit 600) (.var 274)) (.assert (.pr 59 (rgs 0 281 [(.lit 1)])) .ok) (.branch (.bin .lt (.lit 600) (.var 277)) (.assert (.pr 59 (rgs 0 281 [(.lit 1)])) .ok) (.branch (.bin .lt (.lit 600) (.var 279)) (.assert (.pr 59 (rgs 0 281 [(.lit 1)])) .ok) (.assert (.pr 59 (rgs 0 281 [(.lit 0)])) .ok))))))))))))))))))))))))))))))))))))))))))))))))))))))))))))))))))))
def Vt:Tree:=(.assume (.pr 31 (rgs 0 281 [])) (.assert (.tt (.bin .le (.var 1) (.lit 1000000))) (.assert (.tt (.bin .le (.var 3) (.lit 1000000))) (.assert (.tt (.bin .le (.var 5) (.lit 1000000))) (.assert (.tt (.bin .le (.var 7) (.lit 1000000))) (.assert (.tt (.bin .le (.var 24) (.lit 1000000))) (.assert (.tt (.bin .le (.var 26) (.lit 1000000))) (.assert (.tt (.bin .le (.var 31) (.lit 1000000))) (.assert (.tt (.bin .le (.var 33) (.lit 1000000))) (.assert (.tt (.bin .le (.lit 0) (.var 33))) (.assert (.pr 50 [.var 32,.var 33,.var 32]) (.qw false (.qw true (.assume (.tt (.bin .le (.lit 0) (.var 281))) (.assume (.tt (.bin .le (.var 281) (.var 33))) (.assume (.pr 50 [.var 32,.var 33,.var 282]) (.branch (.bin .lt (.var 281) (.var 33)) (.assert (.tt (.bin .le (.fn 1014 (.sel (.var 282) (.var 281) 1) (.lit 2) (.lit 0) (.lit 0)) (.lit 1000000))) (.assert (.tt (.bin .le (.fn 1014 (.sel (.var 282) (.var 281) 1) (.lit 2) (.lit 0) (.lit 0)) (.fn 1014 (.sel (.var 282) (.var 281) 1) (.lit 2) (.lit 0) (.lit 0)))) (.assert (.rng .i64 (.bin .add (.var 281) (.lit 1))) (.assert (.tt (.bin .le (.lit 0) (.bin .add (.var 281) (.lit 1)))) (.assert (.tt (.bin .le (.bin .add (.var 281) (.lit 1)) (.var 33))) (.assert (.pr 50 [.var 32,.var 33,(.upd (.var 282) (.var 281) 1 (.fn 1016 (.fn 1017 (.sel (.var 282) (.var 281) 1) (.lit 2) (.lit 0) (.lit 0)) (.fn 1014 (.sel (.var 282) (.var 281) 1) (.lit 2) (.lit 0) (.lit 0)) (.lit 2) (.lit 0)))]) (.assert (.tt (.bin .le (.lit 0) (.bin .sub (.var 33) (.bin .add (.var 281) (.lit 1))))) (.assert (.tt (.bin .lt (.bin .sub (.var 33) (.bin .add (.var 281) (.lit 1))) (.bin .sub (.var 33) (.var 281)))) .ok)))))))) (.assert (.tt (.bin .le (.var 36) (.lit 1000000))) (.assert (.tt (.bin .le (.var 38) (.lit 1000000))) (.assert (.tt (.bin .le (.var 40) (.lit 1000000))) (.assert (.tt (.bin .le (.var 49) (.lit 1000000))) (.assert (.tt (.bin .le (.var 52) (.lit 1000000))) (.assert (.tt (.bin .le (.var 54) (.lit 1000000))) (.assert (.tt (.bin .le (.var 64) (.lit 1000000))) (.assert (.tt (.bin .le (.var 67) (.lit 1000000))) (.assert (.tt (.bin .le (.var 69) (.lit 1000000))) (.assert (.tt (.bin .le (.var 79) (.lit 1000000))) (.assert (.tt (.bin .le (.var 82) (.lit 1000000))) (.assert (.tt (.bin .le (.var 84) (.lit 1000000))) (.assert (.tt (.bin .le (.var 94) (.lit 1000000))) (.assert (.tt (.bin .le (.var 97) (.lit 1000000))) (.assert (.tt (.bin .le (.var 99) (.lit 1000000))) (.assert (.tt (.bin .le (.var 109) (.lit 1000000))) (.assert (.tt (.bin .le (.var 112) (.lit 1000000))) (.assert (.tt (.bin .le (.var 114) (.lit 1000000))) (.assert (.tt (.bin .le (.var 124) (.lit 1000000))) (.assert (.tt (.bin .le (.var 127) (.lit 1000000))) (.assert (.tt (.bin .le (.var 129) (.lit 1000000))) (.assert (.tt (.bin .le (.var 139) (.lit 1000000))) (.assert (.tt (.bin .le (.var 142) (.lit 1000000))) (.assert (.tt (.bin .le (.var 144) (.lit 1000000))) (.assert (.tt (.bin .le (.var 154) (.lit 1000000))) (.assert (.tt (.bin .le (.var 157) (.lit 1000000))) (.assert (.tt (.bin .le (.var 159) (.lit 1000000))) (.assert (.tt (.bin .le (.var 169) (.lit 1000000))) (.assert (.tt (.bin .le (.var 172) (.lit 1000000))) (.assert (.tt (.bin .le (.var 174) (.lit 1000000))) (.assert (.tt (.bin .le (.var 184) (.lit 1000000))) (.assert (.tt (.bin .le (.var 187) (.lit 1000000))) (.assert (.tt (.bin .le (.var 189) (.lit 1000000))) (.assert (.tt (.bin .le (.var 199) (.lit 1000000))) (.assert (.tt (.bin .le (.var 202) (.lit 1000000))) (.assert (.tt (.bin .le (.var 204) (.lit 1000000))) (.assert (.tt (.bin .le (.var 214) (.lit 1000000))) (.assert (.tt (.bin .le (.var 217) (.lit 1000000))) (.assert (.tt (.bin .le (.var 219) (.lit 1000000))) (.assert (.tt (.bin .le (.var 229) (.lit 1000000))) (.assert (.tt (.bin .le (.var 232) (.lit 1000000))) (.assert (.tt (.bin .le (.var 234) (.lit 1000000))) (.assert (.tt (.bin .le (.var 244) (.lit 1000000))) (.assert (.tt (.bin .le (.var 247) (.lit 1000000))) (.assert (.tt (.bin .le (.var 249) (.lit 1000000))) (.assert (.tt (.bin .le (.var 259) (.lit 1000000))) (.assert (.tt (.bin .le (.var 262) (.lit 1000000))) (.assert (.tt (.bin .le (.var 264) (.lit 1000000))) (.assert (.tt (.bin .le (.var 274) (.lit 1000000))) (.assert (.tt (.bin .le (.var 277) (.lit 1000000))) (.assert (.tt (.bin .le (.var 279) (.lit 1000000))) .ok))))))))))))))))))))))))))))))))))))))))))))))))))))))))))))))))))))
end Go.Sp
end
noncomputable section
set_option linter.unusedSimpArgs false
namespace Go.Sp
open Go Go.Sx
variable {S T:List D}
abbrev Pl:=Int × Int × Int × Int
def re (T:List D) (x:Pl):Pl:=(x.1,x.2.1,x.2.2.1,qc T x.1 x.2.1 x.2.2.1)
structure Shape (S T:List D):Prop where
 th:∀k,qy T k=qy S k
 fd:∀k i,0≤i→i<qy S k→qp T k i=qp S k i
 al:gi T 38=gi S 38∧gi T 40=gi S 40
theorem Shape.has (h:Shape S T) {k i f:Int}:zJ T k i f=zJ S k i f:=by
 unfold zJ
 rw [h.th,h.al.1,h.al.2]
 by_cases hi:0≤i∧i<qy S k
 · rw [h.fd k i hi.1 hi.2]
 · have e:∀a b:Prop,¬(0≤i∧i<qy S k∧a∧b):=fun a b x=>hi ⟨x.1,x.2.1⟩
   simp only [e,decide_false]
theorem Shape.symm (h:Shape S T):Shape T S:=⟨fun k=>(h.th k).symm,fun k i i0 i1=>(h.fd k i i0 (by rw [←h.th];exact i1)).symm,⟨h.al.1.symm,h.al.2.symm⟩⟩
theorem Shape.trans {U:List D} (h:Shape S T) (g:Shape T U):Shape S U:=⟨fun k=>(g.th k).trans (h.th k),fun k i i0 i1=>(g.fd k i i0 (by rw [h.th];exact i1)).trans (h.fd k i i0 i1),⟨g.al.1.trans h.al.1,g.al.2.trans h.al.2⟩⟩
theorem JX (h:Shape S T) {k i:Int}:∀{n:Nat},jR T k i n=(jR S k i n).map (re T)
 | 0=>rfl
 | n+1=>by
   rw [j6,j6,List.map_append,JX h,h.has]
   by_cases e:zJ S k i n=true <;> simp [e,re]
theorem Ji (h:Shape S T) {k:Int}:∀{n:Nat},n≤(qy S k).toNat→jP T k n=(jP S k n).map (re T)
 | 0,_=>rfl
 | n+1,hn=>by
   rw [wz,wz,List.map_append,Ji h (by omega),JX h,h.fd k n (by omega) (by omega)]
theorem Xn (h:Shape S T):∀{n:Nat},gJ T n=(gJ S n).map (re T)
 | 0=>rfl
 | n+1=>by
   rw [xu,xu,List.map_append,Xn h,h.th,Ji h (Nat.le_refl _)]
theorem Db (h:Shape S T):wP T=(wP S).map (re T):=Xn h
theorem Qi (h:Shape S T):JK (wP S) (wP T):=by
 rw [Db h,JK,List.map_map];rfl
theorem BR (h:Shape S T):pY (wP S) (wP T)=(wP S).filterMap fun x=>if x.2.2.2=qc T x.1 x.2.1 x.2.2.1 then none else some (re T x):=by
 rw [Db h,pY]
 generalize wP S=l
 induction l with
 | nil=>rfl
 | cons a l ih=>
   simp only [List.map_cons,List.zip_cons_cons,List.filterMap_cons]
   rw [ih];rfl
theorem wQ {k i:Int} {x:Pl}:∀{n:Nat},x∈jR S k i n↔∃f:Nat,f<n∧zJ S k i f=true∧x=(k,i,(f:Int),qc S k i f)
 | 0=>by simp [jR]
 | n+1=>by
   rw [j6,List.mem_append,wQ]
   constructor
   · rintro (⟨f,h1,h2,h3⟩ | h)
     · exact ⟨f,by omega,h2,h3⟩
     · by_cases e:zJ S k i n=true
       · rw [if_pos e,List.mem_singleton] at h;exact ⟨n,by omega,e,h⟩
       · rw [if_neg e] at h;cases h
   · rintro ⟨f,h1,h2,h3⟩
     by_cases e:f=n
     · subst e;right;rw [if_pos h2];simp [h3]
     · exact .inl ⟨f,by omega,h2,h3⟩
theorem xw {k:Int} {x:Pl}:∀{n:Nat},x∈jP S k n↔∃i:Nat,i<n∧x∈jR S k i (qp S k i).toNat
 | 0=>by simp [jP]
 | n+1=>by
   rw [wz,List.mem_append,xw]
   constructor
   · rintro (⟨i,h1,h2⟩ | h)
     · exact ⟨i,by omega,h2⟩
     · exact ⟨n,by omega,h⟩
   · rintro ⟨i,h1,h2⟩
     by_cases e:i=n
     · subst e;exact .inr h2
     · exact .inl ⟨i,by omega,h2⟩
theorem iZ {x:Pl}:∀{n:Nat},x∈gJ S n↔∃j:Nat,j<n∧x∈jP S ((j:Int)+1) (qy S ((j:Int)+1)).toNat
 | 0=>by simp [gJ]
 | n+1=>by
   rw [xu,List.mem_append,iZ]
   constructor
   · rintro (⟨i,h1,h2⟩ | h)
     · exact ⟨i,by omega,h2⟩
     · exact ⟨n,by omega,h⟩
   · rintro ⟨i,h1,h2⟩
     by_cases e:i=n
     · subst e;exact .inr h2
     · exact .inl ⟨i,by omega,h2⟩
theorem Zz {k i f z:Int}:(k,i,f,z)∈wP S↔1≤k∧k≤16∧zJ S k i f=true∧z=qc S k i f:=by
 unfold wP
 rw [iZ]
 constructor
 · rintro ⟨j,hj,h⟩
   obtain ⟨i',h1,h⟩:=xw.1 h
   obtain ⟨f',h2,h3,h4⟩:=wQ.1 h
   simp only [Prod.mk.injEq] at h4
   obtain ⟨rfl,rfl,rfl,rfl⟩:=h4
   exact ⟨by omega,by omega,h3,rfl⟩
 · rintro ⟨k0,k1,hh,rfl⟩
   have hf:=q8 hh
   refine ⟨(k - 1).toNat,by omega,xw.2 ⟨i.toNat,?_,wQ.2 ⟨f.toNat,?_,?_,?_⟩⟩⟩
   all_goals rw [show (((k - 1).toNat:Nat):Int)+1=k by omega]
   · omega
   all_goals rw [show ((i.toNat:Nat):Int)=i by omega]
   · omega
   all_goals rw [show ((f.toNat:Nat):Int)=f by omega]
   exact hh
theorem oU {k i:Int}:∀{n:Nat},(jR S k i n).Nodup
 | 0=>by simp [jR]
 | n+1=>by
   rw [j6,List.nodup_append]
   refine ⟨oU,by by_cases e:zJ S k i n=true <;> simp [e],fun x hx y hy e=>?_⟩
   subst e
   obtain ⟨f,h1,_,h3⟩:=wQ.1 hx
   by_cases e:zJ S k i n=true
   · rw [if_pos e,List.mem_singleton] at hy
     rw [hy] at h3
     simp only [Prod.mk.injEq] at h3
     omega
   · rw [if_neg e] at hy;cases hy
theorem oL {k:Int}:∀{n:Nat},(jP S k n).Nodup
 | 0=>by simp [jP]
 | n+1=>by
   rw [wz,List.nodup_append]
   refine ⟨oL,oU,fun x hx y hy e=>?_⟩
   subst e
   obtain ⟨i,h1,h⟩:=xw.1 hx
   obtain ⟨f,_,_,h3⟩:=wQ.1 h
   obtain ⟨f',_,_,h4⟩:=wQ.1 hy
   rw [h3] at h4
   simp only [Prod.mk.injEq] at h4
   omega
theorem Q6:∀{n:Nat},(gJ S n).Nodup
 | 0=>by simp [gJ]
 | n+1=>by
   rw [xu,List.nodup_append]
   refine ⟨Q6,oL,fun x hx y hy e=>?_⟩
   subst e
   obtain ⟨j,h1,h⟩:=iZ.1 hx
   obtain ⟨i,_,h⟩:=xw.1 h
   obtain ⟨f,_,_,h3⟩:=wQ.1 h
   obtain ⟨i',_,h'⟩:=xw.1 hy
   obtain ⟨f',_,_,h4⟩:=wQ.1 h'
   rw [h3] at h4
   simp only [Prod.mk.injEq] at h4
   omega
theorem DF:(wP S).Nodup:=Q6
theorem Jm {l:List Pl} (hl:l.Nodup) {p:Pl} (hp:p∈l) {g:Pl→Option Pl} (h:∀x∈l,x≠p→g x=none):l.filterMap g=(g p).toList:=by
 induction l with
 | nil=>cases hp
 | cons a l ih=>
   rw [List.nodup_cons] at hl
   rcases List.mem_cons.1 hp with rfl | hp
   · have e:l.filterMap g=[]:=by
       rw [List.filterMap_eq_nil_iff]
       intro x hx
       exact h x (by simp [hx]) fun e=>hl.1 (e ▸ hx)
     rw [List.filterMap_cons,e]
     cases g p <;> rfl
   · have e:g a=none:=h a (by simp) fun e=>hl.1 (e ▸ hp)
     rw [List.filterMap_cons,e]
     exact ih hl.2 hp fun x hx=>h x (by simp [hx])
theorem ZB {l:List Pl} {g:Pl→Option Pl} (h:∀x∈l,g x=none):l.filterMap g=[]:=by
 rw [List.filterMap_eq_nil_iff];exact h
theorem j4.shape {k i f to:Int} (h:j4 S k i f to T):Shape S T:=⟨h.th,h.fd,h.al⟩
theorem PV {k i f to:Int} (h:j4 S k i f to T) (hk:1≤k∧k≤16) (hh:zJ S k i f=true):pY (wP S) (wP T)=if qc S k i f=to then [] else [(k,i,f,to)]:=by
 rw [BR h.shape,Jm DF (Zz.2 ⟨hk.1,hk.2,hh,rfl⟩)]
 · simp only [(h.ge k i f hk.1 hk.2 hh).1 ⟨rfl,rfl,rfl⟩,re]
   by_cases e:qc S k i f=to <;> simp [e]
 · rintro ⟨k',i',f',z⟩ hx hne
   obtain ⟨a,b,c,rfl⟩:=Zz.1 hx
   have e:¬(k'=k∧i'=i∧f'=f):=fun ⟨e1,e2,e3⟩=>hne (by subst e1 e2 e3;rfl)
   simp only [(h.ge k' i' f' a b c).2 e,if_true]
theorem YX (h:Shape S T) (hg:∀k i f,1≤k→k≤16→zJ S k i f=true→qc T k i f=qc S k i f):pY (wP S) (wP T)=[]:=by
 rw [BR h]
 refine ZB ?_
 rintro ⟨k,i,f,z⟩ hx
 obtain ⟨a,b,c,rfl⟩:=Zz.1 hx
 simp only [hg k i f a b c,if_true]
theorem Mq {U:List D} {k i f to:Int} (h:j4 S k i f to T) (h2:j4 T k i f (qc S k i f) U):Shape U S∧∀k' i' f',1≤k'→k'≤16→zJ U k' i' f'=true→qc S k' i' f'=qc U k' i' f':=by
 have sh:=(h.shape.trans h2.shape)
 refine ⟨sh.symm,fun k' i' f' a b c=>?_⟩
 rw [sh.has] at c
 have c2:zJ T k' i' f'=true:=by rw [h.shape.has];exact c
 by_cases e:k'=k∧i'=i∧f'=f
 · rw [(h2.ge k' i' f' a b c2).1 e];obtain ⟨rfl,rfl,rfl⟩:=e;rfl
 · rw [(h2.ge k' i' f' a b c2).2 e,(h.ge k' i' f' a b c).2 e]
theorem tK {f:Int→Nat→Int} {n:Int}:eY f n f n:=⟨rfl,fun _ _ _ _ _=>rfl⟩
theorem PX {k i f to:Int} (h:j4 S k i f to T):okD S T:=by
 refine ⟨Qi h.shape,?_⟩
 rw [h.ru.1,h.ru.2];exact tK
theorem FQ {g:Int→Nat→Int} (hS:St S) (hz:jo (gt S 32) (gi S 33) g):Shape S (S.set 32 (.t g))∧(∀k i f,1≤k→k≤16→zJ S k i f=true→qc (S.set 32 (.t g)) k i f=qc S k i f)∧okD S (S.set 32 (.t g)):=by
 have hE:Eqv S (S.set 32 (.t g)) 32:=Ub hS.len
 have e32:gt (S.set 32 (.t g)) 32=g:=by rw [yj (by rw [hS.len];omega),if_pos rfl]
 have hc:=mW hz e32
 have hn:nl 32:=⟨by omega,by omega,by omega,by omega,by omega,by omega,by omega,by omega,by omega,by omega,by omega,by omega,fun j=>by omega⟩
 have sh:Shape S (S.set 32 (.t g)):=⟨fun k=>uN hE hn,fun k i a b=>iP hE hn hc a b,hE.i 38 (by decide) (by decide),hE.i 40 (by decide) (by decide)⟩
 refine ⟨sh,fun k i f a b c=>?_,Qi sh,?_⟩
 · refine BF hE (Qk hz e32) a b c ?_
   unfold inP
   omega
 · rw [hE.t 6 (by decide) (by decide),hE.i 7 (by decide) (by decide)];exact tK
end Go.Sp
end
noncomputable section
set_option linter.unusedSimpArgs false
namespace Go.Sp
open Go Go.Sx
def no:Tree:=.fail 100
def notE (e:E):E:=.bin .eq e (n0 0)
def isOk (i:Nat):E:=notE (.bin .eq (v i) (n0 0))
def Dy:Tree:=
 .assert (.rng .i64 (v 568)) (fq (stS++[false,false]) (.assume (.pr 29 (rgs 287 281 (v 281::v 282::v 283::v 568::rgs 574 283 [])))
   (br .eq (v 856) (n0 0) (br .eq (v 855) (v 284) (.assert (.pr 31 (rgs 574 281 [])) (.qw false (.assume (.pr 41 (rgs 574 281 (rgs 0 281 [v 857]))) (.branch (v 857) .ok no)))) no) no)))
def iM (c:Nat) (e:E):E:=.bin .eq (.sel (v 571) (n0 0) c) e
def Gp:E:=notE (.bin .and (iM 0 (v 281)) (.bin .and (iM 1 (v 282)) (.bin .and (iM 2 (v 283)) (.bin .and (iM 3 (v 284)) (n0 1)))))
def O4:Tree:=
 .assert (.pr 31 (rgs 287 281 [])) (.qw true (.qw false (.qw false (.assume (.pr 40 (rgs 0 281 (rgs 287 281 [v 571,v 572,v 573])))
   (.branch (isOk 573) no (br .lt (n0 1) (v 572) no (br .eq (v 572) (n0 0)
     (.branch (notE (.bin .eq (v 568) (v 284))) no (br .eq (v 572) (n0 1) no Dy))
     (br .eq (v 572) (n0 1) (br .eq (v 568) (v 284) no (.assert (.tt (.bin .lt (n0 0) (v 572))) (.branch Gp no Dy))) Dy))))))))
def UC:Tree:=
 .assume (.pr 58 (rgs 0 281 [])) (.assume (.rng .i64 to') (.qw false (.assume (.pr 59 (rgs 0 281 [v 285])) (.branch (v 285) .ok
   (.assert (.pr 31 (rgs 0 281 [])) (.qw true (.assume (.pr 50 [v 32,v 33,v 286]) (fq (stS++[false,false]) (.assume (.pr 29 (rgs 0 285 (rgs 287 283 [])))
     (.assert (.pr 31 (rgs 0 32 (v 286::rgs 33 248 []))) (.qw false (.assume (.pr 41 (rgs 0 281 (rgs 0 32 (v 286::rgs 33 248 [v 570])))) (br .eq (v 570) (n0 0) no (.branch (isOk 569) .ok O4))))))))))))))
theorem rP {I:Itp}:∀{l:List Bool} {env:List D} {t:Tree},(∀ds,Sorts l ds→t.vc I (env++ds))→(fq l t).vc I env
 | [],env,t,h=>by simpa [fq] using h [] trivial
 | true::l,env,t,h=>fun f=>rP (l:=l) fun ds hs=>by simpa using h (.t f::ds) hs
 | false::l,env,t,h=>fun n=>rP (l:=l) fun ds hs=>by simpa using h (.i n::ds) hs
def At (env:List D) (a:Nat) (X:List D):Prop:=∃p r,env=p++(X++r)∧p.length=a
theorem At.more {env X:List D} {a:Nat} (h:At env a X) (xs:List D):At (env++xs) a X:=by
 obtain ⟨p,r,e,hp⟩:=h
 exact ⟨p,r++xs,by rw [e];simp,hp⟩
theorem At.new (env X:List D):At (env++X) env.length X:=⟨env,[],by simp,rfl⟩
theorem At.qg {env X:List D} {a n:Nat} {l:List E} (h:At env a X) (hn:X.length=n):qg JI env (rgs a n l)=(qg JI env l).map (X ++ ·):=by
 obtain ⟨p,r,e,hp⟩:=h
 rw [pX (by rw [e];simp;omega)]
 have:(env.drop a).take n=X:=by
   rw [e,List.drop_append_of_le_length (by omega),List.drop_of_length_le (by omega),List.nil_append,List.take_append_of_le_length (by omega),List.take_of_length_le (by omega)]
 rw [this]
theorem At.v {env X:List D} {a i:Nat} {d:D} (h:At env a X) (hi:X[i]?=some d) {m:Nat} (hm:m=a+i):(v m).den JI env=some d:=by
 obtain ⟨p,r,e,hp⟩:=h
 show env[m]?=_
 have:=(List.getElem?_eq_some_iff.1 hi).1
 rw [e,List.getElem?_append_right (by omega),List.getElem?_append_left (by omega),←hi]
 congr 1;omega
theorem Kw {env S:List D} (h:At env 0 S) (hS:St S) {e:E} {d:D} (he:e.den JI env=some d) {l:List E}:qg JI env (rgs 0 32 (e::rgs 33 248 l))=(qg JI env l).map (S.set 32 d ++ ·):=by
 obtain ⟨p,r,rfl,hp⟩:=h
 obtain rfl:p=[]:=List.length_eq_zero_iff.1 hp
 have l0:=hS.len
 rw [pX (by simp [l0];omega)]
 simp only [qg,he]
 rw [pX (by simp [l0])]
 simp only [List.nil_append,List.drop_zero]
 rw [List.take_append_of_le_length (by omega),List.drop_append_of_le_length (by omega),List.take_append_of_le_length (by simp [l0]),List.take_of_length_le (l:=S.drop 33) (by simp [l0])]
 cases qg JI (S++r) l with
 | none=>rfl
 | some ds=>
   simp only [Option.map_some,Option.some.injEq]
   rw [List.set_eq_take_append_cons_drop,if_pos (by omega)]
   simp
theorem St.set {S:List D} (h:St S) {g:Int→Nat→Int}:St (S.set 32 (.t g)):=by
 have key:∀{l:List Bool} {S:List D} {i:Nat},Sorts l S→l[i]?=some true→Sorts l (S.set i (.t g)):=by
   intro l
   induction l with
   | nil=>intro S i h hi;simp at hi
   | cons b l ih=>
     intro S i h hi
     match b,S,h with
     | true,.t f::S,h=>
       cases i with
       | zero=>exact h
       | succ i=>exact ih (S:=S) (i:=i) h (by simpa using hi)
     | false,.i n::S,h=>
       cases i with
       | zero=>simp at hi
       | succ i=>exact ih (S:=S) (i:=i) h (by simpa using hi)
 exact ⟨key h.so (by decide)⟩
theorem JQ {l:List Bool} {ds:List D} (h:Sorts (l++[false,false]) ds):∃T a b,Sorts l T∧ds=T++[.i a,.i b]:=by
 obtain ⟨T,r,rfl,h1,h2⟩:=zF h
 match r,h2 with
 | [.i a,.i b],_=>exact ⟨T,a,b,h1,rfl⟩
theorem Wm {env:List D} {e:E} {x:Int} (h:e.den JI env=some (.i x)):(notE e).den JI env=some (.i (if x=0 then 1 else 0)):=by
 show (E.bin .eq e (.lit 0)).den JI env=_
 simp only [E.den,h,BO.ev]
theorem MS {env:List D} {i:Nat} {x:Int} (h:(v i).den JI env=some (.i x)):(isOk i).den JI env=some (.i (if x=0 then 0 else 1)):=by
 have e:(E.bin .eq (v i) (n0 0)).den JI env=some (.i (if x=0 then 1 else 0)):=Wm h
 have:=Wm e
 unfold isOk
 rw [this]
 by_cases c:x=0 <;> simp [c]
theorem Nj {k f x:Int} (h:qF k f x):-9223372036854775808≤x∧x≤9223372036854775807:=h.2.2
theorem H9 {S T:List D} {k i f to was e:Int} (h:VZ S k i f to T was e) (e0:e=0):(1≤k∧k≤16)∧zJ S k i f=true∧qF k f to∧was=qc S k i f∧j4 S k i f to T:=by
 obtain ⟨h1,h2,h3⟩:=h
 obtain ⟨a,b⟩:=h2 e0
 rcases h1 with ⟨_,h⟩ | ⟨hk,⟨_,h⟩ | ⟨hh,⟨_,h⟩ | ⟨hf,_⟩⟩⟩
 · omega
 · omega
 · omega
 · exact ⟨hk,hh,hf,a,b⟩
theorem H8 {S T:List D} {k i f to was e:Int} (h:VZ S k i f to T was e) (hk:1≤k∧k≤16) (hh:zJ S k i f=true) (hf:qF k f to):e=0:=by
 obtain ⟨h1,_⟩:=h
 rcases h1 with ⟨a,_⟩ | ⟨_,⟨a,_⟩ | ⟨_,⟨a,_⟩ | ⟨_,h⟩⟩⟩
 · omega
 · rw [hh] at a;cases a
 · exact (a hf).elim
 · exact h
section
variable {S T:List D} {k i f to was:Int} {env:List D} (hS:St S) (hT:St T) (hE:env.length=574) (a0:At env 0 S) (af:At env 281 [.i k,.i i,.i f,.i to]) (aT:At env 287 (T++[.i was,.i 0]))
 (hk:1≤k∧k≤16) (hh:zJ S k i f=true) (hf:qF k f to) (hw:was=qc S k i f) (hR:j4 S k i f to T) (hs:Small S)
include hS hT hE a0 af aT hk hh hf hw hR hs
theorem Sz:Dy.vc JI env:=by
 have fw:qF k f was:=by rw [hw];exact hs.val k i f hk.1 hk.2 hh
 have r:=Nj fw
 have Nl:(v 568).den JI env=some (.i was):=aT.v (i:=281) (by rw [List.getElem?_append_right (by rw [hT.len];omega),hT.len];rfl) rfl
 have Ur:(v 281).den JI env=some (.i k):=af.v (i:=0) rfl rfl
 have Un:(v 282).den JI env=some (.i i):=af.v (i:=1) rfl rfl
 have Um:(v 283).den JI env=some (.i f):=af.v (i:=2) rfl rfl
 refine ⟨G5 Nl r.1 r.2,rP fun ds hds h29=>?_⟩
 obtain ⟨U,m,e3,hU,rfl⟩:=JQ hds
 have hU:St U:=⟨hU⟩
 have aT1:At env 287 T:=by
   obtain ⟨p,r,e,hp⟩:=aT
   exact ⟨p,[.i was,.i 0]++r,by rw [e];simp,hp⟩
 have aU:At (env++(U++[.i m,.i e3])) 574 (U++[.i m,.i e3]):=by rw [←hE];exact At.new _ _
 have hP:VZ T k i f was U m e3:=by
   obtain ⟨x,q1,q2⟩:=h29
   rw [(aT1.more _).qg hT.len] at q1
   simp only [qg,zL Ur,zL Un,zL Um,zL Nl,aU.qg (show (U++[D.i m,.i e3]).length=283 by simp [hU.len]),Option.map_some,Option.some.injEq,List.append_nil] at q1
   subst q1
   have:=(p29 (k:=k) (i:=i) (f:=f) (to:=was) hT hU.len (was:=m) (e:=e3)).1 (by simpa using q2)
   exact this
 have e0:=H8 hP hk (by rw [hR.shape.has];exact hh) fw
 subst e0
 obtain ⟨_,_,_,hm,hR2⟩:=H9 hP rfl
 have em:m=to:=by rw [hm,(hR.ge k i f hk.1 hk.2 hh).1 ⟨rfl,rfl,rfl⟩]
 subst em
 have bk:=Mq hR (by rw [←hw];exact hR2)
 generalize hen:env++(U++[D.i m,.i 0])=kH at *
 have h0:At kH 0 S:=by rw [←hen];exact a0.more _
 have hfa:At kH 281 [.i k,.i i,.i f,.i m]:=by rw [←hen];exact af.more _
 have qzY:(v 856).den JI kH=some (.i 0):=aU.v (i:=282) (by rw [List.getElem?_append_right (by rw [hU.len];omega),hU.len];rfl) rfl
 have qzX:(v 855).den JI kH=some (.i m):=aU.v (i:=281) (by rw [List.getElem?_append_right (by rw [hU.len];omega),hU.len];rfl) rfl
 have Nu:(v 284).den JI kH=some (.i m):=hfa.v (i:=3) rfl rfl
 have hl2:kH.length=857:=by rw [←hen];simp [hE,hU.len]
 refine jM qzY dl (fun _=>jM qzX Nu (fun _=>?_) fun x=>(x rfl).elim) fun x=>(x rfl).elim
 have aU1:At kH 574 U:=by
   obtain ⟨p,r,e,hp⟩:=aU
   exact ⟨p,[.i m,.i 0]++r,by rw [e];simp,hp⟩
 refine ⟨⟨U,by rw [aU1.qg hU.len];simp [qg],(p31 hU).2 hR2.sm⟩,fun q h41=>?_⟩
 have a3:At (kH++[.i q]) 857 [.i q]:=by rw [←hl2];exact At.new _ _
 have O5:(v 857).den JI (kH++[.i q])=some (.i q):=a3.v (i:=0) rfl rfl
 have hq:q≠0:=by
   obtain ⟨x,q1,q2⟩:=h41
   rw [(aU1.more _).qg hU.len,(h0.more _).qg hS.len] at q1
   simp only [qg,O5,Option.map_some,Option.some.injEq] at q1
   subst q1
   refine (p41 hU hS).1 q2 |>.2 ⟨⟨Qi bk.1,?_⟩,YX bk.1 bk.2⟩
   have r1:=hR.ru
   have r2:=hR2.ru
   rw [r2.1,r1.1,r2.2,r1.2];exact tK
 exact mX O5 (fun _=>trivial) fun e=>(hq e).elim
end
section
variable {S T:List D} {k i f to was:Int} (hS:St S) (hT:St T)
 (hk:1≤k∧k≤16) (hh:zJ S k i f=true) (hf:qF k f to) (hw:was=qc S k i f) (hR:j4 S k i f to T) (hs:Small S)
include hS hT hk hh hf hw hR hs
theorem Uh {env:List D} (hE:env.length=571) (a0:At env 0 S) (af:At env 281 [.i k,.i i,.i f,.i to]) (aT:At env 287 (T++[.i was,.i 0])):O4.vc JI env:=by
 have aT1:At env 287 T:=by
   obtain ⟨p,r,e,hp⟩:=aT
   exact ⟨p,[.i was,.i 0]++r,by rw [e];simp,hp⟩
 refine ⟨⟨T,by rw [aT1.qg hT.len];simp [qg],(p31 hT).2 hR.sm⟩,fun F n e2 h40=>?_⟩
 have e1:env++[D.t F]++[.i n]++[.i e2]=env++[.t F,.i n,.i e2]:=by simp
 rw [e1] at h40 ⊢
 have aF:At (env++[.t F,.i n,.i e2]) 571 [.t F,.i n,.i e2]:=by rw [←hE];exact At.new _ _
 have b0:=a0.more [.t F,.i n,.i e2]
 have bf:=af.more [.t F,.i n,.i e2]
 have bT:=aT.more [.t F,.i n,.i e2]
 have bT1:=aT1.more [.t F,.i n,.i e2]
 have hE2:(env++[D.t F,.i n,.i e2]).length=574:=by simp [hE]
 generalize env++[D.t F,.i n,.i e2]=kH at *
 have d1:(v 571).den JI kH=some (.t F):=aF.v (i:=0) rfl rfl
 have d2:(v 572).den JI kH=some (.i n):=aF.v (i:=1) rfl rfl
 have d3:(v 573).den JI kH=some (.i e2):=aF.v (i:=2) rfl rfl
 have Ur:(v 281).den JI kH=some (.i k):=bf.v (i:=0) rfl rfl
 have Un:(v 282).den JI kH=some (.i i):=bf.v (i:=1) rfl rfl
 have Um:(v 283).den JI kH=some (.i f):=bf.v (i:=2) rfl rfl
 have Nu:(v 284).den JI kH=some (.i to):=bf.v (i:=3) rfl rfl
 have Nl:(v 568).den JI kH=some (.i was):=bT.v (i:=281) (by rw [List.getElem?_append_right (by rw [hT.len];omega),hT.len];rfl) rfl
 have h40:0≤n∧(e2=0∧okD S T∧z8 F n=pY (wP S) (wP T)∨e2=6∧n=0∧¬okD S T):=by
   obtain ⟨x,q1,q2⟩:=h40
   rw [b0.qg hS.len,bT1.qg hT.len] at q1
   simp only [qg,d1,d2,d3,Option.map_some,Option.some.injEq] at q1
   subst q1
   exact (p40 hS hT).1 q2
 obtain ⟨n0',hd⟩:=h40
 have hd:e2=0∧z8 F n=if was=to then [] else [(k,i,f,to)]:=by
   rcases hd with ⟨a,_,b⟩ | ⟨_,_,c⟩
   · exact ⟨a,by rw [b,PV hR hk hh,hw]⟩
   · exact (c (PX hR)).elim
 obtain ⟨rfl,hrow⟩:=hd
 have hlen:n.toNat=(if was=to then [] else [(k,i,f,to)]:List Pl).length:=by rw [←hrow,jv]
 have B:=Sz hS hT hE2 b0 bf bT hk hh hf hw hR hs
 have c0:(E.bin .eq (v 568) (v 284)).den JI kH=some (.i (if was=to then 1 else 0)):=by simp only [E.den,Nl,Nu,BO.ev]
 refine mX (MS d3) (fun e=>by simp at e) fun _=>?_
 by_cases hwt:was=to
 · rw [if_pos hwt] at hlen
   have en:n=0:=by simp at hlen;omega
   subst en
   refine yD dl d2 (fun e=>by omega) fun _=>jM d2 dl (fun _=>?_) fun e=>(e rfl).elim
   refine mX (Wm c0) (fun e=>by simp [hwt] at e) fun _=>jM d2 dl (fun e=>by omega) fun _=>B
 · rw [if_neg hwt] at hlen hrow
   have en:n=1:=by simp at hlen;omega
   subst en
   have hr0:F 0 0=k∧F 0 1=i∧F 0 2=f∧F 0 3=to:=by
     have:z8 F 1=[(F 0 0,F 0 1,F 0 2,F 0 3)]:=by simp [z8]
     rw [this] at hrow
     simpa using hrow
   refine yD dl d2 (fun e=>by omega) fun _=>jM d2 dl (fun e=>by omega) fun _=>jM d2 dl (fun _=>?_) fun e=>(e rfl).elim
   refine jM Nl Nu (fun e=>(hwt e).elim) fun _=>⟨oQ dl d2 (by omega),?_⟩
   have fd:∀(c:Nat) (e:E) (x:Int),e.den JI kH=some (.i x)→F 0 c=x→(iM c e).den JI kH=some (.i 1):=fun c e x he hx=>by
     have s:=YW (c:=c) d1 (dl (n:=0))
     unfold iM
     rw [E.den,show n0 0=E.lit 0 from rfl,s,he]
     show some (D.i (if F 0 c=x then 1 else 0))=_
     rw [if_pos hx]
   have cc:Gp.den JI kH=some (.i 0):=by
     have:=Wm (Z7 (fd 0 _ k Ur hr0.1) (Z7 (fd 1 _ i Un hr0.2.1) (Z7 (fd 2 _ f Um hr0.2.2.1) (Z7 (fd 3 _ to Nu hr0.2.2.2) (dl (n:=1))))))
     have this:=this
     unfold Gp
     exact this
   exact mX cc (fun e=>(e rfl).elim) fun _=>B
end
theorem p58 {S:List D} (h:St S):JI.pr 58 (S++[])↔Typed S:=by simp [JI,gF,←h.len]
theorem p59 {S:List D} (h:St S) {r:Int}:JI.pr 59 (S++[.i r])↔(r=0→Small S):=by simp [JI,gF,←h.len]
theorem Ez:∀env,Sorts Ul.sorts env→UC.vc JI env:=by
 intro env h
 obtain ⟨S,k,i,f,to,hS,rfl⟩:=eB (l:=[]) h
 intro _ hr0 r Uz
 have l0:=hS.len
 have hto:to'.den JI (S++[.i k,.i i,.i f,.i to])=some (.i to):=by
   show (S++_)[284]?=_
   rw [hS.r 284 (by omega)];rfl
 have hr:-9223372036854775808≤to∧to≤9223372036854775807:=by
   obtain ⟨n,e1,e2,e3⟩:=hr0
   rw [hto] at e1
   cases e1
   exact ⟨e2,e3⟩
 have e1:S++[D.i k,.i i,.i f,.i to]++[.i r]=S++[.i k,.i i,.i f,.i to,.i r]:=by simp
 rw [e1] at Uz ⊢
 have a0:At (S++[.i k,.i i,.i f,.i to,.i r]) 0 S:=⟨[],_,rfl,rfl⟩
 have af:At (S++[.i k,.i i,.i f,.i to,.i r]) 281 [.i k,.i i,.i f,.i to]:=⟨S,[.i r],by simp,l0⟩
 have hr1:(v 285).den JI (S++[.i k,.i i,.i f,.i to,.i r])=some (.i r):=by
   show (S++_)[285]?=_
   rw [hS.r 285 (by omega)];rfl
 have hL:(S++[D.i k,.i i,.i f,.i to,.i r]).length=286:=by simp [l0]
 have h59:r=0→Small S:=by
   obtain ⟨x,q1,q2⟩:=Uz
   rw [a0.qg l0] at q1
   simp only [qg,hr1,Option.map_some,Option.some.injEq] at q1
   subst q1
   exact (p59 hS).1 q2
 clear hto hr0 Uz
 generalize S++[D.i k,.i i,.i f,.i to,.i r]=env at *
 refine mX hr1 (fun _=>trivial) fun e0=>?_
 have hs:=h59 e0
 refine ⟨⟨S,by rw [a0.qg l0];simp [qg],(p31 hS).2 hs⟩,fun g h50=>?_⟩
 have aG:At (env++[.t g]) 286 [.t g]:=by rw [←hL];exact At.new _ _
 have b0:=a0.more [.t g]
 have bf:=af.more [.t g]
 have dg:(v 286).den JI (env++[.t g])=some (.t g):=aG.v (i:=0) rfl rfl
 have hL:(env++[D.t g]).length=287:=by simp [hL]
 have hz:jo (gt S 32) (gi S 33) g:=by
   have hE0:En0 S (env++[.t g]):=⟨hS,hs,by obtain ⟨p,r,e,hp⟩:=b0;obtain rfl:p=[]:=List.length_eq_zero_iff.1 hp;exact ⟨r,e⟩⟩
   exact aO hE0 dg h50
 generalize env++[.t g]=kH at *
 refine rP fun ds hds h29=>?_
 obtain ⟨T,was,e,hT,rfl⟩:=JQ hds
 have hT:St T:=⟨hT⟩
 have aT:At (kH++(T++[.i was,.i e])) 287 (T++[.i was,.i e]):=by rw [←hL];exact At.new _ _
 have c0:=b0.more (T++[.i was,.i e])
 have cf:=bf.more (T++[.i was,.i e])
 have dg:=zL (xs:=T++[.i was,.i e]) dg
 have hL:(kH++(T++[D.i was,.i e])).length=570:=by simp [hL,hT.len]
 have c4:At (kH++(T++[.i was,.i e])) 0 (S++[.i k,.i i,.i f,.i to]):=by
   obtain ⟨p,r,e1,hp⟩:=c0
   obtain ⟨p2,r2,e2,hp2⟩:=cf
   obtain rfl:p=[]:=List.length_eq_zero_iff.1 hp
   rw [e1,List.nil_append] at e2
   obtain ⟨x1,x2⟩:=List.append_inj e2 (by rw [l0,hp2])
   exact ⟨[],r2,by rw [e1,x2];simp,rfl⟩
 generalize kH++(T++[.i was,.i e])=Nb at *
 have hP:VZ S k i f to T was e:=by
   obtain ⟨x,q1,q2⟩:=h29
   rw [c4.qg (by simp [l0]),aT.qg (by simp [hT.len])] at q1
   simp only [qg,Option.map_some,Option.some.injEq,List.append_nil] at q1
   subst q1
   exact (p29 hS hT.len).1 q2
 have cp:=FQ hS hz
 have hW:=hS.set (g:=g)
 refine ⟨⟨_,by rw [Kw c0 hS dg];simp [qg],(p31 hW).2 ?_⟩,fun q h41=>?_⟩
 · have hEq:Eqv S (S.set 32 (.t g)) 32:=Ub hS.len
   refine YJ hs hEq ⟨by omega,by omega,by omega,by omega,by omega,by omega,by omega,by omega,by omega,by omega,by omega,by omega,fun j=>by omega⟩ (mW hz (by rw [yj (by rw [hS.len];omega),if_pos rfl])) fun k i f a b c=>?_
   rw [cp.2.1 k i f a b c];exact hs.val k i f a b c
 have aq:At (Nb++[.i q]) 570 [.i q]:=by rw [←hL];exact At.new _ _
 have d0:=c0.more [.i q]
 have df:=cf.more [.i q]
 have dT:=aT.more [.i q]
 have dg:=zL (xs:=[.i q]) dg
 have dq:(v 570).den JI (Nb++[.i q])=some (.i q):=aq.v (i:=0) rfl rfl
 have hL:(Nb++[D.i q]).length=571:=by simp [hL]
 generalize Nb++[.i q]=qzW at *
 have hq:q≠0:=by
   obtain ⟨x,q1,q2⟩:=h41
   rw [d0.qg l0,Kw d0 hS dg] at q1
   simp only [qg,dq,Option.map_some,Option.some.injEq] at q1
   subst q1
   exact (p41 hS hW).1 q2 |>.2 ⟨cp.2.2,YX cp.1 cp.2.1⟩
 refine jM dq dl (fun e=>(hq e).elim) fun _=>?_
 have de:(v 569).den JI qzW=some (.i e):=dT.v (i:=282) (by rw [List.getElem?_append_right (by rw [hT.len];omega),hT.len];rfl) rfl
 refine mX (MS de) (fun _=>trivial) fun h=>?_
 have e0:e=0:=by
   by_cases c:e=0
   · exact c
   · rw [if_neg c] at h;omega
 subst e0
 obtain ⟨hk,hh,hf,hw,hR⟩:=H9 hP rfl
 exact Uh hS hT hk hh hf hw hR hs hL d0 df dT
end Go.Sp
noncomputable section
set_option linter.unusedSimpArgs false
namespace Go.Sp
open Go Go.Sx
theorem p60 {f:Int→Nat→Int} {n:Int}:JI.pr 60 [.t f,.i n]↔∀r:Int,0≤r→r<n→llen (f r 1) 2≤20:=Iff.rfl
set_option maxRecDepth 100000 in
set_option maxHeartbeats 4000000 in
theorem TF:∀env,Sorts Yf.sorts env→Vt.vc JI env:=by
 intro env h
 have hS:St env:=⟨h⟩
 rw [←List.append_nil env]
 generalize env=S at *
 simp (disch:=first | decide | omega) only [Vt,Tree.vc,E.den,BO.ev,hS.i,hS.t,hS.r,qg,Option.some.injEq,exists_eq_left',List.take_succ_cons,List.take_zero,List.cons_append,List.nil_append,D.i.injEq,D.t.injEq,forall_eq',and_true,bM,bH,
   Nat.reduceSub,List.getElem?_cons_zero,List.getElem?_cons_succ,vI,fA,xk,kJ,nX,nV,wN,yE,wM,vJ,gY,fI,List.append_assoc,q0 hS,q1 hS,q2 hS,q3 hS,p31 hS,p31' hS,p50,JG]
 clear h
 intro hs
 have b:=lZ hs
 have:=hs.a1;have:=hs.a3;have:=hs.a5;have:=hs.a7;have:=hs.a24;have:=hs.a26;have:=hs.a31;have:=hs.a33;have:=hs.a36;have:=hs.a38;have:=hs.a40
 have cl:=hs.cut
 rw [aR,imax]
 refine ⟨by omega,by omega,by omega,by omega,by omega,by omega,by omega,by omega,by omega,mK,fun i g i0 i1 hg=>⟨fun hl=>?_,fun _=>?_⟩⟩
 · have a:=cl i i0 hl
   have e:=(hg i i0 hl).2.1
   exact ⟨by omega,by omega,⟨by omega,by omega⟩,by omega,by omega,ou hg i0 hl,by omega,by omega⟩
 · clear cl
   have b0:=b 0 (by omega);have b1:=b 1 (by omega);have b2:=b 2 (by omega);have b3:=b 3 (by omega)
   have b4:=b 4 (by omega);have b5:=b 5 (by omega);have b6:=b 6 (by omega);have b7:=b 7 (by omega)
   have b8:=b 8 (by omega);have b9:=b 9 (by omega);have b10:=b 10 (by omega);have b11:=b 11 (by omega)
   have b12:=b 12 (by omega);have b13:=b 13 (by omega);have b14:=b 14 (by omega);have b15:=b 15 (by omega)
   simp only [Nat.reduceMul,Nat.reduceAdd] at b0 b1 b2 b3 b4 b5 b6 b7 b8 b9 b10 b11 b12 b13 b14 b15
   clear b
   refine ⟨by omega,by omega,by omega,by omega,by omega,by omega,by omega,by omega,by omega,by omega,by omega,by omega,by omega,by omega,by omega,by omega,by omega,by omega,by omega,by omega,by omega,by omega,by omega,by omega,by omega,by omega,by omega,by omega,by omega,by omega,by omega,by omega,by omega,by omega,by omega,by omega,by omega,by omega,by omega,by omega,by omega,by omega,by omega,by omega,by omega,by omega,by omega,by omega,by omega,by omega,by omega⟩
theorem Aq {S:List D} (h:Typed S) (b:∀j:Nat,j<16→gi S (49+15*j)≤600∧gi S (52+15*j)≤600∧gi S (54+15*j)≤600):∀j,j<16→0≤gi S (49+15*j)∧gi S (49+15*j)≤600∧0≤gi S (52+15*j)∧gi S (52+15*j)≤600∧0≤gi S (54+15*j)∧gi S (54+15*j)≤600:=fun j hj=>by
 have a:=h.ar j hj
 have c:=b j hj
 omega
theorem nx {c R Q:Prop} (h:¬c→Q):(c→(1:Int)=0→R)∧(¬c→Q):=⟨fun _ e=>by omega,h⟩
set_option maxRecDepth 100000 in
set_option maxHeartbeats 4000000 in
theorem Ey:∀env,Sorts R9.sorts env→Cw.vc JI env:=by
 intro env h
 have hS:St env:=⟨h⟩
 rw [←List.append_nil env]
 generalize env=S at *
 simp (disch:=first | decide | omega) only [Cw,Tree.vc,E.den,BO.ev,hS.i,hS.t,hS.r,qg,Option.some.injEq,exists_eq_left',List.take_succ_cons,List.take_zero,List.cons_append,List.nil_append,D.i.injEq,D.t.injEq,forall_eq',and_true,bM,bH,
   Nat.reduceSub,List.getElem?_cons_zero,List.getElem?_cons_succ,vI,fA,xk,kJ,nX,nV,wN,yE,wM,vJ,gY,fI,List.append_assoc,q0 hS,q1 hS,q2 hS,q3 hS,p58 hS,p59 hS,p60,JG]
 intro ht
 obtain ⟨l1,l3,l5,l7,l24,l26,l31,l33,l36,l38,l40⟩:=ht.ln
 refine nx fun h5=>?_
 refine nx fun h1=>?_
 refine nx fun h3=>?_
 refine nx fun h24=>?_
 refine nx fun h26=>?_
 refine nx fun h31=>?_
 refine nx fun h33=>?_
 refine nx fun h36=>?_
 refine nx fun h38=>?_
 refine nx fun h40=>?_
 refine nx fun h7=>?_
 refine ⟨by omega,fun r a b=>by omega,fun n n0 n1 hn=>⟨fun hl=>nx fun hc=>⟨⟨by rw [aR];omega,by rw [imax];omega⟩,by omega,by omega,fun r r0 r1=>?_,by omega,by omega⟩,fun hl=>?_⟩⟩
 · by_cases e:r=n
   · subst e;omega
   · exact hn r r0 (by omega)
 refine nx fun g49=>?_
 refine nx fun g52=>?_
 refine nx fun g54=>?_
 refine nx fun g64=>?_
 refine nx fun g67=>?_
 refine nx fun g69=>?_
 refine nx fun g79=>?_
 refine nx fun g82=>?_
 refine nx fun g84=>?_
 refine nx fun g94=>?_
 refine nx fun g97=>?_
 refine nx fun g99=>?_
 refine nx fun qzZ=>?_
 refine nx fun qzQ=>?_
 refine nx fun qze=>?_
 refine nx fun qza=>?_
 refine nx fun qzo=>?_
 refine nx fun qzi=>?_
 refine nx fun qzu=>?_
 refine nx fun qzl=>?_
 refine nx fun qzc=>?_
 refine nx fun qzt=>?_
 refine nx fun qzs=>?_
 refine nx fun qzr=>?_
 refine nx fun qzp=>?_
 refine nx fun qzn=>?_
 refine nx fun qzm=>?_
 refine nx fun qzh=>?_
 refine nx fun qzf=>?_
 refine nx fun qzd=>?_
 refine nx fun qzb=>?_
 refine nx fun qzg=>?_
 refine nx fun qzv=>?_
 refine nx fun qzx=>?_
 refine nx fun qzy=>?_
 refine nx fun qzw=>?_
 refine nx fun qzk=>?_
 refine nx fun qzj=>?_
 refine nx fun qzz=>?_
 refine nx fun qzq=>?_
 refine nx fun qq9=>?_
 refine nx fun qq8=>?_
 refine nx fun qq7=>?_
 refine nx fun qq6=>?_
 refine nx fun qq5=>?_
 refine nx fun qq4=>?_
 refine nx fun qq2=>?_
 refine nx fun qq1=>?_
 intro _
 have en:n=gi S 33:=by omega
 subst en
 exact { a1:=by omega,a3:=by omega,a5:=by omega,a7:=by omega,a24:=by omega,a26:=by omega,a31:=by omega,a33:=by omega,a36:=by omega,a38:=by omega,a40:=by omega
         cut:=hn
         ar:=Aq ht fun j hj=>by
           clear hn h1 h3 h5 h7
           have e:j=0∨j=1∨j=2∨j=3∨j=4∨j=5∨j=6∨j=7∨j=8∨j=9∨j=10∨j=11∨j=12∨j=13∨j=14∨j=15:=by omega
           rcases e with rfl | rfl | rfl | rfl | rfl | rfl | rfl | rfl | rfl | rfl | rfl | rfl | rfl | rfl | rfl | rfl
           · exact ⟨Int.not_lt.1 g49,Int.not_lt.1 g52,Int.not_lt.1 g54⟩
           · exact ⟨Int.not_lt.1 g64,Int.not_lt.1 g67,Int.not_lt.1 g69⟩
           · exact ⟨Int.not_lt.1 g79,Int.not_lt.1 g82,Int.not_lt.1 g84⟩
           · exact ⟨Int.not_lt.1 g94,Int.not_lt.1 g97,Int.not_lt.1 g99⟩
           · exact ⟨Int.not_lt.1 qzZ,Int.not_lt.1 qzQ,Int.not_lt.1 qze⟩
           · exact ⟨Int.not_lt.1 qza,Int.not_lt.1 qzo,Int.not_lt.1 qzi⟩
           · exact ⟨Int.not_lt.1 qzu,Int.not_lt.1 qzl,Int.not_lt.1 qzc⟩
           · exact ⟨Int.not_lt.1 qzt,Int.not_lt.1 qzs,Int.not_lt.1 qzr⟩
           · exact ⟨Int.not_lt.1 qzp,Int.not_lt.1 qzn,Int.not_lt.1 qzm⟩
           · exact ⟨Int.not_lt.1 qzh,Int.not_lt.1 qzf,Int.not_lt.1 qzd⟩
           · exact ⟨Int.not_lt.1 qzb,Int.not_lt.1 qzg,Int.not_lt.1 qzv⟩
           · exact ⟨Int.not_lt.1 qzx,Int.not_lt.1 qzy,Int.not_lt.1 qzw⟩
           · exact ⟨Int.not_lt.1 qzk,Int.not_lt.1 qzj,Int.not_lt.1 qzz⟩
           · exact ⟨Int.not_lt.1 qzq,Int.not_lt.1 qq9,Int.not_lt.1 qq8⟩
           · exact ⟨Int.not_lt.1 qq7,Int.not_lt.1 qq6,Int.not_lt.1 qq5⟩
           · exact ⟨Int.not_lt.1 qq4,Int.not_lt.1 qq2,Int.not_lt.1 qq1⟩
         val:=ht.val }
end Go.Sp
end
