/-
  The formula of Put: what the parts of the tree ask. Conditions: none.
-/
import Derived.Test.YtmjjjhinedogjaaGreatDoorC1
import Derived.Test.YtmjjjhinedogjaaGreatDoorC2
noncomputable section
set_option linter.unusedSimpArgs false
namespace Go.Sp
open Go Go.Sx
variable {S:List D} {k i f to:Int}
structure En (S:List D) (k i f to:Int) (n:Nat) (env:List D):Prop where
 st:St S
 sm:Small S
 rg:-9223372036854775808<=to/\to<=9223372036854775807
 pre:∃r,env=S ++ .i k :: .i i :: .i f :: .i to::r
 len:env.length=n
section
variable {n:Nat} {env:List D} (h:En S k i f to n env)
include h
theorem En.more (xs:List D) {m:Nat} (hm:m=n+xs.length):En S k i f to m (env++xs):=by
 obtain ⟨r,e⟩:=h.pre;exact ⟨h.st,h.sm,h.rg,⟨r++xs,by rw [e];simp⟩,by rw [List.length_append,h.len,hm]⟩
theorem En.gI {m:Nat} (hm:stS[m]?=some false):(E.var m).den JI env=some (.i (gi S m)):=by
 obtain ⟨r,e⟩:=h.pre;show env[m]?=_;rw [e];exact h.st.i m hm
theorem En.gT {m:Nat} (hm:stS[m]?=some true):(E.var m).den JI env=some (.t (gt S m)):=by
 obtain ⟨r,e⟩:=h.pre;show env[m]?=_;rw [e];exact h.st.t m hm
theorem En.dk:k'.den JI env=some (.i k):=by
 obtain ⟨r,e⟩:=h.pre;show env[281]?=_;rw [e,h.st.r 281 (by omega)];rfl
theorem En.di:i'.den JI env=some (.i i):=by
 obtain ⟨r,e⟩:=h.pre;show env[282]?=_;rw [e,h.st.r 282 (by omega)];rfl
theorem En.df:f'.den JI env=some (.i f):=by
 obtain ⟨r,e⟩:=h.pre;show env[283]?=_;rw [e,h.st.r 283 (by omega)];rfl
theorem En.dto:to'.den JI env=some (.i to):=by
 obtain ⟨r,e⟩:=h.pre;show env[284]?=_;rw [e,h.st.r 284 (by omega)];rfl
theorem En.last (d:D):(E.var n).den JI (env++[d])=some d:=by
 show (env++[d])[n]?=_;rw [List.getElem?_append_right (by rw [h.len];omega),h.len];simp
theorem En.all:qg JI env (Go.Sp.rg 0 281)=some S:=by
 obtain ⟨r,e⟩:=h.pre;rw [tX (by rw [e];simp [h.st.len]),e,List.drop_zero,List.take_append_of_le_length (by rw [h.st.len];omega),List.take_of_length_le (by rw [h.st.len];omega)]
end
theorem jf {e:E} {env xs:List D} {d:D} (h:e.den JI env=some d):e.den JI (env++xs)=some d:=E.zT h
theorem kP {I:Itp} {env:List D} {e:E} {d:D} (he:e.den I env=some d):∀{l:List E} {ds:List D} {c:Nat},qg I env l=some ds->qg I env (l.set c e)=some (ds.set c d)
 | [],ds,c,h=>by simp only [qg,Option.some.injEq] at h;subst h;simp [qg]
 | a::l,ds,c,h=>by
   simp only [qg] at h;split at h
   . rename_i x xs h1 h2;cases h;cases c with
     | zero=>simp only [List.set_cons_zero,qg,he,h2]
     | succ c=>simp only [List.set_cons_succ,qg,h1,kP he h2]
   . cases h
theorem p29 (h:St S) {T:List D} (hT:T.length=281) {was e:Int}:JI.pr 29 ((S++[.i k,.i i,.i f,.i to])++(T++[D.i was,D.i e]))↔CB S k i f to T was e:=by
 have e1:((S++[D.i k,.i i,.i f,.i to])++(T++[D.i was,D.i e])).take 281=S:=by
   rw [List.append_assoc,List.take_append_of_le_length (by rw [h.len];omega),List.take_of_length_le (by rw [h.len];omega)]
 have e2:(((S++[D.i k,.i i,.i f,.i to])++(T++[D.i was,D.i e])).drop 281).take 4=[.i k,.i i,.i f,.i to]:=by
   rw [List.append_assoc,List.drop_append_of_le_length (by rw [h.len];omega),List.drop_of_length_le (by rw [h.len];omega)];rfl
 have e3:((S++[D.i k,.i i,.i f,.i to])++(T++[D.i was,D.i e])).drop 285=T++[.i was,.i e]:=by
   rw [List.drop_append_of_le_length (by simp [h.len]),List.drop_of_length_le (by simp [h.len]),List.nil_append]
 have e4:((S++[D.i k,.i i,.i f,.i to])++(T++[D.i was,D.i e])).drop 566=[.i was,.i e]:=by
   rw [show 566=285+281 by rfl,<-List.drop_drop,e3,List.drop_append_of_le_length (by omega),List.drop_of_length_le (by omega),List.nil_append]
 have e5:(T++[D.i was,.i e]).take 281=T:=by rw [List.take_append_of_le_length (by omega),List.take_of_length_le (by omega)]
 show dW 29 _↔_;simp only [dW,e1,e2,e3,e4,e5]
theorem Df {n:Nat} {env:List D} (h:En S k i f to n env) {l:List E} {T:List D} {kE w e:E} {was x:Int} (hk:kE.den JI env=some (.i k)) (hl:qg JI env l=some T) (hT:T.length=281) (hw:w.den JI env=some (.i was)) (he:e.den JI env=some (.i x)) (hp:CB S k i f to T was x) :
   (PE.pr 29 (tJ kE (l++[w,e]))).den JI env:=by
 refine ⟨(S++[.i k,.i i,.i f,.i to])++(T++[.i was,.i x]),?_,(p29 h.st hT).2 hp⟩
 have e1:qg JI env (l++[w,e])=some (T++[.i was,.i x]):=by
   rw [jL,hl];simp [qg,hw,he]
 unfold tJ;rw [rgs,jL,h.all];simp only [qg,hk,h.di,h.df,h.dto,e1,Option.map_some,Option.bind_some,List.append_assoc,List.cons_append,List.nil_append]
theorem BZ {env:List D}:qg JI env zeroV=some rz:=by
 have:∀l:List Bool,qg JI env (l.map fun b=>if b then E.zt else .lit 0)=some (l.map fun b=>if b then D.t fun _ _=>0 else .i 0):=by
   intro l
   induction l with
   | nil=>rfl
   | cons b l ih=>
     cases b <;> simp only [List.map_cons,qg,ih,if_true,Bool.false_eq_true,if_false] <;> rfl
 exact this stS
theorem Yc:rz.length=281:=by unfold rz;rw [List.length_map,ZE]
section
variable {env:List D} {a b:E} {x y:Int} {t u:Tree} (ha:a.den JI env=some (.i x)) (hb:b.den JI env=some (.i y))
include ha hb
theorem wU (h1:x<y->t.vc JI env) (h2:¬x<y->u.vc JI env):(br .lt a b t u).vc JI env:=
 gN (z:=if x<y then 1 else 0) (by simp only [E.den,ha,hb,BO.ev]) (fun h=>h1 (bE.1 h)) fun h=>h2 (gD.1 h)
theorem Zj (h1:x<=y->t.vc JI env) (h2:¬x<=y->u.vc JI env):(br .le a b t u).vc JI env:=
 gN (z:=if x<=y then 1 else 0) (by simp only [E.den,ha,hb,BO.ev]) (fun h=>h1 (bE.1 h)) fun h=>h2 (gD.1 h)
theorem jF (h1:x=y->t.vc JI env) (h2:¬x=y->u.vc JI env):(br .eq a b t u).vc JI env:=
 gN (z:=if x=y then 1 else 0) (by simp only [E.den,ha,hb,BO.ev]) (fun h=>h1 (bE.1 h)) fun h=>h2 (gD.1 h)
end
theorem dl {env:List D} {n:Int}:(E.lit n).den JI env=some (.i n):=rfl
theorem xU {env:List D} {e:E} {g:Nat->Tree} {last:Tree} {z:Int} (he:e.den JI env=some (.i z)) (h0:0<=z):∀{n:Nat},z<n->(∀j,j<n->z=j->(g j).vc JI env)->(chain e g last n).vc JI env
 | 0,h1,_=>by omega
 | n+1,h1,hg=>jF he dl (fun h=>hg n (by omega) h) fun h=>xU he h0 (by omega) fun j hj=>hg j (by omega)
section
variable {n:Nat} {env:List D} (h:En S k i f to n env)
include h
theorem Zr {kE:E} (hk:kE.den JI env=some (.i k)) {e:Int} (he:Pq S k i f to e) (h0:e≠0):(BG kE e).vc JI env:=
 ⟨Df h hk (l:=zeroV) BZ Yc dl dl ⟨he,fun x=>(h0 x).elim,fun _=>⟨rfl,rfl⟩⟩,trivial⟩
theorem aD {e:Int} (he:Pq S k i f to e) (h0:e≠0):(zer e).vc JI env:=Zr h h.dk he h0
theorem qjJ (hk:1<=k/\k<=16) (hh:zo S k i f=true->False):Pq S k i f to 4:=have _:=h;.inr ⟨hk,.inl ⟨by cases e:zo S k i f with | false=>rfl | true=>exact (hh e).elim,rfl⟩⟩
theorem KO (hk:1<=k/\k<=16) (hh:zo S k i f=true->False):(zer 4).vc JI env:=aD h (qjJ h hk hh) (by decide)
theorem FH (hk:k=9) (hh:zo S k i f=true->False):(Vz 4).vc JI env:=Zr h (by rw [hk];rfl) (qjJ h (by omega) hh) (by decide)
theorem Cy (hk:1<=k/\k<=16) (hh:zo S k i f=true) (hf:¬qM k f to):(zer 7).vc JI env:=
 aD h (.inr ⟨hk,.inr ⟨hh,.inl ⟨hf,rfl⟩⟩⟩) (by decide)
theorem jA (h1:¬(k=3/\f<64)) (h2:¬(k=6/\f=4\/k=11/\f=1\/k=12/\f=7)):qM k f to:=⟨fun x=>(h1 x).elim,fun x=>(h2 x).elim,h.rg⟩
theorem Kl (h1:k≠3) (h2:0<=to/\to<=1):qM k f to:=⟨fun x=>(h1 x.1).elim,fun _=>h2,h.rg⟩
variable {g:Int->Nat->Int} (hg:env[285]?=some (.t g))
include hg
theorem RN {c:Nat} {e w:E} {y was:Int} (he:e.den JI env=some (.i y)) (hw:w.den JI env=some (.i was)) (hk:1<=k/\k<=16) (hh:zo S k i f=true) (hf:qM k f to)
   (hs:was=qh S k i f) (hp:kD S k i f to (toI S g c y)):(Xk c e w).vc JI env:=
 ⟨Df h h.dk (kP he (kP (e:=.var 285) hg h.all)) (by simp [h.st.len]) hw dl ⟨.inr ⟨hk,.inr ⟨hh,.inr ⟨hf,rfl⟩⟩⟩,fun _=>⟨hs,hp⟩,fun x=>(x rfl).elim⟩,trivial⟩
theorem Jl {c:Nat} {e w:E} {y:Int->Nat->Int} {was:Int} (he:e.den JI env=some (.t y)) (hw:w.den JI env=some (.i was)) (hk:1<=k/\k<=16) (hh:zo S k i f=true) (hf:qM k f to)
   (hs:was=qh S k i f) (hp:kD S k i f to (toT S g c y)):(Xk c e w).vc JI env:=
 ⟨Df h h.dk (kP he (kP (e:=.var 285) hg h.all)) (by simp [h.st.len]) hw dl ⟨.inr ⟨hk,.inr ⟨hh,.inr ⟨hf,rfl⟩⟩⟩,fun _=>⟨hs,hp⟩,fun x=>(x rfl).elim⟩,trivial⟩
end
section
variable {n:Nat} {env:List D} (h:En S k i f to n env) (hk:1<=k/\k<=16)
include h hk
theorem gF {m:Nat} {g:Nat->Tree} (hF:qj S k i=m) (hv:∀j,j<m->f=j->(g j).vc JI env):(fld m g).vc JI env:=
 wU h.df dl (fun x=>KO h hk fun hh=>by have:=(qZ hh).2.2.1;omega) fun x=>
   Zj dl h.df (fun y=>KO h hk fun hh=>by have:=(qZ hh).2.2.2.1;omega) fun y=>xU h.df (by omega) (by omega) hv
theorem ZQ {t:Tree} (i0:0<=i) (hT:qz S k=1) (hv:i=0->t.vc JI env):(Xw t).vc JI env:=
 Zj dl h.di (fun x=>KO h hk fun hh=>by have:=(qZ hh).2.1;omega) fun x=>hv (by omega)
theorem nO {m:Nat} {t:Tree} (hm:stS[m]?=some false) (hT:qz S k=gi S m) (hv:i<gi S m->t.vc JI env):(oI m t).vc JI env:=
 Zj (h.gI hm) h.di (fun x=>KO h hk fun hh=>by have:=(qZ hh).2.1;omega) fun x=>hv (by omega)
theorem X5 {g:Nat->Tree} (i0:0<=i) (hT:qz S k=16) (hv:∀j:Nat,j<16->i=j->(g j).vc JI env):(arI g).vc JI env:=
 Zj dl h.di (fun x=>KO h hk fun hh=>by have:=(qZ hh).2.1;omega) fun x=>xU h.di i0 (by omega) hv
end
theorem yG (i0:0<=i) (i1:i<qz S k) (f0:0<=f) (f1:f<qj S k i) (h:k≠11\/f=0\/f=1/\i<gi S 38\/f=2/\i<gi S 40):zo S k i f=true:=decide_eq_true ⟨i0,i1,f0,f1,h⟩
end Go.Sp
noncomputable section
set_option linter.unusedSimpArgs false
namespace Go.Sp
open Go Go.Sx
variable {S:List D} {k i f to:Int}
section
variable {n:Nat} {env:List D} (h:En S k i f to n env) {g:Int->Nat->Int} (hg:env[285]?=some (.t g)) (hz:jq (gt S 32) (gi S 33) g)
include h hg hz
theorem Tc {t c:Nat} (ht:stS[t]?=some true) {r e:E} {x y:Int} (hr:r.den JI env=some (.i x)) (he:e.den JI env=some (.i y)):(E.upd (v t) r c e).den JI env=some (.t (qd (gt S t) x c y)):=by
 have _:=hg;have _:=hz;have:=h.gT ht;simp only [v,E.den] at this ⊢;simp only [this,hr,he]
theorem iZ {t c:Nat} (ht:stS[t]?=some true) {r:E} {x:Int} (hr:r.den JI env=some (.i x)):(E.sel (v t) r c).den JI env=some (.i (gt S t x c)):=by
 have _:=hg;have _:=hz;have:=h.gT ht;simp only [v,E.den] at this ⊢;simp only [this,hr]
theorem sH {c:Nat} (hc:stS[c]?=some false) (hk:1<=k/\k<=16) (hh:zo S k i f=true) (hf:qM k f to) (hs:gi S c=qh S k i f) (hp:kD S k i f to (toI S g c to)):(Kk c).vc JI env:=have _:=hz;
 RN h hg h.dto (h.gI hc) hk hh hf hs hp
theorem rU {t c:Nat} (ht:stS[t]?=some true) (hk:1<=k/\k<=16) (hh:zo S k i f=true) (hf:qM k f to) (hs:gt S t i c=qh S k i f) (hp:kD S k i f to (toT S g t (qd (gt S t) i c to))):(rowP t c).vc JI env:=
 Jl h hg (Tc h hg hz ht h.di h.dto) (iZ h hg hz ht h.di) hk hh hf hs hp
theorem EO:isT.den JI env=some (.i (if to=1 then 1 else 0)):=by
 have _:=hg;have _:=hz;have:=h.dto;simp only [isT,n0,E.den,BO.ev] at this ⊢;simp only [this]
theorem BP {c:Nat} {cell e:E} {x:Int} (hc:cell.den JI env=some (.i x)) (hk:1<=k/\k<=16) (hh:zo S k i f=true) (hb:k=6/\f=4\/k=11/\f=1\/k=12/\f=7) (hs:qh S k i f=tr x)
   (hl:∀w was,w.den JI env=some (.i was)->was=qh S k i f->qM k f to->(Xk c e w).vc JI env):(tru c cell e).vc JI env:=have _:=hg;have _:=hz;
 wU h.dto dl (fun y=>Cy h hk hh fun z=>by have:=(z.2.1 hb).1;omega) fun y=>wU dl h.dto (fun y=>Cy h hk hh fun z=>by have:=(z.2.1 hb).2;omega) fun z=>
   gN hc (fun hx=>hl _ _ dl (by rw [hs,tr,if_pos hx]) (Kl h (by omega) ⟨by omega,by omega⟩)) fun hx=>hl _ _ dl (by rw [hs,tr,if_neg (by omega)]) (Kl h (by omega) ⟨by omega,by omega⟩)
theorem k16 (e:k=16) (i0:0<=i):(Xw (fld 14 fun j=>Kk (8+j))).vc JI env:=by
 subst e;refine ZQ h (by decide) i0 rfl fun ei=>?_;subst ei;refine gF h (by decide) rfl fun j hj hf=>?_;subst hf;have hx:qM 16 (j:Int) to:=jA h (by omega) (by omega);refine sH h hg hz ?_ (by decide) (yG (by decide) (show (0:Int)<1 by decide) (by omega) (show (j:Int)<14 by omega) (.inl (by decide))) hx (by simp [qh]) (RP h.st h.sm hz hj hx);have:∀j,j<14->stS[8+j]?=some false:=by decide
 exact this j hj
theorem k5 (e:k=5) (i0:0<=i):(Xw (fld 1 fun _=>Kk 22)).vc JI env:=by
 subst e;refine ZQ h (by decide) i0 rfl fun ei=>?_;subst ei;refine gF h (by decide) rfl fun j hj hf=>?_;have:f=0:=by omega
 subst this;have hx:qM 5 0 to:=jA h (by omega) (by omega);exact sH h hg hz (by decide) (by decide) (yG (by decide) (show (0:Int)<1 by decide) (by omega) (show (0:Int)<1 by omega) (.inl (by decide))) hx (by simp [qh]) (qqO h.st h.sm hz hx)
theorem k10 (e:k=10) (i0:0<=i):(Xw (fld 1 fun _=>Kk 34)).vc JI env:=by
 subst e;refine ZQ h (by decide) i0 rfl fun ei=>?_;subst ei;refine gF h (by decide) rfl fun j hj hf=>?_;have:f=0:=by omega
 subst this;have hx:qM 10 0 to:=jA h (by omega) (by omega);exact sH h hg hz (by decide) (by decide) (yG (by decide) (show (0:Int)<1 by decide) (by omega) (show (0:Int)<1 by omega) (.inl (by decide))) hx (by simp [qh]) (Ih h.st h.sm hz hx)
theorem k7 (e:k=7) (i0:0<=i):(Xw (fld 3 fun j=>Kk (if j=2 then 28 else if j=1 then 29 else 27))).vc JI env:=by
 subst e;refine ZQ h (by decide) i0 rfl fun ei=>?_;subst ei;refine gF h (by decide) rfl fun j hj hf=>?_;have hx:qM 7 f to:=jA h (by omega) (by omega);have hh:zo S 7 0 f=true:=yG (by decide) (show (0:Int)<1 by decide) (by omega) (show f<3 by omega) (.inl (by decide));have e:j=0\/j=1\/j=2:=by omega
 rcases e with rfl | rfl | rfl
 . have:f=0:=by omega
   subst this;exact sH h hg hz (c:=27) (by decide) (by decide) hh hx (by simp [qh]) (CP h.st h.sm hz (.inl ⟨rfl,rfl⟩) hx)
 . have:f=1:=by omega
   subst this;exact sH h hg hz (c:=29) (by decide) (by decide) hh hx (by simp [qh]) (CP h.st h.sm hz (.inr (.inl ⟨rfl,rfl⟩)) hx)
 . have:f=2:=by omega
   subst this;exact sH h hg hz (c:=28) (by decide) (by decide) hh hx (by simp [qh]) (CP h.st h.sm hz (.inr (.inr ⟨rfl,rfl⟩)) hx)
theorem k1 (e:k=1) (i0:0<=i):(oI 1 (fld 3 (rowP 0))).vc JI env:=by
 subst e;refine nO h (by decide) (by decide) rfl fun i1=>gF h (by decide) rfl fun j hj hf=>?_;subst hf;have hx:qM 1 (j:Int) to:=jA h (by omega) (by omega);exact rU h hg hz (by decide) (by decide) (yG i0 i1 (by omega) (show (j:Int)<3 by omega) (.inl (by decide))) hx (by simp [qh]) (Iw h.st h.sm hz hj hx)
theorem k2 (e:k=2) (i0:0<=i):(oI 3 (fld 1 (rowP 2))).vc JI env:=by
 subst e;refine nO h (by decide) (by decide) rfl fun i1=>gF h (by decide) rfl fun j hj hf=>?_;have:j=0:=by omega
 subst this;have:f=0:=by omega
 subst this;have hx:qM 2 0 to:=jA h (by omega) (by omega);exact rU h hg hz (by decide) (by decide) (yG i0 i1 (by omega) (show (0:Int)<1 by omega) (.inl (by decide))) hx (by simp [qh]) (Ik h.st h.sm hz hx)
theorem k4 (e:k=4) (i0:0<=i):(oI 24 (fld 2 (rowP 23))).vc JI env:=by
 subst e;refine nO h (by decide) (by decide) rfl fun i1=>gF h (by decide) rfl fun j hj hf=>?_;subst hf;have hx:qM 4 (j:Int) to:=jA h (by omega) (by omega);exact rU h hg hz (by decide) (by decide) (yG i0 i1 (by omega) (show (j:Int)<2 by omega) (.inl (by decide))) hx (by simp [qh]) (Iq h.st h.sm hz hj hx)
theorem k8 (e:k=8) (i0:0<=i):(oI 31 (fld 2 (rowP 30))).vc JI env:=by
 subst e;refine nO h (by decide) (by decide) rfl fun i1=>gF h (by decide) rfl fun j hj hf=>?_;subst hf;have hx:qM 8 (j:Int) to:=jA h (by omega) (by omega);exact rU h hg hz (by decide) (by decide) (yG i0 i1 (by omega) (show (j:Int)<2 by omega) (.inl (by decide))) hx (by simp [qh]) (RH h.st h.sm hz hj hx)
theorem k6 (e:k=6) (i0:0<=i):(oI 26 (fld 5 fun j=>if j=4 then OZ 25 4 else rowP 25 j)).vc JI env:=by
 subst e;refine nO h (by decide) (by decide) rfl fun i1=>gF h (by decide) rfl fun j hj hf=>?_;subst hf;have hh:zo S 6 i (j:Int)=true:=yG i0 i1 (by omega) (show (j:Int)<5 by omega) (.inl (by decide));by_cases e4:j=4
 . subst e4;rw [if_pos rfl];exact BP h hg hz (iZ h hg hz (by decide) h.di) (by decide) hh (.inl ⟨rfl,rfl⟩) (by simp [qh]) fun w was hw e1 hx=>Jl h hg (Tc h hg hz (by decide) h.di (EO h hg hz)) hw (by decide) hh hx e1 (U9 h.st h.sm hz hx)
 . rw [if_neg e4];have hx:qM 6 (j:Int) to:=jA h (by omega) (by omega);exact rU h hg hz (by decide) (by decide) hh hx (by simp only [qh,Int.reduceEq,if_false,if_true];rw [if_neg (by omega)];simp) (U8 h.st h.sm hz (by omega) hx)
theorem k3 (e:k=3) (i0:0<=i):(oI 5 (fld 65 TP)).vc JI env:=by
 subst e;refine nO h (by decide) (by decide) rfl fun i1=>gF h (by decide) rfl fun j hj hf=>?_;subst hf;have hh:zo S 3 i (j:Int)=true:=yG i0 i1 (by omega) (show (j:Int)<65 by omega) (.inl (by decide));unfold TP;by_cases e4:j=64
 . subst e4;rw [if_pos rfl];have hx:qM 3 64 to:=jA h (by omega) (by omega);exact rU h hg hz (by decide) (by decide) hh hx (by simp [qh]) (Iz h.st h.sm hz hx)
 . rw [if_neg e4];have hb:(3:Int)=3/\(j:Int)<64:=⟨rfl,by omega⟩;refine wU h.dto dl (fun y=>Cy h (by decide) hh fun z=>by have:=(z.1 hb).1;omega) fun y=>wU dl h.dto (fun y=>Cy h (by decide) hh fun z=>by have:=(z.1 hb).2;omega) fun z=>?_;have hx:qM 3 (j:Int) to:=⟨fun _=>⟨by omega,by omega⟩,fun x=>by omega,h.rg⟩
   have ew:(E.wrap .u8 to').den JI env=some (.i (IntKind.u8.wrap to)):=by
     have:=h.dto;simp only [E.den,this]
   have ec:(E.wrap .i64 (.sel (v 4) i' (j+1))).den JI env=some (.i (IntKind.i64.wrap (gt S 4 i (j+1)))):=by
     have:=iZ h hg hz (t:=4) (c:=j+1) (by decide) h.di;rw [E.den,this]
   exact Jl h hg (Tc h hg hz (by decide) h.di ew) ec (by decide) hh hx (by simp only [qh,Int.reduceEq,if_false,if_true];rw [if_pos (by omega)];simp) (Ij h.st h.sm hz (by omega) hx)
theorem Zc {a b:Bool} (e:k=11) (i0:0<=i) (i1:i<gi S 36) (ha:a=true↔i<gi S 38) (hb:b=true↔i<gi S 40):(slot a b).vc JI env:=by
 subst e;refine gF h (by decide) rfl fun j hj hf=>?_;subst hf;have e:j=0\/j=1\/j=2:=by omega
 rcases e with rfl | rfl | rfl
 . have hx:qM 11 0 to:=jA h (by omega) (by omega);exact rU h hg hz (t:=35) (c:=0) (by decide) (by decide) (yG i0 i1 (by omega) (show (0:Int)<3 by omega) (.inr (.inl rfl))) hx (by simp [qh]) (Ht h.st h.sm hz (.inl ⟨rfl,rfl⟩) hx)
 . cases a with
   | false=>
     exact KO h (by decide) fun hh=>by
       have:=(qZ hh).2.2.2.2;have n:¬i<gi S 38:=fun x=>Bool.false_ne_true (ha.2 x);simp at this;omega
   | true=>
     have hh:zo S 11 i 1=true:=yG i0 i1 (by omega) (show (1:Int)<3 by omega) (.inr (.inr (.inl ⟨rfl,ha.1 rfl⟩)));exact BP h hg hz (iZ h hg hz (t:=37) (c:=0) (by decide) h.di) (by decide) hh (.inr (.inl ⟨rfl,rfl⟩)) (by simp [qh]) fun w was hw e1 hx=>Jl h hg (Tc h hg hz (by decide) h.di (EO h hg hz)) hw (by decide) hh hx e1 (RL h.st h.sm hz hx)
 . cases b with
   | false=>
     exact KO h (by decide) fun hh=>by
       have:=(qZ hh).2.2.2.2;have n:¬i<gi S 40:=fun x=>Bool.false_ne_true (hb.2 x);simp at this;omega
   | true=>
     have hx:qM 11 2 to:=jA h (by omega) (by omega);exact rU h hg hz (t:=39) (c:=0) (by decide) (by decide) (yG i0 i1 (by omega) (show (2:Int)<3 by omega) (.inr (.inr (.inr ⟨rfl,hb.1 rfl⟩)))) hx (by simp [qh]) (Ht h.st h.sm hz (.inr ⟨rfl,rfl⟩) hx)
theorem k11 (e:k=11) (i0:0<=i):slots.vc JI env:=by
 refine nO h (by omega) (by decide) (by subst e;rfl) fun i1=>wU h.di (h.gI (m:=38) (by decide)) (fun a=>wU h.di (h.gI (m:=40) (by decide)) (fun b=>?_) fun b=>?_) fun a=>wU h.di (h.gI (m:=40) (by decide)) (fun b=>?_) fun b=>?_
 . exact Zc h hg hz e i0 i1 (by simp [a]) (by simp [b])
 . exact Zc h hg hz e i0 i1 (by simp [a]) (by simp [b])
 . exact Zc h hg hz e i0 i1 (by simp [a]) (by simp [b])
 . exact Zc h hg hz e i0 i1 (by simp [a]) (by simp [b])
theorem iH:∀j,j<16->∀c,c<15->stS[41+15*j+c]?=arS[c]?:=by
 have _:=h;have _:=hg;have _:=hz;decide
theorem k12 (e:k=12) (i0:0<=i):(arI qjN).vc JI env:=by
 subst e;refine X5 h (by decide) i0 rfl fun j hj hi=>gF h (by decide) rfl fun m hm hf=>?_;subst hi;subst hf;have et:((j:Nat):Int).toNat=j:=by omega
 have hh:zo S 12 (j:Int) (m:Int)=true:=yG (by omega) (show (j:Int)<16 by omega) (by omega) (show (m:Int)<9 by omega) (.inl (by decide));by_cases e8:m=8
 . subst e8;have hx:qM 12 8 to:=jA h (by omega) (by omega);have e:55+15*j=41+15*j+14:=by omega
   rw [if_pos rfl,e];exact sH h hg hz (by rw [iH h hg hz j hj 14 (by decide)];rfl) (by decide) hh hx (by rw [bW rfl,et,<-e];simp) (Hr h.st h.sm hz hj (.inr ⟨rfl,rfl⟩) hx)
 rw [if_neg e8];by_cases e7:m=7
 . subst e7;rw [if_pos rfl];have e:50+15*j=41+15*j+9:=by omega
   exact BP h hg hz (h.gI (by rw [e,iH h hg hz j hj 9 (by decide)];rfl)) (by decide) hh (.inr (.inr ⟨rfl,rfl⟩)) (by rw [bW rfl,et];simp) fun w was hw e1 hx=>RN h hg (EO h hg hz) hw (by decide) hh hx e1 (RS h.st h.sm hz hj hx)
 rw [if_neg e7];have hx:qM 12 (m:Int) to:=jA h (by omega) (by omega);refine sH h hg hz ?_ (by decide) hh hx ?_ (Hr h.st h.sm hz hj (.inl ⟨by omega,rfl⟩) hx)
 . rw [iH h hg hz j hj m (by omega)];have:∀m,m<7->arS[m]?=some false:=by decide
   exact this m (by omega)
 . rw [bW rfl,if_neg (by omega),if_neg (by omega),zS (by omega)];unfold arB;rw [et];congr 1
end
section
variable {n:Nat} {env:List D} (h:En S k i f to n env) {g:Int->Nat->Int} (hg:env[285]?=some (.t g)) (hz:jq (gt S 32) (gi S 33) g)
include h hg hz
theorem Db {t:Nat} (ht:stS[t]?=some true) (ht1:stS[t+1]?=some false) (hl:0<=gi S (t+1)/\gi S (t+1)<=100000) (hk:1<=k/\k<=16) (k11:k≠3/\k≠6/\k≠11/\k≠12) (i0:0<=i) (i1:i<qz S k) (hF:qj S k i=2*gi S (t+1)) (hG:∀q:Int,∀a:Nat,a<2->f=2*q+a->qh S k i f=gt S t q a)
   (hp:qM k f to->∀q:Int,∀a:Nat,a<2->f=2*q+a->kD S k i f to (toT S g t (qd (gt S t) q a to))):(prs t).vc JI env:=by
 have hn:=h.gI ht1
 have hnm:(E.bin .mul (v (t+1)) (n0 2)).den JI env=some (.i (gi S (t+1)*2)):=by
   show (E.bin .mul (.var (t+1)) (.lit 2)).den JI _=_;rw [E.den,hn,dl];rfl
 have hf1:(E.bin .add f' (n0 1)).den JI env=some (.i (f+1)):=by
   show (E.bin .add f' (.lit 1)).den JI _=_;rw [E.den,h.df,dl];rfl
 refine ⟨⟨[.i _],by simp only [v,qg,hn],hl⟩,?_⟩;refine wU h.df dl (fun x=>KO h hk fun hh=>by have:=(qZ hh).2.2.1;omega) fun f0=>Zj hnm h.df (fun x=>KO h hk fun hh=>by have:=(qZ hh).2.2.2.1;omega) fun f1=>?_;have hh:zo S k i f=true:=yG i0 i1 (by omega) (by omega) (.inl (by omega));have hx:qM k f to:=jA h (by omega) (by omega)
 have hq:hf.den JI env=some (.i (f / 2)):=by
   show (E.bin .tdiv f' (.lit 2)).den JI env=_;simp only [E.den,h.df,BO.ev];rw [Int.tdiv_eq_ediv_of_nonneg (by omega)]
 have rr:∀j t u,(f % 2=j->t.vc JI env)->(¬f % 2=j->u.vc JI env)->(rf j t u).vc JI env:=fun j t u h1 h3=>by
   refine jF (x:=f % 2) (y:=j) ?_ dl h1 h3;show (E.bin .tmod f' (.lit 2)).den JI env=_;simp only [E.den,h.df,BO.ev];rw [Vg (by omega)]
 have le0:(le (n0 0) hf).den JI env:=⟨1,by show (E.bin .le (.lit 0) hf).den JI env=_;rw [E.den,hq,dl];show some (D.i (if (0:Int)<=f / 2 then 1 else 0))=_;rw [if_pos (by omega)],by decide⟩;have lt0:(PE.tt (.bin .lt hf (v (t+1)))).den JI env:=⟨1,by rw [E.den,hq];show (match some (D.i (f / 2)),(E.var (t+1)).den JI env with | some (.i x),some (.i y)=>some (D.i (BO.ev .lt x y)) | _,_=>none)=_;rw [hn];show some (D.i (if f / 2<gi S (t+1) then 1 else 0))=_;rw [if_pos (by omega)],by decide⟩
 have leaf:∀a:Nat,a<2->f % 2=a->(O1 t a).vc JI env:=fun a ha e=>by
   have ef:f=2*(f / 2)+a:=by omega
   exact ⟨le0,lt0,Jl h hg (Tc h hg hz ht hq h.dto) (iZ h hg hz ht hq) hk hh hx (hG _ a ha ef).symm (hp hx _ a ha ef)⟩
 have p1:(PE.tt (.bin .lt (n0 0) (.bin .add f' (n0 1)))).den JI env:=⟨1,by rw [E.den,hf1];show some (D.i (if (0:Int)<f+1 then 1 else 0))=_;rw [if_pos (by omega)],by decide⟩;exact jF hf1 dl (fun e=>by omega) fun _=>⟨p1,rr 0 _ _ (fun e=>leaf 0 (by decide) e) fun e=>rr 1 _ _ (fun e2=>leaf 1 (by decide) e2) fun e2=>by omega⟩
theorem k13 (e:k=13) (i0:0<=i):(arI fun j=>prs (48+15*j)).vc JI env:=by
 subst e;refine X5 h (by decide) i0 rfl fun j hj hi=>?_;subst hi;have et:((j:Nat):Int).toNat=j:=by omega
 have e1:48+15*j=41+15*j+7:=by omega
 have e2:48+15*j+1=41+15*j+8:=by omega
 refine Db h hg hz (by rw [e1,iH h hg hz j hj 7 (by decide)];rfl) (by rw [e2,iH h hg hz j hj 8 (by decide)];rfl) (by have:=h.sm.ar j hj;rw [show 48+15*j+1=49+15*j by omega];omega) (by decide) (by decide) i0 (show (j:Int)<16 by omega) ?_ (fun q a ha hf=>?_) fun hx q a ha hf=>Ib h.st h.sm hz hj ha hf hx
 . show 2*gi (arP S j) 8=_;rw [zS (by decide)];unfold arB;rw [et,e2]
 . rw [sO,et];have b:=fdiv h.st h.sm hz ha hf;rw [b.1,b.2]
theorem k14 (e:k=14) (i0:0<=i):(arI fun j=>prs (51+15*j)).vc JI env:=by
 subst e;refine X5 h (by decide) i0 rfl fun j hj hi=>?_;subst hi;have et:((j:Nat):Int).toNat=j:=by omega
 have e1:51+15*j=41+15*j+10:=by omega
 have e2:51+15*j+1=41+15*j+11:=by omega
 refine Db h hg hz (by rw [e1,iH h hg hz j hj 10 (by decide)];rfl) (by rw [e2,iH h hg hz j hj 11 (by decide)];rfl) (by have:=h.sm.ar j hj;rw [show 51+15*j+1=52+15*j by omega];omega) (by decide) (by decide) i0 (show (j:Int)<16 by omega) ?_ (fun q a ha hf=>?_) fun hx q a ha hf=>Ig h.st h.sm hz hj ha hf hx
 . show 2*gi (arP S j) 11=_;rw [zS (by decide)];unfold arB;rw [et,e2]
 . rw [sI,et];have b:=fdiv h.st h.sm hz ha hf;rw [b.1,b.2]
theorem k15 (e:k=15) (i0:0<=i):(arI fun j=>prs (53+15*j)).vc JI env:=by
 subst e;refine X5 h (by decide) i0 rfl fun j hj hi=>?_;subst hi;have et:((j:Nat):Int).toNat=j:=by omega
 have e1:53+15*j=41+15*j+12:=by omega
 have e2:53+15*j+1=41+15*j+13:=by omega
 refine Db h hg hz (by rw [e1,iH h hg hz j hj 12 (by decide)];rfl) (by rw [e2,iH h hg hz j hj 13 (by decide)];rfl) (by have:=h.sm.ar j hj;rw [show 53+15*j+1=54+15*j by omega];omega) (by decide) (by decide) i0 (show (j:Int)<16 by omega) ?_ (fun q a ha hf=>?_) fun hx q a ha hf=>Iy h.st h.sm hz hj ha hf hx
 . show 2*gi (arP S j) 13=_;rw [zS (by decide)];unfold arB;rw [et,e2]
 . rw [sU,et];have b:=fdiv h.st h.sm hz ha hf;rw [b.1,b.2]
theorem AY (hk:1<=k/\k<=16) (i0:0<=i) (h9:k≠9):kch.vc JI env:=by
 refine jF h.dk dl (fun e=>k16 h hg hz e i0) fun _=>?_;refine jF h.dk dl (fun e=>k15 h hg hz e i0) fun _=>?_;refine jF h.dk dl (fun e=>k14 h hg hz e i0) fun _=>?_;refine jF h.dk dl (fun e=>k13 h hg hz e i0) fun _=>?_;refine jF h.dk dl (fun e=>k12 h hg hz e i0) fun _=>?_;refine jF h.dk dl (fun e=>k11 h hg hz e i0) fun _=>?_;refine jF h.dk dl (fun e=>k10 h hg hz e i0) fun _=>?_;refine jF h.dk dl (fun e=>k8 h hg hz e i0) fun _=>?_;refine jF h.dk dl (fun e=>k7 h hg hz e i0) fun _=>?_;refine jF h.dk dl (fun e=>k6 h hg hz e i0) fun _=>?_;refine jF h.dk dl (fun e=>k5 h hg hz e i0) fun _=>?_;refine jF h.dk dl (fun e=>k4 h hg hz e i0) fun _=>?_;refine jF h.dk dl (fun e=>k3 h hg hz e i0) fun _=>?_;refine jF h.dk dl (fun e=>k2 h hg hz e i0) fun _=>?_;refine jF h.dk dl (fun e=>k1 h hg hz e i0) fun _=>?_;exact jF h.dk dl (fun e=>by omega) fun _=>by omega
theorem TL (h9:k≠9):I7.vc JI env:=
 wU h.dk dl (fun e=>aD h (.inl ⟨.inl e,rfl⟩) (by decide)) fun e1=>Zj dl h.dk (fun e=>aD h (.inl ⟨.inr e,rfl⟩) (by decide)) fun e2=>
   wU h.di dl (fun e=>KO h ⟨by omega,by omega⟩ fun hh=>by have:=(qZ hh).1;omega) fun e3=>AY h hg hz ⟨by omega,by omega⟩ (by omega) h9
end
end Go.Sp
noncomputable section
set_option linter.unusedSimpArgs false
namespace Go.Sp
open Go Go.Sx
variable {S:List D} {k i f to:Int}
theorem Gd {l:Int->Nat->Int} {n:Int}:gy (xG l n 2)=(List.range (n.toNat*2)).map fun q=>l ((q / 2:Nat):Int) (q % 2):=by rw [xG,xw];rfl
theorem SQ {l:Int->Nat->Int} {n:Int} (h:0<=n):llen (xG l n 2) 2=n:=by
 rw [llen,Gd,List.length_map,List.length_range];show ((n.toNat*2 / 2:Nat):Int)=n;omega
theorem SV {l:Int->Nat->Int} {n j c:Int} (j0:0<=j) (j1:j<n) (c0:0<=c) (c1:c<2):dY (xG l n 2) j 2 c=l j c.toNat:=by
 rw [dY,Gd];show ((List.range (n.toNat*2)).map _).getD (j.toNat*2+c.toNat) 0=_;have h:j.toNat*2+c.toNat<n.toNat*2:=by omega
 rw [List.getD_eq_getElem?_getD,List.getElem?_map,List.getElem?_range h];show l _ _=_
 congr 1
 . omega
 . omega
theorem Hg {g6:Int->Nat->Int} (hS:St S) (hs:Small S) (hz:jq (gt S 32) (gi S 33) g6) (i0:0<=i) (i1:i<gi S 33) (_f0:0<=f) (hx:qM 9 f to) {p N:Int} {l:Int->Nat->Int} (hN:N=llen (gt S 32 i 1) 2)
   (h0:f=0->p=to) (h1:f≠0->p=gt S 32 i 0)
   (hl:∀f',1<=f'->f'<1+2*N->l ((f' - 1) / 2) ((f' - 1) % 2).toNat=if f'=f then to else dY (gt S 32 i 1) ((f' - 1) / 2) 2 ((f' - 1) % 2)) :
   kD S 9 i f to (S.set 32 (.t (qd (qd g6 i 0 p) i 1 (xG l N 2)))):=by
 have n0:0<=N:=by rw [hN];exact yj _ _
 have e32:gt (S.set 32 (.t (qd (qd g6 i 0 p) i 1 (xG l N 2)))) 32=qd (qd g6 i 0 p) i 1 (xG l N 2):=by rw [vN (by rw [hS.len];omega),if_pos rfl]
 generalize hT:S.set 32 (.t (qd (qd g6 i 0 p) i 1 (xG l N 2)))=T at *;have hE:Eqv S T 32:=by rw [<-hT];exact qxR hS.len
 have r0:∀r,gt T 32 r 0=if r=i then p else g6 r 0:=fun r=>by
   rw [e32];by_cases e:r=i <;> simp [qd,e]
 have r1:∀r,gt T 32 r 1=if r=i then xG l N 2 else g6 r 1:=fun r=>by
   rw [e32];by_cases e:r=i <;> simp [qd,e]
 have hc:Qh S T:=fun r a b=>by
   rw [r1];by_cases e:r=i
   . subst e;rw [if_pos rfl,SQ n0,hN]
   . rw [if_neg e];exact (hz r a b).2.1
 refine Hw hs hE (bP hS hs hz (by decide) (by decide)) hc hx fun k' i' f' a b hh=>?_;by_cases e9:k'=9
 . subst e9;have hf:=qZ hh;simp only [qz,qj,Int.reduceEq,if_false,if_true] at hf;have z:=hz i' hf.1 hf.2.1;simp only [qh,Int.reduceEq,if_false,if_true];rw [r0,r1];by_cases e:i'=i
   . subst e;rw [if_pos rfl,if_pos rfl];by_cases e0:f'=0
     . subst e0;rw [if_pos rfl,if_pos rfl];exact ⟨fun h=>h0 h.2.2.symm,fun h=>h1 fun x=>h ⟨trivial,rfl,x.symm⟩⟩
     . rw [if_neg e0,if_neg e0,SV (by omega) (by omega) (by omega) (by omega),hl f' (by omega) (by omega)];exact ⟨fun h=>if_pos h.2.2,fun h=>if_neg fun x=>h ⟨trivial,rfl,x⟩⟩
   . rw [if_neg e,if_neg e];refine ⟨fun h=>(e h.2.1).elim,fun _=>?_⟩;by_cases e0:f'=0
     . rw [if_pos e0,if_pos e0,z.1]
     . rw [if_neg e0,if_neg e0];exact z.2.2 _ _ (by omega) (by omega) (by omega) (by omega)
 . refine ⟨fun h=>(e9 h.1).elim,fun _=>?_⟩
   have hn:¬inP 32 k' i':=by
     unfold inP;simp only [Nat.reduceEqDiff,and_false,false_or,or_false,Nat.reduceLeDiff];omega
   have hne:∀n,n=32->n≠32->False:=fun n a b=>b a;have hf:=qZ hh;rcases Md a b with rfl | rfl | rfl | rfl | rfl | rfl | rfl | rfl | rfl | rfl | rfl | rfl | rfl | rfl | rfl | rfl
   . exact qq9 hE hn
   . exact qq8 hE hn
   . exact qq7 hE hn
   . exact qq6 hE hn
   . exact qq5 hE hn
   . exact qq4 hE hn
   . exact qq2 hE hn
   . exact qq1 hE hn
   . exact (e9 rfl).elim
   . exact Ia hE hn
   . exact Io hE hn
   . simp only [qj,arF,Int.reduceEq,if_false,if_true] at hf;exact Ii hE hf.2.2.1 hf.2.2.2.1 hn
   . exact Iu hE hn
   . exact Il hE hn
   . exact Ic hE hn
   . simp only [qj,Int.reduceEq,if_false,if_true] at hf;exact Ir hE hf.2.2.1 hf.2.2.2.1 hn
theorem ku {env:List D} {a b:E} {x y:Int} (ha:a.den JI env=some (.i x)) (hb:b.den JI env=some (.i y)) (h:x<=y):(le a b).den JI env:=⟨1,by rw [E.den,ha,hb];show some (D.i (if x<=y then 1 else 0))=_;rw [if_pos h],by decide⟩
theorem pX {env:List D} {a b:E} {x y:Int} (ha:a.den JI env=some (.i x)) (hb:b.den JI env=some (.i y)) (h:x<y):(lt a b).den JI env:=⟨1,by rw [E.den,ha,hb];show some (D.i (if x<y then 1 else 0))=_;rw [if_pos h],by decide⟩
theorem PO {env:List D} {a b:E} {x y:Int} (ha:a.den JI env=some (.i x)) (hb:b.den JI env=some (.i y)) (h:x=y):(PE.tt (.bin .eq a b)).den JI env:=⟨1,by rw [E.den,ha,hb];show some (D.i (if x=y then 1 else 0))=_;rw [if_pos h],by decide⟩
theorem PU {env:List D} {a b:E} {x y:Int} (ha:a.den JI env=some (.i x)) (hb:b.den JI env=some (.i y)) (h:x≠y):(PE.tt (.bin .ne a b)).den JI env:=⟨1,by simp only [E.den,ha,hb,BO.ev];simp [h],by decide⟩
theorem fV {env:List D} {a b:E} {x y:Int} (ha:a.den JI env=some (.i x)) (hb:b.den JI env=some (.i y)) (h:(le a b).den JI env):x<=y:=by
 obtain ⟨n,h1,h2⟩:=h;rw [E.den,ha,hb] at h1;have e:(if x<=y then 1 else 0:Int)=n:=by simpa [BO.ev] using h1
 by_cases c:x<=y
 . exact c
 . rw [if_neg c] at e;exact (h2 e.symm).elim
theorem PI {env:List D} {a b:E} {x y:Int} (ha:a.den JI env=some (.i x)) (hb:b.den JI env=some (.i y)) (h:(lt a b).den JI env):x<y:=by
 obtain ⟨n,h1,h2⟩:=h;rw [E.den,ha,hb] at h1;have e:(if x<y then 1 else 0:Int)=n:=by simpa [BO.ev] using h1
 by_cases c:x<y
 . exact c
 . rw [if_neg c] at e;exact (h2 e.symm).elim
theorem OQ {env:List D} {a b:E} {x y:Int} (ha:a.den JI env=some (.i x)) (hb:b.den JI env=some (.i y)) (h:(PE.tt (.bin .eq a b)).den JI env):x=y:=by
 obtain ⟨n,h1,h2⟩:=h;rw [E.den,ha,hb] at h1;have e:(if x=y then 1 else 0:Int)=n:=by simpa [BO.ev] using h1
 by_cases c:x=y
 . exact c
 . rw [if_neg c] at e;exact (h2 e.symm).elim
theorem j4 {env:List D} {a b:E} {x y:Int} (ha:a.den JI env=some (.i x)) (hb:b.den JI env=some (.i y)):(plus a b).den JI env=some (.i (x+y)):=by
 show (E.bin .add a b).den JI env=_;rw [E.den,ha,hb];rfl
theorem vH {env:List D} {a b:E} {x y:Int} (ha:a.den JI env=some (.i x)) (hb:b.den JI env=some (.i y)):(minus a b).den JI env=some (.i (x - y)):=by
 show (E.bin .sub a b).den JI env=_;rw [E.den,ha,hb];rfl
theorem H8 {env:List D} {a b:E} {x y:Int} (ha:a.den JI env=some (.i x)) (hb:b.den JI env=some (.i y)):(E.bin .mul a b).den JI env=some (.i (x*y)):=by rw [E.den,ha,hb];rfl
theorem iO {env:List D} {a:E} {x:Int} (ha:a.den JI env=some (.i x)) (h0:-9223372036854775808<=x) (h1:x<=9223372036854775807):(PE.rng .i64 a).den JI env:=⟨x,ha,by rw [oK];exact h0,by rw [imax];exact h1⟩
structure En0 (S:List D) (env:List D):Prop where
 st:St S
 sm:Small S
 pre:∃r,env=S++r
theorem En.e0 {n:Nat} {env:List D} (h:En S k i f to n env):En0 S env:=⟨h.st,h.sm,by obtain ⟨r,e⟩:=h.pre;exact ⟨_,e⟩⟩
theorem En0.gI {env:List D} (h:En0 S env) {m:Nat} (hm:stS[m]?=some false):(E.var m).den JI env=some (.i (gi S m)):=by
 obtain ⟨r,e⟩:=h.pre;show env[m]?=_;rw [e];exact h.st.i m hm
theorem En0.gT {env:List D} (h:En0 S env) {m:Nat} (hm:stS[m]?=some true):(E.var m).den JI env=some (.t (gt S m)):=by
 obtain ⟨r,e⟩:=h.pre;show env[m]?=_;rw [e];exact h.st.t m hm
theorem p57 {env:List D} {e:E} {x:Int} (he:e.den JI env=some (.i x)) (h:0<=x/\x<=100000):(PE.pr 57 [e]).den JI env:=⟨[.i x],by simp only [qg,he],h⟩
theorem Qm {K:Tree} {env:List D} (hE:En0 S env) (hK:K.vc JI env):∀{l:List Nat},(∀t∈l,stS[t+1]?=some false/\0<=gi S (t+1)/\gi S (t+1)<=100000)->(cls l K).vc JI env
 | [],_=>hK
 | t::l,hl=>by
   obtain ⟨a,b,c⟩:=hl t (by simp);exact ⟨p57 (hE.gI a) ⟨b,c⟩,Qm hE hK fun t ht=>hl t (by simp [ht])⟩
theorem Di {env:List D} {w:Nat} {r:E} {g:Int->Nat->Int} {x:Int} (hw:env[w]?=some (.t g)) (hr:r.den JI env=some (.i x)):(n9 w r).den JI env=some (.i (llen (g x 1) 2)):=by
 have hw:(v w).den JI env=some (.t g):=hw;simp only [n9,c9,E.den,hw,hr,wV,gL]
theorem OT {env:List D} {w:Nat} {r:E} {g:Int->Nat->Int} {x:Int} (hw:env[w]?=some (.t g)) (hr:r.den JI env=some (.i x)):(t9 w r).den JI env=some (.t (gG (g x 1) 2)):=by
 have hw:(v w).den JI env=some (.t g):=hw;simp only [t9,c9,E.den,hw,hr,wX,gL]
theorem Sc {env:List D} {l n:E} {t:Int->Nat->Int} {x:Int} (hl:l.den JI env=some (.t t)) (hn:n.den JI env=some (.i x)):(E.fn 1016 l n (.lit 2) (.lit 0)).den JI env=some (.i (xG t x 2)):=by
 simp only [E.den,hl,hn,vV,gL,fC]
theorem bF {env:List D} {t r e:E} {c:Nat} {g:Int->Nat->Int} {x y:Int} (ht:t.den JI env=some (.t g)) (hr:r.den JI env=some (.i x)) (he:e.den JI env=some (.i y)):(E.upd t r c e).den JI env=some (.t (qd g x c y)):=by
 simp only [E.den,ht,hr,he]
theorem Vr {env:List D} {t r:E} {c:Nat} {g:Int->Nat->Int} {x:Int} (ht:t.den JI env=some (.t g)) (hr:r.den JI env=some (.i x)):(E.sel t r c).den JI env=some (.i (g x c)):=by
 simp only [E.den,ht,hr]
theorem YW {w:Nat} {env:List D} {r:E} {K:Tree} {g:Int->Nat->Int} {x:Int} (hE:En0 S env) (hw:env[w]?=some (.t g)) (hr:r.den JI env=some (.i x)) (hz:jq (gt S 32) (gi S 33) g) (x0:0<=x) (x1:x<gi S 33)
   (hK:K.vc JI env):(FR w r K).vc JI env:=by
 have z:=(hz x x0 x1).2.1;have a:=hE.sm.cut x x0 x1;have b:=hE.sm.a33;have c:=yj (gt S 32 x 1) 2;have q:=Di hw hr;exact ⟨p57 q ⟨by rw [z];omega,by rw [z];omega⟩,ku q q (Int.le_refl _),iO (j4 hr dl) (by omega) (by omega),hK⟩
theorem Ke {w:Nat} {env:List D} {r:E} {K:Tree} {g:Int->Nat->Int} {x:Int} (hE:En0 S env) (hw:env[w]?=some (.t g)) (hr:r.den JI env=some (.i x)) (hz:jq (gt S 32) (gi S 33) g) (x0:0<=x) (x1:x<gi S 33)
   (hK:K.vc JI env):(Pk w r K).vc JI env:=by
 have hw':(v w).den JI env=some (.t g):=hw;have h32:=hE.gT (m:=32) (by decide);have h33:=hE.gI (m:=33) (by decide);have hu:=bF hw' hr (Sc (OT hw hr) (Di hw hr)) (c:=1);refine ⟨ku (j4 hr dl) h33 (by omega),⟨[.t (gt S 32),.i (gi S 33),.t _],?_,Qo hz x0 x1⟩,hK⟩;show qg JI env [.var 32,.var 33,_]=_;simp only [qg,h32,h33,hu]
theorem ow {env:List D} {r:E} {x:Int} (hE:En0 S env) (hr:r.den JI env=some (.i x)) (x1:x<gi S 33):(WH r).vc JI env:=by
 have h33:(v 33).den JI env=_:=hE.gI (m:=33) (by decide);exact ⟨ku dl (vH h33 (j4 hr dl)) (by omega),pX (vH h33 (j4 hr dl)) (vH h33 hr) (by omega),trivial⟩
theorem qqk:∀t∈clA,stS[t+1]?=some false/\(t=35\/t=37\/t=39\/∃j,j<16/\(t=48+15*j\/t=51+15*j\/t=53+15*j)):=by decide
theorem lT (hs:Small S):∀t∈clA,stS[t+1]?=some false/\0<=gi S (t+1)/\gi S (t+1)<=100000:=fun t ht=>by
 obtain ⟨a,b⟩:=qqk t ht;refine ⟨a,?_⟩;have:=hs.a36;have:=hs.a38;have:=hs.a40;rcases b with rfl | rfl | rfl | ⟨j,hj,e⟩
 . show 0<=gi S 36/\gi S 36<=100000;omega
 . show 0<=gi S 38/\gi S 38<=100000;omega
 . show 0<=gi S 40/\gi S 40<=100000;omega
 . have c:=hs.ar j hj;rcases e with rfl | rfl | rfl
   . rw [show 48+15*j+1=49+15*j by omega];omega
   . rw [show 51+15*j+1=52+15*j by omega];omega
   . rw [show 53+15*j+1=54+15*j by omega];omega
end Go.Sp
end
noncomputable section
set_option linter.unusedSimpArgs false
namespace Go.Sp
open Go Go.Sx
variable {S:List D} {k i f to:Int}
theorem RI {env:List D} {g:Int->Nat->Int} {x:Int} (hE:En S k i f to 287 env) (hx:(v 285).den JI env=some (.i x)) (hg:env[286]?=some (.t g)) (hz:jq (gt S 32) (gi S 33) g) (x0:0<=x) (x1:x<=gi S 33)
   (hk:k=9) (h55:i<0\/x<=i) (hn:¬(x=i/\0<=i/\i<gi S 33)):Im.vc JI env:=by
 refine wU hx (hE.gI (m:=33) (by decide)) (fun hl=>YW hE.e0 hg hx hz x0 hl ?_) fun hl=>Qm hE.e0 ?_ (lT hE.sm)
 . refine ⟨ku dl (j4 hx dl) (by omega),Ke hE.e0 hg hx hz x0 hl ⟨⟨[.i (x+1),.i i,.i 9],?_,?_⟩,ow hE.e0 hx hl⟩⟩
   . simp only [qg,j4 hx (dl (n:=1)),hE.di,show n0 1=E.lit 1 from rfl,show n0 9=E.lit 9 from rfl,dl]
   . show (9:Int)=9->i<0\/x+1<=i;intro _;omega
 . subst hk
   refine wU hE.di dl (fun e=>FH hE rfl fun hh=>by have:=(qZ hh).1;omega) fun e=>Zj (hE.gI (m:=33) (by decide)) hE.di (fun e2=>FH hE rfl fun hh=>by
     have h1:=(qZ hh).2.1;have e3:qz S 9=gi S 33:=rfl;omega) fun e2=>by omega
section
variable {env:List D} {g2 g6:Int->Nat->Int} (hE:En S k i f to 292 env) (hg2:env[286]?=some (.t g2)) (hg6:env[288]?=some (.t g6)) (hz2:jq (gt S 32) (gi S 33) g2) (hz6:jq (gt S 32) (gi S 33) g6)
 (hk:k=9) (i0:0<=i) (i1:i<gi S 33)
include hE hg2 hg6 hz2 hz6 hk i0 i1
theorem dN9:N9.den JI env=some (.i (llen (gt S 32 i 1) 2)):=by
 have _:=hg6;have _:=hz6;have _:=hk;rw [<-(hz2 i i0 i1).2.1];exact Di hg2 hE.di
theorem dT9:T9.den JI env=some (.t (gG (g2 i 1) 2)):=have _:=hg6;have _:=hz2;have _:=hz6;have _:=hk;have _:=i0;have _:=i1;OT hg2 hE.di
theorem dP9:P9.den JI env=some (.i (gt S 32 i 0)):=by
 have _:=hg6;have _:=hz6;have _:=hk;rw [<-(hz2 i i0 i1).1];exact Vr (t:=.var 286) hg2 hE.di
theorem Xj {p l w:E} {xp was:Int} {tl:Int->Nat->Int} (hp:p.den JI env=some (.i xp)) (hl:l.den JI env=some (.t tl)) (hw:w.den JI env=some (.i was)) (hh:zo S k i f=true) (hf:qM k f to) (hs:was=qh S k i f)
   (hR:kD S 9 i f to (S.set 32 (.t (qd (qd g6 i 0 xp) i 1 (xG tl (llen (gt S 32 i 1) 2) 2))))):(CF p l w).vc JI env:=by
 have hN:=dN9 hE hg2 hg6 hz2 hz6 hk i0 i1;refine ⟨ku hN hN (Int.le_refl _),Df hE (kE:=n0 9) (by rw [hk];rfl) (kP (bF (bF (t:=.var 288) hg6 hE.di hp) hE.di (Sc hl hN)) hE.all) (by simp [hE.st.len]) hw dl ?_,trivial⟩;refine ⟨.inr ⟨by omega,.inr ⟨hh,.inr ⟨hf,rfl⟩⟩⟩,fun _=>⟨hs,?_⟩,fun x=>(x rfl).elim⟩;subst hk;exact hR
theorem qy5 (f0:0<=f) (f1:f<1+2*llen (gt S 32 i 1) 2):zo S k i f=true:=by
 have _:=hg2;have _:=hg6;have _:=hz2;have _:=hz6;subst hk;exact yG i0 i1 f0 f1 (.inl (by decide))
theorem Uw:qh S k i f=if f=0 then gt S 32 i 0 else dY (gt S 32 i 1) ((f - 1) / 2) 2 ((f - 1) % 2):=by
 have _:=hg2;have _:=hg6;have _:=hz2;have _:=hz6;have _:=i0;have _:=i1;subst hk;simp [qh]
theorem OA {c:Nat} {y:Int} (h:(s9 c).den JI env=some (.i (y+1))) (y0:0<=y):(q9 c).den JI env=some (.i (y / 3)):=by
 have _:=hE;have _:=hg2;have _:=hg6;have _:=hz2;have _:=hz6;have _:=hk;have _:=i0;have _:=i1;show (E.bin .tdiv (minus (s9 c) (.lit 1)) (.lit 3)).den JI env=_;have:=vH h (dl (n:=1));simp only [E.den,this,BO.ev];rw [show y+1 - 1=y by omega,Int.tdiv_eq_ediv_of_nonneg y0]
theorem pG {c:Nat} {y j:Int} {t u:Tree} (h:(s9 c).den JI env=some (.i (y+1))) (y0:0<=y) (h1:y % 3=j->t.vc JI env) (h2:¬y % 3=j->u.vc JI env):(r9 c j t u).vc JI env:=by
 have _:=hE;have _:=hg2;have _:=hg6;have _:=hz2;have _:=hz6;have _:=hk;have _:=i0;have _:=i1;refine jF (x:=y % 3) (y:=j) ?_ dl h1 h2;show (E.bin .tmod (minus (s9 c) (.lit 1)) (.lit 3)).den JI env=_;have:=vH h (dl (n:=1));simp only [E.den,this,BO.ev];rw [show y+1 - 1=y by omega,Int.tmod_eq_emod_of_nonneg y0]
theorem XZ {c:Nat} {y:Int} {t:Tree} (h:(s9 c).den JI env=some (.i (y+1))) (y0:0<=y) (y1:y / 3<llen (gt S 32 i 1) 2) (ht:t.vc JI env):(in9 c t).vc JI env:=by
 have hq:=OA hE hg2 hg6 hz2 hz6 hk i0 i1 h y0;exact ⟨ku dl hq (by omega),pX hq (dN9 hE hg2 hg6 hz2 hz6 hk i0 i1) y1,ht⟩
theorem Uk {y:Int} (h0:(s9 0).den JI env=some (.i (y+1))) (h1:(s9 1).den JI env=some (.i (y+1))) (y0:0<=y)
   (hy:f=0/\y=3*i\/∃q:Int,0<=q/\q<llen (gt S 32 i 1) 2/\(f=1+2*q/\y=3*q+1\/f=2+2*q/\y=3*q+2)):EM.vc JI env:=by
 have f0:0<=f:=by rcases hy with ⟨h,_⟩ | ⟨q,a,b,⟨h,_⟩ | ⟨h,_⟩⟩ <;> omega
 have f1:f<1+2*llen (gt S 32 i 1) 2:=by
   have:=yj (gt S 32 i 1) 2;rcases hy with ⟨h,_⟩ | ⟨q,a,b,⟨h,_⟩ | ⟨h,_⟩⟩ <;> omega
 have hh:=qy5 hE hg2 hg6 hz2 hz6 hk i0 i1 f0 f1;have hx:qM k f to:=jA hE (by omega) (by omega);have hx9:qM 9 f to:=by rw [<-hk];exact hx
 have z2:=hz2 i i0 i1;have hP:=dP9 hE hg2 hg6 hz2 hz6 hk i0 i1;have hT:=dT9 hE hg2 hg6 hz2 hz6 hk i0 i1;have hq0:=OA hE hg2 hg6 hz2 hz6 hk i0 i1 h0 y0;have hq1:=OA hE hg2 hg6 hz2 hz6 hk i0 i1 h1 y0;have gs:=Uw hE hg2 hg6 hz2 hz6 hk i0 i1;have lt0:(PE.tt (.bin .lt (n0 0) (s9 0))).den JI env:=pX (a:=n0 0) dl h0 (by omega);have lt1:(PE.tt (.bin .lt (n0 0) (s9 1))).den JI env:=pX (a:=n0 0) dl h1 (by omega);have lt2:∀(j c:Int),0<=j->j<llen (gt S 32 i 1) 2->0<=c->c<2->gG (g2 i 1) 2 j c.toNat=dY (gt S 32 i 1) j 2 c:=fun j c a b c0 c1=>z2.2.2 j c a b c0 c1;rcases hy with ⟨rfl,rfl⟩ | ⟨q,qa,qb,⟨rfl,rfl⟩ | ⟨rfl,rfl⟩⟩
 . refine ⟨lt0,pG hE hg2 hg6 hz2 hz6 hk i0 i1 h0 y0 (fun _=>⟨PO hq0 hE.di (by omega),lt1,pG hE hg2 hg6 hz2 hz6 hk i0 i1 h1 y0 (fun _=>⟨PO hq1 hE.di (by omega),?_⟩) fun e=>by omega⟩) fun e=>by omega⟩;refine Xj hE hg2 hg6 hz2 hz6 hk i0 i1 hE.dto hT hP hh hx (by rw [gs,if_pos rfl]) (Hg hE.st hE.sm hz6 i0 i1 f0 hx9 rfl (fun _=>rfl) (fun e=>(e rfl).elim) fun f' a b=>?_);rw [if_neg (by omega)];exact lt2 _ _ (by omega) (by omega) (by omega) (by omega)
 . have e3:(3*q+1) / 3=q:=by omega
   rw [e3] at hq0 hq1;have hsel:(E.sel T9 (q9 0) 0).den JI env=some (.i (gG (g2 i 1) 2 q 0)):=Vr hT hq0;refine ⟨lt0,pG hE hg2 hg6 hz2 hz6 hk i0 i1 h0 y0 (fun e=>by omega) fun _=>pG hE hg2 hg6 hz2 hz6 hk i0 i1 h0 y0 (fun _=>XZ hE hg2 hg6 hz2 hz6 hk i0 i1 h0 y0 (by omega) ⟨lt1,pG hE hg2 hg6 hz2 hz6 hk i0 i1 h1 y0 (fun e=>by omega) fun _=>pG hE hg2 hg6 hz2 hz6 hk i0 i1 h1 y0 (fun _=>XZ hE hg2 hg6 hz2 hz6 hk i0 i1 h1 y0 (by omega) ?_) fun e=>by omega⟩) fun e=>by omega⟩;refine Xj hE hg2 hg6 hz2 hz6 hk i0 i1 hP (bF hT hq1 hE.dto) hsel hh hx (by rw [gs,if_neg (by omega)];have:=lt2 q 0 qa qb (by omega) (by omega);rw [show (1+2*q - 1) / 2=q by omega,show (1+2*q - 1) % 2=0 by omega];exact this) (Hg hE.st hE.sm hz6 i0 i1 f0 hx9 rfl (fun e=>by omega) (fun _=>rfl) fun f' a b=>?_);unfold qd;by_cases e:f'=1+2*q
   . subst e;rw [if_pos rfl,if_pos (by omega)]
   . rw [if_neg e,if_neg (by omega)];exact lt2 _ _ (by omega) (by omega) (by omega) (by omega)
 . have e3:(3*q+2) / 3=q:=by omega
   rw [e3] at hq0 hq1;have hsel:(E.sel T9 (q9 0) 1).den JI env=some (.i (gG (g2 i 1) 2 q 1)):=Vr hT hq0;refine ⟨lt0,pG hE hg2 hg6 hz2 hz6 hk i0 i1 h0 y0 (fun e=>by omega) fun _=>pG hE hg2 hg6 hz2 hz6 hk i0 i1 h0 y0 (fun e=>by omega) fun _=>pG hE hg2 hg6 hz2 hz6 hk i0 i1 h0 y0 (fun _=>XZ hE hg2 hg6 hz2 hz6 hk i0 i1 h0 y0 (by omega) ⟨lt1,pG hE hg2 hg6 hz2 hz6 hk i0 i1 h1 y0 (fun e=>by omega) fun _=>pG hE hg2 hg6 hz2 hz6 hk i0 i1 h1 y0 (fun e=>by omega) fun _=>pG hE hg2 hg6 hz2 hz6 hk i0 i1 h1 y0 (fun _=>XZ hE hg2 hg6 hz2 hz6 hk i0 i1 h1 y0 (by omega) ?_) fun e=>by omega⟩) fun e=>by omega⟩;refine Xj hE hg2 hg6 hz2 hz6 hk i0 i1 hP (bF hT hq1 hE.dto) hsel hh hx (by rw [gs,if_neg (by omega)];have:=lt2 q 1 qa qb (by omega) (by omega);rw [show (2+2*q - 1) / 2=q by omega,show (2+2*q - 1) % 2=1 by omega];exact this) (Hg hE.st hE.sm hz6 i0 i1 f0 hx9 rfl (fun e=>by omega) (fun _=>rfl) fun f' a b=>?_);unfold qd;by_cases e:f'=2+2*q
   . subst e;rw [if_pos rfl,if_pos (by omega)]
   . rw [if_neg e,if_neg (by omega)];exact lt2 _ _ (by omega) (by omega) (by omega) (by omega)
end
theorem RJ {env:List D} {t r e:E} {T:Int->Nat->Int} {x y:Int} (ht:t.den JI env=some (.t T)) (hr:r.den JI env=some (.i x)) (he:e.den JI env=some (.i y)) :
   (OI t r e).den JI env=some (.t (qd (qd (qd (qd T x 0 y) x 1 y) x 2 0) x 3 0)):=bF (bF (bF (bF ht hr he) hr he) hr dl) hr dl
theorem Zo {T:Int->Nat->Int} {x y r:Int} {c:Nat} (hc:c<4):qd (qd (qd (qd T x 0 y) x 1 y) x 2 0) x 3 0 r c=if r=x then (if c<2 then y else 0) else T r c:=by
 have e:c=0\/c=1\/c=2\/c=3:=by omega
 by_cases h:r=x
 . subst h;rcases e with rfl | rfl | rfl | rfl <;> simp [qd]
 . rcases e with rfl | rfl | rfl | rfl <;> simp [qd,h]
theorem Pb {T:Int->Nat->Int} {m:Int} (m0:0<=m) (h:oP T m i) {T1:Int->Nat->Int} (h1:∀r c,c<4->T1 r c=if r=1+2*m+1 then (if c<2 then 3*m+3 else 0) else if r=1+2*m then (if c<2 then 3*m+2 else 0) else T r c):oP T1 (m+1) i:=by
 constructor
 . rw [h1 0 0 (by decide),h1 0 1 (by decide),h1 0 2 (by decide),h1 0 3 (by decide)];simp only [show ¬(0:Int)=1+2*m+1 by omega,show ¬(0:Int)=1+2*m by omega,if_false];exact h.1
 . intro q q0 q1;by_cases e:q=m
   . subst e;rw [h1 _ 0 (by decide),h1 _ 1 (by decide),h1 _ 2 (by decide),h1 _ 3 (by decide),h1 _ 0 (by decide),h1 _ 1 (by decide),h1 _ 2 (by decide),h1 _ 3 (by decide)];simp only [show ¬1+2*q=1+2*q+1 by omega,show 2+2*q=1+2*q+1 by omega,if_false,if_true];simp
   . have a:=h.2 q q0 (by omega);rw [h1 _ 0 (by decide),h1 _ 1 (by decide),h1 _ 2 (by decide),h1 _ 3 (by decide),h1 _ 0 (by decide),h1 _ 1 (by decide),h1 _ 2 (by decide),h1 _ 3 (by decide)];simp only [show ¬1+2*q=1+2*m+1 by omega,show ¬1+2*q=1+2*m by omega,show ¬2+2*q=1+2*m+1 by omega,show ¬2+2*q=1+2*m by omega,if_false];exact a
theorem TK {env:List D} {g2 g6:Int->Nat->Int} (hE:En S k i f to 289 env) (hg2:env[286]?=some (.t g2)) (hg6:env[288]?=some (.t g6)) (hz2:jq (gt S 32) (gi S 33) g2) (hz6:jq (gt S 32) (gi S 33) g6)
   (hk:k=9) (i0:0<=i) (i1:i<gi S 33):I4.vc JI env:=by
 have a33:=hE.sm.a33;have i3:(plus (.bin .mul i' (n0 3)) (n0 1)).den JI env=some (.i (i*3+1)):=j4 (H8 hE.di dl) dl;have hN0:N9.den JI env=some (.i (llen (g2 i 1) 2)):=Di hg2 hE.di;refine ⟨ku dl hN0 (yj _ _),⟨[.t (qd (qd (fun _ _=>0) 0 0 (i*3+1)) 0 1 (i*3+1)),.i 0,.i i],?_,?_⟩,?_⟩
 . simp only [qg,bF (bF (t:=.zt) (g:=fun _ _=>0) rfl (dl (n:=0)) i3 (c:=0)) (dl (n:=0)) i3 (c:=1),hE.di,show n0 0=E.lit 0 from rfl,dl]
 . refine ⟨?_,fun q a b=>by omega⟩;simp only [qd];simp;omega
 intro m T w hm0 hm1 hw hc;have h2:En S k i f to 292 (env++[.i m]++[.t T]++[.i w]):=((hE.more [.i m] (m:=290) rfl).more [.t T] (m:=291) rfl).more [.i w] rfl;have qjn:(env++[.i m]++[.t T]++[.i w])[286]?=some (.t g2):=jf (e:=.var 286) (jf (e:=.var 286) (jf (e:=.var 286) hg2));have qjm:(env++[.i m]++[.t T]++[.i w])[288]?=some (.t g6):=jf (e:=.var 288) (jf (e:=.var 288) (jf (e:=.var 288) hg6));have d9:(v 289).den JI (env++[.i m]++[.t T]++[.i w])=some (.i m):=jf (jf (hE.last (.i m)));have d10:(v 290).den JI (env++[.i m]++[.t T]++[.i w])=some (.t T):=jf ((hE.more [.i m] (m:=290) rfl).last (.t T));have d11:(v 291).den JI (env++[.i m]++[.t T]++[.i w])=some (.i w):=((hE.more [.i m] (m:=290) rfl).more [.t T] (m:=291) rfl).last (.i w);generalize env++[.i m]++[.t T]++[.i w]=Qg at *;have hN:=dN9 h2 qjn qjm hz2 hz6 hk i0 i1;have m0:0<=m:=fV (a:=n0 0) dl d9 hm0;have m1:=fV d9 hN hm1;have ew:=OQ d11 (j4 (dl (n:=1)) (H8 (dl (n:=2)) d9)) hw
 have hC:oP T m i:=by
   obtain ⟨ds,e1,e2⟩:=hc;simp only [qg,d10,d9,h2.di,Option.some.injEq] at e1;subst e1;exact e2
 have a20:=hE.sm.cut i i0 i1;have m9:=j4 d9 (dl (n:=1));have num:∀d,(Ai d).den JI Qg=some (.i (m*3+d)):=fun d=>j4 (H8 d9 dl) dl;have w2:=j4 d11 (dl (n:=1));refine wU d9 hN (fun hl=>?_) fun hl=>?_
 . refine ⟨ku (j4 d11 (dl (n:=2))) dl (by omega),iO m9 (by omega) (by omega),ku dl m9 (by omega),ku m9 hN (by omega),PO (j4 d11 (dl (n:=2))) (j4 (dl (n:=1)) (H8 (dl (n:=2)) m9)) (by omega),⟨[.t (qd (qd (qd (qd (qd (qd (qd (qd T w 0 (m*3+2)) w 1 (m*3+2)) w 2 0) w 3 0) (w+1) 0 (m*3+3)) (w+1) 1 (m*3+3)) (w+1) 2 0) (w+1) 3 0),.i (m+1),.i i],?_,?_⟩,ku dl (vH hN m9) (by omega),pX (vH hN m9) (vH hN d9) (by omega),trivial⟩
   . have:=RJ (RJ d10 d11 (num 2)) w2 (num 3);simp only [qg,show n0 1=E.lit 1 from rfl,this,m9,h2.di]
   . refine Pb m0 hC fun r c hc=>?_;rw [Zo hc,Zo hc,ew,show m*3+3=3*m+3 by omega,show m*3+2=3*m+2 by omega]
 . have em:m=llen (gt S 32 i 1) 2:=by omega
   refine wU h2.df dl (fun x=>FH h2 hk fun hh=>by have:=(qZ hh).2.2.1;omega) fun f0=>Zj d11 h2.df (fun x=>FH h2 hk fun hh=>by
     have:=(qZ hh).2.2.2.1;subst hk;have e:qj S 9 i=1+2*llen (gt S 32 i 1) 2:=by simp [qj]
     omega) fun f1=>?_
   have hs:∀c,(s9 c).den JI Qg=some (.i (T f c)):=fun c=>Vr d10 h2.df
   have key:∃y,0<=y/\T f 0=y+1/\T f 1=y+1/\T f 2=0/\T f 3=0/\(f=0/\y=3*i\/∃q:Int,0<=q/\q<llen (gt S 32 i 1) 2/\(f=1+2*q/\y=3*q+1\/f=2+2*q/\y=3*q+2)):=by
     by_cases e0:f=0
     . subst e0;obtain ⟨a,b,c,d⟩:=hC.1;exact ⟨3*i,by omega,a,b,c,d,.inl ⟨rfl,rfl⟩⟩
     . have q1:(f - 1) / 2<m:=by omega
       obtain ⟨a,b⟩:=hC.2 ((f - 1) / 2) (by omega) q1;by_cases e1:(f - 1) % 2=0
       . have ef:1+2*((f - 1) / 2)=f:=by omega
         rw [ef] at a;exact ⟨3*((f - 1) / 2)+1,by omega,by omega,by omega,a.2.2.1,a.2.2.2,.inr ⟨(f - 1) / 2,by omega,by omega,.inl ⟨ef.symm,rfl⟩⟩⟩
       . have ef:2+2*((f - 1) / 2)=f:=by omega
         rw [ef] at b;exact ⟨3*((f - 1) / 2)+2,by omega,by omega,by omega,b.2.2.1,b.2.2.2,.inr ⟨(f - 1) / 2,by omega,by omega,.inr ⟨ef.symm,rfl⟩⟩⟩
   obtain ⟨y,y0,t0,t1,t2,t3,hy⟩:=key;have g9:=Uk h2 qjn qjm hz2 hz6 hk i0 i1 (by rw [hs,t0]) (by rw [hs,t1]) y0 hy;exact jF (hs 0) dl (fun e=>by omega) fun _=>wU (hs 2) (hs 3) (fun e=>by omega) fun _=>g9
theorem RA {env:List D} {g:Int->Nat->Int} (hE:En S k i f to 287 env) (hg:env[286]?=some (.t g)) (hz:jq (gt S 32) (gi S 33) g) (hk:k=9) (i0:0<=i) (i1:i<gi S 33):Ip.vc JI env:=by
 have a33:=hE.sm.a33;have a20:=hE.sm.cut i i0 i1;have hN:N9.den JI env=some (.i (llen (g i 1) 2)):=Di hg hE.di;have z:=(hz i i0 i1).2.1;have:=yj (gt S 32 i 1) 2;have di1:=j4 hE.di (dl (n:=1));have h33:=hE.gI (m:=33) (by decide);refine ⟨p57 hN ⟨by omega,by omega⟩,iO di1 (by omega) (by omega),pX hE.di di1 (by omega),ku di1 h33 (by omega),fun y g6 hy0 hy1 h50=>?_⟩;have h3:En S k i f to 289 (env++[.i y]++[.t g6]):=(hE.more [.i y] (m:=288) rfl).more [.t g6] rfl;have hg3:(env++[.i y]++[.t g6])[286]?=some (.t g):=jf (e:=.var 286) (jf (e:=.var 286) hg);have d5:(v 287).den JI (env++[.i y]++[.t g6])=some (.i y):=jf (hE.last (.i y));have d6:(v 288).den JI (env++[.i y]++[.t g6])=some (.t g6):=(hE.more [.i y] (m:=288) rfl).last (.t g6);generalize env++[.i y]++[.t g6]=qxC at *;have h33:=h3.gI (m:=33) (by decide);have h32:=h3.gT (m:=32) (by decide);have y0:=PI h3.di d5 hy0;have y1:=fV d5 h33 hy1
 have hz6:jq (gt S 32) (gi S 33) g6:=by
   obtain ⟨ds,e1,e2⟩:=h50;simp only [v] at d6 e1;simp only [qg,h32,h33,d6,Option.some.injEq] at e1;subst e1;exact e2
 refine wU d5 h33 (fun hl=>?_) fun hl=>?_
 . exact ⟨ku dl d5 (by omega),PU d5 h3.di (by omega),YW h3.e0 d6 d5 hz6 (by omega) hl ⟨pX h3.di (j4 d5 (dl (n:=1))) (by omega),Ke h3.e0 d6 d5 hz6 (by omega) hl (ow h3.e0 d5 hl)⟩⟩
 . exact Qm h3.e0 (TK h3 hg3 d6 hz hz6 hk i0 i1) (lT h3.sm)
theorem Cj {env:List D} {a b:E} {x y:Int} (ha:a.den JI env=some (.i x)) (hb:b.den JI env=some (.i y)):(E.bin .and a b).den JI env=some (.i (if x≠0/\y≠0 then 1 else 0)):=by
 simp only [E.den,ha,hb,BO.ev]
theorem nX {env:List D} (h:Sorts (stS++[false,false,false,false]) env):∃S k i f to,St S/\env=S++[.i k,.i i,.i f,.i to]:=by
 obtain ⟨S,r,rfl,h1,h2⟩:=zB (l:=stS) h
 obtain ⟨k,i,f,to,rfl⟩:∃k i f to,r=[.i k,.i i,.i f,.i to]:=by
   match r,h2 with
   | [.i a,.i b,.i c,.i d],_=>exact ⟨a,b,c,d,rfl⟩
 exact ⟨S,k,i,f,to,⟨h1⟩,rfl⟩
theorem uN (hS:St S) (hs0:(PE.pr 31 (rgs 0 281 [])).den JI (S++[.i k,.i i,.i f,.i to])) (hr0:(PE.rng .i64 to').den JI (S++[.i k,.i i,.i f,.i to])):En S k i f to 285 (S++[.i k,.i i,.i f,.i to]):=by
 have hs:Small S:=by
   obtain ⟨ds,e1,e2⟩:=(q0 hS).1 hs0;simp only [qg,Option.some.injEq] at e1;subst e1;exact (p31' hS).1 e2
 have hto:to'.den JI (S++[.i k,.i i,.i f,.i to])=some (.i to):=by
   show (S++_)[284]?=_;rw [hS.r 284 (by omega)];rfl
 have hr:-9223372036854775808<=to/\to<=9223372036854775807:=by
   obtain ⟨n,e1,e2,e3⟩:=hr0;rw [hto] at e1;cases e1;exact ⟨e2,e3⟩
 exact ⟨hS,hs,hr,⟨[],rfl⟩,by simp [hS.len]⟩
theorem iW {env:List D} (hE:En0 S env) {w:Nat} {g:Int->Nat->Int} (hw:(v w).den JI env=some (.t g)) (h50:(PE.pr 50 [v 32,v 33,v w]).den JI env):jq (gt S 32) (gi S 33) g:=by
 have d32:=hE.gT (m:=32) (by decide);have d33:=hE.gI (m:=33) (by decide);obtain ⟨ds,e1,e2⟩:=h50;simp only [v] at hw e1;simp only [qg,d32,d33,hw,Option.some.injEq] at e1;subst e1;exact e2
theorem qqW:∀env,Sorts jk.sorts env->jR.vc JI env:=by
 intro env h;obtain ⟨S,k,i,f,to,hS,rfl⟩:=nX h;intro hs0 hr0 h9 g h50;have hE:=uN hS hs0 hr0;clear hs0 hr0
 have h9:k≠9:=by
   obtain ⟨n,e1,e2⟩:=h9
   have e3:(E.bin .ne k' (n0 9)).den JI (S++[.i k,.i i,.i f,.i to])=some (.i (if k=9 then 0 else 1)):=by
     show (E.bin .ne k' (.lit 9)).den JI _=_;simp only [E.den,hE.dk,BO.ev]
   rw [e3] at e1;intro e;rw [if_pos e] at e1;cases e1;exact e2 rfl
 have h2:En S k i f to 286 (S++[.i k,.i i,.i f,.i to]++[.t g]):=hE.more [.t g] rfl;have hw:=hE.last (.t g);generalize S++[D.i k,.i i,.i f,.i to]++[.t g]=env at *;exact TL h2 hw (iW h2.e0 hw h50) h9
theorem cl8 (hs:Small S):∀t∈[0,2,4,6,23,25,30,32],stS[t+1]?=some false/\0<=gi S (t+1)/\gi S (t+1)<=100000:=by
 intro t ht;have:=hs.a1;have:=hs.a3;have:=hs.a5;have:=hs.a7;have:=hs.a24;have:=hs.a26;have:=hs.a31;have:=hs.a33;have e:t=0\/t=2\/t=4\/t=6\/t=23\/t=25\/t=30\/t=32:=by simpa using ht
 rcases e with rfl | rfl | rfl | rfl | rfl | rfl | rfl | rfl <;> refine ⟨by decide,?_⟩
 . show 0<=gi S 1/\gi S 1<=100000;omega
 . show 0<=gi S 3/\gi S 3<=100000;omega
 . show 0<=gi S 5/\gi S 5<=100000;omega
 . show 0<=gi S 7/\gi S 7<=100000;omega
 . show 0<=gi S 24/\gi S 24<=100000;omega
 . show 0<=gi S 26/\gi S 26<=100000;omega
 . show 0<=gi S 31/\gi S 31<=100000;omega
 . show 0<=gi S 33/\gi S 33<=100000;omega
theorem UC:∀env,Sorts oO.sorts env->Rk.vc JI env:=by
 intro env h;obtain ⟨S,k,i,f,to,hS,rfl⟩:=nX h;intro hs0 hr0 h9;have hE:=uN hS hs0 hr0;have hs:=hE.sm;clear hs0 hr0
 have hk:k=9:=by
   obtain ⟨d,e1,e2⟩:=h9;rw [hE.dk] at e1;cases e1;have e2:some (D.i 9)=some (D.i k):=e2;cases e2;rfl
 clear h9;generalize S++[D.i k,.i i,.i f,.i to]=env at *;have d32:=hE.gT (m:=32) (by decide);have d33:=hE.gI (m:=33) (by decide);refine Qm hE.e0 ?_ (cl8 hs);refine ⟨ku dl d33 hs.a33.1,⟨[.t (gt S 32),.i (gi S 33),.t (gt S 32)],?_,dV⟩,⟨[.i 0,.i i,.i 9],?_,?_⟩,fun x g hx0 hx1 h50 h55=>?_⟩
 . simp only [v,qg,d32,d33]
 . simp only [qg,hE.di,show n0 0=E.lit 0 from rfl,show n0 9=E.lit 9 from rfl,dl]
 . show (9:Int)=9->i<0\/0<=i;intro _;omega
 have h5:En S k i f to 287 (env++[.i x]++[.t g]):=(hE.more [.i x] (m:=286) rfl).more [.t g] rfl;have d1:(v 285).den JI (env++[.i x]++[.t g])=some (.i x):=jf (hE.last (.i x));have d2:(v 286).den JI (env++[.i x]++[.t g])=some (.t g):=(hE.more [.i x] (m:=286) rfl).last (.t g);generalize env++[.i x]++[.t g]=Qg at *;have d33:=h5.gI (m:=33) (by decide);have x0:0<=x:=fV (a:=n0 0) dl d1 hx0;have x1:=fV d1 d33 hx1;have hz:=iW h5.e0 d2 h50
 have h55:i<0\/x<=i:=by
   obtain ⟨ds,e1,e2⟩:=h55;simp only [qg,d1,h5.di,show n0 9=E.lit 9 from rfl,dl,Option.some.injEq] at e1;subst e1;exact e2 rfl
 have c1:(n0 1).den JI Qg=some (.i 1):=rfl;have c2:(E.bin .eq (v 285) i').den JI Qg=some (.i (if x=i then 1 else 0)):=by simp only [E.den,d1,h5.di,BO.ev]
 have c3:(E.bin .le (n0 0) i').den JI Qg=some (.i (if 0<=i then 1 else 0)):=by
   show (E.bin .le (.lit 0) i').den JI Qg=_;simp only [E.den,h5.di,BO.ev]
 have c4:(E.bin .lt i' (v 33)).den JI Qg=some (.i (if i<gi S 33 then 1 else 0)):=by
   have d33:(v 33).den JI Qg=_:=d33;simp only [E.den,h5.di,d33,BO.ev]
 refine gN (Cj c1 (Cj c2 (Cj c3 c4))) (fun e=>?_) fun e=>?_
 . simp only [bE,gD] at e;exact RA h5 d2 hz hk e.2.2.1 e.2.2.2
 . simp only [bE,gD] at e;exact RI h5 d1 d2 hz x0 x1 hk h55 fun x=>e ⟨by decide,x⟩
theorem qkI:∀env,Sorts Pt.sorts env->qqH.vc JI env:=by
 intro S h;have hS:St S:=⟨h⟩;intro hs0
 have hs:Small S:=by
   obtain ⟨ds,e1,e2⟩:=(q0' hS).1 hs0;simp only [qg,Option.some.injEq] at e1;subst e1;exact (p31' hS).1 e2
 clear hs0;have hE:En0 S S:=⟨hS,hs,[],by simp⟩;have d32:=hE.gT (m:=32) (by decide);have d33:=hE.gI (m:=33) (by decide);refine Qm hE ?_ (cl8 hs);refine ⟨ku dl d33 hs.a33.1,⟨[.t (gt S 32),.i (gi S 33),.t (gt S 32)],?_,dV⟩,fun x g hx0 hx1 h50=>?_⟩
 . simp only [v,qg,d32,d33]
 have h5:En0 S (S++[.i x]++[.t g]):=⟨hS,hs,[.i x,.t g],by simp⟩
 have d1:(v 281).den JI (S++[.i x]++[.t g])=some (.i x):=by
   show (S++[.i x]++[.t g])[281]?=_;rw [List.append_assoc,hS.r 281 (by omega)];rfl
 have d2:(v 282).den JI (S++[.i x]++[.t g])=some (.t g):=by
   show (S++[.i x]++[.t g])[282]?=_;rw [List.append_assoc,hS.r 282 (by omega)];rfl
 generalize S++[.i x]++[.t g]=Qg at *;have d33:=h5.gI (m:=33) (by decide);have x0:0<=x:=fV (a:=n0 0) dl d1 hx0;have x1:=fV d1 d33 hx1;have hz:=iW h5 d2 h50;exact wU d1 d33 (fun hl=>YW h5 d2 d1 hz x0 hl ⟨ku dl (j4 d1 dl) (by omega),Ke h5 d2 d1 hz x0 hl (ow h5 d1 hl)⟩) fun hl=>Qm (K:=.ok) h5 trivial (lT hs)
end Go.Sp
noncomputable section
namespace Go.Sp
open Go Go.Sx
def tPS:Tree:=(.assume (.pr 57 [.var 1]) (.assert (.tt (.bin .le (.lit 0) (.var 1))) (.assert (.pr 54 [.zt,(.lit 0)]) (.qp false (.qp true (.qp false (.assume (.tt (.bin .le (.lit 0) (.var 2))) (.assume (.tt (.bin .le (.var 2) (.var 1))) (.assume (.tt (.bin .eq (.var 4) (.bin .mul (.var 2) (.lit 2)))) (.assume (.pr 54 [.var 3,.var 4]) (.branch (.bin .lt (.var 2) (.var 1)) (.assert (.tt (.bin .le (.bin .add (.var 4) (.lit 2)) (.lit 1000000))) (.assert (.rng .i64 (.bin .add (.var 2) (.lit 1))) (.assert (.tt (.bin .le (.lit 0) (.bin .add (.var 2) (.lit 1)))) (.assert (.tt (.bin .le (.bin .add (.var 2) (.lit 1)) (.var 1))) (.assert (.tt (.bin .eq (.bin .add (.var 4) (.lit 2)) (.bin .mul (.bin .add (.var 2) (.lit 1)) (.lit 2)))) (.assert (.pr 54 [(.upd (.upd (.upd (.upd (.upd (.upd (.upd (.upd (.var 3) (.var 4) 0 (.bin .add (.bin .mul (.var 2) (.lit 2)) (.lit 1))) (.var 4) 1 (.bin .add (.bin .mul (.var 2) (.lit 2)) (.lit 1))) (.var 4) 2 (.lit 0)) (.var 4) 3 (.lit 0)) (.bin .add (.var 4) (.lit 1)) 0 (.bin .add (.bin .mul (.var 2) (.lit 2)) (.lit 2))) (.bin .add (.var 4) (.lit 1)) 1 (.bin .add (.bin .mul (.var 2) (.lit 2)) (.lit 2))) (.bin .add (.var 4) (.lit 1)) 2 (.lit 0)) (.bin .add (.var 4) (.lit 1)) 3 (.lit 0)),(.bin .add (.var 4) (.lit 2))]) (.assert (.tt (.bin .le (.lit 0) (.bin .sub (.var 1) (.bin .add (.var 2) (.lit 1))))) (.assert (.tt (.bin .lt (.bin .sub (.var 1) (.bin .add (.var 2) (.lit 1))) (.bin .sub (.var 1) (.var 2)))) .ok)))))))) (.assert (.same (.var 4) (.bin .mul (.var 1) (.lit 2))) .ok))))))))))))
def tCl (w:Nat):Tree:=(.assume (.tt (.bin .le (.lit 0) (.var 1))) (.assume (.tt (.bin .le (.var 1) (.lit 100000))) (.both (.branch (.bin .eq (.var 1) (.lit 0)) (.assert (.same (.lit 0) (.var 1)) (.assert (.agr .zt (.var 0) (.var 1) w) .ok)) .ok) (.assert (.tt (.bin .le (.var 1) (.lit 1000000))) (.assert (.agr (.var 0) (.var 0) (.var 1) w) .ok)))))
def OM:Tree:=(.assume (.tt (.bin .le (.fn 1014 (.var 0) (.lit 2) (.lit 0) (.lit 0)) (.lit 100000))) (.both (.branch (.bin .eq (.fn 1014 (.var 0) (.lit 2) (.lit 0) (.lit 0)) (.lit 0)) (.assert (.same (.lit 0) (.fn 1014 (.var 0) (.lit 2) (.lit 0) (.lit 0))) (.assert (.agr .zt (.fn 1017 (.var 0) (.lit 2) (.lit 0) (.lit 0)) (.lit 0) 2) .ok)) .ok) (.assert (.tt (.bin .le (.fn 1014 (.var 0) (.lit 2) (.lit 0) (.lit 0)) (.lit 1000000))) (.assert (.agr (.fn 1017 (.var 0) (.lit 2) (.lit 0) (.lit 0)) (.fn 1017 (.var 0) (.lit 2) (.lit 0) (.lit 0)) (.fn 1014 (.var 0) (.lit 2) (.lit 0) (.lit 0)) 2) .ok))))
theorem vCl {w:Nat}:∀env,Sorts [true,false] env->(tCl w).vc JI env:=by
 intro env h
 obtain ⟨f,m,rfl⟩:∃f m,env=[.t f,.i m]:=by
   match env,h with
   | [.t f,.i m],_=>exact ⟨f,m,rfl⟩
 simp only [tCl,Tree.vc,PE.den,E.den,BO.ev,List.getElem?_cons_zero,List.getElem?_cons_succ,Option.some.injEq,D.i.injEq,D.t.injEq,exists_eq_left',bE,gD,and_true];intro h0 h1;refine ⟨⟨fun n hn hz=>?_,fun _=>trivial⟩,by omega,?_⟩
 . have e:m=0:=by
     by_cases e:m=0
     . exact e
     . rw [if_neg e] at hn;omega
   subst e;exact ⟨rfl,_,_,_,rfl,rfl,rfl,fun r c a b=>by omega⟩
 . exact ⟨_,_,_,rfl,rfl,rfl,fun _ _ _ _ _=>rfl⟩
theorem qkO:∀env,Sorts [false] env->OM.vc JI env:=by
 intro env h
 obtain ⟨m,rfl⟩:∃m,env=[.i m]:=by
   match env,h with
   | [.i m],_=>exact ⟨m,rfl⟩
 simp only [OM,Tree.vc,PE.den,E.den,BO.ev,List.getElem?_cons_zero,Option.some.injEq,D.i.injEq,D.t.injEq,exists_eq_left',bE,gD,and_true,wV,wX,gL];intro h0;refine ⟨⟨fun n hn hz=>?_,fun _=>trivial⟩,by omega,?_⟩
 . have e:llen m 2=0:=by
     by_cases e:llen m 2=0
     . exact e
     . rw [if_neg e] at hn;omega
   exact ⟨e,_,_,_,rfl,rfl,rfl,fun r c a b=>by omega⟩
 . exact ⟨_,_,_,rfl,rfl,rfl,fun _ _ _ _ _=>rfl⟩
theorem Dt {T T1:Int->Nat->Int} {n:Int} (n0:0<=n) (h:eX T n) (h1:∀r c,c<4->T1 r c=if r=n+1 then (if c<2 then n+2 else 0) else if r=n then (if c<2 then n+1 else 0) else T r c):eX T1 (n+2):=by
 intro r r0 r1;rw [h1 r 0 (by decide),h1 r 1 (by decide),h1 r 2 (by decide),h1 r 3 (by decide)];by_cases e:r=n+1
 . subst e;simp;omega
 rw [if_neg e,if_neg e,if_neg e,if_neg e];by_cases e2:r=n
 . subst e2;simp
 rw [if_neg e2,if_neg e2,if_neg e2,if_neg e2];exact h r r0 (by omega)
theorem qwS {n:Int}:JI.pr 57 [.i n]↔0<=n/\n<=100000:=Iff.rfl
theorem p54 {T:Int->Nat->Int} {n:Int}:JI.pr 54 [.t T,.i n]↔eX T n:=Iff.rfl
theorem vPS:∀env,Sorts [true,false] env->tPS.vc JI env:=by
 intro env h
 obtain ⟨f,m,rfl⟩:∃f m,env=[.t f,.i m]:=by
   match env,h with
   | [.t f,.i m],_=>exact ⟨f,m,rfl⟩
 simp only [tPS,Tree.vc,bN,wZ,yE,QS,qg,E.den,BO.ev,List.getElem?_cons_zero,List.getElem?_cons_succ,Option.some.injEq,D.i.injEq,exists_eq_left',bE,gD,and_true,List.cons_append,List.nil_append,p54,qwS,oK,imax];rintro ⟨h0,h1⟩;refine ⟨h0,fun r a b=>by omega,fun i T n hi0 hi1 hn hP=>⟨fun z hz hz0=>?_,fun hz=>?_⟩⟩
 . have hl:i<m:=by
     by_cases e:i<m
     . exact e
     . rw [if_neg e] at hz;omega
   refine ⟨by omega,⟨by omega,by omega⟩,by omega,by omega,by omega,Dt (by omega) hP fun r c hc=>?_,by omega,by omega⟩;have:=Zo (T:=qd (qd (qd (qd T n 0 (n+1)) n 1 (n+1)) n 2 0) n 3 0) (x:=n+1) (y:=n+2) (r:=r) hc;have h2:=Zo (T:=T) (x:=n) (y:=n+1) (r:=r) hc;rw [show i*2+1=n+1 by omega,show i*2+2=n+2 by omega,this,h2]
 . have e:i=m:=by
     by_cases e:i<m
     . exact (hz e).elim
     . omega
   omega
end Go.Sp
end
noncomputable section
namespace Go.Sp
open Go Go.Sx
abbrev A:Mask:=.all
abbrev O:Mask:=.none
def Dn:Nat->Mask->Mask
 | 0,m=>m
 | n+1,m=>.node .none (Dn n m)
def Up:Nat->Mask->Mask
 | 0,m=>m
 | n+1,m=>.node .all (Up n m)
def zU:List Mask:=
 [(Up 4 O),
  (Dn 4 (.node (Up 5 O) O)),
  (Dn 4 (.node (Dn 5 (Up 6 O)) O)),
  (Dn 4 (.node (Dn 11 A) O)),
  (Dn 5 (.node (Up 5 O) O)),
  (Dn 5 (.node (Dn 5 (Up 6 O)) O)),
  (Dn 5 (.node (Dn 11 A) O)),
  (Dn 6 (.node (Up 5 O) O)),
  (Dn 6 (.node (Dn 5 (Up 6 O)) O)),
  (Dn 6 (.node (Dn 11 A) O)),
  (Dn 7 (.node (Up 3 O) O)),
  (Dn 7 (.node (Dn 3 (.node A (.node A O))) O)),
  (Dn 7 (.node (Dn 5 (.node A (.node A O))) O)),
  (Dn 7 (.node (Dn 7 (.node A (.node A O))) O)),
  (Dn 7 (.node (Dn 9 (.node A (.node A O))) O)),
  (Dn 7 (.node (Dn 11 (.node A (.node A O))) O)),
  (Dn 7 (.node (Dn 13 (.node A (.node A O))) O)),
  (Dn 7 (.node (Dn 15 A) O)),
  (Dn 8 (.node A O)),
  (Dn 9 (Up 4 O)),
  (Dn 13 (.node A (.node A (.node (Up 9 O) O)))),
  (Dn 15 (.node (Dn 9 (Up 9 O)) O)),
  (Dn 15 (.node (Dn 18 (Up 8 O)) O)),
  (Dn 15 (.node (Dn 26 (Up 7 O)) O)),
  (Dn 15 (.node (Dn 33 (Up 7 O)) O)),
  (Dn 15 (.node (Dn 40 (Up 6 O)) O)),
  (Dn 15 (.node (Dn 46 (Up 6 O)) O)),
  (Dn 15 (.node (Dn 52 (Up 6 O)) O)),
  (Dn 15 (.node (Dn 58 (Up 5 O)) O)),
  (Dn 15 (.node (Dn 63 A) O)),
  (Dn 16 A)]
def WR:List Mask:=
 [(.node (Up 6 O) O),
  (.node (Dn 6 A) A)]
end Go.Sp
end
