/-
  Operations that leave memory alone: what the executor says of them is so. Conditions: none.
-/
import Derived.Test.YtmjjjhinedogjaaGreatDoorA1
import Derived.Laws.IdiomStrings
import Derived.Laws.Strings
noncomputable section
namespace Go.Sx
open Go
variable {A:Amb} {I:Itp} {P:Program} {g:G} {X:Nat->Prop} {ts:qO} {a:Act} {M:Mem} {w:World}
theorem sJ {x:Value} {v:AV} (h:ofValue x=some v):Rel I g v x:=by
 cases x with
 | bool b=>simp only [ofValue,Option.some.injEq] at h;subst h;cases b <;> simp [Rel,E.den]
 | int k n=>simp only [ofValue,Option.some.injEq] at h;subst h;simp [Rel,E.den]
 | pointer p=>cases p <;> simp [ofValue] at h;subst h;simp [Rel]
 | slice p n c=>
   cases p with
   | some _=>simp [ofValue] at h
   | none=>
     cases n with
     | succ _=>simp [ofValue] at h
     | zero=>cases c with
       | succ _=>simp [ofValue] at h
       | zero=>simp [ofValue] at h;subst h;simp [Rel]
 | nilFunc=>simp [ofValue] at h;subst h;simp [Rel]
 | map r=>
   cases r with
   | some _=>simp [ofValue] at h
   | none=>simp [ofValue] at h;subst h;simp [Rel]
 | nilIface=>simp [ofValue] at h;subst h;simp [Rel]
 | string s=>simp [ofValue] at h;subst h;simp [Rel]
 | _=>simp [ofValue] at h
theorem xY:∀{xs:List Value} {l:List AV},ofValues xs=some l->qw I g l xs
 | [],l,h=>by simp [ofValues] at h;subst h;trivial
 | x::xs,l,h=>by
   simp only [ofValues] at h;split at h
   . rename_i v vs h1 h2;simp at h;subst h;exact ⟨sJ h1,xY h2⟩
   . cases h
theorem zl {o:Operand} {v:AV} (ht:wG I g X ts a.tmps) (h:evalOp ts o=some v) (hx:∀t,o=.tmp t->¬X t):Rel I g v (a.eval o):=by
 cases o with
 | tmp t=>
   simp only [evalOp] at h;split at h
   . rename_i u hu;split at h
     . cases h
     . simp at h;subst h;obtain ⟨x,h1,h2⟩:=ht t u hu (hx t rfl);simpa [Act.eval,h1] using h2
   . cases h
 | const x=>exact sJ h
 | func f=>simp only [evalOp,Option.some.injEq] at h;subst h;exact ⟨#[],rfl,trivial⟩
 | global v=>simp only [evalOp,Option.some.injEq] at h;subst h;rfl
theorem lM {ts:qO} {o:Operand} {v:AV} (h:evalOp ts o=some v):v≠.any:=by
 intro e;subst e;cases o with
 | tmp t=>
   simp only [evalOp] at h;split at h
   . rename_i u hu;split at h
     . cases h
     . rename_i hn;simp at h;subst h;exact hn rfl
   . cases h
 | const x=>
   simp only [evalOp] at h;unfold ofValue at h;split at h <;> simp at h
 | func f=>simp [evalOp] at h
 | global _=>simp [evalOp] at h
theorem xg (ht:wG I g X ts a.tmps):∀{os:List Operand} {l:List AV},vP ts os=some l->(∀t,.tmp t∈os->¬X t)->qw I g l (os.map a.eval)
 | [],l,h,_=>by simp [vP] at h;subst h;trivial
 | o::os,l,h,hx=>by
   simp only [vP] at h;split at h
   . rename_i v vs h1 h2;simp at h;subst h;exact ⟨zl ht h1 fun t e=>hx t (by simp [e]),xg ht h2 fun t e=>hx t (by simp [e])⟩
   . cases h
theorem wN (ht:wG I g X ts a.tmps):∀{os:List (Nat × Operand)} {l:List (Nat × AV)},kr ts os=some l->(∀t,.tmp t∈os.map (·.2)->¬X t)->
   l.map (·.1)=os.map (·.1)/\qw I g (l.map (·.2)) (os.map fun x=>a.eval x.2)/\∀x∈l,x.2≠.any/\x.2.mW=false
 | [],l,h,_=>by simp [kr] at h;subst h;exact ⟨rfl,trivial,by simp⟩
 | (i,o)::os,l,h,hx=>by
   simp only [kr] at h;split at h
   . rename_i v vs h1 h2;split at h
     . cases h
     rename_i hbig;simp at h;subst h;obtain ⟨h3,h4,h5⟩:=wN ht h2 fun t e=>hx t (by simp at e ⊢;exact .inr e)
     exact ⟨by simp [h3],⟨zl ht h1 fun t e=>hx t (by simp;exact .inl e.symm),h4⟩,fun x hx=>by
       simp at hx;rcases hx with rfl | hx
       . exact ⟨lM h1,by simpa using hbig⟩
       . exact h5 x hx⟩
   . cases h
theorem y9 {t:TypeId} {ag:Bool} (h:wI P t=some ag) (w:World):(isAgg t).run P w=.ok ag w:=by
 unfold wI at h;cases hu:P.underlying t with
 | none=>simp [hu] at h
 | some d=>
   rw [hu] at h;simp only [isAgg,Sem.run_bind,run_underlying hu,Result.andThen];cases d <;> simp at h <;> subst h <;> rfl
theorem qD {t:TypeId} {n:Nat} (h:qo P t=some n) (w:World):(sizeOf t).run P w=.ok n w:=by
 unfold qo at h;cases hi:P.info? t with
 | none=>simp [hi] at h
 | some i=>
   rw [hi] at h;simp at h;simp [sizeOf,typeInfo,Sem.run_bind,hi,Result.andThen,h]
theorem vD {t:TypeId} {i:TypeInfo} (h:P.info? t=some i) (w:World):(typeInfo t).run P w=.ok i w:=by
 simp [typeInfo,Sem.run_bind,h,Result.andThen]
theorem zC {t:TypeId} {z:AV} (h:zJ P t=some z):∃(i:TypeInfo) (x:Value),P.info? t=some i/\i.zero=some x/\(∀w,(zeroValue t).run P w=.ok x w)/\
   ∀(I:Itp) (g:G),Rel I g z x/\qw I g z.cells x.cells.toList:=by
 unfold zJ at h;cases hi:P.info? t with
 | none=>simp [hi] at h
 | some i=>
   cases hz:i.zero with
   | none=>simp [hi,hz] at h
   | some x=>
     refine ⟨i,x,rfl,hz,fun w=>by simp [zeroValue,vD hi,Sem.run_bind,Result.andThen,hz],fun I g=>?_⟩;simp only [hi,hz,Option.bind_some] at h;cases x with
     | agg cs=>
       simp only at h;cases ho:ofValues cs.toList with
       | none=>simp [ho] at h
       | some l=>
         simp [ho] at h;subst h;exact ⟨⟨cs,rfl,xY ho⟩,by simpa [AV.cells,Value.cells] using xY ho⟩
     | _=>
       simp only at h;have h1:=sJ (I:=I) (g:=g) h;refine ⟨h1,?_⟩
       first
         | (have h2:z.cells=[z]:=by unfold ofValue at h;split at h <;> simp at h <;> subst h <;> rfl
            rw [h2];exact ⟨h1,trivial⟩)
theorem mH {v:AV} {x:Value} (h:Rel I g v x) (hv:v≠.any) (hb:v.mW=false):qw I g v.cells x.cells.toList:=by
 cases v with
 | any=>exact absurd rfl hv
 | agg l=>
   simp only [Rel] at h;obtain ⟨cs,rfl,h2⟩:=h;exact h2
 | slice b lo len s nl=>
   have h0:=h;simp only [Rel] at h;obtain ⟨l,n,_,_,_,_,⟨p,cap,_,rfl,_⟩ | ⟨_,_,_,rfl⟩⟩:=h <;> exact ⟨h0,trivial⟩
 | undef=>have h0:=h;simp only [Rel] at h;subst h;exact ⟨h0,trivial⟩
 | bool e=>have h0:=h;simp only [Rel] at h;obtain ⟨n,_,rfl⟩:=h;exact ⟨h0,trivial⟩
 | int k e=>have h0:=h;simp only [Rel] at h;obtain ⟨n,_,rfl⟩:=h;exact ⟨h0,trivial⟩
 | wP=>have h0:=h;simp only [Rel] at h;subst h;exact ⟨h0,trivial⟩
 | ptr b r s k=>have h0:=h;simp only [Rel] at h;obtain ⟨n,p,_,_,_,rfl⟩:=h;exact ⟨h0,trivial⟩
 | qJ=>have h0:=h;simp only [Rel] at h;subst h;exact ⟨h0,trivial⟩
 | func f c=>have h0:=h;simp only [Rel] at h;obtain ⟨cs,rfl,_⟩:=h;exact ⟨h0,trivial⟩
 | yld b=>have h0:=h;simp only [Rel] at h;obtain ⟨p,_,rfl⟩:=h;exact ⟨h0,trivial⟩
 | jY=>have h0:=h;simp only [Rel] at h;subst h;exact ⟨h0,trivial⟩
 | tup l=>have h0:=h;simp only [Rel] at h;obtain ⟨cs,rfl,_⟩:=h;exact ⟨h0,trivial⟩
 | big=>simp [AV.mW] at hb
 | cap0=>have h0:=h;simp only [Rel] at h;obtain ⟨a,rfl⟩:=h;exact ⟨h0,trivial⟩
 | empty=>have h0:=h;simp only [Rel] at h;obtain ⟨a,c,rfl⟩:=h;exact ⟨h0,trivial⟩
 | asl=>have h0:=h;simp only [Rel] at h;obtain ⟨p,cap,_,_,rfl⟩:=h;exact ⟨h0,trivial⟩
 | yN=>have h0:=h;simp only [Rel] at h;obtain ⟨ms,cs,rfl,_⟩:=h;exact ⟨h0,trivial⟩
 | bK=>have h0:=h;simp only [Rel] at h;subst h;exact ⟨h0,trivial⟩
 | str=>have h0:=h;simp only [Rel] at h;obtain ⟨b,rfl,_⟩:=h;exact ⟨h0,trivial⟩
 | wE=>have h0:=h;simp only [Rel] at h;obtain ⟨f,k,s,_,_,rfl,_⟩:=h;exact ⟨h0,trivial⟩
 | mM=>have h0:=h;simp only [Rel] at h;obtain ⟨a,rfl⟩:=h;exact ⟨h0,trivial⟩
 | mref b=>have h0:=h;simp only [Rel] at h;obtain ⟨p,_,rfl⟩:=h;exact ⟨h0,trivial⟩
 | gV=>have h0:=h;simp only [Rel] at h;subst h;exact ⟨h0,trivial⟩
 | xk=>have h0:=h;simp only [Rel] at h;subst h;exact ⟨h0,trivial⟩
 | sat=>have h0:=h;simp only [Rel] at h;obtain ⟨n,_,rfl⟩:=h;exact ⟨h0,trivial⟩
 | lst ks e=>have h0:=h;simp only [Rel] at h;obtain ⟨n,_,h⟩:=h;rcases h with ⟨⟨a,rfl⟩,_⟩ | ⟨o,off,len,cap,cs,rfl,_⟩ <;> exact ⟨h0,trivial⟩
 | ifo=>have h0:=h;simp only [Rel] at h;obtain ⟨n,_,⟨_,rfl⟩ | ⟨_,t,p,rfl⟩⟩:=h <;> exact ⟨h0,trivial⟩
 | gZ a=>have h0:=h;simp only [Rel] at h;obtain ⟨o,q,z,y,rfl,_⟩:=h;exact ⟨h0,trivial⟩
 | fco cs e=>have h0:=h;simp only [Rel] at h;obtain ⟨n,_,h⟩:=h;rcases h with ⟨_,rfl⟩ | ⟨_,c,p,o,q,z,_,_,rfl,_⟩ <;> exact ⟨h0,trivial⟩
 | xV ks e i k=>have h0:=h;simp only [Rel] at h;obtain ⟨n,j,_,_,_,o,off,len,cs,rfl,_⟩:=h;exact ⟨h0,trivial⟩
section den
variable {env:List D}
theorem nI {o:BO} {a b:E} {x y:Int} (ha:a.den I env=some (.i x)) (hb:b.den I env=some (.i y)):(E.bin o a b).den I env=some (.i (o.ev x y)):=by
 simp [E.den,ha,hb]
theorem qy {o:BO} {a b:E} {x y:Int} (ha:a.den I env=some (.i x)) (hb:b.den I env=some (.i y)):(mkBin o a b).den I env=some (.i (o.ev x y)):=by
 unfold mkBin;split
 . simp [E.den] at ha hb;subst ha;subst hb;rfl
 . exact nI ha hb
theorem zk {a b:E} {x y:Int} (ha:a.den I env=some (.i x)) (hb:b.den I env=some (.i y)):(mkAdd a b).den I env=some (.i (x+y)):=by
 unfold mkAdd;split
 . simp [E.den] at ha hb;subst ha;subst hb;rfl
 . simp [E.den] at ha;subst ha;simpa using hb
 . simp [E.den] at hb;subst hb;simpa using ha
 . rename_i a' p q _;simp only [E.den] at ha;split at ha
   . rename_i u v h1 h2;simp [E.den] at h2 hb;simp [BO.ev] at ha;subst h2;subst hb;subst ha;split
     . rename_i h0;rw [h1];congr 2;omega
     . rw [nI h1 (show (E.lit (p+q)).den I env=some (.i (p+q)) from rfl)];simp only [BO.ev];congr 2;omega
   . cases ha
 . exact nI ha hb
theorem gu {a b:E} {x:Int} (h:(E.bin .add a b).den I env=some (.i x)):∃u v,a.den I env=some (.i u)/\b.den I env=some (.i v)/\x=u+v:=by
 simp only [E.den] at h;split at h
 . rename_i u v h1 h2;simp [BO.ev] at h;exact ⟨u,v,h1,h2,h.symm⟩
 . cases h
theorem xu {a b:E} {x y:Int} (ha:a.den I env=some (.i x)) (hb:b.den I env=some (.i y)):(mkSub a b).den I env=some (.i (x - y)):=by
 unfold mkSub;split
 . simp [E.den] at ha hb;subst ha;subst hb;rfl
 . simp [E.den] at hb;subst hb;simpa using ha
 . rename_i a' p q _;obtain ⟨u,v,h1,h2,rfl⟩:=gu ha;simp [E.den] at h2 hb;subst h2;subst hb;split
   . rw [h1];congr 2;omega
   . rw [nI h1 (show (E.lit (p - q)).den I env=some (.i (p - q)) from rfl)];simp only [BO.ev];congr 2;omega
 . rename_i a' p b' q;obtain ⟨u,v,h1,h2,rfl⟩:=gu ha;simp [E.den] at h2;subst h2;split
   . rename_i he;subst he;obtain ⟨u',v',h3,h4,rfl⟩:=gu hb;simp [E.den] at h4;subst h4;rw [h1] at h3;cases h3;simp only [E.den];congr 2;omega
   . split
     . rename_i he;subst he;rw [h1] at hb;cases hb;simp only [E.den];congr 2;omega
     . exact nI ha hb
 . rename_i a' p _ _ _;obtain ⟨u,v,h1,h2,rfl⟩:=gu ha;simp [E.den] at h2;subst h2;split
   . rename_i he;subst he;rw [h1] at hb;cases hb;simp only [E.den];congr 2;omega
   . exact nI ha hb
 . split
   . rename_i he;subst he;rw [ha] at hb;cases hb;simp [E.den]
   . exact nI ha hb
theorem nU {k:IntKind} {a:E} {x:Int} (ha:a.den I env=some (.i x)):(mkWrap k a).den I env=some (.i (k.wrap x)):=by
 unfold mkWrap;split
 . simp [E.den] at ha;subst ha;rfl
 . simp [E.den,ha]
theorem Kj {e:E} {n:Int} (h:isLit e=some n):e=.lit n:=by
 cases e <;> simp [isLit] at h;subst h;rfl
theorem oN {t r:E} {c:Nat} {f:Int->Nat->Int} {x:Int} (ht:t.den I env=some (.t f)) (hr:r.den I env=some (.i x)):(E.sel t r c).den I env=some (.i (f x c)):=by
 simp [E.den,ht,hr]
theorem ZG {t r v:E} {c:Nat} {f:Int->Nat->Int} {x y:Int} (ht:t.den I env=some (.t f)) (hr:r.den I env=some (.i x)) (hv:v.den I env=some (.i y)) :
   (E.upd t r c v).den I env=some (.t (qd f x c y)):=by simp [E.den,ht,hr,hv]
theorem tV {t r v:E} {c:Nat} {f:Int->Nat->Int} (h:(E.upd t r c v).den I env=some (.t f)) :
   ∃f0 x y,t.den I env=some (.t f0)/\r.den I env=some (.i x)/\v.den I env=some (.i y)/\f=qd f0 x c y:=by
 simp only [E.den] at h;split at h
 . rename_i f0 x y h1 h2 h3;simp at h;exact ⟨f0,x,y,h1,h2,h3,h.symm⟩
 . cases h
theorem jU:∀{t:E} {r:E} {c:Nat} {f:Int->Nat->Int} {x:Int},t.den I env=some (.t f)->r.den I env=some (.i x)->(kJ t r c).den I env=some (.i (f x c)):=by
 intro t
 induction t with
 | zt=>intro r c f x ht hr;simp [E.den] at ht;subst ht;rfl
 | kt row=>intro r c f x ht hr;simp [E.den] at ht;subst ht;rfl
 | bt b=>
   intro r c f x ht hr;have e:b.tab=f:=by simpa [E.den] using ht
   subst e;cases r with
   | lit q => obtain rfl:q=x:=by simpa [E.den] using hr
              rfl
   | _=>exact oN ht hr
 | upd t r0 c0 v iht _ _=>
   intro r c f x ht hr;obtain ⟨f0,x0,y0,h1,h2,h3,rfl⟩:=tV ht;unfold kJ;split
   . rename_i hc;rw [iht h1 hr];simp only [qd];rw [if_neg (by intro h;exact hc h.2.symm)]
   . rename_i hc;simp only [ne_eq,Decidable.not_not] at hc;subst hc;split
     . rename_i he;subst he;rw [h2] at hr;simp at hr;subst hr;rw [h3];simp [qd]
     . rename_i he;split
       . rename_i m n;rw [iht h1 hr];simp [E.den] at h2 hr;subst h2;subst hr;simp only [qd];rw [if_neg (by intro h;exact he (by rw [h.1]))]
       . exact oN ht hr
 | sh t n iht _=>
   intro r c f x ht hr;simp only [E.den] at ht;split at ht
   . rename_i f0 y h1 h2;simp at ht;subst ht;unfold kJ;exact iht h1 (zk hr h2)
   . cases ht
 | fn j a b e d _ _ _ _=>
   intro r c f x ht hr;unfold kJ;split
   . rename_i hj;subst hj
     have e:Nc=f:=by
       have ht':=ht;simp only [E.den] at ht';split at ht'
       . exact D.t.inj (Option.some.inj ht')
       . cases ht'
     subst e;unfold Nc;split
     . exact zk hr rfl
     . rfl
   . exact oN ht hr
 | _=>intro r c f x ht hr;first | exact oN ht hr | (unfold kJ;exact oN ht hr)
theorem YZ {l:List UInt8}:∀{i:Nat} {t:E} {f:Int->Nat->Int},t.den I env=some (.t f)->
   ∃f',(ZA i t l).den I env=some (.t f')/\(∀(j:Nat),j<i->f' j 0=f j 0)/\∀(j:Nat) (b:UInt8),l[j]?=some b->f' ((i+j:Nat):Int) 0=b.toNat:=by
 induction l with
 | nil=>intro i t f ht;exact ⟨f,ht,fun _ _=>rfl,fun j b h=>by simp at h⟩
 | cons b l ih=>
   intro i t f ht;obtain ⟨f',h1,h2,h3⟩:=ih (i:=i+1) (t:=.upd t (.lit i) 0 (.lit b.toNat)) (f:=qd f i 0 b.toNat) (by simp [E.den,ht]);refine ⟨f',h1,fun j hj=>?_,fun j c hc=>?_⟩
   . rw [h2 j (by omega)];simp only [qd];rw [if_neg (by omega)]
   . cases j with
     | zero=>
       simp at hc;subst hc;have:=h2 i (by omega);simpa [qd] using this
     | succ j=>
       have:=h3 j c (by simpa using hc);rw [<-this];congr 1;omega
theorem ZO (l:List UInt8):∃f,(YJ l).den I env=some (.t f)/\∀(i:Nat) (b:UInt8),l[i]?=some b->f i 0=b.toNat:=by
 obtain ⟨f,h1,_,h2⟩:=YZ (I:=I) (env:=env) (l:=l) (i:=0) (t:=.zt) (f:=fun _ _=>0) rfl;exact ⟨f,h1,fun i b h=>by simpa using h2 i b h⟩
end den
theorem addr_add (b o j:Nat):(⟨b,o,none⟩:Addr).add j=⟨b,o+j,none⟩:=by
 unfold Addr.add;split <;> simp_all
theorem za {p o:Nat} {c:Array Value} {T:TypeId} {fr:Nat × Nat} (h:w.heap[p]?=some (.cells c T fr)):w.cell? ⟨p,o,none⟩=c[o]?:=by
 simp [World.cell?,h]
theorem kT {t:TypeId} {n o b:Nat} {cs:List Value} (hag:wI P t=some true) (hn:qo P t=some n) (hl:cs.length=n)
   (h:∀j v,cs[j]?=some v->w.cell? ⟨b,o+j,none⟩=some v):(Instr.loadAt t (.pointer (some ⟨b,o,none⟩))).run P w=.ok (.agg cs.toArray) w:=by
 have h1:=run_loadCells_list (P:=P) w ⟨b,o,none⟩ cs (fun j v hv=>by rw [addr_add];exact h j v hv);rw [hl] at h1;simp [Instr.loadAt,Instr.sureAddr,loadVar,y9 hag,qD hn,Result.andThen,h1]
theorem kQ {t:TypeId} {o b:Nat} {v:Value} (hag:wI P t=some false) (h:w.cell? ⟨b,o,none⟩=some v) :
   (Instr.loadAt t (.pointer (some ⟨b,o,none⟩))).run P w=.ok v w:=by
 simp [Instr.loadAt,Instr.sureAddr,loadVar,y9 hag,Result.andThen,h]
theorem kZ {ks:List CK} {t r:E} {f:Int->Nat->Int} {x:Int} (ht:t.den I g.env=some (.t f)) (hr:r.den I g.env=some (.i x)) (X:Nat->Value)
   (hX:∀(j:Nat) (c:CK),ks[j]?=some c->c.rel g (f x j) (X j)) :
   ∀(n k:Nat) {l:List AV},jS ks t r k n=some l->l.length=n/\
     ∃xs:List Value,qw I g l xs/\∀j v,xs[j]?=some v->∃c,ks[k+j]?=some c/\v=X (k+j)
 | 0,k,l,h=>by simp [jS] at h;subst h;exact ⟨rfl,[],trivial,by simp⟩
 | n+1,k,l,h=>by
   simp only [jS] at h;split at h
   . rename_i c m h1 h2;simp at h;subst h;obtain ⟨h3,xs,h4,h5⟩:=kZ ht hr X hX n (k+1) h2;refine ⟨by simp [h3],X k::xs,⟨?_,h4⟩,fun j v hv=>?_⟩
     . have:=jU (c:=k) ht hr;exact wY this (hX k c h1)
     . cases j with
       | zero=>simp at hv;exact ⟨c,by simpa using h1,hv.symm⟩
       | succ j=>
         simp at hv;obtain ⟨c',h6,h7⟩:=h5 j v hv;exact ⟨c',by rw [<-h6];congr 1;omega,by rw [h7];congr 1;omega⟩
   . cases h
theorem yL {k:CK} {n:Int} {x:Option Value} (h:k.at g n x):k.rel g n (x.getD Go.undef)/\x=some (x.getD Go.undef):=by
 obtain ⟨y,rfl,h⟩:=h;exact ⟨h,rfl⟩
theorem zH {r len:E} {x n:Int} (hr:r.den I g.env=some (.i x)) (hn:len.den I g.env=some (.i n)) (h:∀q∈kK r len,q.den I g.env):0<=x/\x<n:=by
 have h1:=h _ (by simp [kK];exact .inl rfl);have h2:=h _ (by simp [kK];exact .inr rfl);obtain ⟨a,ha,ha'⟩:=h1;obtain ⟨b,hb,hb'⟩:=h2;rw [qy (x:=0) rfl hr] at ha;rw [qy hr hn] at hb;simp [BO.ev] at ha hb;constructor
 . by_cases h0:0<=x
   . exact h0
   . rw [if_neg h0] at ha;omega
 . by_cases h0:x<n
   . exact h0
   . rw [if_neg h0] at hb;omega
theorem kX {α:Type} {f:Nat->α} {n j:Nat} {v:α} (h:((List.range n).map f)[j]?=some v):j<n/\v=f j:=by
 rcases Nat.lt_or_ge j n with hj | hj
 . simp [hj] at h;exact ⟨hj,h.symm⟩
 . rw [List.getElem?_eq_none (by simpa using hj)] at h;cases h
theorem nA {l:List AV} {i n base q:Nat} {ag:Bool} {v:AV} {t:TypeId} {c:Array Value} {T:TypeId} {fr:Nat × Nat} (h:jl l i n ag=some v) (hh:w.heap[q]?=some (.cells c T fr))
   (hcs:∀i v,l[i]?=some v->∃x,c[base+i]?=some x/\Rel I g v x) (hag:wI P t=some ag) (hn:qo P t=some n) :
   ∃y,(Instr.loadAt t (.pointer (some ⟨q,base+i,none⟩))).run P w=.ok y w/\Rel I g v y:=by
 cases ag with
 | true=>
   simp only [jl,if_true] at h;split at h
   . rename_i hle;simp at h;subst h
     have hex:∀j,j<n->∃y,c[base+(i+j)]?=some y/\Rel I g (l[i+j]?.getD .any) y:=by
       intro j hj;have hlt:i+j<l.length:=by omega
       obtain ⟨y,h1,h2⟩:=hcs _ _ (List.getElem?_eq_getElem hlt);exact ⟨y,h1,by rw [List.getElem?_eq_getElem hlt];exact h2⟩
     have hc:∀j,j<n->c[base+(i+j)]?=some ((c[base+(i+j)]?).getD Go.undef):=fun j hj=>by
       obtain ⟨y,h1,_⟩:=hex j hj;rw [h1];rfl
     refine ⟨_,kT (cs:=(List.range n).map fun j=>(c[base+(i+j)]?).getD Go.undef) hag hn (by simp) (fun j v hv=>?_),?_⟩
     . rw [za hh];obtain ⟨hj,rfl⟩:=kX hv;rw [<-hc j hj];congr 1;omega
     . refine ⟨_,rfl,qw.mk (by simp;omega) fun a v y h1 h2=>?_⟩;have h2':((List.range n).map fun j=>(c[base+(i+j)]?).getD Go.undef)[a]?=some y:=by simpa using h2
       obtain ⟨hj,rfl⟩:=kX h2';obtain ⟨y,h3,h4⟩:=hex a hj;rw [h3];rw [List.getElem?_take_of_lt hj,List.getElem?_drop] at h1;rw [h1] at h4;exact h4
   . cases h
 | false=>
   simp only [jl,Bool.false_eq_true,if_false] at h;obtain ⟨y,h1,h2⟩:=hcs _ _ h;exact ⟨y,kQ hag (by rw [za hh,<-h1]),h2⟩
theorem xQ {np wd n s k:Nat} {r:E} {x:Int} {loc:Loc} (h:X4 np wd n r s k=some loc) (hr:r.den I g.env=some (.i x)) (hx:0<=x) :
   match loc with
   | .cell false i=>x.toNat*s+k=i
   | .cell true i=>x.toNat*s+k=np+n*wd+i
   | .row q c=>∃z:Int,q.den I g.env=some (.i z)/\0<=z/\x.toNat*s+k=np+(z.toNat*wd+c):=by
 unfold X4 at h;by_cases hw:wd=0
 . rw [if_pos hw] at h;cases h
 rw [if_neg hw] at h;cases hl:isLit r with
 | some x0=>
   rw [hl] at h;have e:=Kj hl;subst e;have e:x=x0:=by simp [E.den] at hr;exact hr.symm
   subst e;dsimp only at h;rw [if_neg (by omega)] at h;by_cases h1:x.toNat*s+k<np
   . rw [if_pos h1] at h;simp only [Option.some.injEq] at h;subst h;rfl
   rw [if_neg h1] at h;by_cases h2:x.toNat*s+k<np+n*wd
   . rw [if_pos h2] at h;simp only [Option.some.injEq] at h;subst h;refine ⟨_,rfl,Int.natCast_nonneg _,?_⟩;have hd:=Nat.div_add_mod (x.toNat*s+k - np) wd;rw [Nat.mul_comm] at hd;rw [Int.toNat_natCast];omega
   . rw [if_neg h2] at h;simp only [Option.some.injEq] at h;subst h;show x.toNat*s+k=np+n*wd+(x.toNat*s+k - np - n*wd);omega
 | none=>
   rw [hl] at h;dsimp only at h;by_cases hc:s=wd/\np<=k
   . rw [if_pos hc] at h;obtain ⟨rfl,hk⟩:=hc;simp only [Option.some.injEq] at h;subst h;refine ⟨_,zk hr (show (E.lit (((k - np) / s:Nat):Int)).den I g.env=some (.i _) from rfl),by have:=Int.natCast_nonneg ((k - np) / s);omega,?_⟩;have hd:=Nat.div_add_mod (k - np) s;rw [Nat.mul_comm] at hd;have e:(x+(((k - np) / s:Nat):Int)).toNat=x.toNat+(k - np) / s:=by rw [Int.toNat_add hx (Int.natCast_nonneg _),Int.toNat_natCast]
     rw [e,Nat.add_mul];omega
   . rw [if_neg hc] at h;cases h
theorem Z9 {v:AV} {c:CK} {e:E} {y:Value} (hk:kindOf v=some c) (hs:Jq v=some e) (hr:Rel I g v y):∃n,e.den I g.env=some (.i n)/\c.rel g n y:=by
 cases v <;> simp [kindOf] at hk
 case int k e=>
   subst hk;simp only [Jq,Option.some.injEq] at hs;subst hs;exact hr
 case bool e=>
   subst hk;simp only [Jq,Option.some.injEq] at hs;subst hs;exact hr
 case lst ks e=>
   subst hk;simp only [Jq,Option.some.injEq] at hs;subst hs;exact hr
 case fco cs e=>
   subst hk;simp only [Jq,Option.some.injEq] at hs;subst hs;exact hr
 all_goals
   subst hk;simp only [Jq] at hs;exact xL hs hr
theorem Rl {v:AV} {c:CK} {x:Int} {y:Value} (hk:kindOf v=some c) (hs:Jq v=some (.lit x)) (hr:Rel I g v y):c.rel g x y:=by
 obtain ⟨n,h,h'⟩:=Z9 hk hs hr;simp only [E.den,Option.some.injEq,D.i.injEq] at h;subst h;exact h'
theorem Yd {l:List AV} {s k:Nat} {c:CK}:∀{n:Nat} {t:E},Ph l s k c n=some t->
   ∃f,t.den I g.env=some (.t f)/\∀j,j<n->∃v,l[j*s+k]?=some v/\kindOf v=some c/\Jq v=some (.lit (f (j:Nat) 0))
 | 0,t,h=>by
   simp only [Ph,Option.some.injEq] at h;subst h;exact ⟨fun _ _=>0,rfl,fun j hj=>by omega⟩
 | n+1,t,h=>by
   simp only [Ph] at h;split at h
   . rename_i t0 v h1 h2;split at h
     . rename_i c' x h3 h4;split at h
       . rename_i hc;subst hc;simp only [Option.some.injEq] at h;subst h;obtain ⟨f,hf,hs⟩:=Yd h1;refine ⟨qd f n 0 x,by simp only [E.den,hf],fun j hj=>?_⟩;unfold qd;by_cases hjn:j=n
         . subst hjn;exact ⟨v,h2,h3,by rw [if_pos ⟨rfl,rfl⟩];exact h4⟩
         . rw [if_neg (fun hh=>hjn (by have:=hh.1;omega))];exact hs j (by omega)
       . cases h
     . cases h
   . cases h
theorem JO {b s k n:Nat} {r:E} {ag:Bool} {v:AV} {ps:List PE} {x:Int} {p:PB} {t:TypeId} (hm:qX A I P g M w) (h:loadAt M b r s k n ag=some (v,ps))
   (hp:∀q∈ps,q.den I g.env) (hr:r.den I g.env=some (.i x)) (hx:0<=x) (hφ:g.φ b=some p) (hag:wI P t=some ag) (hn:qo P t=some n) :
   ∃y,(Instr.loadAt t (.pointer (some ⟨p.blk,p.base+x.toNat*s+k,none⟩))).run P w=.ok y w/\Rel I g v y:=by
 unfold loadAt at h;split at h
 . rename_i l wr hb;obtain ⟨p',c,T,fr,hp',hh,hcs,_⟩:=hm.blk _ _ hb;rw [hφ] at hp';cases hp';split at h
   . rename_i x0 hlit;have e:=Kj hlit;subst e;simp [E.den] at hr;subst hr;split at h
     . cases h
     . cases ag with
       | true=>
         simp only [if_true] at h;split at h
         . rename_i hle;simp at h;obtain ⟨rfl,rfl⟩:=h
           have hex:∀j,j<n->∃y,c[p.base+(x0.toNat*s+k+j)]?=some y/\Rel I g (l[x0.toNat*s+k+j]?.getD .any) y:=by
             intro j hj;have hlt:x0.toNat*s+k+j<l.length:=by omega
             obtain ⟨y,h1,h2⟩:=hcs _ _ (List.getElem?_eq_getElem hlt);exact ⟨y,h1,by rw [List.getElem?_eq_getElem hlt];exact h2⟩
           have hc:∀j,j<n->c[p.base+(x0.toNat*s+k+j)]?=some ((c[p.base+(x0.toNat*s+k+j)]?).getD Go.undef):=fun j hj=>by
             obtain ⟨y,h1,_⟩:=hex j hj;rw [h1];rfl
           refine ⟨_,kT (cs:=(List.range n).map fun j=>(c[p.base+(x0.toNat*s+k+j)]?).getD Go.undef) hag hn (by simp) (fun j v hv=>?_),?_⟩
           . rw [za hh];obtain ⟨hj,rfl⟩:=kX hv;rw [<-hc j hj];congr 1;omega
           . refine ⟨_,rfl,qw.mk (by simp;omega) fun i v y h1 h2=>?_⟩;have h2':((List.range n).map fun j=>(c[p.base+(x0.toNat*s+k+j)]?).getD Go.undef)[i]?=some y:=by simpa using h2
             obtain ⟨hj,rfl⟩:=kX h2';obtain ⟨y,h3,h4⟩:=hex i hj;rw [h3];rw [List.getElem?_take_of_lt hj,List.getElem?_drop] at h1;rw [h1] at h4;exact h4
         . cases h
       | false=>
         simp only [Bool.false_eq_true,if_false] at h;cases hl:l[x0.toNat*s+k]? with
         | none=>simp [hl] at h
         | some u=>
           simp [hl] at h;obtain ⟨rfl,rfl⟩:=h;obtain ⟨y,h1,h2⟩:=hcs _ _ hl;exact ⟨y,kQ hag (by rw [za hh,<-h1];congr 1;omega),h2⟩
   . split at h
     . cases h
     . rename_i hcond;simp only [Bool.or_eq_true,beq_iff_eq,not_or,Bool.not_eq_true] at hcond;obtain ⟨rfl,hs0⟩:=hcond;split at h
       . rename_i ck hck;cases hT:Ph l s k ck (l.length / s) with
         | none=>simp [hT] at h
         | some t0=>
           simp only [hT,Option.map_some,Option.some.injEq,Prod.mk.injEq] at h;obtain ⟨rfl,rfl⟩:=h;obtain ⟨f,hf,qjc⟩:=Yd (I:=I) (g:=g) hT;obtain ⟨h0,h1⟩:=zH hr (show (E.lit ((l.length / s:Nat):Int)).den I g.env=some (.i ((l.length / s:Nat):Int)) from rfl) hp;obtain ⟨u,hu,hk,hsc⟩:=qjc x.toNat (by omega);obtain ⟨y,hy,hrel⟩:=hcs _ _ hu;rw [Int.toNat_of_nonneg hx] at hsc;have hval:=Rl hk hsc hrel;exact ⟨_,kQ hag (by rw [za hh,<-hy];congr 1;omega),wY (jU hf hr) hval⟩
       . cases h
 . rename_i ks t0 len wr nl hb;obtain ⟨f,m,hf,hlen,hm0,hrow⟩:=hm.blk _ _ hb;split at h
   . rename_i hs;subst hs;rcases hrow with ⟨p',c,T,fr,hp',hh,hcs,_⟩ | ⟨_,_,hnone⟩
     case inr=>rw [hφ] at hnone;cases hnone
     rw [hφ] at hp';cases hp';cases ag with
     | true=>
       simp only [if_true] at h;cases hl:jS ks t0 r k n with
       | none=>simp [hl] at h
       | some l=>
         simp [hl] at h;obtain ⟨rfl,rfl⟩:=h;obtain ⟨Km,hlt⟩:=zH hr hlen hp
         have hX:∀(j:Nat) (ck:CK),ks[j]?=some ck->ck.rel g (f x j) ((c[p.base+x.toNat*ks.length+j]?).getD Go.undef)/\c[p.base+x.toNat*ks.length+j]?=some ((c[p.base+x.toNat*ks.length+j]?).getD Go.undef):=fun j ck hj=>by
           have:=hcs x.toNat j ck (by omega) hj;rw [Int.toNat_of_nonneg hx] at this;exact yL this
         obtain ⟨hll,xs,hrel,hxs⟩:=kZ hf hr _ (fun j ck hj=>(hX j ck hj).1) n k hl;refine ⟨_,kT (cs:=xs) hag hn (by rw [<-hrel.length,hll]) (fun j v hv=>?_),⟨_,rfl,by simpa using hrel⟩⟩;obtain ⟨ck,h1,rfl⟩:=hxs j v hv;rw [za hh];rw [<-(hX (k+j) ck h1).2];congr 1;omega
     | false=>
       simp only [Bool.false_eq_true,if_false] at h;cases hl:ks[k]? with
       | none=>simp [hl] at h
       | some ck=>
         simp [hl] at h;obtain ⟨rfl,rfl⟩:=h;obtain ⟨Km,hlt⟩:=zH hr hlen hp;obtain ⟨y,hy,hrel⟩:=hcs x.toNat k ck (by omega) hl;rw [Int.toNat_of_nonneg hx] at hrel;refine ⟨y,kQ hag ?_,?_⟩
         . rw [za hh];exact hy
         . have:=jU (c:=k) hf hr;exact wY this hrel
   . cases h
 . rename_i pre ks t0 m post wr hb;obtain ⟨p',c,T,fr,f,hp',hh,hf,hpre,hrow,hpost,_⟩:=hm.blk _ _ hb;rw [hφ] at hp';cases hp';split at h
   . rename_i i hloc;have hs:=xQ hloc hr hx;simp only at hs;cases hc:jl pre i n ag with
     | none=>simp [hc] at h
     | some u=>
       simp [hc] at h;obtain ⟨rfl,rfl⟩:=h;have:=nA (base:=p.base) hc hh hpre hag hn
       rwa [show p.base+x.toNat*s+k=p.base+i by omega]
   . rename_i i hloc;have hs:=xQ hloc hr hx;simp only at hs;cases hc:jl post i n ag with
     | none=>simp [hc] at h
     | some u=>
       simp [hc] at h;obtain ⟨rfl,rfl⟩:=h
       have:=nA (base:=p.base+(pre.length+m*ks.length)) hc hh (fun j v hv=>by
         obtain ⟨y,h1,h2⟩:=hpost j v hv;exact ⟨y,by rw [<-h1];congr 1;omega,h2⟩) hag hn
       rwa [show p.base+x.toNat*s+k=p.base+(pre.length+m*ks.length)+i by omega]
   . rename_i q cc hloc;obtain ⟨z,hz,hz0,hs⟩:=xQ hloc hr hx;cases ag with
     | true=>
       simp only [if_true] at h;split at h
       . rename_i hwt;simp at h;obtain ⟨rfl,rfl⟩:=h;cases q with
         | lit x0=>
           simp only [BH,Bool.and_eq_true,beq_iff_eq,decide_eq_true_eq] at hwt;obtain ⟨⟨⟨rfl,rfl⟩,rfl⟩,_⟩:=hwt;have hz':z=0:=by simp [E.den] at hz;exact hz.symm
           subst hz'
           have hex:∀j,j<m*ks.length->∃ck,ks[j % ks.length]?=some ck/\ck.at g (f ((j / ks.length:Nat):Int) (j % ks.length)) c[p.base+(pre.length+j)]?:=by
             intro j hj
             have hw:0<ks.length:=by
               rcases Nat.eq_zero_or_pos ks.length with h0 | h0
               . rw [h0] at hj;simp at hj
               . exact h0
             have hlt:j % ks.length<ks.length:=Nat.mod_lt _ hw;have hr':j / ks.length<m:=(Nat.div_lt_iff_lt_mul hw).2 hj;refine ⟨ks[j % ks.length],List.getElem?_eq_getElem hlt,?_⟩;have:=hrow (j / ks.length) (j % ks.length) ks[j % ks.length] hr' (List.getElem?_eq_getElem hlt);have hdm:=Nat.div_add_mod j ks.length;rw [Nat.mul_comm] at hdm
             rwa [hdm] at this
           have hc:∀j,j<m*ks.length->c[p.base+(pre.length+j)]?=some ((c[p.base+(pre.length+j)]?).getD Go.undef):=fun j hj=>by
             obtain ⟨ck,_,y,h1,_⟩:=hex j hj;rw [h1];rfl
           refine ⟨_,kT (cs:=(List.range (m*ks.length)).map fun j=>(c[p.base+(pre.length+j)]?).getD Go.undef) hag hn (by simp) (fun j v hv=>?_),?_⟩
           . rw [za hh];obtain ⟨hj,rfl⟩:=kX hv;rw [<-hc j hj];congr 1;simp at hs;omega
           . refine ⟨f,[],(List.range (m*ks.length)).map fun j=>(c[p.base+(pre.length+j)]?).getD Go.undef,[],hf,by simp,trivial,trivial,by simp,fun r j k0 hr0 hk0=>?_⟩;have hjl:j<ks.length:=(List.getElem?_eq_some_iff.1 hk0).1
             have hlt:r*ks.length+j<m*ks.length:=by
               calc r*ks.length+j<r*ks.length+ks.length:=by omega
                 _=(r+1)*ks.length:=by rw [Nat.add_mul,Nat.one_mul]
                 _<=m*ks.length:=Nat.mul_le_mul_right _ hr0
             have h1:=hrow r j k0 hr0 hk0;rw [List.getElem?_map,List.getElem?_range hlt];exact ⟨_,rfl,(yL h1).1⟩
         | _=>simp [BH] at hwt
       . cases hl:jS ks t0 q cc n with
         | none=>simp [hl] at h
         | some l=>
           simp [hl] at h;obtain ⟨rfl,rfl⟩:=h;obtain ⟨Km,hlt⟩:=zH hz (show (E.lit m).den I g.env=some (.i m) from rfl) hp
           have hX:∀(j:Nat) (ck:CK),ks[j]?=some ck->ck.rel g (f z j) ((c[p.base+(pre.length+(z.toNat*ks.length+j))]?).getD Go.undef)/\c[p.base+(pre.length+(z.toNat*ks.length+j))]?=some ((c[p.base+(pre.length+(z.toNat*ks.length+j))]?).getD Go.undef):=fun j ck hj=>by
             have:=hrow z.toNat j ck (by omega) hj;rw [Int.toNat_of_nonneg hz0] at this;exact yL this
           obtain ⟨hll,xs,hrel,hxs⟩:=kZ hf hz _ (fun j ck hj=>(hX j ck hj).1) n cc hl;refine ⟨_,kT (cs:=xs) hag hn (by rw [<-hrel.length,hll]) (fun j v hv=>?_),⟨_,rfl,by simpa using hrel⟩⟩;obtain ⟨ck,h1,rfl⟩:=hxs j v hv;rw [za hh];rw [<-(hX (cc+j) ck h1).2];congr 1;omega
     | false=>
       simp only [Bool.false_eq_true,if_false] at h;cases hl:ks[cc]? with
       | none=>simp [hl] at h
       | some ck=>
         simp [hl] at h;obtain ⟨rfl,rfl⟩:=h;obtain ⟨Km,hlt⟩:=zH hz (show (E.lit m).den I g.env=some (.i m) from rfl) hp;obtain ⟨y,hy,hrel⟩:=hrow z.toNat cc ck (by omega) hl;rw [Int.toNat_of_nonneg hz0] at hrel;refine ⟨y,kQ hag ?_,?_⟩
         . rw [za hh];rw [<-hy];congr 1;omega
         . have:=jU (c:=cc) hf hz;exact wY this hrel
   . cases h
 . rename_i ks t0 len hE l wr nl hb;obtain ⟨f,m,m',hf,hlen,hhE,hm0,hrow⟩:=hm.blk _ _ hb;split at h
   . rename_i hc;obtain ⟨rfl,hll,hkl⟩:=hc;rcases hrow with ⟨p',c,T,fr,hp',hh,hcs,hch,_⟩ | ⟨_,_,hnone⟩
     case inr=>rw [hφ] at hnone;cases hnone
     rw [hφ] at hp';cases hp';split at h
     . rename_i hrh;subst hrh;rw [hr] at hhE;cases hhE;cases hc:jl l k n ag with
       | none=>simp [hc] at h
       | some u=>
         simp [hc] at h;obtain ⟨rfl,rfl⟩:=h;obtain ⟨Km,hlt⟩:=zH hr hlen hp;exact nA hc hh (hch Km hlt) hag hn
     . have hne:∀ps',ps=.tt (mkBin .ne r hE)::ps'->x≠m':=fun ps' e he=>by
         obtain ⟨z,hz,hz0⟩:=hp _ (by rw [e];exact List.mem_cons_self ..);rw [qy hr hhE] at hz;cases hz;simp [BO.ev,he] at hz0
       cases ag with
       | true=>
         simp only [if_true] at h;cases hl:jS ks t0 r k n with
         | none=>simp [hl] at h
         | some l=>
           simp only [hl,Option.map_some,Option.some.injEq,Prod.mk.injEq] at h;obtain ⟨rfl,rfl⟩:=h;have hxm:=hne _ rfl;obtain ⟨Km,hlt⟩:=zH hr hlen fun q hq=>hp q (List.mem_cons_of_mem _ hq)
           have hX:∀(j:Nat) (ck:CK),ks[j]?=some ck->ck.rel g (f x j) ((c[p.base+x.toNat*ks.length+j]?).getD Go.undef)/\c[p.base+x.toNat*ks.length+j]?=some ((c[p.base+x.toNat*ks.length+j]?).getD Go.undef):=fun j ck hj=>by
             have:=hcs x.toNat j ck (by omega) (fun _=>by rw [Int.toNat_of_nonneg hx];exact hxm) hj;rw [Int.toNat_of_nonneg hx] at this;exact yL this
           obtain ⟨hll,xs,hrel,hxs⟩:=kZ hf hr _ (fun j ck hj=>(hX j ck hj).1) n k hl;refine ⟨_,kT (cs:=xs) hag hn (by rw [<-hrel.length,hll]) (fun j v hv=>?_),⟨_,rfl,by simpa using hrel⟩⟩;obtain ⟨ck,h1,rfl⟩:=hxs j v hv;rw [za hh];rw [<-(hX (k+j) ck h1).2];congr 1;omega
       | false=>
         simp only [Bool.false_eq_true,if_false] at h;cases hl:ks[k]? with
         | none=>simp [hl] at h
         | some ck=>
           simp only [hl,Option.map_some,Option.some.injEq,Prod.mk.injEq] at h;obtain ⟨rfl,rfl⟩:=h;have hxm:=hne _ rfl;obtain ⟨Km,hlt⟩:=zH hr hlen fun q hq=>hp q (List.mem_cons_of_mem _ hq);obtain ⟨y,hy,hrel⟩:=hcs x.toNat k ck (by omega) (fun _=>by rw [Int.toNat_of_nonneg hx];exact hxm) hl;rw [Int.toNat_of_nonneg hx] at hrel;refine ⟨y,kQ hag ?_,?_⟩
           . rw [za hh];exact hy
           . have:=jU (c:=k) hf hr;exact wY this hrel
   . cases h
 . cases h
theorem run_equal_bool {t:TypeId} (h:P.underlying t=some .bool) (x y:Bool) (w:World):(Op.equal t (.bool x) (.bool y)).run P w=.ok (x == y) w:=by
 have key:∀d,(Op.equalIn (d+1) t (.bool x) (.bool y)).run P w=.ok (x == y) w:=fun d=>by
   simp only [Op.equalIn,Sem.run_bind,run_underlying h,Result.andThen];rfl
 exact key 9999
theorem iI {t e:TypeId} (h:P.underlying t=some (.pointer e)) (p:Addr) (w:World):(Op.equal t (.pointer (some p)) (.pointer none)).run P w=.ok false w:=by
 have key:∀d,(Op.equalIn (d+1) t (.pointer (some p)) (.pointer none)).run P w=.ok false w:=fun d=>by
   simp only [Op.equalIn,Sem.run_bind,run_underlying h,Result.andThen];rfl
 exact key 9999
theorem dD {t e:TypeId} (h:P.underlying t=some (.pointer e)) (p:Option Addr) (w:World):(Op.equal t (.pointer none) (.pointer p)).run P w=.ok p.isNone w:=by
 have key:∀d,(Op.equalIn (d+1) t (.pointer none) (.pointer p)).run P w=.ok p.isNone w:=fun d=>by
   simp only [Op.equalIn,Sem.run_bind,run_underlying h,Result.andThen];rfl
 exact key 9999
theorem run_equal_slice_nil {t e:TypeId} (h:P.underlying t=some (.slice e)) (p:Addr) (n c:Nat) (w:World):(Op.equal t (.slice (some p) n c) (.slice none 0 0)).run P w=.ok false w:=by
 have key:∀d,(Op.equalIn (d+1) t (.slice (some p) n c) (.slice none 0 0)).run P w=.ok false w:=fun d=>by
   simp only [Op.equalIn,Sem.run_bind,run_underlying h,Result.andThen];rfl
 exact key 9999
theorem gP {t e:TypeId} (h:P.underlying t=some (.slice e)) (w:World):(Op.equal t (.slice none 0 0) (.slice none 0 0)).run P w=.ok true w:=by
 have key:∀d,(Op.equalIn (d+1) t (.slice none 0 0) (.slice none 0 0)).run P w=.ok true w:=fun d=>by
   simp only [Op.equalIn,Sem.run_bind,run_underlying h,Result.andThen];rfl
 exact key 9999
theorem yA {t:TypeId} {ps rs:Array TypeId} {vr:Bool} (h:P.underlying t=some (.func ps rs vr)) (fn:Fn) (f c:Array Value) (w:World) :
   (Op.equal t (.func fn f c) .nilFunc).run P w=.ok false w:=by
 have key:∀d,(Op.equalIn (d+1) t (.func fn f c) .nilFunc).run P w=.ok false w:=fun d=>by
   simp only [Op.equalIn,Sem.run_bind,run_underlying h,Result.andThen];rfl
 exact key 9999
theorem run_equal_nil_nil {t:TypeId} {ps rs:Array TypeId} {vr:Bool} (h:P.underlying t=some (.func ps rs vr)) (w:World) :
   (Op.equal t .nilFunc .nilFunc).run P w=.ok true w:=by
 have key:∀d,(Op.equalIn (d+1) t .nilFunc .nilFunc).run P w=.ok true w:=fun d=>by
   simp only [Op.equalIn,Sem.run_bind,run_underlying h,Result.andThen];rfl
 exact key 9999
theorem Vu {t:TypeId} {d:TypeDesc} (h:P.underlying t=some d) (hd:iq (some d)=true\/nR (some d)=true) {cs:Array Value} {o:Nat} {v:Value} (hv:cs[o]?=some v) (w:World) :
   (part t cs o).run P w=.ok v w:=by
 have hag:wI P t=some false:=by
   unfold wI;rw [h];cases d <;> simp [iq,nR] at hd <;> rfl
 simp [part,y9 hag,Result.andThen,hv]
abbrev yD (d:Nat) (xs ys:Array Value):Field->Option Bool × Unit->Sem (ForInStep (Option Bool × Unit)):=fun f _=>
 if f.name = "_" then pure (ForInStep.yield (none,()))
 else do
   let a <-part f.type xs f.offset;let b <-part f.type ys f.offset;let r <-Op.equalIn d f.type a b
   if r=false then pure (ForInStep.done (some false,())) else pure (ForInStep.yield (none,()))
theorem M4 (x y:Int):BO.and.ev x y=0\/BO.and.ev x y=1:=by simp only [BO.ev];split <;> simp
theorem GL (d:Nat) (xs ys:Array Value) (w:World):∀(fs:List Field) (o:Nat) (l m:List AV) (e:E),dA P o fs l m=some e->
   qw I g l (xs.toList.drop o)->qw I g m (ys.toList.drop o)->
   ∃n:Int,e.den I g.env=some (.i n)/\(n=0\/n=1)/\(forIn fs (none,()) (yD (d+1) xs ys)).run P w=.ok (if n=0 then some false else none,()) w:=by
 intro fs
 induction fs with
 | nil=>
   intro o l m e he _ _;cases l <;> cases m <;> simp [dA] at he
   subst he;exact ⟨1,rfl,.inr rfl,rfl⟩
 | cons f fs ih=>
   intro o l m e he hl hm
   have step:∀(x y:Value) (r:Bool) (e0:E),xs[o]?=some x->ys[o]?=some y->(f.name == "_")=false->f.offset=o->(iq (P.underlying f.type)=true\/nR (P.underlying f.type)=true)->
       (Op.equalIn (d+1) f.type x y).run P w=.ok r w->
       (forIn (f::fs) (none,()) (yD (d+1) xs ys)).run P w=if r=false then .ok (some false,()) w else (forIn fs (none,()) (yD (d+1) xs ys)).run P w:=by
     intro x y r e0 hx hy hname hoff hty hr
     obtain ⟨dd,hdd⟩:∃dd,P.underlying f.type=some dd:=by
       cases h:P.underlying f.type with
       | none=>rw [h] at hty;simp [iq,nR] at hty
       | some dd=>exact ⟨dd,rfl⟩
     have hname':¬f.name = "_":=by simpa using hname
     rw [hdd] at hty;simp only [List.forIn_cons,yD,if_neg hname',Sem.run_bind,hoff,Vu hdd hty hx,Vu hdd hty hy,Result.andThen,hr];cases r <;> rfl
   have hx0:∀{v:AV} {l':List AV} {zs:Array Value},qw I g (v::l') (zs.toList.drop o)->∃z,zs[o]?=some z/\Rel I g v z/\qw I g l' (zs.toList.drop (o+1)):=by
     intro v l' zs h;cases hz:zs.toList.drop o with
     | nil=>rw [hz] at h;simp [qw] at h
     | cons z rest=>
       rw [hz] at h
       have h1:zs.toList[o]?=some z:=by
         have:=congrArg (fun q=>q[0]?) hz;simpa [List.getElem?_drop] using this
       refine ⟨z,by simpa using h1,h.1,?_⟩
       have h2:zs.toList.drop (o+1)=rest:=by
         rw [<-List.drop_drop,hz];rfl
       rw [h2];exact h.2
   unfold dA at he;split at he
   . exact absurd ‹f::fs=[]› (by simp)
   . rename_i o' f' fs' k a l' k' b m' heq;cases heq;split at he
     . rename_i hc;obtain ⟨rfl,hname,hoff,hty⟩:=hc;subst hoff;cases hrest:dA P (f.offset+1) fs l' m' with
       | none=>rw [hrest] at he;simp at he
       | some e1=>
         rw [hrest] at he;simp at he;subst he;obtain ⟨x,hx,hrx,hlx⟩:=hx0 hl;obtain ⟨y,hy,hry,hly⟩:=hx0 hm;obtain ⟨n1,hn1,h01,hrun⟩:=ih _ l' m' e1 hrest hlx hly;obtain ⟨na,hna,rfl⟩:=hrx;obtain ⟨nb,hnb,rfl⟩:=hry
         have hti:∃q,P.underlying f.type=some (.int q):=by
           cases h:P.underlying f.type with
           | none=>rw [h] at hty;simp [iq] at hty
           | some dd=>rw [h] at hty;cases dd <;> simp [iq] at hty;exact ⟨_,rfl⟩
         obtain ⟨q,hq⟩:=hti
         have hr:(Op.equalIn (d+1) f.type (.int k na) (.int k nb)).run P w=.ok (na == nb) w:=by
           simp only [Op.equalIn,Sem.run_bind,run_underlying hq,Result.andThen];simp
         refine ⟨_,qy (qy hna hnb) hn1,?_,?_⟩
         . exact M4 _ _
         . rw [step _ _ _ (.lit 0) hx hy hname rfl (.inl hty) hr,hrun];by_cases hab:na=nb
           . subst hab;rcases h01 with rfl | rfl <;> simp [BO.ev]
           . simp [BO.ev,hab]
     . cases he
   . rename_i o' f' fs' a l' b m' heq;cases heq;split at he
     . rename_i hc;obtain ⟨hname,hoff,hty⟩:=hc;subst hoff;cases hrest:dA P (f.offset+1) fs l' m' with
       | none=>rw [hrest] at he;simp at he
       | some e1=>
         rw [hrest] at he;simp at he;subst he;obtain ⟨x,hx,hrx,hlx⟩:=hx0 hl;obtain ⟨y,hy,hry,hly⟩:=hx0 hm;obtain ⟨n1,hn1,h01,hrun⟩:=ih _ l' m' e1 hrest hlx hly;obtain ⟨na,hna,rfl⟩:=hrx;obtain ⟨nb,hnb,rfl⟩:=hry
         have hq:P.underlying f.type=some .bool:=by
           cases h:P.underlying f.type with
           | none=>rw [h] at hty;simp [nR] at hty
           | some dd=>rw [h] at hty;cases dd <;> simp [nR] at hty;rfl
         have hr:(Op.equalIn (d+1) f.type (.bool (decide (na≠0))) (.bool (decide (nb≠0)))).run P w=.ok (decide (na≠0) == decide (nb≠0)) w:=by
           simp only [Op.equalIn,Sem.run_bind,run_underlying hq,Result.andThen];rfl
         refine ⟨_,qy (qy (qy hna (show (E.lit 0).den I g.env=some (.i 0) from rfl)) (qy hnb (show (E.lit 0).den I g.env=some (.i 0) from rfl))) hn1,?_,?_⟩
         . exact M4 _ _
         . rw [step _ _ _ (.lit 0) hx hy hname rfl (.inr hty) hr,hrun];by_cases ha:na=0 <;> by_cases hb:nb=0 <;> rcases h01 with rfl | rfl <;> simp [BO.ev,ha,hb]
     . cases he
   . cases he
end Go.Sx
end
noncomputable section
namespace Go.Sx
open Go
variable {A:Amb} {I:Itp} {P:Program} {g:G} {X:Nat->Prop} {ts:qO} {a:Act} {M:Mem} {w:World}
structure BQ (P:Program) (w:World) (t:TypeId) (x y:Value) (n:Int):Prop where
 guard:∀op ox oy,(eqGuard op t ox oy x y).run P w=.ok () w
 eql:(binOp .eql t x y).run P w=.ok (.bool (decide (n≠0))) w
 neq:(binOp .neq t x y).run P w=.ok (.bool (!decide (n≠0))) w
theorem BQ.jo {t:TypeId} {x y:Value} {n:Int} (hg:∀op ox oy,(eqGuard op t ox oy x y).run P w=.ok () w)
   (h1:binOp .eql t x y=(do pure (.bool (<-Op.equal t x y)))) (h2:binOp .neq t x y=(do pure (.bool (!(<-Op.equal t x y)))))
   (h:(Op.equal t x y).run P w=.ok (decide (n≠0)) w):BQ P w t x y n:=
 ⟨hg,by rw [h1];simp [h,Result.andThen],by rw [h2];simp [h,Result.andThen]⟩
theorem Yq {t:TypeId} {v u:AV} {x y:Value} {e:E} (h:Yz P t v u=some e) (hx:Rel I g v x) (hy:Rel I g u y) (w:World) :
   ∃n:Int,e.den I g.env=some (.i n)/\BQ P w t x y n:=by
 unfold Yz at h;split at h
 . rename_i k a k' b;split at h
   . rename_i hk;subst hk;simp at h;subst h;obtain ⟨na,hna,rfl⟩:=hx;obtain ⟨nb,hnb,rfl⟩:=hy;refine ⟨_,qy hna hnb,fun op ox oy=>by cases op <;> rfl,?_,?_⟩
     . simp only [binOp,Op.intCmp,ne_eq,not_true_eq_false,if_false,Sem.run_pure];by_cases hab:na=nb <;> simp [BO.ev,hab]
     . simp only [binOp,Op.intCmp,ne_eq,not_true_eq_false,if_false,Sem.run_pure];by_cases hab:na=nb <;> simp [BO.ev,hab]
   . cases h
 . rename_i a b;split at h
   . rename_i hu;simp at h;subst h;obtain ⟨na,hna,rfl⟩:=hx;obtain ⟨nb,hnb,rfl⟩:=hy
     refine ⟨_,qy (qy hna (show (E.lit 0).den I g.env=some (.i 0) from rfl)) (qy hnb (show (E.lit 0).den I g.env=some (.i 0) from rfl)),
       .jo (fun op ox oy=>by cases op <;> rfl) rfl rfl ?_⟩
     rw [run_equal_bool hu];by_cases ha:na=0 <;> by_cases hb:nb=0 <;> simp [BO.ev,ha,hb]
   . cases h
 . split at h
   . rename_i hu;simp at h;subst h;simp only [Rel] at hx hy;subst hx;subst hy;exact ⟨1,rfl,.jo (fun op ox oy=>by cases op <;> rfl) rfl rfl (by rw [dD hu];rfl)⟩
   . cases h
 . split at h
   . rename_i hu;simp at h;subst h;obtain ⟨n,p,_,_,_,rfl⟩:=hx;simp only [Rel] at hy;subst hy;exact ⟨0,rfl,.jo (fun op ox oy=>by cases op <;> rfl) rfl rfl (by rw [iI hu];rfl)⟩
   . cases h
 . split at h
   . rename_i hu;simp at h;subst h;obtain ⟨n,p,_,_,_,rfl⟩:=hy;simp only [Rel] at hx;subst hx;exact ⟨0,rfl,.jo (fun op ox oy=>by cases op <;> rfl) rfl rfl (by rw [dD hu];rfl)⟩
   . cases h
 . split at h
   . rename_i hu;simp at h;subst h;obtain ⟨ms,cs,rfl,_⟩:=hx;simp only [Rel] at hy;subst hy;exact ⟨0,rfl,.jo (fun op ox oy=>by cases op <;> rfl) rfl rfl (by rw [yA hu];rfl)⟩
   . cases h
 . split at h
   . rename_i hu;simp at h;subst h;obtain ⟨cs,rfl,_⟩:=hx;simp only [Rel] at hy;subst hy;exact ⟨0,rfl,.jo (fun op ox oy=>by cases op <;> rfl) rfl rfl (by rw [yA hu];rfl)⟩
   . cases h
 . split at h
   . rename_i hu;simp at h;subst h;simp only [Rel] at hx hy;subst hx;subst hy;exact ⟨1,rfl,.jo (fun op ox oy=>by cases op <;> rfl) rfl rfl (by rw [run_equal_nil_nil hu];rfl)⟩
   . cases h
 . split at h
   . rename_i hu;simp at h;subst h;obtain ⟨n,hn,hv⟩:=hx;simp only [Rel] at hy;subst hy;refine ⟨_,qy hn (show (E.lit 0).den I g.env=some (.i 0) from rfl),?_⟩;rcases hv with ⟨rfl,rfl⟩ | ⟨h1,c,p,o,q,z,_,_,rfl,_⟩
     . exact .jo (fun op ox oy=>by cases op <;> rfl) rfl rfl (by rw [run_equal_nil_nil hu];rfl)
     . exact .jo (fun op ox oy=>by cases op <;> rfl) rfl rfl (by rw [yA hu];simp [BO.ev];omega)
   . cases h
 . rename_i b lo len sz nl;split at h
   . rename_i el hu;obtain ⟨l,n,_,hn,_,hn0,hcase⟩:=hx;simp only [Rel] at hy;subst hy
     have qjk:e=.lit 0/\∃p c,x=.slice (some p) n.toNat c:=by
       split at h
       . rename_i hnl;simp at h;rcases hcase with ⟨p,c,_,hx,_⟩ | ⟨h1,_⟩
         . exact ⟨h.symm,_,_,hx⟩
         . rw [hnl] at h1;cases h1
       . split at h
         . rename_i m;split at h
           . rename_i hm;simp at h;rcases hcase with ⟨p,c,_,hx,_⟩ | ⟨_,h1,_⟩
             . exact ⟨h.symm,_,_,hx⟩
             . simp [E.den] at hn;omega
           . cases h
         . cases h
     obtain ⟨rfl,p,c,rfl⟩:=qjk;exact ⟨0,rfl,.jo (fun op ox oy=>by cases op <;> rfl) rfl rfl (by rw [run_equal_slice_nil hu];rfl)⟩
   . cases h
 . split at h
   . rename_i hu;simp at h;subst h;obtain ⟨a,rfl⟩:=hx;simp only [Rel] at hy;subst hy;exact ⟨0,rfl,.jo (fun op ox oy=>by cases op <;> rfl) rfl rfl (by rw [run_equal_slice_nil hu];rfl)⟩
   . cases h
 . split at h
   . rename_i hu;simp at h;subst h;obtain ⟨a,c,rfl⟩:=hx;simp only [Rel] at hy;subst hy;exact ⟨0,rfl,.jo (fun op ox oy=>by cases op <;> rfl) rfl rfl (by rw [run_equal_slice_nil hu];rfl)⟩
   . cases h
 . split at h
   . rename_i hu;simp at h;subst h;obtain ⟨p,c,_,_,rfl⟩:=hx;simp only [Rel] at hy;subst hy;exact ⟨0,rfl,.jo (fun op ox oy=>by cases op <;> rfl) rfl rfl (by rw [run_equal_slice_nil hu];rfl)⟩
   . cases h
 . split at h
   . rename_i hu;simp at h;subst h;simp only [Rel] at hx hy;subst hx;subst hy;exact ⟨1,rfl,.jo (fun op ox oy=>by cases op <;> rfl) rfl rfl (by rw [gP hu];rfl)⟩
   . cases h
 . rename_i l m;split at h
   . rename_i fs hu;split at h
     . rename_i hc;obtain ⟨hst,hgd⟩:=hc;obtain ⟨cs,rfl,hl⟩:=hx;obtain ⟨ds,rfl,hm⟩:=hy
       have key:∀d,∃n:Int,e.den I g.env=some (.i n)/\(n=0\/n=1)/\(Op.equalIn (d+2) t (.agg cs) (.agg ds)).run P w=.ok (decide (n≠0)) w:=by
         intro d;obtain ⟨n,h1,h2,h3⟩:=GL d cs ds w fs.toList 0 l m e h (by simpa using hl) (by simpa using hm);refine ⟨n,h1,h2,?_⟩
         have h4:(Op.equalIn (d+2) t (.agg cs) (.agg ds)).run P w=((forIn fs (none,()) (yD (d+1) cs ds)).run P w).andThen fun a w'=>(match a.fst with
             | some r=>(Pure.pure r:Sem Bool)
             | none=>Pure.pure true).run P w':=by
           rw [Op.equalIn.eq_def];simp only [Sem.run_bind,run_underlying hu,Result.andThen,run_program,hst];simp;have hb':∀(b b':Field->Option Bool × Unit->Sem (ForInStep (Option Bool × Unit))),b=b'->∀(K:Result (Option Bool × Unit)->Prop),K ((forIn fs (none,()) b':Sem _).run P w)->K ((forIn fs (none,()) b:Sem _).run P w):=fun b b' e K h=>by rw [e];exact h
           refine hb' _ (yD (d+1) cs ds) ?_ (fun q=>q.andThen _=_) (by rcases (forIn fs (none,()) (yD (d+1) cs ds):Sem _).run P w with ⟨⟨_ | _,_⟩,_⟩ | _ <;> rfl)
           funext f s
           simp only [yD]
         rw [h4,<-Array.forIn_toList,h3];rcases h2 with rfl | rfl <;> rfl
       obtain ⟨n,h1,_,h3⟩:=key 9998;exact ⟨n,h1,.jo (fun op ox oy=>by cases op <;> simp [eqGuard,Result.andThen,hgd]) rfl rfl h3⟩
     . cases h
   . cases h
 . cases h
theorem Oa {k:IntKind} {e:E} {n:Int} (h:(PE.rng k e).den I g.env) (he:e.den I g.env=some (.i n)):k.min<=n/\n<=k.max:=by
 obtain ⟨m,h1,h2⟩:=h;rw [he] at h1;simp at h1;subst h1;exact h2
theorem rZ {k:IntKind} {n:Int} (h:k.min<=n/\n<=k.max):k.wrap n=n:=by
 cases k <;> simp [IntKind.min,IntKind.max,IntKind.signed,IntKind.bits] at h <;> simp [IntKind.wrap,IntKind.signed,IntKind.bits] <;> (try split) <;> omega
theorem lI {k:IntKind} {e:E} {z:AV} {ps:List PE} {n:Int} (h:arith k e=(z,ps)) (hp:∀q∈ps,q.den I g.env) (he:e.den I g.env=some (.i n)):Rel I g z (.int k (k.wrap n)):=by
 unfold arith at h;split at h
 . simp at h;obtain ⟨rfl,rfl⟩:=h;simp [E.den] at he;subst he;exact ⟨_,rfl,rfl⟩
 . split at h
   . simp at h;obtain ⟨rfl,rfl⟩:=h;exact ⟨n,he,congrArg (Value.int _) (rZ (Oa (hp _ (List.mem_singleton.2 rfl)) he))⟩
   . simp at h;obtain ⟨rfl,rfl⟩:=h;exact ⟨k.wrap n,by simp [E.den,he],rfl⟩
theorem Ra {o:BinOp} {j:Nat} (ho:bitsOf o=some j) (hj:j<4) {t:TypeId} {k:IntKind} {x y:Int}:(binOp o t (.int k x) (.int k y)).run P w=.ok (.int k (wR j k x y)) w:=by
 cases o <;> simp [bitsOf] at ho <;> subst ho <;> first | omega | (simp only [binOp,ne_eq,not_true_eq_false,if_false,Op.intBits,wR,Sem.run_pure])
theorem Nn {o:BinOp} {j:Nat} (ho:bitsOf o=some j) (hj:¬j<4) (hj':j<6) {t:TypeId} {k k':IntKind} {x y:Int} (hy:0<=y) :
   (binOp o t (.int k x) (.int k' y)).run P w=.ok (.int k (wR j k x y)) w:=by
 cases o <;> simp [bitsOf] at ho <;> subst ho <;> first | omega | (simp only [binOp,Op.shift,if_neg (show ¬y<0 by omega),wR,Sem.run_pure])
theorem CQ {o:BinOp} {j:Nat} (ho:bitsOf o=some j) (hj:¬j<6) {t:TypeId} {k:IntKind} {x y:Int} (hy:y≠0) :
   (binOp o t (.int k x) (.int k y)).run P w=.ok (.int k (wR j k x y)) w:=by
 cases o <;> simp [bitsOf] at ho <;> subst ho <;> first | omega | (simp only [binOp,ne_eq,not_true_eq_false,if_false,Op.intDiv,if_neg hy,wR,Sem.run_pure])
theorem zi {o:BinOp} {t:TypeId} {x y r:Value} {ox oy:Operand} (h1:(eqGuard o t ox oy x y).run P w=.ok () w) (h2:(binOp o t x y).run P w=.ok r w) :
   (do eqGuard o t ox oy x y;binOp o t x y:Sem Value).run P w=.ok r w:=by
 rw [Sem.run_bind,h1];exact h2
theorem jZ {o:BinOp} {t:TypeId} {k k':IntKind} {x y:Int} {ox oy:Operand}:(eqGuard o t ox oy (.int k x) (.int k' y)).run P w=.ok () w:=by
 cases o <;> rfl
theorem F5 {t:TypeId} {k:IntKind} {x y:Int}:(binOp .add t (.int k x) (.int k y)).run P w=.ok (.int k (k.wrap (x+y))) w:=by
 simp only [binOp,ne_eq,not_true_eq_false,if_false,Op.intArith,Sem.run_pure]
theorem FE {t:TypeId} {k:IntKind} {x y:Int}:(binOp .sub t (.int k x) (.int k y)).run P w=.ok (.int k (k.wrap (x - y))) w:=by
 simp only [binOp,ne_eq,not_true_eq_false,if_false,Op.intArith,Sem.run_pure]
theorem F4 {t:TypeId} {k:IntKind} {x y:Int}:(binOp .mul t (.int k x) (.int k y)).run P w=.ok (.int k (k.wrap (x*y))) w:=by
 simp only [binOp,ne_eq,not_true_eq_false,if_false,Op.intArith,Sem.run_pure]
theorem F3 {t:TypeId} {k:IntKind} {x y:Int} (hy:y≠0):(binOp .rem t (.int k x) (.int k y)).run P w=.ok (.int k (x.tmod y)) w:=by
 simp only [binOp,ne_eq,not_true_eq_false,if_false,Op.intDiv,if_neg hy,Sem.run_pure]
theorem CZ {t:TypeId} {k:IntKind} {x y:Int}:(binOp .lss t (.int k x) (.int k y)).run P w=.ok (.bool (decide (x<y))) w:=by
 simp only [binOp,ne_eq,not_true_eq_false,if_false,Op.intCmp,Sem.run_pure]
theorem CJ {t:TypeId} {k:IntKind} {x y:Int}:(binOp .leq t (.int k x) (.int k y)).run P w=.ok (.bool (decide (x<=y))) w:=by
 simp only [binOp,ne_eq,not_true_eq_false,if_false,Op.intCmp,Sem.run_pure]
theorem CW {t:TypeId} {k:IntKind} {x y:Int}:(binOp .gtr t (.int k x) (.int k y)).run P w=.ok (.bool (decide (y<x))) w:=by
 simp only [binOp,ne_eq,not_true_eq_false,if_false,Op.intCmp,Sem.run_pure]
theorem CY {t:TypeId} {k:IntKind} {x y:Int}:(binOp .geq t (.int k x) (.int k y)).run P w=.ok (.bool (decide (y<=x))) w:=by
 simp only [binOp,ne_eq,not_true_eq_false,if_false,Op.intCmp,Sem.run_pure]
theorem IU (x y:Int):decide (BO.lt.ev x y≠0)=decide (x<y):=by by_cases h:x<y <;> simp [BO.ev,h]
theorem II (x y:Int):decide (BO.le.ev x y≠0)=decide (x<=y):=by by_cases h:x<=y <;> simp [BO.ev,h]
theorem Po {o:BinOp} {t:TypeId} {v u z:AV} {x y:Value} {ps:List PE} (h:ML P o t v u=some (z,ps)) (hp:∀q∈ps,q.den I g.env)
   (hx:Rel I g v x) (hy:Rel I g u y) (ox oy:Operand) (w:World):∃r,(do eqGuard o t ox oy x y;binOp o t x y:Sem Value).run P w=.ok r w/\Rel I g z r:=by
 unfold ML at h;split at h
 . cases he:Yz P t v u with
   | none=>simp [he] at h
   | some e=>
     simp [he] at h;obtain ⟨rfl,rfl⟩:=h;obtain ⟨n,h1,h2⟩:=Yq he hx hy w;exact ⟨_,zi (h2.guard _ _ _) h2.eql,n,h1,rfl⟩
 . cases he:Yz P t v u with
   | none=>simp [he] at h
   | some e=>
     simp [he] at h;obtain ⟨rfl,rfl⟩:=h;obtain ⟨n,h1,h2⟩:=Yq he hx hy w;refine ⟨_,zi (h2.guard _ _ _) h2.neq,_,qy h1 (show (E.lit 0).den I g.env=some (.i 0) from rfl),?_⟩;by_cases hn:n=0 <;> simp [BO.ev,hn]
 case h_12=>
   rename_i ka a kb b _ _ _ _ _ _ _ _ _ _ _;obtain ⟨na,hna,rfl⟩:=hx;obtain ⟨nb,hnb,rfl⟩:=hy;split at h
   . rename_i j hj;split at h
     . rename_i h4;split at h
       . rename_i hk;subst hk;simp at h;obtain ⟨rfl,rfl⟩:=h;exact ⟨_,zi jZ (Ra hj h4),_,qy (o:=.bits j ka) hna hnb,rfl⟩
       . cases h
     . rename_i h4;split at h
       . rename_i h6;simp at h;obtain ⟨rfl,rfl⟩:=h
         have hb:0<=nb:=by
           obtain ⟨m,h1,h2⟩:=hp _ (List.mem_singleton.2 rfl);rw [qy (x:=0) rfl hnb] at h1;simp [BO.ev] at h1;by_cases h0:0<=nb
           . exact h0
           . rw [if_neg h0] at h1;omega
         exact ⟨_,zi jZ (Nn hj h4 h6 hb),_,qy (o:=.bits j ka) hna hnb,rfl⟩
       . rename_i h6;split at h
         . rename_i hk;subst hk;simp at h;obtain ⟨rfl,rfl⟩:=h
           have hb:nb≠0:=by
             obtain ⟨m,h1,h2⟩:=hp _ (List.mem_singleton.2 rfl);rw [qy (y:=0) hnb rfl] at h1;simp [BO.ev] at h1;intro h0;rw [if_pos h0] at h1;omega
           exact ⟨_,zi jZ (CQ hj h6 hb),_,qy (o:=.bits j ka) hna hnb,rfl⟩
         . cases h
   . cases h
 all_goals
   first
     | cases h
     | (split at h
        case isFalse=>cases h)
 all_goals
   rename_i hk;obtain ⟨na,hna,rfl⟩:=hx;obtain ⟨nb,hnb,rfl⟩:=hy
 . subst hk;simp only [Option.some.injEq] at h;exact ⟨_,zi jZ F5,lI h hp (zk hna hnb)⟩
 . subst hk;simp only [Option.some.injEq] at h;exact ⟨_,zi jZ FE,lI h hp (xu hna hnb)⟩
 . subst hk;simp only [Option.some.injEq] at h;exact ⟨_,zi jZ F4,lI h hp (qy (o:=.mul) hna hnb)⟩
 . obtain ⟨hk,hn⟩:=hk;subst hk;simp at h;obtain ⟨rfl,rfl⟩:=h;have hnb':=hnb;simp [E.den] at hnb';subst hnb';exact ⟨_,zi jZ (F3 hn),_,qy (o:=.tmod) hna hnb,rfl⟩
 . subst hk;simp at h;obtain ⟨rfl,rfl⟩:=h
   have hb:nb≠0:=by
     obtain ⟨m,h1,h2⟩:=hp _ (List.mem_singleton.2 rfl);rw [qy (y:=0) hnb rfl] at h1;simp [BO.ev] at h1;intro h0;rw [if_pos h0] at h1;omega
   exact ⟨_,zi jZ (F3 hb),_,qy (o:=.tmod) hna hnb,rfl⟩
 . subst hk;simp at h;obtain ⟨rfl,rfl⟩:=h;exact ⟨_,zi jZ CZ,_,qy (o:=.lt) hna hnb,by rw [IU]⟩
 . subst hk;simp at h;obtain ⟨rfl,rfl⟩:=h;exact ⟨_,zi jZ CJ,_,qy (o:=.le) hna hnb,by rw [II]⟩
 . subst hk;simp at h;obtain ⟨rfl,rfl⟩:=h;exact ⟨_,zi jZ CW,_,qy (o:=.lt) hnb hna,by rw [IU]⟩
 . subst hk;simp at h;obtain ⟨rfl,rfl⟩:=h;exact ⟨_,zi jZ CY,_,qy (o:=.le) hnb hna,by rw [II]⟩
end Go.Sx
end
noncomputable section
namespace Go.Sx
open Go
variable {A:Amb} {I:Itp} {P:Program} {g:G} {X:Nat->Prop} {ts:qO} {a:Act} {M:Mem} {w:World}
theorem rF {α:Type}:∀(vs:List α) (l:List α) (i:Nat),(yV l i vs).length=l.length
 | [],l,i=>by rw [w9]
 | v::vs,l,i=>by simp [y8,rF vs]
theorem zn {a b:E} {x y:Int} (ha:a.den I g.env=some (.i x)) (hb:b.den I g.env=some (.i y)) (h:(PE.tt (mkBin .le a b)).den I g.env):x<=y:=by
 obtain ⟨n,h1,h2⟩:=h;rw [qy ha hb] at h1;simp at h1;by_cases hc:x<=y
 . exact hc
 . simp [BO.ev,hc] at h1;omega
def jM (v:Option Value):Option Int->Prop
 | none=>v=none
 | some n=>∃k,v=some (.int k n)
theorem bG (ht:wG I g X ts a.tmps) {o:Option Operand} {n:Option Int} (h:bU ts o=some n) (hx:∀t,o=some (.tmp t)->¬X t):jM (o.map a.eval) n:=by
 cases o with
 | none=>simp [bU] at h;subst h;rfl
 | some y=>
   simp only [bU] at h;split at h
   . rename_i k m he;simp at h;subst h;obtain ⟨m',h1,h2⟩:=zl ht he fun t e=>hx t (by rw [e]);simp [E.den] at h1;subst h1;exact ⟨k,by simp [h2]⟩
   . cases h
theorem yc {k:IntKind} {n:Int} {y:Nat} {code:BoundsCode} (h0:0<=n) (h1:n<=y):(Instr.sliceBound (.int k n) y code).run P w=.ok n.toNat w:=by
 simp [Instr.sliceBound,asIntOf,h0,h1]
theorem uH {b:Bool} {len cap:Nat} {lo hi mx:Option Value} {a h m:Option Int} (ha:jM lo a) (hh:jM hi h) (hm:jM mx m) (hmh:m≠none->h≠none)
   (h0:0<=a.getD 0) (h1:a.getD 0<=h.getD len) (h2:h.getD len<=m.getD cap) (h3:m.getD cap<=cap) :
   (Instr.sliceBounds b len cap lo hi mx).run P w=.ok ((a.getD 0).toNat,(h.getD len).toNat,(m.getD cap).toNat) w:=by
 unfold Instr.sliceBounds;cases m with
 | none=>
   simp only [jM] at hm;subst hm;simp only [Option.getD_none] at h2 h3 ⊢;cases h with
   | none=>
     simp only [jM] at hh;subst hh;simp only [Option.getD_none] at h1 h2 ⊢;cases a with
     | none=>simp only [jM] at ha;subst ha;simp
     | some n=>
       obtain ⟨k,rfl⟩:=ha;simp only [Option.getD_some] at h0 h1 ⊢;simp [Result.andThen,yc h0 h1]
   | some n'=>
     obtain ⟨k',rfl⟩:=hh;simp only [Option.getD_some] at h1 h2 ⊢;cases a with
     | none=>
       simp only [jM] at ha;subst ha;simp only [Option.getD_none] at h0 h1 ⊢;simp [Result.andThen,yc (y:=cap) h1 h2]
     | some n=>
       obtain ⟨k,rfl⟩:=ha;simp only [Option.getD_some] at h0 h1 ⊢;have h4:n<=(n'.toNat:Int):=by omega
       simp [Sem.run_bind,Result.andThen,yc (y:=cap) (show 0<=n' by omega) h2,yc h0 h4]
 | some m'=>
   obtain ⟨km,rfl⟩:=hm;simp only [Option.getD_some] at h2 h3 ⊢;cases h with
   | none=>exact absurd rfl (hmh (by simp))
   | some n'=>
     obtain ⟨k',rfl⟩:=hh;simp only [Option.getD_some] at h1 h2 ⊢;cases a with
     | none=>
       simp only [jM] at ha;subst ha;simp only [Option.getD_none] at h0 h1 ⊢;have h5:n'<=(m'.toNat:Int):=by omega
       simp [Sem.run_bind,Result.andThen,yc (y:=cap) (show 0<=m' by omega) h3,yc h1 h5]
     | some n=>
       obtain ⟨k,rfl⟩:=ha;simp only [Option.getD_some] at h0 h1 ⊢;have h4:n<=(n'.toNat:Int):=by omega
       have h5:n'<=(m'.toNat:Int):=by omega
       simp [Sem.run_bind,Result.andThen,yc (y:=cap) (show 0<=m' by omega) h3,yc (show 0<=n' by omega) h5,yc h0 h4]
theorem zu {t el:TypeId} {sz:Nat} (hu:P.underlying t=some (.slice el)) (hs:qo P el=some sz) {ad:Option Addr} {len cap:Nat} {lo hi mx:Option Value} {a h m:Option Int}
   (ha:jM lo a) (hh:jM hi h) (hm:jM mx m) (hmh:m≠none->h≠none) (h0:0<=a.getD 0) (h1:a.getD 0<=h.getD len) (h2:h.getD len<=m.getD cap) (h3:m.getD cap<=cap) :
   (Instr.sliceAt t (.slice ad len cap) lo hi mx).run P w=.ok (.slice (if (m.getD cap).toNat=(a.getD 0).toNat then ad else ad.map (·.add ((a.getD 0).toNat*sz)))
     ((h.getD len).toNat - (a.getD 0).toNat) ((m.getD cap).toNat - (a.getD 0).toNat)) w:=by
 simp only [Instr.sliceAt,Instr.slice,Sem.run_bind,run_underlying hu,Result.andThen,uH ha hh hm hmh h0 h1 h2 h3,qD hs,Sem.run_pure]
theorem Vm {t el:TypeId} (hu:P.underlying t=some (.slice el)) {x v:AV} {y:Value} {lo hi mx:Option Value} {ca ch cm:Option Int} {ps:List PE} (hr:Rel I g x y)
   (ha:jM lo ca) (hh:jM hi ch) (hm:jM mx cm) (h:Zu P el x ca ch cm=some (v,ps)) (hp:∀q∈ps,q.den I g.env) :
   ∃z,(Instr.sliceAt t y lo hi mx).run P w=.ok z w/\Rel I g v z:=by
 unfold Zu at h;cases hs:qo P el with
 | none=>simp [hs] at h
 | some sz=>
 rw [hs] at h;dsimp only at h;cases x with
 | slice b l len s nl=>
   dsimp only at h;split at h
   . cases h
   rename_i hsz;have hsz:s=sz:=Decidable.not_not.1 hsz;subst hsz;have hr0:=hr;obtain ⟨l',n,hl,hn,hl0,hn0,hcase⟩:=hr
   -- what comes out
   have real:∀{p:PB} {cap:Nat} {a:Int},g.φ b=some p->y=.slice (some ⟨p.blk,p.base+l'.toNat*s,none⟩) n.toNat cap->(0<=a)->
       (some (⟨p.blk,p.base+l'.toNat*s,none⟩:Addr)).map (·.add (a.toNat*s))=some ⟨p.blk,p.base+(l'+a).toNat*s,none⟩:=fun {p cap a} _ _ h0=>by
     simp only [Option.map_some,addr_add];rw [show (l'+a).toNat=l'.toNat+a.toNat by omega,Nat.add_mul,Nat.add_assoc]
   split at h
   . -- no bound above
     split at h
     . rename_i n';have e:n=n':=by simp [E.den] at hn;exact hn.symm
       subst e;split at h
       . rename_i hb;split at h
         . rename_i h0;simp at h;obtain ⟨rfl,rfl⟩:=h;rcases hcase with ⟨p,cap,h5,rfl,h6,h7⟩ | ⟨h5,h6,ad,rfl⟩
           . refine ⟨_,zu hu hs ha hh hm (by simp) hb.1 (by simp;omega) (by simp;omega) (by simp),?_⟩;rw [h0];simp only [Option.getD_none,Int.toNat_zero,Nat.sub_zero,Int.toNat_natCast,Nat.zero_mul]
             have e:(if cap=0 then some (⟨p.blk,p.base+l'.toNat*s,none⟩:Addr) else (some (⟨p.blk,p.base+l'.toNat*s,none⟩:Addr)).map (·.add 0))=some ⟨p.blk,p.base+l'.toNat*s,none⟩:=by
               simp [Addr.add]
             rw [e];exact hr0
           . refine ⟨_,zu hu hs ha hh hm (by simp) hb.1 (by simp;omega) (by simp) (by simp),?_⟩;rw [h0];simpa [Addr.add] using hr0
         . rename_i h0;split at h
           . rename_i h1;split at h
             . cases h
             rename_i hnl;simp at h;obtain ⟨rfl,rfl⟩:=h;rcases hcase with ⟨p,cap,h5,rfl,h6,h7⟩ | ⟨h5,_⟩
             . refine ⟨_,zu hu hs ha hh hm (by simp) hb.1 (by simp;omega) (by simp;omega) (by simp),?_⟩;simp only [Option.getD_none,Int.toNat_natCast,h1,Nat.sub_self];by_cases hc:cap=n.toNat
               . rw [if_pos hc];exact ⟨_,_,rfl⟩
               . rw [if_neg hc];exact ⟨_,_,rfl⟩
             . exact absurd h5 hnl
           . rename_i h1;simp at h;obtain ⟨rfl,rfl⟩:=h;rcases hcase with ⟨p,cap,h5,hy,h6,h7⟩ | ⟨h5,h6,ad,rfl⟩
             . subst hy;refine ⟨_,zu hu hs ha hh hm (by simp) hb.1 (by simp;omega) (by simp;omega) (by simp),?_⟩;simp only [Option.getD_none,Int.toNat_natCast];rw [if_neg (by omega),real h5 rfl hb.1];exact ⟨l'+ca.getD 0,n - ca.getD 0,zk hl rfl,rfl,by omega,by omega,.inl ⟨p,cap - (ca.getD 0).toNat,h5,by congr 1;omega,by omega,Nat.le_trans (Nat.mul_le_mul_right _ (by omega)) h7⟩⟩
             . omega
       . cases h
     . split at h
       . rename_i h0;simp at h;obtain ⟨rfl,rfl⟩:=h;rcases hcase with ⟨p,cap,h5,rfl,h6,h7⟩ | ⟨h5,h6,ad,rfl⟩
         . refine ⟨_,zu hu hs ha hh hm (by simp) (by omega) (by simp;omega) (by simp;omega) (by simp),?_⟩;rw [h0];simp only [Option.getD_none,Int.toNat_zero,Nat.sub_zero,Int.toNat_natCast,Nat.zero_mul]
           have e:(if cap=0 then some (⟨p.blk,p.base+l'.toNat*s,none⟩:Addr) else (some (⟨p.blk,p.base+l'.toNat*s,none⟩:Addr)).map (·.add 0))=some ⟨p.blk,p.base+l'.toNat*s,none⟩:=by
             simp [Addr.add]
           rw [e];exact hr0
         . refine ⟨_,zu hu hs ha hh hm (by simp) (by omega) (by simp;omega) (by simp) (by simp),?_⟩;rw [h0];simpa [Addr.add] using hr0
       . cases h
   . rename_i ub;split at h
     . rename_i hb;split at h
       . rename_i h1;split at h
         . cases h
         rename_i hnl;simp at h;obtain ⟨rfl,rfl⟩:=h;have hle:=zn (show (E.lit ub).den I g.env=some (.i ub) from rfl) hn (hp _ (by simp));rcases hcase with ⟨p,cap,h5,rfl,h6,h7⟩ | ⟨h5,_⟩
         . refine ⟨_,zu hu hs ha hh hm (by simp) hb.1 (by simp;omega) (by simp;omega) (by simp),?_⟩;simp only [Option.getD_none,Option.getD_some,Int.toNat_natCast,h1.1,Nat.sub_self];by_cases hc:cap=ub.toNat
           . rw [if_pos hc];exact ⟨_,_,rfl⟩
           . rw [if_neg hc];exact ⟨_,_,rfl⟩
         . exact absurd h5 hnl
       . rename_i h1;simp at h;obtain ⟨rfl,rfl⟩:=h;have hle:=zn (show (E.lit ub).den I g.env=some (.i ub) from rfl) hn (hp _ (by simp));rcases hcase with ⟨p,cap,h5,hy,h6,h7⟩ | ⟨h5,h6,ad,rfl⟩
         . subst hy;refine ⟨_,zu hu hs ha hh hm (by simp) hb.1 (by simp;omega) (by simp;omega) (by simp),?_⟩;simp only [Option.getD_none,Option.getD_some,Int.toNat_natCast]
           have e:(if cap=(ca.getD 0).toNat then some (⟨p.blk,p.base+l'.toNat*s,none⟩:Addr) else (some (⟨p.blk,p.base+l'.toNat*s,none⟩:Addr)).map (·.add ((ca.getD 0).toNat*s))) =
               some ⟨p.blk,p.base+(l'+ca.getD 0).toNat*s,none⟩:=by
             by_cases hc:cap=(ca.getD 0).toNat
             . have h0:ca.getD 0=0:=by
                 by_cases h0:ca.getD 0=0
                 . exact h0
                 . exact absurd ⟨by omega,h0⟩ h1
               rw [if_pos hc,h0,Int.add_zero]
             . rw [if_neg hc];exact real h5 rfl hb.1
           rw [e];exact ⟨l'+ca.getD 0,ub - ca.getD 0,zk hl rfl,rfl,by omega,by omega,.inl ⟨p,cap - (ca.getD 0).toNat,h5,by congr 1;omega,by omega,Nat.le_trans (Nat.mul_le_mul_right _ (by omega)) h7⟩⟩
         . have hub:ub=0:=by omega
           have hca:ca.getD 0=0:=by omega
           refine ⟨_,zu hu hs ha hh hm (by simp) hb.1 (by simp;omega) (by simp;omega) (by simp),?_⟩;rw [hca,hub];refine ⟨l'+0,0 - 0,zk hl rfl,rfl,by omega,by omega,.inr ⟨h5,rfl,ad,?_⟩⟩;simp
     . cases h
   . rename_i ub um;split at h
     . rename_i hb;split at h
       . rename_i h1;split at h
         . split at h
           . rename_i h0;simp at h;obtain ⟨rfl,rfl⟩:=h;have hle:=zn (show (E.lit um).den I g.env=some (.i um) from rfl) hn (hp _ (by simp));rcases hcase with ⟨p,cap,h5,rfl,h6,h7⟩ | ⟨h5,h6,ad,rfl⟩
             . refine ⟨_,zu hu hs ha hh hm (by simp) hb.1 (by simp;omega) (by simp;omega) (by simp;omega),?_⟩;simp only [Option.getD_some];rw [if_pos (by rw [h1]),h1,show ub=ca.getD 0 by omega];simp only [Nat.sub_self];exact ⟨_,rfl⟩
             . refine ⟨_,zu hu hs ha hh hm (by simp) hb.1 (by simp;omega) (by simp;omega) (by simp;omega),?_⟩;simp only [Option.getD_some];rw [if_pos (by rw [h1]),h1,show ub=ca.getD 0 by omega];simp only [Nat.sub_self];exact ⟨_,rfl⟩
           . cases h
         rename_i hnl;simp at h;obtain ⟨rfl,rfl⟩:=h;have hle:=zn (show (E.lit um).den I g.env=some (.i um) from rfl) hn (hp _ (by simp));rcases hcase with ⟨p,cap,h5,rfl,h6,h7⟩ | ⟨h5,_⟩
         . refine ⟨_,zu hu hs ha hh hm (by simp) hb.1 (by simp;omega) (by simp;omega) (by simp;omega),?_⟩;simp only [Option.getD_some];rw [if_pos (by rw [h1]),h1,show ub=ca.getD 0 by omega];simp only [Nat.sub_self];exact ⟨_,rfl⟩
         . exact absurd h5 hnl
       . rename_i h1;split at h
         . rename_i h2;split at h
           . cases h
           rename_i hnl;simp at h;obtain ⟨rfl,rfl⟩:=h;have hle:=zn (show (E.lit um).den I g.env=some (.i um) from rfl) hn (hp _ (by simp));rcases hcase with ⟨p,cap,h5,rfl,h6,h7⟩ | ⟨h5,_⟩
           . refine ⟨_,zu hu hs ha hh hm (by simp) hb.1 (by simp;omega) (by simp;omega) (by simp;omega),?_⟩;simp only [Option.getD_some];rw [if_neg (by omega),<-h2.1];simp only [Nat.sub_self];exact ⟨_,_,rfl⟩
           . exact absurd h5 hnl
         . rename_i h2;simp at h;obtain ⟨rfl,rfl⟩:=h;have hle:=zn (show (E.lit um).den I g.env=some (.i um) from rfl) hn (hp _ (by simp));rcases hcase with ⟨p,cap,h5,hy,h6,h7⟩ | ⟨h5,h6,ad,rfl⟩
           . subst hy;refine ⟨_,zu hu hs ha hh hm (by simp) hb.1 (by simp;omega) (by simp;omega) (by simp;omega),?_⟩;simp only [Option.getD_some];rw [if_neg (by omega),real h5 rfl hb.1];exact ⟨l'+ca.getD 0,ub - ca.getD 0,zk hl rfl,rfl,by omega,by omega,.inl ⟨p,um.toNat - (ca.getD 0).toNat,h5,by congr 1;omega,by omega,Nat.le_trans (Nat.mul_le_mul_right _ (by omega)) h7⟩⟩
           . omega
     . cases h
   . cases h
 | qJ=>
   dsimp only at h;split at h
   . rename_i hc;simp at h;obtain ⟨rfl,rfl⟩:=h;simp only [Rel] at hr;subst hr;obtain ⟨h1,h2,h3,h4⟩:=hc;have hhd:ch.getD ((0:Nat):Int)=0:=by simpa using h2
     have hmd:cm.getD ((0:Nat):Int)=0:=by simpa using h3
     have hmh:cm≠none->ch≠none:=fun hc e=>by
       subst e;cases cm with
       | none=>exact hc rfl
       | some _=>simp at h4
     refine ⟨_,zu hu hs ha hh hm hmh (by omega) (by omega) (by omega) (by omega),?_⟩;rw [h1,hhd,hmd];simp [Rel]
   . cases h
 | cap0=>
   dsimp only at h;split at h
   . rename_i hc;simp at h;obtain ⟨rfl,rfl⟩:=h;obtain ⟨ad,rfl⟩:=hr;obtain ⟨h1,h2,h3,h4⟩:=hc;have hhd:ch.getD ((0:Nat):Int)=0:=by simpa using h2
     have hmd:cm.getD ((0:Nat):Int)=0:=by simpa using h3
     have hmh:cm≠none->ch≠none:=fun hc e=>by
       subst e;cases cm with
       | none=>exact hc rfl
       | some _=>simp at h4
     refine ⟨_,zu hu hs ha hh hm hmh (by omega) (by omega) (by omega) (by omega),?_⟩;rw [h1,hhd,hmd];exact ⟨ad,by simp⟩
   . cases h
 | empty=>
   dsimp only at h;obtain ⟨ad,cap,rfl⟩:=hr;split at h
   . rename_i hc;simp at h;obtain ⟨rfl,rfl⟩:=h;obtain ⟨h1,rfl,rfl⟩:=hc;refine ⟨_,zu hu hs ha hh hm (by simp) (by omega) (by simp;omega) (by simp) (by simp),?_⟩;rw [h1];exact ⟨ad,by simp⟩
   . split at h
     . rename_i hc;simp at h;obtain ⟨rfl,rfl⟩:=h;obtain ⟨h1,h2,rfl⟩:=hc;have hhd:ch.getD ((0:Nat):Int)=0:=by simpa using h2
       refine ⟨_,zu hu hs ha hh hm (by simp) (by omega) (by omega) (by simp;omega) (by simp),?_⟩;rw [h1,hhd];by_cases hc:cap=0
       . subst hc;exact ⟨ad,0,by simp⟩
       . refine ⟨ad.add 0,cap,?_⟩;simp [hc]
     . cases h
 | lst ks e=>
   dsimp only at h;split at h
   . rename_i hc;simp at h;obtain ⟨rfl,rfl⟩:=h;obtain ⟨h1,rfl,rfl⟩:=hc;obtain ⟨n,_,hv⟩:=hr;rcases hv with ⟨⟨ad,rfl⟩,_⟩ | ⟨o,off,len,cap,cs,rfl,_⟩
     . refine ⟨_,zu hu hs ha hh hm (by simp) (by omega) (by simp;omega) (by simp) (by simp),?_⟩;rw [h1];exact ⟨ad,by simp⟩
     . refine ⟨_,zu hu hs ha hh hm (by simp) (by omega) (by simp;omega) (by simp) (by simp),?_⟩;rw [h1];exact ⟨some ⟨o,off,none⟩,by simp⟩
   . cases h
 | _=>dsimp only at h;cases h
theorem YM {t el:TypeId} {n:Nat} (hu:P.underlying t=some (.array n el)) {x v:AV} {y:Value} {lo hi mx:Option Value} {ca ch cm:Option Int} {ps:List PE} (hr:Rel I g x y)
   (ha:jM lo ca) (hh:jM hi ch) (hm:jM mx cm) (h:iR P el n x ca ch cm=some (v,ps)) :
   ∃z,(Instr.sliceAt t y lo hi mx).run P w=.ok z w/\Rel I g v z:=by
 unfold iR at h;split at h
 . rename_i sz b s' k hs;dsimp only at h;split at h
   . rename_i hc;simp at h;obtain ⟨rfl,rfl⟩:=h;obtain ⟨m,p,h1,h2,h3,rfl⟩:=hr;have hm0:m=0:=by simp [E.den] at h1;exact h1.symm
     subst hm0;refine ⟨_,?_,p,n - (ca.getD 0).toNat,h3,?_,rfl⟩
     . simp only [Instr.sliceAt,Sem.run_bind,run_underlying hu,Result.andThen,Instr.sureAddr,Sem.run_pure,uH (b:=false) (len:=n) (cap:=n) ha hh hm (by simp) hc.1 (by omega) (by simp;omega) (by simp),qD hs];simp only [Option.getD_none,Int.toNat_natCast];rw [if_neg (by omega),addr_add]
       congr 3
       . simp [Nat.add_assoc]
       . omega
     . omega
   . cases h
 . cases h
theorem mh {el:TypeId} {l:List AV} {cs:Array Value} {i n:Nat} {ag:Bool} {v:AV} (h:jl l i n ag=some v) (hr:qw I g l cs.toList) (hag:wI P el=some ag) (hn:qo P el=some n) :
   ∃y,(part el cs i).run P w=.ok y w/\Rel I g v y:=by
 cases ag with
 | true=>
   simp only [jl,if_true] at h;split at h
   . rename_i hle;simp at h;subst h;refine ⟨.agg (cs.extract i (i+n)),by simp only [part,Sem.run_bind,y9 hag,Result.andThen,if_true,qD hn,Sem.run_pure],_,rfl,?_⟩;have:=(hr.drop i).take n;simpa [Array.toList_extract,List.extract_eq_take_drop] using this
   . cases h
 | false=>
   simp only [jl,Bool.false_eq_true,if_false] at h;obtain ⟨y,h1,h2⟩:=hr.get h;have h1':cs[i]?=some y:=by simpa using h1
   exact ⟨y,by simp only [part,Sem.run_bind,y9 hag,Result.andThen,Bool.false_eq_true,if_false,h1',Sem.run_pure],h2⟩
theorem ng:∀{ks:List CK} {l m:List Value},zw ks l=some m->∃r,l=r++m/\r.length=ks.length/\∀(j:Nat) (k:CK),ks[j]?=some k->r[j]?=some (k.val 0)
 | [],l,m,h=>by simp [zw] at h;subst h;exact ⟨[],rfl,rfl,by simp⟩
 | .int k::ks,.int k' n::l,m,h=>by
   simp only [zw] at h;split at h
   . rename_i hc;obtain ⟨rfl,rfl⟩:=hc;obtain ⟨r,h1,h2,h3⟩:=ng h;refine ⟨.int k 0::r,by simp [h1],by simp [h2],fun j c hj=>?_⟩;cases j with
     | zero=>simp at hj;subst hj;rfl
     | succ j=>simp at hj ⊢;exact h3 j c hj
   . cases h
 | .bool::ks,.bool false::l,m,h=>by
   simp only [zw] at h;obtain ⟨r,h1,h2,h3⟩:=ng h;refine ⟨.bool false::r,by simp [h1],by simp [h2],fun j c hj=>?_⟩;cases j with
   | zero=>simp at hj;subst hj;rfl
   | succ j=>simp at hj ⊢;exact h3 j c hj
 | .bool::ks,.bool true::l,m,h=>by simp [zw] at h
 | .int _::_,[],_,h=>by simp [zw] at h
 | .bool::_,[],_,h=>by simp [zw] at h
 | .int _::_,.bool _::_,_,h=>by simp [zw] at h
 | .int _::_,.float _ _::_,_,h=>by simp [zw] at h
 | .int _::_,.complex _ _ _::_,_,h=>by simp [zw] at h
 | .int _::_,.string _::_,_,h=>by simp [zw] at h
 | .int _::_,.pointer _::_,_,h=>by simp [zw] at h
 | .int _::_,.slice _ _ _::_,_,h=>by simp [zw] at h
 | .int _::_,.map _::_,_,h=>by simp [zw] at h
 | .int _::_,.chan _::_,_,h=>by simp [zw] at h
 | .int _::_,.func _ _ _::_,_,h=>by simp [zw] at h
 | .int _::_,.nilFunc::_,_,h=>by simp [zw] at h
 | .int _::_,.iface _ _::_,_,h=>by simp [zw] at h
 | .int _::_,.nilIface::_,_,h=>by simp [zw] at h
 | .int _::_,.agg _::_,_,h=>by simp [zw] at h
 | .int _::_,.tuple _::_,_,h=>by simp [zw] at h
 | .bool::_,.int _ _::_,_,h=>by simp [zw] at h
 | .bool::_,.float _ _::_,_,h=>by simp [zw] at h
 | .bool::_,.complex _ _ _::_,_,h=>by simp [zw] at h
 | .bool::_,.string _::_,_,h=>by simp [zw] at h
 | .bool::_,.pointer _::_,_,h=>by simp [zw] at h
 | .bool::_,.slice _ _ _::_,_,h=>by simp [zw] at h
 | .bool::_,.map _::_,_,h=>by simp [zw] at h
 | .bool::_,.chan _::_,_,h=>by simp [zw] at h
 | .bool::_,.func _ _ _::_,_,h=>by simp [zw] at h
 | .bool::_,.nilFunc::_,_,h=>by simp [zw] at h
 | .bool::_,.iface _ _::_,_,h=>by simp [zw] at h
 | .bool::_,.nilIface::_,_,h=>by simp [zw] at h
 | .bool::_,.agg _::_,_,h=>by simp [zw] at h
 | .bool::_,.tuple _::_,_,h=>by simp [zw] at h
theorem l9 {ks:List CK}:∀{n:Nat} {l m:List Value},rQ ks n l=some m->∃r,l=r++m/\r.length=n*ks.length/\
   ∀(i j:Nat) (k:CK),i<n->ks[j]?=some k->r[i*ks.length+j]?=some (k.val 0)
 | 0,l,m,h=>by simp [rQ] at h;subst h;exact ⟨[],rfl,by simp,by intro i j k hi;omega⟩
 | n+1,l,m,h=>by
   simp only [rQ] at h;split at h
   . rename_i l' h1;obtain ⟨r1,e1,e2,e3⟩:=ng h1;obtain ⟨r2,e4,e5,e6⟩:=l9 h;refine ⟨r1++r2,by rw [e1,e4,List.append_assoc],by rw [List.length_append,e2,e5,Nat.add_mul];omega,fun i j k hi hj=>?_⟩;have hjl:j<ks.length:=(List.getElem?_eq_some_iff.1 hj).1;cases i with
     | zero=>rw [Nat.zero_mul,Nat.zero_add,List.getElem?_append_left (by omega)];exact e3 j k hj
     | succ i=>
       rw [Nat.add_mul,Nat.one_mul,List.getElem?_append_right (by omega),e2,show i*ks.length+ks.length+j - ks.length=i*ks.length+j by omega];exact e6 i j k (by omega) hj
   . cases h
theorem uj:∀{n:Nat} {acc l a b:List Value},fI n acc l=some (a,b)->a++b=acc.reverse++l/\a.length=acc.length+n
 | 0,acc,l,a,b,h=>by simp [fI] at h;obtain ⟨rfl,rfl⟩:=h;simp
 | n+1,acc,v::l,a,b,h=>by
   simp only [fI] at h;obtain ⟨h1,h2⟩:=uj h;refine ⟨by rw [h1];simp,by rw [h2];simp;omega⟩
 | n+1,acc,[],a,b,h=>by simp [fI] at h
theorem bq {b:Big} {l m:List AV} (h:yP P b=some (l,m)):∃(i:TypeInfo) (cs:Array Value) (xs ys zs:List Value),P.info? b.t=some i/\i.zero=some (.agg cs)/\cs.toList=xs++ys++zs/\
   (∀w,(zeroValue b.t).run P w=.ok (.agg cs) w)/\(∀(I:Itp) (g:G),qw I g l xs/\qw I g m zs)/\ys.length=b.n*b.ks.length/\
   ∀(r j:Nat) (k:CK),r<b.n->b.ks[j]?=some k->ys[r*b.ks.length+j]?=some (k.val 0):=by
 unfold yP at h;cases hi:P.info? b.t with
 | none=>simp [hi] at h
 | some i=>
   simp only [hi,Option.bind_some] at h;split at h
   . rename_i cs hz;split at h
     . rename_i xs rest h1;split at h
       . rename_i zs h2;split at h
         . rename_i l' m' h3 h4;simp at h;obtain ⟨rfl,rfl⟩:=h;obtain ⟨e1,_⟩:=uj h1;obtain ⟨ys,e2,e3,e4⟩:=l9 h2;refine ⟨i,cs,xs,ys,zs,rfl,hz,?_,fun w=>by simp [zeroValue,vD hi,Sem.run_bind,Result.andThen,hz],fun I g=>⟨xY h3,xY h4⟩,e3,e4⟩;rw [List.append_assoc,<-e2,e1];simp
         . cases h
       . cases h
     . cases h
   . cases h
theorem Wi {α:Type}:∀(vs l r:List α) (o:Nat),o+vs.length<=l.length->yV (l++r) o vs=yV l o vs++r
 | [],l,r,o,_=>by rw [w9,w9]
 | v::vs,l,r,o,h=>by
   simp only [y8,List.length_cons] at h ⊢;rw [List.set_append_left _ _ (by omega),Wi vs (l.set o v) r (o+1) (by simp;omega)]
theorem Z8 {α:Type}:∀(vs l r:List α) (o:Nat),l.length<=o->yV (l++r) o vs=l++yV r (o - l.length) vs
 | [],l,r,o,_=>by rw [w9,w9]
 | v::vs,l,r,o,h=>by
   simp only [y8];rw [List.set_append_right _ _ h,Z8 vs l (r.set (o - l.length) v) (o+1) (by omega),show o+1 - l.length=o - l.length+1 by omega]
theorem qw.set {i:Nat} {v:AV} {x:Value} (hv:Rel I g v x):∀{l:List AV} {xs:List Value},qw I g l xs->qw I g (l.set i v) (xs.set i x):=by
 induction i with
 | zero=>intro l xs h;cases l <;> cases xs <;> simp_all [qw]
 | succ i ih=>
   intro l xs h;cases l with
   | nil=>cases xs with
     | nil=>trivial
     | cons _ _=>simp [qw] at h
   | cons b l=>cases xs with
     | nil=>simp [qw] at h
     | cons y xs=>exact ⟨h.1,ih h.2⟩
theorem qw.yV:∀{vs:List AV} {ys:List Value} {l:List AV} {xs:List Value} (i:Nat),qw I g l xs->qw I g vs ys->qw I g (Sx.yV l i vs) (Sx.yV xs i ys)
 | [],[],_,_,_,h,_=>by rw [w9,w9];exact h
 | v::vs,y::ys,_,_,i,h,hv=>by rw [y8,y8];exact qw.yV (i+1) (h.set hv.1) hv.2
 | [],_::_,_,_,_,_,h=>by simp [qw] at h
 | _::_,[],_,_,_,_,h=>by simp [qw] at h
theorem iy (off:Nat):∀(vs:List Value) (k:Nat) (cs:Array Value),
   ((vs.zipIdx k).foldl (fun (cs:Array Value) (x:Value × Nat)=>cs.setIfInBounds (off+x.2) x.1) cs).toList=yV cs.toList (off+k) vs
 | [],k,cs=>by rw [w9];rfl
 | v::vs,k,cs=>by
   simp only [List.zipIdx_cons,List.foldl_cons,y8];rw [iy off vs (k+1)];simp [Nat.add_assoc]
theorem tZ {place:Nat->Option (Nat × Nat)} {ml:Nat}:∀{ps:List (Nat × AV)} {qs:List (Nat × Value)} {pre post l m:List AV} {xs ys zs:List Value} {cs:Array Value},
   ps.map (·.1)=qs.map (·.1)->qw I g (ps.map (·.2)) (qs.map (·.2))->(∀x∈ps,x.2≠.any/\x.2.mW=false)->qw I g pre xs->qw I g post zs->cs.toList=xs++ys++zs->ys.length=ml->
   dO place ml pre post ps=some (l,m)->∃(ds:Array Value) (xs' zs':List Value),Instr.fill place cs qs=some ds/\ds.toList=xs'++ys++zs'/\qw I g l xs'/\qw I g m zs'
 | [],[],pre,post,l,m,xs,ys,zs,cs,_,_,_,h1,h2,h3,_,hf=>by
   simp [dO] at hf;obtain ⟨rfl,rfl⟩:=hf;exact ⟨cs,xs,zs,rfl,h3,h1,h2⟩
 | (i,v)::ps,(j,x)::qs,pre,post,l,m,xs,ys,zs,cs,e,hr,hn,h1,h2,h3,h4,hf=>by
   simp at e;obtain ⟨rfl,e⟩:=e;obtain ⟨hv,hr⟩:=hr;have hc:=mH hv (hn (i,v) (by simp)).1 (hn (i,v) (by simp)).2;have hlen:v.cells.length=x.cells.size:=by simpa using hc.length
   have hpre:=h1.length;have hpost:=h2.length;have hsz:cs.size=xs.length+ys.length+zs.length:=by have:=congrArg List.length h3;simp at this;omega
   simp only [dO] at hf;simp only [Instr.fill];cases hp:place i with
   | none=>simp [hp] at hf
   | some os=>
     obtain ⟨off,size⟩:=os;simp only [hp] at hf ⊢;split at hf
     . cases hf
     rename_i hvs;have hvs:v.cells.length=size:=Decidable.not_not.1 hvs;have e0:=iy off x.cells.toList 0 cs;rw [Nat.add_zero] at e0
     have e2:(x.cells.zipIdx.foldl (fun cs (c,j)=>cs.setIfInBounds (off+j) c) cs).toList=yV cs.toList off x.cells.toList:=by
       rw [<-e0,<-Array.foldl_toList];simp
     have hxl:x.cells.toList.length=size:=by simp;omega
     split at hf
     . rename_i hle;rw [if_neg (show ¬(decide (x.cells.size≠size) || decide (off+x.cells.size > cs.size))=true by simp;omega)];refine tZ (xs:=yV xs off x.cells.toList) (ys:=ys) (zs:=zs) (by simpa using e) hr (fun y hy=>hn y (by simp [hy])) (h1.yV off hc) h2 ?_ h4 hf;rw [e2,h3,List.append_assoc,Wi _ _ _ _ (by omega),List.append_assoc]
     . split at hf
       . rename_i hle;rw [if_neg (show ¬(decide (x.cells.size≠size) || decide (off+x.cells.size > cs.size))=true by simp;omega)];have hsub:=h2.yV (off - (pre.length+ml)) hc;refine tZ (xs:=xs) (ys:=ys) (zs:=yV zs (off - (pre.length+ml)) x.cells.toList) (by simpa using e) hr (fun y hy=>hn y (by simp [hy])) h1 hsub ?_ h4 hf;rw [e2,h3,Z8 _ _ _ _ (by simp;omega)]
         congr 2
         simp;omega
       . cases hf
 | [],_::_,_,_,_,_,_,_,_,_,h,_,_,_,_,_,_,_=>by simp at h
 | _::_,[],_,_,_,_,_,_,_,_,h,_,_,_,_,_,_,_=>by simp at h
end Go.Sx
end
namespace Go.Sx
open Go
variable {A:Amb} {I:Itp} {P:Program} {g:G} {X:Nat->Prop} {ts:qO} {a:Act} {M:Mem} {w:World}
theorem oH {place:Nat->Option (Nat × Nat)}:∀{ps:List (Nat × AV)} {qs:List (Nat × Value)} {l m:List AV} {cs:Array Value},
   ps.map (·.1)=qs.map (·.1)->qw I g (ps.map (·.2)) (qs.map (·.2))->(∀x∈ps,x.2≠.any/\x.2.mW=false)->qw I g l cs.toList->yg place l ps=some m->
   ∃ds,Instr.fill place cs qs=some ds/\qw I g m ds.toList
 | [],[],l,m,cs,_,_,_,h,hf=>by
   simp [yg] at hf;subst hf;exact ⟨cs,rfl,h⟩
 | (i,v)::ps,(j,x)::qs,l,m,cs,h1,h2,h3,h,hf=>by
   simp at h1;obtain ⟨rfl,h1⟩:=h1;obtain ⟨hv,h2⟩:=h2;have hc:=mH hv (h3 (i,v) (by simp)).1 (h3 (i,v) (by simp)).2;have hlen:v.cells.length=x.cells.size:=by simpa using hc.length
   have hl:l.length=cs.size:=by simpa using h.length
   simp only [yg] at hf;simp only [Instr.fill];cases hp:place i with
   | none=>simp [hp] at hf
   | some os=>
     obtain ⟨off,size⟩:=os;simp only [hp] at hf ⊢;split at hf
     . cases hf
     . rename_i hn;rw [hlen,hl] at hn;rw [if_neg (by simpa using hn)];refine oH (by simpa using h1) h2 (fun y hy=>h3 y (by simp [hy])) ?_ hf;have e:=iy off x.cells.toList 0 cs;rw [Nat.add_zero] at e
       have e2:(x.cells.zipIdx.foldl (fun cs (c,j)=>cs.setIfInBounds (off+j) c) cs).toList=yV cs.toList off x.cells.toList:=by
         rw [<-e,<-Array.foldl_toList];simp
       rw [e2];exact h.yV off hc
 | [],_::_,_,_,_,h,_,_,_,_=>by simp at h
 | _::_,[],_,_,_,h,_,_,_,_=>by simp at h
theorem run_places:∀(fs:List Field) {pl:List (Nat × Nat)},kC P fs=some pl->∀w:World,
   (fs.mapM fun f=>(do pure (f.offset,<-sizeOf f.type):Sem (Nat × Nat))).run P w=.ok pl w
 | [],pl,h,w=>by simp [kC] at h;subst h;rfl
 | f::fs,pl,h,w=>by
   simp only [kC] at h;split at h
   . rename_i s l h1 h2;simp at h;subst h;have:=run_places fs h2 w;simp only [List.mapM_cons,Sem.run_bind,qD h1,Result.andThen,Sem.run_pure,this]
   . cases h
theorem bS {ks:List SK} {e:E} {n:Int} (h:e.den I g.env=some (.i n)):(j5 ks e).den I g.env=some (.i (llen n ks.length)):=
 vK (j:=14) h (show (E.lit ks.length).den I g.env=some (.i (ks.length:Nat)) from rfl) (show (E.lit 0).den I g.env=some (.i 0) from rfl) (show (E.lit 0).den I g.env=some (.i 0) from rfl)
theorem Gb {e i:E} {n j:Int} {w k:Nat} (h:e.den I g.env=some (.i n)) (hi:i.den I g.env=some (.i j)):(E.fn 1015 e i (.lit w) (.lit k)).den I g.env=some (.i (dY n j w k)):=
 vK (j:=15) h hi (show (E.lit w).den I g.env=some (.i (w:Nat)) from rfl) (show (E.lit k).den I g.env=some (.i (k:Nat)) from rfl)
theorem Xn {n:Int} {w len:Nat} (hw:w≠0) (h:(gy n).length=len*w):llen n w=len:=by
 simp only [llen,Int.toNat_natCast];rw [h,Nat.mul_div_cancel _ (Nat.pos_of_ne_zero hw)]
theorem om {n:Int} {w:Nat} (h:gy n=[]):llen n w=0:=by simp [llen,h]
theorem SK.wY (c:SK) (n:Int):c.ck.rel g n (c.val n):=by cases c <;> rfl
theorem oh {ks:List SK} {e i:E} {n j:Int} (h:e.den I g.env=some (.i n)) (hi:i.den I g.env=some (.i j)):∀(m k:Nat) {l:List AV},bC ks e i k m=some l->
   l.length=m/\∃xs:List Value,qw I g l xs/\∀q v,xs[q]?=some v->∃c,ks[k+q]?=some c/\v=c.val (dY n j ks.length ((k+q:Nat):Int))
 | 0,k,l,hl=>by
   simp only [bC,Option.some.injEq] at hl;subst hl;exact ⟨rfl,[],trivial,fun q v hv=>by simp at hv⟩
 | m+1,k,l,hl=>by
   simp only [bC] at hl;split at hl
   . rename_i c l' h1 h2;simp only [Option.some.injEq] at hl;subst hl;obtain ⟨h3,xs,h4,h5⟩:=oh h hi m (k+1) h2;refine ⟨by simp [h3],c.val (dY n j ks.length (k:Nat))::xs,⟨Go.Sx.wY (Gb h hi) (c.wY _),h4⟩,fun q v hv=>?_⟩;cases q with
     | zero=>simp at hv;exact ⟨c,by simpa using h1,hv.symm⟩
     | succ q=>
       simp at hv;obtain ⟨c',h6,h7⟩:=h5 q v hv;exact ⟨c',by rw [<-h6];congr 1;omega,by rw [h7];congr 3;omega⟩
   . cases hl
theorem kW {α:Type} {x:Array α} {a:α} (h:x.toList=[a]):x=#[a]:=Array.toList_inj.1 (by simpa using h)
theorem x9 {α:Type} {x:Array α} {a b:α} (h:x.toList=[a,b]):x=#[a,b]:=Array.toList_inj.1 (by simpa using h)
theorem aC {t:TypeId} {f:Nat} {fd:Field} (h:field? P t f=some fd):∃fs,P.underlying t=some (.struct fs)/\fs[f]?=some fd:=by
 unfold field? at h;split at h
 . rename_i fs hu;exact ⟨fs,hu,h⟩
 . cases h
theorem rC {p:Addr} {fd:Field} {n:Nat} (h:qo P fd.type=some (n+1)):(fieldPlace p fd).run P w=.ok (p.add fd.offset) w:=by
 simp [fieldPlace,qD h,Result.andThen]
theorem GH {l:List AV} {cs:Array Value} (h:qw I g l cs.toList) (o n:Nat) (_hn:o+n<=l.length):Rel I g (.agg ((l.drop o).take n)) (.agg (cs.extract o (o+n))):=by
 refine ⟨_,rfl,?_⟩;have:=(h.drop o).take n;simpa [Array.toList_extract,List.extract_eq_take_drop] using this
set_option maxHeartbeats 1000000 in
theorem MH {c:CK} (hc:c.plain=true):∀l:List Int,qw I g (l.map fun m=>c.av (.lit m)) (l.map c.val)
 | []=>trivial
 | _::l=>⟨wY rfl ((CK.yu hc).2 rfl),MH hc l⟩
theorem Y5 {kn:Kn} {o:Oper} {v:AV} {ps:List PE} (hG:GOk kn.globs A) (hm:qX A I P g M w) (ht:wG I g X ts a.tmps) (hx:∀t,.tmp t∈o.op.operands.toList->¬X t)
   (h:jy P kn ts M o.op=some (v,ps)) (hp:∀q∈ps,q.den I g.env):∃x,(execOp a.eval o).run P w=.ok (.value x) w/\Rel I g v x:=by
 have ev:∀{y:Operand} {u:AV},y∈o.op.operands.toList->evalOp ts y=some u->Rel I g u (a.eval y):=fun hy hu=>zl ht hu fun t e=>hx t (e ▸ hy);cases hop:o.op with
 | move y=>
   rw [hop] at h ev;simp only [jy] at h;cases he:evalOp ts y with
   | none=>simp [he] at h
   | some u=>
     simp [he] at h;obtain ⟨rfl,rfl⟩:=h;exact ⟨_,by simp [execOp,hop],ev (by simp [Op.operands]) he⟩
 | assign y=>
   rw [hop] at h ev;simp only [jy] at h;cases he:evalOp ts y with
   | none=>simp [he] at h
   | some u=>
     simp [he] at h;obtain ⟨rfl,rfl⟩:=h;exact ⟨_,by simp [execOp,hop],ev (by simp [Op.operands]) he⟩
 | pick c x y=>
   rw [hop] at h ev;simp only [jy] at h;split at h
   . rename_i n hc;have h1:=ev (by simp [Op.operands]) hc;obtain ⟨m,h2,h3⟩:=h1;have hmn:m=n:=by simp [E.den] at h2;exact h2.symm
     subst hmn;by_cases hn:m=0
     . rw [if_pos hn] at h;cases he:evalOp ts y with
       | none=>simp [he] at h
       | some u=>
         simp [he] at h;obtain ⟨rfl,rfl⟩:=h;exact ⟨a.eval y,by simp [execOp,hop,h3,hn,asBool],ev (by simp [Op.operands]) he⟩
     . rw [if_neg hn] at h;cases he:evalOp ts x with
       | none=>simp [he] at h
       | some u=>
         simp [he] at h;obtain ⟨rfl,rfl⟩:=h;exact ⟨a.eval x,by simp [execOp,hop,h3,hn,asBool],ev (by simp [Op.operands]) he⟩
   . cases h
 | load t y=>
   rw [hop] at h ev;simp only [jy] at h;split at h
   . rename_i b r s k ag n he hag hn;have h1:=ev (by simp [Op.operands]) he;obtain ⟨m,p,h2,h3,h4,h5⟩:=h1;obtain ⟨z,h6,h7⟩:=JO hm h hp h2 h3 h4 hag hn;exact ⟨z,by simp [execOp,hop,h5,h6,Result.andThen],h7⟩
   . rename_i gv k n he hag hn;cases hgl:XG kn.globs gv k with
     | none=>simp [hgl] at h
     | some u=>
       simp [hgl] at h;obtain ⟨rfl,rfl⟩:=h;have h1:=ev (by simp [Op.operands]) he;simp only [Rel] at h1;unfold XG at hgl;split at hgl
       . rename_i x hx;cases hl:x.l[k]? with
         | none=>simp [hl] at hgl
         | some m=>
           simp [hl] at hgl;have hmem:=List.mem_of_find?_eq_some hx;have hgx:x.g=gv:=by simpa using List.find?_some hx
           obtain ⟨gp,g1,g2,c,T,fr,g3,g4⟩:=hG x hmem;have hh:=hm.keep _ g1 g2;rw [g3,hgx] at hh;refine ⟨x.k.val m,?_,?_⟩
           . have:=kQ (P:=P) (t:=t) (o:=k) (b:=gv) (v:=x.k.val m) hag (by rw [za hh];exact g4.1 k m hl);simp [execOp,hop,h1,this,Result.andThen]
           . rw [<-hgl];exact wY rfl ((CK.yu gp).2 rfl)
       . cases hgl
   . rename_i gv k n he hag hn;cases hgl:ZW kn.globs gv k n with
     | none=>simp [hgl] at h
     | some u=>
       simp [hgl] at h;obtain ⟨rfl,rfl⟩:=h;have h1:=ev (by simp [Op.operands]) he;simp only [Rel] at h1;unfold ZW at hgl;split at hgl
       . rename_i x hx;split at hgl
         rotate_left
         . cases hgl
         rename_i hle;cases hgl;have hmem:=List.mem_of_find?_eq_some hx;have hgx:x.g=gv:=by simpa using List.find?_some hx
         obtain ⟨gp,g1,g2,c,T,fr,g3,g4⟩:=hG x hmem;have hh:=hm.keep _ g1 g2;rw [g3,hgx] at hh;obtain ⟨cs,hcs⟩:∃cs:List Value,cs=((x.l.drop k).take n).map x.k.val:=⟨_,rfl⟩
         have hrun:=kT (P:=P) (w:=w) (o:=k) (b:=gv) (cs:=cs) hag hn (by simp [hcs];omega) (fun j v hv=>by
           rw [hcs,List.getElem?_map,Option.map_eq_some_iff] at hv;obtain ⟨m,hm',rfl⟩:=hv;rw [List.getElem?_take] at hm';split at hm'
           . rw [List.getElem?_drop] at hm';rw [za hh];exact g4.1 (k+j) m hm'
           . cases hm')
         exact ⟨_,by simp [execOp,hop,h1,hrun,Result.andThen],cs.toArray,rfl,by rw [hcs];exact MH gp _⟩
       . cases hgl
   . rename_i a' n' he hag hn;simp only [Option.some.injEq,Prod.mk.injEq] at h;obtain ⟨rfl,rfl⟩:=h;obtain ⟨o',q,z,y',h1,h2,h3,h4⟩:=ev (by simp [Op.operands]) he;obtain ⟨_,_,⟨T,fr,hh⟩,_⟩:=hm.frz o' z h2;have hrun:=kQ (P:=P) (w:=w) (o:=q) (b:=o') (v:=y') hag (by rw [za hh];exact h3);exact ⟨_,by simp [execOp,hop,h1,hrun,Result.andThen],h4⟩
   . rename_i ks e i k n' he hag hn;cases hl:bC ks e i k n' with
     | none=>simp [hl] at h
     | some l=>
       simp only [hl,Option.map_some,Option.some.injEq,Prod.mk.injEq] at h;obtain ⟨rfl,rfl⟩:=h;obtain ⟨n,j,h1,h2,h3,o',off,len,cs,h4,h5,h6,h7,h8⟩:=ev (by simp [Op.operands]) he;obtain ⟨_,_,⟨T,fr,hh⟩,_⟩:=hm.frz o' cs h5;obtain ⟨hll,xs,hxs,hval⟩:=oh h1 h2 n' k hl
       have hrun:=kT (P:=P) (w:=w) (o:=off+j.toNat*ks.length+k) (b:=o') (cs:=xs) hag hn (by rw [<-hxs.length,hll]) (fun q v hv=>by
         obtain ⟨c,h9,rfl⟩:=hval q v hv;rw [za hh];have:=h8 j.toNat (k+q) c (by omega) h9;simp only [dY,Int.toNat_natCast];rw [<-this];congr 1;omega)
       exact ⟨.agg xs.toArray,by simp [execOp,hop,h4,hrun,Result.andThen],xs.toArray,rfl,by simpa using hxs⟩
   . rename_i ks e i k n' he hag hn;cases hl:ks[k]? with
     | none=>simp [hl] at h
     | some c=>
       simp only [hl,Option.map_some,Option.some.injEq,Prod.mk.injEq] at h;obtain ⟨rfl,rfl⟩:=h;obtain ⟨n,j,h1,h2,h3,o',off,len,cs,h4,h5,h6,h7,h8⟩:=ev (by simp [Op.operands]) he;obtain ⟨_,_,⟨T,fr,hh⟩,_⟩:=hm.frz o' cs h5
       have hrun:=kQ (P:=P) (w:=w) (o:=off+j.toNat*ks.length+k) (b:=o') (v:=c.val (dY n j ks.length k)) hag (by
         rw [za hh];have:=h8 j.toNat k c (by omega) hl;simp only [dY,Int.toNat_natCast];exact this)
       exact ⟨_,by simp [execOp,hop,h4,hrun,Result.andThen],Go.Sx.wY (Gb h1 h2) (c.wY _)⟩
   . cases h
 | nilCheck y=>
   rw [hop] at h ev;simp only [jy] at h;split at h
   . rename_i b r s k he;simp at h;obtain ⟨rfl,rfl⟩:=h;have h1:=ev (by simp [Op.operands]) he;have h0:=h1;obtain ⟨m,p,h2,h3,h4,h5⟩:=h1;exact ⟨_,by simp only [execOp,hop,h5];rfl,by rw [h5] at h0;exact h0⟩
   . rename_i gv k he;simp at h;obtain ⟨rfl,rfl⟩:=h;have h1:=ev (by simp [Op.operands]) he;simp only [Rel] at h1;exact ⟨_,by simp only [execOp,hop,h1];rfl,rfl⟩
   . rename_i ks e i k he;simp only [Option.some.injEq,Prod.mk.injEq] at h;obtain ⟨rfl,rfl⟩:=h;have h1:=ev (by simp [Op.operands]) he;have h0:=h1;obtain ⟨n,j,_,_,_,o',off,len,cs,h4,_⟩:=h1;exact ⟨_,by simp only [execOp,hop,h4];rfl,by rw [h4] at h0;exact h0⟩
   . cases h
 | binOp bo t x y yt=>
   rw [hop] at h ev;simp only [jy] at h;split at h
   . rename_i u u' he he';obtain ⟨r,h1,h2⟩:=Po h hp (ev (by simp [Op.operands]) he) (ev (by simp [Op.operands]) he') x y w;exact ⟨r,by simp only [execOp,hop];rw [Sem.run_bind,h1];rfl,h2⟩
   . cases h
 | unOp uo t x=>
   rw [hop] at h ev;cases uo with
   | not=>
     simp only [jy] at h;split at h
     . rename_i e he;simp at h;obtain ⟨rfl,rfl⟩:=h;obtain ⟨n,h1,h2⟩:=ev (by simp [Op.operands]) he;refine ⟨.bool (!decide (n≠0)),by simp only [execOp,hop,h2];rfl,_,qy h1 (show (E.lit 0).den I g.env=some (.i 0) from rfl),?_⟩;by_cases hn:n=0 <;> simp [BO.ev,hn]
     . cases h
   | neg=>
     simp only [jy] at h;split at h
     . rename_i k e he;simp only [Option.some.injEq] at h;obtain ⟨n,h1,h2⟩:=ev (by simp [Op.operands]) he;exact ⟨.int k (k.wrap (0 - n)),by simp only [execOp,hop,h2];rfl,lI h hp (qy (o:=.sub) (show (E.lit 0).den I g.env=some (.i 0) from rfl) h1)⟩
     . cases h
   | xor=>
     simp only [jy] at h;split at h
     . rename_i k e he;simp at h;obtain ⟨rfl,rfl⟩:=h;obtain ⟨n,h1,h2⟩:=ev (by simp [Op.operands]) he;exact ⟨.int k (wR 2 k (if k.signed then -1 else k.max) n),by simp only [execOp,hop,h2];rfl,_,qy (o:=.bits 2 k) (show (E.lit _).den I g.env=some (.i _) from rfl) h1,rfl⟩
     . cases h
   | _=>simp [jy] at h
 | convert src dst x=>
   rw [hop] at h ev;simp only [jy] at h;split at h
   . rename_i k e k' s he hu hs;simp at h;obtain ⟨rfl,rfl⟩:=h;obtain ⟨n,h1,h2⟩:=ev (by simp [Op.operands]) he;refine ⟨.int k' (k'.wrap n),?_,_,nU h1,rfl⟩;simp only [execOp,hop,h2,convert,Sem.run_bind,run_underlying hs,run_underlying hu,Result.andThen];cases s <;> rfl
   . cases h
 | makeFunc fn first cap=>
   rw [hop] at h;cases fn with
   | func f=>
     simp only [jy] at h;split at h
     . rename_i l hf hc;simp at h;obtain ⟨rfl,rfl⟩:=h;have h0:=xg (a:=a) ht hf fun t ht'=>hx t (by rw [hop];simp [Op.operands];exact .inl (by simpa using ht'))
       have hf':first=#[]:=by
         have:=h0.length;simp at this;exact Array.eq_empty_of_size_eq_zero this.symm
       subst hf';have h1:=xg (a:=a) ht hc fun t ht'=>hx t (by rw [hop];simpa [Op.operands] using ht');exact ⟨_,by simp only [execOp,hop];rfl,cap.map a.eval,by simp,by simpa using h1⟩
     . rename_i m l hne hf hc;simp at h;obtain ⟨rfl,rfl⟩:=h;have h0:=xg (a:=a) ht hf fun t ht'=>hx t (by rw [hop];simp [Op.operands];exact .inl (by simpa using ht'));have h1:=xg (a:=a) ht hc fun t ht'=>hx t (by rw [hop];simp [Op.operands];exact .inr (by simpa using ht'));exact ⟨_,by simp only [execOp,hop];rfl,first.map a.eval,cap.map a.eval,by simp,by simpa using h0,by simpa using h1⟩
     . cases h
   | _=>simp [jy] at h
 | fieldAddr t x f=>
   rw [hop] at h ev;simp only [jy] at h;split at h
   . rename_i b r s k fd he hf;split at h
     . rename_i n hn;simp at h;obtain ⟨rfl,rfl⟩:=h;obtain ⟨m,p,h2,h3,h4,h5⟩:=ev (by simp [Op.operands]) he;obtain ⟨fs,hu,hfs⟩:=aC hf;refine ⟨.pointer (some ⟨p.blk,p.base+m.toNat*s+(k+fd.offset),none⟩),?_,m,p,h2,h3,h4,rfl⟩;simp only [execOp,hop,h5,Instr.fieldAt,Sem.run_bind,run_underlying hu,Result.andThen,hfs,Instr.sureAddr,Sem.run_pure,rC hn,addr_add];simp [Nat.add_assoc]
     . cases h
   . rename_i ks e i k fd he hf;split at h
     . rename_i n hn;simp only [Option.some.injEq,Prod.mk.injEq] at h;obtain ⟨rfl,rfl⟩:=h;obtain ⟨n',j,h1,h2,h3,o',off,len,cs,h4,h5⟩:=ev (by simp [Op.operands]) he;obtain ⟨fs,hu,hfs⟩:=aC hf;refine ⟨.pointer (some ⟨o',off+j.toNat*ks.length+(k+fd.offset),none⟩),?_,n',j,h1,h2,h3,o',off,len,cs,rfl,h5⟩;simp only [execOp,hop,h4,Instr.fieldAt,Sem.run_bind,run_underlying hu,Result.andThen,hfs,Instr.sureAddr,Sem.run_pure,rC hn,addr_add];simp [Nat.add_assoc]
     . cases h
   . cases h
 | field t x f=>
   rw [hop] at h ev;simp only [jy] at h;split at h
   . rename_i l fd he hf;obtain ⟨cs,h2,h3⟩:=ev (by simp [Op.operands]) he;obtain ⟨fs,hu,hfs⟩:=aC hf;split at h
     . rename_i n hag hn;split at h
       . rename_i hle;simp at h;obtain ⟨rfl,rfl⟩:=h;refine ⟨_,?_,GH h3 fd.offset n hle⟩;simp only [execOp,hop,h2,Instr.field,Sem.run_bind,run_underlying hu,Result.andThen,hfs,asAgg,Sem.run_pure,part,y9 hag,if_true,qD hn]
       . cases h
     . rename_i n hag hn;cases hl:l[fd.offset]? with
       | none=>simp [hl] at h
       | some u=>
         simp [hl] at h;obtain ⟨rfl,rfl⟩:=h;obtain ⟨y,h4,h5⟩:=h3.get hl;refine ⟨y,?_,h5⟩;have h4':cs[fd.offset]?=some y:=by simpa using h4
         simp only [execOp,hop,h2,Instr.field,Sem.run_bind,run_underlying hu,Result.andThen,hfs,asAgg,Sem.run_pure,part,y9 hag,Bool.false_eq_true,if_false,h4']
     . cases h
   . cases h
 | indexAddr t x i=>
   rw [hop] at h ev;simp only [jy] at h;split at h
   . rename_i b lo len s nl k e el he hi hu;split at h
     . rename_i hs;simp at h;obtain ⟨rfl,rfl⟩:=h;obtain ⟨l,n,h1,h2,h3,h4,h5⟩:=ev (by simp [Op.operands]) he;obtain ⟨m,h6,h7⟩:=ev (by simp [Op.operands]) hi;obtain ⟨h8,h9⟩:=zH h6 h2 hp;rcases h5 with ⟨p,cap,h10,h11,_⟩ | ⟨_,h10,_⟩
       . refine ⟨.pointer (some ⟨p.blk,p.base+(l+m).toNat*s+0,none⟩),?_,_,p,zk h1 h6,by omega,h10,rfl⟩;have hlt:0<=m/\m<(n.toNat:Int):=by omega
         simp only [execOp,hop,h7,h11,Instr.indexAt,asIntOf,Sem.run_bind,Sem.run_pure,run_underlying hu,Result.andThen,if_pos hlt,qD hs,addr_add];have e1:(l+m).toNat=l.toNat+m.toNat:=by omega
         rw [e1,Nat.add_mul,Nat.add_assoc,Nat.add_zero]
       . omega
     . cases h
   . rename_i b r s k k' xx n el he hi hu;split at h
     . rename_i z hz;split at h
       . rename_i hlt;simp at h;obtain ⟨rfl,rfl⟩:=h;obtain ⟨m,p,h2,h3,h4,h5⟩:=ev (by simp [Op.operands]) he;obtain ⟨m',h6,h7⟩:=ev (by simp [Op.operands]) hi;have e:m'=xx:=by simp [E.den] at h6;exact h6.symm
         subst e;refine ⟨.pointer (some ⟨p.blk,p.base+m.toNat*s+(k+m'.toNat*z),none⟩),?_,m,p,h2,h3,h4,rfl⟩;simp only [execOp,hop,h7,h5,Instr.indexAt,asIntOf,Sem.run_bind,Sem.run_pure,run_underlying hu,Result.andThen,Instr.sureAddr,if_pos hlt,qD hz,addr_add];simp [Nat.add_assoc]
       . cases h
     . cases h
   . rename_i b s k k' e n el hov he hi hu;split at h
     . rename_i z hz;simp at h;obtain ⟨rfl,rfl⟩:=h;obtain ⟨m,p,h2,h3,h4,h5⟩:=ev (by simp [Op.operands]) he;have hm0:m=0:=by simp [E.den] at h2;exact h2.symm
       subst hm0;obtain ⟨j,h6,h7⟩:=ev (by simp [Op.operands]) hi;have hlt:=zH h6 (show (E.lit n).den I g.env=some (.i n) from rfl) hp;refine ⟨.pointer (some ⟨p.blk,p.base+j.toNat*z+k,none⟩),?_,j,p,h6,hlt.1,h4,rfl⟩;simp only [execOp,hop,h7,h5,Instr.indexAt,asIntOf,Sem.run_bind,Sem.run_pure,run_underlying hu,Result.andThen,Instr.sureAddr,if_pos hlt,qD hz,addr_add];rw [show p.base+(0:Int).toNat*s+k+j.toNat*z=p.base+j.toNat*z+k by simp;omega]
     . cases h
   . rename_i gv k k' xx n el he hi hu;split at h
     . rename_i z hz;split at h
       . rename_i hlt;simp at h;obtain ⟨rfl,rfl⟩:=h;have h1:=ev (by simp [Op.operands]) he;simp only [Rel] at h1;obtain ⟨m',h6,h7⟩:=ev (by simp [Op.operands]) hi;have e:m'=xx:=by simp [E.den] at h6;exact h6.symm
         subst e;refine ⟨.pointer (some ⟨gv,k+m'.toNat*z,none⟩),?_,rfl⟩;simp only [execOp,hop,h7,h1,Instr.indexAt,asIntOf,Sem.run_bind,Sem.run_pure,run_underlying hu,Result.andThen,Instr.sureAddr,if_pos hlt,qD hz,addr_add]
       . cases h
     . cases h
   . rename_i b k n s k' xx el he hi hu;split at h
     . rename_i hc;obtain ⟨hz,h0,hlt⟩:=hc;simp at h;obtain ⟨rfl,rfl⟩:=h;obtain ⟨p,cap,h1,h2,h3⟩:=ev (by simp [Op.operands]) he;obtain ⟨m',h6,h7⟩:=ev (by simp [Op.operands]) hi;have e:m'=xx:=by simp [E.den] at h6;exact h6.symm
       subst e;refine ⟨.pointer (some ⟨p.blk,p.base+(0:Int).toNat*0+(k+m'.toNat*s),none⟩),?_,0,p,rfl,by omega,h1,rfl⟩;simp only [execOp,hop,h7,h3,Instr.indexAt,asIntOf,Sem.run_bind,Sem.run_pure,run_underlying hu,Result.andThen,if_pos (show 0<=m'/\m'<(n:Int) from ⟨h0,hlt⟩),qD hz,addr_add];simp [Nat.add_assoc]
     . cases h
   . rename_i ks q k' e el he hi hu;split at h
     . rename_i hs;simp only [Option.some.injEq,Prod.mk.injEq] at h;obtain ⟨rfl,rfl⟩:=h;obtain ⟨n,h1,hv⟩:=ev (by simp [Op.operands]) he;obtain ⟨m,h6,h7⟩:=ev (by simp [Op.operands]) hi;obtain ⟨h8,h9⟩:=zH h6 (bS h1) hp;rcases hv with ⟨_,h2⟩ | ⟨o',off,len,cap,cs,h2,h3,h4,h5,h10⟩
       . rw [om h2] at h9;omega
       . have hw:ks.length≠0:=fun e0=>by simp [llen,e0] at h9;omega
         rw [Xn hw h5] at h9;refine ⟨.pointer (some ⟨o',off+m.toNat*ks.length+0,none⟩),?_,n,m,h1,h6,h8,o',off,len,cs,rfl,h3,h9,h5,h10⟩;have hlt:0<=m/\m<(len:Int):=⟨h8,h9⟩;simp only [execOp,hop,h7,h2,Instr.indexAt,asIntOf,Sem.run_bind,Sem.run_pure,run_underlying hu,Result.andThen,if_pos hlt,qD hs,addr_add];simp
     . cases h
   . cases h
 | index t x i=>
   rw [hop] at h ev;simp only [jy] at h;split at h
   . rename_i l k j he hi hu;split at h
     . rename_i h0;cases hl:l[j.toNat]? with
       | none=>simp [hl] at h
       | some b=>
         simp [hl] at h;obtain ⟨rfl,rfl⟩:=h;obtain ⟨s,h1,rfl⟩:=ev (by simp [Op.operands]) he;obtain ⟨m',h6,h7⟩:=ev (by simp [Op.operands]) hi;have e:m'=j:=by simp [E.den] at h6;exact h6.symm
         subst e;refine ⟨.int .u8 b.toNat,?_,_,rfl,rfl⟩
         have hb:s[m'.toNat]?=some b:=by
           obtain ⟨hlt,hb⟩:=List.getElem?_eq_some_iff.1 hl
           have hlt':m'.toNat<s.size:=by
             have:=hlt;rw [Array.length_toList] at this;exact this
           rw [getElem?_pos s m'.toNat hlt']
           congr 1
         simp only [execOp,hop,h1,h7,Instr.index,asIntOf,Sem.run_bind,Sem.run_pure,run_underlying hu,Result.andThen,if_pos h0,hb]
     . cases h
   . rename_i l k j n el he hi hu;split at h
     . rename_i ag z hag hz;split at h
       . rename_i hlt;cases hc:jl l (j.toNat*z) z ag with
         | none=>simp [hc] at h
         | some u=>
           simp [hc] at h;obtain ⟨rfl,rfl⟩:=h;obtain ⟨cs,h1,h2⟩:=ev (by simp [Op.operands]) he;obtain ⟨m',h6,h7⟩:=ev (by simp [Op.operands]) hi;have e:m'=j:=by simp [E.den] at h6;exact h6.symm
           subst e;obtain ⟨y,h3,h4⟩:=mh (P:=P) (w:=w) hc h2 hag hz;refine ⟨y,?_,h4⟩;simp only [execOp,hop,h1,h7,Instr.index,asIntOf,Sem.run_bind,Sem.run_pure,run_underlying hu,Result.andThen,if_pos hlt,qD hz,h3]
       . cases h
     . cases h
   . rename_i ks t' m k e n el he hi hu;split at h
     . rename_i z hag hz;split at h
       . rename_i hcond;obtain ⟨rfl,rfl⟩:=hcond;cases hl:jS ks t' e 0 ks.length with
         | none=>simp [hl] at h
         | some l=>
           simp [hl] at h;obtain ⟨rfl,rfl⟩:=h;obtain ⟨f,xs,ys,zs,hf,h1,h2,h3,h4,h5⟩:=ev (by simp [Op.operands]) he;obtain ⟨m',h6,h7⟩:=ev (by simp [Op.operands]) hi;have e1:xs=[]:=by cases xs with | nil=>rfl | cons _ _=>simp [qw] at h2
           have e2:zs=[]:=by cases zs with | nil=>rfl | cons _ _=>simp [qw] at h3
           subst e1 e2;obtain ⟨Km,hlt⟩:=zH h6 (show (E.lit n).den I g.env=some (.i n) from rfl) hp;have qyD:m'.toNat<n:=by omega
           have hX:∀(j:Nat) (ck:CK),ks[j]?=some ck->ck.rel g (f m' j) ((ys[m'.toNat*ks.length+j]?).getD Go.undef)/\ys[m'.toNat*ks.length+j]?=some ((ys[m'.toNat*ks.length+j]?).getD Go.undef):=fun j ck hj=>by
             have:=h5 m'.toNat j ck qyD hj;rw [Int.toNat_of_nonneg Km] at this;exact yL this
           obtain ⟨hll,xs',hrel,hxs⟩:=kZ hf h6 _ (fun j ck hj=>(hX j ck hj).1) ks.length 0 hl;have hxl:xs'.length=ks.length:=by rw [<-hrel.length,hll]
           have hr0:m'.toNat<n:=by omega
           have hm':((m'.toNat:Nat):Int)=m':=Int.toNat_of_nonneg Km;refine ⟨.agg (((([]:List Value)++ys++[]).toArray).extract (m'.toNat*ks.length) (m'.toNat*ks.length+ks.length)),?_,xs'.toArray,?_,by simpa using hrel⟩
           . simp only [execOp,hop,h1,h7,Instr.index,asIntOf,Sem.run_bind,Sem.run_pure,run_underlying hu,Result.andThen,if_pos (And.intro Km hlt),qD hz,part,y9 hag,if_true]
           . congr 1
             apply Array.ext';simp only [Array.toList_extract,List.extract_eq_take_drop,List.nil_append,List.append_nil,Nat.add_sub_cancel_left];apply List.ext_getElem?;intro j;rcases Nat.lt_or_ge j ks.length with hj | hj
             . rw [List.getElem?_take_of_lt hj,List.getElem?_drop,(hX j _ (List.getElem?_eq_getElem hj)).2];obtain ⟨c,hc1,hc2⟩:=hxs j xs'[j] (List.getElem?_eq_getElem (by omega));rw [show xs'[j]?=some xs'[j] from List.getElem?_eq_getElem (by omega),hc2];rw [Nat.zero_add]
             . rw [List.getElem?_eq_none (by simp;omega),List.getElem?_eq_none (by omega)]
       . cases h
     . cases h
   . cases h
 | extract x i=>
   rw [hop] at h ev;simp only [jy] at h;split at h
   . rename_i l he;cases hl:l[i]? with
     | none=>simp [hl] at h
     | some u=>
       simp [hl] at h;obtain ⟨rfl,rfl⟩:=h;obtain ⟨cs,h2,h3⟩:=ev (by simp [Op.operands]) he;obtain ⟨y,h4,h5⟩:=h3.get hl;have h4':cs[i]?=some y:=by simpa using h4
       exact ⟨y,by simp [execOp,hop,h2,Instr.extract,h4'],h5⟩
   . cases h
 | slice t x lo hi mx=>
   rw [hop] at h ev;simp only [jy] at h;split at h
   . rename_i u el he hu;split at h
     . rename_i b lo' len s nl y;split at h
       . rename_i k e sz hy hs;simp at h;obtain ⟨rfl,rfl⟩:=h;obtain ⟨l,n,h1,h2,h3,h4,h5⟩:=ev (by simp [Op.operands]) he;obtain ⟨m,h6,h7⟩:=ev (by simp [Op.operands]) hy;have h8:=zn (show (E.lit 0).den I g.env=some (.i 0) from rfl) h6 (hp _ (by simp));have h9:=zn h6 h2 (hp _ (by simp));rcases h5 with ⟨p,cap,h10,h11,h12,h13⟩ | ⟨h10,h11,ad,h12⟩
         . refine ⟨.slice (some ⟨p.blk,p.base+l.toNat*s,none⟩) m.toNat cap,?_,l,m,h1,h6,h3,h8,.inl ⟨p,cap,h10,rfl,by omega,h13⟩⟩;have:=zu (w:=w) hu hs (ad:=some ⟨p.blk,p.base+l.toNat*s,none⟩) (len:=n.toNat) (cap:=cap) (lo:=none) (hi:=some (.int k m)) (mx:=none) (a:=none) (h:=some m) (m:=none) rfl ⟨k,rfl⟩ rfl (by simp) (by simp) (by simpa using h8) (by simp;omega) (by simp);simp only [Option.getD_none,Option.getD_some,Int.toNat_zero,Nat.zero_mul,Nat.sub_zero,Int.toNat_natCast] at this;simp only [execOp,hop,h11,Option.map_some,Option.map_none,h7,Sem.run_bind,this,Result.andThen];simp [Addr.add]
         . subst h11;have hm0:m=0:=by omega
           subst hm0;refine ⟨.slice ad 0 0,?_,l,0,h1,h6,h3,h8,.inr ⟨h10,rfl,ad,rfl⟩⟩;have:=zu (w:=w) hu hs (ad:=ad) (len:=0) (cap:=0) (lo:=none) (hi:=some (.int k 0)) (mx:=none) (a:=none) (h:=some 0) (m:=none) rfl ⟨k,rfl⟩ rfl (by simp) (by simp) (by simp) (by simp) (by simp);simp only [Option.getD_none,Option.getD_some,Int.toNat_zero,Nat.zero_mul,Nat.sub_zero,Int.toNat_natCast] at this;simp only [execOp,hop,h12,Option.map_some,Option.map_none,h7,Sem.run_bind,this,Result.andThen];simp
       . cases h
     . split at h
       . rename_i ca ch cm ha hh hm'
         obtain ⟨z,h1,h2⟩:=Vm (w:=w) hu (ev (by simp [Op.operands]) he) (bG ht ha fun t' e=>hx t' (by rw [hop];simp [Op.operands,e]))
           (bG ht hh fun t' e=>hx t' (by rw [hop];simp [Op.operands,e])) (bG ht hm' fun t' e=>hx t' (by rw [hop];simp [Op.operands,e])) h hp
         exact ⟨z,by simp only [execOp,hop,Sem.run_bind,h1,Result.andThen];rfl,h2⟩
       . cases h
   . rename_i u n el he hu;split at h
     . rename_i ca ch cm ha hh hm'
       obtain ⟨z,h1,h2⟩:=YM (w:=w) hu (ev (by simp [Op.operands]) he) (bG ht ha fun t' e=>hx t' (by rw [hop];simp [Op.operands,e]))
         (bG ht hh fun t' e=>hx t' (by rw [hop];simp [Op.operands,e])) (bG ht hm' fun t' e=>hx t' (by rw [hop];simp [Op.operands,e])) h
       exact ⟨z,by simp only [execOp,hop,Sem.run_bind,h1,Result.andThen];rfl,h2⟩
     . cases h
   . cases h
 | build t parts=>
   rw [hop] at h;simp only [jy] at h;split at h
   . rename_i hbig;split at h
     . rename_i b l fs hb hl hu
       have hbt:b.t=t:=by
         have:=List.find?_some (show kn.p9.find? (fun b=>b.t == t)=some b from hb);simpa using this
       subst hbt;split at h
       . rename_i pre post pl hz hpl;cases hf:dO (fun i=>pl[i]?) (b.n*b.ks.length) pre post l with
         | none=>simp [hf] at h
         | some q=>
           obtain ⟨l',m'⟩:=q;simp [hf] at h;obtain ⟨rfl,rfl⟩:=h;obtain ⟨ti,cs,xs,ys,zs,_,_,hcs,hzr,zM,hyl,hys⟩:=bq hz;obtain ⟨h1,h2,h3⟩:=wN (a:=a) ht hl fun t' ht'=>hx t' (by rw [hop];simpa [Op.operands] using ht');obtain ⟨ds,xs',zs',h4,h5,h6,h7⟩:=tZ (qs:=parts.toList.map fun x=>(x.1,a.eval x.2)) (cs:=cs) (by simpa [Function.comp_def] using h1) (by simpa [Function.comp_def] using h2) h3 (zM I g).1 (zM I g).2 hcs hyl hf;refine ⟨.agg ds,?_,fun _ _=>0,xs',ys,zs',rfl,?_,h6,h7,hyl,fun r j k a b=>CK.at0 (hys r j k a b)⟩
           . have hpm:(fs.mapM fun f=>(do pure (f.offset,<-sizeOf f.type):Sem (Nat × Nat))).run P w=.ok pl.toArray w:=by
               rw [Array.mapM_eq_mapM_toList];simp only [Sem.run_map,run_places fs.toList hpl w,Result.andThen]
             have h4':Instr.fill (fun x=>pl.toArray[x]?) cs (parts.map fun x=>(x.1,a.eval x.2)).toList=some ds:=by
               rw [<-h4];congr 1
               . funext i;simp
               . simp
             simp only [execOp,hop,Instr.build,Sem.run_bind,hzr,run_underlying hu,Result.andThen,hpm,Value.cells];rw [h4'];rfl
           . congr 1
             rw [<-h5]
       . cases h
     . rename_i b n el hb hl hu
       have hbt:b.t=t:=by
         have:=List.find?_some (show kn.p9.find? (fun b=>b.t == t)=some b from hb);simpa using this
       subst hbt;split at h
       . rename_i hsome;obtain ⟨sz,hsz⟩:=Option.isSome_iff_exists.1 hsome;cases hz:yP P b with
         | none=>simp [hz] at h
         | some q=>
           obtain ⟨l',m'⟩:=q;simp [hz] at h;obtain ⟨rfl,rfl⟩:=h;obtain ⟨ti,cs,xs,ys,zs,_,_,hcs,hzr,zM,hyl,hys⟩:=bq hz
           have hnil:parts=#[]:=by
             have:=(wN (a:=a) ht hl fun t' ht'=>hx t' (by rw [hop];simpa [Op.operands] using ht')).1;simp at this;exact this
           subst hnil;refine ⟨.agg cs,?_,fun _ _=>0,xs,ys,zs,rfl,?_,(zM I g).1,(zM I g).2,hyl,fun r j k a b=>CK.at0 (hys r j k a b)⟩
           . have e:((#[]:Array (Nat × Operand)).map fun x=>(x.1,a.eval x.2)).toList=[]:=by simp
             simp only [execOp,hop,Instr.build,Sem.run_bind,hzr,run_underlying hu,Result.andThen,qD hsz,Value.cells];rw [e];rfl
           . congr 1
             rw [<-hcs]
       . cases h
     . cases h
   split at h
   . rename_i z l fs hz hl hu;split at h
     . rename_i pl hpl;cases hf:yg (fun i=>pl[i]?) z.cells l with
       | none=>simp [hf] at h
       | some m=>
         simp [hf] at h;obtain ⟨rfl,rfl⟩:=h;obtain ⟨ti,zx,_,_,hzr,zM⟩:=zC hz;obtain ⟨h1,h2,h3⟩:=wN (a:=a) ht hl fun t' ht'=>hx t' (by rw [hop];simpa [Op.operands] using ht');obtain ⟨ds,h4,h5⟩:=oH (qs:=parts.toList.map fun x=>(x.1,a.eval x.2)) (cs:=zx.cells) (by simpa [Function.comp_def] using h1) (by simpa [Function.comp_def] using h2) h3 (zM I g).2 hf;refine ⟨.agg ds,?_,ds,rfl,h5⟩
         have hpm:(fs.mapM fun f=>(do pure (f.offset,<-sizeOf f.type):Sem (Nat × Nat))).run P w=.ok pl.toArray w:=by
           rw [Array.mapM_eq_mapM_toList];simp only [Sem.run_map,run_places fs.toList hpl w,Result.andThen]
         have h4':Instr.fill (fun x=>pl.toArray[x]?) zx.cells (parts.map fun x=>(x.1,a.eval x.2)).toList=some ds:=by
           rw [<-h4];congr 1
           . funext i;simp
           . simp
         simp only [execOp,hop,Instr.build,Sem.run_bind,hzr,run_underlying hu,Result.andThen,hpm];rw [h4'];rfl
     . cases h
   . rename_i z l len el hz hl hu;split at h
     . rename_i sz hsz;cases hf:yg (fun i=>some (i*sz,sz)) z.cells l with
       | none=>simp [hf] at h
       | some m=>
         simp [hf] at h;obtain ⟨rfl,rfl⟩:=h;obtain ⟨ti,zx,_,_,hzr,zM⟩:=zC hz;obtain ⟨h1,h2,h3⟩:=wN (a:=a) ht hl fun t' ht'=>hx t' (by rw [hop];simpa [Op.operands] using ht');obtain ⟨ds,h4,h5⟩:=oH (qs:=parts.toList.map fun x=>(x.1,a.eval x.2)) (cs:=zx.cells) (by simpa [Function.comp_def] using h1) (by simpa [Function.comp_def] using h2) h3 (zM I g).2 hf;refine ⟨.agg ds,?_,ds,rfl,h5⟩
         have h4':Instr.fill (fun i=>some (i*sz,sz)) zx.cells (parts.map fun x=>(x.1,a.eval x.2)).toList=some ds:=by
           rw [<-h4];congr 1;simp
         simp only [execOp,hop,Instr.build,Sem.run_bind,hzr,run_underlying hu,Result.andThen,qD hsz];rw [h4'];rfl
     . cases h
   . cases h
 | call c=>
   rw [hop] at h ev;obtain ⟨callee,args,argTypes⟩:=c;cases callee with
   | builtin b=>
     cases b with
     | len=>
       simp only [jy] at h;split at h
       . rename_i y t ha hat;have ha':=kW ha;have hat':=kW hat;subst ha';subst hat';split at h
         . rename_i b' lo len s nl el he hu;simp at h;obtain ⟨rfl,rfl⟩:=h;obtain ⟨l,n,h1,h2,h3,h4,h5⟩:=ev (by simp [Op.operands,Call.operands]) he;refine ⟨.int .i64 n,?_,n,h2,rfl⟩;rcases h5 with ⟨p,cap,_,h11,_⟩ | ⟨_,h11,ad,h12⟩
           . simp [execOp,hop,resolve,invoke,builtin,Builtin.len_,run_underlying hu,Result.andThen,h11,goInt];omega
           . subst h11;cases ad <;> simp [execOp,hop,resolve,invoke,builtin,Builtin.len_,run_underlying hu,Result.andThen,h12,goInt]
         . rename_i el he hu;simp at h;obtain ⟨rfl,rfl⟩:=h;have h1:=ev (by simp [Op.operands,Call.operands]) he;simp only [Rel] at h1;exact ⟨.int .i64 0,by simp [execOp,hop,resolve,invoke,builtin,Builtin.len_,run_underlying hu,Result.andThen,h1,goInt],0,rfl,rfl⟩
         . rename_i el he hu;simp at h;obtain ⟨rfl,rfl⟩:=h;obtain ⟨ad,h1⟩:=ev (by simp [Op.operands,Call.operands]) he;exact ⟨.int .i64 0,by simp [execOp,hop,resolve,invoke,builtin,Builtin.len_,run_underlying hu,Result.andThen,h1,goInt],0,rfl,rfl⟩
         . rename_i el he hu;simp at h;obtain ⟨rfl,rfl⟩:=h;obtain ⟨ad,c,h1⟩:=ev (by simp [Op.operands,Call.operands]) he;exact ⟨.int .i64 0,by simp [execOp,hop,resolve,invoke,builtin,Builtin.len_,run_underlying hu,Result.andThen,h1,goInt],0,rfl,rfl⟩
         . rename_i b' k n s el he hu;simp at h;obtain ⟨rfl,rfl⟩:=h;obtain ⟨p,c,h0,h2,h1⟩:=ev (by simp [Op.operands,Call.operands]) he;exact ⟨.int .i64 n,by simp [execOp,hop,resolve,invoke,builtin,Builtin.len_,run_underlying hu,Result.andThen,h1,goInt],n,rfl,rfl⟩
         . rename_i ks q el he hu;split at h
           . rename_i hs;simp only [Option.some.injEq,Prod.mk.injEq] at h;obtain ⟨rfl,rfl⟩:=h;obtain ⟨n,h1,hv⟩:=ev (by simp [Op.operands,Call.operands]) he;refine ⟨.int .i64 (llen n ks.length),?_,_,bS h1,rfl⟩;rcases hv with ⟨⟨ad,h3⟩,h2⟩ | ⟨o',off,len,cap,cs,h2,h3,h4,h5,h10⟩
             . rw [om h2];cases ad <;> simp [execOp,hop,resolve,invoke,builtin,Builtin.len_,run_underlying hu,Result.andThen,h3,goInt]
             . rw [Xn (by simpa using hs.2) h5];simp [execOp,hop,resolve,invoke,builtin,Builtin.len_,run_underlying hu,Result.andThen,h2,goInt]
           . cases h
         . rename_i l he hu;simp at h;obtain ⟨rfl,rfl⟩:=h;obtain ⟨s,h1,rfl⟩:=ev (by simp [Op.operands,Call.operands]) he;refine ⟨.int .i64 s.size,by simp [execOp,hop,resolve,invoke,builtin,Builtin.len_,run_underlying hu,Result.andThen,h1,goInt],_,rfl,?_⟩;show Value.int .i64 ((s.size:Nat):Int)=Value.int .i64 ((s.data.toList.length:Nat):Int);rw [Array.length_toList];rfl
         . cases h
       . cases h
     | cap=>
       simp only [jy] at h;split at h
       . rename_i y t ha hat;have ha':=kW ha;have hat':=kW hat;subst ha';subst hat';split at h
         . rename_i el he hu;simp at h;obtain ⟨rfl,rfl⟩:=h;have h1:=ev (by simp [Op.operands,Call.operands]) he;simp only [Rel] at h1;exact ⟨.int .i64 0,by simp [execOp,hop,resolve,invoke,builtin,Builtin.cap_,run_underlying hu,Result.andThen,h1,goInt],0,rfl,rfl⟩
         . rename_i el he hu;simp at h;obtain ⟨rfl,rfl⟩:=h;obtain ⟨ad,h1⟩:=ev (by simp [Op.operands,Call.operands]) he;exact ⟨.int .i64 0,by simp [execOp,hop,resolve,invoke,builtin,Builtin.cap_,run_underlying hu,Result.andThen,h1,goInt],0,rfl,rfl⟩
         . cases h
       . cases h
     | min=>
       simp only [jy] at h;split at h
       . rename_i y z ha;have ha':=x9 ha;subst ha';split at h
         . rename_i k e k' e' he he';split at h
           . rename_i hk;subst hk;simp at h;obtain ⟨rfl,rfl⟩:=h;obtain ⟨n,h1,h2⟩:=ev (by simp [Op.operands,Call.operands]) he;obtain ⟨n',h3,h4⟩:=ev (by simp [Op.operands,Call.operands]) he';refine ⟨.int k (if n'<n then n' else n),?_,_,qy h1 h3,rfl⟩;simp [execOp,hop,resolve,invoke,builtin,Builtin.min_,Builtin.min2,h2,h4]
           . cases h
         . cases h
       . cases h
     | max=>
       simp only [jy] at h;split at h
       . rename_i y z ha;have ha':=x9 ha;subst ha';split at h
         . rename_i k e k' e' he he';split at h
           . rename_i hk;subst hk;simp at h;obtain ⟨rfl,rfl⟩:=h;obtain ⟨n,h1,h2⟩:=ev (by simp [Op.operands,Call.operands]) he;obtain ⟨n',h3,h4⟩:=ev (by simp [Op.operands,Call.operands]) he';refine ⟨.int k (if n' > n then n' else n),?_,_,qy h1 h3,rfl⟩;simp [execOp,hop,resolve,invoke,builtin,Builtin.max_,Builtin.max2,h2,h4]
           . cases h
         . cases h
       . cases h
     | _=>simp [jy] at h
   | _=>simp [jy] at h
 | _=>rw [hop] at h;simp [jy] at h
end Go.Sx
noncomputable section
namespace Go.Sx
open Go
variable {A:Amb} {I:Itp} {P:Program} {g:G} {X:Nat->Prop} {ts:qO} {a:Act} {M:Mem} {w:World}
theorem BN (f:Int->Nat->Int) (x:Int) (k:Nat) (v y:Int):qd (qd f x k v) x k y=qd f x k y:=by
 funext r c
 unfold qd;by_cases h:r=x/\c=k
 . rw [if_pos h,if_pos h]
 . rw [if_neg h,if_neg h,if_neg h]
theorem Nz (f:Int->Nat->Int) {x z:Int} {k c:Nat} (v y:Int) (h:¬(z=x/\c=k)):qd (qd f x k y) z c v=qd (qd f z c v) x k y:=by
 funext r d
 unfold qd;by_cases h1:r=z/\d=c
 . rw [if_pos h1,if_neg (fun e=>h ⟨by rw [<-h1.1,e.1],by rw [<-h1.2,e.2]⟩),if_pos h1]
 . rw [if_neg h1];by_cases h2:r=x/\d=k
   . rw [if_pos h2,if_pos h2]
   . rw [if_neg h2,if_neg h2,if_neg h1]
theorem Nj (f:Int->Nat->Int) (x:Int) (k:Nat):qd f x k (f x k)=f:=by
 funext r c
 unfold qd;by_cases h:r=x/\c=k
 . rw [if_pos h,h.1,h.2]
 . rw [if_neg h]
theorem BT.Xz:∀(l:List Int) (c:Nat) (x:Int) (d:Nat),(BT.put l c x).getD d 0=if d=c then x else l.getD d 0
 | [],0,x,0=>rfl
 | [],0,x,d+1=>by simp [BT.put]
 | [],c+1,x,0=>by simp [BT.put]
 | [],c+1,x,d+1=>by simpa [BT.put] using BT.Xz [] c x d
 | _::l,0,x,0=>rfl
 | _::l,0,x,d+1=>by simp [BT.put]
 | _::l,c+1,x,0=>by simp [BT.put]
 | _::l,c+1,x,d+1=>by simpa [BT.put] using BT.Xz l c x d
theorem BT.mV (b:BT) (d:Nat):b.get 0 d=b.row.getD d 0:=by
 cases b <;> simp [BT.get,BT.row]
theorem BT.mG (b:BT) {i:Nat} (h:Nat.beq (i % 2) 0=true) (d:Nat):b.get (i+1) d=b.left.get (i / 2) d:=by
 cases b <;> simp [BT.get,BT.left,h]
theorem BT.bB (b:BT) {i:Nat} (h:Nat.beq (i % 2) 0=false) (d:Nat):b.get (i+1) d=b.right.get (i / 2) d:=by
 cases b <;> simp [BT.get,BT.right,h]
theorem BT.YP:∀(f:Nat) (b:BT) (i c:Nat) (x:Int) {b':BT},BT.set f b i c x=some b'->∀j d,b'.get j d=if j=i/\d=c then x else b.get j d
 | 0,b,i,c,x,b',h=>by simp [BT.set] at h
 | f+1,b,0,c,x,b',h=>by
   simp only [BT.set,Option.some.injEq] at h;subst h;intro j d;cases j with
   | zero=>
     rw [BT.mV,BT.mV];show (BT.put b.row c x).getD d 0=_;rw [BT.Xz];simp
   | succ j=>
     rw [if_neg (by omega)];cases h:Nat.beq (j % 2) 0 with
     | true=>rw [BT.mG _ h,BT.mG _ h];rfl
     | false=>rw [BT.bB _ h,BT.bB _ h];rfl
 | f+1,b,i+1,c,x,b',h=>by
   simp only [BT.set] at h;intro j d;split at h
   . rename_i hb;split at h
     . rename_i l hl;simp only [Option.some.injEq] at h;subst h;have ih:=BT.YP f _ _ _ _ hl;cases j with
       | zero=>rw [BT.mV,BT.mV,if_neg (by omega)];rfl
       | succ j=>
         cases h:Nat.beq (j % 2) 0 with
         | true=>
           rw [BT.mG _ h,BT.mG _ h];show l.get _ _=_;rw [ih];have h1:=Nat.eq_of_beq_eq_true h;have h2:=Nat.eq_of_beq_eq_true hb;by_cases hj:j=i
           . subst hj;simp
           . rw [if_neg (by omega),if_neg (by omega)]
         | false=>
           rw [BT.bB _ h,BT.bB _ h]
           rw [if_neg (by
             rintro ⟨hj,_⟩;rw [Nat.add_right_cancel hj,hb] at h;cases h)]
           rfl
     . cases h
   . rename_i hb;split at h
     . rename_i r hl;simp only [Option.some.injEq] at h;subst h;have ih:=BT.YP f _ _ _ _ hl;cases j with
       | zero=>rw [BT.mV,BT.mV,if_neg (by omega)];rfl
       | succ j=>
         cases h:Nat.beq (j % 2) 0 with
         | false=>
           rw [BT.bB _ h,BT.bB _ h];show r.get _ _=_;rw [ih];have h1:=Nat.ne_of_beq_eq_false h;have h2:=Nat.ne_of_beq_eq_false hb;by_cases hj:j=i
           . subst hj;simp
           . rw [if_neg (by omega),if_neg (by omega)]
         | true=>
           rw [BT.mG _ h,BT.mG _ h]
           rw [if_neg (by
             rintro ⟨hj,_⟩;rw [Nat.add_right_cancel hj,hb] at h;cases h)]
           rfl
     . cases h
theorem BT.FC {b b':BT} {f i c:Nat} {x:Int} (h:BT.set f b i c x=some b'):b'.tab=qd b.tab (Int.ofNat i) c x:=by
 funext r d
 unfold BT.tab qd;cases r with
 | ofNat n=>
   simp only [BT.YP _ _ _ _ _ h,Int.ofNat.injEq]
 | negSucc n=>rw [if_neg (fun h=>by cases h.1)]
theorem P6 {env:List D}:∀{t:E} {b:BT} {f:Int->Nat->Int},t.Nw=some b->t.den I env=some (.t f)->b.tab=f:=by
 intro t
 induction t with
 | zt=>
   intro b f h ht;simp only [E.Nw,Option.some.injEq] at h;subst h;simp only [E.den,Option.some.injEq,D.t.injEq] at ht;subst ht
   funext r c
   cases r <;> rfl
 | upd t r c v iht _ _=>
   intro b f h ht;obtain ⟨f0,x,y,h1,h2,h3,rfl⟩:=tV ht;unfold E.Nw at h;split at h
   . rename_i he;cases he
   . rename_i t' n c' m he;cases he;split at h
     . rename_i b0 hb;rw [BT.FC h,iht hb h1];simp [E.den] at h2 h3;subst h2 h3;rfl
     . cases h
   . cases h
 | _=>intro b f h;simp [E.Nw] at h
theorem Nv {env:List D} {t r:E} {f:Int->Nat->Int} (ht:t.den I env=some (.t f)):(Rq t r).den I env=some (.t f):=by
 unfold Rq;split
 . split
   . rename_i b hb;rw [<-P6 hb ht];rfl
   . exact ht
 . exact ht
theorem Yo {env:List D} {x y:Int} {k:Nat} {v:E} (hv:v.den I env=some (.i y)):∀{t t':E} {f:Int->Nat->Int},yR t x k v=some t'->t.den I env=some (.t f)->t'.den I env=some (.t (qd f x k y)):=by
 intro t
 induction t with
 | upd t0 r0 c w iht _ _=>
   intro t' f h ht;cases r0 with
   | lit z=>
     simp only [yR] at h;obtain ⟨f0,x0,y0,h1,h2,h3,rfl⟩:=tV ht;have hx0:x0=z:=by simp [E.den] at h2;exact h2.symm
     subst hx0;split at h
     . rename_i hc;obtain ⟨rfl,rfl⟩:=hc;simp at h;subst h;rw [ZG h1 h2 hv,BN]
     . rename_i hc;cases hr:yR t0 x k v with
       | none=>simp [hr] at h
       | some t1=>
         simp [hr] at h;subst h;rw [ZG (iht hr h1) h2 h3,Nz _ _ _ hc]
   | _=>simp [yR] at h
 | bt b=>
   intro t' f h ht;have e:b.tab=f:=by simpa [E.den] using ht
   subst e;simp only [yR] at h;split at h
   . rename_i n m;cases hb:BT.set 64 b n k m with
     | none=>rw [hb] at h;cases h
     | some b'=>
       rw [hb] at h;obtain rfl:m=y:=by simpa [E.den] using hv
       obtain rfl:E.bt b'=t':=Option.some.inj h;show some (D.t b'.tab)=_;rw [BT.FC hb]
   . cases h
 | _=>intro t' f h;simp [yR] at h
theorem Yg {env:List D} {t r v:E} {k:Nat} {f:Int->Nat->Int} {x y:Int} (ht:t.den I env=some (.t f)) (hr:r.den I env=some (.i x)) (hv:v.den I env=some (.i y)) :
   (H9 t r k v).den I env=some (.t (qd f x k y)):=by
 have h0:∀{z:Int},x=z->((yR t z k v).getD (.upd t (.lit z) k v)).den I env=some (.t (qd f x k y)):=by
   rintro _ rfl;cases h:yR t x k v with
   | none=>exact ZG ht (show (E.lit x).den I env=some (.i x) from rfl) hv
   | some t'=>exact Yo hv h ht
 unfold H9;split
 . rename_i z;have hz:x=z:=by simp [E.den] at hr;exact hr.symm
   have hs:=jU (c:=k) ht hr;split
   . rename_i a0 ha;rw [ha] at hs;split
     . rename_i b;split
       . rename_i hab;simp [E.den] at hs hv;rw [ht]
         congr 2
         rw [<-hv,<-hab,hs];exact (Nj f x k).symm
       . exact h0 hz
     . exact h0 hz
   . exact h0 hz
 . exact ZG ht hr hv
theorem kI {ks:List CK} {r:E} {x:Int} (hr:r.den I g.env=some (.i x)):∀{vs:List AV} {xs:List Value} {k:Nat} {t t':E} {f:Int->Nat->Int},
   yO ks t r k vs=some t'->qw I g vs xs->t.den I g.env=some (.t f)->
   ∃f',t'.den I g.env=some (.t f')/\k+vs.length<=max k ks.length/\(∀j y,xs[j]?=some y->∃c,ks[k+j]?=some c/\c.rel g (f' x (k+j)) y)/\
     (∀(i:Int) (c:Nat),(i≠x\/c<k\/k+vs.length<=c)->f' i c=f i c)
 | [],xs,k,t,t',f,h,hv,ht=>by
   simp [yO] at h;subst h;cases xs with
   | nil=>exact ⟨f,ht,by simp;omega,by simp,fun _ _ _=>rfl⟩
   | cons _ _=>simp [qw] at hv
 | v::vs,[],k,t,t',f,h,hv,ht=>by simp [qw] at hv
 | v::vs,y::xs,k,t,t',f,h,hv,ht=>by
   simp only [yO] at h;split at h
   . rename_i c c' e h1 h2 h3;split at h
     . rename_i hc;subst hc;obtain ⟨n,hn,hval⟩:=Z9 h2 h3 hv.1;obtain ⟨f',h4,h5,h6,h7⟩:=kI hr h hv.2 (Yg ht hr hn);have hk:k<ks.length:=(List.getElem?_eq_some_iff.1 h1).1;refine ⟨f',h4,by simp;omega,fun j z hz=>?_,fun i cc hi=>?_⟩
       . cases j with
         | zero=>
           simp at hz;subst hz;refine ⟨c,h1,?_⟩;rw [h7 x (k+0) (.inr (.inl (by omega)))];simpa [qd] using hval
         | succ j=>
           simp at hz;obtain ⟨c2,h8,h9⟩:=h6 j z hz;exact ⟨c2,by rw [<-h8];congr 1;omega,by rw [show k+(j+1)=k+1+j by omega];exact h9⟩
       . rw [h7 i cc (by simp at hi;omega)];simp only [qd];rw [if_neg (by simp at hi;omega)]
     . cases h
   . cases h
theorem tL {ks:List CK}:∀{l:List AV} {xs:List Value},jw l=some ks->l.all AV.isZero=true->qw I g l xs->∀(j:Nat) (k:CK),ks[j]?=some k->xs[j]?=some (k.val 0):=by
 intro l
 induction l generalizing ks with
 | nil=>intro xs h _ _ j k hj;simp [jw] at h;subst h;simp at hj
 | cons v l ih=>
   intro xs h hz hr j k hj;cases xs with
   | nil=>simp [qw] at hr
   | cons y xs=>
     simp only [jw] at h;split at h
     . rename_i k0 ks0 h1 h2;simp at h;subst h;simp at hz;cases j with
       | zero=>
         simp at hj;subst hj;obtain ⟨hr1,_⟩:=hr;cases v <;> simp [kindOf] at h1
         case bool e=>
           subst h1;obtain ⟨n,h3,rfl⟩:=hr1;have h4:=hz.1;cases e <;> simp [AV.isZero] at h4
           subst h4;simp [E.den] at h3;subst h3;rfl
         case int q e=>
           subst h1;obtain ⟨n,h3,rfl⟩:=hr1;have h4:=hz.1;cases e <;> simp [AV.isZero] at h4
           subst h4;simp [E.den] at h3;subst h3;rfl
         case str q=>
           subst h1;have h4:=hz.1;simp only [AV.isZero,List.isEmpty_iff] at h4;subst h4;obtain ⟨s,rfl,h3⟩:=hr1;exact congrArg some (fU h3)
         case sat q=>simp [AV.isZero] at hz
         case lst q q'=>simp [AV.isZero] at hz
         case fco q q'=>simp [AV.isZero] at hz
         case wE q q'=>simp [AV.isZero] at hz
       | succ j=>exact ih h2 (by simpa using hz.2) hr.2 j k (by simpa using hj)
     . cases h
end Go.Sx
end
noncomputable section
namespace Go.Sx
open Go
variable {A:Amb} {I:Itp} {P:Program} {g:G} {X:Nat->Prop} {ts:qO} {a:Act} {M:Mem} {w:World}
section
variable {env:List D} {t u:E} {f h:Int->Nat->Int}
theorem ZU (ht:t.den I env=some (.t f)) (hu:u.den I env=some (.t h)):∀k:Nat,(ZI t u k).den I env=some (.i (if ((List.range k).all fun i=>f i 0 == h i 0)=true then 1 else 0))
 | 0=>by simp [ZI,E.den]
 | k+1=>by
   have h1:=ZU ht hu k;have h2:=qy (o:=.eq) (jU (c:=0) ht (show (E.lit (k:Int)).den I env=some (.i k) from rfl)) (jU (c:=0) hu (show (E.lit (k:Int)).den I env=some (.i k) from rfl));rw [ZI,qy (o:=.and) h1 h2];simp only [BO.ev,List.range_succ,List.all_append,List.all_cons,List.all_nil,Bool.and_true,Bool.and_eq_true,beq_iff_eq];by_cases h3:((List.range k).all fun i=>f i 0 == h i 0)=true <;> by_cases h4:f k 0=h k 0 <;> simp [h3,h4]
theorem WG {n m:E} {x y:Int} (ht:t.den I env=some (.t f)) (hn:n.den I env=some (.i x)) (hu:u.den I env=some (.t h)) (hm:m.den I env=some (.i y)) :
   (V3 t n u m).den I env=some (.i (strEq f x h y)):=by
 unfold V3;split
 . rename_i p q;simp [E.den] at hn hm;subst hn;subst hm;split
   . rename_i hne;simp [strEq,hne,E.den]
   . rename_i he;have he:p=q:=Decidable.not_not.1 he;subst he;split
     . rw [ZU ht hu];simp only [strEq,true_and]
     . simp [E.den,ht,hu]
 . simp [E.den,ht,hu,hn,hm]
end
theorem mP {v:AV} {x:Value} {t n:E} (h:v.au=some (t,n)) (hv:Rel I g v x):Rel I g (.wE t n) x:=by
 cases v with
 | str l=>
   simp only [AV.au,Option.some.injEq,Prod.mk.injEq] at h;obtain ⟨rfl,rfl⟩:=h;obtain ⟨s,h1,h2⟩:=hv;obtain ⟨f,h3,h4⟩:=ZO (I:=I) (env:=g.env) l;exact ⟨f,_,s,h3,rfl,h1,by rw [h2],fun i b hb=>h4 i b (by rw [<-h2];exact hb)⟩
 | wE t' n'=>
   simp only [AV.au,Option.some.injEq,Prod.mk.injEq] at h;obtain ⟨rfl,rfl⟩:=h;exact hv
 | _=>simp [AV.au] at h
theorem QJ {f h:Int->Nat->Int} {l m:List UInt8} (hf:∀(i:Nat) (b:UInt8),l[i]?=some b->f i 0=b.toNat) (hh:∀(i:Nat) (b:UInt8),m[i]?=some b->h i 0=b.toNat) :
   strEq f l.length h m.length=if l=m then 1 else 0:=by
 unfold strEq;by_cases he:l=m
 . subst he;rw [if_pos,if_pos rfl];refine ⟨rfl,?_⟩;rw [List.all_eq_true];intro i hi;have hi:i<l.length:=by simpa using hi
   simp only [beq_iff_eq];rw [hf i l[i] (List.getElem?_eq_getElem hi),hh i l[i] (List.getElem?_eq_getElem hi)]
 . rw [if_neg,if_neg he];rintro ⟨h1,h2⟩;apply he;have hlen:l.length=m.length:=by omega
   refine List.ext_getElem hlen fun i h3 h4=>?_;rw [List.all_eq_true] at h2;have:=h2 i (by simpa using h3);simp only [beq_iff_eq] at this;rw [hf i l[i] (List.getElem?_eq_getElem h3),hh i m[i] (List.getElem?_eq_getElem h4)] at this;exact UInt8.toNat_inj.1 (by omega)
theorem yZ {o:BinOp} {t:TypeId} {x y:ByteArray} {ox oy:Operand}:(eqGuard o t ox oy (.string x) (.string y)).run P w=.ok () w:=by
 cases o <;> rfl
theorem rP {t:TypeId} {x y:ByteArray}:(binOp .eql t (.string x) (.string y)).run P w=.ok (.bool (decide (x.data.toList=y.data.toList))) w:=by
 simp only [binOp,Op.stringOp,Sem.run_pure,ByteArray.toList_eq]
 congr 2
 by_cases h:x.data.toList=y.data.toList
 . rw [h];simp
 . rw [beq_eq_false_iff_ne.2 h];simp only [decide_eq_false h]
theorem rM {t:TypeId} {x y:ByteArray}:(binOp .neq t (.string x) (.string y)).run P w=.ok (.bool (!decide (x.data.toList=y.data.toList))) w:=by
 simp only [binOp,Op.stringOp,Sem.run_pure,ByteArray.toList_eq]
 congr 2
 by_cases h:x.data.toList=y.data.toList
 . rw [h];simp
 . rw [beq_eq_false_iff_ne.2 h];simp only [decide_eq_false h]
theorem rR {t:TypeId} {x y:ByteArray} (h:x.data.toList.length+y.data.toList.length<=1000000):(binOp .add t (.string x) (.string y)).run P w=.ok (.string (x++y)) w:=by
 have h1:x.size=x.data.toList.length:=by rw [Array.length_toList];rfl
 have h2:y.size=y.data.toList.length:=by rw [Array.length_toList];rfl
 have h3:¬(((x.size+y.size:Nat):Int) > IntKind.i64.max):=by
   rw [h1,h2];have:IntKind.i64.max=9223372036854775807:=by rfl
   omega
 simp only [binOp,Op.stringOp,if_neg h3,Sem.run_pure]
theorem pK (x y:ByteArray):(x++y).data.toList=x.data.toList++y.data.toList:=by
 have:(x++y).data=x.data++y.data:=ByteArray.data_append;rw [this,Array.toList_append]
theorem Dj {o:BinOp} {t:TypeId} {v u z:AV} {x y:Value} {ps:List PE} (h:YK o v u=some (z,ps)) (hp:∀q∈ps,q.den I g.env)
   (hx:Rel I g v x) (hy:Rel I g u y) (ox oy:Operand) (w:World):∃r,(do eqGuard o t ox oy x y;binOp o t x y:Sem Value).run P w=.ok r w/\Rel I g z r:=by
 unfold YK at h;split at h
 . rename_i l m;obtain ⟨s1,rfl,h1⟩:=hx;obtain ⟨s2,rfl,h2⟩:=hy;split at h
   . simp at h;obtain ⟨rfl,rfl⟩:=h;refine ⟨_,zi yZ rP,_,rfl,?_⟩;rw [h1,h2];by_cases he:l=m <;> simp [he]
   . simp at h;obtain ⟨rfl,rfl⟩:=h;refine ⟨_,zi yZ rM,_,rfl,?_⟩;rw [h1,h2];by_cases he:l=m <;> simp [he]
   . split at h
     . rename_i hlen;simp at h;obtain ⟨rfl,rfl⟩:=h;exact ⟨_,zi yZ (rR (by rw [h1,h2];exact hlen)),_,rfl,by rw [pK,h1,h2]⟩
     . cases h
   . cases h
 . split at h
   . rename_i t1 n1 u1 m1 hv hu;obtain ⟨f1,k1,s1,e1,e2,rfl,e3,e4⟩:=mP hv hx;obtain ⟨f2,k2,s2,d1,d2,rfl,d3,d4⟩:=mP hu hy;have heq:=WG e1 e2 d1 d2;rw [e3,d3,QJ e4 d4] at heq;split at h
     . simp at h;obtain ⟨rfl,rfl⟩:=h;refine ⟨_,zi yZ rP,_,heq,?_⟩;by_cases he:s1.data.toList=s2.data.toList <;> simp [he]
     . simp at h;obtain ⟨rfl,rfl⟩:=h;refine ⟨_,zi yZ rM,_,qy (o:=.eq) heq (show (E.lit 0).den I g.env=some (.i 0) from rfl),?_⟩;by_cases he:s1.data.toList=s2.data.toList <;> simp [he,BO.ev]
     . simp at h;obtain ⟨rfl,rfl⟩:=h;have hle:=zn (zk e2 d2) (show (E.lit 1000000).den I g.env=some (.i 1000000) from rfl) (hp _ (by simp));refine ⟨_,zi yZ (rR (by omega)),BS f1 k1 f2,_,_,by simp only [E.den,e1,e2,d1],zk e2 d2,rfl,by rw [pK,List.length_append];omega,fun i b hb=>?_⟩;rw [pK] at hb;simp only [BS];by_cases hi:i<s1.data.toList.length
       . rw [List.getElem?_append_left hi] at hb;rw [if_pos (by omega)];exact e4 i b hb
       . rw [List.getElem?_append_right (by omega)] at hb;rw [if_neg (by omega),<-d4 _ b hb]
         congr 1;omega
     . cases h
   . cases h
theorem Tt {eq:TypeId->AV->AV->Option E} {d:Nat} (xs ys:Array Value) {l m:List AV} (hl:qw I g l xs.toList) (hm:qw I g m ys.toList)
   (heq:∀(t:TypeId) (v u:AV) (e:E) (x y:Value),eq t v u=some e->Rel I g v x->Rel I g u y->∃n:Int,e.den I g.env=some (.i n)/\(n=0\/n=1)/\(Op.equalIn d t x y).run P w=.ok (decide (n≠0)) w) :
   ∀(fs:List Field) (e:E),GN P eq l m fs=some e->
   ∃n:Int,e.den I g.env=some (.i n)/\(n=0\/n=1)/\(forIn fs (none,()) (yD d xs ys)).run P w=.ok (if n=0 then some false else none,()) w:=by
 intro fs
 induction fs with
 | nil=>intro e he;simp [GN] at he;subst he;exact ⟨1,rfl,.inr rfl,rfl⟩
 | cons f fs ih=>
   intro e he;simp only [GN] at he;split at he
   . cases he
   rename_i hname;split at he
   . rename_i ag n hag hn;split at he
     . rename_i v u hv hu;split at he
       . rename_i e1 e2 h1 h2;simp at he;subst he;obtain ⟨x,hx,hrx⟩:=mh (P:=P) (w:=w) hv hl hag hn;obtain ⟨y,hy,hry⟩:=mh (P:=P) (w:=w) hu hm hag hn;obtain ⟨n1,k1,k2,k3⟩:=heq _ _ _ _ _ _ h1 hrx hry;obtain ⟨n2,j1,j2,j3⟩:=ih e2 h2;refine ⟨_,qy k1 j1,M4 _ _,?_⟩
         have step:(forIn (f::fs) (none,()) (yD d xs ys)).run P w=if n1=0 then .ok (some false,()) w else (forIn fs (none,()) (yD d xs ys)).run P w:=by
           simp only [List.forIn_cons,yD,if_neg hname,Sem.run_bind,hx,hy,Result.andThen,k3];rcases k2 with rfl | rfl <;> rfl
         rw [step,j3];rcases k2 with rfl | rfl <;> rcases j2 with rfl | rfl <;> simp [BO.ev]
       . cases he
     . cases he
   . cases he
abbrev Qd (d:Nat) (el:TypeId) (n:Nat) (xs ys:Array Value):Nat->Option Bool × Unit->Sem (ForInStep (Option Bool × Unit)):=fun i _=>do
 let __do_lift <-part el xs (i*n);let Ba <-part el ys (i*n);let Bo <-Op.equalIn d el __do_lift Ba
 if (!Bo)=true then pure (ForInStep.done (some false,())) else do pure (ForInStep.yield (none,()))
theorem Pj {eq:AV->AV->Option E} {d:Nat} {el:TypeId} {n:Nat} {ag:Bool} (xs ys:Array Value) {l m:List AV} (hl:qw I g l xs.toList) (hm:qw I g m ys.toList) (hag:wI P el=some ag) (hn:qo P el=some n)
   (heq:∀(v u:AV) (e:E) (x y:Value),eq v u=some e->Rel I g v x->Rel I g u y->∃n:Int,e.den I g.env=some (.i n)/\(n=0\/n=1)/\(Op.equalIn d el x y).run P w=.ok (decide (n≠0)) w) :
   ∀(k i:Nat) (e:E),GR eq l m n ag i k=some e->
   ∃r:Int,e.den I g.env=some (.i r)/\(r=0\/r=1)/\(forIn (List.range' i k 1) (none,()) (Qd d el n xs ys)).run P w=.ok (if r=0 then some false else none,()) w:=by
 intro k
 induction k with
 | zero=>intro i e he;simp [GR] at he;subst he;exact ⟨1,rfl,.inr rfl,rfl⟩
 | succ k ih=>
   intro i e he;simp only [GR] at he;split at he
   . rename_i v u hv hu;split at he
     . rename_i e1 e2 h1 h2;simp at he;subst he;obtain ⟨x,hx,hrx⟩:=mh (P:=P) (w:=w) hv hl hag hn;obtain ⟨y,hy,hry⟩:=mh (P:=P) (w:=w) hu hm hag hn;obtain ⟨n1,k1,k2,k3⟩:=heq _ _ _ _ _ h1 hrx hry;obtain ⟨n2,j1,j2,j3⟩:=ih _ e2 h2;refine ⟨_,qy k1 j1,M4 _ _,?_⟩
       have step:(forIn (List.range' i (k+1) 1) (none,()) (Qd d el n xs ys)).run P w=if n1=0 then .ok (some false,()) w else (forIn (List.range' (i+1) k 1) (none,()) (Qd d el n xs ys)).run P w:=by
         simp only [List.range'_succ,List.forIn_cons,Qd,Sem.run_bind,hx,hy,Result.andThen,k3];rcases k2 with rfl | rfl <;> rfl
       rw [step,j3];rcases k2 with rfl | rfl <;> rcases j2 with rfl | rfl <;> simp [BO.ev]
     . cases he
   . cases he
theorem EU (x y:Int):BO.eq.ev x y=0\/BO.eq.ev x y=1:=by simp only [BO.ev];split <;> simp
theorem oM:∀(d:Nat) (t:TypeId) (v u:AV) (e:E) (x y:Value),l8 P d t v u=some e->Rel I g v x->Rel I g u y->
   ∃n:Int,e.den I g.env=some (.i n)/\(n=0\/n=1)/\∀k,(Op.equalIn (d+k) t x y).run P w=.ok (decide (n≠0)) w
 | 0,_,_,_,_,_,_,h,_,_=>by simp [l8] at h
 | d+1,t,v,u,e,x,y,h,hx,hy=>by
   simp only [l8] at h;split at h
   . rename_i q hq;split at h
     . rename_i k a k' b;split at h
       . rename_i hk;subst hk;simp at h;subst h;obtain ⟨na,hna,rfl⟩:=hx;obtain ⟨nb,hnb,rfl⟩:=hy;refine ⟨_,qy hna hnb,EU _ _,fun j=>?_⟩;rw [show d+1+j=(d+j)+1 by omega];simp only [Op.equalIn,Sem.run_bind,run_underlying hq,Result.andThen];by_cases hab:na=nb <;> simp [BO.ev,hab,Sem.run_pure]
       . cases h
     . cases h
   . rename_i hq;split at h
     . rename_i a b;simp at h;subst h;obtain ⟨na,hna,rfl⟩:=hx;obtain ⟨nb,hnb,rfl⟩:=hy;refine ⟨_,qy (qy hna (show (E.lit 0).den I g.env=some (.i 0) from rfl)) (qy hnb (show (E.lit 0).den I g.env=some (.i 0) from rfl)),EU _ _,fun j=>?_⟩;rw [show d+1+j=(d+j)+1 by omega];simp only [Op.equalIn,Sem.run_bind,run_underlying hq,Result.andThen];by_cases ha:na=0 <;> by_cases hb:nb=0 <;> simp [BO.ev,ha,hb,Sem.run_pure]
     . cases h
   . rename_i hq
     have fin:∀(s1 s2:ByteArray) (j:Nat),(Op.equalIn (d+1+j) t (.string s1) (.string s2)).run P w=.ok (decide (s1.data.toList=s2.data.toList)) w:=fun s1 s2 j=>by
       rw [show d+1+j=(d+j)+1 by omega];simp only [Op.equalIn,Sem.run_bind,run_underlying hq,Result.andThen,Sem.run_pure]
       congr 1
       have e:(s1 == s2)=(s1.data == s2.data):=by cases s1;cases s2;rfl
       rw [e];by_cases he:s1.data.toList=s2.data.toList
       . rw [decide_eq_true he,beq_iff_eq];exact Array.toList_inj.1 he
       . rw [decide_eq_false he,beq_eq_false_iff_ne];exact fun e=>he (by rw [e])
     split at h
     . rename_i l m;simp at h;subst h;obtain ⟨s1,rfl,h1⟩:=hx;obtain ⟨s2,rfl,h2⟩:=hy;refine ⟨_,rfl,by split <;> simp,fun j=>?_⟩;rw [fin,h1,h2];by_cases he:l=m <;> simp [he]
     . split at h
       . rename_i t1 n1 u1 m1 hv hu;simp at h;subst h;obtain ⟨f1,k1,s1,e1,e2,rfl,e3,e4⟩:=mP hv hx;obtain ⟨f2,k2,s2,d1,d2,rfl,d3,d4⟩:=mP hu hy;have heq:=WG e1 e2 d1 d2;rw [e3,d3,QJ e4 d4] at heq;refine ⟨_,heq,by split <;> simp,fun j=>?_⟩;rw [fin];by_cases he:s1.data.toList=s2.data.toList <;> simp [he]
       . split at h
         . rename_i ca cb hv hu;simp at h;subst h;obtain ⟨n1,e1,rfl⟩:=xL hv hx;obtain ⟨n2,e2,rfl⟩:=xL hu hy;refine ⟨_,qy (o:=.eq) e1 e2,EU _ _,fun j=>?_⟩;unfold wh;rw [fin];simp only [BO.ev];by_cases he:n1=n2
           . simp [he]
           . have:¬zX n1=zX n2:=fun hh=>he (fO hh);simp [he,this]
         . cases h
   . rename_i fs hq;split at h
     . rename_i l m;split at h
       . rename_i hst;obtain ⟨cs,rfl,hl⟩:=hx;obtain ⟨ds,rfl,hm⟩:=hy
         have key:∀j,∃n:Int,e.den I g.env=some (.i n)/\(n=0\/n=1)/\(Op.equalIn (d+1+j) t (.agg cs) (.agg ds)).run P w=.ok (decide (n≠0)) w:=by
           intro j
           obtain ⟨n,h1,h2,h3⟩:=Tt (P:=P) (w:=w) (d:=d+j) cs ds hl hm (fun t v u e x y h hx hy=>by
             obtain ⟨n,k1,k2,k3⟩:=oM d t v u e x y h hx hy;exact ⟨n,k1,k2,k3 j⟩) fs.toList e h
           refine ⟨n,h1,h2,?_⟩;rw [show d+1+j=(d+j)+1 by omega]
           have h4:(Op.equalIn ((d+j)+1) t (.agg cs) (.agg ds)).run P w=((forIn fs (none,()) (yD (d+j) cs ds)).run P w).andThen fun a w'=>(match a.fst with
               | some r=>(Pure.pure r:Sem Bool)
               | none=>Pure.pure true).run P w':=by
             rw [Op.equalIn.eq_def];simp only [Sem.run_bind,run_underlying hq,Result.andThen,run_program,hst];simp;have hb':∀(b b':Field->Option Bool × Unit->Sem (ForInStep (Option Bool × Unit))),b=b'->∀(K:Result (Option Bool × Unit)->Prop),K ((forIn fs (none,()) b':Sem _).run P w)->K ((forIn fs (none,()) b:Sem _).run P w):=fun b b' e K h=>by rw [e];exact h
             refine hb' _ (yD (d+j) cs ds) ?_ (fun q=>q.andThen _=_) (by rcases (forIn fs (none,()) (yD (d+j) cs ds):Sem _).run P w with ⟨⟨_ | _,_⟩,_⟩ | _ <;> rfl)
             funext f s
             simp only [yD]
           rw [h4,<-Array.forIn_toList,h3];rcases h2 with rfl | rfl <;> rfl
         obtain ⟨n,h1,h2,_⟩:=key 0;refine ⟨n,h1,h2,fun j=>?_⟩;obtain ⟨n',h3,_,h4⟩:=key j;rw [h1] at h3;cases h3;exact h4
       . cases h
     . cases h
   . rename_i len el hq;split at h
     . rename_i l m;split at h
       . rename_i ag sz hag hn;obtain ⟨cs,rfl,hl⟩:=hx;obtain ⟨ds,rfl,hm⟩:=hy
         have key:∀j,∃n:Int,e.den I g.env=some (.i n)/\(n=0\/n=1)/\(Op.equalIn (d+1+j) t (.agg cs) (.agg ds)).run P w=.ok (decide (n≠0)) w:=by
           intro j
           obtain ⟨n,h1,h2,h3⟩:=Pj (P:=P) (w:=w) (d:=d+j) cs ds hl hm hag hn (fun v u e x y h hx hy=>by
             obtain ⟨n,k1,k2,k3⟩:=oM d el v u e x y h hx hy;exact ⟨n,k1,k2,k3 j⟩) len 0 e h
           refine ⟨n,h1,h2,?_⟩;rw [show d+1+j=(d+j)+1 by omega];rw [Op.equalIn.eq_def];simp only [Sem.run_bind,run_underlying hq,Result.andThen,qD hn,Std.Legacy.Range.forIn_eq_forIn_range',Std.Legacy.Range.size,Nat.sub_zero,Nat.add_sub_cancel,Nat.div_one];have hb':∀(b b':Nat->Option Bool × Unit->Sem (ForInStep (Option Bool × Unit))),b=b'->∀(K:Result (Option Bool × Unit)->Prop),K ((forIn (List.range' 0 len 1) (none,()) b':Sem _).run P w)->K ((forIn (List.range' 0 len 1) (none,()) b:Sem _).run P w):=fun b b' e K h=>by rw [e];exact h
           generalize hbody:(fun (i:Nat) (r:Option Bool × Unit)=>_:Nat->Option Bool × Unit->Sem (ForInStep (Option Bool × Unit)))=body;obtain rfl:body=Qd (d+j) el sz cs ds:=by subst hbody;funext f s;simp only [Qd]
           rw [h3];rcases h2 with rfl | rfl <;> rfl
         obtain ⟨n,h1,h2,_⟩:=key 0;refine ⟨n,h1,h2,fun j=>?_⟩;obtain ⟨n',h3,_,h4⟩:=key j;rw [h1] at h3;cases h3;exact h4
       . cases h
     . cases h
   . cases h
theorem FX {o:BinOp} {t:TypeId} {v u z:AV} {x y:Value} {ps:List PE} (h:X7 P o t v u=some (z,ps))
   (hx:Rel I g v x) (hy:Rel I g u y) (ox oy:Operand) (w:World):∃r,(do eqGuard o t ox oy x y;binOp o t x y:Sem Value).run P w=.ok r w/\Rel I g z r:=by
 unfold X7 at h;split at h
 . rename_i l m;split at h
   . rename_i hgd;have hx0:=hx;have hy0:=hy;obtain ⟨cs,rfl,_⟩:=hx0;obtain ⟨ds,rfl,_⟩:=hy0
     have fin:∀{e:E},l8 P 20 t (.agg l) (.agg m)=some e->∃n:Int,e.den I g.env=some (.i n)/\BQ P w t (.agg cs) (.agg ds) n:=fun he=>by
       obtain ⟨n,h1,_,h2⟩:=oM 20 t _ _ _ _ _ he hx hy;exact ⟨n,h1,.jo (fun op ox oy=>by cases op <;> simp [eqGuard,Result.andThen,hgd]) rfl rfl (h2 9980)⟩
     split at h
     . rename_i e he;simp at h;obtain ⟨rfl,rfl⟩:=h;obtain ⟨n,h1,h2⟩:=fin he;exact ⟨_,zi (h2.guard _ _ _) h2.eql,n,h1,rfl⟩
     . rename_i e he;simp at h;obtain ⟨rfl,rfl⟩:=h;obtain ⟨n,h1,h2⟩:=fin he;refine ⟨_,zi (h2.guard _ _ _) h2.neq,_,qy h1 (show (E.lit 0).den I g.env=some (.i 0) from rfl),?_⟩;by_cases hn:n=0 <;> simp [BO.ev,hn]
     . cases h
   . cases h
 . cases h
theorem uJ {t:E} {f:Int->Nat->Int} {env:List D} (ht:t.den I env=some (.t f)):∀{k:Nat} {l:List UInt8},sV t k=some l->l.length=k/\∀(i:Nat) (b:UInt8),l[i]?=some b->f i 0=b.toNat
 | 0,l,h=>by simp [sV] at h;subst h;simp
 | k+1,l,h=>by
   simp only [sV] at h;split at h
   . rename_i l0 x h1 h2;split at h
     . rename_i hx;simp at h;subst h;obtain ⟨h3,h4⟩:=uJ ht h1;refine ⟨by simp [h3],fun i b hb=>?_⟩;by_cases hi:i<l0.length
       . rw [List.getElem?_append_left hi] at hb;exact h4 i b hb
       . rw [List.getElem?_append_right (by omega)] at hb
         have hik:i - l0.length=0:=by
           have:=(List.getElem?_eq_some_iff.1 hb).1;simp at this;omega
         rw [hik] at hb;simp at hb;subst hb;have hik:i=k:=by omega
         subst hik;have h5:=jU (c:=0) ht (show (E.lit (i:Int)).den I env=some (.i i) from rfl);rw [h2] at h5;simp [E.den] at h5;rw [<-h5,UInt8.toNat_ofNat'];omega
     . cases h
   . cases h
theorem Nk {t n:E} {f:Int->Nat->Int} {k:Int} (ht:t.den I g.env=some (.t f)) (hn:n.den I g.env=some (.i k)) (hk:0<=k) (hp:∀q∈(toStr t n).2,q.den I g.env) :
   ∃bs:List UInt8,(bs.length:Int)=k/\(∀(i:Nat) (b:UInt8),bs[i]?=some b->f i 0=b.toNat)/\∀s:ByteArray,s.data.toList=bs->Rel I g (toStr t n).1 (.string s):=by
 have sym:(PE.byt t n).den I g.env->∃bs:List UInt8,(bs.length:Int)=k/\(∀(i:Nat) (b:UInt8),bs[i]?=some b->f i 0=b.toNat)/\∀s:ByteArray,s.data.toList=bs->Rel I g (.wE t n) (.string s):=by
   rintro ⟨f',k',h1,h2,h3⟩;rw [ht] at h1;cases h1;rw [hn] at h2;cases h2
   have hb:∀(i:Nat) (b:UInt8),((List.range k.toNat).map fun (i:Nat)=>UInt8.ofNat (f i 0).toNat)[i]?=some b->f i 0=b.toNat:=fun i b hb=>by
     simp only [List.getElem?_map,Option.map_eq_some_iff] at hb;obtain ⟨j,hj,rfl⟩:=hb;obtain ⟨hlt,hj⟩:=List.getElem?_eq_some_iff.1 hj;simp at hj hlt;subst hj;have:=h3 i (by omega);rw [UInt8.toNat_ofNat'];omega
   refine ⟨_,by simp;omega,hb,fun s hs=>⟨f,k,s,ht,hn,rfl,by rw [hs];simp;omega,by rw [hs];exact hb⟩⟩
 unfold toStr at hp ⊢;split at hp
 . rename_i m;simp [E.den] at hn;subst hn;split at hp
   . rename_i hc;split at hp
     . rename_i l hl;obtain ⟨h1,h2⟩:=uJ ht hl;rw [if_pos hc];exact ⟨l,by omega,h2,fun s hs=>⟨s,rfl,hs⟩⟩
     . rename_i hl;rw [if_pos hc];exact sym (hp _ (by simp))
   . rename_i hc;rw [if_neg hc];exact sym (hp _ (by simp))
 . exact sym (hp _ (by simp))
theorem Sg {env:List D} {t n:E} {f:Int->Nat->Int} {x:Int} (ht:t.den I env=some (.t f)) (hn:n.den I env=some (.i x)):(LK t n).den I env=some (.t fun r c=>f (r+x) c):=by
 unfold LK;split
 . simp [E.den] at hn;subst hn;simpa using ht
 . simp [E.den,ht,hn]
theorem X0 {src dst el:TypeId} (hs:P.underlying src=some (.slice el)) (he:P.underlying el=some (.int .u8)) (hd:P.underlying dst=some .string) (hm:qX A I P g M w) {v z:AV} {x:Value} {ps:List PE}
   (h:o8 M v=some (z,ps)) (hp:∀q∈ps,q.den I g.env) (hx:Rel I g v x):∃r,(convert src dst x).run P w=.ok r w/\Rel I g z r:=by
 have none0:∀c d:Nat,∃s:ByteArray,(convert src dst (.slice none c d)).run P w=.ok (.string s) w/\s.data.toList=[]:=fun c d=>by
   rw [run_convert_bytes_string w src dst el none c d hs he hd];exact ⟨_,rfl,rfl⟩
 have FT:∀(ad:Addr) (d:Nat),∃s:ByteArray,(convert src dst (.slice (some ad) 0 d)).run P w=.ok (.string s) w/\s.data.toList=[]:=fun ad d=>
   ⟨_,run_convert_bytes_back w src dst el ad d [] hs he hd (fun j hj=>by simp at hj),rfl⟩
 unfold o8 at h;split at h
 . simp at h;obtain ⟨rfl,rfl⟩:=h;simp only [Rel] at hx;subst hx;obtain ⟨s,h1,h2⟩:=none0 0 0;exact ⟨_,h1,s,rfl,h2⟩
 . simp at h;obtain ⟨rfl,rfl⟩:=h;obtain ⟨ad,rfl⟩:=hx;obtain ⟨s,h1,h2⟩:=FT ad 0;exact ⟨_,h1,s,rfl,h2⟩
 . simp at h;obtain ⟨rfl,rfl⟩:=h;obtain ⟨ad,rfl⟩:=hx;cases ad with
   | none=>obtain ⟨s,h1,h2⟩:=none0 0 0;exact ⟨_,h1,s,rfl,h2⟩
   | some ad=>obtain ⟨s,h1,h2⟩:=FT ad 0;exact ⟨_,h1,s,rfl,h2⟩
 . simp at h;obtain ⟨rfl,rfl⟩:=h;obtain ⟨ad,c,rfl⟩:=hx;obtain ⟨s,h1,h2⟩:=FT ad c;exact ⟨_,h1,s,rfl,h2⟩
 . rename_i b lo n s nl;split at h
   . rename_i ks t len wr nl2 hb;split at h
     . rename_i hc;obtain ⟨rfl,rfl⟩:=hc;simp at h;obtain ⟨rfl,rfl⟩:=h;obtain ⟨f,m,hf,hm2,hm0,hrow⟩:=hm.blk _ _ hb;obtain ⟨l,k,h1,h2,h3,h4,h5⟩:=hx;have hle:=zn (zk h1 h2) hm2 (hp _ (by simp));obtain ⟨bs,k1,k2,k3⟩:=Nk (Sg hf h1) h2 h4 (fun q hq=>hp q (by simp [hq]));have hlen:bs.length=k.toNat:=by omega
       rcases h5 with ⟨p,cap,h6,rfl,h8,h9⟩ | ⟨_,h6,ad,rfl⟩
       . have hcell:∀(j:Nat) (hj:j<bs.length),w.cell? ((⟨p.blk,p.base+l.toNat*1,none⟩:Addr).add j)=some (.int .u8 (bs[j].toNat:Int)):=fun j hj=>by
           rcases hrow with ⟨p',c,T,fr,hp',hh,hcs,_⟩ | ⟨_,hz,hno⟩
           . rw [h6] at hp';cases hp';have:=hcs (l.toNat+j) 0 (.int .u8) (by omega) rfl;rw [addr_add,za hh];have e:p.base+l.toNat*1+j=p.base+(l.toNat+j) * [CK.int IntKind.u8].length+0:=by simp;omega
             rw [e,(CK.KS rfl).1 this];have hb:=k2 j bs[j] (List.getElem?_eq_getElem hj);have e2:(((l.toNat+j:Nat):Int))=(j:Int)+l:=by omega
             rw [e2,<-hb];rfl
           . rw [h6] at hno;cases hno
         have hrun:=run_convert_bytes_back w src dst el ⟨p.blk,p.base+l.toNat*1,none⟩ cap bs hs he hd hcell;rw [hlen] at hrun;exact ⟨_,hrun,k3 _ rfl⟩
       . subst h6;have hbs:bs=[]:=List.length_eq_zero_iff.1 (by omega);subst hbs;cases ad with
         | none=>obtain ⟨s,h1,h2⟩:=none0 0 0;exact ⟨_,h1,k3 s h2⟩
         | some ad=>obtain ⟨s,h1,h2⟩:=FT ad 0;exact ⟨_,h1,k3 s h2⟩
     . cases h
   . cases h
 . cases h
theorem lY (ht:wG I g X ts a.tmps) {o:Option Operand} {e:Option E} (h:sM ts o=some e) (hx:∀t,o=some (.tmp t)->¬X t) :
   ∃c:Option Int,jM (o.map a.eval) c/\(c.isSome=e.isSome)/\∀(d:E) (m:Int),d.den I g.env=some (.i m)->(e.getD d).den I g.env=some (.i (c.getD m)):=by
 cases o with
 | none=>
   simp [sM] at h;subst h;exact ⟨none,rfl,rfl,fun d m hd=>hd⟩
 | some y=>
   simp only [sM] at h;split at h
   . rename_i k e' he;simp at h;subst h;obtain ⟨m,h1,h2⟩:=zl ht he fun t e=>hx t (by rw [e]);exact ⟨some m,⟨k,by simp [h2]⟩,rfl,fun _ _ _=>h1⟩
   . cases h
theorem YF {t el:TypeId} {b:Nat} {l len:E} {s:Nat} {nl:Bool} (hu:P.underlying t=some (.slice el)) (hs:qo P el=some s) {v:AV} {y:Value} {lo hi:Option Value} {ea eh:Option E} {ca ch:Option Int} {ps:List PE}
   (hr:Rel I g (.slice b l len s nl) y) (ha:jM lo ca) (hh:jM hi ch)
   (hea:∀(d:E) (m:Int),d.den I g.env=some (.i m)->(ea.getD d).den I g.env=some (.i (ca.getD m))) (heh:∀(d:E) (m:Int),d.den I g.env=some (.i m)->(eh.getD d).den I g.env=some (.i (ch.getD m)))
   (h:iM (.slice b l len s nl) ea eh=some (v,ps)) (hp:∀q∈ps,q.den I g.env) :
   ∃z,(Instr.sliceAt t y lo hi none).run P w=.ok z w/\Rel I g v z:=by
 simp only [iM,Option.some.injEq,Prod.mk.injEq] at h;obtain ⟨rfl,rfl⟩:=h;obtain ⟨l',n,hl,hn,hl0,hn0,hcase⟩:=hr;have hA:=hea (.lit 0) 0 rfl;have hH:=heh len n hn;have h1:=zn (show (E.lit 0).den I g.env=some (.i 0) from rfl) hA (hp _ (by simp));have h2:=zn hA hH (hp _ (by simp));have h3:=zn hH hn (hp _ (by simp));have hnn:ch.getD ((n.toNat:Nat):Int)=ch.getD n:=by rw [Int.toNat_of_nonneg hn0]
 rcases hcase with ⟨p,cap,h5,rfl,h6,h7⟩ | ⟨h5,h6,ad,rfl⟩
 . refine ⟨_,zu hu hs ha hh (show jM none none from rfl) (by simp) h1 (by rw [hnn];exact h2) (by rw [hnn];simp;omega) (by simp),?_⟩;rw [hnn];simp only [Option.getD_none,Int.toNat_natCast];by_cases hc:cap=(ca.getD 0).toNat
   . rw [if_pos hc];refine ⟨l'+ca.getD 0,ch.getD n - ca.getD 0,zk hl hA,xu hH hA,by omega,by omega,.inr ⟨rfl,by omega,some ⟨p.blk,p.base+l'.toNat*s,none⟩,?_⟩⟩;rw [show (ch.getD n).toNat - (ca.getD 0).toNat=0 by omega,show cap - (ca.getD 0).toNat=0 by omega]
   . rw [if_neg hc];refine ⟨l'+ca.getD 0,ch.getD n - ca.getD 0,zk hl hA,xu hH hA,by omega,by omega,.inl ⟨p,cap - (ca.getD 0).toNat,h5,?_,by omega,Nat.le_trans (Nat.mul_le_mul_right _ (by omega)) h7⟩⟩;simp only [Option.map_some,addr_add]
     congr 1
     . rw [show (l'+ca.getD 0).toNat=l'.toNat+(ca.getD 0).toNat by omega,Nat.add_mul,Nat.add_assoc]
     . omega
 . refine ⟨_,zu hu hs ha hh (show jM none none from rfl) (by simp) h1 (by simp;rw [h6] at h2;exact h2) (by simp;rw [h6] at h3;exact h3) (by simp),?_⟩;have e1:ca.getD 0=0:=by omega
   have e2:ch.getD 0=0:=by rw [h6] at h2 h3;omega
   refine ⟨l'+ca.getD 0,ch.getD n - ca.getD 0,zk hl hA,xu hH hA,by omega,by rw [h6];omega,.inr ⟨rfl,by rw [h6];omega,ad,?_⟩⟩;simp [e1,e2]
theorem vR {t:TypeId} {d:TypeDesc} (hu:P.underlying t=some d) (hd:d=.string\/∃k,d=.int k) (em:Bool) (n:Nat) (x:Value):(Instr.checkKey em (n+1) t x).run P w=.ok () w:=by
 unfold Instr.checkKey;simp only [Sem.run_bind,run_underlying hu,Result.andThen];rcases hd with rfl | ⟨k,rfl⟩ <;> cases x <;> rfl
theorem Kt {α:Type} {body:α->PUnit->Sem (ForInStep PUnit)}:∀{l:List α},(∀f∈l,(body f ⟨⟩).run P w=.ok (.yield ⟨⟩) w)->(forIn l ⟨⟩ body:Sem PUnit).run P w=.ok ⟨⟩ w
 | [],_=>rfl
 | f::l,h=>by
   rw [List.forIn_cons,Sem.run_bind,h f (by simp)];exact Kt fun f hf=>h f (by simp [hf])
theorem yJ {t:TypeId} {v:AV} {x:Value} (h:mK P t v=true) (hx:Rel I g v x) (em:Bool) (n:Nat):(Instr.checkKey em (n+2) t x).run P w=.ok () w:=by
 unfold mK at h;split at h
 . rename_i hu;exact vR hu (.inl rfl) em (n+1) x
 . rename_i k hu;exact vR hu (.inr ⟨_,rfl⟩) em (n+1) x
 . rename_i fs l hu;obtain ⟨cs,rfl,hl⟩:=hx;simp only [Bool.and_eq_true] at h
   have hf:∀f∈fs.toList,(do
       let y <-part f.type cs f.offset
       Instr.checkKey em (n+1) f.type y:Sem Unit).run P w=.ok () w/\f.name≠ "_":=by
     intro f hf;have:=List.all_eq_true.1 h.2 f hf;simp only [mD,Bool.and_eq_true,beq_iff_eq,bne_iff_ne,ne_eq,decide_eq_true_eq] at this;obtain ⟨⟨⟨⟨h1,h2⟩,h3⟩,h4⟩,h5⟩:=this;refine ⟨?_,h1⟩;obtain ⟨y,hy,_⟩:=mh (P:=P) (w:=w) (i:=f.offset) (show jl l f.offset 1 false=some l[f.offset] by simp [jl,h5]) hl h3 h4;rw [Sem.run_bind,hy];simp only [Result.andThen];split at h2
     . rename_i hq;exact vR hq (.inl rfl) em n y
     . rename_i hq;exact vR hq (.inr ⟨_,rfl⟩) em n y
     . cases h2
   unfold Instr.checkKey;simp only [Sem.run_bind,run_underlying hu,Result.andThen,<-Array.forIn_toList];have hb:∀(b:Field->PUnit->Sem (ForInStep PUnit)),(∀f∈fs.toList,(b f ⟨⟩).run P w=.ok (.yield ⟨⟩) w)->((forIn fs.toList ⟨⟩ b:Sem PUnit).run P w).andThen (fun _ w=>(pure ():Sem Unit).run P w)=.ok () w:=fun b hb=>by rw [Kt hb];rfl
   refine hb _ fun f hm=>?_;obtain ⟨h1,h2⟩:=hf f hm;rw [Sem.run_bind] at h1;simp only [if_pos h2,Sem.run_bind]
   revert h1
   cases (part f.type cs f.offset).run P w with
   | ok y w'=>intro h1;simp only [Result.andThen] at h1 ⊢;rw [h1];rfl
   | _=>intro h1;cases h1
 . cases h
theorem Pz {t:TypeId} {v u:AV} {e:E} {x y:Value} (h:l8 P 20 t v u=some e) (hx:Rel I g v x) (hy:Rel I g u y) :
   ∃n:Int,e.den I g.env=some (.i n)/\(Op.equal t x y).run P w=.ok (decide (n≠0)) w:=by
 obtain ⟨n,h1,_,h2⟩:=oM 20 t v u e x y h hx hy (w:=w);exact ⟨n,h1,h2 9980⟩
theorem GV {t:TypeId} {k:AV} {x:Value} (hx:Rel I g k x):∀{l:List AV} {es:List MapEntry} {i:Nat} {r:Option Nat},wJ P t k l i=some r->qw I g l (es.map (·.key))->
   match r with
   | none=>(Instr.findAsking t x es i).run P w=.ok none w
   | some j=>∃e,es[j - i]?=some e/\i<=j/\(Instr.findAsking t x es i).run P w=.ok (some (j,e.val)) w
 | [],[],i,r,h,_=>by simp [wJ] at h;subst h;rfl
 | u::l,e::es,i,r,h,hr=>by
   simp only [wJ] at h;split at h
   . rename_i n hn;obtain ⟨m,h1,h2⟩:=Pz (w:=w) hn hx hr.1;simp only [E.den,Option.some.injEq,D.i.injEq] at h1;subst h1;split at h
     . rename_i h0;have ih:=GV hx h hr.2
       have step:(Instr.findAsking t x (e::es) i).run P w=(Instr.findAsking t x es (i+1)).run P w:=by
         rw [Instr.findAsking,Sem.run_bind,h2];simp [Result.andThen,h0]
       cases r with
       | none=>simp only at ih ⊢;rw [step];exact ih
       | some j=>
         simp only at ih ⊢;obtain ⟨e',k1,k2,k3⟩:=ih;refine ⟨e',?_,by omega,by rw [step];exact k3⟩;rw [show j - i=(j - (i+1))+1 by omega];exact k1
     . rename_i h0;simp at h;subst h;refine ⟨e,by simp,Nat.le_refl _,?_⟩;unfold Instr.findAsking;rw [Sem.run_bind,h2];simp [Result.andThen,h0]
   . cases h
 | [],_::_,_,_,_,h=>by simp [qw] at h
 | _::_,[],_,_,_,h=>by simp [qw] at h
theorem tQ {t:TypeId} {d:TypeDesc} (hu:P.underlying t=some d) {x:Value}:∀{es:List MapEntry} {i:Nat} {r:Option (Nat × Value)},Instr.findNow d x es i=some r->(Instr.findAsking t x es i).run P w=.ok r w
 | [],i,r,h=>by simp [Instr.findNow] at h;subst h;rfl
 | e::es,i,r,h=>by
   have heq:∀b,Instr.sameNow d x e.key=some b->(Op.equal t x e.key).run P w=.ok b w:=by
     intro b hb;unfold Instr.sameNow at hb;unfold Op.equal Op.maxDepth;rw [Op.equalIn.eq_def];split at hb
     . rename_i q k a k' a' hx he;split at hb
       . rename_i hk;subst hk;cases hb;rw [he];simp only [Sem.run_bind,run_underlying hu,Result.andThen];simp
       . cases hb
     . rename_i hx he;cases hb;rw [he];simp only [Sem.run_bind,run_underlying hu,Result.andThen,Sem.run_pure]
     . rename_i hx he;cases hb;rw [he];simp only [Sem.run_bind,run_underlying hu,Result.andThen,Sem.run_pure]
     . cases hb
   unfold Instr.findNow at h;unfold Instr.findAsking;rw [Sem.run_bind];split at h
   . rename_i hb;cases h;rw [heq _ hb];rfl
   . rename_i hb;rw [heq _ hb];exact tQ hu h
   . cases h
theorem yx {t:TypeId} {k:AV} {x:Value} (hk:mK P t k=true) (hx:Rel I g k x) {l:List AV} {es:List MapEntry} {r:Option Nat} (h:wJ P t k l 0=some r) (hr:qw I g l (es.map (·.key))) :
   match r with
   | none=>(Instr.findKey t x es).run P w=.ok none w
   | some j=>∃e,es[j]?=some e/\(Instr.findKey t x es).run P w=.ok (some (j,e.val)) w:=by
 have hu:∃d,P.underlying t=some d:=by
   unfold mK at hk;split at hk <;> first | exact ⟨_,by assumption⟩ | cases hk
 obtain ⟨d,hu⟩:=hu;have h1:=GV (w:=w) hx h hr
 have same:∀q,(Instr.findAsking t x es 0).run P w=.ok q w->(Instr.findKey t x es).run P w=.ok q w:=by
   intro q hq;unfold Instr.findKey;simp only [Sem.run_bind,run_underlying hu,Result.andThen];cases hn:Instr.findNow d x es 0 with
   | none=>simp only;exact hq
   | some q'=>
     have:=tQ (w:=w) hu hn;rw [hq] at this;cases this;rfl
 cases r with
 | none=>exact same _ h1
 | some j=>
   obtain ⟨e,k1,_,k2⟩:=h1;exact ⟨e,k1,same _ k2⟩
theorem jW {r:Nat} {es:Array MapEntry} {c:Nat} (h:w.heap[r]?=some (.map es c)):(getObj r).run P w=.ok (.map es c) w:=by
 simp [getObj,Sem.run,h]
theorem NW (hm:qX A I P g M w) {v:AV} {x:Value} {l m:List AV} (h:mapOf M v=some (l,m)) (hx:Rel I g v x) :
   ∃es:Array MapEntry,qw I g l (es.toList.map (·.key))/\qw I g m (es.toList.map (·.val))/\((x=.map none/\es=#[])\/∃r c,x=.map (some r)/\w.heap[r]?=some (.map es c)):=by
 unfold mapOf at h;split at h
 . cases h;simp only [Rel] at hx;exact ⟨#[],trivial,trivial,.inl ⟨hx,rfl⟩⟩
 . rename_i b;split at h
   . rename_i l' m' hb;cases h;obtain ⟨p,h1,rfl⟩:=hx;obtain ⟨p',es,c,h2,h3,h4,h5⟩:=hm.blk b _ hb;rw [h1] at h2;cases h2;exact ⟨es,h4,h5,.inr ⟨_,c,rfl,h3⟩⟩
   . cases h
 . cases h
theorem DN (hm:qX A I P g M w) {t kt et:TypeId} (hu:P.underlying t=some (.map kt et)) {v k z:AV} {x y:Value} {ok:Bool} {ps:List PE} (h:bL P M kt et v k ok=some (z,ps)) (hx:Rel I g v x) (hy:Rel I g k y) :
   ∃r,(Instr.lookup t x y ok).run P w=.ok r w/\Rel I g z r:=by
 unfold bL at h;split at h
 . rename_i hk;split at h
   . rename_i l m hl;obtain ⟨es,h1,h2,h3⟩:=NW hm hl hx;have hc:(Instr.checkKey es.isEmpty 10000 kt y).run P w=.ok () w:=yJ hk hy _ 9998
     have main:∀{q:Option (Nat × Value)} {u:Value} {b:Bool},(Instr.findKey kt y es.toList).run P w=.ok q w->
         (match q with | some (_,u')=>u'=u/\b=true | none=>(zeroValue et).run P w=.ok u w/\b=false)->
         (Instr.lookup t x y ok).run P w=.ok (if ok then .tuple #[u,.bool b] else u) w:=by
       intro q u b hq hb;unfold Instr.lookup;rcases h3 with ⟨rfl,rfl⟩ | ⟨r,c,rfl,hr⟩
       . simp only [Sem.run_bind,run_underlying hu,Result.andThen,Sem.run_pure,hc,hq];cases q with
         | none=>
           obtain ⟨hz,rfl⟩:=hb;simp only [Sem.run_bind,hz,Result.andThen,Sem.run_pure]
         | some q=>
           obtain ⟨rfl,rfl⟩:=hb;simp only [Sem.run_bind,Sem.run_pure,Result.andThen]
       . simp only [Sem.run_bind,run_underlying hu,Result.andThen,Sem.run_pure,jW hr,hc,hq];cases q with
         | none=>
           obtain ⟨hz,rfl⟩:=hb;simp only [Sem.run_bind,hz,Result.andThen,Sem.run_pure]
         | some q=>
           obtain ⟨rfl,rfl⟩:=hb;simp only [Sem.run_bind,Sem.run_pure,Result.andThen]
     have qzq:∀n:Int,Rel I g (.bool (.lit n)) (.bool (decide (n≠0))):=fun n=>⟨n,rfl,rfl⟩;split at h
     . rename_i j hj;obtain ⟨e,k1,k2⟩:=yx (w:=w) hk hy hj h1;cases hmj:m[j]? with
       | none=>simp [hmj] at h
       | some u=>
         simp [hmj] at h;obtain ⟨rfl,rfl⟩:=h;obtain ⟨xv,e1,e2⟩:=h2.get hmj
         have e3:xv=e.val:=by
           rw [List.getElem?_map,k1] at e1;simpa using e1.symm
         subst e3;refine ⟨_,main (b:=true) (u:=e.val) k2 ⟨rfl,rfl⟩,?_⟩;cases ok
         . exact e2
         . exact ⟨_,rfl,e2,qzq 1,trivial⟩
     . rename_i hj;have k2:=yx (w:=w) hk hy hj h1;cases hz:zJ P et with
       | none=>simp [hz] at h
       | some u=>
         simp [hz] at h;obtain ⟨rfl,rfl⟩:=h;obtain ⟨ti,zx,_,_,hzr,zM⟩:=zC hz;refine ⟨_,main (b:=false) (u:=zx) k2 ⟨hzr w,rfl⟩,?_⟩;cases ok
         . exact (zM I g).1
         . exact ⟨_,rfl,(zM I g).1,qzq 0,trivial⟩
     . cases h
   . cases h
 . cases h
theorem ZL (f g:Int->Nat->Int) (w:Nat):∀(n i:Nat),(kG f g w n i=-1/\∀j,i<=j->j<i+n->∃c,c<w/\f j c≠g 0 c)\/
   ∃j:Nat,kG f g w n i=j/\i<=j/\j<i+n/\(∀c,c<w->f j c=g 0 c)/\∀q:Nat,i<=q->q<j->∃c,c<w/\f q c≠g 0 c
 | 0,i=>.inl ⟨rfl,fun j _ _=>by omega⟩
 | n+1,i=>by
   simp only [kG];split
   . rename_i h;refine .inr ⟨i,rfl,Nat.le_refl _,by omega,fun c hc=>?_,fun q _ _=>by omega⟩;have:=List.all_eq_true.1 h c (List.mem_range.2 hc);simpa using this
   . rename_i h
     have hi:∃c,c<w/\f i c≠g 0 c:=by
       rcases Classical.em (∃c,c<w/\f i c≠g 0 c) with h1 | h1
       . exact h1
       . refine absurd (List.all_eq_true.2 fun c hc=>?_) h;have hc:=List.mem_range.1 hc;rcases Classical.em (f i c=g 0 c) with h2 | h2
         . simp [h2]
         . exact absurd ⟨c,hc,h2⟩ h1
     rcases ZL f g w n (i+1) with ⟨h1,h2⟩ | ⟨j,h1,h2,h3,h4,h5⟩
     . refine .inl ⟨h1,fun j hj1 hj2=>?_⟩;rcases Nat.eq_or_lt_of_le hj1 with rfl | hlt
       . exact hi
       . exact h2 j hlt (by omega)
     . refine .inr ⟨j,h1,by omega,by omega,h4,fun q hq1 hq2=>?_⟩;rcases Nat.eq_or_lt_of_le hq1 with rfl | hlt
       . exact hi
       . exact h5 q hlt hq2
def y5 (f:Nat->Int):Nat->List CK->List AV
 | _,[]=>[]
 | c,k::ks=>k.av (.lit (f c))::y5 f (c+1) ks
def vZ (w:Nat) (one:Bool) (ks:List CK) (f:Nat->Int):AV:=
 match one,ks with
 | true,k::_=>k.av (.lit (f 0))
 | true,[]=>.xk
 | false,ks=>.agg (y5 f 0 (ks.take w))
theorem u6 (f:Nat->Int):∀(ks:List CK) (c:Nat),(∀k∈ks,k.plain=true)->qw I g (y5 f c ks) (wQ f c ks)
 | [],_,_=>trivial
 | k::ks,c,hk=>⟨wY (show (E.lit (f c)).den I g.env=some (.i (f c)) from rfl) ((CK.yu (hk k (by simp))).2 rfl),u6 f ks (c+1) fun k' h=>hk k' (by simp [h])⟩
theorem nM (w:Nat) (one:Bool) (ks:List CK) (f:Nat->Int) (hk:∀k∈ks,k.plain=true):Rel I g (vZ w one ks f) (fH w one ks f):=by
 unfold vZ fH;cases one with
 | true=>
   cases ks with
   | nil=>rfl
   | cons k ks=>exact wY (show (E.lit (f 0)).den I g.env=some (.i (f 0)) from rfl) ((CK.yu (hk k (by simp))).2 rfl)
 | false=>
   cases ks with
   | nil=>exact ⟨_,rfl,by simpa using u6 f [] 0 (by simp)⟩
   | cons k ks=>exact ⟨_,rfl,by simpa using u6 f ((k::ks).take w) 0 fun k h=>hk k (List.mem_of_mem_take h)⟩
theorem u7 (f:Nat->Int):∀(ks:List CK) (c i:Nat),(y5 f c ks)[i]?=(ks[i]?).map fun k=>k.av (.lit (f (c+i)))
 | [],_,_=>by simp [y5]
 | k::ks,c,0=>by simp [y5]
 | k::ks,c,i+1=>by simp only [y5,List.getElem?_cons_succ];rw [u7 f ks (c+1) i];rw [Nat.add_assoc,Nat.add_comm 1 i]
theorem uZ (f:Nat->Int):∀(ks:List CK) (c:Nat),(y5 f c ks).length=ks.length
 | [],_=>rfl
 | _::ks,c=>by simp [y5,uZ f ks (c+1)]
theorem QD (f:Nat->Int):∀(ks:List CK) (c i:Nat),(wQ f c ks)[i]?=(ks[i]?).map fun k=>k.val (f (c+i))
 | [],_,_=>by simp [wQ]
 | k::ks,c,0=>by simp [wQ]
 | k::ks,c,i+1=>by simp only [wQ,List.getElem?_cons_succ];rw [QD f ks (c+1) i];rw [Nat.add_assoc,Nat.add_comm 1 i]
theorem uh {f h:Nat->Int}:∀{ks:List CK} {c:Nat},(∀i,i<ks.length->f (c+i)=h (c+i))->wQ f c ks=wQ h c ks
 | [],_,_=>rfl
 | k::ks,c,hf=>by
   simp only [wQ];have h0:=hf 0 (by simp);simp only [Nat.add_zero] at h0;rw [h0,uh (f:=f) (h:=h) (c:=c+1) (ks:=ks) fun i hi=>by have:=hf (i+1) (by simpa using hi);rw [Nat.add_assoc,Nat.add_comm 1 i];exact this]
theorem bA {w:Nat} {one:Bool} {ks:List CK} {f h:Nat->Int} (hw:one=true->1<=w) (hf:∀c,c<w->f c=h c):fH w one ks f=fH w one ks h:=by
 unfold fH;cases one with
 | true=>
   cases ks with
   | nil=>rfl
   | cons k ks=>simp only;rw [hf 0 (hw rfl)]
 | false=>
   cases ks with
   | nil=>simp [wQ]
   | cons k ks=>
     simp only
     rw [uh fun i hi=>by
       have:i<w:=by simp at hi;omega
       simpa using hf i this]
theorem Gh {t:TypeId} {c:CK} (h:xA P t c=true) (d:Nat) (a b:Int):l8 P (d+1) t (c.av (.lit a)) (c.av (.lit b))=some (.lit (if a=b then 1 else 0)):=by
 unfold xA at h;split at h
 . rename_i hu;unfold l8;simp only [hu,CK.av,mkStr]
   congr 2
   by_cases hab:a=b
   . subst hab;simp
   . rw [if_neg hab,if_neg fun e=>hab (fO e)]
 . rename_i j j' hu;simp only [beq_iff_eq] at h;subst h;unfold l8;simp only [hu,CK.av,if_true,mkBin,BO.ev]
 . cases h
theorem J5 {t:TypeId} {c:CK} (h:xA P t c=true) (a:Int):(c.av (.lit a)).flat=true/\(P.underlying t=some .string\/∃k,P.underlying t=some (.int k)):=by
 unfold xA at h;split at h
 . rename_i hu;exact ⟨rfl,.inl hu⟩
 . rename_i j j' hu;exact ⟨rfl,.inr ⟨_,hu⟩⟩
 . cases h
def vG (f h:Nat->Int):Nat->Nat->Bool
 | _,0=>true
 | c,n+1=>decide (f c=h c) && vG f h (c+1) n
theorem KU (f h:Nat->Int):∀n c,vG f h c n=true↔∀i,i<n->f (c+i)=h (c+i)
 | 0,c=>by simp [vG]
 | n+1,c=>by
   simp only [vG,Bool.and_eq_true,decide_eq_true_eq,KU f h n (c+1)];constructor
   . rintro ⟨h1,h2⟩ i hi;cases i with
     | zero=>exact h1
     | succ i=>have:=h2 i (by omega);rw [Nat.add_assoc,Nat.add_comm 1 i] at this;exact this
   . intro hh;refine ⟨hh 0 (by omega),fun i hi=>?_⟩;have:=hh (i+1) (by omega);rw [Nat.add_assoc,Nat.add_comm 1 i];exact this
theorem Gp (d:Nat) (f h:Nat->Int) (l m:List AV):∀{fs:List Field} {ks:List CK} {o:Nat},pO P o fs ks=true->
   (∀i k,ks[i]?=some k->l[o+i]?=some (k.av (.lit (f (o+i))))/\m[o+i]?=some (k.av (.lit (h (o+i)))))->
   GN P (l8 P (d+1)) l m fs=some (.lit (if vG f h o ks.length then 1 else 0))
 | [],[],o,_,_=>by simp [GN,vG]
 | fd::fs,k::ks,o,hk,hl=>by
   simp only [pO,Bool.and_eq_true,beq_iff_eq,bne_iff_ne,ne_eq] at hk;obtain ⟨⟨⟨⟨⟨h1,h2⟩,h3⟩,h4⟩,h5⟩,h6⟩:=hk;have h0:=hl 0 k rfl;simp only [Nat.add_zero] at h0
   have ih:=Gp d f h l m h6 fun i k' hk'=>by
     have:=hl (i+1) k' (by simpa using hk');rw [Nat.add_assoc,Nat.add_comm 1 i];exact this
   simp only [GN,if_neg h1,h3,h4,h5,jl,Bool.false_eq_true,if_false,h0.1,h0.2,Gh h2,ih,List.length_cons,vG,mkBin,BO.ev];by_cases e1:f o=h o <;> cases vG f h (o+1) ks.length <;> simp [e1]
 | [],_::_,_,h,_=>by simp [pO] at h
 | _::_,[],_,h,_=>by simp [pO] at h
theorem LG {t:TypeId} {w:Nat} {one:Bool} {ks:List CK} (h:Xo P t w one ks=true) (f q:Nat->Int) :
   l8 P 20 t (vZ w one ks f) (vZ w one ks q)=some (.lit (if vG f q 0 w then 1 else 0)):=by
 unfold Xo at h;simp only [Bool.and_eq_true,decide_eq_true_eq] at h;obtain ⟨hl,h⟩:=h;cases one with
 | true=>
   simp only [if_true,Bool.and_eq_true,beq_iff_eq] at h;obtain ⟨rfl,h⟩:=h;cases ks with
   | nil=>simp at hl
   | cons k ks=>
     simp only at h;unfold vZ;simp only [Gh h,vG,Bool.and_true];by_cases e:f 0=q 0 <;> simp [e]
 | false=>
   simp only [Bool.false_eq_true,if_false] at h;split at h
   . rename_i fs hu;simp only [Bool.and_eq_true,beq_iff_eq] at h;have e:∀f,vZ w false ks f=.agg (y5 f 0 (ks.take w)):=fun f=>by unfold vZ;cases ks <;> rfl
     rw [e,e];unfold l8;simp only [hu];rw [if_pos h.1]
     have:=Gp (P:=P) 18 f q (y5 f 0 (ks.take w)) (y5 q 0 (ks.take w)) h.2 fun i k hk=>by
       rw [Nat.zero_add,u7,u7,hk];simp
     rw [this];have hlen:(ks.take w).length=w:=by simp;omega
     rw [hlen]
   . cases h
theorem Kq (l:List AV):∀{fs:List Field} {ks:List CK} {o:Nat},pO P o fs ks=true->o+ks.length<=l.length->fs.all (mD P l)=true
 | [],_,_,_,_=>rfl
 | fd::fs,k::ks,o,hk,hl=>by
   simp only [pO,Bool.and_eq_true,beq_iff_eq,bne_iff_ne,ne_eq] at hk;obtain ⟨⟨⟨⟨⟨h1,h2⟩,h3⟩,h4⟩,h5⟩,h6⟩:=hk;simp only [List.length_cons] at hl;have ih:=Kq l h6 (by omega)
   have hf:mD P l fd=true:=by
     have h7:=(J5 h2 0).2;unfold mD;rcases h7 with h | ⟨k,h⟩ <;> simp [h,h1,h3,h4,h5] <;> omega
   simp only [List.all_cons,ih,Bool.and_true,hf]
 | _::_,[],_,h,_=>by simp [pO] at h
theorem Xi {t:TypeId} {w:Nat} {one:Bool} {ks:List CK} (h:Xo P t w one ks=true) (f:Nat->Int):mK P t (vZ w one ks f)=true:=by
 unfold Xo at h;simp only [Bool.and_eq_true,decide_eq_true_eq] at h;obtain ⟨hl,h⟩:=h;cases one with
 | true=>
   simp only [if_true,Bool.and_eq_true,beq_iff_eq] at h;obtain ⟨rfl,h⟩:=h;cases ks with
   | nil=>simp at hl
   | cons k ks=>
     simp only at h;unfold xA at h;unfold mK vZ;split at h
     . rename_i hu;simp [hu,CK.av,mkStr]
     . rename_i hu;simp [hu,CK.av]
     . cases h
 | false=>
   simp only [Bool.false_eq_true,if_false] at h;split at h
   . rename_i fs hu;simp only [Bool.and_eq_true,beq_iff_eq] at h;have e:vZ w false ks f=.agg (y5 f 0 (ks.take w)):=by unfold vZ;cases ks <;> rfl
     rw [e];unfold mK;simp only [hu,Bool.and_eq_true];refine ⟨?_,Kq _ h.2 (by rw [uZ];omega)⟩
     have key:∀{fs:List Field} {ks:List CK} {o:Nat},pO P o fs ks=true->∀c,(y5 f c ks).all AV.flat=true:=by
       intro fs ks
       induction ks generalizing fs with
       | nil=>intro o _ c;rfl
       | cons k ks ih=>
         intro o hk c;cases fs with
         | nil=>simp [pO] at hk
         | cons fd fs=>
           simp only [pO,Bool.and_eq_true,beq_iff_eq,bne_iff_ne,ne_eq] at hk;obtain ⟨⟨⟨⟨⟨h1,h2⟩,h3⟩,h4⟩,h5⟩,h6⟩:=hk;simp only [y5,List.all_cons,(J5 h2 _).1,ih h6,Bool.and_self]
     exact key h.2 0
   . cases h
def nH (w:Nat) (one:Bool) (ks:List CK) (f:Int->Nat->Int) (i n:Nat):List AV:=(List.range' i n).map fun r:Nat=>vZ w one ks (f r)
theorem QL {w:Nat} {one:Bool} {ks:List CK} {f:Int->Nat->Int} (hks:∀k∈ks,k.plain=true):∀{es:List MapEntry} {i:Nat},(∀(j:Nat) (e:MapEntry),es[j]?=some e->e.key=fH w one ks (f ((i+j:Nat):Int)))->
   qw I g (nH w one ks f i es.length) (es.map (·.key))
 | [],_,_=>trivial
 | e::es,i,h=>by
   simp only [nH,List.length_cons,List.range'_succ,List.map_cons];refine ⟨?_,QL hks fun j e' he'=>?_⟩
   . rw [h 0 e rfl];exact nM _ _ _ _ hks
   . have:=h (j+1) e' (by simpa using he');rw [Nat.add_assoc,Nat.add_comm 1 j];exact this
theorem og {t:TypeId} {w:Nat} {one:Bool} {ks:List CK} (h:Xo P t w one ks=true) (f:Int->Nat->Int) (q:Int->Nat->Int):∀(n i:Nat),
   wJ P t (vZ w one ks (q 0)) (nH w one ks f i n) i=some (if 0<=kG f q w n i then some (kG f q w n i).toNat else none)
 | 0,i=>by simp [nH,wJ,kG]
 | n+1,i=>by
   have ih:=og h f q n (i+1);simp only [nH] at ih
   have hc:((List.range w).all fun c=>f i c == q 0 c)=vG (q 0) (f i) 0 w:=by
     rw [Bool.eq_iff_iff,KU,List.all_eq_true];constructor
     . intro hh c hc;have:=hh c (List.mem_range.2 hc);simp only [beq_iff_eq] at this;rw [Nat.zero_add,this]
     . intro hh c hc;have:=hh c (List.mem_range.1 hc);rw [Nat.zero_add] at this;simp [this]
   have ht:kG f q w (n+1) i=if vG (q 0) (f i) 0 w=true then (i:Int) else kG f q w n (i+1):=by simp only [kG];rw [hc]
   simp only [nH,List.range'_succ,List.map_cons,wJ,LG h];rw [ht];by_cases hb:vG (q 0) (f i) 0 w=true
   . simp only [hb,if_true,Int.one_ne_zero,if_false];rw [if_pos (by omega)];simp
   . simp only [hb,Bool.false_eq_true,if_false,if_true];exact ih
theorem J9 {w:Nat} {one:Bool} {ks:List CK} (hks:∀k∈ks,k.plain=true) {k:AV} {y:Value} {u:E} (h:Xa w one ks k=some u) (hk:Rel I g k y) :
   ∃q:Int->Nat->Int,u.den I g.env=some (.t q)/\y=fH w one ks (q 0)/\∀c,w<=c->q 0 c=0:=by
 unfold Xa at h;split at h
 . cases h
 . rename_i hna;split at h
   . rename_i hw;subst hw;obtain ⟨q,h1,_,h3,h4⟩:=kI (x:=0) (show (E.lit 0).den I g.env=some (.i 0) from rfl) h (xs:=[y]) ⟨hk,trivial⟩ (show E.zt.den I g.env=some (.t fun _ _=>0) from rfl);obtain ⟨c,h5,h6⟩:=h3 0 y rfl;refine ⟨q,h1,?_,fun c hc=>h4 0 c (.inr (.inr (by simpa using hc)))⟩;cases ks with
     | nil=>simp at h5
     | cons k0 ks=>
       simp only [Nat.add_zero,List.getElem?_cons_zero,Option.some.injEq] at h5;subst h5;exact (CK.yu (hks _ (by simp))).1 h6
   . cases h
 . split at h
   . rename_i l hl;obtain ⟨cs,rfl,hc⟩:=hk;obtain ⟨q,h1,h2,h3,h4⟩:=kI (x:=0) (show (E.lit 0).den I g.env=some (.i 0) from rfl) h hc (show E.zt.den I g.env=some (.t fun _ _=>0) from rfl);refine ⟨q,h1,?_,fun c hc=>h4 0 c (.inr (.inr (by omega)))⟩;have e:fH w false ks (q 0)=.agg (wQ (q 0) 0 (ks.take w)).toArray:=by unfold fH;cases ks <;> rfl
     rw [e]
     congr 1
     apply Array.toList_inj.1;apply List.ext_getElem?;intro i;simp only [QD,List.getElem?_take];have hlen:=hc.length;by_cases hi:i<w
     . rw [if_pos hi];have hi2:i<cs.toList.length:=by omega
       obtain ⟨c,h5,h6⟩:=h3 i _ (List.getElem?_eq_getElem hi2);rw [Nat.zero_add] at h5 h6;rw [h5,List.getElem?_eq_getElem hi2,(CK.yu (hks c (List.mem_of_getElem? h5))).1 h6,Option.map_some,Nat.zero_add]
     . rw [if_neg hi,List.getElem?_eq_none (by omega)];rfl
   . cases h
 . cases h
theorem G7 {t n u:E} {f q:Int->Nat->Int} {m:Nat} (ht:t.den I g.env=some (.t f)) (hn:n.den I g.env=some (.i (m:Nat))) (hu:u.den I g.env=some (.t q)) (w:Nat) :
   (Xx t n u w).den I g.env=some (.i (kG f q w m 0)):=by
 unfold Xx;rw [vK (j:=8) ht hn hu (show (E.lit (w:Int)).den I g.env=some (.i (w:Int)) from rfl)];simp [bi,D.tab,D.int]
theorem GD {t:TypeId} {w:Nat} {one:Bool} {ks:List CK} (hks:∀k∈ks,k.plain=true) (h:Xo P t w one ks=true) {es:Array MapEntry} {f q:Int->Nat->Int} {W:World}
   (hes:∀(i:Nat) (e:MapEntry),es[i]?=some e->e.key=fH w one ks (f i)) :
   (kG f q w es.size 0<0/\(Instr.findKey t (fH w one ks (q 0)) es.toList).run P W=.ok none W)\/
   ∃(j:Nat) (e:MapEntry),kG f q w es.size 0=j/\es[j]?=some e/\(Instr.findKey t (fH w one ks (q 0)) es.toList).run P W=.ok (some (j,e.val)) W:=by
 have I:Itp:=⟨fun _ _ _ _ _=>none,fun _ _=>False⟩;have g:G:=⟨[],fun _=>none,0,fun _=>none⟩
 have hr:qw I g (nH w one ks f 0 es.toList.length) (es.toList.map (·.key)):=QL hks fun j e he=>by
   rw [Nat.zero_add];exact hes j e (by simpa using he)
 have hf:=og h f q es.toList.length 0;have hl:es.toList.length=es.size:=by simp
 have:=yx (w:=W) (Xi h (q 0)) (nM (I:=I) (g:=g) w one ks (q 0) hks) hf hr;rw [hl] at this;by_cases h0:0<=kG f q w es.size 0
 . rw [if_pos h0] at this;obtain ⟨e,h1,h2⟩:=this;exact .inr ⟨(kG f q w es.size 0).toNat,e,by omega,by simpa using h1,h2⟩
 . rw [if_neg h0] at this;exact .inl ⟨by omega,this⟩
theorem BJ {t:TypeId} {c:CK} (h:BK P t c=true) (W:World):(zeroValue t).run P W=.ok (c.val 0) W:=by
 unfold BK at h;split at h
 . rename_i z hz;simp only [Bool.and_eq_true,beq_iff_eq] at h;obtain ⟨ti,zx,_,_,hzr,zM⟩:=zC hz;rw [hzr W]
   congr 1
   have I:Itp:=⟨fun _ _ _ _ _=>none,fun _ _=>False⟩;have g:G:=⟨[],fun _=>none,0,fun _=>none⟩;have:=(zM I g).1
   have hc:z.cells=[z]:=by
     cases z <;> first | rfl | (simp [AV.isZero] at h)
   have h1:=tL (I:=I) (g:=g) (ks:=[c]) (l:=[z]) (xs:=[zx]) (by simp [jw,h.1]) (by simp [h.2]) ⟨this,trivial⟩ 0 c rfl;simpa using h1
 . cases h
theorem Gz (hm:qX A I P g M w) {t kt et:TypeId} (hu:P.underlying t=some (.map kt et)) {b wd:Nat} {one:Bool} {ks:List CK} {tE n:E} {k z:AV} {x y:Value} {ok:Bool} {ps:List PE}
   (hb:get M b=some (.smp wd one ks tE n)) (h:ZJ P kt et wd one ks tE n k ok=some (z,ps)) (hx:Rel I g (.mref b) x) (hy:Rel I g k y) :
   ∃r,(Instr.lookup t x y ok).run P w=.ok r w/\Rel I g z r:=by
 obtain ⟨p,h1,rfl⟩:=hx;obtain ⟨p',es,c,f,h2,h3,h4,h5,hks,h6⟩:=hm.blk b _ hb;rw [h1] at h2;cases h2;have hh:w.heap[p.blk]?=some (.map es c):=h3;unfold ZJ at h;split at h
 . rename_i hkt;split at h
   . rename_i u ck hku hck;split at h
     . rename_i hz0;simp only [Option.some.injEq,Prod.mk.injEq] at h;obtain ⟨rfl,rfl⟩:=h;obtain ⟨q,hq,rfl,_⟩:=J9 hks hku hy;have hc:(Instr.checkKey es.isEmpty 10000 kt (fH wd one ks (q 0))).run P w=.ok () w:=yJ (Xi hkt (q 0)) (nM (I:=I) (g:=g) wd one ks (q 0) hks) _ 9998;have hcp:ck.plain=true:=hks ck (List.mem_of_getElem? hck);have hfind:=G7 h4 h5 hq wd;have hle:=qy (o:=.le) (show (E.lit 0).den I g.env=some (.i 0) from rfl) hfind;have hsel:=jU (c:=wd) h4 hfind;have hval:=fq (j:=0) (n:=if BO.le.ev 0 (kG f q wd es.size 0)≠0 then f (kG f q wd es.size 0) wd else 0) hle hsel (show (E.lit 0).den I g.env=some (.i 0) from rfl) rfl
       have main:∀{r:Option (Nat × Value)} {v:Value} {bo:Bool},(Instr.findKey kt (fH wd one ks (q 0)) es.toList).run P w=.ok r w->
           (match r with | some (_,u')=>u'=v/\bo=true | none=>(zeroValue et).run P w=.ok v w/\bo=false)->
           (Instr.lookup t (.map (some p.blk)) (fH wd one ks (q 0)) ok).run P w=.ok (if ok then .tuple #[v,.bool bo] else v) w:=by
         intro r v bo hr hbo;unfold Instr.lookup;simp only [Sem.run_bind,run_underlying hu,Result.andThen,Sem.run_pure,jW hh,hc,hr];cases r with
         | none=>
           obtain ⟨hz,rfl⟩:=hbo;simp only [Sem.run_bind,hz,Result.andThen,Sem.run_pure]
         | some r=>
           obtain ⟨rfl,rfl⟩:=hbo;simp only [Sem.run_bind,Sem.run_pure,Result.andThen]
       rcases GD hks (q:=q) (W:=w) hkt (fun i e he=>(h6 i e he).1) with ⟨h7,h8⟩ | ⟨j,e,h7,h8,h9⟩
       . have e0:BO.le.ev 0 (kG f q wd es.size 0)=0:=by simp only [BO.ev];rw [if_neg (by omega)]
         rw [e0] at hval hle;simp only [ne_eq,not_true_eq_false,if_false] at hval;refine ⟨_,main (bo:=false) (v:=ck.val 0) h8 ⟨BJ hz0 w,rfl⟩,?_⟩;cases ok
         . exact wY hval ((CK.yu hcp).2 rfl)
         . exact ⟨_,rfl,wY hval ((CK.yu hcp).2 rfl),⟨0,hle,rfl⟩,trivial⟩
       . have e1:BO.le.ev 0 (kG f q wd es.size 0)=1:=by simp only [BO.ev];rw [if_pos (by omega)]
         rw [e1] at hval hle;simp only [ne_eq,Int.one_ne_zero,not_false_eq_true,if_true] at hval;rw [h7] at hval;obtain ⟨_,ck',h10,h11⟩:=h6 j e h8;rw [hck] at h10;cases h10;refine ⟨_,main (bo:=true) (v:=ck.val (f j wd)) h9 ⟨h11,rfl⟩,?_⟩;cases ok
         . exact wY hval ((CK.yu hcp).2 rfl)
         . exact ⟨_,rfl,wY hval ((CK.yu hcp).2 rfl),⟨1,hle,rfl⟩,trivial⟩
     . cases h
   . cases h
 . cases h
theorem NS {o:BinOp} {t:TypeId} {oy:Operand} {v u z:AV} {x y:Value} {ps:List PE} (h:Mh P o t oy v u=some (z,ps)) (hx:Rel I g v x) (hy:Rel I g u y) (ox:Operand) (w:World) :
   ∃r,(do eqGuard o t ox oy x y;binOp o t x y:Sem Value).run P w=.ok r w/\Rel I g z r:=by
 unfold Mh at h;split at h
 . rename_i e c ms hu;simp only [Rel] at hy;obtain ⟨n,hn,hx⟩:=hx;subst hy
   have key:(Op.equal t x .nilIface).run P w=.ok (decide (n=0)) w:=by
     have key:∀d,(Op.equalIn (d+1) t x .nilIface).run P w=.ok (decide (n=0)) w:=fun d=>by
       rcases hx with ⟨h0,rfl⟩ | ⟨h0,ty,p,rfl⟩
       . simp only [Op.equalIn,Sem.run_bind,run_underlying hu,Result.andThen,h0];rfl
       . simp only [Op.equalIn,Sem.run_bind,run_underlying hu,Result.andThen,h0];rfl
     exact key 9999
   have hg:∀o,(eqGuard o t ox (.const c) x .nilIface).run P w=.ok () w:=fun o=>by
     rcases hx with ⟨h0,rfl⟩ | ⟨h0,ty,p,rfl⟩ <;> cases o <;> simp [eqGuard]
   split at h
   . simp at h;obtain ⟨rfl,rfl⟩:=h;refine ⟨.bool (decide (n=0)),zi (hg _) ?_,_,qy (o:=.eq) hn (show (E.lit 0).den I g.env=some (.i 0) from rfl),?_⟩
     . rcases hx with ⟨h0,rfl⟩ | ⟨h0,ty,p,rfl⟩
       . show (do pure (.bool (<-Op.equal t .nilIface .nilIface)):Sem Value).run P w=_;simp [key,Result.andThen]
       . show (do pure (.bool (<-Op.equal t (.iface ty p) .nilIface)):Sem Value).run P w=_;simp [key,Result.andThen]
     . by_cases h0:n=0 <;> simp [BO.ev,h0]
   . simp at h;obtain ⟨rfl,rfl⟩:=h;refine ⟨.bool (!decide (n=0)),zi (hg _) ?_,_,qy (o:=.ne) hn (show (E.lit 0).den I g.env=some (.i 0) from rfl),?_⟩
     . rcases hx with ⟨h0,rfl⟩ | ⟨h0,ty,p,rfl⟩
       . show (do pure (.bool (!(<-Op.equal t .nilIface .nilIface))):Sem Value).run P w=_;simp [key,Result.andThen]
       . show (do pure (.bool (!(<-Op.equal t (.iface ty p) .nilIface))):Sem Value).run P w=_;simp [key,Result.andThen]
     . by_cases h0:n=0 <;> simp [BO.ev,h0]
   . cases h
 . rename_i c ms hu;simp only [Rel] at hx hy;subst hx;subst hy
   have key:(Op.equal t .nilIface .nilIface).run P w=.ok true w:=by
     have key:∀d,(Op.equalIn (d+1) t .nilIface .nilIface).run P w=.ok true w:=fun d=>by
       simp only [Op.equalIn,Sem.run_bind,run_underlying hu,Result.andThen];rfl
     exact key 9999
   have hg:∀o,(eqGuard o t ox (.const c) .nilIface .nilIface).run P w=.ok () w:=fun o=>by
     cases o <;> simp [eqGuard]
   split at h
   . simp at h;obtain ⟨rfl,rfl⟩:=h;exact ⟨.bool true,zi (hg _) (by show (do pure (.bool (<-Op.equal t .nilIface .nilIface)):Sem Value).run P w=_;simp [key,Result.andThen]),1,rfl,rfl⟩
   . simp at h;obtain ⟨rfl,rfl⟩:=h;exact ⟨.bool false,zi (hg _) (by show (do pure (.bool (!(<-Op.equal t .nilIface .nilIface))):Sem Value).run P w=_;simp [key,Result.andThen]),0,rfl,rfl⟩
   . cases h
 . cases h
theorem Y1 {o:Oper} {v:AV} {ps:List PE} (hm:qX A I P g M w) (ht:wG I g X ts a.tmps) (hx:∀t,.tmp t∈o.op.operands.toList->¬X t)
   (h:vQ P ts M o.op=some (v,ps)) (hp:∀q∈ps,q.den I g.env):∃x,(execOp a.eval o).run P w=.ok (.value x) w/\Rel I g v x:=by
 have ev:∀{y:Operand} {u:AV},y∈o.op.operands.toList->evalOp ts y=some u->Rel I g u (a.eval y):=fun hy hu=>zl ht hu fun t e=>hx t (e ▸ hy);cases hop:o.op with
 | binOp bo t x y yt=>
   rw [hop] at h ev;simp only [vQ] at h;split at h
   . rename_i u u' he he';split at h
     . rename_i r0 hr0;cases h;obtain ⟨r,h1,h2⟩:=Dj (P:=P) (t:=t) hr0 hp (ev (by simp [Op.operands]) he) (ev (by simp [Op.operands]) he') x y w;exact ⟨r,by simp only [execOp,hop];rw [Sem.run_bind,h1];rfl,h2⟩
     . split at h
       . rename_i r0 hr0;cases h;obtain ⟨r,h1,h2⟩:=FX hr0 (ev (by simp [Op.operands]) he) (ev (by simp [Op.operands]) he') x y w;exact ⟨r,by simp only [execOp,hop];rw [Sem.run_bind,h1];rfl,h2⟩
       . obtain ⟨r,h1,h2⟩:=NS h (ev (by simp [Op.operands]) he) (ev (by simp [Op.operands]) he') x w;exact ⟨r,by simp only [execOp,hop];rw [Sem.run_bind,h1];rfl,h2⟩
   . cases h
 | convert src dst x=>
   rw [hop] at h ev;simp only [vQ] at h;split at h
   . rename_i u el he hd hs;split at h
     . rename_i hel;obtain ⟨r,h1,h2⟩:=X0 hs hel hd hm h hp (ev (by simp [Op.operands]) he);exact ⟨r,by simp only [execOp,hop];rw [Sem.run_bind,h1];rfl,h2⟩
     . cases h
   . cases h
 | lookup t x i ok=>
   rw [hop] at h ev;simp only [vQ] at h;split at h
   . rename_i u k kt et he hi hu
     have old:∀{v:AV} {ps:List PE},bL P M kt et u k ok=some (v,ps)->∃x',(execOp a.eval o).run P w=.ok (.value x') w/\Rel I g v x':=fun h=>by
       obtain ⟨r,h1,h2⟩:=DN hm hu h (ev (by simp [Op.operands]) he) (ev (by simp [Op.operands]) hi);exact ⟨r,by simp only [execOp,hop];rw [Sem.run_bind,h1];rfl,h2⟩
     split at h
     . rename_i b;split at h
       . rename_i wd one ks tE n hb;obtain ⟨r,h1,h2⟩:=Gz hm hu hb h (ev (by simp [Op.operands]) he) (ev (by simp [Op.operands]) hi);exact ⟨r,by simp only [execOp,hop];rw [Sem.run_bind,h1];rfl,h2⟩
       . exact old h
     . exact old h
   . cases h
 | index t x i=>
   rw [hop] at h ev;simp only [vQ] at h;split at h
   . rename_i tE n k e he hi hu;simp at h;obtain ⟨rfl,rfl⟩:=h;obtain ⟨f,m,s,h1,h2,h3,h4,h5⟩:=ev (by simp [Op.operands]) he;obtain ⟨j,h6,h7⟩:=ev (by simp [Op.operands]) hi;obtain ⟨hj0,hjn⟩:=zH h6 h2 hp;have hlt:j.toNat<s.data.toList.length:=by omega
     have hb:=h5 j.toNat _ (List.getElem?_eq_getElem hlt);refine ⟨.int .u8 ((s.data.toList[j.toNat]).toNat:Int),?_,_,jU h1 h6,?_⟩
     . have hb':s[j.toNat]?=some (s.data.toList[j.toNat]):=by
         have hlt':j.toNat<s.size:=by rw [Array.length_toList] at hlt;exact hlt
         rw [getElem?_pos s j.toNat hlt']
         congr 1
       simp only [execOp,hop,h3,h7,Instr.index,asIntOf,Sem.run_bind,Sem.run_pure,run_underlying hu,Result.andThen,if_pos hj0,hb']
     . rw [<-hb];congr 2;omega
   . cases h
 | slice t x lo hi mx=>
   rw [hop] at h ev;cases mx with
   | some m=>simp [vQ] at h
   | none=>
   simp only [vQ] at h;split at h
   . rename_i u el ea eh he hu hlo hhi;split at h
     . rename_i b l len s nl;split at h
       . rename_i hs;obtain ⟨ca,k1,_,k2⟩:=lY ht hlo fun t' e=>hx t' (by rw [hop];simp [Op.operands,e]);obtain ⟨ch,k3,_,k4⟩:=lY ht hhi fun t' e=>hx t' (by rw [hop];simp [Op.operands,e]);obtain ⟨z,h1,h2⟩:=YF (w:=w) hu hs (ev (by simp [Op.operands]) he) k1 k3 k2 k4 h hp;exact ⟨z,by simp only [execOp,hop,Option.map_none,Sem.run_bind,h1,Result.andThen];rfl,h2⟩
       . cases h
     . cases h
   . cases h
 | call c=>
   rw [hop] at h ev;obtain ⟨callee,args,argTypes⟩:=c;cases callee with
   | builtin b=>
     cases b with
     | len=>
       simp only [vQ] at h;split at h
       . rename_i y t ha hat;have ha':=kW ha;have hat':=kW hat;subst ha';subst hat';split at h
         . rename_i tE n he hu;simp at h;obtain ⟨rfl,rfl⟩:=h;obtain ⟨f,m,s,h1,h2,h3,h4,h5⟩:=ev (by simp [Op.operands,Call.operands]) he;refine ⟨.int .i64 s.size,by simp [execOp,hop,resolve,invoke,builtin,Builtin.len_,run_underlying hu,Result.andThen,h3,goInt],_,h2,?_⟩;rw [h4,Array.length_toList];rfl
         . rename_i el he hu;simp at h;obtain ⟨rfl,rfl⟩:=h;obtain ⟨ad,h1⟩:=ev (by simp [Op.operands,Call.operands]) he;cases ad <;> exact ⟨.int .i64 0,by simp [execOp,hop,resolve,invoke,builtin,Builtin.len_,run_underlying hu,Result.andThen,h1,goInt],0,rfl,rfl⟩
         . cases h
       . cases h
     | _=>simp [vQ] at h
   | _=>simp [vQ] at h
 | _=>rw [hop] at h;simp [vQ] at h
theorem extract_toList (s:ByteArray) (l h:Nat):(s.extract l h).data.toList=(s.data.toList.drop l).take (h - l):=by
 rw [ByteArray.data_extract,Array.toList_extract,List.extract_eq_take_drop]
theorem QX (s:ByteArray):s.size=s.data.toList.length:=by rw [Array.length_toList];rfl
theorem codeOf {o:Operand} {c:E} (ht:wG I g X ts a.tmps) (h:(evalOp ts o).bind AV.code=some c) (hx:∀t,o=.tmp t->¬X t):∃(n:Int) (s:ByteArray),c.den I g.env=some (.i n)/\a.eval o=.string s/\s.data.toList=zX n:=by
 cases he:evalOp ts o with
 | none=>simp [he] at h
 | some v=>
   simp only [he,Option.bind_some] at h;obtain ⟨n,h1,h2⟩:=xL h (zl ht he hx);exact ⟨n,_,h1,h2,by simp⟩
theorem YH {t:TypeId} (hu:P.underlying t=some .string) {v z:AV} {y:Value} {lo hi:Option Value} {ea eh:Option E} {ca ch:Option Int} {ps:List PE}
   (hr:Rel I g v y) (ha:jM lo ca) (hh:jM hi ch)
   (hea:∀(d:E) (m:Int),d.den I g.env=some (.i m)->(ea.getD d).den I g.env=some (.i (ca.getD m))) (heh:∀(d:E) (m:Int),d.den I g.env=some (.i m)->(eh.getD d).den I g.env=some (.i (ch.getD m)))
   (h:iP v ea eh=some (z,ps)) (hp:∀q∈ps,q.den I g.env) :
   ∃r,(Instr.sliceAt t y lo hi none).run P w=.ok r w/\Rel I g z r:=by
 unfold iP at h;split at h
 . rename_i c hc;simp only [Option.some.injEq,Prod.mk.injEq] at h;obtain ⟨rfl,rfl⟩:=h;obtain ⟨n,hn,rfl⟩:=xL hc hr;have hl:=vJ hn;have hA:=hea (.lit 0) 0 rfl;have hH:=heh (dR c) (uF n) hl;have h1:=zn (show (E.lit 0).den I g.env=some (.i 0) from rfl) hA (hp _ (by simp));have h2:=zn hA hH (hp _ (by simp));have h3:=zn hH hl (hp _ (by simp));have hsz:(⟨(zX n).toArray⟩:ByteArray).size=(zX n).length:=by rw [QX]
   have hb:=uH (P:=P) (w:=w) (b:=false) (len:=(zX n).length) (cap:=(zX n).length) (m:=none) ha hh (show jM none none from rfl) (by simp) h1 h2 (by simpa [uF] using h3) (by simp);refine ⟨.string ((⟨(zX n).toArray⟩:ByteArray).extract (ca.getD 0).toNat (ch.getD (uF n)).toNat),?_,eD (n:=qqR n (ca.getD 0) (ch.getD (uF n))) (fq hn hA hH rfl) ?_⟩
   . unfold wh;simp only [Instr.sliceAt,Instr.slice,Sem.run_bind,run_underlying hu,Result.andThen,Option.isSome_none,Bool.false_eq_true,if_false,hsz,hb,Sem.run_pure];rfl
   . exact fU (by rw [extract_toList])
 . cases h
theorem YO {o:Oper} {v:AV} {ps:List PE} (ht:wG I g X ts a.tmps) (hx:∀t,.tmp t∈o.op.operands.toList->¬X t)
   (h:bM P ts o.op=some (v,ps)) (hp:∀q∈ps,q.den I g.env):∃x,(execOp a.eval o).run P w=.ok (.value x) w/\Rel I g v x:=by
 have ev:∀{y:Operand} {u:AV},y∈o.op.operands.toList->evalOp ts y=some u->Rel I g u (a.eval y):=fun hy hu=>zl ht hu fun t e=>hx t (e ▸ hy)
 have cd:∀{y:Operand} {c:E},y∈o.op.operands.toList->(evalOp ts y).bind AV.code=some c->∃(n:Int) (s:ByteArray),c.den I g.env=some (.i n)/\a.eval y=.string s/\s.data.toList=zX n:=
   fun hy hu=>codeOf ht hu fun t e=>hx t (e ▸ hy)
 cases hop:o.op with
 | binOp bo t x y yt=>
   rw [hop] at h cd;simp only [bM] at h;split at h
   . rename_i ca cb he he';obtain ⟨n1,s1,e1,x1,l1⟩:=cd (by simp [Op.operands]) he;obtain ⟨n2,s2,e2,x2,l2⟩:=cd (by simp [Op.operands]) he'
     have key:∀{r:Value},(do eqGuard bo t x y (a.eval x) (a.eval y);binOp bo t (a.eval x) (a.eval y):Sem Value).run P w=.ok r w->(execOp a.eval o).run P w=.ok (.value r) w:=fun hr=>by
       simp only [execOp,hop];rw [Sem.run_bind,hr];rfl
     rw [x1,x2] at key;split at h
     . simp only [Option.some.injEq,Prod.mk.injEq] at h;obtain ⟨rfl,rfl⟩:=h;refine ⟨_,key (zi yZ rP),_,qy (o:=.eq) e1 e2,?_⟩;rw [l1,l2];by_cases hn:n1=n2
       . simp [BO.ev,hn]
       . have:¬zX n1=zX n2:=fun hh=>hn (fO hh);simp [BO.ev,hn,this]
     . simp only [Option.some.injEq,Prod.mk.injEq] at h;obtain ⟨rfl,rfl⟩:=h;refine ⟨_,key (zi yZ rM),_,qy (o:=.ne) e1 e2,?_⟩;rw [l1,l2];by_cases hn:n1=n2
       . simp [BO.ev,hn]
       . have:¬zX n1=zX n2:=fun hh=>hn (fO hh);simp [BO.ev,hn,this]
     . simp only [Option.some.injEq,Prod.mk.injEq] at h;obtain ⟨rfl,rfl⟩:=h;have hle:=zn (zk (vJ e1) (vJ e2)) (show (E.lit 1000000).den I g.env=some (.i 1000000) from rfl) (hp _ (by simp));simp only [uF] at hle;refine ⟨_,key (zi yZ (rR (by rw [l1,l2];omega))),eD (n:=qqT n1 n2) (fq e1 e2 (show (E.lit 0).den I g.env=some (.i 0) from rfl) rfl) ?_⟩;exact fU (by rw [pK,l1,l2])
     . cases h
   . cases h
 | index t x i=>
   rw [hop] at h ev cd;simp only [bM] at h;split at h
   . rename_i c k e he hi hu;simp only [Option.some.injEq,Prod.mk.injEq] at h;obtain ⟨rfl,rfl⟩:=h;obtain ⟨n,s,h1,h3,hl⟩:=cd (by simp [Op.operands]) he;obtain ⟨j,h6,h7⟩:=ev (by simp [Op.operands]) hi;obtain ⟨hj0,hjn⟩:=zH h6 (vJ h1) hp;simp only [uF] at hjn;have hlt:j.toNat<s.data.toList.length:=by rw [hl];omega
     refine ⟨.int .u8 ((s.data.toList[j.toNat]).toNat:Int),?_,_,fq (n:=Ru n j) h1 h6 (show (E.lit 0).den I g.env=some (.i 0) from rfl) rfl,?_⟩
     . have hb':s[j.toNat]?=some (s.data.toList[j.toNat]):=by
         have hlt':j.toNat<s.size:=by rw [Array.length_toList] at hlt;exact hlt
         rw [getElem?_pos s j.toNat hlt']
         congr 1
       simp only [execOp,hop,h3,h7,Instr.index,asIntOf,Sem.run_bind,Sem.run_pure,run_underlying hu,Result.andThen,if_pos hj0,hb']
     . unfold Ru;rw [<-hl,List.getElem?_eq_getElem hlt];rfl
   . cases h
 | slice t x lo hi mx=>
   rw [hop] at h ev;cases mx with
   | some m=>simp [bM] at h
   | none=>
   simp only [bM] at h;split at h
   . rename_i u ea eh he hu hlo hhi;obtain ⟨ca,k1,_,k2⟩:=lY ht hlo fun t' e=>hx t' (by rw [hop];simp [Op.operands,e]);obtain ⟨ch,k3,_,k4⟩:=lY ht hhi fun t' e=>hx t' (by rw [hop];simp [Op.operands,e]);obtain ⟨z,h1,h2⟩:=YH (w:=w) hu (ev (by simp [Op.operands]) he) k1 k3 k2 k4 h hp;exact ⟨z,by simp only [execOp,hop,Option.map_none,Sem.run_bind,h1,Result.andThen];rfl,h2⟩
   . cases h
 | call c=>
   rw [hop] at h cd;obtain ⟨callee,args,argTypes⟩:=c;cases callee with
   | builtin b=>
     cases b with
     | len=>
       simp only [bM] at h;split at h
       . rename_i y t ha hat;have ha':=kW ha;have hat':=kW hat;subst ha';subst hat';split at h
         . rename_i c he hu;simp only [Option.some.injEq,Prod.mk.injEq] at h;obtain ⟨rfl,rfl⟩:=h;obtain ⟨n,s,h1,h3,hl⟩:=cd (by simp [Op.operands,Call.operands]) he;refine ⟨.int .i64 s.size,by simp [execOp,hop,resolve,invoke,builtin,Builtin.len_,run_underlying hu,Result.andThen,h3,goInt],_,vJ h1,?_⟩;unfold uF;rw [<-hl,QX]
         . cases h
       . cases h
     | _=>simp [bM] at h
   | _=>simp [bM] at h
 | _=>rw [hop] at h;simp [bM] at h
theorem PZ {v:AV} {x:Value} {t n:E} (h:v.Bc=some (t,n)) (hv:Rel I g v x):Rel I g (.wE t n) x:=by
 cases v with
 | sat e=>
   simp only [AV.Bc,Option.some.injEq,Prod.mk.injEq] at h;obtain ⟨rfl,rfl⟩:=h;obtain ⟨m,h1,rfl⟩:=hv;refine ⟨OC m,uF m,_,vK (j:=6) h1 (show (E.lit 0).den I g.env=some (.i 0) from rfl) (show (E.lit 0).den I g.env=some (.i 0) from rfl) (show (E.lit 0).den I g.env=some (.i 0) from rfl),vJ h1,rfl,rfl,fun i b hb=>?_⟩;have hb':(zX m)[i]?=some b:=by simpa using hb
   simp [OC,hb']
 | _=>exact mP (by simpa only [AV.Bc] using h) hv
theorem YU {o:Oper} {v:AV} {ps:List PE} (ht:wG I g X ts a.tmps) (hx:∀t,.tmp t∈o.op.operands.toList->¬X t)
   (h:sw ts o.op=some (v,ps)):∃x,(execOp a.eval o).run P w=.ok (.value x) w/\Rel I g v x:=by
 have ev:∀{y:Operand} {u:AV},y∈o.op.operands.toList->evalOp ts y=some u->Rel I g u (a.eval y):=fun hy hu=>zl ht hu fun t e=>hx t (e ▸ hy);cases hop:o.op with
 | binOp bo t x y yt=>
   rw [hop] at h ev
   have key:∀{r:Value},(do eqGuard bo t x y (a.eval x) (a.eval y);binOp bo t (a.eval x) (a.eval y):Sem Value).run P w=.ok r w->(execOp a.eval o).run P w=.ok (.value r) w:=fun hr=>by
     simp only [execOp,hop];rw [Sem.run_bind,hr];rfl
   cases bo with
   | add=>
     simp only [sw] at h;split at h
     . rename_i k ea k' eb he he';split at h
       . rename_i hk;subst hk;simp only [Option.some.injEq,Prod.mk.injEq] at h;obtain ⟨rfl,rfl⟩:=h;obtain ⟨n1,e1,x1⟩:=ev (by simp [Op.operands]) he;obtain ⟨n2,e2,x2⟩:=ev (by simp [Op.operands]) he';rw [x1,x2] at key;exact ⟨_,key (zi jZ F5),_,nU (zk e1 e2),rfl⟩
       . cases h
     . cases h
   | sub=>
     simp only [sw] at h;split at h
     . rename_i k ea k' eb he he';split at h
       . rename_i hk;subst hk;simp only [Option.some.injEq,Prod.mk.injEq] at h;obtain ⟨rfl,rfl⟩:=h;obtain ⟨n1,e1,x1⟩:=ev (by simp [Op.operands]) he;obtain ⟨n2,e2,x2⟩:=ev (by simp [Op.operands]) he';rw [x1,x2] at key;exact ⟨_,key (zi jZ FE),_,nU (xu e1 e2),rfl⟩
       . cases h
     . cases h
   | mul=>
     simp only [sw] at h;split at h
     . rename_i k ea k' eb he he';split at h
       . rename_i hk;subst hk;simp only [Option.some.injEq,Prod.mk.injEq] at h;obtain ⟨rfl,rfl⟩:=h;obtain ⟨n1,e1,x1⟩:=ev (by simp [Op.operands]) he;obtain ⟨n2,e2,x2⟩:=ev (by simp [Op.operands]) he';rw [x1,x2] at key;exact ⟨_,key (zi jZ F4),_,nU (qy (o:=.mul) e1 e2),rfl⟩
       . cases h
     . cases h
   | _=>simp [sw] at h
 | _=>rw [hop] at h;simp [sw] at h
theorem sj {kn:Kn} {o:Oper} {v:AV} {ps:List PE} (hG:GOk kn.globs A) (hm:qX A I P g M w) (ht:wG I g X ts a.tmps) (hx:∀t,.tmp t∈o.op.operands.toList->¬X t)
   (h:quiet P kn ts M o.op=some (v,ps)) (hp:∀q∈ps,q.den I g.env):∃x,(execOp a.eval o).run P w=.ok (.value x) w/\Rel I g v x:=by
 unfold quiet at h;rw [Jc,Jr,Jm] at h;split at h
 . rename_i r hr;cases h;split at hr
   . exact YU ht hx hr
   . cases hr
 split at h
 . rename_i r hr;cases h;exact Y5 hG hm ht hx hr hp
 . split at h
   . rename_i r hr;cases h;exact Y1 hm ht hx hr hp
   . exact YO ht hx h hp
theorem VJ {kn:Kn} {c:Call}:quiet P kn ts M (.defer c)=none:=by
 unfold quiet;rw [Jc,Jr,Jm];cases kn.wrp <;> simp [sw,jy,vQ,bM]
theorem fG {kn:Kn} {o:Oper} {v:AV} {ps:List PE} {c:Call} (hc:o.op=.defer c) (h1:quiet P kn ts M o.op=some (v,ps)):False:=by
 rw [hc,VJ] at h1;cases h1
end Go.Sx
