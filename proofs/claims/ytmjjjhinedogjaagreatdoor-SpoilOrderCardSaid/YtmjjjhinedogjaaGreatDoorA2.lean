/-
  Operations that leave memory alone: what the executor says of them is so. Conditions: none.
-/
import Derived.Test.YtmjjjhinedogjaaGreatDoorA1
import Derived.Laws.IdiomStrings
import Derived.Laws.Strings
noncomputable section
namespace Go.Sx
open Go
variable {A:Amb} {I:Itp} {P:Program} {g:G} {X:Nat→Prop} {ts:qL} {a:Act} {M:Mem} {w:World}
theorem rD {x:Value} {v:AV} (h:ofValue x=some v):Rel I g v x:=by
 cases x with
 | bool b=>simp only [ofValue,Option.some.injEq] at h;subst h;cases b <;> simp [Rel,E.den]
 | int k n=>simp only [ofValue,Option.some.injEq] at h;subst h;simp [Rel,E.den]
 | pointer p=>cases p <;> simp [ofValue] at h;subst h;simp [Rel]
 | slice p n c=>
   cases p with
   | some _=>simp [ofValue] at h
   | none=>
     cases n with
     | succ _=>simp [ofValue] at h
     | zero=>cases c with
       | succ _=>simp [ofValue] at h
       | zero=>simp [ofValue] at h;subst h;simp [Rel]
 | nilFunc=>simp [ofValue] at h;subst h;simp [Rel]
 | map r=>
   cases r with
   | some _=>simp [ofValue] at h
   | none=>simp [ofValue] at h;subst h;simp [Rel]
 | nilIface=>simp [ofValue] at h;subst h;simp [Rel]
 | string s=>simp [ofValue] at h;subst h;simp [Rel]
 | _=>simp [ofValue] at h
theorem xk:∀{xs:List Value} {l:List AV},ofValues xs=some l→qj I g l xs
 | [],l,h=>by simp [ofValues] at h;subst h;trivial
 | x::xs,l,h=>by
   simp only [ofValues] at h
   split at h
   · rename_i v vs h1 h2
     simp at h;subst h
     exact ⟨rD h1,xk h2⟩
   · cases h
theorem zm {o:Operand} {v:AV} (ht:wm I g X ts a.tmps) (h:evalOp ts o=some v) (hx:∀t,o=.tmp t→¬X t):Rel I g v (a.eval o):=by
 cases o with
 | tmp t=>
   simp only [evalOp] at h
   split at h
   · rename_i u hu
     split at h
     · cases h
     · simp at h;subst h
       obtain ⟨x,h1,h2⟩:=ht t u hu (hx t rfl)
       simpa [Act.eval,h1] using h2
   · cases h
 | const x=>exact rD h
 | func f=>simp only [evalOp,Option.some.injEq] at h;subst h;exact ⟨#[],rfl,trivial⟩
 | global v=>simp only [evalOp,Option.some.injEq] at h;subst h;rfl
theorem tO {ts:qL} {o:Operand} {v:AV} (h:evalOp ts o=some v):v≠.any:=by
 intro e
 subst e
 cases o with
 | tmp t=>
   simp only [evalOp] at h
   split at h
   · rename_i u hu
     split at h
     · cases h
     · rename_i hn;simp at h;subst h;exact hn rfl
   · cases h
 | const x=>
   simp only [evalOp] at h
   unfold ofValue at h
   split at h <;> simp at h
 | func f=>simp [evalOp] at h
 | global _=>simp [evalOp] at h
theorem yA (ht:wm I g X ts a.tmps):∀{os:List Operand} {l:List AV},vX ts os=some l→(∀t,.tmp t∈os→¬X t)→qj I g l (os.map a.eval)
 | [],l,h,_=>by simp [vX] at h;subst h;trivial
 | o::os,l,h,hx=>by
   simp only [vX] at h
   split at h
   · rename_i v vs h1 h2
     simp at h;subst h
     exact ⟨zm ht h1 fun t e=>hx t (by simp [e]),yA ht h2 fun t e=>hx t (by simp [e])⟩
   · cases h
theorem wW (ht:wm I g X ts a.tmps):∀{os:List (Nat × Operand)} {l:List (Nat × AV)},jO ts os=some l→(∀t,.tmp t∈os.map (·.2)→¬X t)→
   l.map (·.1)=os.map (·.1)∧qj I g (l.map (·.2)) (os.map fun x=>a.eval x.2)∧∀x∈l,x.2≠.any∧x.2.fT=false
 | [],l,h,_=>by simp [jO] at h;subst h;exact ⟨rfl,trivial,by simp⟩
 | (i,o)::os,l,h,hx=>by
   simp only [jO] at h
   split at h
   · rename_i v vs h1 h2
     split at h
     · cases h
     rename_i hbig
     simp at h;subst h
     obtain ⟨h3,h4,h5⟩:=wW ht h2 fun t e=>hx t (by simp at e ⊢;exact .inr e)
     exact ⟨by simp [h3],⟨zm ht h1 fun t e=>hx t (by simp;exact .inl e.symm),h4⟩,fun x hx=>by
       simp at hx
       rcases hx with rfl | hx
       · exact ⟨tO h1,by simpa using hbig⟩
       · exact h5 x hx⟩
   · cases h
theorem yL {t:TypeId} {ag:Bool} (h:wM P t=some ag) (w:World):(isAgg t).run P w=.ok ag w:=by
 unfold wM at h
 cases hu:P.underlying t with
 | none=>simp [hu] at h
 | some d=>
   rw [hu] at h
   simp only [isAgg,Sem.run_bind,run_underlying hu,Result.andThen]
   cases d <;> simp at h <;> subst h <;> rfl
theorem qB {t:TypeId} {n:Nat} (h:qp P t=some n) (w:World):(sizeOf t).run P w=.ok n w:=by
 unfold qp at h
 cases hi:P.info? t with
 | none=>simp [hi] at h
 | some i=>
   rw [hi] at h
   simp at h
   simp [sizeOf,typeInfo,Sem.run_bind,hi,Result.andThen,h]
theorem vJ {t:TypeId} {i:TypeInfo} (h:P.info? t=some i) (w:World):(typeInfo t).run P w=.ok i w:=by
 simp [typeInfo,Sem.run_bind,h,Result.andThen]
theorem zT {t:TypeId} {z:AV} (h:zQ P t=some z):∃(i:TypeInfo) (x:Value),P.info? t=some i∧i.zero=some x∧(∀w,(zeroValue t).run P w=.ok x w)∧
   ∀(I:Itp) (g:G),Rel I g z x∧qj I g z.cells x.cells.toList:=by
 unfold zQ at h
 cases hi:P.info? t with
 | none=>simp [hi] at h
 | some i=>
   cases hz:i.zero with
   | none=>simp [hi,hz] at h
   | some x=>
     refine ⟨i,x,rfl,hz,fun w=>by simp [zeroValue,vJ hi,Sem.run_bind,Result.andThen,hz],fun I g=>?_⟩
     simp only [hi,hz,Option.bind_some] at h
     cases x with
     | agg cs=>
       simp only at h
       cases ho:ofValues cs.toList with
       | none=>simp [ho] at h
       | some l=>
         simp [ho] at h
         subst h
         exact ⟨⟨cs,rfl,xk ho⟩,by simpa [AV.cells,Value.cells] using xk ho⟩
     | _=>
       simp only at h
       have h1:=rD (I:=I) (g:=g) h
       refine ⟨h1,?_⟩
       first
         | (have h2:z.cells=[z]:=by unfold ofValue at h;split at h <;> simp at h <;> subst h <;> rfl
            rw [h2];exact ⟨h1,trivial⟩)
theorem mq {v:AV} {x:Value} (h:Rel I g v x) (hv:v≠.any) (hb:v.fT=false):qj I g v.cells x.cells.toList:=by
 cases v with
 | any=>exact absurd rfl hv
 | agg l=>
   simp only [Rel] at h
   obtain ⟨cs,rfl,h2⟩:=h
   exact h2
 | slice b lo len s nl=>
   have h0:=h
   simp only [Rel] at h
   obtain ⟨l,n,_,_,_,_,⟨p,cap,_,rfl,_⟩ | ⟨_,_,_,rfl⟩⟩:=h <;> exact ⟨h0,trivial⟩
 | undef=>have h0:=h;simp only [Rel] at h;subst h;exact ⟨h0,trivial⟩
 | bool e=>have h0:=h;simp only [Rel] at h;obtain ⟨n,_,rfl⟩:=h;exact ⟨h0,trivial⟩
 | int k e=>have h0:=h;simp only [Rel] at h;obtain ⟨n,_,rfl⟩:=h;exact ⟨h0,trivial⟩
 | wY=>have h0:=h;simp only [Rel] at h;subst h;exact ⟨h0,trivial⟩
 | ptr b r s k=>have h0:=h;simp only [Rel] at h;obtain ⟨n,p,_,_,_,rfl⟩:=h;exact ⟨h0,trivial⟩
 | qQ=>have h0:=h;simp only [Rel] at h;subst h;exact ⟨h0,trivial⟩
 | func f c=>have h0:=h;simp only [Rel] at h;obtain ⟨cs,rfl,_⟩:=h;exact ⟨h0,trivial⟩
 | yld b=>have h0:=h;simp only [Rel] at h;obtain ⟨p,_,rfl⟩:=h;exact ⟨h0,trivial⟩
 | jW=>have h0:=h;simp only [Rel] at h;subst h;exact ⟨h0,trivial⟩
 | tup l=>have h0:=h;simp only [Rel] at h;obtain ⟨cs,rfl,_⟩:=h;exact ⟨h0,trivial⟩
 | big=>simp [AV.fT] at hb
 | cap0=>have h0:=h;simp only [Rel] at h;obtain ⟨a,rfl⟩:=h;exact ⟨h0,trivial⟩
 | empty=>have h0:=h;simp only [Rel] at h;obtain ⟨a,c,rfl⟩:=h;exact ⟨h0,trivial⟩
 | asl=>have h0:=h;simp only [Rel] at h;obtain ⟨p,cap,_,_,rfl⟩:=h;exact ⟨h0,trivial⟩
 | yV=>have h0:=h;simp only [Rel] at h;obtain ⟨ms,cs,rfl,_⟩:=h;exact ⟨h0,trivial⟩
 | gD=>have h0:=h;simp only [Rel] at h;subst h;exact ⟨h0,trivial⟩
 | str=>have h0:=h;simp only [Rel] at h;obtain ⟨b,rfl,_⟩:=h;exact ⟨h0,trivial⟩
 | wN=>have h0:=h;simp only [Rel] at h;obtain ⟨f,k,s,_,_,rfl,_⟩:=h;exact ⟨h0,trivial⟩
 | mg=>have h0:=h;simp only [Rel] at h;obtain ⟨a,rfl⟩:=h;exact ⟨h0,trivial⟩
 | mref b=>have h0:=h;simp only [Rel] at h;obtain ⟨p,_,rfl⟩:=h;exact ⟨h0,trivial⟩
 | vO=>have h0:=h;simp only [Rel] at h;subst h;exact ⟨h0,trivial⟩
 | yI=>have h0:=h;simp only [Rel] at h;subst h;exact ⟨h0,trivial⟩
 | sat=>have h0:=h;simp only [Rel] at h;obtain ⟨n,_,rfl⟩:=h;exact ⟨h0,trivial⟩
 | lst ks e=>have h0:=h;simp only [Rel] at h;obtain ⟨n,_,h⟩:=h;rcases h with ⟨⟨a,rfl⟩,_⟩ | ⟨o,off,len,cap,cs,rfl,_⟩ <;> exact ⟨h0,trivial⟩
 | ifo=>have h0:=h;simp only [Rel] at h;obtain ⟨n,_,⟨_,rfl⟩ | ⟨_,t,p,rfl⟩⟩:=h <;> exact ⟨h0,trivial⟩
 | vT a=>have h0:=h;simp only [Rel] at h;obtain ⟨o,q,z,y,rfl,_⟩:=h;exact ⟨h0,trivial⟩
 | fco cs e=>have h0:=h;simp only [Rel] at h;obtain ⟨n,_,h⟩:=h;rcases h with ⟨_,rfl⟩ | ⟨_,c,p,o,q,z,_,_,rfl,_⟩ <;> exact ⟨h0,trivial⟩
 | xg ks e i k=>have h0:=h;simp only [Rel] at h;obtain ⟨n,j,_,_,_,o,off,len,cs,rfl,_⟩:=h;exact ⟨h0,trivial⟩
section den
variable {env:List D}
theorem nJ {o:BO} {a b:E} {x y:Int} (ha:a.den I env=some (.i x)) (hb:b.den I env=some (.i y)):(E.bin o a b).den I env=some (.i (o.ev x y)):=by
 simp [E.den,ha,hb]
theorem qy {o:BO} {a b:E} {x y:Int} (ha:a.den I env=some (.i x)) (hb:b.den I env=some (.i y)):(mkBin o a b).den I env=some (.i (o.ev x y)):=by
 unfold mkBin
 split
 · simp [E.den] at ha hb;subst ha;subst hb;rfl
 · exact nJ ha hb
theorem qE {a b:E} {x y:Int} (ha:a.den I env=some (.i x)) (hb:b.den I env=some (.i y)):(mkAdd a b).den I env=some (.i (x+y)):=by
 unfold mkAdd
 split
 · simp [E.den] at ha hb;subst ha;subst hb;rfl
 · simp [E.den] at ha;subst ha;simpa using hb
 · simp [E.den] at hb;subst hb;simpa using ha
 · rename_i a' p q _
   simp only [E.den] at ha
   split at ha
   · rename_i u v h1 h2
     simp [E.den] at h2 hb
     simp [BO.ev] at ha
     subst h2;subst hb;subst ha
     split
     · rename_i h0
       rw [h1];congr 2;omega
     · rw [nJ h1 (show (E.lit (p+q)).den I env=some (.i (p+q)) from rfl)]
       simp only [BO.ev];congr 2;omega
   · cases ha
 · exact nJ ha hb
theorem vR {a b:E} {x:Int} (h:(E.bin .add a b).den I env=some (.i x)):∃u v,a.den I env=some (.i u)∧b.den I env=some (.i v)∧x=u+v:=by
 simp only [E.den] at h
 split at h
 · rename_i u v h1 h2
   simp [BO.ev] at h
   exact ⟨u,v,h1,h2,h.symm⟩
 · cases h
theorem yE {a b:E} {x y:Int} (ha:a.den I env=some (.i x)) (hb:b.den I env=some (.i y)):(mkSub a b).den I env=some (.i (x - y)):=by
 unfold mkSub
 split
 · simp [E.den] at ha hb;subst ha;subst hb;rfl
 · simp [E.den] at hb;subst hb;simpa using ha
 · rename_i a' p q _
   obtain ⟨u,v,h1,h2,rfl⟩:=vR ha
   simp [E.den] at h2 hb
   subst h2;subst hb
   split
   · rw [h1];congr 2;omega
   · rw [nJ h1 (show (E.lit (p - q)).den I env=some (.i (p - q)) from rfl)]
     simp only [BO.ev];congr 2;omega
 · rename_i a' p b' q
   obtain ⟨u,v,h1,h2,rfl⟩:=vR ha
   simp [E.den] at h2
   subst h2
   split
   · rename_i he;subst he
     obtain ⟨u',v',h3,h4,rfl⟩:=vR hb
     simp [E.den] at h4
     subst h4
     rw [h1] at h3;cases h3
     simp only [E.den];congr 2;omega
   · split
     · rename_i he;subst he
       rw [h1] at hb;cases hb
       simp only [E.den];congr 2;omega
     · exact nJ ha hb
 · rename_i a' p _ _ _
   obtain ⟨u,v,h1,h2,rfl⟩:=vR ha
   simp [E.den] at h2
   subst h2
   split
   · rename_i he;subst he
     rw [h1] at hb;cases hb
     simp only [E.den];congr 2;omega
   · exact nJ ha hb
 · split
   · rename_i he;subst he
     rw [ha] at hb;cases hb
     simp [E.den]
   · exact nJ ha hb
theorem nZ {k:IntKind} {a:E} {x:Int} (ha:a.den I env=some (.i x)):(mkWrap k a).den I env=some (.i (k.wrap x)):=by
 unfold mkWrap
 split
 · simp [E.den] at ha;subst ha;rfl
 · simp [E.den,ha]
theorem JF {e:E} {n:Int} (h:isLit e=some n):e=.lit n:=by
 cases e <;> simp [isLit] at h;subst h;rfl
theorem iA {t r:E} {c:Nat} {f:Int→Nat→Int} {x:Int} (ht:t.den I env=some (.t f)) (hr:r.den I env=some (.i x)):(E.sel t r c).den I env=some (.i (f x c)):=by
 simp [E.den,ht,hr]
theorem Zh {t r v:E} {c:Nat} {f:Int→Nat→Int} {x y:Int} (ht:t.den I env=some (.t f)) (hr:r.den I env=some (.i x)) (hv:v.den I env=some (.i y)) :
   (E.upd t r c v).den I env=some (.t (qd f x c y)):=by simp [E.den,ht,hr,hv]
theorem sV {t r v:E} {c:Nat} {f:Int→Nat→Int} (h:(E.upd t r c v).den I env=some (.t f)) :
   ∃f0 x y,t.den I env=some (.t f0)∧r.den I env=some (.i x)∧v.den I env=some (.i y)∧f=qd f0 x c y:=by
 simp only [E.den] at h
 split at h
 · rename_i f0 x y h1 h2 h3;simp at h;exact ⟨f0,x,y,h1,h2,h3,h.symm⟩
 · cases h
theorem jT:∀{t:E} {r:E} {c:Nat} {f:Int→Nat→Int} {x:Int},t.den I env=some (.t f)→r.den I env=some (.i x)→(j5 t r c).den I env=some (.i (f x c)):=by
 intro t
 induction t with
 | zt=>intro r c f x ht hr;simp [E.den] at ht;subst ht;rfl
 | kt row=>intro r c f x ht hr;simp [E.den] at ht;subst ht;rfl
 | bt b=>
   intro r c f x ht hr
   have e:b.tab=f:=by simpa [E.den] using ht
   subst e
   cases r with
   | lit q => obtain rfl:q=x:=by simpa [E.den] using hr
              rfl
   | _=>exact iA ht hr
 | upd t r0 c0 v iht _ _=>
   intro r c f x ht hr
   obtain ⟨f0,x0,y0,h1,h2,h3,rfl⟩:=sV ht
   unfold j5
   split
   · rename_i hc
     rw [iht h1 hr];simp only [qd];rw [if_neg (by intro h;exact hc h.2.symm)]
   · rename_i hc
     simp only [ne_eq,Decidable.not_not] at hc
     subst hc
     split
     · rename_i he;subst he
       rw [h2] at hr;simp at hr;subst hr
       rw [h3];simp [qd]
     · rename_i he
       split
       · rename_i m n
         rw [iht h1 hr]
         simp [E.den] at h2 hr
         subst h2;subst hr
         simp only [qd]
         rw [if_neg (by intro h;exact he (by rw [h.1]))]
       · exact iA ht hr
 | sh t n iht _=>
   intro r c f x ht hr
   simp only [E.den] at ht
   split at ht
   · rename_i f0 y h1 h2
     simp at ht
     subst ht
     unfold j5
     exact iht h1 (qE hr h2)
   · cases ht
 | fn j a b e d _ _ _ _=>
   intro r c f x ht hr
   unfold j5
   split
   · rename_i hj
     subst hj
     have e:MF=f:=by
       have ht':=ht
       simp only [E.den] at ht'
       split at ht'
       · exact D.t.inj (Option.some.inj ht')
       · cases ht'
     subst e
     unfold MF
     split
     · exact qE hr rfl
     · rfl
   · exact iA ht hr
 | _=>intro r c f x ht hr;first | exact iA ht hr | (unfold j5;exact iA ht hr)
theorem Yb {l:List UInt8}:∀{i:Nat} {t:E} {f:Int→Nat→Int},t.den I env=some (.t f)→
   ∃f',(ZW i t l).den I env=some (.t f')∧(∀(j:Nat),j<i→f' j 0=f j 0)∧∀(j:Nat) (b:UInt8),l[j]?=some b→f' ((i+j:Nat):Int) 0=b.toNat:=by
 induction l with
 | nil=>intro i t f ht;exact ⟨f,ht,fun _ _=>rfl,fun j b h=>by simp at h⟩
 | cons b l ih=>
   intro i t f ht
   obtain ⟨f',h1,h2,h3⟩:=ih (i:=i+1) (t:=.upd t (.lit i) 0 (.lit b.toNat)) (f:=qd f i 0 b.toNat) (by simp [E.den,ht])
   refine ⟨f',h1,fun j hj=>?_,fun j c hc=>?_⟩
   · rw [h2 j (by omega)];simp only [qd];rw [if_neg (by omega)]
   · cases j with
     | zero=>
       simp at hc;subst hc
       have:=h2 i (by omega)
       simpa [qd] using this
     | succ j=>
       have:=h3 j c (by simpa using hc)
       rw [←this];congr 1;omega
theorem ZK (l:List UInt8):∃f,(Yd l).den I env=some (.t f)∧∀(i:Nat) (b:UInt8),l[i]?=some b→f i 0=b.toNat:=by
 obtain ⟨f,h1,_,h2⟩:=Yb (I:=I) (env:=env) (l:=l) (i:=0) (t:=.zt) (f:=fun _ _=>0) rfl
 exact ⟨f,h1,fun i b h=>by simpa using h2 i b h⟩
end den
theorem addr_add (b o j:Nat):(⟨b,o,none⟩:Addr).add j=⟨b,o+j,none⟩:=by
 unfold Addr.add;split <;> simp_all
theorem zo {p o:Nat} {c:Array Value} {T:TypeId} {fr:Nat × Nat} (h:w.heap[p]?=some (.cells c T fr)):w.cell? ⟨p,o,none⟩=c[o]?:=by
 simp [World.cell?,h]
theorem kH {t:TypeId} {n o b:Nat} {cs:List Value} (hag:wM P t=some true) (hn:qp P t=some n) (hl:cs.length=n)
   (h:∀j v,cs[j]?=some v→w.cell? ⟨b,o+j,none⟩=some v):(Instr.loadAt t (.pointer (some ⟨b,o,none⟩))).run P w=.ok (.agg cs.toArray) w:=by
 have h1:=run_loadCells_list (P:=P) w ⟨b,o,none⟩ cs (fun j v hv=>by rw [addr_add];exact h j v hv)
 rw [hl] at h1
 simp [Instr.loadAt,Instr.sureAddr,loadVar,yL hag,qB hn,Result.andThen,h1]
theorem jE {t:TypeId} {o b:Nat} {v:Value} (hag:wM P t=some false) (h:w.cell? ⟨b,o,none⟩=some v) :
   (Instr.loadAt t (.pointer (some ⟨b,o,none⟩))).run P w=.ok v w:=by
 simp [Instr.loadAt,Instr.sureAddr,loadVar,yL hag,Result.andThen,h]
theorem j4 {ks:List CK} {t r:E} {f:Int→Nat→Int} {x:Int} (ht:t.den I g.env=some (.t f)) (hr:r.den I g.env=some (.i x)) (X:Nat→Value)
   (hX:∀(j:Nat) (c:CK),ks[j]?=some c→c.rel g (f x j) (X j)) :
   ∀(n k:Nat) {l:List AV},jR ks t r k n=some l→l.length=n∧
     ∃xs:List Value,qj I g l xs∧∀j v,xs[j]?=some v→∃c,ks[k+j]?=some c∧v=X (k+j)
 | 0,k,l,h=>by simp [jR] at h;subst h;exact ⟨rfl,[],trivial,by simp⟩
 | n+1,k,l,h=>by
   simp only [jR] at h
   split at h
   · rename_i c m h1 h2
     simp at h;subst h
     obtain ⟨h3,xs,h4,h5⟩:=j4 ht hr X hX n (k+1) h2
     refine ⟨by simp [h3],X k::xs,⟨?_,h4⟩,fun j v hv=>?_⟩
     · have:=jT (c:=k) ht hr
       exact wh this (hX k c h1)
     · cases j with
       | zero=>simp at hv;exact ⟨c,by simpa using h1,hv.symm⟩
       | succ j=>
         simp at hv
         obtain ⟨c',h6,h7⟩:=h5 j v hv
         exact ⟨c',by rw [←h6];congr 1;omega,by rw [h7];congr 1;omega⟩
   · cases h
theorem yM {k:CK} {n:Int} {x:Option Value} (h:k.at g n x):k.rel g n (x.getD Go.undef)∧x=some (x.getD Go.undef):=by
 obtain ⟨y,rfl,h⟩:=h;exact ⟨h,rfl⟩
theorem zD {r len:E} {x n:Int} (hr:r.den I g.env=some (.i x)) (hn:len.den I g.env=some (.i n)) (h:∀q∈j6 r len,q.den I g.env):0≤x∧x<n:=by
 have h1:=h _ (by simp [j6];exact .inl rfl)
 have h2:=h _ (by simp [j6];exact .inr rfl)
 obtain ⟨a,ha,ha'⟩:=h1
 obtain ⟨b,hb,hb'⟩:=h2
 rw [qy (x:=0) rfl hr] at ha
 rw [qy hr hn] at hb
 simp [BO.ev] at ha hb
 constructor
 · by_cases h0:0≤x
   · exact h0
   · rw [if_neg h0] at ha;omega
 · by_cases h0:x<n
   · exact h0
   · rw [if_neg h0] at hb;omega
theorem kJ {α:Type} {f:Nat→α} {n j:Nat} {v:α} (h:((List.range n).map f)[j]?=some v):j<n∧v=f j:=by
 rcases Nat.lt_or_ge j n with hj | hj
 · simp [hj] at h;exact ⟨hj,h.symm⟩
 · rw [List.getElem?_eq_none (by simpa using hj)] at h;cases h
theorem nW {l:List AV} {i n base q:Nat} {ag:Bool} {v:AV} {t:TypeId} {c:Array Value} {T:TypeId} {fr:Nat × Nat} (h:jl l i n ag=some v) (hh:w.heap[q]?=some (.cells c T fr))
   (hcs:∀i v,l[i]?=some v→∃x,c[base+i]?=some x∧Rel I g v x) (hag:wM P t=some ag) (hn:qp P t=some n) :
   ∃y,(Instr.loadAt t (.pointer (some ⟨q,base+i,none⟩))).run P w=.ok y w∧Rel I g v y:=by
 cases ag with
 | true=>
   simp only [jl,if_true] at h
   split at h
   · rename_i hle
     simp at h
     subst h
     have hex:∀j,j<n→∃y,c[base+(i+j)]?=some y∧Rel I g (l[i+j]?.getD .any) y:=by
       intro j hj
       have hlt:i+j<l.length:=by omega
       obtain ⟨y,h1,h2⟩:=hcs _ _ (List.getElem?_eq_getElem hlt)
       exact ⟨y,h1,by rw [List.getElem?_eq_getElem hlt];exact h2⟩
     have hc:∀j,j<n→c[base+(i+j)]?=some ((c[base+(i+j)]?).getD Go.undef):=fun j hj=>by
       obtain ⟨y,h1,_⟩:=hex j hj
       rw [h1];rfl
     refine ⟨_,kH (cs:=(List.range n).map fun j=>(c[base+(i+j)]?).getD Go.undef) hag hn (by simp) (fun j v hv=>?_),?_⟩
     · rw [zo hh]
       obtain ⟨hj,rfl⟩:=kJ hv
       rw [←hc j hj];congr 1;omega
     · refine ⟨_,rfl,qj.mk (by simp;omega) fun a v y h1 h2=>?_⟩
       have h2':((List.range n).map fun j=>(c[base+(i+j)]?).getD Go.undef)[a]?=some y:=by simpa using h2
       obtain ⟨hj,rfl⟩:=kJ h2'
       obtain ⟨y,h3,h4⟩:=hex a hj
       rw [h3]
       rw [List.getElem?_take_of_lt hj,List.getElem?_drop] at h1
       rw [h1] at h4
       exact h4
   · cases h
 | false=>
   simp only [jl,Bool.false_eq_true,if_false] at h
   obtain ⟨y,h1,h2⟩:=hcs _ _ h
   exact ⟨y,jE hag (by rw [zo hh,←h1]),h2⟩
theorem y5 {np wd n s k:Nat} {r:E} {x:Int} {loc:Loc} (h:XM np wd n r s k=some loc) (hr:r.den I g.env=some (.i x)) (hx:0≤x) :
   match loc with
   | .cell false i=>x.toNat*s+k=i
   | .cell true i=>x.toNat*s+k=np+n*wd+i
   | .row q c=>∃z:Int,q.den I g.env=some (.i z)∧0≤z∧x.toNat*s+k=np+(z.toNat*wd+c):=by
 unfold XM at h
 by_cases hw:wd=0
 · rw [if_pos hw] at h;cases h
 rw [if_neg hw] at h
 cases hl:isLit r with
 | some x0=>
   rw [hl] at h
   have e:=JF hl
   subst e
   have e:x=x0:=by simp [E.den] at hr;exact hr.symm
   subst e
   dsimp only at h
   rw [if_neg (by omega)] at h
   by_cases h1:x.toNat*s+k<np
   · rw [if_pos h1] at h;simp only [Option.some.injEq] at h;subst h;rfl
   rw [if_neg h1] at h
   by_cases h2:x.toNat*s+k<np+n*wd
   · rw [if_pos h2] at h
     simp only [Option.some.injEq] at h;subst h
     refine ⟨_,rfl,Int.natCast_nonneg _,?_⟩
     have hd:=Nat.div_add_mod (x.toNat*s+k - np) wd
     rw [Nat.mul_comm] at hd
     rw [Int.toNat_natCast]
     omega
   · rw [if_neg h2] at h
     simp only [Option.some.injEq] at h;subst h
     show x.toNat*s+k=np+n*wd+(x.toNat*s+k - np - n*wd)
     omega
 | none=>
   rw [hl] at h
   dsimp only at h
   by_cases hc:s=wd∧np≤k
   · rw [if_pos hc] at h
     obtain ⟨rfl,hk⟩:=hc
     simp only [Option.some.injEq] at h;subst h
     refine ⟨_,qE hr (show (E.lit (((k - np) / s:Nat):Int)).den I g.env=some (.i _) from rfl),by have:=Int.natCast_nonneg ((k - np) / s);omega,?_⟩
     have hd:=Nat.div_add_mod (k - np) s
     rw [Nat.mul_comm] at hd
     have e:(x+(((k - np) / s:Nat):Int)).toNat=x.toNat+(k - np) / s:=by rw [Int.toNat_add hx (Int.natCast_nonneg _),Int.toNat_natCast]
     rw [e,Nat.add_mul]
     omega
   · rw [if_neg hc] at h;cases h
theorem ZH {v:AV} {c:CK} {e:E} {y:Value} (hk:kindOf v=some c) (hs:ZM v=some e) (hr:Rel I g v y):∃n,e.den I g.env=some (.i n)∧c.rel g n y:=by
 cases v <;> simp [kindOf] at hk
 case int k e=>
   subst hk
   simp only [ZM,Option.some.injEq] at hs
   subst hs
   exact hr
 case bool e=>
   subst hk
   simp only [ZM,Option.some.injEq] at hs
   subst hs
   exact hr
 case lst ks e=>
   subst hk
   simp only [ZM,Option.some.injEq] at hs
   subst hs
   exact hr
 case fco cs e=>
   subst hk
   simp only [ZM,Option.some.injEq] at hs
   subst hs
   exact hr
 all_goals
   subst hk
   simp only [ZM] at hs
   exact xX hs hr
theorem Pv {v:AV} {c:CK} {x:Int} {y:Value} (hk:kindOf v=some c) (hs:ZM v=some (.lit x)) (hr:Rel I g v y):c.rel g x y:=by
 obtain ⟨n,h,h'⟩:=ZH hk hs hr
 simp only [E.den,Option.some.injEq,D.i.injEq] at h
 subst h;exact h'
theorem WR {l:List AV} {s k:Nat} {c:CK}:∀{n:Nat} {t:E},Nr l s k c n=some t→
   ∃f,t.den I g.env=some (.t f)∧∀j,j<n→∃v,l[j*s+k]?=some v∧kindOf v=some c∧ZM v=some (.lit (f (j:Nat) 0))
 | 0,t,h=>by
   simp only [Nr,Option.some.injEq] at h
   subst h
   exact ⟨fun _ _=>0,rfl,fun j hj=>by omega⟩
 | n+1,t,h=>by
   simp only [Nr] at h
   split at h
   · rename_i t0 v h1 h2
     split at h
     · rename_i c' x h3 h4
       split at h
       · rename_i hc
         subst hc
         simp only [Option.some.injEq] at h
         subst h
         obtain ⟨f,hf,hs⟩:=WR h1
         refine ⟨qd f n 0 x,by simp only [E.den,hf],fun j hj=>?_⟩
         unfold qd
         by_cases hjn:j=n
         · subst hjn
           exact ⟨v,h2,h3,by rw [if_pos ⟨rfl,rfl⟩];exact h4⟩
         · rw [if_neg (fun hh=>hjn (by have:=hh.1;omega))]
           exact hs j (by omega)
       · cases h
     · cases h
   · cases h
theorem Ja {b s k n:Nat} {r:E} {ag:Bool} {v:AV} {ps:List PE} {x:Int} {p:PB} {t:TypeId} (hm:qW A I P g M w) (h:loadAt M b r s k n ag=some (v,ps))
   (hp:∀q∈ps,q.den I g.env) (hr:r.den I g.env=some (.i x)) (hx:0≤x) (hφ:g.φ b=some p) (hag:wM P t=some ag) (hn:qp P t=some n) :
   ∃y,(Instr.loadAt t (.pointer (some ⟨p.blk,p.base+x.toNat*s+k,none⟩))).run P w=.ok y w∧Rel I g v y:=by
 unfold loadAt at h
 split at h
 · rename_i l wr hb
   obtain ⟨p',c,T,fr,hp',hh,hcs,_⟩:=hm.blk _ _ hb
   rw [hφ] at hp';cases hp'
   split at h
   · rename_i x0 hlit
     have e:=JF hlit
     subst e
     simp [E.den] at hr
     subst hr
     split at h
     · cases h
     · cases ag with
       | true=>
         simp only [if_true] at h
         split at h
         · rename_i hle
           simp at h
           obtain ⟨rfl,rfl⟩:=h
           have hex:∀j,j<n→∃y,c[p.base+(x0.toNat*s+k+j)]?=some y∧Rel I g (l[x0.toNat*s+k+j]?.getD .any) y:=by
             intro j hj
             have hlt:x0.toNat*s+k+j<l.length:=by omega
             obtain ⟨y,h1,h2⟩:=hcs _ _ (List.getElem?_eq_getElem hlt)
             exact ⟨y,h1,by rw [List.getElem?_eq_getElem hlt];exact h2⟩
           have hc:∀j,j<n→c[p.base+(x0.toNat*s+k+j)]?=some ((c[p.base+(x0.toNat*s+k+j)]?).getD Go.undef):=fun j hj=>by
             obtain ⟨y,h1,_⟩:=hex j hj
             rw [h1];rfl
           refine ⟨_,kH (cs:=(List.range n).map fun j=>(c[p.base+(x0.toNat*s+k+j)]?).getD Go.undef) hag hn (by simp) (fun j v hv=>?_),?_⟩
           · rw [zo hh]
             obtain ⟨hj,rfl⟩:=kJ hv
             rw [←hc j hj];congr 1;omega
           · refine ⟨_,rfl,qj.mk (by simp;omega) fun i v y h1 h2=>?_⟩
             have h2':((List.range n).map fun j=>(c[p.base+(x0.toNat*s+k+j)]?).getD Go.undef)[i]?=some y:=by simpa using h2
             obtain ⟨hj,rfl⟩:=kJ h2'
             obtain ⟨y,h3,h4⟩:=hex i hj
             rw [h3]
             rw [List.getElem?_take_of_lt hj,List.getElem?_drop] at h1
             rw [h1] at h4
             exact h4
         · cases h
       | false=>
         simp only [Bool.false_eq_true,if_false] at h
         cases hl:l[x0.toNat*s+k]? with
         | none=>simp [hl] at h
         | some u=>
           simp [hl] at h
           obtain ⟨rfl,rfl⟩:=h
           obtain ⟨y,h1,h2⟩:=hcs _ _ hl
           exact ⟨y,jE hag (by rw [zo hh,←h1];congr 1;omega),h2⟩
   · split at h
     · cases h
     · rename_i hcond
       simp only [Bool.or_eq_true,beq_iff_eq,not_or,Bool.not_eq_true] at hcond
       obtain ⟨rfl,hs0⟩:=hcond
       split at h
       · rename_i ck hck
         cases hT:Nr l s k ck (l.length / s) with
         | none=>simp [hT] at h
         | some t0=>
           simp only [hT,Option.map_some,Option.some.injEq,Prod.mk.injEq] at h
           obtain ⟨rfl,rfl⟩:=h
           obtain ⟨f,hf,qqA⟩:=WR (I:=I) (g:=g) hT
           obtain ⟨h0,h1⟩:=zD hr (show (E.lit ((l.length / s:Nat):Int)).den I g.env=some (.i ((l.length / s:Nat):Int)) from rfl) hp
           obtain ⟨u,hu,hk,hsc⟩:=qqA x.toNat (by omega)
           obtain ⟨y,hy,hrel⟩:=hcs _ _ hu
           rw [Int.toNat_of_nonneg hx] at hsc
           have hval:=Pv hk hsc hrel
           exact ⟨_,jE hag (by rw [zo hh,←hy];congr 1;omega),wh (jT hf hr) hval⟩
       · cases h
 · rename_i ks t0 len wr nl hb
   obtain ⟨f,m,hf,hlen,hm0,hrow⟩:=hm.blk _ _ hb
   split at h
   · rename_i hs
     subst hs
     rcases hrow with ⟨p',c,T,fr,hp',hh,hcs,_⟩ | ⟨_,_,hnone⟩
     case inr=>rw [hφ] at hnone;cases hnone
     rw [hφ] at hp';cases hp'
     cases ag with
     | true=>
       simp only [if_true] at h
       cases hl:jR ks t0 r k n with
       | none=>simp [hl] at h
       | some l=>
         simp [hl] at h
         obtain ⟨rfl,rfl⟩:=h
         obtain ⟨JU,hlt⟩:=zD hr hlen hp
         have hX:∀(j:Nat) (ck:CK),ks[j]?=some ck→ck.rel g (f x j) ((c[p.base+x.toNat*ks.length+j]?).getD Go.undef)∧c[p.base+x.toNat*ks.length+j]?=some ((c[p.base+x.toNat*ks.length+j]?).getD Go.undef):=fun j ck hj=>by
           have:=hcs x.toNat j ck (by omega) hj
           rw [Int.toNat_of_nonneg hx] at this
           exact yM this
         obtain ⟨hll,xs,hrel,hxs⟩:=j4 hf hr _ (fun j ck hj=>(hX j ck hj).1) n k hl
         refine ⟨_,kH (cs:=xs) hag hn (by rw [←hrel.length,hll]) (fun j v hv=>?_),⟨_,rfl,by simpa using hrel⟩⟩
         obtain ⟨ck,h1,rfl⟩:=hxs j v hv
         rw [zo hh]
         rw [←(hX (k+j) ck h1).2];congr 1;omega
     | false=>
       simp only [Bool.false_eq_true,if_false] at h
       cases hl:ks[k]? with
       | none=>simp [hl] at h
       | some ck=>
         simp [hl] at h
         obtain ⟨rfl,rfl⟩:=h
         obtain ⟨JU,hlt⟩:=zD hr hlen hp
         obtain ⟨y,hy,hrel⟩:=hcs x.toNat k ck (by omega) hl
         rw [Int.toNat_of_nonneg hx] at hrel
         refine ⟨y,jE hag ?_,?_⟩
         · rw [zo hh]
           exact hy
         · have:=jT (c:=k) hf hr
           exact wh this hrel
   · cases h
 · rename_i pre ks t0 m post wr hb
   obtain ⟨p',c,T,fr,f,hp',hh,hf,hpre,hrow,hpost,_⟩:=hm.blk _ _ hb
   rw [hφ] at hp';cases hp'
   split at h
   · rename_i i hloc
     have hs:=y5 hloc hr hx
     simp only at hs
     cases hc:jl pre i n ag with
     | none=>simp [hc] at h
     | some u=>
       simp [hc] at h
       obtain ⟨rfl,rfl⟩:=h
       have:=nW (base:=p.base) hc hh hpre hag hn
       rwa [show p.base+x.toNat*s+k=p.base+i by omega]
   · rename_i i hloc
     have hs:=y5 hloc hr hx
     simp only at hs
     cases hc:jl post i n ag with
     | none=>simp [hc] at h
     | some u=>
       simp [hc] at h
       obtain ⟨rfl,rfl⟩:=h
       have:=nW (base:=p.base+(pre.length+m*ks.length)) hc hh (fun j v hv=>by
         obtain ⟨y,h1,h2⟩:=hpost j v hv
         exact ⟨y,by rw [←h1];congr 1;omega,h2⟩) hag hn
       rwa [show p.base+x.toNat*s+k=p.base+(pre.length+m*ks.length)+i by omega]
   · rename_i q cc hloc
     obtain ⟨z,hz,hz0,hs⟩:=y5 hloc hr hx
     cases ag with
     | true=>
       simp only [if_true] at h
       split at h
       · rename_i hwt
         simp at h
         obtain ⟨rfl,rfl⟩:=h
         cases q with
         | lit x0=>
           simp only [Bj,Bool.and_eq_true,beq_iff_eq,decide_eq_true_eq] at hwt
           obtain ⟨⟨⟨rfl,rfl⟩,rfl⟩,_⟩:=hwt
           have hz':z=0:=by simp [E.den] at hz;exact hz.symm
           subst hz'
           have hex:∀j,j<m*ks.length→∃ck,ks[j % ks.length]?=some ck∧ck.at g (f ((j / ks.length:Nat):Int) (j % ks.length)) c[p.base+(pre.length+j)]?:=by
             intro j hj
             have hw:0<ks.length:=by
               rcases Nat.eq_zero_or_pos ks.length with h0 | h0
               · rw [h0] at hj;simp at hj
               · exact h0
             have hlt:j % ks.length<ks.length:=Nat.mod_lt _ hw
             have hr':j / ks.length<m:=(Nat.div_lt_iff_lt_mul hw).2 hj
             refine ⟨ks[j % ks.length],List.getElem?_eq_getElem hlt,?_⟩
             have:=hrow (j / ks.length) (j % ks.length) ks[j % ks.length] hr' (List.getElem?_eq_getElem hlt)
             have hdm:=Nat.div_add_mod j ks.length
             rw [Nat.mul_comm] at hdm
             rwa [hdm] at this
           have hc:∀j,j<m*ks.length→c[p.base+(pre.length+j)]?=some ((c[p.base+(pre.length+j)]?).getD Go.undef):=fun j hj=>by
             obtain ⟨ck,_,y,h1,_⟩:=hex j hj
             rw [h1];rfl
           refine ⟨_,kH (cs:=(List.range (m*ks.length)).map fun j=>(c[p.base+(pre.length+j)]?).getD Go.undef) hag hn (by simp) (fun j v hv=>?_),?_⟩
           · rw [zo hh]
             obtain ⟨hj,rfl⟩:=kJ hv
             rw [←hc j hj];congr 1
             simp at hs
             omega
           · refine ⟨f,[],(List.range (m*ks.length)).map fun j=>(c[p.base+(pre.length+j)]?).getD Go.undef,[],hf,by simp,trivial,trivial,by simp,fun r j k0 hr0 hk0=>?_⟩
             have hjl:j<ks.length:=(List.getElem?_eq_some_iff.1 hk0).1
             have hlt:r*ks.length+j<m*ks.length:=by
               calc r*ks.length+j<r*ks.length+ks.length:=by omega
                 _=(r+1)*ks.length:=by rw [Nat.add_mul,Nat.one_mul]
                 _≤m*ks.length:=Nat.mul_le_mul_right _ hr0
             have h1:=hrow r j k0 hr0 hk0
             rw [List.getElem?_map,List.getElem?_range hlt]
             exact ⟨_,rfl,(yM h1).1⟩
         | _=>simp [Bj] at hwt
       · cases hl:jR ks t0 q cc n with
         | none=>simp [hl] at h
         | some l=>
           simp [hl] at h
           obtain ⟨rfl,rfl⟩:=h
           obtain ⟨JU,hlt⟩:=zD hz (show (E.lit m).den I g.env=some (.i m) from rfl) hp
           have hX:∀(j:Nat) (ck:CK),ks[j]?=some ck→ck.rel g (f z j) ((c[p.base+(pre.length+(z.toNat*ks.length+j))]?).getD Go.undef)∧c[p.base+(pre.length+(z.toNat*ks.length+j))]?=some ((c[p.base+(pre.length+(z.toNat*ks.length+j))]?).getD Go.undef):=fun j ck hj=>by
             have:=hrow z.toNat j ck (by omega) hj
             rw [Int.toNat_of_nonneg hz0] at this
             exact yM this
           obtain ⟨hll,xs,hrel,hxs⟩:=j4 hf hz _ (fun j ck hj=>(hX j ck hj).1) n cc hl
           refine ⟨_,kH (cs:=xs) hag hn (by rw [←hrel.length,hll]) (fun j v hv=>?_),⟨_,rfl,by simpa using hrel⟩⟩
           obtain ⟨ck,h1,rfl⟩:=hxs j v hv
           rw [zo hh]
           rw [←(hX (cc+j) ck h1).2];congr 1;omega
     | false=>
       simp only [Bool.false_eq_true,if_false] at h
       cases hl:ks[cc]? with
       | none=>simp [hl] at h
       | some ck=>
         simp [hl] at h
         obtain ⟨rfl,rfl⟩:=h
         obtain ⟨JU,hlt⟩:=zD hz (show (E.lit m).den I g.env=some (.i m) from rfl) hp
         obtain ⟨y,hy,hrel⟩:=hrow z.toNat cc ck (by omega) hl
         rw [Int.toNat_of_nonneg hz0] at hrel
         refine ⟨y,jE hag ?_,?_⟩
         · rw [zo hh]
           rw [←hy];congr 1;omega
         · have:=jT (c:=cc) hf hz
           exact wh this hrel
   · cases h
 · rename_i ks t0 len hE l wr nl hb
   obtain ⟨f,m,m',hf,hlen,hhE,hm0,hrow⟩:=hm.blk _ _ hb
   split at h
   · rename_i hc
     obtain ⟨rfl,hll,hkl⟩:=hc
     rcases hrow with ⟨p',c,T,fr,hp',hh,hcs,hch,_⟩ | ⟨_,_,hnone⟩
     case inr=>rw [hφ] at hnone;cases hnone
     rw [hφ] at hp';cases hp'
     split at h
     · rename_i hrh
       subst hrh
       rw [hr] at hhE;cases hhE
       cases hc:jl l k n ag with
       | none=>simp [hc] at h
       | some u=>
         simp [hc] at h
         obtain ⟨rfl,rfl⟩:=h
         obtain ⟨JU,hlt⟩:=zD hr hlen hp
         exact nW hc hh (hch JU hlt) hag hn
     · have hne:∀ps',ps=.tt (mkBin .ne r hE)::ps'→x≠m':=fun ps' e he=>by
         obtain ⟨z,hz,hz0⟩:=hp _ (by rw [e];exact List.mem_cons_self ..)
         rw [qy hr hhE] at hz
         cases hz
         simp [BO.ev,he] at hz0
       cases ag with
       | true=>
         simp only [if_true] at h
         cases hl:jR ks t0 r k n with
         | none=>simp [hl] at h
         | some l=>
           simp only [hl,Option.map_some,Option.some.injEq,Prod.mk.injEq] at h
           obtain ⟨rfl,rfl⟩:=h
           have hxm:=hne _ rfl
           obtain ⟨JU,hlt⟩:=zD hr hlen fun q hq=>hp q (List.mem_cons_of_mem _ hq)
           have hX:∀(j:Nat) (ck:CK),ks[j]?=some ck→ck.rel g (f x j) ((c[p.base+x.toNat*ks.length+j]?).getD Go.undef)∧c[p.base+x.toNat*ks.length+j]?=some ((c[p.base+x.toNat*ks.length+j]?).getD Go.undef):=fun j ck hj=>by
             have:=hcs x.toNat j ck (by omega) (fun _=>by rw [Int.toNat_of_nonneg hx];exact hxm) hj
             rw [Int.toNat_of_nonneg hx] at this
             exact yM this
           obtain ⟨hll,xs,hrel,hxs⟩:=j4 hf hr _ (fun j ck hj=>(hX j ck hj).1) n k hl
           refine ⟨_,kH (cs:=xs) hag hn (by rw [←hrel.length,hll]) (fun j v hv=>?_),⟨_,rfl,by simpa using hrel⟩⟩
           obtain ⟨ck,h1,rfl⟩:=hxs j v hv
           rw [zo hh]
           rw [←(hX (k+j) ck h1).2];congr 1;omega
       | false=>
         simp only [Bool.false_eq_true,if_false] at h
         cases hl:ks[k]? with
         | none=>simp [hl] at h
         | some ck=>
           simp only [hl,Option.map_some,Option.some.injEq,Prod.mk.injEq] at h
           obtain ⟨rfl,rfl⟩:=h
           have hxm:=hne _ rfl
           obtain ⟨JU,hlt⟩:=zD hr hlen fun q hq=>hp q (List.mem_cons_of_mem _ hq)
           obtain ⟨y,hy,hrel⟩:=hcs x.toNat k ck (by omega) (fun _=>by rw [Int.toNat_of_nonneg hx];exact hxm) hl
           rw [Int.toNat_of_nonneg hx] at hrel
           refine ⟨y,jE hag ?_,?_⟩
           · rw [zo hh]
             exact hy
           · have:=jT (c:=k) hf hr
             exact wh this hrel
   · cases h
 · cases h
theorem run_equal_bool {t:TypeId} (h:P.underlying t=some .bool) (x y:Bool) (w:World):(Op.equal t (.bool x) (.bool y)).run P w=.ok (x == y) w:=by
 have key:∀d,(Op.equalIn (d+1) t (.bool x) (.bool y)).run P w=.ok (x == y) w:=fun d=>by
   simp only [Op.equalIn,Sem.run_bind,run_underlying h,Result.andThen];rfl
 exact key 9999
theorem iQ {t e:TypeId} (h:P.underlying t=some (.pointer e)) (p:Addr) (w:World):(Op.equal t (.pointer (some p)) (.pointer none)).run P w=.ok false w:=by
 have key:∀d,(Op.equalIn (d+1) t (.pointer (some p)) (.pointer none)).run P w=.ok false w:=fun d=>by
   simp only [Op.equalIn,Sem.run_bind,run_underlying h,Result.andThen];rfl
 exact key 9999
theorem bE {t e:TypeId} (h:P.underlying t=some (.pointer e)) (p:Option Addr) (w:World):(Op.equal t (.pointer none) (.pointer p)).run P w=.ok p.isNone w:=by
 have key:∀d,(Op.equalIn (d+1) t (.pointer none) (.pointer p)).run P w=.ok p.isNone w:=fun d=>by
   simp only [Op.equalIn,Sem.run_bind,run_underlying h,Result.andThen];rfl
 exact key 9999
theorem run_equal_slice_nil {t e:TypeId} (h:P.underlying t=some (.slice e)) (p:Addr) (n c:Nat) (w:World):(Op.equal t (.slice (some p) n c) (.slice none 0 0)).run P w=.ok false w:=by
 have key:∀d,(Op.equalIn (d+1) t (.slice (some p) n c) (.slice none 0 0)).run P w=.ok false w:=fun d=>by
   simp only [Op.equalIn,Sem.run_bind,run_underlying h,Result.andThen];rfl
 exact key 9999
theorem gJ {t e:TypeId} (h:P.underlying t=some (.slice e)) (w:World):(Op.equal t (.slice none 0 0) (.slice none 0 0)).run P w=.ok true w:=by
 have key:∀d,(Op.equalIn (d+1) t (.slice none 0 0) (.slice none 0 0)).run P w=.ok true w:=fun d=>by
   simp only [Op.equalIn,Sem.run_bind,run_underlying h,Result.andThen];rfl
 exact key 9999
theorem yR {t:TypeId} {ps rs:Array TypeId} {vr:Bool} (h:P.underlying t=some (.func ps rs vr)) (fn:Fn) (f c:Array Value) (w:World) :
   (Op.equal t (.func fn f c) .nilFunc).run P w=.ok false w:=by
 have key:∀d,(Op.equalIn (d+1) t (.func fn f c) .nilFunc).run P w=.ok false w:=fun d=>by
   simp only [Op.equalIn,Sem.run_bind,run_underlying h,Result.andThen];rfl
 exact key 9999
theorem run_equal_nil_nil {t:TypeId} {ps rs:Array TypeId} {vr:Bool} (h:P.underlying t=some (.func ps rs vr)) (w:World) :
   (Op.equal t .nilFunc .nilFunc).run P w=.ok true w:=by
 have key:∀d,(Op.equalIn (d+1) t .nilFunc .nilFunc).run P w=.ok true w:=fun d=>by
   simp only [Op.equalIn,Sem.run_bind,run_underlying h,Result.andThen];rfl
 exact key 9999
theorem Vk {t:TypeId} {d:TypeDesc} (h:P.underlying t=some d) (hd:uX (some d)=true∨ny (some d)=true) {cs:Array Value} {o:Nat} {v:Value} (hv:cs[o]?=some v) (w:World) :
   (part t cs o).run P w=.ok v w:=by
 have hag:wM P t=some false:=by
   unfold wM;rw [h]
   cases d <;> simp [uX,ny] at hd <;> rfl
 simp [part,yL hag,Result.andThen,hv]
abbrev yJ (d:Nat) (xs ys:Array Value):Field→Option Bool × Unit→Sem (ForInStep (Option Bool × Unit)):=fun f _=>
 if f.name = "_" then pure (ForInStep.yield (none,()))
 else do
   let a ←part f.type xs f.offset
   let b ←part f.type ys f.offset
   let r ←Op.equalIn d f.type a b
   if r=false then pure (ForInStep.done (some false,())) else pure (ForInStep.yield (none,()))
theorem Mx (x y:Int):BO.and.ev x y=0∨BO.and.ev x y=1:=by simp only [BO.ev];split <;> simp
theorem Gp (d:Nat) (xs ys:Array Value) (w:World):∀(fs:List Field) (o:Nat) (l m:List AV) (e:E),dV P o fs l m=some e→
   qj I g l (xs.toList.drop o)→qj I g m (ys.toList.drop o)→
   ∃n:Int,e.den I g.env=some (.i n)∧(n=0∨n=1)∧(forIn fs (none,()) (yJ (d+1) xs ys)).run P w=.ok (if n=0 then some false else none,()) w:=by
 intro fs
 induction fs with
 | nil=>
   intro o l m e he _ _
   cases l <;> cases m <;> simp [dV] at he
   subst he
   exact ⟨1,rfl,.inr rfl,rfl⟩
 | cons f fs ih=>
   intro o l m e he hl hm
   have step:∀(x y:Value) (r:Bool) (e0:E),xs[o]?=some x→ys[o]?=some y→(f.name == "_")=false→f.offset=o→(uX (P.underlying f.type)=true∨ny (P.underlying f.type)=true)→
       (Op.equalIn (d+1) f.type x y).run P w=.ok r w→
       (forIn (f::fs) (none,()) (yJ (d+1) xs ys)).run P w=if r=false then .ok (some false,()) w else (forIn fs (none,()) (yJ (d+1) xs ys)).run P w:=by
     intro x y r e0 hx hy hname hoff hty hr
     obtain ⟨dd,hdd⟩:∃dd,P.underlying f.type=some dd:=by
       cases h:P.underlying f.type with
       | none=>rw [h] at hty;simp [uX,ny] at hty
       | some dd=>exact ⟨dd,rfl⟩
     have hname':¬f.name = "_":=by simpa using hname
     rw [hdd] at hty
     simp only [List.forIn_cons,yJ,if_neg hname',Sem.run_bind,hoff,Vk hdd hty hx,Vk hdd hty hy,Result.andThen,hr]
     cases r <;> rfl
   have hx0:∀{v:AV} {l':List AV} {zs:Array Value},qj I g (v::l') (zs.toList.drop o)→∃z,zs[o]?=some z∧Rel I g v z∧qj I g l' (zs.toList.drop (o+1)):=by
     intro v l' zs h
     cases hz:zs.toList.drop o with
     | nil=>rw [hz] at h;simp [qj] at h
     | cons z rest=>
       rw [hz] at h
       have h1:zs.toList[o]?=some z:=by
         have:=congrArg (fun q=>q[0]?) hz
         simpa [List.getElem?_drop] using this
       refine ⟨z,by simpa using h1,h.1,?_⟩
       have h2:zs.toList.drop (o+1)=rest:=by
         rw [←List.drop_drop,hz];rfl
       rw [h2];exact h.2
   unfold dV at he
   split at he
   · exact absurd ‹f::fs=[]› (by simp)
   · rename_i o' f' fs' k a l' k' b m' heq
     cases heq
     split at he
     · rename_i hc
       obtain ⟨rfl,hname,hoff,hty⟩:=hc
       subst hoff
       cases hrest:dV P (f.offset+1) fs l' m' with
       | none=>rw [hrest] at he;simp at he
       | some e1=>
         rw [hrest] at he
         simp at he
         subst he
         obtain ⟨x,hx,hrx,hlx⟩:=hx0 hl
         obtain ⟨y,hy,hry,hly⟩:=hx0 hm
         obtain ⟨n1,hn1,h01,hrun⟩:=ih _ l' m' e1 hrest hlx hly
         obtain ⟨na,hna,rfl⟩:=hrx
         obtain ⟨nb,hnb,rfl⟩:=hry
         have hti:∃q,P.underlying f.type=some (.int q):=by
           cases h:P.underlying f.type with
           | none=>rw [h] at hty;simp [uX] at hty
           | some dd=>rw [h] at hty;cases dd <;> simp [uX] at hty;exact ⟨_,rfl⟩
         obtain ⟨q,hq⟩:=hti
         have hr:(Op.equalIn (d+1) f.type (.int k na) (.int k nb)).run P w=.ok (na == nb) w:=by
           simp only [Op.equalIn,Sem.run_bind,run_underlying hq,Result.andThen];simp
         refine ⟨_,qy (qy hna hnb) hn1,?_,?_⟩
         · exact Mx _ _
         · rw [step _ _ _ (.lit 0) hx hy hname rfl (.inl hty) hr,hrun]
           by_cases hab:na=nb
           · subst hab
             rcases h01 with rfl | rfl <;> simp [BO.ev]
           · simp [BO.ev,hab]
     · cases he
   · rename_i o' f' fs' a l' b m' heq
     cases heq
     split at he
     · rename_i hc
       obtain ⟨hname,hoff,hty⟩:=hc
       subst hoff
       cases hrest:dV P (f.offset+1) fs l' m' with
       | none=>rw [hrest] at he;simp at he
       | some e1=>
         rw [hrest] at he
         simp at he
         subst he
         obtain ⟨x,hx,hrx,hlx⟩:=hx0 hl
         obtain ⟨y,hy,hry,hly⟩:=hx0 hm
         obtain ⟨n1,hn1,h01,hrun⟩:=ih _ l' m' e1 hrest hlx hly
         obtain ⟨na,hna,rfl⟩:=hrx
         obtain ⟨nb,hnb,rfl⟩:=hry
         have hq:P.underlying f.type=some .bool:=by
           cases h:P.underlying f.type with
           | none=>rw [h] at hty;simp [ny] at hty
           | some dd=>rw [h] at hty;cases dd <;> simp [ny] at hty;rfl
         have hr:(Op.equalIn (d+1) f.type (.bool (decide (na≠0))) (.bool (decide (nb≠0)))).run P w=.ok (decide (na≠0) == decide (nb≠0)) w:=by
           simp only [Op.equalIn,Sem.run_bind,run_underlying hq,Result.andThen];rfl
         refine ⟨_,qy (qy (qy hna (show (E.lit 0).den I g.env=some (.i 0) from rfl)) (qy hnb (show (E.lit 0).den I g.env=some (.i 0) from rfl))) hn1,?_,?_⟩
         · exact Mx _ _
         · rw [step _ _ _ (.lit 0) hx hy hname rfl (.inr hty) hr,hrun]
           by_cases ha:na=0 <;> by_cases hb:nb=0 <;> rcases h01 with rfl | rfl <;> simp [BO.ev,ha,hb]
     · cases he
   · cases he
end Go.Sx
end
noncomputable section
namespace Go.Sx
open Go
variable {A:Amb} {I:Itp} {P:Program} {g:G} {X:Nat→Prop} {ts:qL} {a:Act} {M:Mem} {w:World}
structure GA (P:Program) (w:World) (t:TypeId) (x y:Value) (n:Int):Prop where
 guard:∀op ox oy,(eqGuard op t ox oy x y).run P w=.ok () w
 eql:(binOp .eql t x y).run P w=.ok (.bool (decide (n≠0))) w
 neq:(binOp .neq t x y).run P w=.ok (.bool (!decide (n≠0))) w
theorem GA.jo {t:TypeId} {x y:Value} {n:Int} (hg:∀op ox oy,(eqGuard op t ox oy x y).run P w=.ok () w)
   (h1:binOp .eql t x y=(do pure (.bool (←Op.equal t x y)))) (h2:binOp .neq t x y=(do pure (.bool (!(←Op.equal t x y)))))
   (h:(Op.equal t x y).run P w=.ok (decide (n≠0)) w):GA P w t x y n:=
 ⟨hg,by rw [h1];simp [h,Result.andThen],by rw [h2];simp [h,Result.andThen]⟩
theorem WJ {t:TypeId} {v u:AV} {x y:Value} {e:E} (h:WK P t v u=some e) (hx:Rel I g v x) (hy:Rel I g u y) (w:World) :
   ∃n:Int,e.den I g.env=some (.i n)∧GA P w t x y n:=by
 unfold WK at h
 split at h
 · rename_i k a k' b
   split at h
   · rename_i hk;subst hk
     simp at h;subst h
     obtain ⟨na,hna,rfl⟩:=hx
     obtain ⟨nb,hnb,rfl⟩:=hy
     refine ⟨_,qy hna hnb,fun op ox oy=>by cases op <;> rfl,?_,?_⟩
     · simp only [binOp,Op.intCmp,ne_eq,not_true_eq_false,if_false,Sem.run_pure]
       by_cases hab:na=nb <;> simp [BO.ev,hab]
     · simp only [binOp,Op.intCmp,ne_eq,not_true_eq_false,if_false,Sem.run_pure]
       by_cases hab:na=nb <;> simp [BO.ev,hab]
   · cases h
 · rename_i a b
   split at h
   · rename_i hu
     simp at h;subst h
     obtain ⟨na,hna,rfl⟩:=hx
     obtain ⟨nb,hnb,rfl⟩:=hy
     refine ⟨_,qy (qy hna (show (E.lit 0).den I g.env=some (.i 0) from rfl)) (qy hnb (show (E.lit 0).den I g.env=some (.i 0) from rfl)),
       .jo (fun op ox oy=>by cases op <;> rfl) rfl rfl ?_⟩
     rw [run_equal_bool hu]
     by_cases ha:na=0 <;> by_cases hb:nb=0 <;> simp [BO.ev,ha,hb]
   · cases h
 · split at h
   · rename_i hu
     simp at h;subst h
     simp only [Rel] at hx hy;subst hx;subst hy
     exact ⟨1,rfl,.jo (fun op ox oy=>by cases op <;> rfl) rfl rfl (by rw [bE hu];rfl)⟩
   · cases h
 · split at h
   · rename_i hu
     simp at h;subst h
     obtain ⟨n,p,_,_,_,rfl⟩:=hx
     simp only [Rel] at hy;subst hy
     exact ⟨0,rfl,.jo (fun op ox oy=>by cases op <;> rfl) rfl rfl (by rw [iQ hu];rfl)⟩
   · cases h
 · split at h
   · rename_i hu
     simp at h;subst h
     obtain ⟨n,p,_,_,_,rfl⟩:=hy
     simp only [Rel] at hx;subst hx
     exact ⟨0,rfl,.jo (fun op ox oy=>by cases op <;> rfl) rfl rfl (by rw [bE hu];rfl)⟩
   · cases h
 · split at h
   · rename_i hu
     simp at h;subst h
     obtain ⟨ms,cs,rfl,_⟩:=hx
     simp only [Rel] at hy;subst hy
     exact ⟨0,rfl,.jo (fun op ox oy=>by cases op <;> rfl) rfl rfl (by rw [yR hu];rfl)⟩
   · cases h
 · split at h
   · rename_i hu
     simp at h;subst h
     obtain ⟨cs,rfl,_⟩:=hx
     simp only [Rel] at hy;subst hy
     exact ⟨0,rfl,.jo (fun op ox oy=>by cases op <;> rfl) rfl rfl (by rw [yR hu];rfl)⟩
   · cases h
 · split at h
   · rename_i hu
     simp at h;subst h
     simp only [Rel] at hx hy;subst hx;subst hy
     exact ⟨1,rfl,.jo (fun op ox oy=>by cases op <;> rfl) rfl rfl (by rw [run_equal_nil_nil hu];rfl)⟩
   · cases h
 · split at h
   · rename_i hu
     simp at h;subst h
     obtain ⟨n,hn,hv⟩:=hx
     simp only [Rel] at hy;subst hy
     refine ⟨_,qy hn (show (E.lit 0).den I g.env=some (.i 0) from rfl),?_⟩
     rcases hv with ⟨rfl,rfl⟩ | ⟨h1,c,p,o,q,z,_,_,rfl,_⟩
     · exact .jo (fun op ox oy=>by cases op <;> rfl) rfl rfl (by rw [run_equal_nil_nil hu];rfl)
     · exact .jo (fun op ox oy=>by cases op <;> rfl) rfl rfl (by rw [yR hu];simp [BO.ev];omega)
   · cases h
 · rename_i b lo len sz nl
   split at h
   · rename_i el hu
     obtain ⟨l,n,_,hn,_,hn0,hcase⟩:=hx
     simp only [Rel] at hy;subst hy
     have qqG:e=.lit 0∧∃p c,x=.slice (some p) n.toNat c:=by
       split at h
       · rename_i hnl
         simp at h
         rcases hcase with ⟨p,c,_,hx,_⟩ | ⟨h1,_⟩
         · exact ⟨h.symm,_,_,hx⟩
         · rw [hnl] at h1;cases h1
       · split at h
         · rename_i m
           split at h
           · rename_i hm
             simp at h
             rcases hcase with ⟨p,c,_,hx,_⟩ | ⟨_,h1,_⟩
             · exact ⟨h.symm,_,_,hx⟩
             · simp [E.den] at hn;omega
           · cases h
         · cases h
     obtain ⟨rfl,p,c,rfl⟩:=qqG
     exact ⟨0,rfl,.jo (fun op ox oy=>by cases op <;> rfl) rfl rfl (by rw [run_equal_slice_nil hu];rfl)⟩
   · cases h
 · split at h
   · rename_i hu
     simp at h;subst h
     obtain ⟨a,rfl⟩:=hx
     simp only [Rel] at hy;subst hy
     exact ⟨0,rfl,.jo (fun op ox oy=>by cases op <;> rfl) rfl rfl (by rw [run_equal_slice_nil hu];rfl)⟩
   · cases h
 · split at h
   · rename_i hu
     simp at h;subst h
     obtain ⟨a,c,rfl⟩:=hx
     simp only [Rel] at hy;subst hy
     exact ⟨0,rfl,.jo (fun op ox oy=>by cases op <;> rfl) rfl rfl (by rw [run_equal_slice_nil hu];rfl)⟩
   · cases h
 · split at h
   · rename_i hu
     simp at h;subst h
     obtain ⟨p,c,_,_,rfl⟩:=hx
     simp only [Rel] at hy;subst hy
     exact ⟨0,rfl,.jo (fun op ox oy=>by cases op <;> rfl) rfl rfl (by rw [run_equal_slice_nil hu];rfl)⟩
   · cases h
 · split at h
   · rename_i hu
     simp at h;subst h
     simp only [Rel] at hx hy;subst hx;subst hy
     exact ⟨1,rfl,.jo (fun op ox oy=>by cases op <;> rfl) rfl rfl (by rw [gJ hu];rfl)⟩
   · cases h
 · rename_i l m
   split at h
   · rename_i fs hu
     split at h
     · rename_i hc
       obtain ⟨hst,hgd⟩:=hc
       obtain ⟨cs,rfl,hl⟩:=hx
       obtain ⟨ds,rfl,hm⟩:=hy
       have key:∀d,∃n:Int,e.den I g.env=some (.i n)∧(n=0∨n=1)∧(Op.equalIn (d+2) t (.agg cs) (.agg ds)).run P w=.ok (decide (n≠0)) w:=by
         intro d
         obtain ⟨n,h1,h2,h3⟩:=Gp d cs ds w fs.toList 0 l m e h (by simpa using hl) (by simpa using hm)
         refine ⟨n,h1,h2,?_⟩
         have h4:(Op.equalIn (d+2) t (.agg cs) (.agg ds)).run P w=((forIn fs (none,()) (yJ (d+1) cs ds)).run P w).andThen fun a w'=>(match a.fst with
             | some r=>(Pure.pure r:Sem Bool)
             | none=>Pure.pure true).run P w':=by
           rw [Op.equalIn.eq_def]
           simp only [Sem.run_bind,run_underlying hu,Result.andThen,run_program,hst]
           simp
           have hb':∀(b b':Field→Option Bool × Unit→Sem (ForInStep (Option Bool × Unit))),b=b'→∀(K:Result (Option Bool × Unit)→Prop),K ((forIn fs (none,()) b':Sem _).run P w)→K ((forIn fs (none,()) b:Sem _).run P w):=fun b b' e K h=>by rw [e];exact h
           refine hb' _ (yJ (d+1) cs ds) ?_ (fun q=>q.andThen _=_) (by rcases (forIn fs (none,()) (yJ (d+1) cs ds):Sem _).run P w with ⟨⟨_ | _,_⟩,_⟩ | _ <;> rfl)
           funext f s
           simp only [yJ]
         rw [h4,←Array.forIn_toList,h3]
         rcases h2 with rfl | rfl <;> rfl
       obtain ⟨n,h1,_,h3⟩:=key 9998
       exact ⟨n,h1,.jo (fun op ox oy=>by cases op <;> simp [eqGuard,Result.andThen,hgd]) rfl rfl h3⟩
     · cases h
   · cases h
 · cases h
theorem UA {k:IntKind} {e:E} {n:Int} (h:(PE.rng k e).den I g.env) (he:e.den I g.env=some (.i n)):k.min≤n∧n≤k.max:=by
 obtain ⟨m,h1,h2⟩:=h
 rw [he] at h1;simp at h1;subst h1;exact h2
theorem nA {k:IntKind} {n:Int} (h:k.min≤n∧n≤k.max):k.wrap n=n:=by
 cases k <;> simp [IntKind.min,IntKind.max,IntKind.signed,IntKind.bits] at h <;> simp [IntKind.wrap,IntKind.signed,IntKind.bits] <;> (try split) <;> omega
theorem lq {k:IntKind} {e:E} {z:AV} {ps:List PE} {n:Int} (h:arith k e=(z,ps)) (hp:∀q∈ps,q.den I g.env) (he:e.den I g.env=some (.i n)):Rel I g z (.int k (k.wrap n)):=by
 unfold arith at h
 split at h
 · simp at h
   obtain ⟨rfl,rfl⟩:=h
   simp [E.den] at he
   subst he
   exact ⟨_,rfl,rfl⟩
 · split at h
   · simp at h
     obtain ⟨rfl,rfl⟩:=h
     exact ⟨n,he,congrArg (Value.int _) (nA (UA (hp _ (List.mem_singleton.2 rfl)) he))⟩
   · simp at h
     obtain ⟨rfl,rfl⟩:=h
     exact ⟨k.wrap n,by simp [E.den,he],rfl⟩
theorem Ph {o:BinOp} {j:Nat} (ho:bitsOf o=some j) (hj:j<4) {t:TypeId} {k:IntKind} {x y:Int}:(binOp o t (.int k x) (.int k y)).run P w=.ok (.int k (wX j k x y)) w:=by
 cases o <;> simp [bitsOf] at ho <;> subst ho <;> first | omega | (simp only [binOp,ne_eq,not_true_eq_false,if_false,Op.intBits,wX,Sem.run_pure])
theorem MX {o:BinOp} {j:Nat} (ho:bitsOf o=some j) (hj:¬j<4) (hj':j<6) {t:TypeId} {k k':IntKind} {x y:Int} (hy:0≤y) :
   (binOp o t (.int k x) (.int k' y)).run P w=.ok (.int k (wX j k x y)) w:=by
 cases o <;> simp [bitsOf] at ho <;> subst ho <;> first | omega | (simp only [binOp,Op.shift,if_neg (show ¬y<0 by omega),wX,Sem.run_pure])
theorem Tm {o:BinOp} {j:Nat} (ho:bitsOf o=some j) (hj:¬j<6) {t:TypeId} {k:IntKind} {x y:Int} (hy:y≠0) :
   (binOp o t (.int k x) (.int k y)).run P w=.ok (.int k (wX j k x y)) w:=by
 cases o <;> simp [bitsOf] at ho <;> subst ho <;> first | omega | (simp only [binOp,ne_eq,not_true_eq_false,if_false,Op.intDiv,if_neg hy,wX,Sem.run_pure])
theorem zl {o:BinOp} {t:TypeId} {x y r:Value} {ox oy:Operand} (h1:(eqGuard o t ox oy x y).run P w=.ok () w) (h2:(binOp o t x y).run P w=.ok r w) :
   (do eqGuard o t ox oy x y;binOp o t x y:Sem Value).run P w=.ok r w:=by
 rw [Sem.run_bind,h1];exact h2
theorem jQ {o:BinOp} {t:TypeId} {k k':IntKind} {x y:Int} {ox oy:Operand}:(eqGuard o t ox oy (.int k x) (.int k' y)).run P w=.ok () w:=by
 cases o <;> rfl
theorem Fp {t:TypeId} {k:IntKind} {x y:Int}:(binOp .add t (.int k x) (.int k y)).run P w=.ok (.int k (k.wrap (x+y))) w:=by
 simp only [binOp,ne_eq,not_true_eq_false,if_false,Op.intArith,Sem.run_pure]
theorem Fg {t:TypeId} {k:IntKind} {x y:Int}:(binOp .sub t (.int k x) (.int k y)).run P w=.ok (.int k (k.wrap (x - y))) w:=by
 simp only [binOp,ne_eq,not_true_eq_false,if_false,Op.intArith,Sem.run_pure]
theorem Fh {t:TypeId} {k:IntKind} {x y:Int}:(binOp .mul t (.int k x) (.int k y)).run P w=.ok (.int k (k.wrap (x*y))) w:=by
 simp only [binOp,ne_eq,not_true_eq_false,if_false,Op.intArith,Sem.run_pure]
theorem Fb {t:TypeId} {k:IntKind} {x y:Int} (hy:y≠0):(binOp .rem t (.int k x) (.int k y)).run P w=.ok (.int k (x.tmod y)) w:=by
 simp only [binOp,ne_eq,not_true_eq_false,if_false,Op.intDiv,if_neg hy,Sem.run_pure]
theorem Tn {t:TypeId} {k:IntKind} {x y:Int}:(binOp .lss t (.int k x) (.int k y)).run P w=.ok (.bool (decide (x<y))) w:=by
 simp only [binOp,ne_eq,not_true_eq_false,if_false,Op.intCmp,Sem.run_pure]
theorem Tp {t:TypeId} {k:IntKind} {x y:Int}:(binOp .leq t (.int k x) (.int k y)).run P w=.ok (.bool (decide (x≤y))) w:=by
 simp only [binOp,ne_eq,not_true_eq_false,if_false,Op.intCmp,Sem.run_pure]
theorem Tt {t:TypeId} {k:IntKind} {x y:Int}:(binOp .gtr t (.int k x) (.int k y)).run P w=.ok (.bool (decide (y<x))) w:=by
 simp only [binOp,ne_eq,not_true_eq_false,if_false,Op.intCmp,Sem.run_pure]
theorem Tc {t:TypeId} {k:IntKind} {x y:Int}:(binOp .geq t (.int k x) (.int k y)).run P w=.ok (.bool (decide (y≤x))) w:=by
 simp only [binOp,ne_eq,not_true_eq_false,if_false,Op.intCmp,Sem.run_pure]
theorem Uo (x y:Int):decide (BO.lt.ev x y≠0)=decide (x<y):=by by_cases h:x<y <;> simp [BO.ev,h]
theorem Ua (x y:Int):decide (BO.le.ev x y≠0)=decide (x≤y):=by by_cases h:x≤y <;> simp [BO.ev,h]
theorem Nl {o:BinOp} {t:TypeId} {v u z:AV} {x y:Value} {ps:List PE} (h:Mw P o t v u=some (z,ps)) (hp:∀q∈ps,q.den I g.env)
   (hx:Rel I g v x) (hy:Rel I g u y) (ox oy:Operand) (w:World):∃r,(do eqGuard o t ox oy x y;binOp o t x y:Sem Value).run P w=.ok r w∧Rel I g z r:=by
 unfold Mw at h
 split at h
 · cases he:WK P t v u with
   | none=>simp [he] at h
   | some e=>
     simp [he] at h
     obtain ⟨rfl,rfl⟩:=h
     obtain ⟨n,h1,h2⟩:=WJ he hx hy w
     exact ⟨_,zl (h2.guard _ _ _) h2.eql,n,h1,rfl⟩
 · cases he:WK P t v u with
   | none=>simp [he] at h
   | some e=>
     simp [he] at h
     obtain ⟨rfl,rfl⟩:=h
     obtain ⟨n,h1,h2⟩:=WJ he hx hy w
     refine ⟨_,zl (h2.guard _ _ _) h2.neq,_,qy h1 (show (E.lit 0).den I g.env=some (.i 0) from rfl),?_⟩
     by_cases hn:n=0 <;> simp [BO.ev,hn]
 case h_12=>
   rename_i ka a kb b _ _ _ _ _ _ _ _ _ _ _
   obtain ⟨na,hna,rfl⟩:=hx
   obtain ⟨nb,hnb,rfl⟩:=hy
   split at h
   · rename_i j hj
     split at h
     · rename_i h4
       split at h
       · rename_i hk
         subst hk
         simp at h
         obtain ⟨rfl,rfl⟩:=h
         exact ⟨_,zl jQ (Ph hj h4),_,qy (o:=.bits j ka) hna hnb,rfl⟩
       · cases h
     · rename_i h4
       split at h
       · rename_i h6
         simp at h
         obtain ⟨rfl,rfl⟩:=h
         have hb:0≤nb:=by
           obtain ⟨m,h1,h2⟩:=hp _ (List.mem_singleton.2 rfl)
           rw [qy (x:=0) rfl hnb] at h1
           simp [BO.ev] at h1
           by_cases h0:0≤nb
           · exact h0
           · rw [if_neg h0] at h1;omega
         exact ⟨_,zl jQ (MX hj h4 h6 hb),_,qy (o:=.bits j ka) hna hnb,rfl⟩
       · rename_i h6
         split at h
         · rename_i hk
           subst hk
           simp at h
           obtain ⟨rfl,rfl⟩:=h
           have hb:nb≠0:=by
             obtain ⟨m,h1,h2⟩:=hp _ (List.mem_singleton.2 rfl)
             rw [qy (y:=0) hnb rfl] at h1
             simp [BO.ev] at h1
             intro h0
             rw [if_pos h0] at h1;omega
           exact ⟨_,zl jQ (Tm hj h6 hb),_,qy (o:=.bits j ka) hna hnb,rfl⟩
         · cases h
   · cases h
 all_goals
   first
     | cases h
     | (split at h
        case isFalse=>cases h)
 all_goals
   rename_i hk
   obtain ⟨na,hna,rfl⟩:=hx
   obtain ⟨nb,hnb,rfl⟩:=hy
 · subst hk
   simp only [Option.some.injEq] at h
   exact ⟨_,zl jQ Fp,lq h hp (qE hna hnb)⟩
 · subst hk
   simp only [Option.some.injEq] at h
   exact ⟨_,zl jQ Fg,lq h hp (yE hna hnb)⟩
 · subst hk
   simp only [Option.some.injEq] at h
   exact ⟨_,zl jQ Fh,lq h hp (qy (o:=.mul) hna hnb)⟩
 · obtain ⟨hk,hn⟩:=hk
   subst hk
   simp at h
   obtain ⟨rfl,rfl⟩:=h
   have hnb':=hnb
   simp [E.den] at hnb'
   subst hnb'
   exact ⟨_,zl jQ (Fb hn),_,qy (o:=.tmod) hna hnb,rfl⟩
 · subst hk
   simp at h
   obtain ⟨rfl,rfl⟩:=h
   have hb:nb≠0:=by
     obtain ⟨m,h1,h2⟩:=hp _ (List.mem_singleton.2 rfl)
     rw [qy (y:=0) hnb rfl] at h1
     simp [BO.ev] at h1
     intro h0
     rw [if_pos h0] at h1;omega
   exact ⟨_,zl jQ (Fb hb),_,qy (o:=.tmod) hna hnb,rfl⟩
 · subst hk
   simp at h
   obtain ⟨rfl,rfl⟩:=h
   exact ⟨_,zl jQ Tn,_,qy (o:=.lt) hna hnb,by rw [Uo]⟩
 · subst hk
   simp at h
   obtain ⟨rfl,rfl⟩:=h
   exact ⟨_,zl jQ Tp,_,qy (o:=.le) hna hnb,by rw [Ua]⟩
 · subst hk
   simp at h
   obtain ⟨rfl,rfl⟩:=h
   exact ⟨_,zl jQ Tt,_,qy (o:=.lt) hnb hna,by rw [Uo]⟩
 · subst hk
   simp at h
   obtain ⟨rfl,rfl⟩:=h
   exact ⟨_,zl jQ Tc,_,qy (o:=.le) hnb hna,by rw [Ua]⟩
end Go.Sx
end
noncomputable section
namespace Go.Sx
open Go
variable {A:Amb} {I:Itp} {P:Program} {g:G} {X:Nat→Prop} {ts:qL} {a:Act} {M:Mem} {w:World}
theorem pV {α:Type}:∀(vs:List α) (l:List α) (i:Nat),(yu l i vs).length=l.length
 | [],l,i=>by rw [wP]
 | v::vs,l,i=>by simp [yC,pV vs]
theorem zh {a b:E} {x y:Int} (ha:a.den I g.env=some (.i x)) (hb:b.den I g.env=some (.i y)) (h:(PE.tt (mkBin .le a b)).den I g.env):x≤y:=by
 obtain ⟨n,h1,h2⟩:=h
 rw [qy ha hb] at h1
 simp at h1
 by_cases hc:x≤y
 · exact hc
 · simp [BO.ev,hc] at h1;omega
def jD (v:Option Value):Option Int→Prop
 | none=>v=none
 | some n=>∃k,v=some (.int k n)
theorem gP (ht:wm I g X ts a.tmps) {o:Option Operand} {n:Option Int} (h:bG ts o=some n) (hx:∀t,o=some (.tmp t)→¬X t):jD (o.map a.eval) n:=by
 cases o with
 | none=>simp [bG] at h;subst h;rfl
 | some y=>
   simp only [bG] at h
   split at h
   · rename_i k m he
     simp at h;subst h
     obtain ⟨m',h1,h2⟩:=zm ht he fun t e=>hx t (by rw [e])
     simp [E.den] at h1
     subst h1
     exact ⟨k,by simp [h2]⟩
   · cases h
theorem wE {k:IntKind} {n:Int} {y:Nat} {code:BoundsCode} (h0:0≤n) (h1:n≤y):(Instr.sliceBound (.int k n) y code).run P w=.ok n.toNat w:=by
 simp [Instr.sliceBound,asIntOf,h0,h1]
theorem uy {b:Bool} {len cap:Nat} {lo hi mx:Option Value} {a h m:Option Int} (ha:jD lo a) (hh:jD hi h) (hm:jD mx m) (hmh:m≠none→h≠none)
   (h0:0≤a.getD 0) (h1:a.getD 0≤h.getD len) (h2:h.getD len≤m.getD cap) (h3:m.getD cap≤cap) :
   (Instr.sliceBounds b len cap lo hi mx).run P w=.ok ((a.getD 0).toNat,(h.getD len).toNat,(m.getD cap).toNat) w:=by
 unfold Instr.sliceBounds
 cases m with
 | none=>
   simp only [jD] at hm;subst hm
   simp only [Option.getD_none] at h2 h3 ⊢
   cases h with
   | none=>
     simp only [jD] at hh;subst hh
     simp only [Option.getD_none] at h1 h2 ⊢
     cases a with
     | none=>simp only [jD] at ha;subst ha;simp
     | some n=>
       obtain ⟨k,rfl⟩:=ha
       simp only [Option.getD_some] at h0 h1 ⊢
       simp [Result.andThen,wE h0 h1]
   | some n'=>
     obtain ⟨k',rfl⟩:=hh
     simp only [Option.getD_some] at h1 h2 ⊢
     cases a with
     | none=>
       simp only [jD] at ha;subst ha
       simp only [Option.getD_none] at h0 h1 ⊢
       simp [Result.andThen,wE (y:=cap) h1 h2]
     | some n=>
       obtain ⟨k,rfl⟩:=ha
       simp only [Option.getD_some] at h0 h1 ⊢
       have h4:n≤(n'.toNat:Int):=by omega
       simp [Sem.run_bind,Result.andThen,wE (y:=cap) (show 0≤n' by omega) h2,wE h0 h4]
 | some m'=>
   obtain ⟨km,rfl⟩:=hm
   simp only [Option.getD_some] at h2 h3 ⊢
   cases h with
   | none=>exact absurd rfl (hmh (by simp))
   | some n'=>
     obtain ⟨k',rfl⟩:=hh
     simp only [Option.getD_some] at h1 h2 ⊢
     cases a with
     | none=>
       simp only [jD] at ha;subst ha
       simp only [Option.getD_none] at h0 h1 ⊢
       have h5:n'≤(m'.toNat:Int):=by omega
       simp [Sem.run_bind,Result.andThen,wE (y:=cap) (show 0≤m' by omega) h3,wE h1 h5]
     | some n=>
       obtain ⟨k,rfl⟩:=ha
       simp only [Option.getD_some] at h0 h1 ⊢
       have h4:n≤(n'.toNat:Int):=by omega
       have h5:n'≤(m'.toNat:Int):=by omega
       simp [Sem.run_bind,Result.andThen,wE (y:=cap) (show 0≤m' by omega) h3,wE (show 0≤n' by omega) h5,wE h0 h4]
theorem zn {t el:TypeId} {sz:Nat} (hu:P.underlying t=some (.slice el)) (hs:qp P el=some sz) {ad:Option Addr} {len cap:Nat} {lo hi mx:Option Value} {a h m:Option Int}
   (ha:jD lo a) (hh:jD hi h) (hm:jD mx m) (hmh:m≠none→h≠none) (h0:0≤a.getD 0) (h1:a.getD 0≤h.getD len) (h2:h.getD len≤m.getD cap) (h3:m.getD cap≤cap) :
   (Instr.sliceAt t (.slice ad len cap) lo hi mx).run P w=.ok (.slice (if (m.getD cap).toNat=(a.getD 0).toNat then ad else ad.map (·.add ((a.getD 0).toNat*sz)))
     ((h.getD len).toNat - (a.getD 0).toNat) ((m.getD cap).toNat - (a.getD 0).toNat)) w:=by
 simp only [Instr.sliceAt,Instr.slice,Sem.run_bind,run_underlying hu,Result.andThen,uy ha hh hm hmh h0 h1 h2 h3,qB hs,Sem.run_pure]
theorem X8 {t el:TypeId} (hu:P.underlying t=some (.slice el)) {x v:AV} {y:Value} {lo hi mx:Option Value} {ca ch cm:Option Int} {ps:List PE} (hr:Rel I g x y)
   (ha:jD lo ca) (hh:jD hi ch) (hm:jD mx cm) (h:Q8 P el x ca ch cm=some (v,ps)) (hp:∀q∈ps,q.den I g.env) :
   ∃z,(Instr.sliceAt t y lo hi mx).run P w=.ok z w∧Rel I g v z:=by
 unfold Q8 at h
 cases hs:qp P el with
 | none=>simp [hs] at h
 | some sz=>
 rw [hs] at h
 dsimp only at h
 cases x with
 | slice b l len s nl=>
   dsimp only at h
   split at h
   · cases h
   rename_i hsz
   have hsz:s=sz:=Decidable.not_not.1 hsz
   subst hsz
   have hr0:=hr
   obtain ⟨l',n,hl,hn,hl0,hn0,hcase⟩:=hr
   -- what comes out
   have real:∀{p:PB} {cap:Nat} {a:Int},g.φ b=some p→y=.slice (some ⟨p.blk,p.base+l'.toNat*s,none⟩) n.toNat cap→(0≤a)→
       (some (⟨p.blk,p.base+l'.toNat*s,none⟩:Addr)).map (·.add (a.toNat*s))=some ⟨p.blk,p.base+(l'+a).toNat*s,none⟩:=fun {p cap a} _ _ h0=>by
     simp only [Option.map_some,addr_add]
     rw [show (l'+a).toNat=l'.toNat+a.toNat by omega,Nat.add_mul,Nat.add_assoc]
   split at h
   · -- no bound above
     split at h
     · rename_i n'
       have e:n=n':=by simp [E.den] at hn;exact hn.symm
       subst e
       split at h
       · rename_i hb
         split at h
         · rename_i h0
           simp at h;obtain ⟨rfl,rfl⟩:=h
           rcases hcase with ⟨p,cap,h5,rfl,h6,h7⟩ | ⟨h5,h6,ad,rfl⟩
           · refine ⟨_,zn hu hs ha hh hm (by simp) hb.1 (by simp;omega) (by simp;omega) (by simp),?_⟩
             rw [h0]
             simp only [Option.getD_none,Int.toNat_zero,Nat.sub_zero,Int.toNat_natCast,Nat.zero_mul]
             have e:(if cap=0 then some (⟨p.blk,p.base+l'.toNat*s,none⟩:Addr) else (some (⟨p.blk,p.base+l'.toNat*s,none⟩:Addr)).map (·.add 0))=some ⟨p.blk,p.base+l'.toNat*s,none⟩:=by
               simp [Addr.add]
             rw [e];exact hr0
           · refine ⟨_,zn hu hs ha hh hm (by simp) hb.1 (by simp;omega) (by simp) (by simp),?_⟩
             rw [h0]
             simpa [Addr.add] using hr0
         · rename_i h0
           split at h
           · rename_i h1
             split at h
             · cases h
             rename_i hnl
             simp at h;obtain ⟨rfl,rfl⟩:=h
             rcases hcase with ⟨p,cap,h5,rfl,h6,h7⟩ | ⟨h5,_⟩
             · refine ⟨_,zn hu hs ha hh hm (by simp) hb.1 (by simp;omega) (by simp;omega) (by simp),?_⟩
               simp only [Option.getD_none,Int.toNat_natCast,h1,Nat.sub_self]
               by_cases hc:cap=n.toNat
               · rw [if_pos hc];exact ⟨_,_,rfl⟩
               · rw [if_neg hc];exact ⟨_,_,rfl⟩
             · exact absurd h5 hnl
           · rename_i h1
             simp at h;obtain ⟨rfl,rfl⟩:=h
             rcases hcase with ⟨p,cap,h5,hy,h6,h7⟩ | ⟨h5,h6,ad,rfl⟩
             · subst hy
               refine ⟨_,zn hu hs ha hh hm (by simp) hb.1 (by simp;omega) (by simp;omega) (by simp),?_⟩
               simp only [Option.getD_none,Int.toNat_natCast]
               rw [if_neg (by omega),real h5 rfl hb.1]
               exact ⟨l'+ca.getD 0,n - ca.getD 0,qE hl rfl,rfl,by omega,by omega,.inl ⟨p,cap - (ca.getD 0).toNat,h5,by congr 1;omega,by omega,Nat.le_trans (Nat.mul_le_mul_right _ (by omega)) h7⟩⟩
             · omega
       · cases h
     · split at h
       · rename_i h0
         simp at h;obtain ⟨rfl,rfl⟩:=h
         rcases hcase with ⟨p,cap,h5,rfl,h6,h7⟩ | ⟨h5,h6,ad,rfl⟩
         · refine ⟨_,zn hu hs ha hh hm (by simp) (by omega) (by simp;omega) (by simp;omega) (by simp),?_⟩
           rw [h0]
           simp only [Option.getD_none,Int.toNat_zero,Nat.sub_zero,Int.toNat_natCast,Nat.zero_mul]
           have e:(if cap=0 then some (⟨p.blk,p.base+l'.toNat*s,none⟩:Addr) else (some (⟨p.blk,p.base+l'.toNat*s,none⟩:Addr)).map (·.add 0))=some ⟨p.blk,p.base+l'.toNat*s,none⟩:=by
             simp [Addr.add]
           rw [e];exact hr0
         · refine ⟨_,zn hu hs ha hh hm (by simp) (by omega) (by simp;omega) (by simp) (by simp),?_⟩
           rw [h0]
           simpa [Addr.add] using hr0
       · cases h
   · rename_i ub
     split at h
     · rename_i hb
       split at h
       · rename_i h1
         split at h
         · cases h
         rename_i hnl
         simp at h;obtain ⟨rfl,rfl⟩:=h
         have hle:=zh (show (E.lit ub).den I g.env=some (.i ub) from rfl) hn (hp _ (by simp))
         rcases hcase with ⟨p,cap,h5,rfl,h6,h7⟩ | ⟨h5,_⟩
         · refine ⟨_,zn hu hs ha hh hm (by simp) hb.1 (by simp;omega) (by simp;omega) (by simp),?_⟩
           simp only [Option.getD_none,Option.getD_some,Int.toNat_natCast,h1.1,Nat.sub_self]
           by_cases hc:cap=ub.toNat
           · rw [if_pos hc];exact ⟨_,_,rfl⟩
           · rw [if_neg hc];exact ⟨_,_,rfl⟩
         · exact absurd h5 hnl
       · rename_i h1
         simp at h;obtain ⟨rfl,rfl⟩:=h
         have hle:=zh (show (E.lit ub).den I g.env=some (.i ub) from rfl) hn (hp _ (by simp))
         rcases hcase with ⟨p,cap,h5,hy,h6,h7⟩ | ⟨h5,h6,ad,rfl⟩
         · subst hy
           refine ⟨_,zn hu hs ha hh hm (by simp) hb.1 (by simp;omega) (by simp;omega) (by simp),?_⟩
           simp only [Option.getD_none,Option.getD_some,Int.toNat_natCast]
           have e:(if cap=(ca.getD 0).toNat then some (⟨p.blk,p.base+l'.toNat*s,none⟩:Addr) else (some (⟨p.blk,p.base+l'.toNat*s,none⟩:Addr)).map (·.add ((ca.getD 0).toNat*s))) =
               some ⟨p.blk,p.base+(l'+ca.getD 0).toNat*s,none⟩:=by
             by_cases hc:cap=(ca.getD 0).toNat
             · have h0:ca.getD 0=0:=by
                 by_cases h0:ca.getD 0=0
                 · exact h0
                 · exact absurd ⟨by omega,h0⟩ h1
               rw [if_pos hc,h0,Int.add_zero]
             · rw [if_neg hc];exact real h5 rfl hb.1
           rw [e]
           exact ⟨l'+ca.getD 0,ub - ca.getD 0,qE hl rfl,rfl,by omega,by omega,.inl ⟨p,cap - (ca.getD 0).toNat,h5,by congr 1;omega,by omega,Nat.le_trans (Nat.mul_le_mul_right _ (by omega)) h7⟩⟩
         · have hub:ub=0:=by omega
           have hca:ca.getD 0=0:=by omega
           refine ⟨_,zn hu hs ha hh hm (by simp) hb.1 (by simp;omega) (by simp;omega) (by simp),?_⟩
           rw [hca,hub]
           refine ⟨l'+0,0 - 0,qE hl rfl,rfl,by omega,by omega,.inr ⟨h5,rfl,ad,?_⟩⟩
           simp
     · cases h
   · rename_i ub um
     split at h
     · rename_i hb
       split at h
       · rename_i h1
         split at h
         · split at h
           · rename_i h0
             simp at h;obtain ⟨rfl,rfl⟩:=h
             have hle:=zh (show (E.lit um).den I g.env=some (.i um) from rfl) hn (hp _ (by simp))
             rcases hcase with ⟨p,cap,h5,rfl,h6,h7⟩ | ⟨h5,h6,ad,rfl⟩
             · refine ⟨_,zn hu hs ha hh hm (by simp) hb.1 (by simp;omega) (by simp;omega) (by simp;omega),?_⟩
               simp only [Option.getD_some]
               rw [if_pos (by rw [h1]),h1,show ub=ca.getD 0 by omega]
               simp only [Nat.sub_self]
               exact ⟨_,rfl⟩
             · refine ⟨_,zn hu hs ha hh hm (by simp) hb.1 (by simp;omega) (by simp;omega) (by simp;omega),?_⟩
               simp only [Option.getD_some]
               rw [if_pos (by rw [h1]),h1,show ub=ca.getD 0 by omega]
               simp only [Nat.sub_self]
               exact ⟨_,rfl⟩
           · cases h
         rename_i hnl
         simp at h;obtain ⟨rfl,rfl⟩:=h
         have hle:=zh (show (E.lit um).den I g.env=some (.i um) from rfl) hn (hp _ (by simp))
         rcases hcase with ⟨p,cap,h5,rfl,h6,h7⟩ | ⟨h5,_⟩
         · refine ⟨_,zn hu hs ha hh hm (by simp) hb.1 (by simp;omega) (by simp;omega) (by simp;omega),?_⟩
           simp only [Option.getD_some]
           rw [if_pos (by rw [h1]),h1,show ub=ca.getD 0 by omega]
           simp only [Nat.sub_self]
           exact ⟨_,rfl⟩
         · exact absurd h5 hnl
       · rename_i h1
         split at h
         · rename_i h2
           split at h
           · cases h
           rename_i hnl
           simp at h;obtain ⟨rfl,rfl⟩:=h
           have hle:=zh (show (E.lit um).den I g.env=some (.i um) from rfl) hn (hp _ (by simp))
           rcases hcase with ⟨p,cap,h5,rfl,h6,h7⟩ | ⟨h5,_⟩
           · refine ⟨_,zn hu hs ha hh hm (by simp) hb.1 (by simp;omega) (by simp;omega) (by simp;omega),?_⟩
             simp only [Option.getD_some]
             rw [if_neg (by omega),←h2.1]
             simp only [Nat.sub_self]
             exact ⟨_,_,rfl⟩
           · exact absurd h5 hnl
         · rename_i h2
           simp at h;obtain ⟨rfl,rfl⟩:=h
           have hle:=zh (show (E.lit um).den I g.env=some (.i um) from rfl) hn (hp _ (by simp))
           rcases hcase with ⟨p,cap,h5,hy,h6,h7⟩ | ⟨h5,h6,ad,rfl⟩
           · subst hy
             refine ⟨_,zn hu hs ha hh hm (by simp) hb.1 (by simp;omega) (by simp;omega) (by simp;omega),?_⟩
             simp only [Option.getD_some]
             rw [if_neg (by omega),real h5 rfl hb.1]
             exact ⟨l'+ca.getD 0,ub - ca.getD 0,qE hl rfl,rfl,by omega,by omega,.inl ⟨p,um.toNat - (ca.getD 0).toNat,h5,by congr 1;omega,by omega,Nat.le_trans (Nat.mul_le_mul_right _ (by omega)) h7⟩⟩
           · omega
     · cases h
   · cases h
 | qQ=>
   dsimp only at h
   split at h
   · rename_i hc
     simp at h;obtain ⟨rfl,rfl⟩:=h
     simp only [Rel] at hr;subst hr
     obtain ⟨h1,h2,h3,h4⟩:=hc
     have hhd:ch.getD ((0:Nat):Int)=0:=by simpa using h2
     have hmd:cm.getD ((0:Nat):Int)=0:=by simpa using h3
     have hmh:cm≠none→ch≠none:=fun hc e=>by
       subst e
       cases cm with
       | none=>exact hc rfl
       | some _=>simp at h4
     refine ⟨_,zn hu hs ha hh hm hmh (by omega) (by omega) (by omega) (by omega),?_⟩
     rw [h1,hhd,hmd]
     simp [Rel]
   · cases h
 | cap0=>
   dsimp only at h
   split at h
   · rename_i hc
     simp at h;obtain ⟨rfl,rfl⟩:=h
     obtain ⟨ad,rfl⟩:=hr
     obtain ⟨h1,h2,h3,h4⟩:=hc
     have hhd:ch.getD ((0:Nat):Int)=0:=by simpa using h2
     have hmd:cm.getD ((0:Nat):Int)=0:=by simpa using h3
     have hmh:cm≠none→ch≠none:=fun hc e=>by
       subst e
       cases cm with
       | none=>exact hc rfl
       | some _=>simp at h4
     refine ⟨_,zn hu hs ha hh hm hmh (by omega) (by omega) (by omega) (by omega),?_⟩
     rw [h1,hhd,hmd]
     exact ⟨ad,by simp⟩
   · cases h
 | empty=>
   dsimp only at h
   obtain ⟨ad,cap,rfl⟩:=hr
   split at h
   · rename_i hc
     simp at h;obtain ⟨rfl,rfl⟩:=h
     obtain ⟨h1,rfl,rfl⟩:=hc
     refine ⟨_,zn hu hs ha hh hm (by simp) (by omega) (by simp;omega) (by simp) (by simp),?_⟩
     rw [h1]
     exact ⟨ad,by simp⟩
   · split at h
     · rename_i hc
       simp at h;obtain ⟨rfl,rfl⟩:=h
       obtain ⟨h1,h2,rfl⟩:=hc
       have hhd:ch.getD ((0:Nat):Int)=0:=by simpa using h2
       refine ⟨_,zn hu hs ha hh hm (by simp) (by omega) (by omega) (by simp;omega) (by simp),?_⟩
       rw [h1,hhd]
       by_cases hc:cap=0
       · subst hc;exact ⟨ad,0,by simp⟩
       · refine ⟨ad.add 0,cap,?_⟩
         simp [hc]
     · cases h
 | lst ks e=>
   dsimp only at h
   split at h
   · rename_i hc
     simp at h;obtain ⟨rfl,rfl⟩:=h
     obtain ⟨h1,rfl,rfl⟩:=hc
     obtain ⟨n,_,hv⟩:=hr
     rcases hv with ⟨⟨ad,rfl⟩,_⟩ | ⟨o,off,len,cap,cs,rfl,_⟩
     · refine ⟨_,zn hu hs ha hh hm (by simp) (by omega) (by simp;omega) (by simp) (by simp),?_⟩
       rw [h1]
       exact ⟨ad,by simp⟩
     · refine ⟨_,zn hu hs ha hh hm (by simp) (by omega) (by simp;omega) (by simp) (by simp),?_⟩
       rw [h1]
       exact ⟨some ⟨o,off,none⟩,by simp⟩
   · cases h
 | _=>dsimp only at h;cases h
theorem Yu {t el:TypeId} {n:Nat} (hu:P.underlying t=some (.array n el)) {x v:AV} {y:Value} {lo hi mx:Option Value} {ca ch cm:Option Int} {ps:List PE} (hr:Rel I g x y)
   (ha:jD lo ca) (hh:jD hi ch) (hm:jD mx cm) (h:iq P el n x ca ch cm=some (v,ps)) :
   ∃z,(Instr.sliceAt t y lo hi mx).run P w=.ok z w∧Rel I g v z:=by
 unfold iq at h
 split at h
 · rename_i sz b s' k hs
   dsimp only at h
   split at h
   · rename_i hc
     simp at h;obtain ⟨rfl,rfl⟩:=h
     obtain ⟨m,p,h1,h2,h3,rfl⟩:=hr
     have hm0:m=0:=by simp [E.den] at h1;exact h1.symm
     subst hm0
     refine ⟨_,?_,p,n - (ca.getD 0).toNat,h3,?_,rfl⟩
     · simp only [Instr.sliceAt,Sem.run_bind,run_underlying hu,Result.andThen,Instr.sureAddr,Sem.run_pure,uy (b:=false) (len:=n) (cap:=n) ha hh hm (by simp) hc.1 (by omega) (by simp;omega) (by simp),qB hs]
       simp only [Option.getD_none,Int.toNat_natCast]
       rw [if_neg (by omega),addr_add]
       congr 3
       · simp [Nat.add_assoc]
       · omega
     · omega
   · cases h
 · cases h
theorem fV {el:TypeId} {l:List AV} {cs:Array Value} {i n:Nat} {ag:Bool} {v:AV} (h:jl l i n ag=some v) (hr:qj I g l cs.toList) (hag:wM P el=some ag) (hn:qp P el=some n) :
   ∃y,(part el cs i).run P w=.ok y w∧Rel I g v y:=by
 cases ag with
 | true=>
   simp only [jl,if_true] at h
   split at h
   · rename_i hle
     simp at h;subst h
     refine ⟨.agg (cs.extract i (i+n)),by simp only [part,Sem.run_bind,yL hag,Result.andThen,if_true,qB hn,Sem.run_pure],_,rfl,?_⟩
     have:=(hr.drop i).take n
     simpa [Array.toList_extract,List.extract_eq_take_drop] using this
   · cases h
 | false=>
   simp only [jl,Bool.false_eq_true,if_false] at h
   obtain ⟨y,h1,h2⟩:=hr.get h
   have h1':cs[i]?=some y:=by simpa using h1
   exact ⟨y,by simp only [part,Sem.run_bind,yL hag,Result.andThen,Bool.false_eq_true,if_false,h1',Sem.run_pure],h2⟩
theorem mY:∀{ks:List CK} {l m:List Value},zq ks l=some m→∃r,l=r++m∧r.length=ks.length∧∀(j:Nat) (k:CK),ks[j]?=some k→r[j]?=some (k.val 0)
 | [],l,m,h=>by simp [zq] at h;subst h;exact ⟨[],rfl,rfl,by simp⟩
 | .int k::ks,.int k' n::l,m,h=>by
   simp only [zq] at h
   split at h
   · rename_i hc
     obtain ⟨rfl,rfl⟩:=hc
     obtain ⟨r,h1,h2,h3⟩:=mY h
     refine ⟨.int k 0::r,by simp [h1],by simp [h2],fun j c hj=>?_⟩
     cases j with
     | zero=>simp at hj;subst hj;rfl
     | succ j=>simp at hj ⊢;exact h3 j c hj
   · cases h
 | .bool::ks,.bool false::l,m,h=>by
   simp only [zq] at h
   obtain ⟨r,h1,h2,h3⟩:=mY h
   refine ⟨.bool false::r,by simp [h1],by simp [h2],fun j c hj=>?_⟩
   cases j with
   | zero=>simp at hj;subst hj;rfl
   | succ j=>simp at hj ⊢;exact h3 j c hj
 | .bool::ks,.bool true::l,m,h=>by simp [zq] at h
 | .int _::_,[],_,h=>by simp [zq] at h
 | .bool::_,[],_,h=>by simp [zq] at h
 | .int _::_,.bool _::_,_,h=>by simp [zq] at h
 | .int _::_,.float _ _::_,_,h=>by simp [zq] at h
 | .int _::_,.complex _ _ _::_,_,h=>by simp [zq] at h
 | .int _::_,.string _::_,_,h=>by simp [zq] at h
 | .int _::_,.pointer _::_,_,h=>by simp [zq] at h
 | .int _::_,.slice _ _ _::_,_,h=>by simp [zq] at h
 | .int _::_,.map _::_,_,h=>by simp [zq] at h
 | .int _::_,.chan _::_,_,h=>by simp [zq] at h
 | .int _::_,.func _ _ _::_,_,h=>by simp [zq] at h
 | .int _::_,.nilFunc::_,_,h=>by simp [zq] at h
 | .int _::_,.iface _ _::_,_,h=>by simp [zq] at h
 | .int _::_,.nilIface::_,_,h=>by simp [zq] at h
 | .int _::_,.agg _::_,_,h=>by simp [zq] at h
 | .int _::_,.tuple _::_,_,h=>by simp [zq] at h
 | .bool::_,.int _ _::_,_,h=>by simp [zq] at h
 | .bool::_,.float _ _::_,_,h=>by simp [zq] at h
 | .bool::_,.complex _ _ _::_,_,h=>by simp [zq] at h
 | .bool::_,.string _::_,_,h=>by simp [zq] at h
 | .bool::_,.pointer _::_,_,h=>by simp [zq] at h
 | .bool::_,.slice _ _ _::_,_,h=>by simp [zq] at h
 | .bool::_,.map _::_,_,h=>by simp [zq] at h
 | .bool::_,.chan _::_,_,h=>by simp [zq] at h
 | .bool::_,.func _ _ _::_,_,h=>by simp [zq] at h
 | .bool::_,.nilFunc::_,_,h=>by simp [zq] at h
 | .bool::_,.iface _ _::_,_,h=>by simp [zq] at h
 | .bool::_,.nilIface::_,_,h=>by simp [zq] at h
 | .bool::_,.agg _::_,_,h=>by simp [zq] at h
 | .bool::_,.tuple _::_,_,h=>by simp [zq] at h
theorem lJ {ks:List CK}:∀{n:Nat} {l m:List Value},nO ks n l=some m→∃r,l=r++m∧r.length=n*ks.length∧
   ∀(i j:Nat) (k:CK),i<n→ks[j]?=some k→r[i*ks.length+j]?=some (k.val 0)
 | 0,l,m,h=>by simp [nO] at h;subst h;exact ⟨[],rfl,by simp,by intro i j k hi;omega⟩
 | n+1,l,m,h=>by
   simp only [nO] at h
   split at h
   · rename_i l' h1
     obtain ⟨r1,e1,e2,e3⟩:=mY h1
     obtain ⟨r2,e4,e5,e6⟩:=lJ h
     refine ⟨r1++r2,by rw [e1,e4,List.append_assoc],by rw [List.length_append,e2,e5,Nat.add_mul];omega,fun i j k hi hj=>?_⟩
     have hjl:j<ks.length:=(List.getElem?_eq_some_iff.1 hj).1
     cases i with
     | zero=>rw [Nat.zero_mul,Nat.zero_add,List.getElem?_append_left (by omega)];exact e3 j k hj
     | succ i=>
       rw [Nat.add_mul,Nat.one_mul,List.getElem?_append_right (by omega),e2,show i*ks.length+ks.length+j - ks.length=i*ks.length+j by omega]
       exact e6 i j k (by omega) hj
   · cases h
theorem lY:∀{n:Nat} {acc l a b:List Value},fQ n acc l=some (a,b)→a++b=acc.reverse++l∧a.length=acc.length+n
 | 0,acc,l,a,b,h=>by simp [fQ] at h;obtain ⟨rfl,rfl⟩:=h;simp
 | n+1,acc,v::l,a,b,h=>by
   simp only [fQ] at h
   obtain ⟨h1,h2⟩:=lY h
   refine ⟨by rw [h1];simp,by rw [h2];simp;omega⟩
 | n+1,acc,[],a,b,h=>by simp [fQ] at h
theorem gY {b:Big} {l m:List AV} (h:yG P b=some (l,m)):∃(i:TypeInfo) (cs:Array Value) (xs ys zs:List Value),P.info? b.t=some i∧i.zero=some (.agg cs)∧cs.toList=xs++ys++zs∧
   (∀w,(zeroValue b.t).run P w=.ok (.agg cs) w)∧(∀(I:Itp) (g:G),qj I g l xs∧qj I g m zs)∧ys.length=b.n*b.ks.length∧
   ∀(r j:Nat) (k:CK),r<b.n→b.ks[j]?=some k→ys[r*b.ks.length+j]?=some (k.val 0):=by
 unfold yG at h
 cases hi:P.info? b.t with
 | none=>simp [hi] at h
 | some i=>
   simp only [hi,Option.bind_some] at h
   split at h
   · rename_i cs hz
     split at h
     · rename_i xs rest h1
       split at h
       · rename_i zs h2
         split at h
         · rename_i l' m' h3 h4
           simp at h
           obtain ⟨rfl,rfl⟩:=h
           obtain ⟨e1,_⟩:=lY h1
           obtain ⟨ys,e2,e3,e4⟩:=lJ h2
           refine ⟨i,cs,xs,ys,zs,rfl,hz,?_,fun w=>by simp [zeroValue,vJ hi,Sem.run_bind,Result.andThen,hz],fun I g=>⟨xk h3,xk h4⟩,e3,e4⟩
           rw [List.append_assoc,←e2,e1];simp
         · cases h
       · cases h
     · cases h
   · cases h
theorem K4 {α:Type}:∀(vs l r:List α) (o:Nat),o+vs.length≤l.length→yu (l++r) o vs=yu l o vs++r
 | [],l,r,o,_=>by rw [wP,wP]
 | v::vs,l,r,o,h=>by
   simp only [yC,List.length_cons] at h ⊢
   rw [List.set_append_left _ _ (by omega),K4 vs (l.set o v) r (o+1) (by simp;omega)]
theorem ZF {α:Type}:∀(vs l r:List α) (o:Nat),l.length≤o→yu (l++r) o vs=l++yu r (o - l.length) vs
 | [],l,r,o,_=>by rw [wP,wP]
 | v::vs,l,r,o,h=>by
   simp only [yC]
   rw [List.set_append_right _ _ h,ZF vs l (r.set (o - l.length) v) (o+1) (by omega),show o+1 - l.length=o - l.length+1 by omega]
theorem qj.set {i:Nat} {v:AV} {x:Value} (hv:Rel I g v x):∀{l:List AV} {xs:List Value},qj I g l xs→qj I g (l.set i v) (xs.set i x):=by
 induction i with
 | zero=>intro l xs h;cases l <;> cases xs <;> simp_all [qj]
 | succ i ih=>
   intro l xs h
   cases l with
   | nil=>cases xs with
     | nil=>trivial
     | cons _ _=>simp [qj] at h
   | cons b l=>cases xs with
     | nil=>simp [qj] at h
     | cons y xs=>exact ⟨h.1,ih h.2⟩
theorem qj.yu:∀{vs:List AV} {ys:List Value} {l:List AV} {xs:List Value} (i:Nat),qj I g l xs→qj I g vs ys→qj I g (Sx.yu l i vs) (Sx.yu xs i ys)
 | [],[],_,_,_,h,_=>by rw [wP,wP];exact h
 | v::vs,y::ys,_,_,i,h,hv=>by rw [yC,yC];exact qj.yu (i+1) (h.set hv.1) hv.2
 | [],_::_,_,_,_,_,h=>by simp [qj] at h
 | _::_,[],_,_,_,_,h=>by simp [qj] at h
theorem uG (off:Nat):∀(vs:List Value) (k:Nat) (cs:Array Value),
   ((vs.zipIdx k).foldl (fun (cs:Array Value) (x:Value × Nat)=>cs.setIfInBounds (off+x.2) x.1) cs).toList=yu cs.toList (off+k) vs
 | [],k,cs=>by rw [wP];rfl
 | v::vs,k,cs=>by
   simp only [List.zipIdx_cons,List.foldl_cons,yC]
   rw [uG off vs (k+1)]
   simp [Nat.add_assoc]
theorem sJ {place:Nat→Option (Nat × Nat)} {ml:Nat}:∀{ps:List (Nat × AV)} {qs:List (Nat × Value)} {pre post l m:List AV} {xs ys zs:List Value} {cs:Array Value},
   ps.map (·.1)=qs.map (·.1)→qj I g (ps.map (·.2)) (qs.map (·.2))→(∀x∈ps,x.2≠.any∧x.2.fT=false)→qj I g pre xs→qj I g post zs→cs.toList=xs++ys++zs→ys.length=ml→
   dX place ml pre post ps=some (l,m)→∃(ds:Array Value) (xs' zs':List Value),Instr.fill place cs qs=some ds∧ds.toList=xs'++ys++zs'∧qj I g l xs'∧qj I g m zs'
 | [],[],pre,post,l,m,xs,ys,zs,cs,_,_,_,h1,h2,h3,_,hf=>by
   simp [dX] at hf;obtain ⟨rfl,rfl⟩:=hf;exact ⟨cs,xs,zs,rfl,h3,h1,h2⟩
 | (i,v)::ps,(j,x)::qs,pre,post,l,m,xs,ys,zs,cs,e,hr,hn,h1,h2,h3,h4,hf=>by
   simp at e
   obtain ⟨rfl,e⟩:=e
   obtain ⟨hv,hr⟩:=hr
   have hc:=mq hv (hn (i,v) (by simp)).1 (hn (i,v) (by simp)).2
   have hlen:v.cells.length=x.cells.size:=by simpa using hc.length
   have hpre:=h1.length
   have hpost:=h2.length
   have hsz:cs.size=xs.length+ys.length+zs.length:=by have:=congrArg List.length h3;simp at this;omega
   simp only [dX] at hf
   simp only [Instr.fill]
   cases hp:place i with
   | none=>simp [hp] at hf
   | some os=>
     obtain ⟨off,size⟩:=os
     simp only [hp] at hf ⊢
     split at hf
     · cases hf
     rename_i hvs
     have hvs:v.cells.length=size:=Decidable.not_not.1 hvs
     have e0:=uG off x.cells.toList 0 cs
     rw [Nat.add_zero] at e0
     have e2:(x.cells.zipIdx.foldl (fun cs (c,j)=>cs.setIfInBounds (off+j) c) cs).toList=yu cs.toList off x.cells.toList:=by
       rw [←e0,←Array.foldl_toList];simp
     have hxl:x.cells.toList.length=size:=by simp;omega
     split at hf
     · rename_i hle
       rw [if_neg (show ¬(decide (x.cells.size≠size) || decide (off+x.cells.size > cs.size))=true by simp;omega)]
       refine sJ (xs:=yu xs off x.cells.toList) (ys:=ys) (zs:=zs) (by simpa using e) hr (fun y hy=>hn y (by simp [hy])) (h1.yu off hc) h2 ?_ h4 hf
       rw [e2,h3,List.append_assoc,K4 _ _ _ _ (by omega),List.append_assoc]
     · split at hf
       · rename_i hle
         rw [if_neg (show ¬(decide (x.cells.size≠size) || decide (off+x.cells.size > cs.size))=true by simp;omega)]
         have hsub:=h2.yu (off - (pre.length+ml)) hc
         refine sJ (xs:=xs) (ys:=ys) (zs:=yu zs (off - (pre.length+ml)) x.cells.toList) (by simpa using e) hr (fun y hy=>hn y (by simp [hy])) h1 hsub ?_ h4 hf
         rw [e2,h3,ZF _ _ _ _ (by simp;omega)]
         congr 2
         simp;omega
       · cases hf
 | [],_::_,_,_,_,_,_,_,_,_,h,_,_,_,_,_,_,_=>by simp at h
 | _::_,[],_,_,_,_,_,_,_,_,h,_,_,_,_,_,_,_=>by simp at h
end Go.Sx
end
namespace Go.Sx
open Go
variable {A:Amb} {I:Itp} {P:Program} {g:G} {X:Nat→Prop} {ts:qL} {a:Act} {M:Mem} {w:World}
theorem iU {place:Nat→Option (Nat × Nat)}:∀{ps:List (Nat × AV)} {qs:List (Nat × Value)} {l m:List AV} {cs:Array Value},
   ps.map (·.1)=qs.map (·.1)→qj I g (ps.map (·.2)) (qs.map (·.2))→(∀x∈ps,x.2≠.any∧x.2.fT=false)→qj I g l cs.toList→wU place l ps=some m→
   ∃ds,Instr.fill place cs qs=some ds∧qj I g m ds.toList
 | [],[],l,m,cs,_,_,_,h,hf=>by
   simp [wU] at hf;subst hf;exact ⟨cs,rfl,h⟩
 | (i,v)::ps,(j,x)::qs,l,m,cs,h1,h2,h3,h,hf=>by
   simp at h1
   obtain ⟨rfl,h1⟩:=h1
   obtain ⟨hv,h2⟩:=h2
   have hc:=mq hv (h3 (i,v) (by simp)).1 (h3 (i,v) (by simp)).2
   have hlen:v.cells.length=x.cells.size:=by simpa using hc.length
   have hl:l.length=cs.size:=by simpa using h.length
   simp only [wU] at hf
   simp only [Instr.fill]
   cases hp:place i with
   | none=>simp [hp] at hf
   | some os=>
     obtain ⟨off,size⟩:=os
     simp only [hp] at hf ⊢
     split at hf
     · cases hf
     · rename_i hn
       rw [hlen,hl] at hn
       rw [if_neg (by simpa using hn)]
       refine iU (by simpa using h1) h2 (fun y hy=>h3 y (by simp [hy])) ?_ hf
       have e:=uG off x.cells.toList 0 cs
       rw [Nat.add_zero] at e
       have e2:(x.cells.zipIdx.foldl (fun cs (c,j)=>cs.setIfInBounds (off+j) c) cs).toList=yu cs.toList off x.cells.toList:=by
         rw [←e,←Array.foldl_toList];simp
       rw [e2]
       exact h.yu off hc
 | [],_::_,_,_,_,h,_,_,_,_=>by simp at h
 | _::_,[],_,_,_,h,_,_,_,_=>by simp at h
theorem run_places:∀(fs:List Field) {pl:List (Nat × Nat)},kM P fs=some pl→∀w:World,
   (fs.mapM fun f=>(do pure (f.offset,←sizeOf f.type):Sem (Nat × Nat))).run P w=.ok pl w
 | [],pl,h,w=>by simp [kM] at h;subst h;rfl
 | f::fs,pl,h,w=>by
   simp only [kM] at h
   split at h
   · rename_i s l h1 h2
     simp at h;subst h
     have:=run_places fs h2 w
     simp only [List.mapM_cons,Sem.run_bind,qB h1,Result.andThen,Sem.run_pure,this]
   · cases h
theorem bY {ks:List SK} {e:E} {n:Int} (h:e.den I g.env=some (.i n)):(kZ ks e).den I g.env=some (.i (llen n ks.length)):=
 vk (j:=14) h (show (E.lit ks.length).den I g.env=some (.i (ks.length:Nat)) from rfl) (show (E.lit 0).den I g.env=some (.i 0) from rfl) (show (E.lit 0).den I g.env=some (.i 0) from rfl)
theorem VU {e i:E} {n j:Int} {w k:Nat} (h:e.den I g.env=some (.i n)) (hi:i.den I g.env=some (.i j)):(E.fn 1015 e i (.lit w) (.lit k)).den I g.env=some (.i (fF n j w k)):=
 vk (j:=15) h hi (show (E.lit w).den I g.env=some (.i (w:Nat)) from rfl) (show (E.lit k).den I g.env=some (.i (k:Nat)) from rfl)
theorem Xj {n:Int} {w len:Nat} (hw:w≠0) (h:(vP n).length=len*w):llen n w=len:=by
 simp only [llen,Int.toNat_natCast]
 rw [h,Nat.mul_div_cancel _ (Nat.pos_of_ne_zero hw)]
theorem iG {n:Int} {w:Nat} (h:vP n=[]):llen n w=0:=by simp [llen,h]
theorem SK.wh (c:SK) (n:Int):c.ck.rel g n (c.val n):=by cases c <;> rfl
theorem iV {ks:List SK} {e i:E} {n j:Int} (h:e.den I g.env=some (.i n)) (hi:i.den I g.env=some (.i j)):∀(m k:Nat) {l:List AV},bX ks e i k m=some l→
   l.length=m∧∃xs:List Value,qj I g l xs∧∀q v,xs[q]?=some v→∃c,ks[k+q]?=some c∧v=c.val (fF n j ks.length ((k+q:Nat):Int))
 | 0,k,l,hl=>by
   simp only [bX,Option.some.injEq] at hl
   subst hl
   exact ⟨rfl,[],trivial,fun q v hv=>by simp at hv⟩
 | m+1,k,l,hl=>by
   simp only [bX] at hl
   split at hl
   · rename_i c l' h1 h2
     simp only [Option.some.injEq] at hl
     subst hl
     obtain ⟨h3,xs,h4,h5⟩:=iV h hi m (k+1) h2
     refine ⟨by simp [h3],c.val (fF n j ks.length (k:Nat))::xs,⟨Go.Sx.wh (VU h hi) (c.wh _),h4⟩,fun q v hv=>?_⟩
     cases q with
     | zero=>simp at hv;exact ⟨c,by simpa using h1,hv.symm⟩
     | succ q=>
       simp at hv
       obtain ⟨c',h6,h7⟩:=h5 q v hv
       exact ⟨c',by rw [←h6];congr 1;omega,by rw [h7];congr 3;omega⟩
   · cases hl
theorem ku {α:Type} {x:Array α} {a:α} (h:x.toList=[a]):x=#[a]:=Array.toList_inj.1 (by simpa using h)
theorem xP {α:Type} {x:Array α} {a b:α} (h:x.toList=[a,b]):x=#[a,b]:=Array.toList_inj.1 (by simpa using h)
theorem oI {t:TypeId} {f:Nat} {fd:Field} (h:field? P t f=some fd):∃fs,P.underlying t=some (.struct fs)∧fs[f]?=some fd:=by
 unfold field? at h
 split at h
 · rename_i fs hu;exact ⟨fs,hu,h⟩
 · cases h
theorem pO {p:Addr} {fd:Field} {n:Nat} (h:qp P fd.type=some (n+1)):(fieldPlace p fd).run P w=.ok (p.add fd.offset) w:=by
 simp [fieldPlace,qB h,Result.andThen]
theorem Gh {l:List AV} {cs:Array Value} (h:qj I g l cs.toList) (o n:Nat) (_hn:o+n≤l.length):Rel I g (.agg ((l.drop o).take n)) (.agg (cs.extract o (o+n))):=by
 refine ⟨_,rfl,?_⟩
 have:=(h.drop o).take n
 simpa [Array.toList_extract,List.extract_eq_take_drop] using this
set_option maxHeartbeats 1000000 in
theorem H9 {c:CK} (hc:c.plain=true):∀l:List Int,qj I g (l.map fun m=>c.av (.lit m)) (l.map c.val)
 | []=>trivial
 | _::l=>⟨wh rfl ((CK.w9 hc).2 rfl),H9 hc l⟩
theorem YN {kn:Kn} {o:Oper} {v:AV} {ps:List PE} (hG:GOk kn.globs A) (hm:qW A I P g M w) (ht:wm I g X ts a.tmps) (hx:∀t,.tmp t∈o.op.operands.toList→¬X t)
   (h:jw P kn ts M o.op=some (v,ps)) (hp:∀q∈ps,q.den I g.env):∃x,(execOp a.eval o).run P w=.ok (.value x) w∧Rel I g v x:=by
 have ev:∀{y:Operand} {u:AV},y∈o.op.operands.toList→evalOp ts y=some u→Rel I g u (a.eval y):=fun hy hu=>zm ht hu fun t e=>hx t (e ▸ hy)
 cases hop:o.op with
 | move y=>
   rw [hop] at h ev
   simp only [jw] at h
   cases he:evalOp ts y with
   | none=>simp [he] at h
   | some u=>
     simp [he] at h
     obtain ⟨rfl,rfl⟩:=h
     exact ⟨_,by simp [execOp,hop],ev (by simp [Op.operands]) he⟩
 | assign y=>
   rw [hop] at h ev
   simp only [jw] at h
   cases he:evalOp ts y with
   | none=>simp [he] at h
   | some u=>
     simp [he] at h
     obtain ⟨rfl,rfl⟩:=h
     exact ⟨_,by simp [execOp,hop],ev (by simp [Op.operands]) he⟩
 | pick c x y=>
   rw [hop] at h ev
   simp only [jw] at h
   split at h
   · rename_i n hc
     have h1:=ev (by simp [Op.operands]) hc
     obtain ⟨m,h2,h3⟩:=h1
     have hmn:m=n:=by simp [E.den] at h2;exact h2.symm
     subst hmn
     by_cases hn:m=0
     · rw [if_pos hn] at h
       cases he:evalOp ts y with
       | none=>simp [he] at h
       | some u=>
         simp [he] at h
         obtain ⟨rfl,rfl⟩:=h
         exact ⟨a.eval y,by simp [execOp,hop,h3,hn,asBool],ev (by simp [Op.operands]) he⟩
     · rw [if_neg hn] at h
       cases he:evalOp ts x with
       | none=>simp [he] at h
       | some u=>
         simp [he] at h
         obtain ⟨rfl,rfl⟩:=h
         exact ⟨a.eval x,by simp [execOp,hop,h3,hn,asBool],ev (by simp [Op.operands]) he⟩
   · cases h
 | load t y=>
   rw [hop] at h ev
   simp only [jw] at h
   split at h
   · rename_i b r s k ag n he hag hn
     have h1:=ev (by simp [Op.operands]) he
     obtain ⟨m,p,h2,h3,h4,h5⟩:=h1
     obtain ⟨z,h6,h7⟩:=Ja hm h hp h2 h3 h4 hag hn
     exact ⟨z,by simp [execOp,hop,h5,h6,Result.andThen],h7⟩
   · rename_i gv k n he hag hn
     cases hgl:Xu kn.globs gv k with
     | none=>simp [hgl] at h
     | some u=>
       simp [hgl] at h
       obtain ⟨rfl,rfl⟩:=h
       have h1:=ev (by simp [Op.operands]) he
       simp only [Rel] at h1
       unfold Xu at hgl
       split at hgl
       · rename_i x hx
         cases hl:x.l[k]? with
         | none=>simp [hl] at hgl
         | some m=>
           simp [hl] at hgl
           have hmem:=List.mem_of_find?_eq_some hx
           have hgx:x.g=gv:=by simpa using List.find?_some hx
           obtain ⟨gp,g1,g2,c,T,fr,g3,g4⟩:=hG x hmem
           have hh:=hm.keep _ g1 g2
           rw [g3,hgx] at hh
           refine ⟨x.k.val m,?_,?_⟩
           · have:=jE (P:=P) (t:=t) (o:=k) (b:=gv) (v:=x.k.val m) hag (by rw [zo hh];exact g4.1 k m hl)
             simp [execOp,hop,h1,this,Result.andThen]
           · rw [←hgl]
             exact wh rfl ((CK.w9 gp).2 rfl)
       · cases hgl
   · rename_i gv k n he hag hn
     cases hgl:Zg kn.globs gv k n with
     | none=>simp [hgl] at h
     | some u=>
       simp [hgl] at h
       obtain ⟨rfl,rfl⟩:=h
       have h1:=ev (by simp [Op.operands]) he
       simp only [Rel] at h1
       unfold Zg at hgl
       split at hgl
       · rename_i x hx
         split at hgl
         rotate_left
         · cases hgl
         rename_i hle
         cases hgl
         have hmem:=List.mem_of_find?_eq_some hx
         have hgx:x.g=gv:=by simpa using List.find?_some hx
         obtain ⟨gp,g1,g2,c,T,fr,g3,g4⟩:=hG x hmem
         have hh:=hm.keep _ g1 g2
         rw [g3,hgx] at hh
         obtain ⟨cs,hcs⟩:∃cs:List Value,cs=((x.l.drop k).take n).map x.k.val:=⟨_,rfl⟩
         have hrun:=kH (P:=P) (w:=w) (o:=k) (b:=gv) (cs:=cs) hag hn (by simp [hcs];omega) (fun j v hv=>by
           rw [hcs,List.getElem?_map,Option.map_eq_some_iff] at hv
           obtain ⟨m,hm',rfl⟩:=hv
           rw [List.getElem?_take] at hm'
           split at hm'
           · rw [List.getElem?_drop] at hm'
             rw [zo hh]
             exact g4.1 (k+j) m hm'
           · cases hm')
         exact ⟨_,by simp [execOp,hop,h1,hrun,Result.andThen],cs.toArray,rfl,by rw [hcs];exact H9 gp _⟩
       · cases hgl
   · rename_i a' n' he hag hn
     simp only [Option.some.injEq,Prod.mk.injEq] at h
     obtain ⟨rfl,rfl⟩:=h
     obtain ⟨o',q,z,y',h1,h2,h3,h4⟩:=ev (by simp [Op.operands]) he
     obtain ⟨_,_,⟨T,fr,hh⟩,_⟩:=hm.frz o' z h2
     have hrun:=jE (P:=P) (w:=w) (o:=q) (b:=o') (v:=y') hag (by rw [zo hh];exact h3)
     exact ⟨_,by simp [execOp,hop,h1,hrun,Result.andThen],h4⟩
   · rename_i ks e i k n' he hag hn
     cases hl:bX ks e i k n' with
     | none=>simp [hl] at h
     | some l=>
       simp only [hl,Option.map_some,Option.some.injEq,Prod.mk.injEq] at h
       obtain ⟨rfl,rfl⟩:=h
       obtain ⟨n,j,h1,h2,h3,o',off,len,cs,h4,h5,h6,h7,h8⟩:=ev (by simp [Op.operands]) he
       obtain ⟨_,_,⟨T,fr,hh⟩,_⟩:=hm.frz o' cs h5
       obtain ⟨hll,xs,hxs,hval⟩:=iV h1 h2 n' k hl
       have hrun:=kH (P:=P) (w:=w) (o:=off+j.toNat*ks.length+k) (b:=o') (cs:=xs) hag hn (by rw [←hxs.length,hll]) (fun q v hv=>by
         obtain ⟨c,h9,rfl⟩:=hval q v hv
         rw [zo hh]
         have:=h8 j.toNat (k+q) c (by omega) h9
         simp only [fF,Int.toNat_natCast]
         rw [←this];congr 1;omega)
       exact ⟨.agg xs.toArray,by simp [execOp,hop,h4,hrun,Result.andThen],xs.toArray,rfl,by simpa using hxs⟩
   · rename_i ks e i k n' he hag hn
     cases hl:ks[k]? with
     | none=>simp [hl] at h
     | some c=>
       simp only [hl,Option.map_some,Option.some.injEq,Prod.mk.injEq] at h
       obtain ⟨rfl,rfl⟩:=h
       obtain ⟨n,j,h1,h2,h3,o',off,len,cs,h4,h5,h6,h7,h8⟩:=ev (by simp [Op.operands]) he
       obtain ⟨_,_,⟨T,fr,hh⟩,_⟩:=hm.frz o' cs h5
       have hrun:=jE (P:=P) (w:=w) (o:=off+j.toNat*ks.length+k) (b:=o') (v:=c.val (fF n j ks.length k)) hag (by
         rw [zo hh]
         have:=h8 j.toNat k c (by omega) hl
         simp only [fF,Int.toNat_natCast]
         exact this)
       exact ⟨_,by simp [execOp,hop,h4,hrun,Result.andThen],Go.Sx.wh (VU h1 h2) (c.wh _)⟩
   · cases h
 | nilCheck y=>
   rw [hop] at h ev
   simp only [jw] at h
   split at h
   · rename_i b r s k he
     simp at h
     obtain ⟨rfl,rfl⟩:=h
     have h1:=ev (by simp [Op.operands]) he
     have h0:=h1
     obtain ⟨m,p,h2,h3,h4,h5⟩:=h1
     exact ⟨_,by simp only [execOp,hop,h5];rfl,by rw [h5] at h0;exact h0⟩
   · rename_i gv k he
     simp at h
     obtain ⟨rfl,rfl⟩:=h
     have h1:=ev (by simp [Op.operands]) he
     simp only [Rel] at h1
     exact ⟨_,by simp only [execOp,hop,h1];rfl,rfl⟩
   · rename_i ks e i k he
     simp only [Option.some.injEq,Prod.mk.injEq] at h
     obtain ⟨rfl,rfl⟩:=h
     have h1:=ev (by simp [Op.operands]) he
     have h0:=h1
     obtain ⟨n,j,_,_,_,o',off,len,cs,h4,_⟩:=h1
     exact ⟨_,by simp only [execOp,hop,h4];rfl,by rw [h4] at h0;exact h0⟩
   · cases h
 | binOp bo t x y yt=>
   rw [hop] at h ev
   simp only [jw] at h
   split at h
   · rename_i u u' he he'
     obtain ⟨r,h1,h2⟩:=Nl h hp (ev (by simp [Op.operands]) he) (ev (by simp [Op.operands]) he') x y w
     exact ⟨r,by simp only [execOp,hop];rw [Sem.run_bind,h1];rfl,h2⟩
   · cases h
 | unOp uo t x=>
   rw [hop] at h ev
   cases uo with
   | not=>
     simp only [jw] at h
     split at h
     · rename_i e he
       simp at h
       obtain ⟨rfl,rfl⟩:=h
       obtain ⟨n,h1,h2⟩:=ev (by simp [Op.operands]) he
       refine ⟨.bool (!decide (n≠0)),by simp only [execOp,hop,h2];rfl,_,qy h1 (show (E.lit 0).den I g.env=some (.i 0) from rfl),?_⟩
       by_cases hn:n=0 <;> simp [BO.ev,hn]
     · cases h
   | neg=>
     simp only [jw] at h
     split at h
     · rename_i k e he
       simp only [Option.some.injEq] at h
       obtain ⟨n,h1,h2⟩:=ev (by simp [Op.operands]) he
       exact ⟨.int k (k.wrap (0 - n)),by simp only [execOp,hop,h2];rfl,lq h hp (qy (o:=.sub) (show (E.lit 0).den I g.env=some (.i 0) from rfl) h1)⟩
     · cases h
   | xor=>
     simp only [jw] at h
     split at h
     · rename_i k e he
       simp at h
       obtain ⟨rfl,rfl⟩:=h
       obtain ⟨n,h1,h2⟩:=ev (by simp [Op.operands]) he
       exact ⟨.int k (wX 2 k (if k.signed then -1 else k.max) n),by simp only [execOp,hop,h2];rfl,_,qy (o:=.bits 2 k) (show (E.lit _).den I g.env=some (.i _) from rfl) h1,rfl⟩
     · cases h
   | _=>simp [jw] at h
 | convert src dst x=>
   rw [hop] at h ev
   simp only [jw] at h
   split at h
   · rename_i k e k' s he hu hs
     simp at h
     obtain ⟨rfl,rfl⟩:=h
     obtain ⟨n,h1,h2⟩:=ev (by simp [Op.operands]) he
     refine ⟨.int k' (k'.wrap n),?_,_,nZ h1,rfl⟩
     simp only [execOp,hop,h2,convert,Sem.run_bind,run_underlying hs,run_underlying hu,Result.andThen]
     cases s <;> rfl
   · cases h
 | makeFunc fn first cap=>
   rw [hop] at h
   cases fn with
   | func f=>
     simp only [jw] at h
     split at h
     · rename_i l hf hc
       simp at h
       obtain ⟨rfl,rfl⟩:=h
       have h0:=yA (a:=a) ht hf fun t ht'=>hx t (by rw [hop];simp [Op.operands];exact .inl (by simpa using ht'))
       have hf':first=#[]:=by
         have:=h0.length
         simp at this
         exact Array.eq_empty_of_size_eq_zero this.symm
       subst hf'
       have h1:=yA (a:=a) ht hc fun t ht'=>hx t (by rw [hop];simpa [Op.operands] using ht')
       exact ⟨_,by simp only [execOp,hop];rfl,cap.map a.eval,by simp,by simpa using h1⟩
     · rename_i m l hne hf hc
       simp at h
       obtain ⟨rfl,rfl⟩:=h
       have h0:=yA (a:=a) ht hf fun t ht'=>hx t (by rw [hop];simp [Op.operands];exact .inl (by simpa using ht'))
       have h1:=yA (a:=a) ht hc fun t ht'=>hx t (by rw [hop];simp [Op.operands];exact .inr (by simpa using ht'))
       exact ⟨_,by simp only [execOp,hop];rfl,first.map a.eval,cap.map a.eval,by simp,by simpa using h0,by simpa using h1⟩
     · cases h
   | _=>simp [jw] at h
 | fieldAddr t x f=>
   rw [hop] at h ev
   simp only [jw] at h
   split at h
   · rename_i b r s k fd he hf
     split at h
     · rename_i n hn
       simp at h
       obtain ⟨rfl,rfl⟩:=h
       obtain ⟨m,p,h2,h3,h4,h5⟩:=ev (by simp [Op.operands]) he
       obtain ⟨fs,hu,hfs⟩:=oI hf
       refine ⟨.pointer (some ⟨p.blk,p.base+m.toNat*s+(k+fd.offset),none⟩),?_,m,p,h2,h3,h4,rfl⟩
       simp only [execOp,hop,h5,Instr.fieldAt,Sem.run_bind,run_underlying hu,Result.andThen,hfs,Instr.sureAddr,Sem.run_pure,pO hn,addr_add]
       simp [Nat.add_assoc]
     · cases h
   · rename_i ks e i k fd he hf
     split at h
     · rename_i n hn
       simp only [Option.some.injEq,Prod.mk.injEq] at h
       obtain ⟨rfl,rfl⟩:=h
       obtain ⟨n',j,h1,h2,h3,o',off,len,cs,h4,h5⟩:=ev (by simp [Op.operands]) he
       obtain ⟨fs,hu,hfs⟩:=oI hf
       refine ⟨.pointer (some ⟨o',off+j.toNat*ks.length+(k+fd.offset),none⟩),?_,n',j,h1,h2,h3,o',off,len,cs,rfl,h5⟩
       simp only [execOp,hop,h4,Instr.fieldAt,Sem.run_bind,run_underlying hu,Result.andThen,hfs,Instr.sureAddr,Sem.run_pure,pO hn,addr_add]
       simp [Nat.add_assoc]
     · cases h
   · cases h
 | field t x f=>
   rw [hop] at h ev
   simp only [jw] at h
   split at h
   · rename_i l fd he hf
     obtain ⟨cs,h2,h3⟩:=ev (by simp [Op.operands]) he
     obtain ⟨fs,hu,hfs⟩:=oI hf
     split at h
     · rename_i n hag hn
       split at h
       · rename_i hle
         simp at h
         obtain ⟨rfl,rfl⟩:=h
         refine ⟨_,?_,Gh h3 fd.offset n hle⟩
         simp only [execOp,hop,h2,Instr.field,Sem.run_bind,run_underlying hu,Result.andThen,hfs,asAgg,Sem.run_pure,part,yL hag,if_true,qB hn]
       · cases h
     · rename_i n hag hn
       cases hl:l[fd.offset]? with
       | none=>simp [hl] at h
       | some u=>
         simp [hl] at h
         obtain ⟨rfl,rfl⟩:=h
         obtain ⟨y,h4,h5⟩:=h3.get hl
         refine ⟨y,?_,h5⟩
         have h4':cs[fd.offset]?=some y:=by simpa using h4
         simp only [execOp,hop,h2,Instr.field,Sem.run_bind,run_underlying hu,Result.andThen,hfs,asAgg,Sem.run_pure,part,yL hag,Bool.false_eq_true,if_false,h4']
     · cases h
   · cases h
 | indexAddr t x i=>
   rw [hop] at h ev
   simp only [jw] at h
   split at h
   · rename_i b lo len s nl k e el he hi hu
     split at h
     · rename_i hs
       simp at h
       obtain ⟨rfl,rfl⟩:=h
       obtain ⟨l,n,h1,h2,h3,h4,h5⟩:=ev (by simp [Op.operands]) he
       obtain ⟨m,h6,h7⟩:=ev (by simp [Op.operands]) hi
       obtain ⟨h8,h9⟩:=zD h6 h2 hp
       rcases h5 with ⟨p,cap,h10,h11,_⟩ | ⟨_,h10,_⟩
       · refine ⟨.pointer (some ⟨p.blk,p.base+(l+m).toNat*s+0,none⟩),?_,_,p,qE h1 h6,by omega,h10,rfl⟩
         have hlt:0≤m∧m<(n.toNat:Int):=by omega
         simp only [execOp,hop,h7,h11,Instr.indexAt,asIntOf,Sem.run_bind,Sem.run_pure,run_underlying hu,Result.andThen,if_pos hlt,qB hs,addr_add]
         have e1:(l+m).toNat=l.toNat+m.toNat:=by omega
         rw [e1,Nat.add_mul,Nat.add_assoc,Nat.add_zero]
       · omega
     · cases h
   · rename_i b r s k k' xx n el he hi hu
     split at h
     · rename_i z hz
       split at h
       · rename_i hlt
         simp at h
         obtain ⟨rfl,rfl⟩:=h
         obtain ⟨m,p,h2,h3,h4,h5⟩:=ev (by simp [Op.operands]) he
         obtain ⟨m',h6,h7⟩:=ev (by simp [Op.operands]) hi
         have e:m'=xx:=by simp [E.den] at h6;exact h6.symm
         subst e
         refine ⟨.pointer (some ⟨p.blk,p.base+m.toNat*s+(k+m'.toNat*z),none⟩),?_,m,p,h2,h3,h4,rfl⟩
         simp only [execOp,hop,h7,h5,Instr.indexAt,asIntOf,Sem.run_bind,Sem.run_pure,run_underlying hu,Result.andThen,Instr.sureAddr,if_pos hlt,qB hz,addr_add]
         simp [Nat.add_assoc]
       · cases h
     · cases h
   · rename_i b s k k' e n el hov he hi hu
     split at h
     · rename_i z hz
       simp at h
       obtain ⟨rfl,rfl⟩:=h
       obtain ⟨m,p,h2,h3,h4,h5⟩:=ev (by simp [Op.operands]) he
       have hm0:m=0:=by simp [E.den] at h2;exact h2.symm
       subst hm0
       obtain ⟨j,h6,h7⟩:=ev (by simp [Op.operands]) hi
       have hlt:=zD h6 (show (E.lit n).den I g.env=some (.i n) from rfl) hp
       refine ⟨.pointer (some ⟨p.blk,p.base+j.toNat*z+k,none⟩),?_,j,p,h6,hlt.1,h4,rfl⟩
       simp only [execOp,hop,h7,h5,Instr.indexAt,asIntOf,Sem.run_bind,Sem.run_pure,run_underlying hu,Result.andThen,Instr.sureAddr,if_pos hlt,qB hz,addr_add]
       rw [show p.base+(0:Int).toNat*s+k+j.toNat*z=p.base+j.toNat*z+k by simp;omega]
     · cases h
   · rename_i gv k k' xx n el he hi hu
     split at h
     · rename_i z hz
       split at h
       · rename_i hlt
         simp at h
         obtain ⟨rfl,rfl⟩:=h
         have h1:=ev (by simp [Op.operands]) he
         simp only [Rel] at h1
         obtain ⟨m',h6,h7⟩:=ev (by simp [Op.operands]) hi
         have e:m'=xx:=by simp [E.den] at h6;exact h6.symm
         subst e
         refine ⟨.pointer (some ⟨gv,k+m'.toNat*z,none⟩),?_,rfl⟩
         simp only [execOp,hop,h7,h1,Instr.indexAt,asIntOf,Sem.run_bind,Sem.run_pure,run_underlying hu,Result.andThen,Instr.sureAddr,if_pos hlt,qB hz,addr_add]
       · cases h
     · cases h
   · rename_i b k n s k' xx el he hi hu
     split at h
     · rename_i hc
       obtain ⟨hz,h0,hlt⟩:=hc
       simp at h
       obtain ⟨rfl,rfl⟩:=h
       obtain ⟨p,cap,h1,h2,h3⟩:=ev (by simp [Op.operands]) he
       obtain ⟨m',h6,h7⟩:=ev (by simp [Op.operands]) hi
       have e:m'=xx:=by simp [E.den] at h6;exact h6.symm
       subst e
       refine ⟨.pointer (some ⟨p.blk,p.base+(0:Int).toNat*0+(k+m'.toNat*s),none⟩),?_,0,p,rfl,by omega,h1,rfl⟩
       simp only [execOp,hop,h7,h3,Instr.indexAt,asIntOf,Sem.run_bind,Sem.run_pure,run_underlying hu,Result.andThen,if_pos (show 0≤m'∧m'<(n:Int) from ⟨h0,hlt⟩),qB hz,addr_add]
       simp [Nat.add_assoc]
     · cases h
   · rename_i ks q k' e el he hi hu
     split at h
     · rename_i hs
       simp only [Option.some.injEq,Prod.mk.injEq] at h
       obtain ⟨rfl,rfl⟩:=h
       obtain ⟨n,h1,hv⟩:=ev (by simp [Op.operands]) he
       obtain ⟨m,h6,h7⟩:=ev (by simp [Op.operands]) hi
       obtain ⟨h8,h9⟩:=zD h6 (bY h1) hp
       rcases hv with ⟨_,h2⟩ | ⟨o',off,len,cap,cs,h2,h3,h4,h5,h10⟩
       · rw [iG h2] at h9;omega
       · have hw:ks.length≠0:=fun e0=>by simp [llen,e0] at h9;omega
         rw [Xj hw h5] at h9
         refine ⟨.pointer (some ⟨o',off+m.toNat*ks.length+0,none⟩),?_,n,m,h1,h6,h8,o',off,len,cs,rfl,h3,h9,h5,h10⟩
         have hlt:0≤m∧m<(len:Int):=⟨h8,h9⟩
         simp only [execOp,hop,h7,h2,Instr.indexAt,asIntOf,Sem.run_bind,Sem.run_pure,run_underlying hu,Result.andThen,if_pos hlt,qB hs,addr_add]
         simp
     · cases h
   · cases h
 | index t x i=>
   rw [hop] at h ev
   simp only [jw] at h
   split at h
   · rename_i l k j he hi hu
     split at h
     · rename_i h0
       cases hl:l[j.toNat]? with
       | none=>simp [hl] at h
       | some b=>
         simp [hl] at h
         obtain ⟨rfl,rfl⟩:=h
         obtain ⟨s,h1,rfl⟩:=ev (by simp [Op.operands]) he
         obtain ⟨m',h6,h7⟩:=ev (by simp [Op.operands]) hi
         have e:m'=j:=by simp [E.den] at h6;exact h6.symm
         subst e
         refine ⟨.int .u8 b.toNat,?_,_,rfl,rfl⟩
         have hb:s[m'.toNat]?=some b:=by
           obtain ⟨hlt,hb⟩:=List.getElem?_eq_some_iff.1 hl
           have hlt':m'.toNat<s.size:=by
             have:=hlt
             rw [Array.length_toList] at this
             exact this
           rw [getElem?_pos s m'.toNat hlt']
           congr 1
         simp only [execOp,hop,h1,h7,Instr.index,asIntOf,Sem.run_bind,Sem.run_pure,run_underlying hu,Result.andThen,if_pos h0,hb]
     · cases h
   · rename_i l k j n el he hi hu
     split at h
     · rename_i ag z hag hz
       split at h
       · rename_i hlt
         cases hc:jl l (j.toNat*z) z ag with
         | none=>simp [hc] at h
         | some u=>
           simp [hc] at h
           obtain ⟨rfl,rfl⟩:=h
           obtain ⟨cs,h1,h2⟩:=ev (by simp [Op.operands]) he
           obtain ⟨m',h6,h7⟩:=ev (by simp [Op.operands]) hi
           have e:m'=j:=by simp [E.den] at h6;exact h6.symm
           subst e
           obtain ⟨y,h3,h4⟩:=fV (P:=P) (w:=w) hc h2 hag hz
           refine ⟨y,?_,h4⟩
           simp only [execOp,hop,h1,h7,Instr.index,asIntOf,Sem.run_bind,Sem.run_pure,run_underlying hu,Result.andThen,if_pos hlt,qB hz,h3]
       · cases h
     · cases h
   · rename_i ks t' m k e n el he hi hu
     split at h
     · rename_i z hag hz
       split at h
       · rename_i hcond
         obtain ⟨rfl,rfl⟩:=hcond
         cases hl:jR ks t' e 0 ks.length with
         | none=>simp [hl] at h
         | some l=>
           simp [hl] at h
           obtain ⟨rfl,rfl⟩:=h
           obtain ⟨f,xs,ys,zs,hf,h1,h2,h3,h4,h5⟩:=ev (by simp [Op.operands]) he
           obtain ⟨m',h6,h7⟩:=ev (by simp [Op.operands]) hi
           have e1:xs=[]:=by cases xs with | nil=>rfl | cons _ _=>simp [qj] at h2
           have e2:zs=[]:=by cases zs with | nil=>rfl | cons _ _=>simp [qj] at h3
           subst e1 e2
           obtain ⟨JU,hlt⟩:=zD h6 (show (E.lit n).den I g.env=some (.i n) from rfl) hp
           have qkY:m'.toNat<n:=by omega
           have hX:∀(j:Nat) (ck:CK),ks[j]?=some ck→ck.rel g (f m' j) ((ys[m'.toNat*ks.length+j]?).getD Go.undef)∧ys[m'.toNat*ks.length+j]?=some ((ys[m'.toNat*ks.length+j]?).getD Go.undef):=fun j ck hj=>by
             have:=h5 m'.toNat j ck qkY hj
             rw [Int.toNat_of_nonneg JU] at this
             exact yM this
           obtain ⟨hll,xs',hrel,hxs⟩:=j4 hf h6 _ (fun j ck hj=>(hX j ck hj).1) ks.length 0 hl
           have hxl:xs'.length=ks.length:=by rw [←hrel.length,hll]
           have hr0:m'.toNat<n:=by omega
           have hm':((m'.toNat:Nat):Int)=m':=Int.toNat_of_nonneg JU
           refine ⟨.agg (((([]:List Value)++ys++[]).toArray).extract (m'.toNat*ks.length) (m'.toNat*ks.length+ks.length)),?_,xs'.toArray,?_,by simpa using hrel⟩
           · simp only [execOp,hop,h1,h7,Instr.index,asIntOf,Sem.run_bind,Sem.run_pure,run_underlying hu,Result.andThen,if_pos (And.intro JU hlt),qB hz,part,yL hag,if_true]
           · congr 1
             apply Array.ext'
             simp only [Array.toList_extract,List.extract_eq_take_drop,List.nil_append,List.append_nil,Nat.add_sub_cancel_left]
             apply List.ext_getElem?
             intro j
             rcases Nat.lt_or_ge j ks.length with hj | hj
             · rw [List.getElem?_take_of_lt hj,List.getElem?_drop,(hX j _ (List.getElem?_eq_getElem hj)).2]
               obtain ⟨c,hc1,hc2⟩:=hxs j xs'[j] (List.getElem?_eq_getElem (by omega))
               rw [show xs'[j]?=some xs'[j] from List.getElem?_eq_getElem (by omega),hc2]
               rw [Nat.zero_add]
             · rw [List.getElem?_eq_none (by simp;omega),List.getElem?_eq_none (by omega)]
       · cases h
     · cases h
   · cases h
 | extract x i=>
   rw [hop] at h ev
   simp only [jw] at h
   split at h
   · rename_i l he
     cases hl:l[i]? with
     | none=>simp [hl] at h
     | some u=>
       simp [hl] at h
       obtain ⟨rfl,rfl⟩:=h
       obtain ⟨cs,h2,h3⟩:=ev (by simp [Op.operands]) he
       obtain ⟨y,h4,h5⟩:=h3.get hl
       have h4':cs[i]?=some y:=by simpa using h4
       exact ⟨y,by simp [execOp,hop,h2,Instr.extract,h4'],h5⟩
   · cases h
 | slice t x lo hi mx=>
   rw [hop] at h ev
   simp only [jw] at h
   split at h
   · rename_i u el he hu
     split at h
     · rename_i b lo' len s nl y
       split at h
       · rename_i k e sz hy hs
         simp at h
         obtain ⟨rfl,rfl⟩:=h
         obtain ⟨l,n,h1,h2,h3,h4,h5⟩:=ev (by simp [Op.operands]) he
         obtain ⟨m,h6,h7⟩:=ev (by simp [Op.operands]) hy
         have h8:=zh (show (E.lit 0).den I g.env=some (.i 0) from rfl) h6 (hp _ (by simp))
         have h9:=zh h6 h2 (hp _ (by simp))
         rcases h5 with ⟨p,cap,h10,h11,h12,h13⟩ | ⟨h10,h11,ad,h12⟩
         · refine ⟨.slice (some ⟨p.blk,p.base+l.toNat*s,none⟩) m.toNat cap,?_,l,m,h1,h6,h3,h8,.inl ⟨p,cap,h10,rfl,by omega,h13⟩⟩
           have:=zn (w:=w) hu hs (ad:=some ⟨p.blk,p.base+l.toNat*s,none⟩) (len:=n.toNat) (cap:=cap) (lo:=none) (hi:=some (.int k m)) (mx:=none) (a:=none) (h:=some m) (m:=none) rfl ⟨k,rfl⟩ rfl (by simp) (by simp) (by simpa using h8) (by simp;omega) (by simp)
           simp only [Option.getD_none,Option.getD_some,Int.toNat_zero,Nat.zero_mul,Nat.sub_zero,Int.toNat_natCast] at this
           simp only [execOp,hop,h11,Option.map_some,Option.map_none,h7,Sem.run_bind,this,Result.andThen]
           simp [Addr.add]
         · subst h11
           have hm0:m=0:=by omega
           subst hm0
           refine ⟨.slice ad 0 0,?_,l,0,h1,h6,h3,h8,.inr ⟨h10,rfl,ad,rfl⟩⟩
           have:=zn (w:=w) hu hs (ad:=ad) (len:=0) (cap:=0) (lo:=none) (hi:=some (.int k 0)) (mx:=none) (a:=none) (h:=some 0) (m:=none) rfl ⟨k,rfl⟩ rfl (by simp) (by simp) (by simp) (by simp) (by simp)
           simp only [Option.getD_none,Option.getD_some,Int.toNat_zero,Nat.zero_mul,Nat.sub_zero,Int.toNat_natCast] at this
           simp only [execOp,hop,h12,Option.map_some,Option.map_none,h7,Sem.run_bind,this,Result.andThen]
           simp
       · cases h
     · split at h
       · rename_i ca ch cm ha hh hm'
         obtain ⟨z,h1,h2⟩:=X8 (w:=w) hu (ev (by simp [Op.operands]) he) (gP ht ha fun t' e=>hx t' (by rw [hop];simp [Op.operands,e]))
           (gP ht hh fun t' e=>hx t' (by rw [hop];simp [Op.operands,e])) (gP ht hm' fun t' e=>hx t' (by rw [hop];simp [Op.operands,e])) h hp
         exact ⟨z,by simp only [execOp,hop,Sem.run_bind,h1,Result.andThen];rfl,h2⟩
       · cases h
   · rename_i u n el he hu
     split at h
     · rename_i ca ch cm ha hh hm'
       obtain ⟨z,h1,h2⟩:=Yu (w:=w) hu (ev (by simp [Op.operands]) he) (gP ht ha fun t' e=>hx t' (by rw [hop];simp [Op.operands,e]))
         (gP ht hh fun t' e=>hx t' (by rw [hop];simp [Op.operands,e])) (gP ht hm' fun t' e=>hx t' (by rw [hop];simp [Op.operands,e])) h
       exact ⟨z,by simp only [execOp,hop,Sem.run_bind,h1,Result.andThen];rfl,h2⟩
     · cases h
   · cases h
 | build t parts=>
   rw [hop] at h
   simp only [jw] at h
   split at h
   · rename_i hbig
     split at h
     · rename_i b l fs hb hl hu
       have hbt:b.t=t:=by
         have:=List.find?_some (show kn.Q5.find? (fun b=>b.t == t)=some b from hb)
         simpa using this
       subst hbt
       split at h
       · rename_i pre post pl hz hpl
         cases hf:dX (fun i=>pl[i]?) (b.n*b.ks.length) pre post l with
         | none=>simp [hf] at h
         | some q=>
           obtain ⟨l',m'⟩:=q
           simp [hf] at h
           obtain ⟨rfl,rfl⟩:=h
           obtain ⟨ti,cs,xs,ys,zs,_,_,hcs,hzr,zF,hyl,hys⟩:=gY hz
           obtain ⟨h1,h2,h3⟩:=wW (a:=a) ht hl fun t' ht'=>hx t' (by rw [hop];simpa [Op.operands] using ht')
           obtain ⟨ds,xs',zs',h4,h5,h6,h7⟩:=sJ (qs:=parts.toList.map fun x=>(x.1,a.eval x.2)) (cs:=cs) (by simpa [Function.comp_def] using h1) (by simpa [Function.comp_def] using h2) h3 (zF I g).1 (zF I g).2 hcs hyl hf
           refine ⟨.agg ds,?_,fun _ _=>0,xs',ys,zs',rfl,?_,h6,h7,hyl,fun r j k a b=>CK.at0 (hys r j k a b)⟩
           · have hpm:(fs.mapM fun f=>(do pure (f.offset,←sizeOf f.type):Sem (Nat × Nat))).run P w=.ok pl.toArray w:=by
               rw [Array.mapM_eq_mapM_toList]
               simp only [Sem.run_map,run_places fs.toList hpl w,Result.andThen]
             have h4':Instr.fill (fun x=>pl.toArray[x]?) cs (parts.map fun x=>(x.1,a.eval x.2)).toList=some ds:=by
               rw [←h4];congr 1
               · funext i;simp
               · simp
             simp only [execOp,hop,Instr.build,Sem.run_bind,hzr,run_underlying hu,Result.andThen,hpm,Value.cells]
             rw [h4']
             rfl
           · congr 1
             rw [←h5]
       · cases h
     · rename_i b n el hb hl hu
       have hbt:b.t=t:=by
         have:=List.find?_some (show kn.Q5.find? (fun b=>b.t == t)=some b from hb)
         simpa using this
       subst hbt
       split at h
       · rename_i hsome
         obtain ⟨sz,hsz⟩:=Option.isSome_iff_exists.1 hsome
         cases hz:yG P b with
         | none=>simp [hz] at h
         | some q=>
           obtain ⟨l',m'⟩:=q
           simp [hz] at h
           obtain ⟨rfl,rfl⟩:=h
           obtain ⟨ti,cs,xs,ys,zs,_,_,hcs,hzr,zF,hyl,hys⟩:=gY hz
           have hnil:parts=#[]:=by
             have:=(wW (a:=a) ht hl fun t' ht'=>hx t' (by rw [hop];simpa [Op.operands] using ht')).1
             simp at this
             exact this
           subst hnil
           refine ⟨.agg cs,?_,fun _ _=>0,xs,ys,zs,rfl,?_,(zF I g).1,(zF I g).2,hyl,fun r j k a b=>CK.at0 (hys r j k a b)⟩
           · have e:((#[]:Array (Nat × Operand)).map fun x=>(x.1,a.eval x.2)).toList=[]:=by simp
             simp only [execOp,hop,Instr.build,Sem.run_bind,hzr,run_underlying hu,Result.andThen,qB hsz,Value.cells]
             rw [e]
             rfl
           · congr 1
             rw [←hcs]
       · cases h
     · cases h
   split at h
   · rename_i z l fs hz hl hu
     split at h
     · rename_i pl hpl
       cases hf:wU (fun i=>pl[i]?) z.cells l with
       | none=>simp [hf] at h
       | some m=>
         simp [hf] at h
         obtain ⟨rfl,rfl⟩:=h
         obtain ⟨ti,zx,_,_,hzr,zF⟩:=zT hz
         obtain ⟨h1,h2,h3⟩:=wW (a:=a) ht hl fun t' ht'=>hx t' (by rw [hop];simpa [Op.operands] using ht')
         obtain ⟨ds,h4,h5⟩:=iU (qs:=parts.toList.map fun x=>(x.1,a.eval x.2)) (cs:=zx.cells) (by simpa [Function.comp_def] using h1) (by simpa [Function.comp_def] using h2) h3 (zF I g).2 hf
         refine ⟨.agg ds,?_,ds,rfl,h5⟩
         have hpm:(fs.mapM fun f=>(do pure (f.offset,←sizeOf f.type):Sem (Nat × Nat))).run P w=.ok pl.toArray w:=by
           rw [Array.mapM_eq_mapM_toList]
           simp only [Sem.run_map,run_places fs.toList hpl w,Result.andThen]
         have h4':Instr.fill (fun x=>pl.toArray[x]?) zx.cells (parts.map fun x=>(x.1,a.eval x.2)).toList=some ds:=by
           rw [←h4];congr 1
           · funext i;simp
           · simp
         simp only [execOp,hop,Instr.build,Sem.run_bind,hzr,run_underlying hu,Result.andThen,hpm]
         rw [h4']
         rfl
     · cases h
   · rename_i z l len el hz hl hu
     split at h
     · rename_i sz hsz
       cases hf:wU (fun i=>some (i*sz,sz)) z.cells l with
       | none=>simp [hf] at h
       | some m=>
         simp [hf] at h
         obtain ⟨rfl,rfl⟩:=h
         obtain ⟨ti,zx,_,_,hzr,zF⟩:=zT hz
         obtain ⟨h1,h2,h3⟩:=wW (a:=a) ht hl fun t' ht'=>hx t' (by rw [hop];simpa [Op.operands] using ht')
         obtain ⟨ds,h4,h5⟩:=iU (qs:=parts.toList.map fun x=>(x.1,a.eval x.2)) (cs:=zx.cells) (by simpa [Function.comp_def] using h1) (by simpa [Function.comp_def] using h2) h3 (zF I g).2 hf
         refine ⟨.agg ds,?_,ds,rfl,h5⟩
         have h4':Instr.fill (fun i=>some (i*sz,sz)) zx.cells (parts.map fun x=>(x.1,a.eval x.2)).toList=some ds:=by
           rw [←h4];congr 1
           simp
         simp only [execOp,hop,Instr.build,Sem.run_bind,hzr,run_underlying hu,Result.andThen,qB hsz]
         rw [h4']
         rfl
     · cases h
   · cases h
 | call c=>
   rw [hop] at h ev
   obtain ⟨callee,args,argTypes⟩:=c
   cases callee with
   | builtin b=>
     cases b with
     | len=>
       simp only [jw] at h
       split at h
       · rename_i y t ha hat
         have ha':=ku ha
         have hat':=ku hat
         subst ha';subst hat'
         split at h
         · rename_i b' lo len s nl el he hu
           simp at h
           obtain ⟨rfl,rfl⟩:=h
           obtain ⟨l,n,h1,h2,h3,h4,h5⟩:=ev (by simp [Op.operands,Call.operands]) he
           refine ⟨.int .i64 n,?_,n,h2,rfl⟩
           rcases h5 with ⟨p,cap,_,h11,_⟩ | ⟨_,h11,ad,h12⟩
           · simp [execOp,hop,resolve,invoke,builtin,Builtin.len_,run_underlying hu,Result.andThen,h11,goInt]
             omega
           · subst h11
             cases ad <;> simp [execOp,hop,resolve,invoke,builtin,Builtin.len_,run_underlying hu,Result.andThen,h12,goInt]
         · rename_i el he hu
           simp at h
           obtain ⟨rfl,rfl⟩:=h
           have h1:=ev (by simp [Op.operands,Call.operands]) he
           simp only [Rel] at h1
           exact ⟨.int .i64 0,by simp [execOp,hop,resolve,invoke,builtin,Builtin.len_,run_underlying hu,Result.andThen,h1,goInt],0,rfl,rfl⟩
         · rename_i el he hu
           simp at h
           obtain ⟨rfl,rfl⟩:=h
           obtain ⟨ad,h1⟩:=ev (by simp [Op.operands,Call.operands]) he
           exact ⟨.int .i64 0,by simp [execOp,hop,resolve,invoke,builtin,Builtin.len_,run_underlying hu,Result.andThen,h1,goInt],0,rfl,rfl⟩
         · rename_i el he hu
           simp at h
           obtain ⟨rfl,rfl⟩:=h
           obtain ⟨ad,c,h1⟩:=ev (by simp [Op.operands,Call.operands]) he
           exact ⟨.int .i64 0,by simp [execOp,hop,resolve,invoke,builtin,Builtin.len_,run_underlying hu,Result.andThen,h1,goInt],0,rfl,rfl⟩
         · rename_i b' k n s el he hu
           simp at h
           obtain ⟨rfl,rfl⟩:=h
           obtain ⟨p,c,h0,h2,h1⟩:=ev (by simp [Op.operands,Call.operands]) he
           exact ⟨.int .i64 n,by simp [execOp,hop,resolve,invoke,builtin,Builtin.len_,run_underlying hu,Result.andThen,h1,goInt],n,rfl,rfl⟩
         · rename_i ks q el he hu
           split at h
           · rename_i hs
             simp only [Option.some.injEq,Prod.mk.injEq] at h
             obtain ⟨rfl,rfl⟩:=h
             obtain ⟨n,h1,hv⟩:=ev (by simp [Op.operands,Call.operands]) he
             refine ⟨.int .i64 (llen n ks.length),?_,_,bY h1,rfl⟩
             rcases hv with ⟨⟨ad,h3⟩,h2⟩ | ⟨o',off,len,cap,cs,h2,h3,h4,h5,h10⟩
             · rw [iG h2]
               cases ad <;> simp [execOp,hop,resolve,invoke,builtin,Builtin.len_,run_underlying hu,Result.andThen,h3,goInt]
             · rw [Xj (by simpa using hs.2) h5]
               simp [execOp,hop,resolve,invoke,builtin,Builtin.len_,run_underlying hu,Result.andThen,h2,goInt]
           · cases h
         · rename_i l he hu
           simp at h
           obtain ⟨rfl,rfl⟩:=h
           obtain ⟨s,h1,rfl⟩:=ev (by simp [Op.operands,Call.operands]) he
           refine ⟨.int .i64 s.size,by simp [execOp,hop,resolve,invoke,builtin,Builtin.len_,run_underlying hu,Result.andThen,h1,goInt],_,rfl,?_⟩
           show Value.int .i64 ((s.size:Nat):Int)=Value.int .i64 ((s.data.toList.length:Nat):Int)
           rw [Array.length_toList]
           rfl
         · cases h
       · cases h
     | cap=>
       simp only [jw] at h
       split at h
       · rename_i y t ha hat
         have ha':=ku ha
         have hat':=ku hat
         subst ha';subst hat'
         split at h
         · rename_i el he hu
           simp at h
           obtain ⟨rfl,rfl⟩:=h
           have h1:=ev (by simp [Op.operands,Call.operands]) he
           simp only [Rel] at h1
           exact ⟨.int .i64 0,by simp [execOp,hop,resolve,invoke,builtin,Builtin.cap_,run_underlying hu,Result.andThen,h1,goInt],0,rfl,rfl⟩
         · rename_i el he hu
           simp at h
           obtain ⟨rfl,rfl⟩:=h
           obtain ⟨ad,h1⟩:=ev (by simp [Op.operands,Call.operands]) he
           exact ⟨.int .i64 0,by simp [execOp,hop,resolve,invoke,builtin,Builtin.cap_,run_underlying hu,Result.andThen,h1,goInt],0,rfl,rfl⟩
         · cases h
       · cases h
     | min=>
       simp only [jw] at h
       split at h
       · rename_i y z ha
         have ha':=xP ha
         subst ha'
         split at h
         · rename_i k e k' e' he he'
           split at h
           · rename_i hk
             subst hk
             simp at h
             obtain ⟨rfl,rfl⟩:=h
             obtain ⟨n,h1,h2⟩:=ev (by simp [Op.operands,Call.operands]) he
             obtain ⟨n',h3,h4⟩:=ev (by simp [Op.operands,Call.operands]) he'
             refine ⟨.int k (if n'<n then n' else n),?_,_,qy h1 h3,rfl⟩
             simp [execOp,hop,resolve,invoke,builtin,Builtin.min_,Builtin.min2,h2,h4]
           · cases h
         · cases h
       · cases h
     | max=>
       simp only [jw] at h
       split at h
       · rename_i y z ha
         have ha':=xP ha
         subst ha'
         split at h
         · rename_i k e k' e' he he'
           split at h
           · rename_i hk
             subst hk
             simp at h
             obtain ⟨rfl,rfl⟩:=h
             obtain ⟨n,h1,h2⟩:=ev (by simp [Op.operands,Call.operands]) he
             obtain ⟨n',h3,h4⟩:=ev (by simp [Op.operands,Call.operands]) he'
             refine ⟨.int k (if n' > n then n' else n),?_,_,qy h1 h3,rfl⟩
             simp [execOp,hop,resolve,invoke,builtin,Builtin.max_,Builtin.max2,h2,h4]
           · cases h
         · cases h
       · cases h
     | _=>simp [jw] at h
   | _=>simp [jw] at h
 | _=>rw [hop] at h;simp [jw] at h
end Go.Sx
noncomputable section
namespace Go.Sx
open Go
variable {A:Amb} {I:Itp} {P:Program} {g:G} {X:Nat→Prop} {ts:qL} {a:Act} {M:Mem} {w:World}
theorem Bv (f:Int→Nat→Int) (x:Int) (k:Nat) (v y:Int):qd (qd f x k v) x k y=qd f x k y:=by
 funext r c
 unfold qd
 by_cases h:r=x∧c=k
 · rw [if_pos h,if_pos h]
 · rw [if_neg h,if_neg h,if_neg h]
theorem Mc (f:Int→Nat→Int) {x z:Int} {k c:Nat} (v y:Int) (h:¬(z=x∧c=k)):qd (qd f x k y) z c v=qd (qd f z c v) x k y:=by
 funext r d
 unfold qd
 by_cases h1:r=z∧d=c
 · rw [if_pos h1,if_neg (fun e=>h ⟨by rw [←h1.1,e.1],by rw [←h1.2,e.2]⟩),if_pos h1]
 · rw [if_neg h1]
   by_cases h2:r=x∧d=k
   · rw [if_pos h2,if_pos h2]
   · rw [if_neg h2,if_neg h2,if_neg h1]
theorem Ml (f:Int→Nat→Int) (x:Int) (k:Nat):qd f x k (f x k)=f:=by
 funext r c
 unfold qd
 by_cases h:r=x∧c=k
 · rw [if_pos h,h.1,h.2]
 · rw [if_neg h]
theorem BT.YU:∀(l:List Int) (c:Nat) (x:Int) (d:Nat),(BT.put l c x).getD d 0=if d=c then x else l.getD d 0
 | [],0,x,0=>rfl
 | [],0,x,d+1=>by simp [BT.put]
 | [],c+1,x,0=>by simp [BT.put]
 | [],c+1,x,d+1=>by simpa [BT.put] using BT.YU [] c x d
 | _::l,0,x,0=>rfl
 | _::l,0,x,d+1=>by simp [BT.put]
 | _::l,c+1,x,0=>by simp [BT.put]
 | _::l,c+1,x,d+1=>by simpa [BT.put] using BT.YU l c x d
theorem BT.fI (b:BT) (d:Nat):b.get 0 d=b.row.getD d 0:=by
 cases b <;> simp [BT.get,BT.row]
theorem BT.fO (b:BT) {i:Nat} (h:Nat.beq (i % 2) 0=true) (d:Nat):b.get (i+1) d=b.left.get (i / 2) d:=by
 cases b <;> simp [BT.get,BT.left,h]
theorem BT.gL (b:BT) {i:Nat} (h:Nat.beq (i % 2) 0=false) (d:Nat):b.get (i+1) d=b.right.get (i / 2) d:=by
 cases b <;> simp [BT.get,BT.right,h]
theorem BT.Yo:∀(f:Nat) (b:BT) (i c:Nat) (x:Int) {b':BT},BT.set f b i c x=some b'→∀j d,b'.get j d=if j=i∧d=c then x else b.get j d
 | 0,b,i,c,x,b',h=>by simp [BT.set] at h
 | f+1,b,0,c,x,b',h=>by
   simp only [BT.set,Option.some.injEq] at h
   subst h
   intro j d
   cases j with
   | zero=>
     rw [BT.fI,BT.fI]
     show (BT.put b.row c x).getD d 0=_
     rw [BT.YU];simp
   | succ j=>
     rw [if_neg (by omega)]
     cases h:Nat.beq (j % 2) 0 with
     | true=>rw [BT.fO _ h,BT.fO _ h];rfl
     | false=>rw [BT.gL _ h,BT.gL _ h];rfl
 | f+1,b,i+1,c,x,b',h=>by
   simp only [BT.set] at h
   intro j d
   split at h
   · rename_i hb
     split at h
     · rename_i l hl
       simp only [Option.some.injEq] at h
       subst h
       have ih:=BT.Yo f _ _ _ _ hl
       cases j with
       | zero=>rw [BT.fI,BT.fI,if_neg (by omega)];rfl
       | succ j=>
         cases h:Nat.beq (j % 2) 0 with
         | true=>
           rw [BT.fO _ h,BT.fO _ h]
           show l.get _ _=_
           rw [ih]
           have h1:=Nat.eq_of_beq_eq_true h
           have h2:=Nat.eq_of_beq_eq_true hb
           by_cases hj:j=i
           · subst hj;simp
           · rw [if_neg (by omega),if_neg (by omega)]
         | false=>
           rw [BT.gL _ h,BT.gL _ h]
           rw [if_neg (by
             rintro ⟨hj,_⟩
             rw [Nat.add_right_cancel hj,hb] at h
             cases h)]
           rfl
     · cases h
   · rename_i hb
     split at h
     · rename_i r hl
       simp only [Option.some.injEq] at h
       subst h
       have ih:=BT.Yo f _ _ _ _ hl
       cases j with
       | zero=>rw [BT.fI,BT.fI,if_neg (by omega)];rfl
       | succ j=>
         cases h:Nat.beq (j % 2) 0 with
         | false=>
           rw [BT.gL _ h,BT.gL _ h]
           show r.get _ _=_
           rw [ih]
           have h1:=Nat.ne_of_beq_eq_false h
           have h2:=Nat.ne_of_beq_eq_false hb
           by_cases hj:j=i
           · subst hj;simp
           · rw [if_neg (by omega),if_neg (by omega)]
         | true=>
           rw [BT.fO _ h,BT.fO _ h]
           rw [if_neg (by
             rintro ⟨hj,_⟩
             rw [Nat.add_right_cancel hj,hb] at h
             cases h)]
           rfl
     · cases h
theorem BT.Fw {b b':BT} {f i c:Nat} {x:Int} (h:BT.set f b i c x=some b'):b'.tab=qd b.tab (Int.ofNat i) c x:=by
 funext r d
 unfold BT.tab qd
 cases r with
 | ofNat n=>
   simp only [BT.Yo _ _ _ _ _ h,Int.ofNat.injEq]
 | negSucc n=>rw [if_neg (fun h=>by cases h.1)]
theorem NM {env:List D}:∀{t:E} {b:BT} {f:Int→Nat→Int},t.Ma=some b→t.den I env=some (.t f)→b.tab=f:=by
 intro t
 induction t with
 | zt=>
   intro b f h ht
   simp only [E.Ma,Option.some.injEq] at h
   subst h
   simp only [E.den,Option.some.injEq,D.t.injEq] at ht
   subst ht
   funext r c
   cases r <;> rfl
 | upd t r c v iht _ _=>
   intro b f h ht
   obtain ⟨f0,x,y,h1,h2,h3,rfl⟩:=sV ht
   unfold E.Ma at h
   split at h
   · rename_i he;cases he
   · rename_i t' n c' m he
     cases he
     split at h
     · rename_i b0 hb
       rw [BT.Fw h,iht hb h1]
       simp [E.den] at h2 h3
       subst h2 h3
       rfl
     · cases h
   · cases h
 | _=>intro b f h;simp [E.Ma] at h
theorem MQ {env:List D} {t r:E} {f:Int→Nat→Int} (ht:t.den I env=some (.t f)):(NT t r).den I env=some (.t f):=by
 unfold NT
 split
 · split
   · rename_i b hb
     rw [←NM hb ht];rfl
   · exact ht
 · exact ht
theorem Yw {env:List D} {x y:Int} {k:Nat} {v:E} (hv:v.den I env=some (.i y)):∀{t t':E} {f:Int→Nat→Int},yB t x k v=some t'→t.den I env=some (.t f)→t'.den I env=some (.t (qd f x k y)):=by
 intro t
 induction t with
 | upd t0 r0 c w iht _ _=>
   intro t' f h ht
   cases r0 with
   | lit z=>
     simp only [yB] at h
     obtain ⟨f0,x0,y0,h1,h2,h3,rfl⟩:=sV ht
     have hx0:x0=z:=by simp [E.den] at h2;exact h2.symm
     subst hx0
     split at h
     · rename_i hc
       obtain ⟨rfl,rfl⟩:=hc
       simp at h;subst h
       rw [Zh h1 h2 hv,Bv]
     · rename_i hc
       cases hr:yB t0 x k v with
       | none=>simp [hr] at h
       | some t1=>
         simp [hr] at h;subst h
         rw [Zh (iht hr h1) h2 h3,Mc _ _ _ hc]
   | _=>simp [yB] at h
 | bt b=>
   intro t' f h ht
   have e:b.tab=f:=by simpa [E.den] using ht
   subst e
   simp only [yB] at h
   split at h
   · rename_i n m
     cases hb:BT.set 64 b n k m with
     | none=>rw [hb] at h;cases h
     | some b'=>
       rw [hb] at h
       obtain rfl:m=y:=by simpa [E.den] using hv
       obtain rfl:E.bt b'=t':=Option.some.inj h
       show some (D.t b'.tab)=_
       rw [BT.Fw hb]
   · cases h
 | _=>intro t' f h;simp [yB] at h
theorem WH {env:List D} {t r v:E} {k:Nat} {f:Int→Nat→Int} {x y:Int} (ht:t.den I env=some (.t f)) (hr:r.den I env=some (.i x)) (hv:v.den I env=some (.i y)) :
   (FL t r k v).den I env=some (.t (qd f x k y)):=by
 have h0:∀{z:Int},x=z→((yB t z k v).getD (.upd t (.lit z) k v)).den I env=some (.t (qd f x k y)):=by
   rintro _ rfl
   cases h:yB t x k v with
   | none=>exact Zh ht (show (E.lit x).den I env=some (.i x) from rfl) hv
   | some t'=>exact Yw hv h ht
 unfold FL
 split
 · rename_i z
   have hz:x=z:=by simp [E.den] at hr;exact hr.symm
   have hs:=jT (c:=k) ht hr
   split
   · rename_i a0 ha
     rw [ha] at hs
     split
     · rename_i b
       split
       · rename_i hab
         simp [E.den] at hs hv
         rw [ht]
         congr 2
         rw [←hv,←hab,hs]
         exact (Ml f x k).symm
       · exact h0 hz
     · exact h0 hz
   · exact h0 hz
 · exact Zh ht hr hv
theorem kP {ks:List CK} {r:E} {x:Int} (hr:r.den I g.env=some (.i x)):∀{vs:List AV} {xs:List Value} {k:Nat} {t t':E} {f:Int→Nat→Int},
   yP ks t r k vs=some t'→qj I g vs xs→t.den I g.env=some (.t f)→
   ∃f',t'.den I g.env=some (.t f')∧k+vs.length≤max k ks.length∧(∀j y,xs[j]?=some y→∃c,ks[k+j]?=some c∧c.rel g (f' x (k+j)) y)∧
     (∀(i:Int) (c:Nat),(i≠x∨c<k∨k+vs.length≤c)→f' i c=f i c)
 | [],xs,k,t,t',f,h,hv,ht=>by
   simp [yP] at h;subst h
   cases xs with
   | nil=>exact ⟨f,ht,by simp;omega,by simp,fun _ _ _=>rfl⟩
   | cons _ _=>simp [qj] at hv
 | v::vs,[],k,t,t',f,h,hv,ht=>by simp [qj] at hv
 | v::vs,y::xs,k,t,t',f,h,hv,ht=>by
   simp only [yP] at h
   split at h
   · rename_i c c' e h1 h2 h3
     split at h
     · rename_i hc
       subst hc
       obtain ⟨n,hn,hval⟩:=ZH h2 h3 hv.1
       obtain ⟨f',h4,h5,h6,h7⟩:=kP hr h hv.2 (WH ht hr hn)
       have hk:k<ks.length:=(List.getElem?_eq_some_iff.1 h1).1
       refine ⟨f',h4,by simp;omega,fun j z hz=>?_,fun i cc hi=>?_⟩
       · cases j with
         | zero=>
           simp at hz;subst hz
           refine ⟨c,h1,?_⟩
           rw [h7 x (k+0) (.inr (.inl (by omega)))]
           simpa [qd] using hval
         | succ j=>
           simp at hz
           obtain ⟨c2,h8,h9⟩:=h6 j z hz
           exact ⟨c2,by rw [←h8];congr 1;omega,by rw [show k+(j+1)=k+1+j by omega];exact h9⟩
       · rw [h7 i cc (by simp at hi;omega)]
         simp only [qd]
         rw [if_neg (by simp at hi;omega)]
     · cases h
   · cases h
theorem sP {ks:List CK}:∀{l:List AV} {xs:List Value},jk l=some ks→l.all AV.isZero=true→qj I g l xs→∀(j:Nat) (k:CK),ks[j]?=some k→xs[j]?=some (k.val 0):=by
 intro l
 induction l generalizing ks with
 | nil=>intro xs h _ _ j k hj;simp [jk] at h;subst h;simp at hj
 | cons v l ih=>
   intro xs h hz hr j k hj
   cases xs with
   | nil=>simp [qj] at hr
   | cons y xs=>
     simp only [jk] at h
     split at h
     · rename_i k0 ks0 h1 h2
       simp at h;subst h
       simp at hz
       cases j with
       | zero=>
         simp at hj;subst hj
         obtain ⟨hr1,_⟩:=hr
         cases v <;> simp [kindOf] at h1
         case bool e=>
           subst h1
           obtain ⟨n,h3,rfl⟩:=hr1
           have h4:=hz.1
           cases e <;> simp [AV.isZero] at h4
           subst h4
           simp [E.den] at h3;subst h3;rfl
         case int q e=>
           subst h1
           obtain ⟨n,h3,rfl⟩:=hr1
           have h4:=hz.1
           cases e <;> simp [AV.isZero] at h4
           subst h4
           simp [E.den] at h3;subst h3;rfl
         case str q=>
           subst h1
           have h4:=hz.1
           simp only [AV.isZero,List.isEmpty_iff] at h4
           subst h4
           obtain ⟨s,rfl,h3⟩:=hr1
           exact congrArg some (fq h3)
         case sat q=>simp [AV.isZero] at hz
         case lst q q'=>simp [AV.isZero] at hz
         case fco q q'=>simp [AV.isZero] at hz
         case wN q q'=>simp [AV.isZero] at hz
       | succ j=>exact ih h2 (by simpa using hz.2) hr.2 j k (by simpa using hj)
     · cases h
end Go.Sx
end
noncomputable section
namespace Go.Sx
open Go
variable {A:Amb} {I:Itp} {P:Program} {g:G} {X:Nat→Prop} {ts:qL} {a:Act} {M:Mem} {w:World}
section
variable {env:List D} {t u:E} {f h:Int→Nat→Int}
theorem ZQ (ht:t.den I env=some (.t f)) (hu:u.den I env=some (.t h)):∀k:Nat,(ZJ t u k).den I env=some (.i (if ((List.range k).all fun i=>f i 0 == h i 0)=true then 1 else 0))
 | 0=>by simp [ZJ,E.den]
 | k+1=>by
   have h1:=ZQ ht hu k
   have h2:=qy (o:=.eq) (jT (c:=0) ht (show (E.lit (k:Int)).den I env=some (.i k) from rfl)) (jT (c:=0) hu (show (E.lit (k:Int)).den I env=some (.i k) from rfl))
   rw [ZJ,qy (o:=.and) h1 h2]
   simp only [BO.ev,List.range_succ,List.all_append,List.all_cons,List.all_nil,Bool.and_true,Bool.and_eq_true,beq_iff_eq]
   by_cases h3:((List.range k).all fun i=>f i 0 == h i 0)=true <;> by_cases h4:f k 0=h k 0 <;> simp [h3,h4]
theorem Wv {n m:E} {x y:Int} (ht:t.den I env=some (.t f)) (hn:n.den I env=some (.i x)) (hu:u.den I env=some (.t h)) (hm:m.den I env=some (.i y)) :
   (VZ t n u m).den I env=some (.i (strEq f x h y)):=by
 unfold VZ
 split
 · rename_i p q
   simp [E.den] at hn hm
   subst hn;subst hm
   split
   · rename_i hne;simp [strEq,hne,E.den]
   · rename_i he
     have he:p=q:=Decidable.not_not.1 he
     subst he
     split
     · rw [ZQ ht hu];simp only [strEq,true_and]
     · simp [E.den,ht,hu]
 · simp [E.den,ht,hu,hn,hm]
end
theorem mh {v:AV} {x:Value} {t n:E} (h:v.oK=some (t,n)) (hv:Rel I g v x):Rel I g (.wN t n) x:=by
 cases v with
 | str l=>
   simp only [AV.oK,Option.some.injEq,Prod.mk.injEq] at h
   obtain ⟨rfl,rfl⟩:=h
   obtain ⟨s,h1,h2⟩:=hv
   obtain ⟨f,h3,h4⟩:=ZK (I:=I) (env:=g.env) l
   exact ⟨f,_,s,h3,rfl,h1,by rw [h2],fun i b hb=>h4 i b (by rw [←h2];exact hb)⟩
 | wN t' n'=>
   simp only [AV.oK,Option.some.injEq,Prod.mk.injEq] at h
   obtain ⟨rfl,rfl⟩:=h
   exact hv
 | _=>simp [AV.oK] at h
theorem Qj {f h:Int→Nat→Int} {l m:List UInt8} (hf:∀(i:Nat) (b:UInt8),l[i]?=some b→f i 0=b.toNat) (hh:∀(i:Nat) (b:UInt8),m[i]?=some b→h i 0=b.toNat) :
   strEq f l.length h m.length=if l=m then 1 else 0:=by
 unfold strEq
 by_cases he:l=m
 · subst he
   rw [if_pos,if_pos rfl]
   refine ⟨rfl,?_⟩
   rw [List.all_eq_true]
   intro i hi
   have hi:i<l.length:=by simpa using hi
   simp only [beq_iff_eq]
   rw [hf i l[i] (List.getElem?_eq_getElem hi),hh i l[i] (List.getElem?_eq_getElem hi)]
 · rw [if_neg,if_neg he]
   rintro ⟨h1,h2⟩
   apply he
   have hlen:l.length=m.length:=by omega
   refine List.ext_getElem hlen fun i h3 h4=>?_
   rw [List.all_eq_true] at h2
   have:=h2 i (by simpa using h3)
   simp only [beq_iff_eq] at this
   rw [hf i l[i] (List.getElem?_eq_getElem h3),hh i m[i] (List.getElem?_eq_getElem h4)] at this
   exact UInt8.toNat_inj.1 (by omega)
theorem yw {o:BinOp} {t:TypeId} {x y:ByteArray} {ox oy:Operand}:(eqGuard o t ox oy (.string x) (.string y)).run P w=.ok () w:=by
 cases o <;> rfl
theorem pR {t:TypeId} {x y:ByteArray}:(binOp .eql t (.string x) (.string y)).run P w=.ok (.bool (decide (x.data.toList=y.data.toList))) w:=by
 simp only [binOp,Op.stringOp,Sem.run_pure,ByteArray.toList_eq]
 congr 2
 by_cases h:x.data.toList=y.data.toList
 · rw [h];simp
 · rw [beq_eq_false_iff_ne.2 h];simp only [decide_eq_false h]
theorem pF {t:TypeId} {x y:ByteArray}:(binOp .neq t (.string x) (.string y)).run P w=.ok (.bool (!decide (x.data.toList=y.data.toList))) w:=by
 simp only [binOp,Op.stringOp,Sem.run_pure,ByteArray.toList_eq]
 congr 2
 by_cases h:x.data.toList=y.data.toList
 · rw [h];simp
 · rw [beq_eq_false_iff_ne.2 h];simp only [decide_eq_false h]
theorem pU {t:TypeId} {x y:ByteArray} (h:x.data.toList.length+y.data.toList.length≤1000000):(binOp .add t (.string x) (.string y)).run P w=.ok (.string (x++y)) w:=by
 have h1:x.size=x.data.toList.length:=by rw [Array.length_toList];rfl
 have h2:y.size=y.data.toList.length:=by rw [Array.length_toList];rfl
 have h3:¬(((x.size+y.size:Nat):Int) > IntKind.i64.max):=by
   rw [h1,h2]
   have:IntKind.i64.max=9223372036854775807:=by rfl
   omega
 simp only [binOp,Op.stringOp,if_neg h3,Sem.run_pure]
theorem nG (x y:ByteArray):(x++y).data.toList=x.data.toList++y.data.toList:=by
 have:(x++y).data=x.data++y.data:=ByteArray.data_append
 rw [this,Array.toList_append]
theorem Bt {o:BinOp} {t:TypeId} {v u z:AV} {x y:Value} {ps:List PE} (h:Yf o v u=some (z,ps)) (hp:∀q∈ps,q.den I g.env)
   (hx:Rel I g v x) (hy:Rel I g u y) (ox oy:Operand) (w:World):∃r,(do eqGuard o t ox oy x y;binOp o t x y:Sem Value).run P w=.ok r w∧Rel I g z r:=by
 unfold Yf at h
 split at h
 · rename_i l m
   obtain ⟨s1,rfl,h1⟩:=hx
   obtain ⟨s2,rfl,h2⟩:=hy
   split at h
   · simp at h;obtain ⟨rfl,rfl⟩:=h
     refine ⟨_,zl yw pR,_,rfl,?_⟩
     rw [h1,h2];by_cases he:l=m <;> simp [he]
   · simp at h;obtain ⟨rfl,rfl⟩:=h
     refine ⟨_,zl yw pF,_,rfl,?_⟩
     rw [h1,h2];by_cases he:l=m <;> simp [he]
   · split at h
     · rename_i hlen
       simp at h;obtain ⟨rfl,rfl⟩:=h
       exact ⟨_,zl yw (pU (by rw [h1,h2];exact hlen)),_,rfl,by rw [nG,h1,h2]⟩
     · cases h
   · cases h
 · split at h
   · rename_i t1 n1 u1 m1 hv hu
     obtain ⟨f1,k1,s1,e1,e2,rfl,e3,e4⟩:=mh hv hx
     obtain ⟨f2,k2,s2,d1,d2,rfl,d3,d4⟩:=mh hu hy
     have heq:=Wv e1 e2 d1 d2
     rw [e3,d3,Qj e4 d4] at heq
     split at h
     · simp at h;obtain ⟨rfl,rfl⟩:=h
       refine ⟨_,zl yw pR,_,heq,?_⟩
       by_cases he:s1.data.toList=s2.data.toList <;> simp [he]
     · simp at h;obtain ⟨rfl,rfl⟩:=h
       refine ⟨_,zl yw pF,_,qy (o:=.eq) heq (show (E.lit 0).den I g.env=some (.i 0) from rfl),?_⟩
       by_cases he:s1.data.toList=s2.data.toList <;> simp [he,BO.ev]
     · simp at h;obtain ⟨rfl,rfl⟩:=h
       have hle:=zh (qE e2 d2) (show (E.lit 1000000).den I g.env=some (.i 1000000) from rfl) (hp _ (by simp))
       refine ⟨_,zl yw (pU (by omega)),Bd f1 k1 f2,_,_,by simp only [E.den,e1,e2,d1],qE e2 d2,rfl,by rw [nG,List.length_append];omega,fun i b hb=>?_⟩
       rw [nG] at hb
       simp only [Bd]
       by_cases hi:i<s1.data.toList.length
       · rw [List.getElem?_append_left hi] at hb
         rw [if_pos (by omega)];exact e4 i b hb
       · rw [List.getElem?_append_right (by omega)] at hb
         rw [if_neg (by omega),←d4 _ b hb]
         congr 1;omega
     · cases h
   · cases h
theorem R5 {eq:TypeId→AV→AV→Option E} {d:Nat} (xs ys:Array Value) {l m:List AV} (hl:qj I g l xs.toList) (hm:qj I g m ys.toList)
   (heq:∀(t:TypeId) (v u:AV) (e:E) (x y:Value),eq t v u=some e→Rel I g v x→Rel I g u y→∃n:Int,e.den I g.env=some (.i n)∧(n=0∨n=1)∧(Op.equalIn d t x y).run P w=.ok (decide (n≠0)) w) :
   ∀(fs:List Field) (e:E),Gm P eq l m fs=some e→
   ∃n:Int,e.den I g.env=some (.i n)∧(n=0∨n=1)∧(forIn fs (none,()) (yJ d xs ys)).run P w=.ok (if n=0 then some false else none,()) w:=by
 intro fs
 induction fs with
 | nil=>intro e he;simp [Gm] at he;subst he;exact ⟨1,rfl,.inr rfl,rfl⟩
 | cons f fs ih=>
   intro e he
   simp only [Gm] at he
   split at he
   · cases he
   rename_i hname
   split at he
   · rename_i ag n hag hn
     split at he
     · rename_i v u hv hu
       split at he
       · rename_i e1 e2 h1 h2
         simp at he;subst he
         obtain ⟨x,hx,hrx⟩:=fV (P:=P) (w:=w) hv hl hag hn
         obtain ⟨y,hy,hry⟩:=fV (P:=P) (w:=w) hu hm hag hn
         obtain ⟨n1,k1,k2,k3⟩:=heq _ _ _ _ _ _ h1 hrx hry
         obtain ⟨n2,j1,j2,j3⟩:=ih e2 h2
         refine ⟨_,qy k1 j1,Mx _ _,?_⟩
         have step:(forIn (f::fs) (none,()) (yJ d xs ys)).run P w=if n1=0 then .ok (some false,()) w else (forIn fs (none,()) (yJ d xs ys)).run P w:=by
           simp only [List.forIn_cons,yJ,if_neg hname,Sem.run_bind,hx,hy,Result.andThen,k3]
           rcases k2 with rfl | rfl <;> rfl
         rw [step,j3]
         rcases k2 with rfl | rfl <;> rcases j2 with rfl | rfl <;> simp [BO.ev]
       · cases he
     · cases he
   · cases he
abbrev aI (d:Nat) (el:TypeId) (n:Nat) (xs ys:Array Value):Nat→Option Bool × Unit→Sem (ForInStep (Option Bool × Unit)):=fun i _=>do
 let __do_lift ←part el xs (i*n)
 let GI ←part el ys (i*n)
 let GU ←Op.equalIn d el __do_lift GI
 if (!GU)=true then pure (ForInStep.done (some false,())) else do pure (ForInStep.yield (none,()))
theorem Ny {eq:AV→AV→Option E} {d:Nat} {el:TypeId} {n:Nat} {ag:Bool} (xs ys:Array Value) {l m:List AV} (hl:qj I g l xs.toList) (hm:qj I g m ys.toList) (hag:wM P el=some ag) (hn:qp P el=some n)
   (heq:∀(v u:AV) (e:E) (x y:Value),eq v u=some e→Rel I g v x→Rel I g u y→∃n:Int,e.den I g.env=some (.i n)∧(n=0∨n=1)∧(Op.equalIn d el x y).run P w=.ok (decide (n≠0)) w) :
   ∀(k i:Nat) (e:E),Gn eq l m n ag i k=some e→
   ∃r:Int,e.den I g.env=some (.i r)∧(r=0∨r=1)∧(forIn (List.range' i k 1) (none,()) (aI d el n xs ys)).run P w=.ok (if r=0 then some false else none,()) w:=by
 intro k
 induction k with
 | zero=>intro i e he;simp [Gn] at he;subst he;exact ⟨1,rfl,.inr rfl,rfl⟩
 | succ k ih=>
   intro i e he
   simp only [Gn] at he
   split at he
   · rename_i v u hv hu
     split at he
     · rename_i e1 e2 h1 h2
       simp at he;subst he
       obtain ⟨x,hx,hrx⟩:=fV (P:=P) (w:=w) hv hl hag hn
       obtain ⟨y,hy,hry⟩:=fV (P:=P) (w:=w) hu hm hag hn
       obtain ⟨n1,k1,k2,k3⟩:=heq _ _ _ _ _ h1 hrx hry
       obtain ⟨n2,j1,j2,j3⟩:=ih _ e2 h2
       refine ⟨_,qy k1 j1,Mx _ _,?_⟩
       have step:(forIn (List.range' i (k+1) 1) (none,()) (aI d el n xs ys)).run P w=if n1=0 then .ok (some false,()) w else (forIn (List.range' (i+1) k 1) (none,()) (aI d el n xs ys)).run P w:=by
         simp only [List.range'_succ,List.forIn_cons,aI,Sem.run_bind,hx,hy,Result.andThen,k3]
         rcases k2 with rfl | rfl <;> rfl
       rw [step,j3]
       rcases k2 with rfl | rfl <;> rcases j2 with rfl | rfl <;> simp [BO.ev]
     · cases he
   · cases he
theorem O7 (x y:Int):BO.eq.ev x y=0∨BO.eq.ev x y=1:=by simp only [BO.ev];split <;> simp
theorem iI:∀(d:Nat) (t:TypeId) (v u:AV) (e:E) (x y:Value),lQ P d t v u=some e→Rel I g v x→Rel I g u y→
   ∃n:Int,e.den I g.env=some (.i n)∧(n=0∨n=1)∧∀k,(Op.equalIn (d+k) t x y).run P w=.ok (decide (n≠0)) w
 | 0,_,_,_,_,_,_,h,_,_=>by simp [lQ] at h
 | d+1,t,v,u,e,x,y,h,hx,hy=>by
   simp only [lQ] at h
   split at h
   · rename_i q hq
     split at h
     · rename_i k a k' b
       split at h
       · rename_i hk;subst hk
         simp at h;subst h
         obtain ⟨na,hna,rfl⟩:=hx
         obtain ⟨nb,hnb,rfl⟩:=hy
         refine ⟨_,qy hna hnb,O7 _ _,fun j=>?_⟩
         rw [show d+1+j=(d+j)+1 by omega]
         simp only [Op.equalIn,Sem.run_bind,run_underlying hq,Result.andThen]
         by_cases hab:na=nb <;> simp [BO.ev,hab,Sem.run_pure]
       · cases h
     · cases h
   · rename_i hq
     split at h
     · rename_i a b
       simp at h;subst h
       obtain ⟨na,hna,rfl⟩:=hx
       obtain ⟨nb,hnb,rfl⟩:=hy
       refine ⟨_,qy (qy hna (show (E.lit 0).den I g.env=some (.i 0) from rfl)) (qy hnb (show (E.lit 0).den I g.env=some (.i 0) from rfl)),O7 _ _,fun j=>?_⟩
       rw [show d+1+j=(d+j)+1 by omega]
       simp only [Op.equalIn,Sem.run_bind,run_underlying hq,Result.andThen]
       by_cases ha:na=0 <;> by_cases hb:nb=0 <;> simp [BO.ev,ha,hb,Sem.run_pure]
     · cases h
   · rename_i hq
     have fin:∀(s1 s2:ByteArray) (j:Nat),(Op.equalIn (d+1+j) t (.string s1) (.string s2)).run P w=.ok (decide (s1.data.toList=s2.data.toList)) w:=fun s1 s2 j=>by
       rw [show d+1+j=(d+j)+1 by omega]
       simp only [Op.equalIn,Sem.run_bind,run_underlying hq,Result.andThen,Sem.run_pure]
       congr 1
       have e:(s1 == s2)=(s1.data == s2.data):=by cases s1;cases s2;rfl
       rw [e]
       by_cases he:s1.data.toList=s2.data.toList
       · rw [decide_eq_true he,beq_iff_eq]
         exact Array.toList_inj.1 he
       · rw [decide_eq_false he,beq_eq_false_iff_ne]
         exact fun e=>he (by rw [e])
     split at h
     · rename_i l m
       simp at h;subst h
       obtain ⟨s1,rfl,h1⟩:=hx
       obtain ⟨s2,rfl,h2⟩:=hy
       refine ⟨_,rfl,by split <;> simp,fun j=>?_⟩
       rw [fin,h1,h2]
       by_cases he:l=m <;> simp [he]
     · split at h
       · rename_i t1 n1 u1 m1 hv hu
         simp at h;subst h
         obtain ⟨f1,k1,s1,e1,e2,rfl,e3,e4⟩:=mh hv hx
         obtain ⟨f2,k2,s2,d1,d2,rfl,d3,d4⟩:=mh hu hy
         have heq:=Wv e1 e2 d1 d2
         rw [e3,d3,Qj e4 d4] at heq
         refine ⟨_,heq,by split <;> simp,fun j=>?_⟩
         rw [fin]
         by_cases he:s1.data.toList=s2.data.toList <;> simp [he]
       · split at h
         · rename_i ca cb hv hu
           simp at h;subst h
           obtain ⟨n1,e1,rfl⟩:=xX hv hx
           obtain ⟨n2,e2,rfl⟩:=xX hu hy
           refine ⟨_,qy (o:=.eq) e1 e2,O7 _ _,fun j=>?_⟩
           unfold kR
           rw [fin]
           simp only [BO.ev]
           by_cases he:n1=n2
           · simp [he]
           · have:¬zW n1=zW n2:=fun hh=>he (fZ hh)
             simp [he,this]
         · cases h
   · rename_i fs hq
     split at h
     · rename_i l m
       split at h
       · rename_i hst
         obtain ⟨cs,rfl,hl⟩:=hx
         obtain ⟨ds,rfl,hm⟩:=hy
         have key:∀j,∃n:Int,e.den I g.env=some (.i n)∧(n=0∨n=1)∧(Op.equalIn (d+1+j) t (.agg cs) (.agg ds)).run P w=.ok (decide (n≠0)) w:=by
           intro j
           obtain ⟨n,h1,h2,h3⟩:=R5 (P:=P) (w:=w) (d:=d+j) cs ds hl hm (fun t v u e x y h hx hy=>by
             obtain ⟨n,k1,k2,k3⟩:=iI d t v u e x y h hx hy
             exact ⟨n,k1,k2,k3 j⟩) fs.toList e h
           refine ⟨n,h1,h2,?_⟩
           rw [show d+1+j=(d+j)+1 by omega]
           have h4:(Op.equalIn ((d+j)+1) t (.agg cs) (.agg ds)).run P w=((forIn fs (none,()) (yJ (d+j) cs ds)).run P w).andThen fun a w'=>(match a.fst with
               | some r=>(Pure.pure r:Sem Bool)
               | none=>Pure.pure true).run P w':=by
             rw [Op.equalIn.eq_def]
             simp only [Sem.run_bind,run_underlying hq,Result.andThen,run_program,hst]
             simp
             have hb':∀(b b':Field→Option Bool × Unit→Sem (ForInStep (Option Bool × Unit))),b=b'→∀(K:Result (Option Bool × Unit)→Prop),K ((forIn fs (none,()) b':Sem _).run P w)→K ((forIn fs (none,()) b:Sem _).run P w):=fun b b' e K h=>by rw [e];exact h
             refine hb' _ (yJ (d+j) cs ds) ?_ (fun q=>q.andThen _=_) (by rcases (forIn fs (none,()) (yJ (d+j) cs ds):Sem _).run P w with ⟨⟨_ | _,_⟩,_⟩ | _ <;> rfl)
             funext f s
             simp only [yJ]
           rw [h4,←Array.forIn_toList,h3]
           rcases h2 with rfl | rfl <;> rfl
         obtain ⟨n,h1,h2,_⟩:=key 0
         refine ⟨n,h1,h2,fun j=>?_⟩
         obtain ⟨n',h3,_,h4⟩:=key j
         rw [h1] at h3;cases h3
         exact h4
       · cases h
     · cases h
   · rename_i len el hq
     split at h
     · rename_i l m
       split at h
       · rename_i ag sz hag hn
         obtain ⟨cs,rfl,hl⟩:=hx
         obtain ⟨ds,rfl,hm⟩:=hy
         have key:∀j,∃n:Int,e.den I g.env=some (.i n)∧(n=0∨n=1)∧(Op.equalIn (d+1+j) t (.agg cs) (.agg ds)).run P w=.ok (decide (n≠0)) w:=by
           intro j
           obtain ⟨n,h1,h2,h3⟩:=Ny (P:=P) (w:=w) (d:=d+j) cs ds hl hm hag hn (fun v u e x y h hx hy=>by
             obtain ⟨n,k1,k2,k3⟩:=iI d el v u e x y h hx hy
             exact ⟨n,k1,k2,k3 j⟩) len 0 e h
           refine ⟨n,h1,h2,?_⟩
           rw [show d+1+j=(d+j)+1 by omega]
           rw [Op.equalIn.eq_def]
           simp only [Sem.run_bind,run_underlying hq,Result.andThen,qB hn,Std.Legacy.Range.forIn_eq_forIn_range',Std.Legacy.Range.size,Nat.sub_zero,Nat.add_sub_cancel,Nat.div_one]
           have hb':∀(b b':Nat→Option Bool × Unit→Sem (ForInStep (Option Bool × Unit))),b=b'→∀(K:Result (Option Bool × Unit)→Prop),K ((forIn (List.range' 0 len 1) (none,()) b':Sem _).run P w)→K ((forIn (List.range' 0 len 1) (none,()) b:Sem _).run P w):=fun b b' e K h=>by rw [e];exact h
           generalize hbody:(fun (i:Nat) (r:Option Bool × Unit)=>_:Nat→Option Bool × Unit→Sem (ForInStep (Option Bool × Unit)))=body
           obtain rfl:body=aI (d+j) el sz cs ds:=by subst hbody;funext f s;simp only [aI]
           rw [h3]
           rcases h2 with rfl | rfl <;> rfl
         obtain ⟨n,h1,h2,_⟩:=key 0
         refine ⟨n,h1,h2,fun j=>?_⟩
         obtain ⟨n',h3,_,h4⟩:=key j
         rw [h1] at h3;cases h3
         exact h4
       · cases h
     · cases h
   · cases h
theorem DL {o:BinOp} {t:TypeId} {v u z:AV} {x y:Value} {ps:List PE} (h:XT P o t v u=some (z,ps))
   (hx:Rel I g v x) (hy:Rel I g u y) (ox oy:Operand) (w:World):∃r,(do eqGuard o t ox oy x y;binOp o t x y:Sem Value).run P w=.ok r w∧Rel I g z r:=by
 unfold XT at h
 split at h
 · rename_i l m
   split at h
   · rename_i hgd
     have hx0:=hx
     have hy0:=hy
     obtain ⟨cs,rfl,_⟩:=hx0
     obtain ⟨ds,rfl,_⟩:=hy0
     have fin:∀{e:E},lQ P 20 t (.agg l) (.agg m)=some e→∃n:Int,e.den I g.env=some (.i n)∧GA P w t (.agg cs) (.agg ds) n:=fun he=>by
       obtain ⟨n,h1,_,h2⟩:=iI 20 t _ _ _ _ _ he hx hy
       exact ⟨n,h1,.jo (fun op ox oy=>by cases op <;> simp [eqGuard,Result.andThen,hgd]) rfl rfl (h2 9980)⟩
     split at h
     · rename_i e he
       simp at h;obtain ⟨rfl,rfl⟩:=h
       obtain ⟨n,h1,h2⟩:=fin he
       exact ⟨_,zl (h2.guard _ _ _) h2.eql,n,h1,rfl⟩
     · rename_i e he
       simp at h;obtain ⟨rfl,rfl⟩:=h
       obtain ⟨n,h1,h2⟩:=fin he
       refine ⟨_,zl (h2.guard _ _ _) h2.neq,_,qy h1 (show (E.lit 0).den I g.env=some (.i 0) from rfl),?_⟩
       by_cases hn:n=0 <;> simp [BO.ev,hn]
     · cases h
   · cases h
 · cases h
theorem lN {t:E} {f:Int→Nat→Int} {env:List D} (ht:t.den I env=some (.t f)):∀{k:Nat} {l:List UInt8},rP t k=some l→l.length=k∧∀(i:Nat) (b:UInt8),l[i]?=some b→f i 0=b.toNat
 | 0,l,h=>by simp [rP] at h;subst h;simp
 | k+1,l,h=>by
   simp only [rP] at h
   split at h
   · rename_i l0 x h1 h2
     split at h
     · rename_i hx
       simp at h;subst h
       obtain ⟨h3,h4⟩:=lN ht h1
       refine ⟨by simp [h3],fun i b hb=>?_⟩
       by_cases hi:i<l0.length
       · rw [List.getElem?_append_left hi] at hb;exact h4 i b hb
       · rw [List.getElem?_append_right (by omega)] at hb
         have hik:i - l0.length=0:=by
           have:=(List.getElem?_eq_some_iff.1 hb).1
           simp at this;omega
         rw [hik] at hb
         simp at hb;subst hb
         have hik:i=k:=by omega
         subst hik
         have h5:=jT (c:=0) ht (show (E.lit (i:Int)).den I env=some (.i i) from rfl)
         rw [h2] at h5
         simp [E.den] at h5
         rw [←h5,UInt8.toNat_ofNat']
         omega
     · cases h
   · cases h
theorem Mi {t n:E} {f:Int→Nat→Int} {k:Int} (ht:t.den I g.env=some (.t f)) (hn:n.den I g.env=some (.i k)) (hk:0≤k) (hp:∀q∈(toStr t n).2,q.den I g.env) :
   ∃bs:List UInt8,(bs.length:Int)=k∧(∀(i:Nat) (b:UInt8),bs[i]?=some b→f i 0=b.toNat)∧∀s:ByteArray,s.data.toList=bs→Rel I g (toStr t n).1 (.string s):=by
 have sym:(PE.byt t n).den I g.env→∃bs:List UInt8,(bs.length:Int)=k∧(∀(i:Nat) (b:UInt8),bs[i]?=some b→f i 0=b.toNat)∧∀s:ByteArray,s.data.toList=bs→Rel I g (.wN t n) (.string s):=by
   rintro ⟨f',k',h1,h2,h3⟩
   rw [ht] at h1;cases h1
   rw [hn] at h2;cases h2
   have hb:∀(i:Nat) (b:UInt8),((List.range k.toNat).map fun (i:Nat)=>UInt8.ofNat (f i 0).toNat)[i]?=some b→f i 0=b.toNat:=fun i b hb=>by
     simp only [List.getElem?_map,Option.map_eq_some_iff] at hb
     obtain ⟨j,hj,rfl⟩:=hb
     obtain ⟨hlt,hj⟩:=List.getElem?_eq_some_iff.1 hj
     simp at hj hlt;subst hj
     have:=h3 i (by omega)
     rw [UInt8.toNat_ofNat']
     omega
   refine ⟨_,by simp;omega,hb,fun s hs=>⟨f,k,s,ht,hn,rfl,by rw [hs];simp;omega,by rw [hs];exact hb⟩⟩
 unfold toStr at hp ⊢
 split at hp
 · rename_i m
   simp [E.den] at hn;subst hn
   split at hp
   · rename_i hc
     split at hp
     · rename_i l hl
       obtain ⟨h1,h2⟩:=lN ht hl
       rw [if_pos hc]
       exact ⟨l,by omega,h2,fun s hs=>⟨s,rfl,hs⟩⟩
     · rename_i hl
       rw [if_pos hc]
       exact sym (hp _ (by simp))
   · rename_i hc
     rw [if_neg hc]
     exact sym (hp _ (by simp))
 · exact sym (hp _ (by simp))
theorem Rw {env:List D} {t n:E} {f:Int→Nat→Int} {x:Int} (ht:t.den I env=some (.t f)) (hn:n.den I env=some (.i x)):(Cv t n).den I env=some (.t fun r c=>f (r+x) c):=by
 unfold Cv
 split
 · simp [E.den] at hn;subst hn;simpa using ht
 · simp [E.den,ht,hn]
theorem XH {src dst el:TypeId} (hs:P.underlying src=some (.slice el)) (he:P.underlying el=some (.int .u8)) (hd:P.underlying dst=some .string) (hm:qW A I P g M w) {v z:AV} {x:Value} {ps:List PE}
   (h:ou M v=some (z,ps)) (hp:∀q∈ps,q.den I g.env) (hx:Rel I g v x):∃r,(convert src dst x).run P w=.ok r w∧Rel I g z r:=by
 have none0:∀c d:Nat,∃s:ByteArray,(convert src dst (.slice none c d)).run P w=.ok (.string s) w∧s.data.toList=[]:=fun c d=>by
   rw [run_convert_bytes_string w src dst el none c d hs he hd]
   exact ⟨_,rfl,rfl⟩
 have Fj:∀(ad:Addr) (d:Nat),∃s:ByteArray,(convert src dst (.slice (some ad) 0 d)).run P w=.ok (.string s) w∧s.data.toList=[]:=fun ad d=>
   ⟨_,run_convert_bytes_back w src dst el ad d [] hs he hd (fun j hj=>by simp at hj),rfl⟩
 unfold ou at h
 split at h
 · simp at h;obtain ⟨rfl,rfl⟩:=h
   simp only [Rel] at hx;subst hx
   obtain ⟨s,h1,h2⟩:=none0 0 0
   exact ⟨_,h1,s,rfl,h2⟩
 · simp at h;obtain ⟨rfl,rfl⟩:=h
   obtain ⟨ad,rfl⟩:=hx
   obtain ⟨s,h1,h2⟩:=Fj ad 0
   exact ⟨_,h1,s,rfl,h2⟩
 · simp at h;obtain ⟨rfl,rfl⟩:=h
   obtain ⟨ad,rfl⟩:=hx
   cases ad with
   | none=>obtain ⟨s,h1,h2⟩:=none0 0 0;exact ⟨_,h1,s,rfl,h2⟩
   | some ad=>obtain ⟨s,h1,h2⟩:=Fj ad 0;exact ⟨_,h1,s,rfl,h2⟩
 · simp at h;obtain ⟨rfl,rfl⟩:=h
   obtain ⟨ad,c,rfl⟩:=hx
   obtain ⟨s,h1,h2⟩:=Fj ad c
   exact ⟨_,h1,s,rfl,h2⟩
 · rename_i b lo n s nl
   split at h
   · rename_i ks t len wr nl2 hb
     split at h
     · rename_i hc
       obtain ⟨rfl,rfl⟩:=hc
       simp at h;obtain ⟨rfl,rfl⟩:=h
       obtain ⟨f,m,hf,hm2,hm0,hrow⟩:=hm.blk _ _ hb
       obtain ⟨l,k,h1,h2,h3,h4,h5⟩:=hx
       have hle:=zh (qE h1 h2) hm2 (hp _ (by simp))
       obtain ⟨bs,k1,k2,k3⟩:=Mi (Rw hf h1) h2 h4 (fun q hq=>hp q (by simp [hq]))
       have hlen:bs.length=k.toNat:=by omega
       rcases h5 with ⟨p,cap,h6,rfl,h8,h9⟩ | ⟨_,h6,ad,rfl⟩
       · have hcell:∀(j:Nat) (hj:j<bs.length),w.cell? ((⟨p.blk,p.base+l.toNat*1,none⟩:Addr).add j)=some (.int .u8 (bs[j].toNat:Int)):=fun j hj=>by
           rcases hrow with ⟨p',c,T,fr,hp',hh,hcs,_⟩ | ⟨_,hz,hno⟩
           · rw [h6] at hp';cases hp'
             have:=hcs (l.toNat+j) 0 (.int .u8) (by omega) rfl
             rw [addr_add,zo hh]
             have e:p.base+l.toNat*1+j=p.base+(l.toNat+j) * [CK.int IntKind.u8].length+0:=by simp;omega
             rw [e,(CK.Kc rfl).1 this]
             have hb:=k2 j bs[j] (List.getElem?_eq_getElem hj)
             have e2:(((l.toNat+j:Nat):Int))=(j:Int)+l:=by omega
             rw [e2,←hb];rfl
           · rw [h6] at hno;cases hno
         have hrun:=run_convert_bytes_back w src dst el ⟨p.blk,p.base+l.toNat*1,none⟩ cap bs hs he hd hcell
         rw [hlen] at hrun
         exact ⟨_,hrun,k3 _ rfl⟩
       · subst h6
         have hbs:bs=[]:=List.length_eq_zero_iff.1 (by omega)
         subst hbs
         cases ad with
         | none=>obtain ⟨s,h1,h2⟩:=none0 0 0;exact ⟨_,h1,k3 s h2⟩
         | some ad=>obtain ⟨s,h1,h2⟩:=Fj ad 0;exact ⟨_,h1,k3 s h2⟩
     · cases h
   · cases h
 · cases h
theorem tV (ht:wm I g X ts a.tmps) {o:Option Operand} {e:Option E} (h:rU ts o=some e) (hx:∀t,o=some (.tmp t)→¬X t) :
   ∃c:Option Int,jD (o.map a.eval) c∧(c.isSome=e.isSome)∧∀(d:E) (m:Int),d.den I g.env=some (.i m)→(e.getD d).den I g.env=some (.i (c.getD m)):=by
 cases o with
 | none=>
   simp [rU] at h;subst h
   exact ⟨none,rfl,rfl,fun d m hd=>hd⟩
 | some y=>
   simp only [rU] at h
   split at h
   · rename_i k e' he
     simp at h;subst h
     obtain ⟨m,h1,h2⟩:=zm ht he fun t e=>hx t (by rw [e])
     exact ⟨some m,⟨k,by simp [h2]⟩,rfl,fun _ _ _=>h1⟩
   · cases h
theorem Yc {t el:TypeId} {b:Nat} {l len:E} {s:Nat} {nl:Bool} (hu:P.underlying t=some (.slice el)) (hs:qp P el=some s) {v:AV} {y:Value} {lo hi:Option Value} {ea eh:Option E} {ca ch:Option Int} {ps:List PE}
   (hr:Rel I g (.slice b l len s nl) y) (ha:jD lo ca) (hh:jD hi ch)
   (hea:∀(d:E) (m:Int),d.den I g.env=some (.i m)→(ea.getD d).den I g.env=some (.i (ca.getD m))) (heh:∀(d:E) (m:Int),d.den I g.env=some (.i m)→(eh.getD d).den I g.env=some (.i (ch.getD m)))
   (h:u6 (.slice b l len s nl) ea eh=some (v,ps)) (hp:∀q∈ps,q.den I g.env) :
   ∃z,(Instr.sliceAt t y lo hi none).run P w=.ok z w∧Rel I g v z:=by
 simp only [u6,Option.some.injEq,Prod.mk.injEq] at h
 obtain ⟨rfl,rfl⟩:=h
 obtain ⟨l',n,hl,hn,hl0,hn0,hcase⟩:=hr
 have hA:=hea (.lit 0) 0 rfl
 have hH:=heh len n hn
 have h1:=zh (show (E.lit 0).den I g.env=some (.i 0) from rfl) hA (hp _ (by simp))
 have h2:=zh hA hH (hp _ (by simp))
 have h3:=zh hH hn (hp _ (by simp))
 have hnn:ch.getD ((n.toNat:Nat):Int)=ch.getD n:=by rw [Int.toNat_of_nonneg hn0]
 rcases hcase with ⟨p,cap,h5,rfl,h6,h7⟩ | ⟨h5,h6,ad,rfl⟩
 · refine ⟨_,zn hu hs ha hh (show jD none none from rfl) (by simp) h1 (by rw [hnn];exact h2) (by rw [hnn];simp;omega) (by simp),?_⟩
   rw [hnn]
   simp only [Option.getD_none,Int.toNat_natCast]
   by_cases hc:cap=(ca.getD 0).toNat
   · rw [if_pos hc]
     refine ⟨l'+ca.getD 0,ch.getD n - ca.getD 0,qE hl hA,yE hH hA,by omega,by omega,.inr ⟨rfl,by omega,some ⟨p.blk,p.base+l'.toNat*s,none⟩,?_⟩⟩
     rw [show (ch.getD n).toNat - (ca.getD 0).toNat=0 by omega,show cap - (ca.getD 0).toNat=0 by omega]
   · rw [if_neg hc]
     refine ⟨l'+ca.getD 0,ch.getD n - ca.getD 0,qE hl hA,yE hH hA,by omega,by omega,.inl ⟨p,cap - (ca.getD 0).toNat,h5,?_,by omega,Nat.le_trans (Nat.mul_le_mul_right _ (by omega)) h7⟩⟩
     simp only [Option.map_some,addr_add]
     congr 1
     · rw [show (l'+ca.getD 0).toNat=l'.toNat+(ca.getD 0).toNat by omega,Nat.add_mul,Nat.add_assoc]
     · omega
 · refine ⟨_,zn hu hs ha hh (show jD none none from rfl) (by simp) h1 (by simp;rw [h6] at h2;exact h2) (by simp;rw [h6] at h3;exact h3) (by simp),?_⟩
   have e1:ca.getD 0=0:=by omega
   have e2:ch.getD 0=0:=by rw [h6] at h2 h3;omega
   refine ⟨l'+ca.getD 0,ch.getD n - ca.getD 0,qE hl hA,yE hH hA,by omega,by rw [h6];omega,.inr ⟨rfl,by rw [h6];omega,ad,?_⟩⟩
   simp [e1,e2]
theorem vV {t:TypeId} {d:TypeDesc} (hu:P.underlying t=some d) (hd:d=.string∨∃k,d=.int k) (em:Bool) (n:Nat) (x:Value):(Instr.checkKey em (n+1) t x).run P w=.ok () w:=by
 unfold Instr.checkKey
 simp only [Sem.run_bind,run_underlying hu,Result.andThen]
 rcases hd with rfl | ⟨k,rfl⟩ <;> cases x <;> rfl
theorem JA {α:Type} {body:α→PUnit→Sem (ForInStep PUnit)}:∀{l:List α},(∀f∈l,(body f ⟨⟩).run P w=.ok (.yield ⟨⟩) w)→(forIn l ⟨⟩ body:Sem PUnit).run P w=.ok ⟨⟩ w
 | [],_=>rfl
 | f::l,h=>by
   rw [List.forIn_cons,Sem.run_bind,h f (by simp)]
   exact JA fun f hf=>h f (by simp [hf])
theorem yx {t:TypeId} {v:AV} {x:Value} (h:fP P t v=true) (hx:Rel I g v x) (em:Bool) (n:Nat):(Instr.checkKey em (n+2) t x).run P w=.ok () w:=by
 unfold fP at h
 split at h
 · rename_i hu
   exact vV hu (.inl rfl) em (n+1) x
 · rename_i k hu
   exact vV hu (.inr ⟨_,rfl⟩) em (n+1) x
 · rename_i fs l hu
   obtain ⟨cs,rfl,hl⟩:=hx
   simp only [Bool.and_eq_true] at h
   have hf:∀f∈fs.toList,(do
       let y ←part f.type cs f.offset
       Instr.checkKey em (n+1) f.type y:Sem Unit).run P w=.ok () w∧f.name≠ "_":=by
     intro f hf
     have:=List.all_eq_true.1 h.2 f hf
     simp only [fA,Bool.and_eq_true,beq_iff_eq,bne_iff_ne,ne_eq,decide_eq_true_eq] at this
     obtain ⟨⟨⟨⟨h1,h2⟩,h3⟩,h4⟩,h5⟩:=this
     refine ⟨?_,h1⟩
     obtain ⟨y,hy,_⟩:=fV (P:=P) (w:=w) (i:=f.offset) (show jl l f.offset 1 false=some l[f.offset] by simp [jl,h5]) hl h3 h4
     rw [Sem.run_bind,hy]
     simp only [Result.andThen]
     split at h2
     · rename_i hq
       exact vV hq (.inl rfl) em n y
     · rename_i hq
       exact vV hq (.inr ⟨_,rfl⟩) em n y
     · cases h2
   unfold Instr.checkKey
   simp only [Sem.run_bind,run_underlying hu,Result.andThen,←Array.forIn_toList]
   have hb:∀(b:Field→PUnit→Sem (ForInStep PUnit)),(∀f∈fs.toList,(b f ⟨⟩).run P w=.ok (.yield ⟨⟩) w)→((forIn fs.toList ⟨⟩ b:Sem PUnit).run P w).andThen (fun _ w=>(pure ():Sem Unit).run P w)=.ok () w:=fun b hb=>by rw [JA hb];rfl
   refine hb _ fun f hm=>?_
   obtain ⟨h1,h2⟩:=hf f hm
   rw [Sem.run_bind] at h1
   simp only [if_pos h2,Sem.run_bind]
   revert h1
   cases (part f.type cs f.offset).run P w with
   | ok y w'=>intro h1;simp only [Result.andThen] at h1 ⊢;rw [h1];rfl
   | _=>intro h1;cases h1
 · cases h
theorem Nw {t:TypeId} {v u:AV} {e:E} {x y:Value} (h:lQ P 20 t v u=some e) (hx:Rel I g v x) (hy:Rel I g u y) :
   ∃n:Int,e.den I g.env=some (.i n)∧(Op.equal t x y).run P w=.ok (decide (n≠0)) w:=by
 obtain ⟨n,h1,_,h2⟩:=iI 20 t v u e x y h hx hy (w:=w)
 exact ⟨n,h1,h2 9980⟩
theorem Gd {t:TypeId} {k:AV} {x:Value} (hx:Rel I g k x):∀{l:List AV} {es:List MapEntry} {i:Nat} {r:Option Nat},kU P t k l i=some r→qj I g l (es.map (·.key))→
   match r with
   | none=>(Instr.findAsking t x es i).run P w=.ok none w
   | some j=>∃e,es[j - i]?=some e∧i≤j∧(Instr.findAsking t x es i).run P w=.ok (some (j,e.val)) w
 | [],[],i,r,h,_=>by simp [kU] at h;subst h;rfl
 | u::l,e::es,i,r,h,hr=>by
   simp only [kU] at h
   split at h
   · rename_i n hn
     obtain ⟨m,h1,h2⟩:=Nw (w:=w) hn hx hr.1
     simp only [E.den,Option.some.injEq,D.i.injEq] at h1
     subst h1
     split at h
     · rename_i h0
       have ih:=Gd hx h hr.2
       have step:(Instr.findAsking t x (e::es) i).run P w=(Instr.findAsking t x es (i+1)).run P w:=by
         rw [Instr.findAsking,Sem.run_bind,h2]
         simp [Result.andThen,h0]
       cases r with
       | none=>simp only at ih ⊢;rw [step];exact ih
       | some j=>
         simp only at ih ⊢
         obtain ⟨e',k1,k2,k3⟩:=ih
         refine ⟨e',?_,by omega,by rw [step];exact k3⟩
         rw [show j - i=(j - (i+1))+1 by omega]
         exact k1
     · rename_i h0
       simp at h;subst h
       refine ⟨e,by simp,Nat.le_refl _,?_⟩
       unfold Instr.findAsking
       rw [Sem.run_bind,h2]
       simp [Result.andThen,h0]
   · cases h
 | [],_::_,_,_,_,h=>by simp [qj] at h
 | _::_,[],_,_,_,h=>by simp [qj] at h
theorem sZ {t:TypeId} {d:TypeDesc} (hu:P.underlying t=some d) {x:Value}:∀{es:List MapEntry} {i:Nat} {r:Option (Nat × Value)},Instr.findNow d x es i=some r→(Instr.findAsking t x es i).run P w=.ok r w
 | [],i,r,h=>by simp [Instr.findNow] at h;subst h;rfl
 | e::es,i,r,h=>by
   have heq:∀b,Instr.sameNow d x e.key=some b→(Op.equal t x e.key).run P w=.ok b w:=by
     intro b hb
     unfold Instr.sameNow at hb
     unfold Op.equal Op.maxDepth
     rw [Op.equalIn.eq_def]
     split at hb
     · rename_i q k a k' a' hx he
       split at hb
       · rename_i hk
         subst hk
         cases hb
         rw [he]
         simp only [Sem.run_bind,run_underlying hu,Result.andThen]
         simp
       · cases hb
     · rename_i hx he
       cases hb
       rw [he]
       simp only [Sem.run_bind,run_underlying hu,Result.andThen,Sem.run_pure]
     · rename_i hx he
       cases hb
       rw [he]
       simp only [Sem.run_bind,run_underlying hu,Result.andThen,Sem.run_pure]
     · cases hb
   unfold Instr.findNow at h
   unfold Instr.findAsking
   rw [Sem.run_bind]
   split at h
   · rename_i hb
     cases h
     rw [heq _ hb];rfl
   · rename_i hb
     rw [heq _ hb]
     exact sZ hu h
   · cases h
theorem wL {t:TypeId} {k:AV} {x:Value} (hk:fP P t k=true) (hx:Rel I g k x) {l:List AV} {es:List MapEntry} {r:Option Nat} (h:kU P t k l 0=some r) (hr:qj I g l (es.map (·.key))) :
   match r with
   | none=>(Instr.findKey t x es).run P w=.ok none w
   | some j=>∃e,es[j]?=some e∧(Instr.findKey t x es).run P w=.ok (some (j,e.val)) w:=by
 have hu:∃d,P.underlying t=some d:=by
   unfold fP at hk
   split at hk <;> first | exact ⟨_,by assumption⟩ | cases hk
 obtain ⟨d,hu⟩:=hu
 have h1:=Gd (w:=w) hx h hr
 have same:∀q,(Instr.findAsking t x es 0).run P w=.ok q w→(Instr.findKey t x es).run P w=.ok q w:=by
   intro q hq
   unfold Instr.findKey
   simp only [Sem.run_bind,run_underlying hu,Result.andThen]
   cases hn:Instr.findNow d x es 0 with
   | none=>simp only;exact hq
   | some q'=>
     have:=sZ (w:=w) hu hn
     rw [hq] at this
     cases this
     rfl
 cases r with
 | none=>exact same _ h1
 | some j=>
   obtain ⟨e,k1,_,k2⟩:=h1
   exact ⟨e,k1,same _ k2⟩
theorem jK {r:Nat} {es:Array MapEntry} {c:Nat} (h:w.heap[r]?=some (.map es c)):(getObj r).run P w=.ok (.map es c) w:=by
 simp [getObj,Sem.run,h]
theorem MU (hm:qW A I P g M w) {v:AV} {x:Value} {l m:List AV} (h:mapOf M v=some (l,m)) (hx:Rel I g v x) :
   ∃es:Array MapEntry,qj I g l (es.toList.map (·.key))∧qj I g m (es.toList.map (·.val))∧((x=.map none∧es=#[])∨∃r c,x=.map (some r)∧w.heap[r]?=some (.map es c)):=by
 unfold mapOf at h
 split at h
 · cases h
   simp only [Rel] at hx
   exact ⟨#[],trivial,trivial,.inl ⟨hx,rfl⟩⟩
 · rename_i b
   split at h
   · rename_i l' m' hb
     cases h
     obtain ⟨p,h1,rfl⟩:=hx
     obtain ⟨p',es,c,h2,h3,h4,h5⟩:=hm.blk b _ hb
     rw [h1] at h2;cases h2
     exact ⟨es,h4,h5,.inr ⟨_,c,rfl,h3⟩⟩
   · cases h
 · cases h
theorem BI (hm:qW A I P g M w) {t kt et:TypeId} (hu:P.underlying t=some (.map kt et)) {v k z:AV} {x y:Value} {ok:Bool} {ps:List PE} (h:bV P M kt et v k ok=some (z,ps)) (hx:Rel I g v x) (hy:Rel I g k y) :
   ∃r,(Instr.lookup t x y ok).run P w=.ok r w∧Rel I g z r:=by
 unfold bV at h
 split at h
 · rename_i hk
   split at h
   · rename_i l m hl
     obtain ⟨es,h1,h2,h3⟩:=MU hm hl hx
     have hc:(Instr.checkKey es.isEmpty 10000 kt y).run P w=.ok () w:=yx hk hy _ 9998
     have main:∀{q:Option (Nat × Value)} {u:Value} {b:Bool},(Instr.findKey kt y es.toList).run P w=.ok q w→
         (match q with | some (_,u')=>u'=u∧b=true | none=>(zeroValue et).run P w=.ok u w∧b=false)→
         (Instr.lookup t x y ok).run P w=.ok (if ok then .tuple #[u,.bool b] else u) w:=by
       intro q u b hq hb
       unfold Instr.lookup
       rcases h3 with ⟨rfl,rfl⟩ | ⟨r,c,rfl,hr⟩
       · simp only [Sem.run_bind,run_underlying hu,Result.andThen,Sem.run_pure,hc,hq]
         cases q with
         | none=>
           obtain ⟨hz,rfl⟩:=hb
           simp only [Sem.run_bind,hz,Result.andThen,Sem.run_pure]
         | some q=>
           obtain ⟨rfl,rfl⟩:=hb
           simp only [Sem.run_bind,Sem.run_pure,Result.andThen]
       · simp only [Sem.run_bind,run_underlying hu,Result.andThen,Sem.run_pure,jK hr,hc,hq]
         cases q with
         | none=>
           obtain ⟨hz,rfl⟩:=hb
           simp only [Sem.run_bind,hz,Result.andThen,Sem.run_pure]
         | some q=>
           obtain ⟨rfl,rfl⟩:=hb
           simp only [Sem.run_bind,Sem.run_pure,Result.andThen]
     have EX:∀n:Int,Rel I g (.bool (.lit n)) (.bool (decide (n≠0))):=fun n=>⟨n,rfl,rfl⟩
     split at h
     · rename_i j hj
       obtain ⟨e,k1,k2⟩:=wL (w:=w) hk hy hj h1
       cases hmj:m[j]? with
       | none=>simp [hmj] at h
       | some u=>
         simp [hmj] at h
         obtain ⟨rfl,rfl⟩:=h
         obtain ⟨xv,e1,e2⟩:=h2.get hmj
         have e3:xv=e.val:=by
           rw [List.getElem?_map,k1] at e1
           simpa using e1.symm
         subst e3
         refine ⟨_,main (b:=true) (u:=e.val) k2 ⟨rfl,rfl⟩,?_⟩
         cases ok
         · exact e2
         · exact ⟨_,rfl,e2,EX 1,trivial⟩
     · rename_i hj
       have k2:=wL (w:=w) hk hy hj h1
       cases hz:zQ P et with
       | none=>simp [hz] at h
       | some u=>
         simp [hz] at h
         obtain ⟨rfl,rfl⟩:=h
         obtain ⟨ti,zx,_,_,hzr,zF⟩:=zT hz
         refine ⟨_,main (b:=false) (u:=zx) k2 ⟨hzr w,rfl⟩,?_⟩
         cases ok
         · exact (zF I g).1
         · exact ⟨_,rfl,(zF I g).1,EX 0,trivial⟩
     · cases h
   · cases h
 · cases h
theorem Ze (f g:Int→Nat→Int) (w:Nat):∀(n i:Nat),(kW f g w n i=-1∧∀j,i≤j→j<i+n→∃c,c<w∧f j c≠g 0 c)∨
   ∃j:Nat,kW f g w n i=j∧i≤j∧j<i+n∧(∀c,c<w→f j c=g 0 c)∧∀q:Nat,i≤q→q<j→∃c,c<w∧f q c≠g 0 c
 | 0,i=>.inl ⟨rfl,fun j _ _=>by omega⟩
 | n+1,i=>by
   simp only [kW]
   split
   · rename_i h
     refine .inr ⟨i,rfl,Nat.le_refl _,by omega,fun c hc=>?_,fun q _ _=>by omega⟩
     have:=List.all_eq_true.1 h c (List.mem_range.2 hc)
     simpa using this
   · rename_i h
     have hi:∃c,c<w∧f i c≠g 0 c:=by
       rcases Classical.em (∃c,c<w∧f i c≠g 0 c) with h1 | h1
       · exact h1
       · refine absurd (List.all_eq_true.2 fun c hc=>?_) h
         have hc:=List.mem_range.1 hc
         rcases Classical.em (f i c=g 0 c) with h2 | h2
         · simp [h2]
         · exact absurd ⟨c,hc,h2⟩ h1
     rcases Ze f g w n (i+1) with ⟨h1,h2⟩ | ⟨j,h1,h2,h3,h4,h5⟩
     · refine .inl ⟨h1,fun j hj1 hj2=>?_⟩
       rcases Nat.eq_or_lt_of_le hj1 with rfl | hlt
       · exact hi
       · exact h2 j hlt (by omega)
     · refine .inr ⟨j,h1,by omega,by omega,h4,fun q hq1 hq2=>?_⟩
       rcases Nat.eq_or_lt_of_le hq1 with rfl | hlt
       · exact hi
       · exact h5 q hlt hq2
def yS (f:Nat→Int):Nat→List CK→List AV
 | _,[]=>[]
 | c,k::ks=>k.av (.lit (f c))::yS f (c+1) ks
def xA (w:Nat) (one:Bool) (ks:List CK) (f:Nat→Int):AV:=
 match one,ks with
 | true,k::_=>k.av (.lit (f 0))
 | true,[]=>.yI
 | false,ks=>.agg (yS f 0 (ks.take w))
theorem uK (f:Nat→Int):∀(ks:List CK) (c:Nat),(∀k∈ks,k.plain=true)→qj I g (yS f c ks) (kC f c ks)
 | [],_,_=>trivial
 | k::ks,c,hk=>⟨wh (show (E.lit (f c)).den I g.env=some (.i (f c)) from rfl) ((CK.w9 (hk k (by simp))).2 rfl),uK f ks (c+1) fun k' h=>hk k' (by simp [h])⟩
theorem mO (w:Nat) (one:Bool) (ks:List CK) (f:Nat→Int) (hk:∀k∈ks,k.plain=true):Rel I g (xA w one ks f) (dS w one ks f):=by
 unfold xA dS
 cases one with
 | true=>
   cases ks with
   | nil=>rfl
   | cons k ks=>exact wh (show (E.lit (f 0)).den I g.env=some (.i (f 0)) from rfl) ((CK.w9 (hk k (by simp))).2 rfl)
 | false=>
   cases ks with
   | nil=>exact ⟨_,rfl,by simpa using uK f [] 0 (by simp)⟩
   | cons k ks=>exact ⟨_,rfl,by simpa using uK f ((k::ks).take w) 0 fun k h=>hk k (List.mem_of_mem_take h)⟩
theorem uW (f:Nat→Int):∀(ks:List CK) (c i:Nat),(yS f c ks)[i]?=(ks[i]?).map fun k=>k.av (.lit (f (c+i)))
 | [],_,_=>by simp [yS]
 | k::ks,c,0=>by simp [yS]
 | k::ks,c,i+1=>by simp only [yS,List.getElem?_cons_succ];rw [uW f ks (c+1) i];rw [Nat.add_assoc,Nat.add_comm 1 i]
theorem lM (f:Nat→Int):∀(ks:List CK) (c:Nat),(yS f c ks).length=ks.length
 | [],_=>rfl
 | _::ks,c=>by simp [yS,lM f ks (c+1)]
theorem Qd (f:Nat→Int):∀(ks:List CK) (c i:Nat),(kC f c ks)[i]?=(ks[i]?).map fun k=>k.val (f (c+i))
 | [],_,_=>by simp [kC]
 | k::ks,c,0=>by simp [kC]
 | k::ks,c,i+1=>by simp only [kC,List.getElem?_cons_succ];rw [Qd f ks (c+1) i];rw [Nat.add_assoc,Nat.add_comm 1 i]
theorem lF {f h:Nat→Int}:∀{ks:List CK} {c:Nat},(∀i,i<ks.length→f (c+i)=h (c+i))→kC f c ks=kC h c ks
 | [],_,_=>rfl
 | k::ks,c,hf=>by
   simp only [kC]
   have h0:=hf 0 (by simp)
   simp only [Nat.add_zero] at h0
   rw [h0,lF (f:=f) (h:=h) (c:=c+1) (ks:=ks) fun i hi=>by have:=hf (i+1) (by simpa using hi);rw [Nat.add_assoc,Nat.add_comm 1 i];exact this]
theorem bF {w:Nat} {one:Bool} {ks:List CK} {f h:Nat→Int} (hw:one=true→1≤w) (hf:∀c,c<w→f c=h c):dS w one ks f=dS w one ks h:=by
 unfold dS
 cases one with
 | true=>
   cases ks with
   | nil=>rfl
   | cons k ks=>simp only;rw [hf 0 (hw rfl)]
 | false=>
   cases ks with
   | nil=>simp [kC]
   | cons k ks=>
     simp only
     rw [lF fun i hi=>by
       have:i<w:=by simp at hi;omega
       simpa using hf i this]
theorem VA {t:TypeId} {c:CK} (h:xM P t c=true) (d:Nat) (a b:Int):lQ P (d+1) t (c.av (.lit a)) (c.av (.lit b))=some (.lit (if a=b then 1 else 0)):=by
 unfold xM at h
 split at h
 · rename_i hu
   unfold lQ
   simp only [hu,CK.av,mkStr]
   congr 2
   by_cases hab:a=b
   · subst hab;simp
   · rw [if_neg hab,if_neg fun e=>hab (fZ e)]
 · rename_i j j' hu
   simp only [beq_iff_eq] at h
   subst h
   unfold lQ
   simp only [hu,CK.av,if_true,mkBin,BO.ev]
 · cases h
theorem JK {t:TypeId} {c:CK} (h:xM P t c=true) (a:Int):(c.av (.lit a)).flat=true∧(P.underlying t=some .string∨∃k,P.underlying t=some (.int k)):=by
 unfold xM at h
 split at h
 · rename_i hu;exact ⟨rfl,.inl hu⟩
 · rename_i j j' hu;exact ⟨rfl,.inr ⟨_,hu⟩⟩
 · cases h
def vQ (f h:Nat→Int):Nat→Nat→Bool
 | _,0=>true
 | c,n+1=>decide (f c=h c) && vQ f h (c+1) n
theorem Ko (f h:Nat→Int):∀n c,vQ f h c n=true↔∀i,i<n→f (c+i)=h (c+i)
 | 0,c=>by simp [vQ]
 | n+1,c=>by
   simp only [vQ,Bool.and_eq_true,decide_eq_true_eq,Ko f h n (c+1)]
   constructor
   · rintro ⟨h1,h2⟩ i hi
     cases i with
     | zero=>exact h1
     | succ i=>have:=h2 i (by omega);rw [Nat.add_assoc,Nat.add_comm 1 i] at this;exact this
   · intro hh
     refine ⟨hh 0 (by omega),fun i hi=>?_⟩
     have:=hh (i+1) (by omega)
     rw [Nat.add_assoc,Nat.add_comm 1 i];exact this
theorem V4 (d:Nat) (f h:Nat→Int) (l m:List AV):∀{fs:List Field} {ks:List CK} {o:Nat},nC P o fs ks=true→
   (∀i k,ks[i]?=some k→l[o+i]?=some (k.av (.lit (f (o+i))))∧m[o+i]?=some (k.av (.lit (h (o+i)))))→
   Gm P (lQ P (d+1)) l m fs=some (.lit (if vQ f h o ks.length then 1 else 0))
 | [],[],o,_,_=>by simp [Gm,vQ]
 | fd::fs,k::ks,o,hk,hl=>by
   simp only [nC,Bool.and_eq_true,beq_iff_eq,bne_iff_ne,ne_eq] at hk
   obtain ⟨⟨⟨⟨⟨h1,h2⟩,h3⟩,h4⟩,h5⟩,h6⟩:=hk
   have h0:=hl 0 k rfl
   simp only [Nat.add_zero] at h0
   have ih:=V4 d f h l m h6 fun i k' hk'=>by
     have:=hl (i+1) k' (by simpa using hk')
     rw [Nat.add_assoc,Nat.add_comm 1 i];exact this
   simp only [Gm,if_neg h1,h3,h4,h5,jl,Bool.false_eq_true,if_false,h0.1,h0.2,VA h2,ih,List.length_cons,vQ,mkBin,BO.ev]
   by_cases e1:f o=h o <;> cases vQ f h (o+1) ks.length <;> simp [e1]
 | [],_::_,_,h,_=>by simp [nC] at h
 | _::_,[],_,h,_=>by simp [nC] at h
theorem Cm {t:TypeId} {w:Nat} {one:Bool} {ks:List CK} (h:Xd P t w one ks=true) (f q:Nat→Int) :
   lQ P 20 t (xA w one ks f) (xA w one ks q)=some (.lit (if vQ f q 0 w then 1 else 0)):=by
 unfold Xd at h
 simp only [Bool.and_eq_true,decide_eq_true_eq] at h
 obtain ⟨hl,h⟩:=h
 cases one with
 | true=>
   simp only [if_true,Bool.and_eq_true,beq_iff_eq] at h
   obtain ⟨rfl,h⟩:=h
   cases ks with
   | nil=>simp at hl
   | cons k ks=>
     simp only at h
     unfold xA
     simp only [VA h,vQ,Bool.and_true]
     by_cases e:f 0=q 0 <;> simp [e]
 | false=>
   simp only [Bool.false_eq_true,if_false] at h
   split at h
   · rename_i fs hu
     simp only [Bool.and_eq_true,beq_iff_eq] at h
     have e:∀f,xA w false ks f=.agg (yS f 0 (ks.take w)):=fun f=>by unfold xA;cases ks <;> rfl
     rw [e,e]
     unfold lQ
     simp only [hu]
     rw [if_pos h.1]
     have:=V4 (P:=P) 18 f q (yS f 0 (ks.take w)) (yS q 0 (ks.take w)) h.2 fun i k hk=>by
       rw [Nat.zero_add,uW,uW,hk];simp
     rw [this]
     have hlen:(ks.take w).length=w:=by simp;omega
     rw [hlen]
   · cases h
theorem JG (l:List AV):∀{fs:List Field} {ks:List CK} {o:Nat},nC P o fs ks=true→o+ks.length≤l.length→fs.all (fA P l)=true
 | [],_,_,_,_=>rfl
 | fd::fs,k::ks,o,hk,hl=>by
   simp only [nC,Bool.and_eq_true,beq_iff_eq,bne_iff_ne,ne_eq] at hk
   obtain ⟨⟨⟨⟨⟨h1,h2⟩,h3⟩,h4⟩,h5⟩,h6⟩:=hk
   simp only [List.length_cons] at hl
   have ih:=JG l h6 (by omega)
   have hf:fA P l fd=true:=by
     have h7:=(JK h2 0).2
     unfold fA
     rcases h7 with h | ⟨k,h⟩ <;> simp [h,h1,h3,h4,h5] <;> omega
   simp only [List.all_cons,ih,Bool.and_true,hf]
 | _::_,[],_,h,_=>by simp [nC] at h
theorem Xb {t:TypeId} {w:Nat} {one:Bool} {ks:List CK} (h:Xd P t w one ks=true) (f:Nat→Int):fP P t (xA w one ks f)=true:=by
 unfold Xd at h
 simp only [Bool.and_eq_true,decide_eq_true_eq] at h
 obtain ⟨hl,h⟩:=h
 cases one with
 | true=>
   simp only [if_true,Bool.and_eq_true,beq_iff_eq] at h
   obtain ⟨rfl,h⟩:=h
   cases ks with
   | nil=>simp at hl
   | cons k ks=>
     simp only at h
     unfold xM at h
     unfold fP xA
     split at h
     · rename_i hu;simp [hu,CK.av,mkStr]
     · rename_i hu;simp [hu,CK.av]
     · cases h
 | false=>
   simp only [Bool.false_eq_true,if_false] at h
   split at h
   · rename_i fs hu
     simp only [Bool.and_eq_true,beq_iff_eq] at h
     have e:xA w false ks f=.agg (yS f 0 (ks.take w)):=by unfold xA;cases ks <;> rfl
     rw [e]
     unfold fP
     simp only [hu,Bool.and_eq_true]
     refine ⟨?_,JG _ h.2 (by rw [lM];omega)⟩
     have key:∀{fs:List Field} {ks:List CK} {o:Nat},nC P o fs ks=true→∀c,(yS f c ks).all AV.flat=true:=by
       intro fs ks
       induction ks generalizing fs with
       | nil=>intro o _ c;rfl
       | cons k ks ih=>
         intro o hk c
         cases fs with
         | nil=>simp [nC] at hk
         | cons fd fs=>
           simp only [nC,Bool.and_eq_true,beq_iff_eq,bne_iff_ne,ne_eq] at hk
           obtain ⟨⟨⟨⟨⟨h1,h2⟩,h3⟩,h4⟩,h5⟩,h6⟩:=hk
           simp only [yS,List.all_cons,(JK h2 _).1,ih h6,Bool.and_self]
     exact key h.2 0
   · cases h
def mI (w:Nat) (one:Bool) (ks:List CK) (f:Int→Nat→Int) (i n:Nat):List AV:=(List.range' i n).map fun r:Nat=>xA w one ks (f r)
theorem Qt {w:Nat} {one:Bool} {ks:List CK} {f:Int→Nat→Int} (hks:∀k∈ks,k.plain=true):∀{es:List MapEntry} {i:Nat},(∀(j:Nat) (e:MapEntry),es[j]?=some e→e.key=dS w one ks (f ((i+j:Nat):Int)))→
   qj I g (mI w one ks f i es.length) (es.map (·.key))
 | [],_,_=>trivial
 | e::es,i,h=>by
   simp only [mI,List.length_cons,List.range'_succ,List.map_cons]
   refine ⟨?_,Qt hks fun j e' he'=>?_⟩
   · rw [h 0 e rfl];exact mO _ _ _ _ hks
   · have:=h (j+1) e' (by simpa using he')
     rw [Nat.add_assoc,Nat.add_comm 1 j];exact this
theorem iX {t:TypeId} {w:Nat} {one:Bool} {ks:List CK} (h:Xd P t w one ks=true) (f:Int→Nat→Int) (q:Int→Nat→Int):∀(n i:Nat),
   kU P t (xA w one ks (q 0)) (mI w one ks f i n) i=some (if 0≤kW f q w n i then some (kW f q w n i).toNat else none)
 | 0,i=>by simp [mI,kU,kW]
 | n+1,i=>by
   have ih:=iX h f q n (i+1)
   simp only [mI] at ih
   have hc:((List.range w).all fun c=>f i c == q 0 c)=vQ (q 0) (f i) 0 w:=by
     rw [Bool.eq_iff_iff,Ko,List.all_eq_true]
     constructor
     · intro hh c hc
       have:=hh c (List.mem_range.2 hc)
       simp only [beq_iff_eq] at this
       rw [Nat.zero_add,this]
     · intro hh c hc
       have:=hh c (List.mem_range.1 hc)
       rw [Nat.zero_add] at this
       simp [this]
   have ht:kW f q w (n+1) i=if vQ (q 0) (f i) 0 w=true then (i:Int) else kW f q w n (i+1):=by simp only [kW];rw [hc]
   simp only [mI,List.range'_succ,List.map_cons,kU,Cm h]
   rw [ht]
   by_cases hb:vQ (q 0) (f i) 0 w=true
   · simp only [hb,if_true,Int.one_ne_zero,if_false]
     rw [if_pos (by omega)];simp
   · simp only [hb,Bool.false_eq_true,if_false,if_true]
     exact ih
theorem JV {w:Nat} {one:Bool} {ks:List CK} (hks:∀k∈ks,k.plain=true) {k:AV} {y:Value} {u:E} (h:Xf w one ks k=some u) (hk:Rel I g k y) :
   ∃q:Int→Nat→Int,u.den I g.env=some (.t q)∧y=dS w one ks (q 0)∧∀c,w≤c→q 0 c=0:=by
 unfold Xf at h
 split at h
 · cases h
 · rename_i hna
   split at h
   · rename_i hw
     subst hw
     obtain ⟨q,h1,_,h3,h4⟩:=kP (x:=0) (show (E.lit 0).den I g.env=some (.i 0) from rfl) h (xs:=[y]) ⟨hk,trivial⟩ (show E.zt.den I g.env=some (.t fun _ _=>0) from rfl)
     obtain ⟨c,h5,h6⟩:=h3 0 y rfl
     refine ⟨q,h1,?_,fun c hc=>h4 0 c (.inr (.inr (by simpa using hc)))⟩
     cases ks with
     | nil=>simp at h5
     | cons k0 ks=>
       simp only [Nat.add_zero,List.getElem?_cons_zero,Option.some.injEq] at h5
       subst h5
       exact (CK.w9 (hks _ (by simp))).1 h6
   · cases h
 · split at h
   · rename_i l hl
     obtain ⟨cs,rfl,hc⟩:=hk
     obtain ⟨q,h1,h2,h3,h4⟩:=kP (x:=0) (show (E.lit 0).den I g.env=some (.i 0) from rfl) h hc (show E.zt.den I g.env=some (.t fun _ _=>0) from rfl)
     refine ⟨q,h1,?_,fun c hc=>h4 0 c (.inr (.inr (by omega)))⟩
     have e:dS w false ks (q 0)=.agg (kC (q 0) 0 (ks.take w)).toArray:=by unfold dS;cases ks <;> rfl
     rw [e]
     congr 1
     apply Array.toList_inj.1
     apply List.ext_getElem?
     intro i
     simp only [Qd,List.getElem?_take]
     have hlen:=hc.length
     by_cases hi:i<w
     · rw [if_pos hi]
       have hi2:i<cs.toList.length:=by omega
       obtain ⟨c,h5,h6⟩:=h3 i _ (List.getElem?_eq_getElem hi2)
       rw [Nat.zero_add] at h5 h6
       rw [h5,List.getElem?_eq_getElem hi2,(CK.w9 (hks c (List.mem_of_getElem? h5))).1 h6,Option.map_some,Nat.zero_add]
     · rw [if_neg hi,List.getElem?_eq_none (by omega)];rfl
   · cases h
 · cases h
theorem Gu {t n u:E} {f q:Int→Nat→Int} {m:Nat} (ht:t.den I g.env=some (.t f)) (hn:n.den I g.env=some (.i (m:Nat))) (hu:u.den I g.env=some (.t q)) (w:Nat) :
   (Y2 t n u w).den I g.env=some (.i (kW f q w m 0)):=by
 unfold Y2
 rw [vk (j:=8) ht hn hu (show (E.lit (w:Int)).den I g.env=some (.i (w:Int)) from rfl)]
 simp [bi,D.tab,D.int]
theorem Gf {t:TypeId} {w:Nat} {one:Bool} {ks:List CK} (hks:∀k∈ks,k.plain=true) (h:Xd P t w one ks=true) {es:Array MapEntry} {f q:Int→Nat→Int} {W:World}
   (hes:∀(i:Nat) (e:MapEntry),es[i]?=some e→e.key=dS w one ks (f i)) :
   (kW f q w es.size 0<0∧(Instr.findKey t (dS w one ks (q 0)) es.toList).run P W=.ok none W)∨
   ∃(j:Nat) (e:MapEntry),kW f q w es.size 0=j∧es[j]?=some e∧(Instr.findKey t (dS w one ks (q 0)) es.toList).run P W=.ok (some (j,e.val)) W:=by
 have I:Itp:=⟨fun _ _ _ _ _=>none,fun _ _=>False⟩
 have g:G:=⟨[],fun _=>none,0,fun _=>none⟩
 have hr:qj I g (mI w one ks f 0 es.toList.length) (es.toList.map (·.key)):=Qt hks fun j e he=>by
   rw [Nat.zero_add];exact hes j e (by simpa using he)
 have hf:=iX h f q es.toList.length 0
 have hl:es.toList.length=es.size:=by simp
 have:=wL (w:=W) (Xb h (q 0)) (mO (I:=I) (g:=g) w one ks (q 0) hks) hf hr
 rw [hl] at this
 by_cases h0:0≤kW f q w es.size 0
 · rw [if_pos h0] at this
   obtain ⟨e,h1,h2⟩:=this
   exact .inr ⟨(kW f q w es.size 0).toNat,e,by omega,by simpa using h1,h2⟩
 · rw [if_neg h0] at this
   exact .inl ⟨by omega,this⟩
theorem G6 {t:TypeId} {c:CK} (h:G7 P t c=true) (W:World):(zeroValue t).run P W=.ok (c.val 0) W:=by
 unfold G7 at h
 split at h
 · rename_i z hz
   simp only [Bool.and_eq_true,beq_iff_eq] at h
   obtain ⟨ti,zx,_,_,hzr,zF⟩:=zT hz
   rw [hzr W]
   congr 1
   have I:Itp:=⟨fun _ _ _ _ _=>none,fun _ _=>False⟩
   have g:G:=⟨[],fun _=>none,0,fun _=>none⟩
   have:=(zF I g).1
   have hc:z.cells=[z]:=by
     cases z <;> first | rfl | (simp [AV.isZero] at h)
   have h1:=sP (I:=I) (g:=g) (ks:=[c]) (l:=[z]) (xs:=[zx]) (by simp [jk,h.1]) (by simp [h.2]) ⟨this,trivial⟩ 0 c rfl
   simpa using h1
 · cases h
theorem VD (hm:qW A I P g M w) {t kt et:TypeId} (hu:P.underlying t=some (.map kt et)) {b wd:Nat} {one:Bool} {ks:List CK} {tE n:E} {k z:AV} {x y:Value} {ok:Bool} {ps:List PE}
   (hb:get M b=some (.smp wd one ks tE n)) (h:Zx P kt et wd one ks tE n k ok=some (z,ps)) (hx:Rel I g (.mref b) x) (hy:Rel I g k y) :
   ∃r,(Instr.lookup t x y ok).run P w=.ok r w∧Rel I g z r:=by
 obtain ⟨p,h1,rfl⟩:=hx
 obtain ⟨p',es,c,f,h2,h3,h4,h5,hks,h6⟩:=hm.blk b _ hb
 rw [h1] at h2;cases h2
 have hh:w.heap[p.blk]?=some (.map es c):=h3
 unfold Zx at h
 split at h
 · rename_i hkt
   split at h
   · rename_i u ck hku hck
     split at h
     · rename_i hz0
       simp only [Option.some.injEq,Prod.mk.injEq] at h
       obtain ⟨rfl,rfl⟩:=h
       obtain ⟨q,hq,rfl,_⟩:=JV hks hku hy
       have hc:(Instr.checkKey es.isEmpty 10000 kt (dS wd one ks (q 0))).run P w=.ok () w:=yx (Xb hkt (q 0)) (mO (I:=I) (g:=g) wd one ks (q 0) hks) _ 9998
       have hcp:ck.plain=true:=hks ck (List.mem_of_getElem? hck)
       have hfind:=Gu h4 h5 hq wd
       have hle:=qy (o:=.le) (show (E.lit 0).den I g.env=some (.i 0) from rfl) hfind
       have hsel:=jT (c:=wd) h4 hfind
       have hval:=dG (j:=0) (n:=if BO.le.ev 0 (kW f q wd es.size 0)≠0 then f (kW f q wd es.size 0) wd else 0) hle hsel (show (E.lit 0).den I g.env=some (.i 0) from rfl) rfl
       have main:∀{r:Option (Nat × Value)} {v:Value} {bo:Bool},(Instr.findKey kt (dS wd one ks (q 0)) es.toList).run P w=.ok r w→
           (match r with | some (_,u')=>u'=v∧bo=true | none=>(zeroValue et).run P w=.ok v w∧bo=false)→
           (Instr.lookup t (.map (some p.blk)) (dS wd one ks (q 0)) ok).run P w=.ok (if ok then .tuple #[v,.bool bo] else v) w:=by
         intro r v bo hr hbo
         unfold Instr.lookup
         simp only [Sem.run_bind,run_underlying hu,Result.andThen,Sem.run_pure,jK hh,hc,hr]
         cases r with
         | none=>
           obtain ⟨hz,rfl⟩:=hbo
           simp only [Sem.run_bind,hz,Result.andThen,Sem.run_pure]
         | some r=>
           obtain ⟨rfl,rfl⟩:=hbo
           simp only [Sem.run_bind,Sem.run_pure,Result.andThen]
       rcases Gf hks (q:=q) (W:=w) hkt (fun i e he=>(h6 i e he).1) with ⟨h7,h8⟩ | ⟨j,e,h7,h8,h9⟩
       · have e0:BO.le.ev 0 (kW f q wd es.size 0)=0:=by simp only [BO.ev];rw [if_neg (by omega)]
         rw [e0] at hval hle
         simp only [ne_eq,not_true_eq_false,if_false] at hval
         refine ⟨_,main (bo:=false) (v:=ck.val 0) h8 ⟨G6 hz0 w,rfl⟩,?_⟩
         cases ok
         · exact wh hval ((CK.w9 hcp).2 rfl)
         · exact ⟨_,rfl,wh hval ((CK.w9 hcp).2 rfl),⟨0,hle,rfl⟩,trivial⟩
       · have e1:BO.le.ev 0 (kW f q wd es.size 0)=1:=by simp only [BO.ev];rw [if_pos (by omega)]
         rw [e1] at hval hle
         simp only [ne_eq,Int.one_ne_zero,not_false_eq_true,if_true] at hval
         rw [h7] at hval
         obtain ⟨_,ck',h10,h11⟩:=h6 j e h8
         rw [hck] at h10;cases h10
         refine ⟨_,main (bo:=true) (v:=ck.val (f j wd)) h9 ⟨h11,rfl⟩,?_⟩
         cases ok
         · exact wh hval ((CK.w9 hcp).2 rfl)
         · exact ⟨_,rfl,wh hval ((CK.w9 hcp).2 rfl),⟨1,hle,rfl⟩,trivial⟩
     · cases h
   · cases h
 · cases h
theorem M7 {o:BinOp} {t:TypeId} {oy:Operand} {v u z:AV} {x y:Value} {ps:List PE} (h:F9 P o t oy v u=some (z,ps)) (hx:Rel I g v x) (hy:Rel I g u y) (ox:Operand) (w:World) :
   ∃r,(do eqGuard o t ox oy x y;binOp o t x y:Sem Value).run P w=.ok r w∧Rel I g z r:=by
 unfold F9 at h
 split at h
 · rename_i e c ms hu
   simp only [Rel] at hy
   obtain ⟨n,hn,hx⟩:=hx
   subst hy
   have key:(Op.equal t x .nilIface).run P w=.ok (decide (n=0)) w:=by
     have key:∀d,(Op.equalIn (d+1) t x .nilIface).run P w=.ok (decide (n=0)) w:=fun d=>by
       rcases hx with ⟨h0,rfl⟩ | ⟨h0,ty,p,rfl⟩
       · simp only [Op.equalIn,Sem.run_bind,run_underlying hu,Result.andThen,h0];rfl
       · simp only [Op.equalIn,Sem.run_bind,run_underlying hu,Result.andThen,h0];rfl
     exact key 9999
   have hg:∀o,(eqGuard o t ox (.const c) x .nilIface).run P w=.ok () w:=fun o=>by
     rcases hx with ⟨h0,rfl⟩ | ⟨h0,ty,p,rfl⟩ <;> cases o <;> simp [eqGuard]
   split at h
   · simp at h;obtain ⟨rfl,rfl⟩:=h
     refine ⟨.bool (decide (n=0)),zl (hg _) ?_,_,qy (o:=.eq) hn (show (E.lit 0).den I g.env=some (.i 0) from rfl),?_⟩
     · rcases hx with ⟨h0,rfl⟩ | ⟨h0,ty,p,rfl⟩
       · show (do pure (.bool (←Op.equal t .nilIface .nilIface)):Sem Value).run P w=_
         simp [key,Result.andThen]
       · show (do pure (.bool (←Op.equal t (.iface ty p) .nilIface)):Sem Value).run P w=_
         simp [key,Result.andThen]
     · by_cases h0:n=0 <;> simp [BO.ev,h0]
   · simp at h;obtain ⟨rfl,rfl⟩:=h
     refine ⟨.bool (!decide (n=0)),zl (hg _) ?_,_,qy (o:=.ne) hn (show (E.lit 0).den I g.env=some (.i 0) from rfl),?_⟩
     · rcases hx with ⟨h0,rfl⟩ | ⟨h0,ty,p,rfl⟩
       · show (do pure (.bool (!(←Op.equal t .nilIface .nilIface))):Sem Value).run P w=_
         simp [key,Result.andThen]
       · show (do pure (.bool (!(←Op.equal t (.iface ty p) .nilIface))):Sem Value).run P w=_
         simp [key,Result.andThen]
     · by_cases h0:n=0 <;> simp [BO.ev,h0]
   · cases h
 · rename_i c ms hu
   simp only [Rel] at hx hy
   subst hx;subst hy
   have key:(Op.equal t .nilIface .nilIface).run P w=.ok true w:=by
     have key:∀d,(Op.equalIn (d+1) t .nilIface .nilIface).run P w=.ok true w:=fun d=>by
       simp only [Op.equalIn,Sem.run_bind,run_underlying hu,Result.andThen];rfl
     exact key 9999
   have hg:∀o,(eqGuard o t ox (.const c) .nilIface .nilIface).run P w=.ok () w:=fun o=>by
     cases o <;> simp [eqGuard]
   split at h
   · simp at h;obtain ⟨rfl,rfl⟩:=h
     exact ⟨.bool true,zl (hg _) (by show (do pure (.bool (←Op.equal t .nilIface .nilIface)):Sem Value).run P w=_;simp [key,Result.andThen]),1,rfl,rfl⟩
   · simp at h;obtain ⟨rfl,rfl⟩:=h
     exact ⟨.bool false,zl (hg _) (by show (do pure (.bool (!(←Op.equal t .nilIface .nilIface))):Sem Value).run P w=_;simp [key,Result.andThen]),0,rfl,rfl⟩
   · cases h
 · cases h
theorem YD {o:Oper} {v:AV} {ps:List PE} (hm:qW A I P g M w) (ht:wm I g X ts a.tmps) (hx:∀t,.tmp t∈o.op.operands.toList→¬X t)
   (h:xU P ts M o.op=some (v,ps)) (hp:∀q∈ps,q.den I g.env):∃x,(execOp a.eval o).run P w=.ok (.value x) w∧Rel I g v x:=by
 have ev:∀{y:Operand} {u:AV},y∈o.op.operands.toList→evalOp ts y=some u→Rel I g u (a.eval y):=fun hy hu=>zm ht hu fun t e=>hx t (e ▸ hy)
 cases hop:o.op with
 | binOp bo t x y yt=>
   rw [hop] at h ev
   simp only [xU] at h
   split at h
   · rename_i u u' he he'
     split at h
     · rename_i r0 hr0
       cases h
       obtain ⟨r,h1,h2⟩:=Bt (P:=P) (t:=t) hr0 hp (ev (by simp [Op.operands]) he) (ev (by simp [Op.operands]) he') x y w
       exact ⟨r,by simp only [execOp,hop];rw [Sem.run_bind,h1];rfl,h2⟩
     · split at h
       · rename_i r0 hr0
         cases h
         obtain ⟨r,h1,h2⟩:=DL hr0 (ev (by simp [Op.operands]) he) (ev (by simp [Op.operands]) he') x y w
         exact ⟨r,by simp only [execOp,hop];rw [Sem.run_bind,h1];rfl,h2⟩
       · obtain ⟨r,h1,h2⟩:=M7 h (ev (by simp [Op.operands]) he) (ev (by simp [Op.operands]) he') x w
         exact ⟨r,by simp only [execOp,hop];rw [Sem.run_bind,h1];rfl,h2⟩
   · cases h
 | convert src dst x=>
   rw [hop] at h ev
   simp only [xU] at h
   split at h
   · rename_i u el he hd hs
     split at h
     · rename_i hel
       obtain ⟨r,h1,h2⟩:=XH hs hel hd hm h hp (ev (by simp [Op.operands]) he)
       exact ⟨r,by simp only [execOp,hop];rw [Sem.run_bind,h1];rfl,h2⟩
     · cases h
   · cases h
 | lookup t x i ok=>
   rw [hop] at h ev
   simp only [xU] at h
   split at h
   · rename_i u k kt et he hi hu
     have old:∀{v:AV} {ps:List PE},bV P M kt et u k ok=some (v,ps)→∃x',(execOp a.eval o).run P w=.ok (.value x') w∧Rel I g v x':=fun h=>by
       obtain ⟨r,h1,h2⟩:=BI hm hu h (ev (by simp [Op.operands]) he) (ev (by simp [Op.operands]) hi)
       exact ⟨r,by simp only [execOp,hop];rw [Sem.run_bind,h1];rfl,h2⟩
     split at h
     · rename_i b
       split at h
       · rename_i wd one ks tE n hb
         obtain ⟨r,h1,h2⟩:=VD hm hu hb h (ev (by simp [Op.operands]) he) (ev (by simp [Op.operands]) hi)
         exact ⟨r,by simp only [execOp,hop];rw [Sem.run_bind,h1];rfl,h2⟩
       · exact old h
     · exact old h
   · cases h
 | index t x i=>
   rw [hop] at h ev
   simp only [xU] at h
   split at h
   · rename_i tE n k e he hi hu
     simp at h
     obtain ⟨rfl,rfl⟩:=h
     obtain ⟨f,m,s,h1,h2,h3,h4,h5⟩:=ev (by simp [Op.operands]) he
     obtain ⟨j,h6,h7⟩:=ev (by simp [Op.operands]) hi
     obtain ⟨hj0,hjn⟩:=zD h6 h2 hp
     have hlt:j.toNat<s.data.toList.length:=by omega
     have hb:=h5 j.toNat _ (List.getElem?_eq_getElem hlt)
     refine ⟨.int .u8 ((s.data.toList[j.toNat]).toNat:Int),?_,_,jT h1 h6,?_⟩
     · have hb':s[j.toNat]?=some (s.data.toList[j.toNat]):=by
         have hlt':j.toNat<s.size:=by rw [Array.length_toList] at hlt;exact hlt
         rw [getElem?_pos s j.toNat hlt']
         congr 1
       simp only [execOp,hop,h3,h7,Instr.index,asIntOf,Sem.run_bind,Sem.run_pure,run_underlying hu,Result.andThen,if_pos hj0,hb']
     · rw [←hb];congr 2;omega
   · cases h
 | slice t x lo hi mx=>
   rw [hop] at h ev
   cases mx with
   | some m=>simp [xU] at h
   | none=>
   simp only [xU] at h
   split at h
   · rename_i u el ea eh he hu hlo hhi
     split at h
     · rename_i b l len s nl
       split at h
       · rename_i hs
         obtain ⟨ca,k1,_,k2⟩:=tV ht hlo fun t' e=>hx t' (by rw [hop];simp [Op.operands,e])
         obtain ⟨ch,k3,_,k4⟩:=tV ht hhi fun t' e=>hx t' (by rw [hop];simp [Op.operands,e])
         obtain ⟨z,h1,h2⟩:=Yc (w:=w) hu hs (ev (by simp [Op.operands]) he) k1 k3 k2 k4 h hp
         exact ⟨z,by simp only [execOp,hop,Option.map_none,Sem.run_bind,h1,Result.andThen];rfl,h2⟩
       · cases h
     · cases h
   · cases h
 | call c=>
   rw [hop] at h ev
   obtain ⟨callee,args,argTypes⟩:=c
   cases callee with
   | builtin b=>
     cases b with
     | len=>
       simp only [xU] at h
       split at h
       · rename_i y t ha hat
         have ha':=ku ha
         have hat':=ku hat
         subst ha';subst hat'
         split at h
         · rename_i tE n he hu
           simp at h
           obtain ⟨rfl,rfl⟩:=h
           obtain ⟨f,m,s,h1,h2,h3,h4,h5⟩:=ev (by simp [Op.operands,Call.operands]) he
           refine ⟨.int .i64 s.size,by simp [execOp,hop,resolve,invoke,builtin,Builtin.len_,run_underlying hu,Result.andThen,h3,goInt],_,h2,?_⟩
           rw [h4,Array.length_toList]
           rfl
         · rename_i el he hu
           simp at h
           obtain ⟨rfl,rfl⟩:=h
           obtain ⟨ad,h1⟩:=ev (by simp [Op.operands,Call.operands]) he
           cases ad <;> exact ⟨.int .i64 0,by simp [execOp,hop,resolve,invoke,builtin,Builtin.len_,run_underlying hu,Result.andThen,h1,goInt],0,rfl,rfl⟩
         · cases h
       · cases h
     | _=>simp [xU] at h
   | _=>simp [xU] at h
 | _=>rw [hop] at h;simp [xU] at h
theorem extract_toList (s:ByteArray) (l h:Nat):(s.extract l h).data.toList=(s.data.toList.drop l).take (h - l):=by
 rw [ByteArray.data_extract,Array.toList_extract,List.extract_eq_take_drop]
theorem Qx (s:ByteArray):s.size=s.data.toList.length:=by rw [Array.length_toList];rfl
theorem codeOf {o:Operand} {c:E} (ht:wm I g X ts a.tmps) (h:(evalOp ts o).bind AV.code=some c) (hx:∀t,o=.tmp t→¬X t):∃(n:Int) (s:ByteArray),c.den I g.env=some (.i n)∧a.eval o=.string s∧s.data.toList=zW n:=by
 cases he:evalOp ts o with
 | none=>simp [he] at h
 | some v=>
   simp only [he,Option.bind_some] at h
   obtain ⟨n,h1,h2⟩:=xX h (zm ht he hx)
   exact ⟨n,_,h1,h2,by simp⟩
theorem Yl {t:TypeId} (hu:P.underlying t=some .string) {v z:AV} {y:Value} {lo hi:Option Value} {ea eh:Option E} {ca ch:Option Int} {ps:List PE}
   (hr:Rel I g v y) (ha:jD lo ca) (hh:jD hi ch)
   (hea:∀(d:E) (m:Int),d.den I g.env=some (.i m)→(ea.getD d).den I g.env=some (.i (ca.getD m))) (heh:∀(d:E) (m:Int),d.den I g.env=some (.i m)→(eh.getD d).den I g.env=some (.i (ch.getD m)))
   (h:u7 v ea eh=some (z,ps)) (hp:∀q∈ps,q.den I g.env) :
   ∃r,(Instr.sliceAt t y lo hi none).run P w=.ok r w∧Rel I g z r:=by
 unfold u7 at h
 split at h
 · rename_i c hc
   simp only [Option.some.injEq,Prod.mk.injEq] at h
   obtain ⟨rfl,rfl⟩:=h
   obtain ⟨n,hn,rfl⟩:=xX hc hr
   have hl:=x9 hn
   have hA:=hea (.lit 0) 0 rfl
   have hH:=heh (dQ c) (uw n) hl
   have h1:=zh (show (E.lit 0).den I g.env=some (.i 0) from rfl) hA (hp _ (by simp))
   have h2:=zh hA hH (hp _ (by simp))
   have h3:=zh hH hl (hp _ (by simp))
   have hsz:(⟨(zW n).toArray⟩:ByteArray).size=(zW n).length:=by rw [Qx]
   have hb:=uy (P:=P) (w:=w) (b:=false) (len:=(zW n).length) (cap:=(zW n).length) (m:=none) ha hh (show jD none none from rfl) (by simp) h1 h2 (by simpa [uw] using h3) (by simp)
   refine ⟨.string ((⟨(zW n).toArray⟩:ByteArray).extract (ca.getD 0).toNat (ch.getD (uw n)).toNat),?_,aQ (n:=A8 n (ca.getD 0) (ch.getD (uw n))) (dG hn hA hH rfl) ?_⟩
   · unfold kR
     simp only [Instr.sliceAt,Instr.slice,Sem.run_bind,run_underlying hu,Result.andThen,Option.isSome_none,Bool.false_eq_true,if_false,hsz,hb,Sem.run_pure]
     rfl
   · exact fq (by rw [extract_toList])
 · cases h
theorem YX {o:Oper} {v:AV} {ps:List PE} (ht:wm I g X ts a.tmps) (hx:∀t,.tmp t∈o.op.operands.toList→¬X t)
   (h:bQ P ts o.op=some (v,ps)) (hp:∀q∈ps,q.den I g.env):∃x,(execOp a.eval o).run P w=.ok (.value x) w∧Rel I g v x:=by
 have ev:∀{y:Operand} {u:AV},y∈o.op.operands.toList→evalOp ts y=some u→Rel I g u (a.eval y):=fun hy hu=>zm ht hu fun t e=>hx t (e ▸ hy)
 have cd:∀{y:Operand} {c:E},y∈o.op.operands.toList→(evalOp ts y).bind AV.code=some c→∃(n:Int) (s:ByteArray),c.den I g.env=some (.i n)∧a.eval y=.string s∧s.data.toList=zW n:=
   fun hy hu=>codeOf ht hu fun t e=>hx t (e ▸ hy)
 cases hop:o.op with
 | binOp bo t x y yt=>
   rw [hop] at h cd
   simp only [bQ] at h
   split at h
   · rename_i ca cb he he'
     obtain ⟨n1,s1,e1,x1,l1⟩:=cd (by simp [Op.operands]) he
     obtain ⟨n2,s2,e2,x2,l2⟩:=cd (by simp [Op.operands]) he'
     have key:∀{r:Value},(do eqGuard bo t x y (a.eval x) (a.eval y);binOp bo t (a.eval x) (a.eval y):Sem Value).run P w=.ok r w→(execOp a.eval o).run P w=.ok (.value r) w:=fun hr=>by
       simp only [execOp,hop];rw [Sem.run_bind,hr];rfl
     rw [x1,x2] at key
     split at h
     · simp only [Option.some.injEq,Prod.mk.injEq] at h;obtain ⟨rfl,rfl⟩:=h
       refine ⟨_,key (zl yw pR),_,qy (o:=.eq) e1 e2,?_⟩
       rw [l1,l2]
       by_cases hn:n1=n2
       · simp [BO.ev,hn]
       · have:¬zW n1=zW n2:=fun hh=>hn (fZ hh)
         simp [BO.ev,hn,this]
     · simp only [Option.some.injEq,Prod.mk.injEq] at h;obtain ⟨rfl,rfl⟩:=h
       refine ⟨_,key (zl yw pF),_,qy (o:=.ne) e1 e2,?_⟩
       rw [l1,l2]
       by_cases hn:n1=n2
       · simp [BO.ev,hn]
       · have:¬zW n1=zW n2:=fun hh=>hn (fZ hh)
         simp [BO.ev,hn,this]
     · simp only [Option.some.injEq,Prod.mk.injEq] at h;obtain ⟨rfl,rfl⟩:=h
       have hle:=zh (qE (x9 e1) (x9 e2)) (show (E.lit 1000000).den I g.env=some (.i 1000000) from rfl) (hp _ (by simp))
       simp only [uw] at hle
       refine ⟨_,key (zl yw (pU (by rw [l1,l2];omega))),aQ (n:=Ez n1 n2) (dG e1 e2 (show (E.lit 0).den I g.env=some (.i 0) from rfl) rfl) ?_⟩
       exact fq (by rw [nG,l1,l2])
     · cases h
   · cases h
 | index t x i=>
   rw [hop] at h ev cd
   simp only [bQ] at h
   split at h
   · rename_i c k e he hi hu
     simp only [Option.some.injEq,Prod.mk.injEq] at h
     obtain ⟨rfl,rfl⟩:=h
     obtain ⟨n,s,h1,h3,hl⟩:=cd (by simp [Op.operands]) he
     obtain ⟨j,h6,h7⟩:=ev (by simp [Op.operands]) hi
     obtain ⟨hj0,hjn⟩:=zD h6 (x9 h1) hp
     simp only [uw] at hjn
     have hlt:j.toNat<s.data.toList.length:=by rw [hl];omega
     refine ⟨.int .u8 ((s.data.toList[j.toNat]).toNat:Int),?_,_,dG (n:=Pg n j) h1 h6 (show (E.lit 0).den I g.env=some (.i 0) from rfl) rfl,?_⟩
     · have hb':s[j.toNat]?=some (s.data.toList[j.toNat]):=by
         have hlt':j.toNat<s.size:=by rw [Array.length_toList] at hlt;exact hlt
         rw [getElem?_pos s j.toNat hlt']
         congr 1
       simp only [execOp,hop,h3,h7,Instr.index,asIntOf,Sem.run_bind,Sem.run_pure,run_underlying hu,Result.andThen,if_pos hj0,hb']
     · unfold Pg
       rw [←hl,List.getElem?_eq_getElem hlt]
       rfl
   · cases h
 | slice t x lo hi mx=>
   rw [hop] at h ev
   cases mx with
   | some m=>simp [bQ] at h
   | none=>
   simp only [bQ] at h
   split at h
   · rename_i u ea eh he hu hlo hhi
     obtain ⟨ca,k1,_,k2⟩:=tV ht hlo fun t' e=>hx t' (by rw [hop];simp [Op.operands,e])
     obtain ⟨ch,k3,_,k4⟩:=tV ht hhi fun t' e=>hx t' (by rw [hop];simp [Op.operands,e])
     obtain ⟨z,h1,h2⟩:=Yl (w:=w) hu (ev (by simp [Op.operands]) he) k1 k3 k2 k4 h hp
     exact ⟨z,by simp only [execOp,hop,Option.map_none,Sem.run_bind,h1,Result.andThen];rfl,h2⟩
   · cases h
 | call c=>
   rw [hop] at h cd
   obtain ⟨callee,args,argTypes⟩:=c
   cases callee with
   | builtin b=>
     cases b with
     | len=>
       simp only [bQ] at h
       split at h
       · rename_i y t ha hat
         have ha':=ku ha
         have hat':=ku hat
         subst ha';subst hat'
         split at h
         · rename_i c he hu
           simp only [Option.some.injEq,Prod.mk.injEq] at h
           obtain ⟨rfl,rfl⟩:=h
           obtain ⟨n,s,h1,h3,hl⟩:=cd (by simp [Op.operands,Call.operands]) he
           refine ⟨.int .i64 s.size,by simp [execOp,hop,resolve,invoke,builtin,Builtin.len_,run_underlying hu,Result.andThen,h3,goInt],_,x9 h1,?_⟩
           unfold uw
           rw [←hl,Qx]
         · cases h
       · cases h
     | _=>simp [bQ] at h
   | _=>simp [bQ] at h
 | _=>rw [hop] at h;simp [bQ] at h
theorem Nu {v:AV} {x:Value} {t n:E} (h:v.GR=some (t,n)) (hv:Rel I g v x):Rel I g (.wN t n) x:=by
 cases v with
 | sat e=>
   simp only [AV.GR,Option.some.injEq,Prod.mk.injEq] at h
   obtain ⟨rfl,rfl⟩:=h
   obtain ⟨m,h1,rfl⟩:=hv
   refine ⟨Iw m,uw m,_,vk (j:=6) h1 (show (E.lit 0).den I g.env=some (.i 0) from rfl) (show (E.lit 0).den I g.env=some (.i 0) from rfl) (show (E.lit 0).den I g.env=some (.i 0) from rfl),x9 h1,rfl,rfl,fun i b hb=>?_⟩
   have hb':(zW m)[i]?=some b:=by simpa using hb
   simp [Iw,hb']
 | _=>exact mh (by simpa only [AV.GR] using h) hv
theorem YK {o:Oper} {v:AV} {ps:List PE} (ht:wm I g X ts a.tmps) (hx:∀t,.tmp t∈o.op.operands.toList→¬X t)
   (h:rJ ts o.op=some (v,ps)):∃x,(execOp a.eval o).run P w=.ok (.value x) w∧Rel I g v x:=by
 have ev:∀{y:Operand} {u:AV},y∈o.op.operands.toList→evalOp ts y=some u→Rel I g u (a.eval y):=fun hy hu=>zm ht hu fun t e=>hx t (e ▸ hy)
 cases hop:o.op with
 | binOp bo t x y yt=>
   rw [hop] at h ev
   have key:∀{r:Value},(do eqGuard bo t x y (a.eval x) (a.eval y);binOp bo t (a.eval x) (a.eval y):Sem Value).run P w=.ok r w→(execOp a.eval o).run P w=.ok (.value r) w:=fun hr=>by
     simp only [execOp,hop];rw [Sem.run_bind,hr];rfl
   cases bo with
   | add=>
     simp only [rJ] at h
     split at h
     · rename_i k ea k' eb he he'
       split at h
       · rename_i hk
         subst hk
         simp only [Option.some.injEq,Prod.mk.injEq] at h
         obtain ⟨rfl,rfl⟩:=h
         obtain ⟨n1,e1,x1⟩:=ev (by simp [Op.operands]) he
         obtain ⟨n2,e2,x2⟩:=ev (by simp [Op.operands]) he'
         rw [x1,x2] at key
         exact ⟨_,key (zl jQ Fp),_,nZ (qE e1 e2),rfl⟩
       · cases h
     · cases h
   | sub=>
     simp only [rJ] at h
     split at h
     · rename_i k ea k' eb he he'
       split at h
       · rename_i hk
         subst hk
         simp only [Option.some.injEq,Prod.mk.injEq] at h
         obtain ⟨rfl,rfl⟩:=h
         obtain ⟨n1,e1,x1⟩:=ev (by simp [Op.operands]) he
         obtain ⟨n2,e2,x2⟩:=ev (by simp [Op.operands]) he'
         rw [x1,x2] at key
         exact ⟨_,key (zl jQ Fg),_,nZ (yE e1 e2),rfl⟩
       · cases h
     · cases h
   | mul=>
     simp only [rJ] at h
     split at h
     · rename_i k ea k' eb he he'
       split at h
       · rename_i hk
         subst hk
         simp only [Option.some.injEq,Prod.mk.injEq] at h
         obtain ⟨rfl,rfl⟩:=h
         obtain ⟨n1,e1,x1⟩:=ev (by simp [Op.operands]) he
         obtain ⟨n2,e2,x2⟩:=ev (by simp [Op.operands]) he'
         rw [x1,x2] at key
         exact ⟨_,key (zl jQ Fh),_,nZ (qy (o:=.mul) e1 e2),rfl⟩
       · cases h
     · cases h
   | _=>simp [rJ] at h
 | _=>rw [hop] at h;simp [rJ] at h
theorem rZ {kn:Kn} {o:Oper} {v:AV} {ps:List PE} (hG:GOk kn.globs A) (hm:qW A I P g M w) (ht:wm I g X ts a.tmps) (hx:∀t,.tmp t∈o.op.operands.toList→¬X t)
   (h:quiet P kn ts M o.op=some (v,ps)) (hp:∀q∈ps,q.den I g.env):∃x,(execOp a.eval o).run P w=.ok (.value x) w∧Rel I g v x:=by
 unfold quiet at h
 rw [Z8,Z5,Z0] at h
 split at h
 · rename_i r hr
   cases h
   split at hr
   · exact YK ht hx hr
   · cases hr
 split at h
 · rename_i r hr
   cases h
   exact YN hG hm ht hx hr hp
 · split at h
   · rename_i r hr
     cases h
     exact YD hm ht hx hr hp
   · exact YX ht hx h hp
theorem Vb {kn:Kn} {c:Call}:quiet P kn ts M (.defer c)=none:=by
 unfold quiet
 rw [Z8,Z5,Z0]
 cases kn.wrp <;> simp [rJ,jw,xU,bQ]
theorem dP {kn:Kn} {o:Oper} {v:AV} {ps:List PE} {c:Call} (hc:o.op=.defer c) (h1:quiet P kn ts M o.op=some (v,ps)):False:=by
 rw [hc,Vb] at h1
 cases h1
end Go.Sx
