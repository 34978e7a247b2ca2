/-
  A new block; a block written: the relation behind them. Conditions: none.
-/
import Derived.Test.YtmjjjhinedogjaaGreatDoorA2
import Derived.Laws.CopyRow
import Derived.Laws.AppendOwn
noncomputable section
namespace Go.Sx
open Go
variable {A:Amb} {I:Itp} {P:Program} {g:G} {X:Nat->Prop} {ts:qO} {a:Act} {M:Mem} {w:World}
theorem qX.lG {w':World} (h:qX A I P g M w) (e:w'.heap=w.heap) (ho:w'.os=w.os/\w'.output=w.output:=by exact ⟨rfl,rfl⟩):qX A I P g M w' where
 wf:=h.wf
 blk b x hx:=by have:=h.blk b x hx;rw [e];exact this
 lt:=h.lt
 inj:=h.inj
 bnd:=by rw [e];exact h.bnd
 own:=h.own
 size:=by rw [e];exact h.size
 keep:=by rw [e];exact h.keep
 same:=⟨ho.1.trans h.same.1,ho.2.trans h.same.2⟩
 fam:=by rw [e];exact h.fam
 frz:=by rw [e];exact h.frz
theorem qX.sub {M':Mem} (h:qX A I P g M w) (hs:∀b x,get M' b=some x->get M b=some x):qX A I P g M' w where
 wf:=h.wf
 blk b x hx:=h.blk b x (hs b x hx)
 lt b x hx:=h.lt b x (hs b x hx)
 inj b c x y p q hx hy:=h.inj b c x y p q (hs b x hx) (hs c y hy)
 bnd:=h.bnd
 own b x p hx:=h.own b x p (hs b x hx)
 size:=h.size
 keep:=h.keep
 same:=h.same
 fam b x o hx hr:=let ⟨h1,h2,h3,h4⟩:=h.fam b x o (hs b x hx) hr;⟨h1,h2,fun c y q hc=>h3 c y q (hs c y hc),fun c y hc=>h4 c y (hs c y hc)⟩
 frz o c hz:=let ⟨h1,h2,h3,h4,h5⟩:=h.frz o c hz;⟨h1,h2,h3,fun b x q hb=>h4 b x q (hs b x hb),fun b x hb=>h5 b x (hs b x hb)⟩
def G.lay (g:G) (p:Option PB):G:={ g with φ:=fun b=>if b=g.nb then p else g.φ b,nb:=g.nb+1 }
theorem G.qH (g:G) (p:Option PB):g.Le (g.lay p):=
 ⟨⟨[],by simp [G.lay]⟩,by simp [G.lay],fun b hb=>by simp only [G.lay];rw [if_neg (by omega)],fun _ _ h=>h⟩
theorem G.J4 {g:G} (h:g.wf) (p:Option PB):(g.lay p).wf:=fun b hb=>by
 simp only [G.lay] at hb ⊢;rw [if_neg (by omega)];exact h b (by omega)
@[simp] theorem G.zh (g:G) (p:Option PB):(g.lay p).φ g.nb=p:=by simp [G.lay]
theorem heap_alloc_old {o:Obj} {i:Nat} (h:i<w.heap.size):(w.alloc o).heap[i]?=w.heap[i]?:=by
 show (w.heap.push o)[i]?=_;rw [Array.getElem?_push];rw [if_neg (by omega)]
theorem qX.alloc {M':Mem} {o:Obj} {x:Blk} {p:PB} (h:qX A I P g M w) (hs:∀b y,get M' b=some y->get M b=some y) (hp:p.blk=w.heap.size)
   (hx:jN I P (g.lay (some p)) g.nb (fun i=>(w.alloc o).heap[i]?) x) (hnf:x.wF=false:=by rfl):qX A I P (g.lay (some p)) ((g.nb,x)::M') (w.alloc o):=by
 have hle:=g.qH (some p);have hold:∀b q,b≠g.nb->(g.lay (some p)).φ b=some q->g.φ b=some q:=fun b q hb hq=>by simpa [G.lay,hb] using hq
 have hcase:∀b y,get ((g.nb,x)::M') b=some y->(b=g.nb/\y=x)\/(b≠g.nb/\get M b=some y):=fun b y hy=>by
   simp only [qQ] at hy;by_cases hb:g.nb=b
   . rw [if_pos hb] at hy;simp at hy;exact .inl ⟨hb.symm,hy.symm⟩
   . rw [if_neg hb] at hy;exact .inr ⟨fun e=>hb e.symm,hs b y hy⟩
 refine ⟨G.J4 h.wf _,fun b y hy=>?_,fun b y hy=>?_,fun b c y z q r hy hz hwy hq hr e=>?_,fun b q hq=>?_,fun b y q hy hw hq=>?_,?_,fun i hi hX=>?_,h.same,fun b y o' hy hr=>?_,fun o' c hz=>?_⟩
 . rcases hcase b y hy with ⟨rfl,rfl⟩ | ⟨hb,hy'⟩
   . exact hx
   . exact ((h.blk b y hy').heap (H':=fun i=>(w.alloc o).heap[i]?) (fun q hq=>heap_alloc_old (h.bnd b q hq)) fun o' hr=>heap_alloc_old (h.fam b y o' hy' hr).2.1).le hle h.wf (h.lt b y hy')
 . rcases hcase b y hy with ⟨rfl,rfl⟩ | ⟨hb,hy'⟩
   . simp [G.lay]
   . have:=h.lt b y hy';simp [G.lay];omega
 . rcases hcase b y hy with ⟨rfl,rfl⟩ | ⟨hb,hy'⟩ <;> rcases hcase c z hz with ⟨rfl,rfl⟩ | ⟨hc,hz'⟩
   . rfl
   . have h1:=h.bnd c r (hold c r hc hr);simp at hq;subst hq;omega
   . have h1:=h.bnd b q (hold b q hb hq);simp at hr;subst hr;omega
   . exact h.inj b c y z q r hy' hz' hwy (hold b q hb hq) (hold c r hc hr) e
 . by_cases hb:b=g.nb
   . subst hb;simp at hq;subst hq;simp [hp]
   . have:=h.bnd b q (hold b q hb hq);simp;omega
 . rcases hcase b y hy with ⟨rfl,rfl⟩ | ⟨hb,hy'⟩
   . right;simp at hq;subst hq;rw [hp];exact h.size
   . exact h.own b y q hy' hw (hold b q hb hq)
 . have:=h.size;simp;omega
 . rw [heap_alloc_old (by have:=h.size;omega)];exact h.keep i hi hX
 . rcases hcase b y hy with ⟨rfl,rfl⟩ | ⟨hb,hy'⟩
   . rw [hr.fam] at hnf;cases hnf
   . obtain ⟨h1,h2,h3,h4⟩:=h.fam b y o' hy' (zV.le hle (h.lt b y hy') (h.blk b y hy') (fun q hq=>heap_alloc_old (h.bnd b q hq)) hr);refine ⟨h1,by simp;omega,fun c z q hc hq=>?_,fun c z hc hrc=>?_⟩
     . rcases hcase c z hc with ⟨rfl,rfl⟩ | ⟨hc',hz⟩
       . simp at hq;subst hq;omega
       . exact h3 c z q hz (hold c q hc' hq)
     . rcases hcase c z hc with ⟨rfl,rfl⟩ | ⟨hc',hz⟩
       . rw [hrc.fam] at hnf;cases hnf
       . exact h4 c z hz (zV.le hle (h.lt c z hz) (h.blk c z hz) (fun q hq=>heap_alloc_old (h.bnd c q hq)) hrc)
 . obtain ⟨h1,h2,⟨T,fr,h3⟩,h4,h5⟩:=h.frz o' c hz;refine ⟨h1,by simp;omega,⟨T,fr,by rw [heap_alloc_old h2];exact h3⟩,fun b y q hy hw hq=>?_,fun b y hy hr=>?_⟩
   . rcases hcase b y hy with ⟨rfl,rfl⟩ | ⟨hb,hy'⟩
     . simp at hq;subst hq;omega
     . exact h4 b y q hy' hw (hold b q hb hq)
   . rcases hcase b y hy with ⟨rfl,rfl⟩ | ⟨hb,hy'⟩
     . rw [hr.fam] at hnf;cases hnf
     . exact h5 b y hy' (zV.le hle (h.lt b y hy') (h.blk b y hy') (fun q hq=>heap_alloc_old (h.bnd b q hq)) hr)
theorem qX.write {w':World} {b:Nat} {x y:Blk} {p:PB} (h:qX A I P g M w) (hb:get M b=some x) (hw:x.wr=true) (hp:g.φ b=some p)
   (hsz:w'.heap.size=w.heap.size) (hoth:∀i,i≠p.blk->w'.heap[i]?=w.heap[i]?) (hy:jN I P g b (fun i=>w'.heap[i]?) y) (ho:w'.os=w.os/\w'.output=w.output:=by exact ⟨rfl,rfl⟩) (hnf:y.wF=false:=by rfl):qX A I P g (put b y M) w':=by
 have Kh:∀c z q,c≠b->get M c=some z->g.φ c=some q->w'.heap[q.blk]?=w.heap[q.blk]?:=fun c z q hc hz hq=>hoth q.blk fun e=>hc (h.inj b c x z p q hb hz hw hp hq e.symm).symm
 have hcase:∀c z,get (put b y M) c=some z->(c=b/\z=y)\/(c≠b/\get M c=some z):=fun c z hz=>by
   rw [get_put] at hz;by_cases hc:b=c
   . rw [if_pos hc] at hz;simp at hz;exact .inl ⟨hc.symm,hz.symm⟩
   . rw [if_neg hc] at hz;exact .inr ⟨fun e=>hc e.symm,hz⟩
 have hkey:∀c z,get (put b y M) c=some z->∃z',get M c=some z'/\(z.wr=true->z'.wr=true):=fun c z hz=>by
   rcases hcase c z hz with ⟨rfl,rfl⟩ | ⟨_,hz'⟩
   . exact ⟨x,hb,fun _=>hw⟩
   . exact ⟨z,hz',id⟩
 refine ⟨h.wf,fun c z hz=>?_,fun c z hz=>?_,fun c d z u q r hz hu Kv hq hr e=>?_,fun c q hq=>?_,fun c z q hz hwz hq=>?_,?_,fun i hi hX=>?_,⟨ho.1.trans h.same.1,ho.2.trans h.same.2⟩,fun c z o hz hr=>?_,fun o c hz=>?_⟩
 . rcases hcase c z hz with ⟨rfl,rfl⟩ | ⟨hc,hz'⟩
   . exact hy
   . exact (h.blk c z hz').heap (fun q hq=>Kh c z q hc hz' hq) fun o hr=>hoth o fun e=>(h.fam c z o hz' hr).2.2.1 b x p hb hp e.symm
 . obtain ⟨z',hz',_⟩:=hkey c z hz;exact h.lt c z' hz'
 . obtain ⟨z',hz',hwz⟩:=hkey c z hz;obtain ⟨u',hu',_⟩:=hkey d u hu;exact h.inj c d z' u' q r hz' hu' (hwz Kv) hq hr e
 . rw [hsz];exact h.bnd c q hq
 . obtain ⟨z',hz',hwr⟩:=hkey c z hz;exact h.own c z' q hz' (hwr hwz) hq
 . rw [hsz];exact h.size
 . by_cases hi':i=p.blk
   . exfalso;subst hi';rcases h.own b x p hb hw hp with h1 | h1
     . exact hX h1
     . omega
   . rw [hoth i hi'];exact h.keep i hi hX
 . rcases hcase c z hz with ⟨rfl,rfl⟩ | ⟨hc,hz'⟩
   . rw [hr.fam] at hnf;cases hnf
   . obtain ⟨h1,h2,h3,h4⟩:=h.fam c z o hz' (zV.le (.refl g) (h.lt c z hz') (h.blk c z hz') (fun q hq=>Kh c z q hc hz' hq) hr);refine ⟨h1,by rw [hsz];exact h2,fun d u q hd hq=>?_,fun d u hd hrd=>?_⟩
     . rcases hcase d u hd with ⟨rfl,rfl⟩ | ⟨_,hu⟩
       . exact h3 d x q hb hq
       . exact h3 d u q hu hq
     . rcases hcase d u hd with ⟨rfl,rfl⟩ | ⟨hd',hu⟩
       . rw [hrd.fam] at hnf;cases hnf
       . exact h4 d u hu (zV.le (.refl g) (h.lt d u hu) (h.blk d u hu) (fun q hq=>Kh d u q hd' hu hq) hrd)
 . obtain ⟨h1,h2,⟨T,fr,h3⟩,h4,h5⟩:=h.frz o c hz;refine ⟨h1,by rw [hsz];exact h2,⟨T,fr,by rw [hoth o fun e=>h4 b x p hb hw hp e.symm];exact h3⟩,fun d u q hd hwd hq=>?_,fun d u hd hr=>?_⟩
   . rcases hcase d u hd with ⟨rfl,rfl⟩ | ⟨_,hu⟩
     . exact h4 d x q hb hw hq
     . exact h4 d u q hu hwd hq
   . rcases hcase d u hd with ⟨rfl,rfl⟩ | ⟨hd',hu⟩
     . rw [hr.fam] at hnf;cases hnf
     . exact h5 d u hu (zV.le (.refl g) (h.lt d u hu) (h.blk d u hu) (fun q hq=>Kh d u q hd' hu hq) hr)
theorem C8 {v:AV} {x:Value} (h:Rel I g v x) (h1:v.one=true):x.oneCell'=true:=by
 cases v <;> simp [AV.one] at h1 <;> simp only [Rel] at h
 case bool e=>obtain ⟨n,_,rfl⟩:=h;rfl
 case int k e=>obtain ⟨n,_,rfl⟩:=h;rfl
 case wP=>subst h;rfl
 case ptr=>obtain ⟨n,p,_,_,_,rfl⟩:=h;rfl
 case qJ=>subst h;rfl
 case slice=>obtain ⟨l,n,_,_,_,_,⟨p,cap,_,rfl,_⟩ | ⟨_,_,_,rfl⟩⟩:=h <;> rfl
 case cap0=>obtain ⟨a,rfl⟩:=h;rfl
 case empty=>obtain ⟨a,c,rfl⟩:=h;rfl
 case asl=>obtain ⟨p,c,_,_,rfl⟩:=h;rfl
 case yN=>obtain ⟨ms,cs,rfl,_⟩:=h;rfl
 case bK=>subst h;rfl
 case str=>obtain ⟨b,rfl,_⟩:=h;rfl
 case wE=>obtain ⟨f,k,s,_,_,rfl,_⟩:=h;rfl
 case lst=>obtain ⟨n,_,⟨⟨a,rfl⟩,_⟩ | ⟨o,off,len,cap,cs,rfl,_⟩⟩:=h <;> rfl
 case mM=>obtain ⟨a,rfl⟩:=h;rfl
 case mref=>obtain ⟨p,_,rfl⟩:=h;rfl
 case gV=>subst h;rfl
 case xk=>subst h;rfl
 case sat=>obtain ⟨n,_,rfl⟩:=h;rfl
 case ifo=>obtain ⟨n,_,⟨_,rfl⟩ | ⟨_,t,p,rfl⟩⟩:=h <;> rfl
 case func=>obtain ⟨cs,rfl,_⟩:=h;rfl
 case yld=>obtain ⟨p,_,rfl⟩:=h;rfl
 case jY=>subst h;rfl
 case gZ=>obtain ⟨o,q,z,y,rfl,_⟩:=h;rfl
 case fco=>obtain ⟨n,_,⟨_,rfl⟩ | ⟨_,c,p,o,q,z,_,_,rfl,_⟩⟩:=h <;> rfl
 case xV=>obtain ⟨n,j,_,_,_,o,off,len,cs,rfl,_⟩:=h;rfl
theorem JZ:∀{l:List AV} {xs:List Value},qw I g l xs->l.all AV.one=true->∀x∈xs,x.oneCell'=true
 | [],[],_,_,x,hx=>by simp at hx
 | v::l,y::xs,h,h1,x,hx=>by
   simp at h1 hx;rcases hx with rfl | hx
   . exact C8 h.1 h1.1
   . exact JZ h.2 (by simpa using h1.2) x hx
 | [],_::_,h,_,_,_=>by simp [qw] at h
 | _::_,[],h,_,_,_=>by simp [qw] at h
theorem jd (cs vs:List Value) (o:Nat) (h:o+vs.length<=cs.length) (j:Nat) :
   (cs.take o++vs++cs.drop (o+vs.length))[j]?=if o<=j/\j<o+vs.length then vs[j - o]? else cs[j]?:=by
 by_cases h1:j<o
 . rw [if_neg (by omega),List.append_assoc,List.getElem?_append_left (by simp;omega),List.getElem?_take_of_lt h1]
 . by_cases h2:j<o+vs.length
   . rw [if_pos (by omega),List.append_assoc,List.getElem?_append_right (by simp;omega)];simp only [List.length_take];rw [show min o cs.length=o by omega,List.getElem?_append_left (by omega)]
   . rw [if_neg (by omega),List.getElem?_append_right (by simp;omega)];simp only [List.length_append,List.length_take];rw [show min o cs.length=o by omega,List.getElem?_drop]
     congr 1;omega
theorem xP {α:Type}:∀(vs:List α) (l:List α) (o:Nat),o+vs.length<=l.length->∀j,(yV l o vs)[j]?=if o<=j/\j<o+vs.length then vs[j - o]? else l[j]?
 | [],l,o,_,j=>by simp [w9];omega
 | v::vs,l,o,h,j=>by
   simp only [y8];rw [xP vs (l.set o v) (o+1) (by simp at h ⊢;omega) j];simp only [List.length_cons] at h ⊢;by_cases h1:o+1<=j/\j<o+1+vs.length
   . rw [if_pos h1,if_pos (by omega),show j - o=(j - (o+1))+1 by omega,List.getElem?_cons_succ]
   . rw [if_neg h1];by_cases h2:j=o
     . subst h2;rw [if_pos (by omega)];simp;rw [List.getElem?_eq_getElem (by simpa using (by omega:j<l.length))];simp
     . rw [if_neg (by omega),List.getElem?_set_ne (by omega)]
theorem ko {fr:Nat × Nat} (g o:Nat) (t:TypeId):∀(vs:List Value) (i:Nat) (cur:Array Value) (w:World),w.heap[g]?=some (.cells cur t fr)->Free fr cur.size->o+i+vs.length<=cur.size->(∀v∈vs,v.oneCell'=true)->
   (storeCells ⟨g,o,none⟩ vs i).run P w=.ok () (w.setRow g (cur.toList.take (o+i)++vs++cur.toList.drop (o+i+vs.length)).toArray)
 | [],i,cur,w,hg,_,_,_=>by
   simp only [storeCells,List.append_nil,List.length_nil,Nat.add_zero,List.take_append_drop,Array.toArray_toList];rw [setRow_self w g cur t fr hg];rfl
 | v::rest,i,cur,w,hg,hf,hl,h1=>by
   have hi:o+i<cur.size:=by simp at hl;omega
   have hadd:(⟨g,o,none⟩:Addr).add i=⟨g,o+i,none⟩:=by unfold Addr.add;split <;> simp_all
   have hcell:w.cell? ⟨g,o+i,none⟩=some cur[o+i]:=by simp [World.cell?,hg,hi]
   have hfro:w.frozen? ⟨g,o+i,none⟩=false:=by
     rcases hf with rfl | hf
     . simp [World.frozen?,hg]
     . simp [World.frozen?,hg];intro h;omega
   have hst:(store ((⟨g,o,none⟩:Addr).add i) v).run P w=.ok () (w.setRow g (cur.setIfInBounds (o+i) v)):=by
     rw [hadd,run_store P w _ v _ (h1 v (by simp)),hcell];simp [hfro,setCell_eq_setRow w g (o+i) cur t fr v hg]
   have ih:=ko g o t rest (i+1) (cur.setIfInBounds (o+i) v) (w.setRow g (cur.setIfInBounds (o+i) v)) (setRow_heap w g cur _ t _ hg) (by simpa using hf) (by simp at hl ⊢;omega) (fun x hx=>h1 x (by simp [hx]));simp only [storeCells,Sem.run_bind,hst,Result.andThen_ok,ih,setRow_setRow]
   congr 3
   have e:=list_seg_step cur.toList (o+i) v rest (by simp at hl ⊢;omega);simpa [Array.toList_setIfInBounds,Nat.add_assoc] using e
theorem Ng {q o:Nat} {c:Array Value} {T:TypeId} {xs:List Value} (hh:w.heap[q]?=some (.cells c T (0,0))) (hsz:xs=[]\/o+xs.length<=c.size) (mX:∀x∈xs,x.oneCell'=true) :
   ∃(w':World) (c':Array Value),(storeCells ⟨q,o,none⟩ xs).run P w=.ok () w'/\w'.heap.size=w.heap.size/\(∀i,i≠q->w'.heap[i]?=w.heap[i]?)/\w'.heap[q]?=some (.cells c' T (0,0))/\
     (∀j,c'[j]?=if o<=j/\j<o+xs.length then xs[j - o]? else c[j]?)/\w'.os=w.os/\w'.output=w.output:=by
 rcases hsz with rfl | hsz
 . exact ⟨w,c,rfl,rfl,fun _ _=>rfl,hh,fun j=>by rw [if_neg (by simp)],rfl,rfl⟩
 . have hst:=run_storeCells_at P q o T xs 0 c w hh (by omega) mX;refine ⟨_,_,hst,by simp,fun i hi=>setRow_other _ _ _ _ hi,setRow_heap _ _ _ _ _ _ hh,fun j=>?_,rfl,rfl⟩;simp only [Nat.add_zero,List.getElem?_toArray];rw [jd _ _ _ (by simp;omega)];simp
theorem Qc {b:Nat} {p:PB} {pre post pre' post':List AV} {ks:List CK} {t t':E} {m:Nat} {vs:List AV} {xs:List Value} {o:Nat} (hm:qX A I P g M w) (hb:get M b=some (.big pre ks t m post true)) (hφ:g.φ b=some p)
   (hv:qw I g vs xs) (mX:∀x∈xs,x.oneCell'=true) (hin:vs=[]\/∃(_:List AV),True/\o+vs.length<=pre.length+m*ks.length+post.length/\
     (∀j,j<vs.length->(o+j<pre.length\/(∃r c k,r<m/\ks[c]?=some k/\o+j=pre.length+(r*ks.length+c))\/(∃i v,post[i]?=some v/\o+j=pre.length+m*ks.length+i))))
   (hnew:∀(c c':Array Value) (f:Int->Nat->Int),t.den I g.env=some (.t f)->(∀i v,pre[i]?=some v->∃x,c[p.base+i]?=some x/\Rel I g v x)->
     (∀(r j:Nat) (k:CK),r<m->ks[j]?=some k->k.at g (f r j) c[p.base+(pre.length+(r*ks.length+j))]?)->
     (∀i v,post[i]?=some v->∃x,c[p.base+(pre.length+m*ks.length+i)]?=some x/\Rel I g v x)->
     (∀j,c'[p.base+j]?=if o<=j/\j<o+xs.length then xs[j - o]? else c[p.base+j]?)->
     ∃f',t'.den I g.env=some (.t f')/\pre'.length=pre.length/\(∀i v,pre'[i]?=some v->∃x,c'[p.base+i]?=some x/\Rel I g v x)/\
     (∀(r j:Nat) (k:CK),r<m->ks[j]?=some k->k.at g (f' r j) c'[p.base+(pre.length+(r*ks.length+j))]?)/\
     (∀i v,post'[i]?=some v->∃x,c'[p.base+(pre.length+m*ks.length+i)]?=some x/\Rel I g v x)) :
   ∃w',(storeCells ⟨p.blk,p.base+o,none⟩ xs).run P w=.ok () w'/\qX A I P g (put b (.big pre' ks t' m post' true) M) w':=by
 obtain ⟨p',c,T,fr,f,hp',hh,hf,hpre,hrow,hpost,hfr⟩:=hm.blk _ _ hb;rw [hφ] at hp';cases hp';have EB:=hfr rfl;subst EB;have hlen:=hv.length
 have hsz:xs=[]\/p.base+o+xs.length<=c.size:=by
   rcases hin with h0 | ⟨_,_,_,h2⟩
   . left;subst h0;cases xs <;> simp at hlen ⊢
   . by_cases h0:vs.length=0
     . left;cases xs <;> simp at hlen ⊢;omega
     . right
       have hex:∃y,c[p.base+(o+(vs.length - 1))]?=some y:=by
         rcases h2 (vs.length - 1) (by omega) with h3 | ⟨r,cc,k,h3,h4,h5⟩ | ⟨i,v,h3,h4⟩
         . obtain ⟨y,hy,_⟩:=hpre _ _ (List.getElem?_eq_getElem h3);exact ⟨y,hy⟩
         . rw [h5];obtain ⟨y,hy,_⟩:=hrow r cc k h3 h4;exact ⟨y,hy⟩
         . rw [h4];obtain ⟨y,hy,_⟩:=hpost i v h3;exact ⟨y,hy⟩
       obtain ⟨y,hy⟩:=hex;have:=(Array.getElem?_eq_some_iff.1 hy).1;omega
 obtain ⟨w',c',h1,h2,h3,h4,h5,h6⟩:=Ng (P:=P) hh hsz mX
 obtain ⟨f',k1,k2,k3,k4,k5⟩:=hnew c c' f hf hpre hrow hpost fun j=>by
   rw [h5];by_cases hj:o<=j/\j<o+xs.length
   . rw [if_pos hj,if_pos (by omega)];congr 1;omega
   . rw [if_neg hj,if_neg (by omega)]
 exact ⟨w',h1,hm.write hb rfl hφ h2 h3 ⟨p,c',T,(0,0),f',hφ,h4,k1,k3,by rw [k2];exact k4,by rw [k2];exact k5,fun _=>rfl⟩ h6⟩
theorem aO {base n x r k j len:Nat} (hk:k+len<=n) (hj:j<n) (h:r≠x):¬(base+x*n+k<=base+r*n+j/\base+r*n+j<base+x*n+k+len):=by
 rintro ⟨ha,hb⟩;rcases Nat.lt_or_gt_of_ne h with hlt | hgt
 . have:=Nat.mul_le_mul_right n (show r+1<=x from hlt);rw [Nat.add_mul,Nat.one_mul] at this;omega
 . have:=Nat.mul_le_mul_right n (show x+1<=r from hgt);rw [Nat.add_mul,Nat.one_mul] at this;omega
theorem rV {b s k:Nat} {r:E} {x:Int} {p:PB} {M':Mem} {ps:List PE} {vs:List AV} {xs:List Value} (hm:qX A I P g M w) (h:storeAt M b r s k vs=some (M',ps))
   (hp:∀q∈ps,q.den I g.env) (hr:r.den I g.env=some (.i x)) (hx:0<=x) (hφ:g.φ b=some p) (hv:qw I g vs xs) :
   ∃w',(storeCells ⟨p.blk,p.base+x.toNat*s+k,none⟩ xs).run P w=.ok () w'/\qX A I P g M' w':=by
 unfold storeAt at h;split at h
 . cases h
 . rename_i hone;have hone':vs.all AV.one=true:=by simpa using hone
   have mX:=JZ hv hone';have hlen:=hv.length;split at h
   . rename_i l hb;split at h
     . rename_i x0 hlit;have e:=Kj hlit;subst e;have e:x=x0:=by simp [E.den] at hr;exact hr.symm
       subst e;split at h
       . cases h
       . simp only at h;split at h
         . rename_i hle;simp at h;obtain ⟨rfl,rfl⟩:=h;obtain ⟨p',c,T,fr,hp',hh,hcs,hfr⟩:=hm.blk _ _ hb;rw [hφ] at hp';cases hp';obtain ⟨EB,htot⟩:=hfr rfl;subst EB
           have hsz:vs=[]\/p.base+(x.toNat*s+k)+vs.length<=c.size:=by
             cases hvs:vs with
             | nil=>exact .inl rfl
             | cons v0 vs0=>
               right;have hi:x.toNat*s+k+(vs.length - 1)<l.length:=by rw [hvs] at hle ⊢;simp at hle ⊢;omega
               obtain ⟨y,hy,_⟩:=hcs _ _ (List.getElem?_eq_getElem hi);have:=(Array.getElem?_eq_some_iff.1 hy).1;rw [<-hvs];have:1<=vs.length:=by rw [hvs];simp
               omega
           rcases hsz with h0 | hsz
           . subst h0;have:xs=[]:=by cases xs <;> simp at hlen ⊢
             subst this;refine ⟨w,rfl,hm.write hb rfl hφ rfl (fun _ _=>rfl) ⟨p,c,T,(0,0),hφ,hh,by simpa [Sx.w9] using hcs,fun _=>⟨rfl,htot⟩⟩⟩
           . have hst:=run_storeCells_at P p.blk (p.base+x.toNat*s+k) T xs 0 c w hh (by omega) mX;refine ⟨_,hst,hm.write hb rfl hφ (by simp) (fun i hi=>setRow_other _ _ _ _ hi) ⟨p,_,T,(0,0),hφ,setRow_heap _ _ _ _ _ _ hh,fun i v hiv=>?_,fun _=>⟨rfl,by simp;omega⟩⟩⟩;rw [xP vs l _ (by omega)] at hiv;simp only [Nat.add_zero,List.getElem?_toArray];rw [jd _ _ _ (by simp;omega)];split at hiv
             . rename_i hin;rw [if_pos (by omega)];obtain ⟨y,hy,hy'⟩:=hv.get hiv;exact ⟨y,by rw [<-hy];congr 1;omega,hy'⟩
             . rename_i hout;rw [if_neg (by omega)];obtain ⟨y,hy,hy'⟩:=hcs i v hiv;exact ⟨y,by simpa using hy,hy'⟩
         . cases h
     . cases h
   . rename_i ks t len nl hb;split at h
     . rename_i hs;subst hs;cases hu:yO ks t r k vs with
       | none=>simp [hu] at h
       | some t'=>
         simp [hu] at h;obtain ⟨rfl,rfl⟩:=h;obtain ⟨f,n,hf,Q5,hn0,hrow⟩:=hm.blk _ _ hb;obtain ⟨hx0,hxn⟩:=zH hr Q5 hp;rcases hrow with ⟨p',c,T,fr,hp',hh,hcs,hwr⟩ | ⟨_,hn,_⟩
         case inr=>omega
         rw [hφ] at hp';cases hp';obtain ⟨hfr,hsize,htot⟩:=hwr rfl;obtain ⟨f',h4,h5,h6,h7⟩:=kI hr hu hv hf
         have hvk:vs=[]\/k+vs.length<=ks.length:=by
           cases hvs:vs with
           | nil=>exact .inl rfl
           | cons _ _=>right;rw [hvs] at h5;simp at h5 ⊢;omega
         rcases hvk with h0 | hvk
         . subst h0;have:xs=[]:=by cases xs <;> simp at hlen ⊢
           subst this;refine ⟨w,rfl,hm.write hb rfl hφ rfl (fun _ _=>rfl) ⟨f',n,h4,Q5,hn0,.inl ⟨p,c,T,fr,hφ,hh,fun r' j ck hr' hj=>?_,fun _=>⟨hfr,hsize,htot⟩⟩⟩⟩;rw [h7 r' j (by simp;omega)];exact hcs r' j ck hr' hj
         . have Kg:(x.toNat+1)*ks.length<=p.tot:=Nat.le_trans (Nat.mul_le_mul_right _ (by omega)) htot;rw [Nat.add_mul,Nat.one_mul] at Kg;have hst:=ko (P:=P) p.blk (p.base+x.toNat*ks.length+k) T xs 0 c w hh hfr (by omega) mX
           refine ⟨_,hst,hm.write hb rfl hφ (by simp) (fun i hi=>setRow_other _ _ _ _ hi)
             ⟨f',n,h4,Q5,hn0,.inl ⟨p,_,T,fr,hφ,setRow_heap _ _ _ _ _ _ hh,fun r' j ck hr' hj=>?_,fun _=>⟨by
               rcases hfr with h | h
               . exact .inl h
               . right;simp;omega,?_,htot⟩⟩⟩⟩
           . have hjlt:j<ks.length:=(List.getElem?_eq_some_iff.1 hj).1;simp only [Nat.add_zero,List.getElem?_toArray];rw [jd _ _ _ (by simp;omega)];by_cases hrx:r'=x.toNat
             . subst hrx;by_cases hjk:k<=j/\j<k+vs.length
               . rw [if_pos (by omega)];have hlt:j - k<xs.length:=by omega
                 obtain ⟨c2,h8,h9⟩:=h6 (j - k) _ (List.getElem?_eq_getElem hlt);rw [show k+(j - k)=j by omega] at h8 h9;rw [h8] at hj;simp at hj;subst hj;rw [Int.toNat_of_nonneg hx];exact ⟨_,by rw [<-List.getElem?_eq_getElem hlt];congr 1;omega,h9⟩
               . rw [if_neg (by omega)];rw [h7 _ j (by omega)];simpa using hcs x.toNat j ck hr' hj
             . have hne:¬(p.base+x.toNat*ks.length+k<=p.base+r' * ks.length+j/\p.base+r' * ks.length+j<p.base+x.toNat*ks.length+k+xs.length):=by
                 rintro ⟨ha,hb'⟩;rcases Nat.lt_or_gt_of_ne hrx with hlt | hgt
                 . have:=Nat.mul_le_mul_right ks.length (show r'+1<=x.toNat from hlt);rw [Nat.add_mul,Nat.one_mul] at this;omega
                 . have:=Nat.mul_le_mul_right ks.length (show x.toNat+1<=r' from hgt);rw [Nat.add_mul,Nat.one_mul] at this;omega
               rw [if_neg hne,h7 _ j (.inl (by omega))];simpa using hcs r' j ck hr' hj
           . simp;omega
     . cases h
   . rename_i pre ks t m post hb;split at h
     . rename_i i hloc;have hsp:=xQ hloc hr hx;simp only at hsp;split at h
       . rename_i hle;simp at h;obtain ⟨rfl,rfl⟩:=h;rw [show p.base+x.toNat*s+k=p.base+i by omega];refine Qc (o:=i) hm hb hφ hv mX (.inr ⟨[],trivial,by omega,fun j hj=>.inl (by omega)⟩) fun c c' f hf hpre hrow hpost hc'=>⟨f,hf,rF _ _ _,fun j v hj=>?_,fun r j kk hr' hj=>?_,fun j v hj=>?_⟩
         . rw [xP vs pre _ hle] at hj;rw [hc'];split at hj
           . rename_i hin;rw [if_pos (by omega)];exact hv.get hj
           . rename_i hout;rw [if_neg (by omega)];exact hpre j v hj
         . rw [hc',if_neg (by omega)];exact hrow r j kk hr' hj
         . rw [hc',if_neg (by omega)];exact hpost j v hj
       . cases h
     . rename_i i hloc;have hsp:=xQ hloc hr hx;simp only at hsp;split at h
       . rename_i hle;simp at h;obtain ⟨rfl,rfl⟩:=h;rw [show p.base+x.toNat*s+k=p.base+(pre.length+m*ks.length+i) by omega]
         refine Qc (o:=pre.length+m*ks.length+i) hm hb hφ hv mX (.inr ⟨[],trivial,by omega,fun j hj=>.inr (.inr ⟨i+j,_,List.getElem?_eq_getElem (show i+j<post.length by omega),by omega⟩)⟩)
           fun c c' f hf hpre hrow hpost hc'=>⟨f,hf,rfl,fun j v hj=>?_,fun r j kk hr' hj=>?_,fun j v hj=>?_⟩
         . have:=(List.getElem?_eq_some_iff.1 hj).1;rw [hc',if_neg (by omega)];exact hpre j v hj
         . have hjl:j<ks.length:=(List.getElem?_eq_some_iff.1 hj).1;have:=Nat.mul_le_mul_right ks.length (show r+1<=m from hr');rw [Nat.add_mul,Nat.one_mul] at this;rw [hc',if_neg (by omega)];exact hrow r j kk hr' hj
         . rw [xP vs post _ hle] at hj;rw [hc'];split at hj
           . rename_i hin;rw [if_pos (by omega)];obtain ⟨y,h1,h2⟩:=hv.get hj;exact ⟨y,by rw [<-h1];congr 1;omega,h2⟩
           . rename_i hout;rw [if_neg (by omega)];exact hpost j v hj
       . cases h
     . rename_i q cc hloc;obtain ⟨z,hz,hz0,hsp⟩:=xQ hloc hr hx;cases hu:yO ks t q cc vs with
       | none=>simp [hu] at h
       | some t'=>
         simp [hu] at h;obtain ⟨rfl,rfl⟩:=h;obtain ⟨_,hzn⟩:=zH hz (show (E.lit m).den I g.env=some (.i m) from rfl) hp;rw [show p.base+x.toNat*s+k=p.base+(pre.length+(z.toNat*ks.length+cc)) by omega];obtain ⟨_,_,_,_,f0,_,_,hf0,_⟩:=hm.blk _ _ hb;obtain ⟨f',h4,h5,h6,h7⟩:=kI hz hu hv hf0;have Kg:=Nat.mul_le_mul_right ks.length (show z.toNat+1<=m by omega);rw [Nat.add_mul,Nat.one_mul] at Kg
         have hvk:vs=[]\/cc+vs.length<=ks.length:=by
           cases hvs:vs with
           | nil=>exact .inl rfl
           | cons _ _=>right;rw [hvs] at h5;simp at h5 ⊢;omega
         refine Qc (o:=pre.length+(z.toNat*ks.length+cc)) hm hb hφ hv mX (by
           rcases hvk with h0 | h0
           . exact .inl h0
           . refine .inr ⟨[],trivial,by omega,fun j hj=>.inr (.inl ⟨z.toNat,cc+j,ks[cc+j]'(by omega),by omega,List.getElem?_eq_getElem _,by omega⟩)⟩)
           fun c c' f hf hpre hrow hpost hc'=>⟨f',h4,rfl,fun j v hj=>?_,fun r j kk hr' hj=>?_,fun j v hj=>?_⟩
         . have:=(List.getElem?_eq_some_iff.1 hj).1;rw [hc',if_neg (by omega)];exact hpre j v hj
         . have e:f=f0:=by rw [hf0] at hf;simp at hf;exact hf.symm
           subst e;have hjl:j<ks.length:=(List.getElem?_eq_some_iff.1 hj).1;rw [hc'];by_cases hrx:r=z.toNat
           . subst hrx;by_cases hjk:cc<=j/\j<cc+vs.length
             . rw [if_pos (by omega)];have hlt:j - cc<xs.length:=by omega
               obtain ⟨c2,h8,h9⟩:=h6 (j - cc) _ (List.getElem?_eq_getElem hlt);rw [show cc+(j - cc)=j by omega] at h8 h9;rw [h8] at hj;simp at hj;subst hj;rw [Int.toNat_of_nonneg hz0];exact ⟨_,by rw [<-List.getElem?_eq_getElem hlt];congr 1;omega,h9⟩
             . rw [if_neg (by omega),h7 _ j (by omega)];exact hrow _ j kk hr' hj
           . have hne:¬(pre.length+(z.toNat*ks.length+cc)<=pre.length+(r*ks.length+j)/\pre.length+(r*ks.length+j)<pre.length+(z.toNat*ks.length+cc)+xs.length):=by
               rintro ⟨ha,hb'⟩;rcases hvk with h0 | hvk
               . subst h0;simp at hlen;omega
               rcases Nat.lt_or_gt_of_ne hrx with hlt | hgt
               . have:=Nat.mul_le_mul_right ks.length (show r+1<=z.toNat from hlt);rw [Nat.add_mul,Nat.one_mul] at this;omega
               . have:=Nat.mul_le_mul_right ks.length (show z.toNat+1<=r from hgt);rw [Nat.add_mul,Nat.one_mul] at this;omega
             rw [if_neg hne,h7 _ j (.inl (by omega))];exact hrow r j kk hr' hj
         . have hb2:cc+vs.length<=ks.length\/xs.length=0:=by
             rcases hvk with h0 | h0
             . right;subst h0;simp at hlen;omega
             . exact .inl h0
           rw [hc',if_neg (by omega)];exact hpost j v hj
     . cases h
   . rename_i ks t len hE l nl hb;split at h
     . rename_i hc;obtain ⟨rfl,hll,hkl⟩:=hc;obtain ⟨f,n,m,hf,Q5,hhE,hn0,hrow⟩:=hm.blk _ _ hb;split at h
       . rename_i hrh;subst hrh;simp only [Option.some.injEq,Prod.mk.injEq] at h;obtain ⟨rfl,rfl⟩:=h;rw [hr] at hhE;cases hhE;obtain ⟨hx0,hxn⟩:=zH hr Q5 hp;rcases hrow with ⟨p',c,T,fr,hp',hh,hcs,hch,hwr⟩ | ⟨_,hn,_⟩
         case inr=>omega
         rw [hφ] at hp';cases hp';obtain ⟨hfr,hsize,htot⟩:=hwr rfl;have Kg:(x.toNat+1)*ks.length<=p.tot:=Nat.le_trans (Nat.mul_le_mul_right _ (by omega)) htot;rw [Nat.add_mul,Nat.one_mul] at Kg;have hst:=ko (P:=P) p.blk (p.base+x.toNat*ks.length+k) T xs 0 c w hh hfr (by omega) mX
         refine ⟨_,hst,hm.write hb rfl hφ (by simp) (fun i hi=>setRow_other _ _ _ _ hi)
           ⟨f,n,x,hf,Q5,hr,hn0,.inl ⟨p,_,T,fr,hφ,setRow_heap _ _ _ _ _ _ hh,fun r' j ck hr' hne hj=>?_,fun _ _ j v hj=>?_,fun _=>⟨by
             rcases hfr with h | h
             . exact .inl h
             . right;simp;omega,?_,htot⟩⟩⟩⟩
         . have hjlt:j<ks.length:=(List.getElem?_eq_some_iff.1 hj).1;simp only [Nat.add_zero,List.getElem?_toArray];rw [jd _ _ _ (by simp;omega),if_neg (aO (by omega) hjlt (by have:=hne rfl;omega))];simpa using hcs r' j ck hr' hne hj
         . rw [xP vs l _ (by omega)] at hj;simp only [Nat.add_zero,List.getElem?_toArray];rw [jd _ _ _ (by simp;omega)];split at hj
           . rename_i hin;rw [if_pos (by omega)];obtain ⟨y,hy,hy'⟩:=hv.get hj;exact ⟨y,by rw [<-hy];congr 1;omega,hy'⟩
           . rename_i hout;rw [if_neg (by omega)];obtain ⟨y,hy,hy'⟩:=hch hx0 hxn j v hj;exact ⟨y,by simpa using hy,hy'⟩
         . simp;omega
       . cases hu:yO ks t r k vs with
         | none=>simp [hu] at h
         | some t'=>
           simp only [hu,Option.map_some,Option.some.injEq,Prod.mk.injEq] at h;obtain ⟨rfl,rfl⟩:=h
           have hxm:x≠m:=fun he=>by
             obtain ⟨z,hz,hz0⟩:=hp _ (List.mem_cons_self ..);rw [qy hr hhE] at hz;cases hz;simp [BO.ev,he] at hz0
           obtain ⟨hx0,hxn⟩:=zH hr Q5 fun q hq=>hp q (List.mem_cons_of_mem _ hq);rcases hrow with ⟨p',c,T,fr,hp',hh,hcs,hch,hwr⟩ | ⟨_,hn,_⟩
           case inr=>omega
           rw [hφ] at hp';cases hp';obtain ⟨hfr,hsize,htot⟩:=hwr rfl;obtain ⟨f',h4,h5,h6,h7⟩:=kI hr hu hv hf;have Kg:(x.toNat+1)*ks.length<=p.tot:=Nat.le_trans (Nat.mul_le_mul_right _ (by omega)) htot;rw [Nat.add_mul,Nat.one_mul] at Kg;have hst:=ko (P:=P) p.blk (p.base+x.toNat*ks.length+k) T xs 0 c w hh hfr (by omega) mX
           refine ⟨_,hst,hm.write hb rfl hφ (by simp) (fun i hi=>setRow_other _ _ _ _ hi)
             ⟨f',n,m,h4,Q5,hhE,hn0,.inl ⟨p,_,T,fr,hφ,setRow_heap _ _ _ _ _ _ hh,fun r' j ck hr' hne hj=>?_,fun hm0 hmn j v hj=>?_,fun _=>⟨by
               rcases hfr with h | h
               . exact .inl h
               . right;simp;omega,?_,htot⟩⟩⟩⟩
           . have hjlt:j<ks.length:=(List.getElem?_eq_some_iff.1 hj).1;simp only [Nat.add_zero,List.getElem?_toArray];rw [jd _ _ _ (by simp;omega)];by_cases hrx:r'=x.toNat
             . subst hrx;by_cases hjk:k<=j/\j<k+vs.length
               . rw [if_pos (by omega)];have hlt:j - k<xs.length:=by omega
                 obtain ⟨c2,h8,h9⟩:=h6 (j - k) _ (List.getElem?_eq_getElem hlt);rw [show k+(j - k)=j by omega] at h8 h9;rw [h8] at hj;simp at hj;subst hj;rw [Int.toNat_of_nonneg hx];exact ⟨_,by rw [<-List.getElem?_eq_getElem hlt];congr 1;omega,h9⟩
               . rw [if_neg (by omega)];rw [h7 _ j (by omega)];simpa using hcs x.toNat j ck hr' hne hj
             . rw [if_neg (aO (by omega) hjlt hrx),h7 _ j (.inl (by omega))];simpa using hcs r' j ck hr' hne hj
           . by_cases hjlt:j<ks.length
             . simp only [Nat.add_zero,List.getElem?_toArray];rw [jd _ _ _ (by simp;omega),if_neg (aO (by omega) hjlt (by omega))];obtain ⟨y,hy,hy'⟩:=hch hm0 hmn j v hj;exact ⟨y,by simpa using hy,hy'⟩
             . have:=(List.getElem?_eq_some_iff.1 hj).1;omega
           . simp;omega
     . cases h
   . cases h
end Go.Sx
end
noncomputable section
namespace Go.Sx
open Go
variable {A:Amb} {I:Itp} {P:Program} {g:G} {X:Nat->Prop} {ts:qO} {a:Act} {M:Mem} {w:World}
theorem qX.oQ {M':Mem} {x:Blk} (h:qX A I P g M w) (hs:∀b y,get M' b=some y->get M b=some y)
   (hx:jN I P (g.lay none) g.nb (fun i=>w.heap[i]?) x) (hnf:x.wF=false:=by rfl):qX A I P (g.lay none) ((g.nb,x)::M') w:=by
 have hle:=g.qH none
 have hold:∀b q,(g.lay none).φ b=some q->g.φ b=some q/\b≠g.nb:=fun b q hq=>by
   by_cases hb:b=g.nb
   . subst hb;simp at hq
   . exact ⟨by simpa [G.lay,hb] using hq,hb⟩
 have hcase:∀b y,get ((g.nb,x)::M') b=some y->(b=g.nb/\y=x)\/(b≠g.nb/\get M b=some y):=fun b y hy=>by
   simp only [qQ] at hy;by_cases hb:g.nb=b
   . rw [if_pos hb] at hy;simp at hy;exact .inl ⟨hb.symm,hy.symm⟩
   . rw [if_neg hb] at hy;exact .inr ⟨fun e=>hb e.symm,hs b y hy⟩
 refine ⟨G.J4 h.wf _,fun b y hy=>?_,fun b y hy=>?_,fun b c y z q r hy hz hwy hq hr e=>?_,fun b q hq=>h.bnd b q (hold b q hq).1,fun b y q hy hw hq=>?_,h.size,h.keep,h.same,fun b y o hy hr=>?_,fun o c hz=>?_⟩
 . rcases hcase b y hy with ⟨rfl,rfl⟩ | ⟨hb,hy'⟩
   . exact hx
   . exact (h.blk b y hy').le hle h.wf (h.lt b y hy')
 . rcases hcase b y hy with ⟨rfl,rfl⟩ | ⟨hb,hy'⟩
   . simp [G.lay]
   . have:=h.lt b y hy';simp [G.lay];omega
 . obtain ⟨hq',hb⟩:=hold b q hq;obtain ⟨hr',hc⟩:=hold c r hr;rcases hcase b y hy with ⟨rfl,rfl⟩ | ⟨_,hy'⟩
   . exact absurd rfl hb
   . rcases hcase c z hz with ⟨rfl,rfl⟩ | ⟨_,hz'⟩
     . exact absurd rfl hc
     . exact h.inj b c y z q r hy' hz' hwy hq' hr' e
 . obtain ⟨hq',hb⟩:=hold b q hq;rcases hcase b y hy with ⟨rfl,rfl⟩ | ⟨_,hy'⟩
   . exact absurd rfl hb
   . exact h.own b y q hy' hw hq'
 . rcases hcase b y hy with ⟨rfl,rfl⟩ | ⟨hb,hy'⟩
   . rw [hr.fam] at hnf;cases hnf
   . obtain ⟨h1,h2,h3,h4⟩:=h.fam b y o hy' (zV.le hle (h.lt b y hy') (h.blk b y hy') (fun _ _=>rfl) hr);refine ⟨h1,h2,fun c z q hc hq=>?_,fun c z hc hrc=>?_⟩
     . obtain ⟨hq',hc'⟩:=hold c q hq;rcases hcase c z hc with ⟨rfl,rfl⟩ | ⟨_,hz⟩
       . exact absurd rfl hc'
       . exact h3 c z q hz hq'
     . rcases hcase c z hc with ⟨rfl,rfl⟩ | ⟨_,hz⟩
       . rw [hrc.fam] at hnf;cases hnf
       . exact h4 c z hz (zV.le hle (h.lt c z hz) (h.blk c z hz) (fun _ _=>rfl) hrc)
 . obtain ⟨h1,h2,h3,h4,h5⟩:=h.frz o c hz;refine ⟨h1,h2,h3,fun b y q hy hw hq=>?_,fun b y hy hr=>?_⟩
   . obtain ⟨hq',hb⟩:=hold b q hq;rcases hcase b y hy with ⟨rfl,rfl⟩ | ⟨_,hy'⟩
     . exact absurd rfl hb
     . exact h4 b y q hy' hw hq'
   . rcases hcase b y hy with ⟨rfl,rfl⟩ | ⟨_,hy'⟩
     . rw [hr.fam] at hnf;cases hnf
     . exact h5 b y hy' (zV.le hle (h.lt b y hy') (h.blk b y hy') (fun _ _=>rfl) hr)
theorem qX.rename {b:Nat} {x y:Blk} {p:PB} (h:qX A I P g M w) (hb:get M b=some x) (hp:g.φ b=some p) (hw:x.wr=true)
   (hy:jN I P (g.lay (some p)) g.nb (fun i=>w.heap[i]?) y) (hnf:y.wF=false:=by rfl):qX A I P (g.lay (some p)) ((g.nb,y)::del b M) w:=by
 have hle:=g.qH (some p);have hold:∀c q,c≠g.nb->(g.lay (some p)).φ c=some q->g.φ c=some q:=fun c q hc hq=>by simpa [G.lay,hc] using hq
 have hcase:∀c z,get ((g.nb,y)::del b M) c=some z->(c=g.nb/\z=y)\/(c≠g.nb/\c≠b/\get M c=some z):=fun c z hz=>by
   simp only [qQ] at hz;by_cases hc:g.nb=c
   . rw [if_pos hc] at hz;simp at hz;exact .inl ⟨hc.symm,hz.symm⟩
   . rw [if_neg hc,yT] at hz;split at hz
     . cases hz
     . rename_i hbc;exact .inr ⟨fun e=>hc e.symm,fun e=>hbc e.symm,hz⟩
 refine ⟨G.J4 h.wf _,fun c z hz=>?_,fun c z hz=>?_,fun c d z u q r hz hu Kv hq hr e=>?_,fun c q hq=>?_,fun c z q hz hwz hq=>?_,h.size,h.keep,h.same,fun c z o hz hr=>?_,fun o cs hz=>?_⟩
 . rcases hcase c z hz with ⟨rfl,rfl⟩ | ⟨_,_,hz'⟩
   . exact hy
   . exact (h.blk c z hz').le hle h.wf (h.lt c z hz')
 . rcases hcase c z hz with ⟨rfl,rfl⟩ | ⟨_,_,hz'⟩
   . simp [G.lay]
   . have:=h.lt c z hz';simp [G.lay];omega
 . rcases hcase c z hz with ⟨rfl,rfl⟩ | ⟨hc,hcb,hz'⟩ <;> rcases hcase d u hu with ⟨rfl,rfl⟩ | ⟨hd,hdb,hu'⟩
   . rfl
   . simp at hq;subst hq;exact absurd (h.inj b d x u p r hb hu' hw hp (hold d r hd hr) e) (fun e=>hdb e.symm)
   . simp at hr;subst hr;exact absurd (h.inj b c x z p q hb hz' hw hp (hold c q hc hq) e.symm).symm hcb
   . exact h.inj c d z u q r hz' hu' Kv (hold c q hc hq) (hold d r hd hr) e
 . by_cases hc:c=g.nb
   . subst hc;simp at hq;subst hq;exact h.bnd b p hp
   . exact h.bnd c q (hold c q hc hq)
 . rcases hcase c z hz with ⟨rfl,rfl⟩ | ⟨hc,_,hz'⟩
   . simp at hq;subst hq;exact h.own b x p hb hw hp
   . exact h.own c z q hz' hwz (hold c q hc hq)
 . rcases hcase c z hz with ⟨rfl,rfl⟩ | ⟨hc,_,hz'⟩
   . rw [hr.fam] at hnf;cases hnf
   . obtain ⟨h1,h2,h3,h4⟩:=h.fam c z o hz' (zV.le hle (h.lt c z hz') (h.blk c z hz') (fun _ _=>rfl) hr);refine ⟨h1,h2,fun d u q hd hq=>?_,fun d u hd hrd=>?_⟩
     . rcases hcase d u hd with ⟨rfl,rfl⟩ | ⟨hd',_,hu⟩
       . simp at hq;subst hq;exact h3 b x p hb hp
       . exact h3 d u q hu (hold d q hd' hq)
     . rcases hcase d u hd with ⟨rfl,rfl⟩ | ⟨_,_,hu⟩
       . rw [hrd.fam] at hnf;cases hnf
       . exact h4 d u hu (zV.le hle (h.lt d u hu) (h.blk d u hu) (fun _ _=>rfl) hrd)
 . obtain ⟨h1,h2,h3,h4,h5⟩:=h.frz o cs hz;refine ⟨h1,h2,h3,fun d u q hd hwd hq=>?_,fun d u hd hr=>?_⟩
   . rcases hcase d u hd with ⟨rfl,rfl⟩ | ⟨hd',_,hu⟩
     . simp at hq;subst hq;exact h4 b x p hb hw hp
     . exact h4 d u q hu hwd (hold d q hd' hq)
   . rcases hcase d u hd with ⟨rfl,rfl⟩ | ⟨_,_,hu⟩
     . rw [hr.fam] at hnf;cases hnf
     . exact h5 d u hu (zV.le hle (h.lt d u hu) (h.blk d u hu) (fun _ _=>rfl) hr)
theorem qW.lay {s:St} (h:qW A I P X g s a w) {p:Option PB} {M':Mem} {w':World} (hm:qX A I P (g.lay p) M' w') :
   qW A I P X (g.lay p) { s with mem:=M',nb:=s.nb+1 } a w':=
 ⟨hm,h.t.le (g.qH p) h.m.wf,h.nt,h.d.le (g.qH p) h.m.wf,h.nv,by simp [G.lay,h.nb]⟩
theorem qW.mem {s:St} (h:qW A I P X g s a w) {M':Mem} {w':World} (hm:qX A I P g M' w'):qW A I P X g { s with mem:=M' } a w':=
 ⟨hm,h.t,h.nt,h.d,h.nv,h.nb⟩
structure zY (A:Amb) (I:Itp) (P:Program) (X:Nat->Prop) (g:G) (a:Act) (w:World) (o:Oper) (v:AV) (s1:St):Prop where
 run:∃(x:Value) (w':World) (g':G),((execOp a.eval o).run P w=.ok (.value x) w'\/((execOp a.eval o).run P w=.ok .skip w'/\x=Go.undef))/\
   g.Le g'/\g'.env=g.env/\Rel I g' v x/\qW A I P X g' s1 a w'
theorem vW {p:PB} {l:List AV} {cs:Array Value} {T:TypeId} {H:Nat->Option Obj} {b:Nat} {fr:Nat × Nat} (hp:g.φ b=some p) (h0:p.base=0) (hH:H p.blk=some (.cells cs T fr))
   (hl:qw I g l cs.toList) (hfr:fr=(0,0)) (htot:p.tot<=cs.size):jN I P g b H (.cells l true):=
 ⟨p,cs,T,fr,hp,hH,fun i v hv=>by
   obtain ⟨x,h1,h2⟩:=hl.get hv;exact ⟨x,by rw [h0,Nat.zero_add];simpa using h1,h2⟩,fun _=>⟨hfr,by omega⟩⟩
theorem heap_alloc_new (w:World) (o:Obj):(w.alloc o).heap[w.heap.size]?=some o:=by
 show (w.heap.push o)[w.heap.size]?=some o;simp
theorem FY {s:St} {o:Oper} {t:TypeId} (hs:qW A I P X g s a w) (hop:o.op=.alloc t) {z:AV} (hz:zJ P t=some z) :
   zY A I P X g a w o (.ptr s.nb (.lit 0) 0 0) (zm s (.cells z.cells true)):=by
 obtain ⟨ti,zx,_,_,hzr,zM⟩:=zC hz;let p:PB:={ blk:=w.heap.size,base:=0,tot:=0 };refine ⟨.pointer (some ⟨w.heap.size,0,none⟩),w.alloc (.cells zx.cells t),g.lay (some p),.inl ?_,g.qH _,rfl,?_,?_⟩
 . simp only [execOp,hop,Instr.alloc,Sem.run_bind,hzr,Result.andThen,newVar,newRow,run_newObj_alloc,Sem.run_pure]
 . exact ⟨0,p,rfl,Int.le_refl _,by rw [<-hs.nb];exact G.zh g (some p),by simp [p]⟩
 . have hm:=hs.m.alloc (M':=s.mem) (o:=.cells zx.cells t) (x:=.cells z.cells true) (p:=p) (fun _ _ h=>h) rfl
     (vW (G.zh g (some p)) rfl (heap_alloc_new _ _) (zM I _).2 rfl (Nat.zero_le _))
   rw [hs.nb] at hm;exact hs.lay hm
theorem Ww {s:St} {o:Oper} {t u:TypeId} (hs:qW A I P X g s a w) (hop:o.op=.alloc t) (hz:zJ P t=some (.agg [.wP,.qJ])) :
   zY A I P X g a w o (.ptr (s.nb+1) (.lit 0) 0 0) { s with mem:=(s.nb+1,.bld t (.lit 0) s.nb)::(s.nb,.byt u (.lit 0))::s.mem,nb:=s.nb+2 }:=by
 obtain ⟨ti,zx,_,_,hzr,zM⟩:=zC hz;have hz0:zX 0=[]:=rfl;let p:PB:={ blk:=w.heap.size,base:=0,tot:=0 }
 have hs1:qW A I P X (g.lay none) { s with mem:=(s.nb,.byt u (.lit 0))::s.mem,nb:=s.nb+1 } a w:=by
   refine hs.lay ?_;rw [<-hs.nb];exact hs.m.oQ (fun _ _ h=>h) ⟨0,rfl,.inl ⟨by simp [G.lay],hz0⟩⟩
 obtain ⟨cs,hcs,hr⟩:=(zM I g).1
 have hc2:cs=#[.pointer none,.slice none 0 0]:=by
   obtain ⟨l⟩:=cs
   match l,hr with
   | [x,y],⟨h1,h2,_⟩=>simp only [Rel] at h1 h2;rw [h1,h2]
   | [],h=>simp [qw] at h
   | [_],h=>simp [qw] at h
   | _::_::_::_,h=>simp [qw] at h
 refine ⟨.pointer (some ⟨w.heap.size,0,none⟩),w.alloc (.cells zx.cells t),(g.lay none).lay (some p),.inl ?_,(g.qH _).trans ((g.lay none).qH _),rfl,?_,?_⟩
 . simp only [execOp,hop,Instr.alloc,Sem.run_bind,hzr,Result.andThen,newVar,newRow,run_newObj_alloc,Sem.run_pure]
 . exact ⟨0,p,rfl,Int.le_refl _,by rw [show s.nb+1=(g.lay none).nb from hs1.nb.symm];exact G.zh (g.lay none) (some p),by simp [p]⟩
 . have hm:=hs1.m.alloc (M':=(s.nb,.byt u (.lit 0))::s.mem) (o:=.cells zx.cells t) (x:=.bld t (.lit 0) s.nb) (p:=p) (fun _ _ h=>h) rfl
     ⟨p,0,.pointer none,.slice none 0 0,G.zh (g.lay none) (some p),rfl,by rw [<-hc2,show zx.cells=cs by rw [hcs];rfl];exact heap_alloc_new _ _,rfl,.inl rfl,.inl ⟨rfl,hz0⟩⟩
   rw [hs1.nb] at hm;exact hs1.lay hm
theorem TS {s:St} {o:Oper} {t:TypeId} {x:Operand} (hs:qW A I P X g s a w) (hop:o.op=.box t x) {v:AV} (hv:Rel I g v (a.eval x)) (hne:v≠.any) (hnb:v.mW=false) :
   zY A I P X g a w o (.ptr s.nb (.lit 0) 0 0) (zm s (.cells v.cells true)):=by
 let p:PB:={ blk:=w.heap.size,base:=0,tot:=0 };refine ⟨.pointer (some ⟨w.heap.size,0,none⟩),w.alloc (.cells (a.eval x).cells t),g.lay (some p),.inl ?_,g.qH _,rfl,?_,?_⟩
 . simp only [execOp,hop,Instr.box,Sem.run_bind,Result.andThen,newVar,newRow,run_newObj_alloc,Sem.run_pure]
 . exact ⟨0,p,rfl,Int.le_refl _,by rw [<-hs.nb];exact G.zh g (some p),by simp [p]⟩
 . have hm:=hs.m.alloc (M':=s.mem) (o:=.cells (a.eval x).cells t) (x:=.cells v.cells true) (p:=p) (fun _ _ h=>h) rfl
     (vW (G.zh g (some p)) rfl (heap_alloc_new _ _) ((mH hv hne hnb).le (g.qH _) hs.m.wf) rfl (Nat.zero_le _))
   rw [hs.nb] at hm;exact hs.lay hm
theorem aj {p:PB} {l m:List AV} {ks:List CK} {t:E} {n:Nat} {cs:Array Value} {xs ys zs:List Value} {f:Int->Nat->Int} {T:TypeId} {H:Nat->Option Obj} {b:Nat} (hp:g.φ b=some p) (h0:p.base=0)
   (hH:H p.blk=some (.cells cs T (0,0))) (hcs:cs.toList=xs++ys++zs) (ht:t.den I g.env=some (.t f)) (hl:qw I g l xs) (hm:qw I g m zs) (hyl:ys.length=n*ks.length)
   (hys:∀(r j:Nat) (k:CK),r<n->ks[j]?=some k->k.at g (f r j) ys[r*ks.length+j]?):jN I P g b H (.big l ks t n m true):=by
 have hll:=hl.length;refine ⟨p,cs,T,(0,0),f,hp,hH,ht,fun i v hv=>?_,fun r j k hr hj=>?_,fun i v hv=>?_,fun _=>rfl⟩
 . obtain ⟨x,h1,h2⟩:=hl.get hv;have hi:=(List.getElem?_eq_some_iff.1 h1).1;refine ⟨x,?_,h2⟩;rw [h0,Nat.zero_add,<-Array.getElem?_toList,hcs,List.append_assoc,List.getElem?_append_left hi,h1]
 . have hjl:j<ks.length:=(List.getElem?_eq_some_iff.1 hj).1;have hlt:=Nat.mul_le_mul_right ks.length (show r+1<=n from hr);rw [Nat.add_mul,Nat.one_mul] at hlt;rw [h0,Nat.zero_add,<-Array.getElem?_toList,hcs,List.append_assoc,List.getElem?_append_right (by omega),List.getElem?_append_left (by omega),show l.length+(r*ks.length+j) - xs.length=r*ks.length+j by omega];exact hys r j k hr hj
 . obtain ⟨x,h1,h2⟩:=hm.get hv;refine ⟨x,?_,h2⟩;rw [h0,Nat.zero_add,<-Array.getElem?_toList,hcs,List.getElem?_append_right (by simp;omega),<-h1]
   congr 1;simp;omega
theorem Wy {s:St} {o:Oper} {bg:Big} (hs:qW A I P X g s a w) (hop:o.op=.alloc bg.t) {l m:List AV} (hz:yP P bg=some (l,m)) :
   zY A I P X g a w o (.ptr s.nb (.lit 0) 0 0) (zm s (.big l bg.ks .zt bg.n m true)):=by
 obtain ⟨ti,cs,xs,ys,zs,_,_,hcs,hzr,zM,hyl,hys⟩:=bq hz;let p:PB:={ blk:=w.heap.size,base:=0,tot:=0 };refine ⟨.pointer (some ⟨w.heap.size,0,none⟩),w.alloc (.cells cs bg.t),g.lay (some p),.inl ?_,g.qH _,rfl,?_,?_⟩
 . simp only [execOp,hop,Instr.alloc,Sem.run_bind,hzr,Result.andThen,newVar,newRow,run_newObj_alloc,Sem.run_pure,Value.cells]
 . exact ⟨0,p,rfl,Int.le_refl _,by rw [<-hs.nb];exact G.zh g (some p),by simp [p]⟩
 . have hm:=hs.m.alloc (M':=s.mem) (o:=.cells cs bg.t) (x:=.big l bg.ks .zt bg.n m true) (p:=p) (fun _ _ h=>h) rfl
     (aj (f:=fun _ _=>0) (G.zh g (some p)) rfl (heap_alloc_new _ _) hcs rfl (zM I _).1 (zM I _).2 hyl fun r j k a b=>CK.at0 (hys r j k a b))
   rw [hs.nb] at hm;exact hs.lay hm
theorem Bp {s:St} {o:Oper} {t:TypeId} {x:Operand} (hs:qW A I P X g s a w) (hop:o.op=.box t x) {l m:List AV} {ks:List CK} {e:E} {n:Nat} (hv:Rel I g (.big l ks e n m) (a.eval x)) :
   zY A I P X g a w o (.ptr s.nb (.lit 0) 0 0) (zm s (.big l ks e n m true)):=by
 obtain ⟨f,xs,ys,zs,h1,h2,h3,h4,h5,h6⟩:=hv;let p:PB:={ blk:=w.heap.size,base:=0,tot:=0 };refine ⟨.pointer (some ⟨w.heap.size,0,none⟩),w.alloc (.cells (a.eval x).cells t),g.lay (some p),.inl ?_,g.qH _,rfl,?_,?_⟩
 . simp only [execOp,hop,Instr.box,Sem.run_bind,Result.andThen,newVar,newRow,run_newObj_alloc,Sem.run_pure]
 . exact ⟨0,p,rfl,Int.le_refl _,by rw [<-hs.nb];exact G.zh g (some p),by simp [p]⟩
 . have hm:=hs.m.alloc (M':=s.mem) (o:=.cells (a.eval x).cells t) (x:=.big l ks e n m true) (p:=p) (fun _ _ h=>h) rfl
     (aj (G.zh g (some p)) rfl (heap_alloc_new _ _) (by rw [h2];rfl) (E.qE (g.qH _) h1) (h3.le (g.qH _) hs.m.wf) (h4.le (g.qH _) hs.m.wf) h5 fun r j k a b=>CK.Zw (g.qH _) hs.m.wf (h6 r j k a b))
   rw [hs.nb] at hm;exact hs.lay hm
theorem Dk {s:St} {o:Oper} {t:TypeId} {y x:Operand} (hs:qW A I P X g s a w) (hop:o.op=.store t y x) {b z k n:Nat} {r:E} {v:AV} {M':Mem} {ps:List PE}
   (hy:Rel I g (.ptr b r z k) (a.eval y)) (hv:Rel I g v (a.eval x)) (hne:v≠.any) (hnb:v.mW=false) (hn:qo P t=some n) (hl:v.cells.length=n)
   (h:storeAt s.mem b r z k v.cells=some (M',ps)) (hp:∀q∈ps,q.den I g.env) :
   zY A I P X g a w o .undef { s with mem:=M' }:=by
 obtain ⟨m,p,h2,h3,h4,h5⟩:=hy;have hc:=mH hv hne hnb;obtain ⟨w',h6,h7⟩:=rV hs.m h hp h2 h3 h4 hc;refine ⟨Go.undef,w',g,.inr ⟨?_,rfl⟩,.refl _,rfl,rfl,hs.mem h7⟩;have hsz:(a.eval x).cells.size=n:=by rw [<-hl];simpa using hc.length.symm
 simp only [execOp,hop,h5,Instr.storeAt,Instr.sureAddr,Sem.run_bind,Sem.run_pure,Result.andThen,storeVar,qD hn,hsz,ne_eq,not_true_eq_false,if_false,h6]
theorem xD:∀{l:List AV} {ks:List CK},jw l=some ks->ks.length=l.length
 | [],ks,h=>by simp [jw] at h;subst h;rfl
 | v::l,ks,h=>by
   simp only [jw] at h;split at h
   . rename_i k ks' h1 h2;simp at h;subst h;simp [xD h2]
   . cases h
theorem uM {ks:List CK}:∀(n:Nat) {vs:List AV} {xs:List Value} {t:E},rowsOf ks n vs=some t->qw I g vs xs->vs.length=n*ks.length->
   ∃f,t.den I g.env=some (.t f)/\∀(r j:Nat) (k:CK),r<n->ks[j]?=some k->k.at g (f r j) xs[r*ks.length+j]?
 | 0,vs,xs,t,h,hv,hl=>by
   simp only [rowsOf] at h;split at h
   . simp at h;subst h;exact ⟨_,rfl,fun r j k hr=>by omega⟩
   . cases h
 | m+1,vs,xs,t,h,hv,hl=>by
   simp only [rowsOf] at h;split at h
   . rename_i t0 h0;have hl0:(vs.take (m*ks.length)).length=m*ks.length:=by simp [hl,Nat.add_mul]
     obtain ⟨f,h1,h2⟩:=uM m h0 (hv.take _) hl0;obtain ⟨f',h3,h4,h5,h6⟩:=kI (x:=(m:Int)) rfl h (hv.drop _) h1;refine ⟨f',h3,fun r j k hr hj=>?_⟩;have hjlt:j<ks.length:=(List.getElem?_eq_some_iff.1 hj).1;by_cases hrm:r=m
     . subst hrm;have hxl:xs.length=(r+1)*ks.length:=by rw [<-hv.length];exact hl
       have hlt:j<(xs.drop (r*ks.length)).length:=by simp [hxl,Nat.add_mul];omega
       obtain ⟨c,h7,h8⟩:=h5 j _ (List.getElem?_eq_getElem hlt);rw [Nat.zero_add] at h7 h8;rw [h7] at hj;simp at hj;subst hj;exact ⟨_,by rw [<-List.getElem?_eq_getElem hlt,List.getElem?_drop],h8⟩
     . have hlt:r<m:=by omega
       have:=h2 r j k hlt hj;rw [List.getElem?_take] at this;have hrow:=Nat.mul_le_mul_right ks.length (show r+1<=m from hlt);rw [Nat.add_mul,Nat.one_mul] at hrow;rw [if_pos (by omega)] at this;rw [h6 r j (.inl (by omega))];exact this
   . cases h
theorem vL (zs:List AV):∀n,(rA n zs).length=n*zs.length
 | 0=>by simp [rA]
 | n+1=>by simp [rA,vL zs n,Nat.add_mul];omega
theorem Jg (zs:List AV):∀n i,i<n*zs.length->(rA n zs)[i]?=zs[i % zs.length]?
 | 0,i,h=>by omega
 | n+1,i,h=>by
   simp only [rA];by_cases hi:i<zs.length
   . rw [List.getElem?_append_left hi,Nat.mod_eq_of_lt hi]
   . rw [List.getElem?_append_right (by omega),Jg zs n _ (by rw [Nat.add_mul,Nat.one_mul] at h;omega)]
     congr 1
     rw [Nat.mod_eq_sub_mod (a:=i) (by omega)]
theorem Wx {z:AV} {x:Value} {sz n:Nat} (h:qw I g z.cells x.cells.toList) (hsz:z.cells.length=sz) :
   qw I g (rA n z.cells) ((Array.range (n*sz)).map (fun i=>x.cells[i % x.cells.size]!)).toList:=by
 have hxs:x.cells.size=sz:=by rw [<-hsz];simpa using h.length.symm
 refine qw.mk (by simp [vL,hsz]) fun i v y h1 h2=>?_
 have hi:i<n*sz:=by
   have:=(List.getElem?_eq_some_iff.1 h1).1;rw [vL,hsz] at this;exact this
 rw [Jg _ _ _ (by rw [hsz];exact hi)] at h1;obtain ⟨y',h3,h4⟩:=h.get h1
 have h2':((List.range (n*sz)).map fun i=>x.cells[i % x.cells.size]!)[i]?=some y:=by
   have:((Array.range (n*sz)).map (fun i=>x.cells[i % x.cells.size]!)).toList=(List.range (n*sz)).map fun i=>x.cells[i % x.cells.size]!:=by simp
   rw [<-this];exact h2
 obtain ⟨_,rfl⟩:=kX h2';have h5:x.cells[i % x.cells.size]?=some y':=by rw [hxs,<-hsz];simpa using h3
 rw [getElem!_def,h5];exact h4
theorem cO {p:PB} {ks:List CK} {t len:E} {f:Int->Nat->Int} {n:Nat} {cs:Array Value} {T:TypeId} {H:Nat->Option Obj} {b:Nat} {nl:Bool} (hp:g.φ b=some p) (h0:p.base=0)
   (hH:H p.blk=some (.cells cs T (0,0))) (ht:t.den I g.env=some (.t f)) (hlen:len.den I g.env=some (.i n))
   (hrows:∀(r j:Nat) (k:CK),r<n->ks[j]?=some k->k.at g (f r j) cs[r*ks.length+j]?) (htot:p.tot<=cs.size) (hn:n*ks.length<=p.tot) :
   jN I P g b H (.rows ks t len true nl):=
 ⟨f,n,ht,hlen,by omega,.inl ⟨p,cs,T,(0,0),hp,hH,fun r j k hr hj=>by rw [h0,Nat.zero_add];exact hrows r j k (by simpa using hr) hj,fun _=>⟨.inl rfl,by omega,by simpa using hn⟩⟩⟩
theorem uw {p:PB} {zs:List AV} {n:Nat} {vs:List AV} {cs:Array Value} {T:TypeId} {H:Nat->Option Obj} {b:Nat} (hp:g.φ b=some p) (h0:p.base=0) (htot:p.tot=n*zs.length)
   (hH:H p.blk=some (.cells cs T (0,0))) (hv:qw I g vs cs.toList) (hl:vs.length=n*zs.length):jN I P g b H (vC zs n vs):=by
 have hc:jN I P g b H (.cells vs true):=vW hp h0 hH hv rfl (by have:=hv.length;simp at this;omega);unfold vC;split
 . rename_i ks hk;split
   . exact hc
   . have hkl:=xD hk;split
     . rename_i t ht;obtain ⟨f,h1,h2⟩:=uM n ht hv (by rw [hkl];exact hl);refine cO hp h0 hH h1 rfl (fun r j k hr hj=>?_) ?_ (by rw [htot,hkl];exact Nat.le_refl _)
       . have:=h2 r j k hr hj;simpa using this
       . rw [htot,<-hl,hv.length];simp
     . exact hc
 . exact hc
theorem tN {ts:qO} {o:Oper} {t el:TypeId} {n sz:Nat} {parts:Array (Nat × Operand)} (htr:wG I g X ts a.tmps) (hop:o.op=.buildSlice t n parts)
   (hx:∀t',.tmp t'∈o.op.operands.toList->¬X t') (hu:P.underlying t=some (.slice el)) {z:AV} (hz:zJ P el=some z) (hsz:qo P el=some sz) {ps:List (Nat × AV)}
   (hps:kr ts parts.toList=some ps) (hzl:z.cells.length=sz) (hb:n*sz<=1000) {vs:List AV} (hf:yg (fun i=>some (i*sz,sz)) (rA n z.cells) ps=some vs) :
   ∃ds:Array Value,(execOp a.eval o).run P w=.ok (.value (.slice (some ⟨w.heap.size,0,none⟩) n n)) (w.alloc (.cells ds el))/\qw I g vs ds.toList/\vs.length=n*z.cells.length:=by
 obtain ⟨ti,zx,_,_,hzr,zM⟩:=zC hz;obtain ⟨h1,h2,h3⟩:=wN (a:=a) htr hps fun t' ht'=>hx t' (by rw [hop];simpa [Op.operands] using ht');have hzs:=Wx (n:=n) (zM I g).2 hzl
 have hl:vs.length=n*z.cells.length:=by
   have:∀(ps:List (Nat × AV)) (l m:List AV),yg (fun i=>some (i*sz,sz)) l ps=some m->m.length=l.length:=by
     intro ps
     induction ps with
     | nil=>intro l m h;simp [yg] at h;subst h;rfl
     | cons q ps ih=>
       intro l m h;obtain ⟨i,v⟩:=q;simp only [yg] at h;split at h
       . cases h
       . rw [ih _ _ h,rF]
   rw [this ps _ _ hf,vL]
 obtain ⟨ds,h4,h5⟩:=oH (qs:=parts.toList.map fun x=>(x.1,a.eval x.2)) (by simpa [Function.comp_def] using h1) (by simpa [Function.comp_def] using h2) h3 hzs hf;refine ⟨ds,?_,h5,hl⟩
 . have h4':Instr.fill (fun i=>some (i*sz,sz)) ((Array.range (n*sz)).map (fun i=>zx.cells[i % zx.cells.size]!)) (parts.map fun x=>(x.1,a.eval x.2)).toList=some ds:=by
     rw [<-h4];simp
   simp only [execOp,hop,Instr.buildSlice,Sem.run_bind,run_underlying hu,Result.andThen,qD hsz];rw [if_neg (by omega)];by_cases h0:n*sz=0
   . rw [if_pos h0]
     have qxz:Instr.fill (fun i=>some (i*sz,sz)) ((Array.range (n*sz)).map (fun i=>(#[]:Array Value)[i % (#[]:Array Value).size]!)) (parts.map fun x=>(x.1,a.eval x.2)).toList=some ds:=by
       rw [<-h4',h0];simp [show Array.range 0=#[] from rfl]
     simp only [Sem.run_bind,Sem.run_pure,Result.andThen];rw [qxz];simp only [Sem.run_bind,Result.andThen,newRow,run_newObj_alloc,Sem.run_pure]
   . rw [if_neg h0];simp only [Sem.run_bind,hzr,Sem.run_pure,Result.andThen];rw [h4'];simp only [Sem.run_bind,Result.andThen,newRow,run_newObj_alloc,Sem.run_pure]
theorem QY {zs vs:List AV} {n:Nat}:(vC zs n vs).wF=false:=by
 unfold vC;split
 . split
   . rfl
   . split <;> rfl
 . rfl
theorem Zm {s:St} {o:Oper} {t el:TypeId} {n sz:Nat} {parts:Array (Nat × Operand)} (hs:qW A I P X g s a w) (hop:o.op=.buildSlice t n parts)
   (hx:∀t',.tmp t'∈o.op.operands.toList->¬X t') (hu:P.underlying t=some (.slice el)) {z:AV} (hz:zJ P el=some z) (hsz:qo P el=some sz) {ps:List (Nat × AV)}
   (hps:kr s.tmps parts.toList=some ps) (hzl:z.cells.length=sz) (hb:n*sz<=1000) {vs:List AV} (hf:yg (fun i=>some (i*sz,sz)) (rA n z.cells) ps=some vs) :
   zY A I P X g a w o (if n=0/\(jw z.cells).isNone then .cap0 else .slice s.nb (.lit 0) (.lit n) sz false) (zm s (vC z.cells n vs)):=by
 obtain ⟨ds,hrun,h5,hl⟩:=tN (w:=w) hs.t hop hx hu hz hsz hps hzl hb hf;let p:PB:={ blk:=w.heap.size,base:=0,tot:=n*sz };refine ⟨.slice (some ⟨w.heap.size,0,none⟩) n n,w.alloc (.cells ds el),g.lay (some p),.inl hrun,g.qH _,rfl,?_,?_⟩
 . split
   . rename_i h0;obtain ⟨rfl,_⟩:=h0;exact ⟨_,rfl⟩
   . exact ⟨0,n,rfl,rfl,Int.le_refl _,by omega,.inl ⟨p,n,by rw [<-hs.nb];exact G.zh g (some p),by simp [p],by simp,by simp [p]⟩⟩
 . have hm:=hs.m.alloc (M':=s.mem) (o:=.cells ds el) (x:=vC z.cells n vs) (p:=p) (fun _ _ h=>h) rfl
     (uw (G.zh g (some p)) rfl (by rw [hzl]) (heap_alloc_new _ _) (h5.le (g.qH _) hs.m.wf) hl) QY
   rw [hs.nb] at hm;exact hs.lay hm
end Go.Sx
end
noncomputable section
namespace Go.Sx
open Go
variable {A:Amb} {I:Itp} {P:Program} {g:G} {X:Nat->Prop} {ts:qO} {a:Act} {M:Mem} {w:World}
theorem SK.TG (k:SK) (n:Int):k.ck.val n=k.val n:=by cases k <;> rfl
theorem SK.Bj (k:SK):k.ck.plain=true:=by cases k <;> rfl
theorem qX.see {M':Mem} {x:Blk} {p:Option PB} (h:qX A I P g M w) (hs:∀b y,get M' b=some y->get M b=some y) (hz:∀q,p=some q->∃c,g.fz q.blk=some c)
   (hx:jN I P (g.lay p) g.nb (fun i=>w.heap[i]?) x) (hwx:x.wr=false:=by rfl) (hnf:x.wF=false:=by rfl):qX A I P (g.lay p) ((g.nb,x)::M') w:=by
 have hle:=g.qH p;have hold:∀b q,b≠g.nb->(g.lay p).φ b=some q->g.φ b=some q:=fun b q hb hq=>by simpa [G.lay,hb] using hq
 have hnew:∀q,(g.lay p).φ g.nb=some q->∃c,g.fz q.blk=some c:=fun q hq=>hz q (by simpa using hq)
 have hcase:∀b y,get ((g.nb,x)::M') b=some y->(b=g.nb/\y=x)\/(b≠g.nb/\get M b=some y):=fun b y hy=>by
   simp only [qQ] at hy;by_cases hb:g.nb=b
   . rw [if_pos hb] at hy;simp at hy;exact .inl ⟨hb.symm,hy.symm⟩
   . rw [if_neg hb] at hy;exact .inr ⟨fun e=>hb e.symm,hs b y hy⟩
 refine ⟨G.J4 h.wf _,fun b y hy=>?_,fun b y hy=>?_,fun b c y z q r hy hz' hwy hq hr e=>?_,fun b q hq=>?_,fun b y q hy hw hq=>?_,h.size,h.keep,h.same,fun b y o hy hr=>?_,fun o c hz'=>?_⟩
 . rcases hcase b y hy with ⟨rfl,rfl⟩ | ⟨hb,hy'⟩
   . exact hx
   . exact (h.blk b y hy').le hle h.wf (h.lt b y hy')
 . rcases hcase b y hy with ⟨rfl,rfl⟩ | ⟨hb,hy'⟩
   . simp [G.lay]
   . have:=h.lt b y hy';simp [G.lay];omega
 . rcases hcase b y hy with ⟨rfl,rfl⟩ | ⟨hb,hy'⟩
   . rw [hwx] at hwy;cases hwy
   . rcases hcase c z hz' with ⟨rfl,rfl⟩ | ⟨hc,DU⟩
     . obtain ⟨cs,hcs⟩:=hnew r hr;exact absurd e ((h.frz r.blk cs hcs).2.2.2.1 b y q hy' hwy (hold b q hb hq))
     . exact h.inj b c y z q r hy' DU hwy (hold b q hb hq) (hold c r hc hr) e
 . by_cases hb:b=g.nb
   . subst hb;obtain ⟨cs,hcs⟩:=hnew q hq;exact (h.frz q.blk cs hcs).2.1
   . exact h.bnd b q (hold b q hb hq)
 . rcases hcase b y hy with ⟨rfl,rfl⟩ | ⟨hb,hy'⟩
   . rw [hwx] at hw;cases hw
   . exact h.own b y q hy' hw (hold b q hb hq)
 . rcases hcase b y hy with ⟨rfl,rfl⟩ | ⟨hb,hy'⟩
   . rw [hr.fam] at hnf;cases hnf
   . have hro:=zV.le hle (h.lt b y hy') (h.blk b y hy') (fun _ _=>rfl) hr;obtain ⟨h1,h2,h3,h4⟩:=h.fam b y o hy' hro;refine ⟨h1,h2,fun c z q hc hq=>?_,fun c z hc hrc=>?_⟩
     . rcases hcase c z hc with ⟨rfl,rfl⟩ | ⟨hc',DU⟩
       . obtain ⟨cs,hcs⟩:=hnew q hq;intro e;exact (h.frz q.blk cs hcs).2.2.2.2 b y hy' (by rw [e];exact hro)
       . exact h3 c z q DU (hold c q hc' hq)
     . rcases hcase c z hc with ⟨rfl,rfl⟩ | ⟨_,DU⟩
       . rw [hrc.fam] at hnf;cases hnf
       . exact h4 c z DU (zV.le hle (h.lt c z DU) (h.blk c z DU) (fun _ _=>rfl) hrc)
 . obtain ⟨h1,h2,h3,h4,h5⟩:=h.frz o c hz';refine ⟨h1,h2,h3,fun b y q hy hw hq=>?_,fun b y hy hr=>?_⟩
   . rcases hcase b y hy with ⟨rfl,rfl⟩ | ⟨hb,hy'⟩
     . rw [hwx] at hw;cases hw
     . exact h4 b y q hy' hw (hold b q hb hq)
   . rcases hcase b y hy with ⟨rfl,rfl⟩ | ⟨hb,hy'⟩
     . rw [hr.fam] at hnf;cases hnf
     . exact h5 b y hy' (zV.le hle (h.lt b y hy') (h.blk b y hy') (fun _ _=>rfl) hr)
theorem Gj {ks:List SK} {e:E} {x:Value} (hk:ks≠[]) (hm:qX A I P g M w) (hx:Rel I g (.lst ks e) x) :
   ∃p,qX A I P (g.lay p) ((g.nb,Sr ks e)::M) w/\Rel I (g.lay p) (Mw g.nb ks e) x:=by
 have hk0:0<ks.length:=by cases ks <;> simp at hk ⊢
 obtain ⟨n,hn,hv⟩:=hx;have l0:∀{g:G} (z:Int),(E.lit z).den I g.env=some (.i z):=fun z=>rfl;have hlen:(E.fn 1014 e (.lit ks.length) (.lit 0) (.lit 0)).den I g.env=some (.i (llen n ks.length)):=vK (j:=14) hn (l0 _) (l0 0) (l0 0);have htab:(E.fn 1017 e (.lit ks.length) (.lit 0) (.lit 0)).den I g.env=some (.t (gG n ks.length)):=vK (j:=17) hn (l0 _) (l0 0) (l0 0);rcases hv with ⟨⟨ad,rfl⟩,h0⟩ | ⟨o,off,len,cap,cs,rfl,hz,hcap,hl,hc⟩
 . have e0:llen n ks.length=0:=by simp [llen,h0]
   rw [e0] at hlen;refine ⟨none,hm.see (fun _ _ h=>h) (fun q hq=>by cases hq) ⟨gG n ks.length,0,E.qE (g.qH _) htab,E.qE (g.qH _) hlen,Int.le_refl _,.inr ⟨rfl,rfl,by simp⟩⟩,?_⟩;exact ⟨0,0,rfl,E.qE (g.qH _) hlen,Int.le_refl _,Int.le_refl _,.inr ⟨rfl,rfl,ad,rfl⟩⟩
 . have e0:llen n ks.length=(len:Int):=by
     simp only [llen,Int.toNat_natCast];rw [hl,Nat.mul_div_cancel _ hk0]
   rw [e0] at hlen;obtain ⟨_,_,⟨T,fr,hh⟩,_,_⟩:=hm.frz o cs hz;let p:PB:=⟨o,off,cap*ks.length⟩
   refine ⟨some p,hm.see (fun _ _ h=>h) (fun q hq=>by cases hq;exact ⟨cs,hz⟩) ⟨gG n ks.length,len,E.qE (g.qH _) htab,E.qE (g.qH _) hlen,Int.natCast_nonneg _,
     .inl ⟨p,cs,T,fr,by simp,hh,fun r j k hr hj=>?_,fun h=>by cases h⟩⟩,?_⟩
   . rw [List.getElem?_map,Option.map_eq_some_iff] at hj;obtain ⟨k0,hj0,rfl⟩:=hj;refine (CK.KS k0.Bj).2 ?_;have:=hc r j k0 (by simpa using hr) hj0;rw [SK.TG];simp only [List.length_map,p];rw [this];simp [gG]
   . refine ⟨0,len,rfl,E.qE (g.qH _) hlen,Int.le_refl _,Int.natCast_nonneg _,.inl ⟨p,cap,by simp,by simp [p],by simpa using hcap,by simp [p]⟩⟩
theorem qX.Mi {b:Nat} {x y:Blk} {p:PB} {c:Array Value} {T:TypeId} {fr:Nat × Nat} (h:qX A I P g M w) (hb:get M b=some x) (hxw:x.wr=true) (hyw:y.wr=false) (hyf:y.wF=false) (hφ:g.φ b=some p) (hh:w.heap[p.blk]?=some (.cells c T fr))
   (hy:jN I P { g with fz:=fun o=>if o=p.blk then some c else g.fz o } b (fun i=>w.heap[i]?) y) :
   g.Le { g with fz:=fun o=>if o=p.blk then some c else g.fz o }/\qX A I P { g with fz:=fun o=>if o=p.blk then some c else g.fz o } (put b y M) w:=by
 have hle:g.Le { g with fz:=fun o=>if o=p.blk then some c else g.fz o }:=by
   refine ⟨⟨[],by simp⟩,Nat.le_refl _,fun _ _=>rfl,fun o cs hz=>?_⟩;by_cases ho:o=p.blk
   . subst ho;exact absurd rfl ((h.frz _ cs hz).2.2.2.1 b _ p hb hxw hφ)
   . show (if o=p.blk then some c else g.fz o)=some cs;rw [if_neg ho];exact hz
 have hcase:∀d z,get (put b y M) d=some z->(d=b/\z=y)\/(d≠b/\get M d=some z):=fun d z hz=>by
   rw [get_put] at hz;by_cases hd:b=d
   . rw [if_pos hd] at hz;cases hz;exact .inl ⟨hd.symm,rfl⟩
   . rw [if_neg hd] at hz;exact .inr ⟨fun e=>hd e.symm,hz⟩
 have hold:∀d z,get (put b y M) d=some z->∃u,get M d=some u/\(z.wr=true->d≠b/\u.wr=true):=fun d z hz=>by
   rcases hcase d z hz with ⟨rfl,rfl⟩ | ⟨hd,hz'⟩
   . exact ⟨_,hb,fun e=>by rw [hyw] at e;cases e⟩
   . exact ⟨z,hz',fun e=>⟨hd,e⟩⟩
 have hfr:∀d z o,get (put b y M) d=some z->zV (fun i=>w.heap[i]?) I { g with fz:=fun o=>if o=p.blk then some c else g.fz o } d z o->get M d=some z/\zV (fun i=>w.heap[i]?) I g d z o:=fun d z o hz hr=>by
   rcases hcase d z hz with ⟨rfl,rfl⟩ | ⟨_,hz'⟩
   . rw [hr.fam] at hyf;cases hyf
   . exact ⟨hz',zV.le hle (h.lt d z hz') (h.blk d z hz') (fun _ _=>rfl) hr⟩
 refine ⟨hle,h.wf,fun d z hz=>?_,fun d z hz=>?_,fun d e z u q r hz hu hw hq hr he=>?_,h.bnd,fun d z q hz hw hq=>?_,h.size,h.keep,h.same,fun d z o hz hr=>?_,fun o cs hz=>?_⟩
 . rcases hcase d z hz with ⟨rfl,rfl⟩ | ⟨_,hz'⟩
   . exact hy
   . exact (h.blk d z hz').le hle h.wf (h.lt d z hz')
 . obtain ⟨u,hu,_⟩:=hold d z hz;exact h.lt d u hu
 . obtain ⟨z',hz',hw'⟩:=hold d z hz;obtain ⟨u',hu',_⟩:=hold e u hu;exact h.inj d e z' u' q r hz' hu' (hw' hw).2 hq hr he
 . obtain ⟨z',hz',hw'⟩:=hold d z hz;exact h.own d z' q hz' (hw' hw).2 hq
 . obtain ⟨hz',hr'⟩:=hfr d z o hz hr;obtain ⟨h1,h2,h3,h4⟩:=h.fam d z o hz' hr';refine ⟨h1,h2,fun e u q he hq=>?_,fun e u he hre=>?_⟩
   . obtain ⟨u',hu',_⟩:=hold e u he;exact h3 e u' q hu' hq
   . obtain ⟨hu',EJ⟩:=hfr e u o he hre;exact h4 e u hu' EJ
 . have hz:(if o=p.blk then some c else g.fz o)=some cs:=hz;by_cases ho:o=p.blk
   . subst ho;rw [if_pos rfl] at hz;cases hz;refine ⟨.inr (h.own b _ p hb hxw hφ),h.bnd b p hφ,⟨T,fr,hh⟩,fun d z q hz hw hq e=>?_,fun d z hz hr=>?_⟩
     . obtain ⟨z',hz',hw'⟩:=hold d z hz;exact (hw' hw).1 (h.inj d b z' _ q p hz' hb (hw' hw).2 hq hφ e)
     . obtain ⟨hz',hr'⟩:=hfr d z _ hz hr;exact (h.fam d z _ hz' hr').2.2.1 b _ p hb hφ rfl
   . rw [if_neg ho] at hz;obtain ⟨h1,h2,h3,h4,h5⟩:=h.frz o cs hz;refine ⟨h1,h2,h3,fun d z q hz hw hq=>?_,fun d z hz hr=>?_⟩
     . obtain ⟨z',hz',hw'⟩:=hold d z hz;exact h4 d z' q hz' (hw' hw).2 hq
     . obtain ⟨hz',hr'⟩:=hfr d z o hz hr;exact h5 d z hz' hr'
theorem qX.freeze {b:Nat} {ks:List CK} {t n:E} {nl:Bool} {p:PB} {c:Array Value} {T:TypeId} {fr:Nat × Nat} (h:qX A I P g M w) (hb:get M b=some (.rows ks t n true nl)) (hφ:g.φ b=some p) (hh:w.heap[p.blk]?=some (.cells c T fr)) :
   g.Le { g with fz:=fun o=>if o=p.blk then some c else g.fz o }/\qX A I P { g with fz:=fun o=>if o=p.blk then some c else g.fz o } (put b (.rows ks t n false nl) M) w:=by
 have hle:g.Le { g with fz:=fun o=>if o=p.blk then some c else g.fz o }:=by
   refine ⟨⟨[],by simp⟩,Nat.le_refl _,fun _ _=>rfl,fun o cs hz=>?_⟩;by_cases ho:o=p.blk
   . subst ho;exact absurd rfl ((h.frz _ cs hz).2.2.2.1 b _ p hb rfl hφ)
   . show (if o=p.blk then some c else g.fz o)=some cs;rw [if_neg ho];exact hz
 refine h.Mi hb rfl rfl rfl hφ hh ?_;obtain ⟨f,m,h1,h2,h3,h4⟩:=(h.blk b _ hb).le hle h.wf (h.lt b _ hb);refine ⟨f,m,h1,h2,h3,?_⟩;rcases h4 with ⟨q,cs,T',fr',h5,h6,h7,_⟩ | h4
 . exact .inl ⟨q,cs,T',fr',h5,h6,h7,fun e=>by cases e⟩
 . exact .inr h4
theorem qX.turn {b:Nat} {x y:Blk} (h:qX A I P g M w) (hb:get M b=some x) (hw:y.wr=true->x.wr=true) (hyf:y.wF=false) (hy:jN I P g b (fun i=>w.heap[i]?) y):qX A I P g (put b y M) w:=by
 have hcase:∀d z,get (put b y M) d=some z->(d=b/\z=y)\/(d≠b/\get M d=some z):=fun d z hz=>by
   rw [get_put] at hz;by_cases hd:b=d
   . rw [if_pos hd] at hz;cases hz;exact .inl ⟨hd.symm,rfl⟩
   . rw [if_neg hd] at hz;exact .inr ⟨fun e=>hd e.symm,hz⟩
 have hold:∀d z,get (put b y M) d=some z->∃u,get M d=some u/\(z.wr=true->u.wr=true):=fun d z hz=>by
   rcases hcase d z hz with ⟨rfl,rfl⟩ | ⟨hd,hz'⟩
   . exact ⟨_,hb,hw⟩
   . exact ⟨z,hz',id⟩
 have hfr:∀d z o,get (put b y M) d=some z->zV (fun i=>w.heap[i]?) I g d z o->get M d=some z:=fun d z o hz hr=>by
   rcases hcase d z hz with ⟨rfl,rfl⟩ | ⟨_,hz'⟩
   . rw [hr.fam] at hyf;cases hyf
   . exact hz'
 refine ⟨h.wf,fun d z hz=>?_,fun d z hz=>?_,fun d e z u q r hz hu hw hq hr he=>?_,h.bnd,fun d z q hz hw hq=>?_,h.size,h.keep,h.same,fun d z o hz hr=>?_,fun o cs hz=>?_⟩
 . rcases hcase d z hz with ⟨rfl,rfl⟩ | ⟨_,hz'⟩
   . exact hy
   . exact h.blk d z hz'
 . obtain ⟨u,hu,_⟩:=hold d z hz;exact h.lt d u hu
 . obtain ⟨z',hz',hw'⟩:=hold d z hz;obtain ⟨u',hu',_⟩:=hold e u hu;exact h.inj d e z' u' q r hz' hu' (hw' hw) hq hr he
 . obtain ⟨z',hz',hw'⟩:=hold d z hz;exact h.own d z' q hz' (hw' hw) hq
 . obtain ⟨h1,h2,h3,h4⟩:=h.fam d z o (hfr d z o hz hr) hr;refine ⟨h1,h2,fun e u q he hq=>?_,fun e u he hre=>h4 e u (hfr e u o he hre) hre⟩;obtain ⟨u',hu',_⟩:=hold e u he;exact h3 e u' q hu' hq
 . obtain ⟨h1,h2,h3,h4,h5⟩:=h.frz o cs hz;refine ⟨h1,h2,h3,fun d z q hz hw hq=>?_,fun d z hz hr=>h5 d z (hfr d z o hz hr) hr⟩;obtain ⟨z',hz',hw'⟩:=hold d z hz;exact h4 d z' q hz' (hw' hw) hq
theorem qX.still {b:Nat} {ks:List CK} {t n:E} {nl:Bool} (h:qX A I P g M w) (hb:get M b=some (.rows ks t n true nl)):qX A I P g (put b (.rows ks t n false nl) M) w:=by
 refine h.turn hb (fun e=>by cases e) rfl ?_;obtain ⟨f,m,h1,h2,h3,h4⟩:=h.blk b _ hb;refine ⟨f,m,h1,h2,h3,?_⟩;rcases h4 with ⟨q,cs,T',fr',h5,h6,h7,_⟩ | h4
 . exact .inl ⟨q,cs,T',fr',h5,h6,h7,fun e=>by cases e⟩
 . exact .inr h4
theorem Sl {t:Int->Nat->Int} {n w:Nat} {r j:Nat} (hr:r<n) (hj:j<w):(gy (xG t n w)).getD (r*w+j) 0=t r j:=by
 unfold xG;rw [xw];simp only [Int.toNat_natCast]
 have hlt:r*w+j<n*w:=by
   have:=Nat.mul_le_mul_right w (show r+1<=n from hr);rw [Nat.add_mul,Nat.one_mul] at this;omega
 rw [List.getD_eq_getElem?_getD,List.getElem?_map,List.getElem?_range hlt];have h1:(r*w+j) % w=j:=by rw [Nat.mul_comm,Nat.mul_add_mod,Nat.mod_eq_of_lt hj]
 have h2:(r*w+j) / w=r:=by rw [Nat.mul_comm,Nat.mul_add_div (by omega),Nat.div_eq_of_lt hj,Nat.add_zero]
 simp only [Option.map_some,Option.getD_some,h1,h2]
theorem sW {t:Int->Nat->Int} {n w:Nat}:(gy (xG t n w)).length=n*w:=by
 unfold xG;rw [xw];simp
theorem Fw {b:Nat} {ks:List SK} {t n len:E} {nl nl2:Bool} {x:Value} (hm:qX A I P g M w) (hb:get M b=some (.rows (ks.map SK.ck) t n true nl)) (hx:Rel I g (.slice b (.lit 0) len ks.length nl2) x)
   (hle:∀l m:Int,len.den I g.env=some (.i l)->n.den I g.env=some (.i m)->l<=m) :
   ∃g':G,g.Le g'/\g'.env=g.env/\g'.nb=g.nb/\qX A I P g' (put b (.rows (ks.map SK.ck) t n false nl) M) w/\Rel I g' (qz5 ks t len) x:=by
 obtain ⟨f,m,hf,hn,hm0,hrow⟩:=hm.blk _ _ hb;obtain ⟨l0,l,hl0,hl,_,hl1,hsl⟩:=hx;simp only [E.den,Option.some.injEq,D.i.injEq] at hl0;subst hl0;have hlm:=hle l m hl hn;obtain ⟨ln,rfl⟩:=Int.eq_ofNat_of_zero_le hl1;have he:(E.fn 1016 t len (.lit ks.length) (.lit 0)).den I g.env=some (.i (xG f ln ks.length)):=vK (j:=16) hf hl (show (E.lit ks.length).den I g.env=some (.i (ks.length:Nat)) from rfl) (show (E.lit 0).den I g.env=some (.i 0) from rfl);rcases hrow with ⟨p,c,T,fr,hφ,hh,hcs,_⟩ | ⟨h1,h2,hφ⟩
 . obtain ⟨h3,h4⟩:=hm.freeze hb hφ hh;refine ⟨_,h3,rfl,rfl,h4,_,he,?_⟩;rcases hsl with ⟨p',cap,hp',rfl,hcap,_⟩ | ⟨_,h6,ad,rfl⟩
   . rw [hφ] at hp';cases hp';refine .inr ⟨p.blk,p.base+(0:Int).toNat*ks.length,ln,cap,c,by simp,if_pos rfl,by simpa using hcap,sW,fun r j k hr hj=>?_⟩;have hjl:j<ks.length:=(List.getElem?_eq_some_iff.1 hj).1;rw [Sl hr hjl];have:=(CK.KS k.Bj).1 (hcs r j k.ck (by omega) (by simp [hj]));rw [SK.TG] at this;simpa using this
   . refine .inl ⟨⟨ad,rfl⟩,?_⟩;have:(gy (xG f ln ks.length)).length=0:=by rw [sW];simp [show ln=0 by omega]
     exact List.eq_nil_of_length_eq_zero this
 . subst h2;have hln:ln=0:=by omega
   subst hln;rcases hsl with ⟨p',cap,hp',_⟩ | ⟨_,_,ad,rfl⟩
   . rw [hφ] at hp';cases hp'
   . refine ⟨g,.refl _,rfl,rfl,?_,_,he,.inl ⟨⟨ad,rfl⟩,?_⟩⟩
     . exact hm.still hb
     . have:(gy (xG f (0:Nat) ks.length)).length=0:=by rw [sW];simp
       exact List.eq_nil_of_length_eq_zero this
theorem KF {f:FuncId} {b s k:Nat}:∀{cs:List Clo} {i j:Nat},KH f b s k i cs=some j->i<=j/\cs[j - i]?=some ⟨f,b,s,k⟩
 | [],i,j,h=>by simp [KH] at h
 | c::cs,i,j,h=>by
   simp only [KH] at h;split at h
   . rename_i hc;obtain ⟨h1,h2,h3,h4⟩:=hc;simp only [Option.some.injEq] at h;subst h;obtain ⟨f',b',s',k'⟩:=c;simp only at h1 h2 h3 h4;subst h1;subst h2;subst h3;subst h4;exact ⟨Nat.le_refl _,by simp⟩
   . obtain ⟨h1,h2⟩:=KF h;exact ⟨by omega,by rw [show j - i=(j - (i+1))+1 by omega,List.getElem?_cons_succ];exact h2⟩
theorem TV {r:E} {n:Int} {len i:Nat} (h:r.den I g.env=some (.i n)):(Ui len r i).den I g.env=some (.i (n*len+(i+1))):=by
 unfold Ui;refine zk ?_ (show (E.lit ((i:Int)+1)).den I g.env=some (.i ((i:Int)+1)) from rfl);split
 . rename_i h1;rw [h,h1];simp
 . exact qy (o:=.mul) h (show (E.lit (len:Int)).den I g.env=some (.i (len:Int)) from rfl)
theorem Uu {cs:List Clo} {f:FuncId} {c z k i:Nat} {r:E} {x:Value} (hi:KH f c z k 0 cs=some i) (hv:Rel I g (.func f [.gZ (.ptr c r z k)]) x):Rel I g (.fco cs (Ui cs.length r i)) x:=by
 obtain ⟨_,h1⟩:=KF hi;rw [Nat.sub_zero] at h1;obtain ⟨ys,rfl,hys⟩:=hv;have hlt:=(List.getElem?_eq_some_iff.1 h1).1;have hl:=hys.length
 match hL:ys.toList,hys,hl with
 | [y],hys,_=>
   obtain ⟨⟨o,q,zz,y',rfl,h2,h3,n,p,h4,h5,h6,rfl⟩,_⟩:=hys
   have e:ys=#[.pointer (some ⟨o,q,none⟩)]:=by
     apply Array.toList_inj.1;rw [hL]
   subst e;have hn:0<=n*(cs.length:Int):=Int.mul_nonneg h5 (Int.natCast_nonneg _);have hc0:(0:Int)<cs.length:=by omega
   have e1:n*(cs.length:Int)+(i+1) - 1=i+n*cs.length:=by omega
   refine ⟨_,TV h4,.inr ⟨by omega,⟨f,c,z,k⟩,p,o,q,zz,?_,h6,rfl,h2,?_⟩⟩
   . rw [e1,Int.add_mul_emod_self_right,Int.emod_eq_of_lt (by omega) (by omega),Int.toNat_natCast];exact h1
   . rw [e1,Int.add_mul_ediv_right _ _ (by omega),Int.ediv_eq_zero_of_lt (by omega) (by omega),Int.zero_add];exact h3
theorem QE {s:St} {c:CK} {v:AV} {x:Value} (hs:qW A I P X g s a w) (hp:∀q∈(wK s c v).2.2,q.den I g.env) (hv:Rel I g v x) :
   ∃g':G,g.Le g'/\g'.env=g.env/\qW A I P X g' (wK s c v).1 a w/\Rel I g' (wK s c v).2.1 x:=by
 unfold wK at hp ⊢;split
 . rename_i ks b len z nl2;simp only at hp ⊢;split
   . rename_i ks' t n nl hb;rw [hb] at hp;simp only at hp;split
     . rename_i hc;rw [if_pos hc] at hp;obtain ⟨rfl,rfl⟩:=hc;obtain ⟨g',h1,h2,h3,h4,h5⟩:=Fw hs.m hb hv fun l m hl hm=>zn hl hm (hp _ (List.mem_singleton.2 rfl));exact ⟨g',h1,h2,⟨h4,hs.t.le h1 hs.m.wf,hs.nt,hs.d.le h1 hs.m.wf,by rw [h2];exact hs.nv,by rw [h3];exact hs.nb⟩,h5⟩
     . exact ⟨g,.refl _,rfl,hs,hv⟩
   . exact ⟨g,.refl _,rfl,hs,hv⟩
 . rename_i ks;refine ⟨g,.refl _,rfl,hs,0,rfl,.inl ⟨⟨none,?_⟩,rfl⟩⟩;simpa [Rel] using hv
 . refine ⟨g,.refl _,rfl,hs,0,rfl,.inl ⟨rfl,?_⟩⟩;simpa [Rel] using hv
 . rename_i cs f c r z k;cases hi:KH f c z k 0 cs with
   | none=>exact ⟨g,.refl _,rfl,hs,hv⟩
   | some i=>exact ⟨g,.refl _,rfl,hs,Uu hi hv⟩
 . exact ⟨g,.refl _,rfl,hs,hv⟩
theorem bJ:∀{ks:List CK} {l:List AV} {xs:List Value} {s:St} {g:G},qW A I P X g s a w->(∀q∈(jg s ks l).2.2,q.den I g.env)->qw I g l xs->
   ∃g':G,g.Le g'/\g'.env=g.env/\qW A I P X g' (jg s ks l).1 a w/\qw I g' (jg s ks l).2.1 xs
 | [],l,xs,s,g,hs,_,hv=>by
   unfold jg;exact ⟨g,.refl _,rfl,hs,hv⟩
 | c::ks,[],xs,s,g,hs,_,hv=>by
   unfold jg;exact ⟨g,.refl _,rfl,hs,hv⟩
 | c::ks,v::l,[],s,g,hs,_,hv=>by simp [qw] at hv
 | c::ks,v::l,x::xs,s,g,hs,hp,hv=>by
   rw [jg] at hp ⊢;obtain ⟨g1,h1,h2,h3,h4⟩:=QE (c:=c) hs (fun q hq=>hp q (List.mem_append.2 (.inl hq))) hv.1;obtain ⟨g2,h5,h6,h7,h8⟩:=bJ h3 (fun q hq=>by rw [h2];exact hp q (List.mem_append.2 (.inr hq))) (hv.2.le h1 hs.m.wf);exact ⟨g2,h1.trans h5,by rw [h6,h2],h7,h4.le h5 h3.m.wf,h8⟩
theorem yK {X:Nat->Prop}:∀{l:List AV} {xs:List Value} {s:St} {g:G} {σ:List (Nat × AV)},qW A I P X g s a w->(∀b v,get σ b=some v->∀z x,Rel I g (.ptr b (.lit 0) z 0) x->Rel I g (.gZ v) x)->qw I g l xs->
   ∃g':G,g.Le g'/\g'.env=g.env/\qW A I P X g' { s with mem:=(jH s.mem σ l).1 } a w/\qw I g' (jH s.mem σ l).2 xs
 | [],xs,s,g,σ,hs,_,hv=>⟨g,.refl _,rfl,hs,hv⟩
 | v::l,[],s,g,σ,hs,_,hv=>by simp [qw] at hv
 | v::l,x::xs,s,g,σ,hs,hσ,hv=>by
   have plain:(jH s.mem σ (v::l))=((jH s.mem σ l).1,v::(jH s.mem σ l).2)->∃g':G,g.Le g'/\g'.env=g.env/\qW A I P X g' { s with mem:=(jH s.mem σ (v::l)).1 } a w/\qw I g' (jH s.mem σ (v::l)).2 (x::xs):=fun e=>by
     obtain ⟨g',h1,h2,h3,h4⟩:=yK (l:=l) hs hσ hv.2;rw [e];exact ⟨g',h1,h2,h3,hv.1.le h1 hs.m.wf,h4⟩
   unfold jH;split
   . rename_i heq;cases heq
   . rename_i f b z l' heq;cases heq
     have func:∀{g:G} {u:AV},Rel I g (.func f [.ptr b (.lit 0) z 0]) x->(∀y,Rel I g (.ptr b (.lit 0) z 0) y->Rel I g u y)->Rel I g (.func f [u]) x:=fun {g u} hx hu=>by
       obtain ⟨cs,rfl,hcs⟩:=hx;refine ⟨cs,rfl,?_⟩
       match hL:cs.toList,hcs with
       | [y],hcs=>exact ⟨hu y hcs.1,trivial⟩
       | [],hcs=>simp [qw] at hcs
       | _::_::_,hcs=>simp [qw] at hcs
     split
     . rename_i u hu;obtain ⟨g',h1,h2,h3,h4⟩:=yK (l:=l) hs hσ hv.2;exact ⟨g',h1,h2,h3,(func hv.1 fun y hy=>hσ b u hu z y hy).le h1 hs.m.wf,h4⟩
     . rename_i hnone;split
       . rename_i u hb;obtain ⟨p,c,T,fr,hp,hh,hcs,hwr⟩:=hs.m.blk b _ hb;obtain ⟨y,hy1,hy2⟩:=hcs 0 u rfl
         have hle0:g.Le { g with fz:=fun o=>if o=p.blk then some c else g.fz o }:=by
           refine ⟨⟨[],by simp⟩,Nat.le_refl _,fun _ _=>rfl,fun o cs hz=>?_⟩;by_cases ho:o=p.blk
           . subst ho;exact absurd rfl ((hs.m.frz _ cs hz).2.2.2.1 b _ p hb rfl hp)
           . show (if o=p.blk then some c else g.fz o)=some cs;rw [if_neg ho];exact hz
         obtain ⟨h1,h2⟩:=hs.m.Mi (y:=.cells [u] false) hb rfl rfl rfl hp hh ⟨p,c,T,fr,hp,hh,fun i v hv=>let ⟨x,q1,q2⟩:=hcs i v hv;⟨x,q1,q2.le hle0 hs.m.wf⟩,fun e=>by cases e⟩
         have L8:∀z x,Rel I { g with fz:=fun o=>if o=p.blk then some c else g.fz o } (.ptr b (.lit 0) z 0) x->Rel I { g with fz:=fun o=>if o=p.blk then some c else g.fz o } (.gZ u) x:=fun z x hx=>by
           obtain ⟨n,p',k1,k2,k3,rfl⟩:=hx;have k3:g.φ b=some p':=k3;rw [hp] at k3;cases k3;simp only [E.den,Option.some.injEq,D.i.injEq] at k1;subst k1;exact ⟨p.blk,p.base,c,y,by simp,if_pos rfl,by simpa using hy1,hy2.le hle0 hs.m.wf⟩
         have hs1:qW A I P X { g with fz:=fun o=>if o=p.blk then some c else g.fz o } { s with mem:=del b s.mem } a w:=by
           refine ⟨h2.sub fun d z hz=>?_,hs.t.le h1 hs.m.wf,hs.nt,hs.d.le h1 hs.m.wf,hs.nv,hs.nb⟩;have hz:get (del b s.mem) d=some z:=hz;rw [yT] at hz;split at hz
           . cases hz
           . rename_i hbd;rw [get_put,if_neg hbd];exact hz
         obtain ⟨g',h3,h4,h5,h6⟩:=yK (l:=l) (σ:=(b,u)::σ) hs1 (fun d v hv z x hx=>by
           rw [qQ] at hv;split at hv
           . rename_i hbd;simp only [Option.some.injEq] at hv;subst hv;subst hbd;exact L8 z x hx
           . have:Rel I g (.ptr d (.lit 0) z 0) x:=hx;exact (hσ d v hv z x this).le h1 hs.m.wf) (hv.2.le h1 hs.m.wf)
         exact ⟨g',h1.trans h3,h4,h5,(func (hv.1.le h1 hs.m.wf) fun y hy=>L8 z y hy).le h3 h2.wf,h6⟩
       . obtain ⟨g',h1,h2,h3,h4⟩:=yK (l:=l) hs hσ hv.2;exact ⟨g',h1,h2,h3,hv.1.le h1 hs.m.wf,h4⟩
   . rename_i v' l' hno heq;cases heq;obtain ⟨g',h1,h2,h3,h4⟩:=yK (l:=l) hs hσ hv.2;exact ⟨g',h1,h2,h3,hv.1.le h1 hs.m.wf,h4⟩
theorem QO {X:Nat->Prop} {ks:List CK}:∀{n:Nat} {l:List AV} {xs:List Value} {s:St} {g:G},qW A I P X g s a w->(∀q∈(bZ ks n s l).2.2,q.den I g.env)->qw I g l xs->
   ∃g':G,g.Le g'/\g'.env=g.env/\qW A I P X g' (bZ ks n s l).1 a w/\qw I g' (bZ ks n s l).2.1 (xs.take (n*ks.length))
 | 0,l,xs,s,g,hs,_,hv=>⟨g,.refl _,rfl,hs,by simp [bZ,qw]⟩
 | n+1,l,xs,s,g,hs,hp,hv=>by
   simp only [bZ] at hp ⊢;obtain ⟨g1,h1,h2,h3,h4⟩:=bJ hs (fun q hq=>hp q (List.mem_append.2 (.inl hq))) (hv.take ks.length);obtain ⟨g2,h5,h6,h7,h8⟩:=QO (n:=n) h3 (fun q hq=>by rw [h2];exact hp q (List.mem_append.2 (.inr hq))) ((hv.drop ks.length).le h1 hs.m.wf);refine ⟨g2,h1.trans h5,by rw [h6,h2],h7,?_⟩;rw [Nat.add_mul,Nat.one_mul,Nat.add_comm,List.take_add];exact (h4.le h5 h3.m.wf).append h8
theorem XW {s:St} {c:CK} {v:AV}:(wK s c v).1.tmps=s.tmps:=by
 unfold wK;split
 . split
   . split <;> rfl
   . rfl
 . rfl
 . rfl
 . split <;> rfl
 . rfl
theorem uK:∀{ks:List CK} {s:St} {l:List AV},(jg s ks l).1.tmps=s.tmps
 | [],s,l=>by unfold jg;rfl
 | c::ks,s,[]=>by unfold jg;rfl
 | c::ks,s,v::l=>by rw [jg];exact uK.trans XW
theorem oW {ks:List CK}:∀{n:Nat} {s:St} {l:List AV},(bZ ks n s l).1.tmps=s.tmps
 | 0,s,l=>rfl
 | n+1,s,l=>by simp only [bZ];exact oW.trans uK
theorem Gc {X:Nat->Prop} {s s1:St} {ks:List CK} {c:Nat} {m:Int} {l:List AV} {ps:List PE} {nl:Bool} {z:Value} (hs:qW A I P X g s a w) (hc:get s.mem c=some (.cells l true)) (hl:l.length=m.toNat*ks.length) (hm0:0<m)
   (hz:Rel I g (.slice c (.lit 0) (.lit m) ks.length nl) z) (h:LU s ks c m l=some (s1,ps)) (hp:∀q∈ps,q.den I g.env) :
   ∃g':G,g.Le g'/\g'.env=g.env/\qW A I P X g' s1 a w/\s1.tmps=s.tmps:=by
 obtain ⟨p,cs,T,fr,hφ,hh,hcs,hwr⟩:=hs.m.blk c _ hc;obtain ⟨hfr,htot⟩:=hwr rfl;obtain ⟨xs,hxs⟩:∃xs:List Value,xs=(List.range l.length).map fun i=>(cs[p.base+i]?).getD Go.undef:=⟨_,rfl⟩
 have hget:∀i,i<l.length->cs[p.base+i]?=some ((cs[p.base+i]?).getD Go.undef):=fun i hi=>by
   obtain ⟨y,h1,_⟩:=hcs i _ (List.getElem?_eq_getElem hi);rw [h1];rfl
 have hrel:qw I g l xs:=qw.mk (by simp [hxs]) fun i v x h1 h2=>by
   have hi:=(List.getElem?_eq_some_iff.1 h1).1;obtain ⟨y,h3,h4⟩:=hcs i v h1;rw [hxs,List.getElem?_map,List.getElem?_range hi] at h2;simp only [Option.map_some,Option.some.injEq] at h2;rw [<-h2,h3];exact h4
 unfold LU at h;dsimp only at h;obtain ⟨g1,h1,h2,h3,h4⟩:=yK (σ:=[]) hs (fun b v hv=>by simp [get_nil] at hv) hrel;split at h
 . rename_i t l' hrows hstill;simp only [Option.some.injEq,Prod.mk.injEq] at h;obtain ⟨rfl,rfl⟩:=h;obtain ⟨g2,h5,h6,h7,h8⟩:=QO (ks:=ks) (n:=m.toNat) h3 (fun q hq=>by rw [h2];exact hp q hq) h4;have hlx:xs.length=m.toNat*ks.length:=by rw [hxs];simp [hl]
   rw [<-hlx,List.take_length] at h8;obtain ⟨f,h9,h10⟩:=uM m.toNat hrows h8 (by rw [h8.length,hlx]);have hle:=h1.trans h5;have qz7:=hle.some hs.m.wf hφ;obtain ⟨l0,n0,k1,k2,k3,k4,k5⟩:=hz;simp only [E.den,Option.some.injEq,D.i.injEq] at k1 k2;subst k1;subst k2
   have hmt:m.toNat*ks.length<=p.tot:=by
     rcases k5 with ⟨p',cap,k6,_,k7,k8⟩ | ⟨_,k6,_⟩
     . rw [hφ] at k6;cases k6;exact Nat.le_trans (Nat.mul_le_mul_right _ (by omega)) k8
     . omega
   refine ⟨g2,hle,by rw [h6,h2],h7.mem (h7.m.write (w':=w) hstill rfl qz7 rfl (fun _ _=>rfl) ⟨f,m,h9,rfl,by omega,.inl ⟨p,cs,T,fr,qz7,hh,fun r j k hr hj=>?_,fun _=>⟨.inl hfr,htot,hmt⟩⟩⟩),?_⟩
   . obtain ⟨y,k6,k7⟩:=h10 r j k hr hj;have hjlt:j<ks.length:=(List.getElem?_eq_some_iff.1 hj).1
     have hlt:r*ks.length+j<l.length:=by
       rw [hl];have:=Nat.mul_le_mul_right ks.length (show r+1<=m.toNat from hr);rw [Nat.add_mul,Nat.one_mul] at this;omega
     refine ⟨y,?_,k7⟩;rw [hxs,List.getElem?_map,List.getElem?_range hlt] at k6;simp only [Option.map_some,Option.some.injEq] at k6;rw [Nat.add_assoc,hget _ hlt,k6]
   . exact oW
 . cases h
end Go.Sx
end
noncomputable section
namespace Go.Sx
open Go
variable {A:Amb} {I:Itp} {P:Program} {g:G} {X:Nat->Prop} {ts:qO} {a:Act} {M:Mem} {w:World}
def zq (ks:List CK) (V:Nat->Nat->Value) (n:Nat):List Value:=
 (List.range (n*ks.length)).map fun q=>V (q / ks.length) (q % ks.length)
theorem zR (ks:List CK) (V:Nat->Nat->Value) (n:Nat):(zq ks V n).length=n*ks.length:=by simp [zq]
theorem xq {s r j n:Nat} (hj:j<s) (hr:r<n):r*s+j<n*s:=by
 have:=Nat.mul_le_mul_right s (show r+1<=n from hr);rw [Nat.add_mul,Nat.one_mul] at this;omega
theorem wo {ks:List CK} {V:Nat->Nat->Value} {n r j:Nat} {k:CK} (hr:r<n) (hj:ks[j]?=some k):(zq ks V n)[r*ks.length+j]?=some (V r j):=by
 have hjlt:j<ks.length:=(List.getElem?_eq_some_iff.1 hj).1;have hlt:=xq hjlt hr;unfold zq;rw [List.getElem?_map,List.getElem?_range hlt,Option.map_some];have h1:(r*ks.length+j) % ks.length=j:=by rw [Nat.mul_comm,Nat.mul_add_mod,Nat.mod_eq_of_lt hjlt]
 have h2:(r*ks.length+j) / ks.length=r:=by
   rw [Nat.mul_comm,Nat.mul_add_div (by omega),Nat.div_eq_of_lt hjlt,Nat.add_zero]
 rw [h1,h2]
theorem uf {ks:List CK} {V:Nat->Nat->Value} {n q:Nat} {v:Value} (h:(zq ks V n)[q]?=some v) :
   ∃r j k,r<n/\ks[j]?=some k/\q=r*ks.length+j/\v=V r j:=by
 have hq:q<n*ks.length:=by
   have:=(List.getElem?_eq_some_iff.1 h).1
   rwa [zR] at this
 have hs:0<ks.length:=by
   rcases Nat.eq_zero_or_pos ks.length with h0 | h0
   . rw [h0] at hq;omega
   . exact h0
 have hj:q % ks.length<ks.length:=Nat.mod_lt _ hs;have hr:q / ks.length<n:=Nat.div_lt_of_lt_mul (by rw [Nat.mul_comm];exact hq);refine ⟨q / ks.length,q % ks.length,_,hr,List.getElem?_eq_getElem hj,by rw [Nat.mul_comm];exact (Nat.div_add_mod q ks.length).symm,?_⟩;have:=wo (V:=V) hr (List.getElem?_eq_getElem hj);rw [show q / ks.length*ks.length+q % ks.length=q by rw [Nat.mul_comm];exact Nat.div_add_mod q ks.length,h] at this;exact Option.some.inj this
theorem Pn {g:G} {k:CK} {n:Int} {x:Value} (h:k.rel g n x):x.oneCell'=true:=by
 cases k with
 | lst ks=>rcases h with ⟨⟨a,rfl⟩,_⟩ | ⟨o,off,len,cap,cs,rfl,_⟩ <;> rfl
 | clo cs=>rcases h with ⟨_,rfl⟩ | ⟨_,c,p,o,q,z,_,_,rfl,_⟩ <;> rfl
 | int k=>cases h;rfl
 | bool=>cases h;rfl
 | str=>cases h;rfl
def Yt (g:G) (ks:List CK) (f:Int->Nat->Int) (V:Nat->Nat->Value) (n:Nat):Prop:=∀(r j:Nat) (k:CK),r<n->ks[j]?=some k->k.rel g (f r j) (V r j)
theorem YT {ks:List CK} {g:G} {f:Int->Nat->Int} {V:Nat->Nat->Value} {n:Nat} (hV:Yt g ks f V n):∀v∈zq ks V n,v.oneCell'=true:=by
 intro v hv;obtain ⟨q,hq,rfl⟩:=List.getElem_of_mem hv;obtain ⟨r,j,k,hr,hj,_,h⟩:=uf (List.getElem?_eq_getElem hq);rw [h];exact Pn (hV r j k hr hj)
theorem tF {ks:List CK} {n u:E} {N lo:Int} {fu:Int->Nat->Int} {V:Nat->Nat->Value} {mm:Nat} (hV:Yt g ks (fun r j=>fu (lo+r) j) V mm) (hn:n.den I g.env=some (.i N)) (hu:u.den I g.env=some (.t fu)) :
   ∀(m i:Nat) (_:i+m<=mm) {t t':E} {f:Int->Nat->Int},lU ks t n u lo i m=some t'->t.den I g.env=some (.t f)->
   ∃f',t'.den I g.env=some (.t f')/\(∀(r:Nat) (j:Nat) (k:CK),ks[j]?=some k->i<=r->r<i+m->k.rel g (f' (N+r) j) (V r j))/\
     (∀(x:Int) (c:Nat),(x<N+i\/N+i+m<=x)->f' x c=f x c)
 | 0,i,_,t,t',f,h,ht=>by
   simp [lU] at h;subst h;exact ⟨f,ht,fun r j _ h1 h2=>by omega,fun _ _ _=>rfl⟩
 | m+1,i,him,t,t',f,h,ht=>by
   simp only [lU] at h;split at h
   . rename_i vs hvs;split at h
     . rename_i t1 ht1;obtain ⟨hvl,xs,h1,h2⟩:=kZ (x:=lo+(i:Int)) hu rfl (V i) (fun j k hj=>hV i j k (by omega) hj) ks.length 0 hvs;obtain ⟨f1,h3,h4,h5,h6⟩:=kI (zk hn (show (E.lit i).den I g.env=some (.i i) from rfl)) ht1 h1 (Nv ht);obtain ⟨f',h7,h8,h9⟩:=tF hV hn hu m (i+1) (by omega) h h3;refine ⟨f',h7,fun r j k hj hr1 hr2=>?_,fun x c hx=>?_⟩
       . by_cases hri:r=i
         . subst hri;rw [h9 _ _ (.inl (by omega))];have hjlt:j<ks.length:=(List.getElem?_eq_some_iff.1 hj).1;have hlt:j<xs.length:=by rw [<-h1.length,hvl];exact hjlt
           obtain ⟨c1,h10,h11⟩:=h5 j _ (List.getElem?_eq_getElem hlt);obtain ⟨c2,h12,h13⟩:=h2 j _ (List.getElem?_eq_getElem hlt);rw [Nat.zero_add] at h10 h11 h12 h13;rw [hj] at h10 h12;cases h10;cases h12;rw [<-h13];exact h11
         . exact h8 r j k hj (by omega) (by omega)
       . rw [h9 x c (by omega),h6 x c (.inl (by omega))]
     . cases h
   . cases h
theorem Xe {ks:List CK} {t n u m t':E} {f fu:Int->Nat->Int} {N lo:Int} {M:Nat} {V:Nat->Nat->Value} (hV:Yt g ks (fun r j=>fu (lo+r) j) V M) (h:Kz ks t n u lo m=some t') (ht:t.den I g.env=some (.t f)) (hu:u.den I g.env=some (.t fu))
   (hn:n.den I g.env=some (.i N)) (hm:m.den I g.env=some (.i (M:Nat))) (hN:0<=N) :
   ∃f',t'.den I g.env=some (.t f')/\(∀(r:Int) (c:Nat),0<=r->r<N->f' r c=f r c)/\
     (∀(r j:Nat) (k:CK),ks[j]?=some k->r<M->k.rel g (f' (N+r) j) (V r j)):=by
 unfold Kz at h;split at h
 . rename_i mm;simp [E.den] at hn hm;subst hn;subst hm;split at h
   . rename_i hlo;simp at h;subst h;subst hlo;exact ⟨fu,hu,fun r c h1 h2=>by omega,fun r j k hj hr=>by simpa using hV r j k hr hj⟩
   . split at h
     . rename_i hmm;obtain ⟨f',h1,h2,h3⟩:=tF (N:=0) hV rfl hu (M:Int).toNat 0 (by omega) h (show (E.zt).den I g.env=some (.t fun _ _=>0) from rfl);exact ⟨f',h1,fun r c _ h5=>by omega,fun r j k hj hr=>h2 r j k hj (by omega) (by omega)⟩
     . cases h
 . split at h
   . rename_i hlo;simp at h;subst h;subst hlo;simp [E.den] at hn;subst hn;exact ⟨fu,hu,fun r c h1 h2=>by omega,fun r j k hj hr=>by simpa using hV r j k hr hj⟩
   . cases h
 . rename_i mm _;split at h
   . rename_i hmm;simp [E.den] at hm;subst hm;obtain ⟨f',h1,h2,h3⟩:=tF hV hn hu (M:Int).toNat 0 (by omega) h ht;exact ⟨f',h1,fun r c _ h5=>h3 r c (.inl (by omega)),fun r j k hj hr=>h2 r j k hj (by omega) (by omega)⟩
   . cases h
 . split at h
   . rename_i hlo;simp at h;subst h;subst hlo;refine ⟨BS f N fu,by simp [E.den,ht,hu,hn],fun r c _ h2=>by simp [BS,h2],fun r j k hj hr=>?_⟩;simp only [BS];rw [if_neg (by omega),show N+(r:Int) - N=0+(r:Int) by omega];exact hV r j k hr hj
   . cases h
def Rows (w:World) (ks:List CK) (V:Nat->Nat->Value) (n:Nat) (x:Value):Prop:=
 ((∃ad cp,x=.slice ad 0 cp)/\n=0)\/∃blk off cap c T fr,x=.slice (some ⟨blk,off,none⟩) n cap/\n<=cap/\w.heap[blk]?=some (.cells c T fr)/\
   ∀(r j:Nat) (k:CK),r<n->ks[j]?=some k->c[off+r*ks.length+j]?=some (V r j)
theorem pE {ks:List CK} {V:Nat->Nat->Value} {ad:Option Addr} {cp:Nat}:(Builtin.firstCells ks.length 0 (.slice ad 0 cp)).run P w=.ok (zq ks V 0).toArray w:=by
 have h0:zq ks V 0=[]:=by simp [zq]
 rw [h0];cases ad with
 | none=>simp [Builtin.firstCells]
 | some a=>
   have:=run_loadCells_list (P:=P) w a [] (fun q v hq=>by simp at hq);simp only [Builtin.firstCells,Nat.zero_mul];simpa using this
theorem Rows.first {ks:List CK} {V:Nat->Nat->Value} {n:Nat} {x:Value} (h:Rows w ks V n x):(Builtin.lenOf x).run P w=.ok n w/\(Builtin.firstCells ks.length n x).run P w=.ok (zq ks V n).toArray w:=by
 rcases h with ⟨⟨ad,cp,rfl⟩,rfl⟩ | ⟨blk,off,cap,c,T,fr,rfl,_,hh,hc⟩
 . exact ⟨rfl,pE⟩
 . refine ⟨rfl,?_⟩
   have h1:=run_loadCells_list (P:=P) w ⟨blk,off,none⟩ (zq ks V n) fun q v hq=>by
     obtain ⟨r,j,k,hr,hj,rfl,rfl⟩:=uf hq;rw [addr_add,za hh,<-Nat.add_assoc];exact hc r j k hr hj
   rw [zR] at h1;simp only [Builtin.firstCells,h1]
theorem QK {sz:Nat} {ks:List CK} {y:AV} {u m:E} {lo:Int} {ps:List PE} {x:Value} (hm:qX A I P g M w) (h:Zt M sz ks y=some (u,lo,m,ps)) (hsz:sz=ks.length)
   (hp:∀q∈ps,q.den I g.env) (hy:Rel I g y x) :
   ∃(fu:Int->Nat->Int) (mm:Nat),u.den I g.env=some (.t fu)/\m.den I g.env=some (.i mm)/\∃V,Yt g ks (fun r j=>fu (lo+r) j) V mm/\Rows w ks V mm x:=by
 subst hsz;unfold Zt at h;split at h
 . simp at h;obtain ⟨rfl,rfl,rfl,rfl⟩:=h;simp only [Rel] at hy;exact ⟨_,0,rfl,rfl,fun _ _=>Go.undef,fun _ _ _ h=>absurd h (by omega),.inl ⟨⟨_,_,hy⟩,rfl⟩⟩
 . simp at h;obtain ⟨rfl,rfl,rfl,rfl⟩:=h;obtain ⟨ad,hy⟩:=hy;exact ⟨_,0,rfl,rfl,fun _ _=>Go.undef,fun _ _ _ h=>absurd h (by omega),.inl ⟨⟨_,_,hy⟩,rfl⟩⟩
 . simp at h;obtain ⟨rfl,rfl,rfl,rfl⟩:=h;obtain ⟨ad,hy⟩:=hy;exact ⟨_,0,rfl,rfl,fun _ _=>Go.undef,fun _ _ _ h=>absurd h (by omega),.inl ⟨⟨_,_,hy⟩,rfl⟩⟩
 . simp at h;obtain ⟨rfl,rfl,rfl,rfl⟩:=h;obtain ⟨ad,cp,hy⟩:=hy;exact ⟨_,0,rfl,rfl,fun _ _=>Go.undef,fun _ _ _ h=>absurd h (by omega),.inl ⟨⟨_,_,hy⟩,rfl⟩⟩
 . rename_i ks2 e;split at h
   . rename_i hc;obtain ⟨rfl,_,hne⟩:=hc;simp only [Option.some.injEq,Prod.mk.injEq] at h;obtain ⟨rfl,rfl,rfl,rfl⟩:=h;obtain ⟨n,h1,hv⟩:=hy
     have htab:(E.fn 1017 e (.lit ks2.length) (.lit 0) (.lit 0)).den I g.env=some (.t (gG n ks2.length)):=
       vK (j:=17) h1 (show (E.lit ks2.length).den I g.env=some (.i (ks2.length:Nat)) from rfl) (show (E.lit 0).den I g.env=some (.i 0) from rfl) (show (E.lit 0).den I g.env=some (.i 0) from rfl)
     rcases hv with ⟨⟨ad,rfl⟩,h0⟩ | ⟨o,off,len,cap,cs,rfl,hz,hcap,hl,hc⟩
     . exact ⟨_,0,htab,by rw [bS h1,om h0];rfl,fun _ _=>Go.undef,fun _ _ _ h=>absurd h (by omega),.inl ⟨⟨_,_,rfl⟩,rfl⟩⟩
     . obtain ⟨_,_,⟨T,fr,hh⟩,_⟩:=hm.frz o cs hz;have hw:ks2.length≠0:=fun e0=>hne (List.eq_nil_of_length_eq_zero e0);refine ⟨_,len,htab,by rw [bS h1,Xn hw hl],fun r j=>(cs[off+r*ks2.length+j]?).getD Go.undef,fun r j k hr hj=>?_,.inr ⟨o,off,cap,cs,T,fr,rfl,hcap,hh,fun r j k hr hj=>?_⟩⟩
       . rw [List.getElem?_map,Option.map_eq_some_iff] at hj;obtain ⟨k0,hj0,rfl⟩:=hj;dsimp only;rw [hc r j k0 hr hj0];simp only [Option.getD_some,gG,Int.zero_add,Int.toNat_natCast];exact k0.wY _
       . rw [List.getElem?_map,Option.map_eq_some_iff] at hj;obtain ⟨k0,hj0,rfl⟩:=hj;simp only [List.length_map];rw [hc r j k0 hr hj0];rfl
   . cases h
 . rename_i b lo0 m' s2 nl;split at h
   . rename_i ks2 u' m2 wr nl2 hb;split at h
     . rename_i hc;obtain ⟨rfl,rfl⟩:=hc;obtain ⟨f,n2,hf,hn2,hn0,hrow⟩:=hm.blk _ _ hb;obtain ⟨l,n,h1,h2,h3,h4,h5⟩:=hy;simp [E.den] at h1;subst h1
       -- the rows are there
       have fin:∀{lo1:Int},lo1=lo0->(n=0\/lo0.toNat+n.toNat<=n2.toNat)->
           ∃(fu:Int->Nat->Int) (mm:Nat),u'.den I g.env=some (.t fu)/\m'.den I g.env=some (.i mm)/\∃V,Yt g ks (fun r j=>fu (lo1+r) j) V mm/\Rows w ks V mm x:=by
         intro lo1 hlo1 hle;subst hlo1;refine ⟨f,n.toNat,hf,by rw [h2,Int.toNat_of_nonneg h4],?_⟩;rcases h5 with ⟨p,cap,h6,h7,h8,h9⟩ | ⟨_,h6,ad,h7⟩
         . by_cases EX:n=0
           . subst EX;exact ⟨fun _ _=>Go.undef,fun _ _ _ h=>absurd h (by simp),.inl ⟨⟨_,_,h7⟩,rfl⟩⟩
           rcases hrow with ⟨p',c,T,fr,hp',hh,hcs,_⟩ | ⟨_,hz,_⟩
           . rw [h6] at hp';cases hp'
             have key:∀(r j:Nat) (k:CK),r<n.toNat->ks[j]?=some k->k.at g (f (lo1+r) j) c[p.base+lo1.toNat*ks.length+r*ks.length+j]?:=fun r j k hr hj=>by
               have:=hcs (lo1.toNat+r) j k (by omega) hj;rw [Nat.add_mul,<-Nat.add_assoc] at this
               rwa [show ((lo1.toNat+r:Nat):Int)=lo1+r by omega] at this
             exact ⟨fun r j=>(c[p.base+lo1.toNat*ks.length+r*ks.length+j]?).getD Go.undef,fun r j k hr hj=>(yL (key r j k hr hj)).1,
               .inr ⟨p.blk,p.base+lo1.toNat*ks.length,cap,c,T,fr,h7,h8,hh,fun r j k hr hj=>(yL (key r j k hr hj)).2⟩⟩
           . omega
         . subst h6;exact ⟨fun _ _=>Go.undef,fun _ _ _ h=>absurd h (by simp),.inl ⟨⟨_,_,h7⟩,rfl⟩⟩
       split at h
       . rename_i hlo;simp at h;obtain ⟨rfl,rfl,rfl,rfl⟩:=h;refine fin hlo.symm (.inr ?_)
         have hle:n<=n2:=by
           by_cases he:m'=m2
           . subst he;rw [h2] at hn2;simp at hn2;omega
           . rw [if_neg he] at hp;exact zn h2 hn2 (hp _ (List.mem_singleton.2 rfl))
         omega
       . split at h
         . rename_i mm;split at h
           . rename_i hc;simp at h;obtain ⟨rfl,rfl,rfl,rfl⟩:=h;refine fin rfl (.inr ?_);have e:n=mm:=by simp [E.den] at h2;exact h2.symm
             subst e;have hle:=zn (show (E.lit (lo0+n)).den I g.env=some (.i (lo0+n)) from rfl) hn2 (hp _ (List.mem_singleton.2 rfl));omega
           . cases h
         . simp at h;obtain ⟨rfl,rfl,rfl,rfl⟩:=h;have hle:=zn (zk (show (E.lit lo0).den I g.env=some (.i lo0) from rfl) h2) hn2 (hp _ (List.mem_singleton.2 rfl));obtain ⟨fu,mm,k1,k2,k3⟩:=fin rfl (.inr (by omega));rw [hf] at k1;cases k1;refine ⟨fun r c=>f (r+lo0) c,mm,by simp [E.den,hf],k2,?_⟩;have e:(fun r j=>f (lo0+r) j)=fun (r:Int) (j:Nat)=>f (0+r+lo0) j:=by funext r j;congr 1;omega
           rw [e] at k3;exact k3
     . cases h
   . cases h
 . rename_i b loE m' s2 nl _;split at h
   . rename_i ks2 u' m2 wr nl2 hb;split at h
     . rename_i hc;obtain ⟨rfl,rfl⟩:=hc;simp at h;obtain ⟨rfl,rfl,rfl,rfl⟩:=h;obtain ⟨f,n2,hf,hn2,hn0,hrow⟩:=hm.blk _ _ hb;obtain ⟨l,n,h1,h2,h3,h4,h5⟩:=hy;have hle:=zn (zk h1 h2) hn2 (hp _ (List.mem_singleton.2 rfl));refine ⟨fun r c=>f (r+l) c,n.toNat,by simp [E.den,hf,h1],by rw [h2,Int.toNat_of_nonneg h4],?_⟩;rcases h5 with ⟨p,cap,h6,h7,h8,h9⟩ | ⟨_,h6,ad,h7⟩
       . by_cases EX:n=0
         . subst EX;exact ⟨fun _ _=>Go.undef,fun _ _ _ h=>absurd h (by simp),.inl ⟨⟨_,_,h7⟩,rfl⟩⟩
         rcases hrow with ⟨p',c,T,fr,hp',hh,hcs,_⟩ | ⟨_,hz,_⟩
         . rw [h6] at hp';cases hp'
           have key:∀(r j:Nat) (k:CK),r<n.toNat->ks[j]?=some k->k.at g (f (0+(r:Int)+l) j) c[p.base+l.toNat*ks.length+r*ks.length+j]?:=fun r j k hr hj=>by
             have:=hcs (l.toNat+r) j k (by omega) hj;rw [Nat.add_mul,<-Nat.add_assoc] at this
             rwa [show ((l.toNat+r:Nat):Int)=0+(r:Int)+l by omega] at this
           exact ⟨fun r j=>(c[p.base+l.toNat*ks.length+r*ks.length+j]?).getD Go.undef,fun r j k hr hj=>(yL (key r j k hr hj)).1,
             .inr ⟨p.blk,p.base+l.toNat*ks.length,cap,c,T,fr,h7,h8,hh,fun r j k hr hj=>(yL (key r j k hr hj)).2⟩⟩
         . omega
       . subst h6;exact ⟨fun _ _=>Go.undef,fun _ _ _ h=>absurd h (by simp),.inl ⟨⟨_,_,h7⟩,rfl⟩⟩
     . cases h
   . cases h
 . cases h
inductive Dst (I:Itp) (P:Program) (g:G) (M:Mem) (w:World) (ks:List CK) (y:AV) (f:Int->Nat->Int) (N:Nat) (nl:Bool):Option Nat->Value->Prop
 | nil (bo:Option Nat) (base:Option Addr):N=0->nl=true->Dst I P g M w ks y f N nl bo (.slice base 0 0)
 | row (b:Nat) (p:PB) (c:Array Value) (T:TypeId) (cap:Nat) (blk:Blk) (fr:Nat × Nat):get M b=some blk->blk.wr=true->g.φ b=some p->N<=cap->cap*ks.length<=p.tot->w.heap[p.blk]?=some (.cells c T fr)->Free fr c.size->
     (∀(r j:Nat) (k:CK),r<N->ks[j]?=some k->k.at g (f r j) c[p.base+r*ks.length+j]?)->p.base+p.tot<=c.size->y.other b=true->
     Dst I P g M w ks y f N nl (some b) (.slice (some ⟨p.blk,p.base,none⟩) N cap)
theorem GI {sz:Nat} {ks:List CK} {x y:AV} {t n:E} {nl:Bool} {bo:Option Nat} {ps:List PE} {v:Value} (hm:qX A I P g M w) (h:XR M sz ks x y=some (bo,t,n,nl,ps)) (hsz:sz=ks.length)
   (hp:∀q∈ps,q.den I g.env) (hx:Rel I g x v):∃(f:Int->Nat->Int) (N:Nat),t.den I g.env=some (.t f)/\n.den I g.env=some (.i N)/\Dst I P g M w ks y f N nl bo v:=by
 subst hsz;unfold XR at h;split at h
 . simp at h;obtain ⟨rfl,rfl,rfl,rfl,rfl⟩:=h;simp only [Rel] at hx;subst hx;exact ⟨_,0,rfl,rfl,.nil _ _ rfl rfl⟩
 . simp at h;obtain ⟨rfl,rfl,rfl,rfl,rfl⟩:=h;obtain ⟨ad,rfl⟩:=hx;exact ⟨_,0,rfl,rfl,.nil _ _ rfl rfl⟩
 . simp at h;obtain ⟨rfl,rfl,rfl,rfl,rfl⟩:=h;obtain ⟨ad,rfl⟩:=hx;exact ⟨_,0,rfl,rfl,.nil _ _ rfl rfl⟩
 . rename_i b n' s1 nl';split at h
   . rename_i ks1 t' n1 nl1 hb;split at h
     . rename_i hc;obtain ⟨rfl,rfl,hoth⟩:=hc;simp at h;obtain ⟨rfl,rfl,rfl,rfl,rfl⟩:=h;obtain ⟨f,n2,hf,hn2,hn0,hrow⟩:=hm.blk _ _ hb;obtain ⟨l,N,h1,h2,h3,h4,h5⟩:=hx;simp [E.den] at h1;subst h1
       have hle:N<=n2:=by
         by_cases he:n'=n1
         . subst he;rw [h2] at hn2;simp at hn2;omega
         . rw [if_neg he] at hp;exact zn h2 hn2 (hp _ (List.mem_singleton.2 rfl))
       refine ⟨f,N.toNat,hf,by rw [h2,Int.toNat_of_nonneg h4],?_⟩;rcases h5 with ⟨p,cap,h6,h7,h8,h9⟩ | ⟨h6,h7,ad,h8⟩
       . rcases hrow with ⟨p',c,T,fr,hp',hh,hcs,hwr⟩ | ⟨_,_,hnone⟩
         . rw [h6] at hp';cases hp';obtain ⟨hfr,hcsz,htot⟩:=hwr rfl;have h7':v=.slice (some ⟨p.blk,p.base,none⟩) N.toNat cap:=by simpa using h7
           rw [h7'];exact .row b p c T cap _ fr hb rfl h6 h8 (by simpa using h9) hh hfr (fun r j k hr hj=>hcs r j k (by omega) hj) hcsz hoth
         . rw [h6] at hnone;cases hnone
       . subst h7;subst h8;exact .nil _ _ rfl h6
     . cases h
   . cases h
 . cases h
section run
variable {t u ty el:TypeId} {d:TypeId} {ti:TypeInfo} {z:Value} {ks:List CK} {n m cap:Nat} {base:Option Addr} {y:Value}
theorem run_append_nothing (hn:n<=cap) (ht:P.underlying t=some (.slice el)) (hu:P.underlying u=some (.slice d)) (hi:P.info? el=some ti)
   (hy:(Builtin.lenOf y).run P w=.ok 0 w) (hf:(Builtin.firstCells ti.size 0 y).run P w=.ok #[] w) :
   (Builtin.append_ #[t,u] ty #[.slice base n cap,y]).run P w=.ok (.slice base n cap) w:=by
 have hs:∀ad:Addr,(storeCells ad []).run P w=.ok () w:=fun ad=>rfl;cases base <;> simp [hn,hs,Builtin.append_,run_underlying ht,run_underlying hu,sizeOf,typeInfo,hi,hy,hf,Result.andThen]
theorem ug (ht:P.underlying t=some (.slice el)) (hu:P.underlying u=some (.slice d)) (hi:P.info? el=some ti) {w':World} {ad:Addr} {new:Array Value}
   (hy:(Builtin.lenOf y).run P w=.ok m w) (hf:(Builtin.firstCells ti.size m y).run P w=.ok new w) (hle:n+m<=cap) (hst:(storeCells (ad.add (n*ti.size)) new.toList).run P w=.ok () w') :
   (Builtin.append_ #[t,u] ty #[.slice (some ad) n cap,y]).run P w=.ok (.slice (some ad) (n+m) cap) w':=by
 simp [Builtin.append_,run_underlying ht,run_underlying hu,sizeOf,typeInfo,hi,hy,hf,Result.andThen,hle,hst]
theorem run_append_grow (ht:P.underlying t=some (.slice el)) (hu:P.underlying u=some (.slice d)) (hi:P.info? el=some ti) (hz:ti.zero=some z) {old new:Array Value}
   (hy:(Builtin.lenOf y).run P w=.ok m w) (hf:(Builtin.firstCells ti.size m y).run P w.drew=.ok new w.drew) (hle:cap<n+m)
   (ho:(Builtin.firstCells ti.size n (.slice base n cap)).run P w.drew=.ok old w.drew) (hsb:(n+m)*ti.bytes<=1000000000) (hb0:ti.bytes≠0) :
   ∃nc,n+m<=nc/\(Builtin.append_ #[t,u] ty #[.slice base n cap,y]).run P w =
     .ok (.slice (some ⟨w.heap.size,0,none⟩) (n+m) nc) (w.drew.alloc (.cells (old++new++Builtin.zeroCells z.cells (nc - (n+m))) el)):=by
 have hn1:¬(n+m<=cap):=by omega
 have hgs:=growslice_fits (need:=n+m) (old:=cap) (bytes:=ti.bytes) hle (by omega);have hn3:¬(Builtin.nextslicecap (n+m) cap*ti.bytes > 2 ^ 48):=by omega
 refine ⟨(Question.appendCap (n+m) cap el).cut (w.tape w.drawn (.appendCap (n+m) cap el)),by simp [Question.cut],?_⟩;simp [Builtin.append_,run_underlying ht,run_underlying hu,sizeOf,typeInfo,hi,hy,hf,Result.andThen,hn1,hb0,hn3,Question.forced,ho,zeroValue,hz,newRow]
end run
theorem Zy {s:St} {o:Oper} {t u el d:TypeId} {x y:Operand} {v yv r:AV} {s1:St} {ps:List PE} (hs:qW A I P X g s a w)
   (hop:o.op=.call { callee:=.builtin .append,args:=#[x,y],argTypes:=#[t,u] }) (ht:P.underlying t=some (.slice el)) (hu:P.underlying u=some (.slice d))
   (hx:Rel I g v (a.eval x)) (hy:Rel I g yv (a.eval y)) (h:mU P s el v yv=some (r,s1,ps)) (hp:∀q∈ps,q.den I g.env) :
   zY A I P X g a w o r s1:=by
 unfold mU at h;split at h
 case h_2=>cases h
 rename_i z sz bytes hz hsz hbytes;split at h
 case h_2=>cases h
 rename_i ks hks;split at h
 case isFalse=>cases h
 rename_i hc;obtain ⟨NT,hk0,hb1,hb0,hzl⟩:=hc;split at h
 case h_2=>cases h
 rename_i uE lo mE p1 bo tE nE nl p2 hsrc hdst;split at h
 case h_2=>cases h
 rename_i t' qjf;simp at h;obtain ⟨rfl,rfl,rfl⟩:=h;obtain ⟨ti,zx,hi,hiz,hzr,zM⟩:=zC hz;have oV:ti.size=ks.length:=by simp [qo,hi] at hsz;omega
 have Gl:ti.bytes=bytes:=by simpa [hi] using hbytes
 obtain ⟨fu0,m,hfu,hm,V,hV,DI⟩:=QK hs.m hsrc NT (fun q hq=>hp q (by simp [hq])) hy;obtain ⟨f,n,hf,hn,IV⟩:=GI hs.m hdst NT (fun q hq=>hp q (by simp [hq])) hx;have hnm:=zn (zk hn hm) (show (E.lit 1000000).den I g.env=some (.i 1000000) from rfl) (hp _ (by simp));obtain ⟨f',hf',hold,hnew⟩:=Xe hV qjf hf hfu hn hm (by omega);have hN:((n:Int)+(m:Int))=((n+m:Nat):Int):=by omega
 have Q0:(Builtin.lenOf (a.eval y)).run P w=.ok m w:=(DI.first (P:=P)).1
 have hfY:∀w',w'.heap=w.heap->(Builtin.firstCells ti.size m (a.eval y)).run P w'=.ok (zq ks V m).toArray w':=fun w' hw'=>by
   rw [oV];have:Rows w' ks V m (a.eval y):=by unfold Rows at DI ⊢;rw [hw'];exact DI
   exact (this.first (P:=P)).2
 -- what the rows are behind the append
 have hval:∀(g1:G) (c:Array Value) (base:Nat),g.Le g1->(∀(q:Nat) (k:CK) (j:Nat),q<n->ks[j]?=some k->k.at g (f q j) c[base+q*ks.length+j]?)->
     (∀(q:Nat) (k:CK) (j:Nat),q<m->ks[j]?=some k->c[base+(n+q)*ks.length+j]?=some (V q j))->
     ∀(q j:Nat) (k:CK),q<n+m->ks[j]?=some k->k.at g1 (f' q j) c[base+q*ks.length+j]?:=by
   intro g1 c base hle h1 h2 q j k hq hj;by_cases hqn:q<n
   . rw [hold q j (by omega) (by omega)];exact CK.Zw hle hs.m.wf (h1 q k j hqn hj)
   . have h3:=h2 (q - n) k j (by omega) hj;rw [show n+(q - n)=q by omega] at h3;have h4:=hnew (q - n) j k hj (by omega);rw [show ((n:Int)+((q - n:Nat):Int))=(q:Int) by omega] at h4;exact ⟨_,h3,CK.RY hle hs.m.wf h4⟩
 have exec:∀{val:Value} {w':World},(Builtin.append_ #[t,u] o.type #[a.eval x,a.eval y]).run P w=.ok val w'->(execOp a.eval o).run P w=.ok (.value val) w':=by
   intro val w' hrun;simp [execOp,hop,resolve,invoke,builtin,hrun,Result.andThen]
 -- a new array
 have grow:∀(cap:Nat) (base:Option Addr) (old:List Value),cap<n+m->a.eval x=.slice base n cap->(∀(q:Nat) (k:CK) (j:Nat),q<n->ks[j]?=some k->k.at g (f q j) old[q*ks.length+j]?)->
     old.length=n*ks.length->(Builtin.firstCells ti.size n (.slice base n cap)).run P w.drew=.ok old.toArray w.drew->
     zY A I P X g a w o (.slice s.nb (.lit 0) (mkAdd nE mE) sz (jD nl mE))
       { s with mem:=(s.nb,.rows ks t' (mkAdd nE mE) true (jD nl mE))::wL bo s.mem,nb:=s.nb+1 }:=by
   intro cap base old hcap hex hold' hol hfo
   obtain ⟨nc,hnc,hrun⟩:=run_append_grow (t:=t) (u:=u) (ty:=o.type) (base:=base) ht hu hi hiz (new:=(zq ks V m).toArray) Q0
     (hfY w.drew rfl) hcap hfo (by have:=Nat.mul_le_mul (show n+m<=1000000 by omega) (show ti.bytes<=1000 by omega);omega) (by omega)
   rw [<-hex] at hrun;let p:PB:={ blk:=w.heap.size,base:=0,tot:=nc*ks.length };refine ⟨_,_,g.lay (some p),.inl (exec hrun),g.qH _,rfl,?_,?_⟩
   . exact ⟨0,((n+m:Nat):Int),rfl,by rw [<-hN];exact zk hn hm,Int.le_refl _,by omega,.inl ⟨p,nc,by rw [<-hs.nb];exact G.zh g (some p),by simp [p];omega,by simp;omega,by simp [p,NT]⟩⟩
   . have hm1:=(hs.m.lG (w':=w.drew) rfl).alloc (M':=wL bo s.mem) (p:=p)
       (o:=.cells (old.toArray++(zq ks V m).toArray++Builtin.zeroCells zx.cells (nc - (n+m))) el)
       (x:=.rows ks t' (mkAdd nE mE) true (jD nl mE))
       (fun b z hz=>by
         cases bo with
         | none=>exact hz
         | some b0=>
           simp only [wL,yT] at hz;split at hz
           . cases hz
           . exact hz) rfl
       (cO (n:=n+m) (G.zh g (some p)) rfl (heap_alloc_new _ _) hf' (by rw [<-hN];exact zk hn hm) (fun q j k hq hj=>by
         have hjlt:j<ks.length:=(List.getElem?_eq_some_iff.1 hj).1
         have:=hval (g.lay (some p)) (old.toArray++(zq ks V m).toArray++Builtin.zeroCells zx.cells (nc - (n+m))) 0 (g.qH _) (fun q k j hq hj=>by
           have hjlt:j<ks.length:=(List.getElem?_eq_some_iff.1 hj).1;have hlt:=xq hjlt hq;have:=hold' q k j hq hj;rw [Nat.zero_add,Array.getElem?_append_left (by simp;omega),Array.getElem?_append_left (by simp;omega)];simpa using this) (fun q k j hq hj=>by
           have hjlt:j<ks.length:=(List.getElem?_eq_some_iff.1 hj).1;have hlt:=xq hjlt hq;have:=wo (V:=V) hq hj;rw [Nat.zero_add,Nat.add_mul,Array.getElem?_append_left (by simp [zR];omega),Array.getElem?_append_right (by simp;omega)];simp only [List.size_toArray,hol,List.getElem?_toArray];rw [<-this];congr 1;omega) q j k hq hj
         rw [Nat.zero_add] at this;exact this) (by
         have hzs:zx.cells.size=ks.length:=by
           have h1:=(zM I g).2.length;simp at h1;omega
         simp [zR,hol,size_zeroCells,hzs,p,<-Nat.add_mul];exact Nat.mul_le_mul_right _ (by omega)) (Nat.mul_le_mul_right _ hnc))
     rw [hs.nb] at hm1;exact hs.lay hm1
 have qz9:∀b z,get (wL bo s.mem) b=some z->get s.mem b=some z:=fun b z hz=>by
   cases bo with
   | none=>exact hz
   | some b0=>
     simp only [wL,yT] at hz;split at hz
     . cases hz
     . exact hz
 have hden:(mkAdd nE mE).den I g.env=some (.i ((n+m:Nat):Int)):=by rw [<-hN];exact zk hn hm
 generalize hex:a.eval x=xv at IV;cases IV with
 | nil bo base hN0 hnl=>
   subst hN0;by_cases hm0:m=0
   . subst hm0
     have qyP:(jD nl mE)=true:=by
       rw [hnl];cases mE <;> simp [E.den] at hm <;> simp [jD]
       omega
     rw [qyP]
     have qyO:(Builtin.firstCells ti.size 0 (a.eval y)).run P w=.ok #[] w:=by
       have:=hfY w rfl;simpa [zq] using this
     have hrun:=run_append_nothing (t:=t) (u:=u) (ty:=o.type) (n:=0) (cap:=0) (base:=base) (Nat.le_refl _) ht hu hi Q0 qyO;rw [<-hex] at hrun;refine ⟨_,w,g.lay none,.inl (exec hrun),g.qH _,rfl,?_,?_⟩
     . rw [hex];exact ⟨0,0,rfl,by simpa [G.lay] using hden,Int.le_refl _,Int.le_refl _,.inr ⟨rfl,rfl,base,rfl⟩⟩
     . have hm1:=hs.m.oQ (x:=.rows ks t' (mkAdd nE mE) true true) qz9 ⟨f',0,hf',by simpa [G.lay] using hden,Int.le_refl _,.inr ⟨rfl,rfl,by simp⟩⟩;rw [hs.nb] at hm1;exact hs.lay hm1
   . exact grow 0 base [] (by omega) hex (fun q k j hq=>by omega) (by simp) (by have:=pE (P:=P) (w:=w.drew) (ks:=ks) (V:=V) (ad:=base) (cp:=0);rw [oV];simpa [zq] using this)
 | row b p c T cap blk fr hb hwr hφ hnc hct hh hfr hcont hcs hoth=>
   by_cases hroom:n+m<=cap
   . have hfit:p.base+n*ks.length+(zq ks V m).length<=c.size:=by
       rw [zR,Nat.add_assoc,<-Nat.add_mul];have:=Nat.mul_le_mul_right ks.length hroom;omega
     have hst:=ko (P:=P) p.blk (p.base+n*ks.length) T (zq ks V m) 0 c w hh hfr (by simpa using hfit) (YT hV)
     have hst':(storeCells ((⟨p.blk,p.base,none⟩:Addr).add (n*ti.size)) (zq ks V m).toArray.toList).run P w=.ok () (w.setRow p.blk (c.toList.take (p.base+n*ks.length+0)++zq ks V m++c.toList.drop (p.base+n*ks.length+0+(zq ks V m).length)).toArray):=by
       rw [oV,addr_add];exact hst
     have hrun:=ug (t:=t) (u:=u) (ty:=o.type) ht hu hi Q0 (hfY w rfl) hroom hst';rw [<-hex] at hrun;have hle:=g.qH (some p);refine ⟨_,_,g.lay (some p),.inl (exec hrun),hle,rfl,?_,?_⟩
     . exact ⟨0,((n+m:Nat):Int),rfl,hden,Int.le_refl _,by omega,.inl ⟨p,cap,by rw [<-hs.nb];exact G.zh g (some p),by simp;omega,by simp;omega,by simp [NT];omega⟩⟩
     . generalize hcn:(c.toList.take (p.base+n*ks.length+0)++zq ks V m++c.toList.drop (p.base+n*ks.length+0+(zq ks V m).length)).toArray=cn
       have hcg:∀q,cn[q]?=if p.base+n*ks.length<=q/\q<p.base+n*ks.length+(zq ks V m).length then (zq ks V m)[q - (p.base+n*ks.length)]? else c[q]?:=fun q=>by
         rw [<-hcn,List.getElem?_toArray,Nat.add_zero,jd _ _ _ (by simpa using hfit)];simp
       have hcsz:cn.size=c.size:=by
         rw [<-hcn];simp;omega
       have hbr:∀(g1:G) (b1:Nat),g.Le g1->g1.φ b1=some p->(∃xs,g1.env=g.env++xs)->jN I P g1 b1 (fun i=>(w.setRow p.blk cn).heap[i]?) (.rows ks t' (mkAdd nE mE) true (jD nl mE)):=by
         intro g1 b1 hle1 hb1 ⟨xs,hxs⟩;refine ⟨f',((n+m:Nat):Int),by rw [hxs];exact E.zT hf',by rw [hxs];exact E.zT hden,by omega,.inl ⟨p,cn,T,fr,hb1,setRow_heap _ _ _ _ _ _ hh,fun q j k hq hj=>?_,fun _=>⟨by rw [hcsz];exact hfr,by omega,by rw [Int.toNat_natCast];exact Nat.le_trans (Nat.mul_le_mul_right _ hroom) hct⟩⟩⟩;refine hval g1 cn p.base hle1 (fun q k j hq hj=>?_) (fun q k j hq hj=>?_) q j k (by simp at hq;omega) hj
         . have hlt:=xq (List.getElem?_eq_some_iff.1 hj).1 hq;rw [hcg,if_neg (by omega)];exact hcont q j k hq hj
         . have hlt:=xq (List.getElem?_eq_some_iff.1 hj).1 hq;rw [hcg,if_pos (by rw [zR,Nat.add_mul];omega),<-wo (V:=V) hq hj]
           congr 1
           rw [Nat.add_mul];omega
       have hm1:=hs.m.write (w':=w.setRow p.blk cn) hb hwr hφ (by simp) (fun i hi=>setRow_other _ _ _ _ hi) (hbr g b (.refl g) hφ ⟨[],by simp⟩)
       have hm2:=hm1.rename (b:=b) (x:=.rows ks t' (mkAdd nE mE) true (jD nl mE)) (y:=.rows ks t' (mkAdd nE mE) true (jD nl mE))
         (by rw [get_put,if_pos rfl]) hφ rfl (hbr _ _ hle (G.zh g (some p)) hle.env)
       have hm3:=hm2.sub (M':=(g.nb,.rows ks t' (mkAdd nE mE) true (jD nl mE))::wL (some b) s.mem) (fun c z hz=>by
         simp only [qQ] at hz ⊢;split at hz
         . rename_i hc;rw [if_pos hc];exact hz
         . rename_i hc;rw [if_neg hc];simp only [wL,yT] at hz ⊢;split at hz
           . cases hz
           . rename_i hbc;rw [if_neg hbc,get_put,if_neg hbc];exact hz)
       rw [hs.nb] at hm3;exact hs.lay hm3
   . refine grow cap (some ⟨p.blk,p.base,none⟩) (zq ks (fun r j=>(c[p.base+r*ks.length+j]?).getD Go.undef) n) (by omega) hex (fun q k j hq hj=>⟨_,wo hq hj,(yL (hcont q j k hq hj)).1⟩) (zR _ _ _) ?_;have hR:Rows w.drew ks (fun r j=>(c[p.base+r*ks.length+j]?).getD Go.undef) n (.slice (some ⟨p.blk,p.base,none⟩) n cap):=.inr ⟨p.blk,p.base,cap,c,T,fr,rfl,hnc,hh,fun q j k hq hj=>(yL (hcont q j k hq hj)).2⟩;rw [oV];exact (hR.first (P:=P)).2
theorem fF {o:Oper} {t el:TypeId} {lo co:Operand} {k1 k2:IntKind} {x:Int} {sz bytes:Nat} {z:AV} {ks:List CK} (hop:o.op=.makeSlice t lo co)
   (hu:P.underlying t=some (.slice el)) (hl:Rel I g (.int k1 (.lit x)) (a.eval lo)) (hc:Rel I g (.int k2 (.lit x)) (a.eval co)) (hz:zJ P el=some z) (hsz:qo P el=some sz)
   (hb:(P.info? el).map (·.bytes)=some bytes) (h0:0<=x) (hx:x<=70000) (hby:bytes<=1000) (hzl:z.cells.length=sz) (hks:jw z.cells=some ks) (haz:z.cells.all AV.isZero=true) :
   ∃(cs:Array Value) (n:Nat),x=n/\(execOp a.eval o).run P w=.ok (.value (.slice (some ⟨w.heap.size,0,none⟩) n n)) (w.alloc (.cells cs el))/\
     ∀(g1:G) (b:Nat),g1.φ b=some ⟨w.heap.size,0,n*sz⟩->jN I P g1 b (fun i=>(w.alloc (.cells cs el)).heap[i]?) (.rows ks .zt (.lit x) true false):=by
 obtain ⟨ti,zx,hi,hiz,hzr,zM⟩:=zC hz;have Gl:ti.bytes=bytes:=by simpa [hi] using hb
 have oV:ti.size=sz:=by simpa [qo,hi] using hsz
 obtain ⟨n1,h1,h2⟩:=hl;obtain ⟨n2,h3,h4⟩:=hc;simp [E.den] at h1 h3;subst h1;subst h3;obtain ⟨n,rfl⟩:=Int.eq_ofNat_of_zero_le h0;have hkl:=xD hks;have hxs:zx.cells.size=sz:=by rw [<-hzl];simpa using ((zM I g).2.length).symm
 let cs:Array Value:=(Array.range (n*sz)).map (fun i=>zx.cells[i % zx.cells.size]!);have hw1:IntKind.i64.wrap (n:Int)=n:=by simp [IntKind.wrap,IntKind.signed,IntKind.bits];omega
 have hrun:(execOp a.eval o).run P w=.ok (.value (.slice (some ⟨w.heap.size,0,none⟩) n n)) (w.alloc (.cells cs el)):=by
   have hbn:¬((bytes:Int)*(n:Int) > 2 ^ 48):=by
     have:bytes*n<=1000*70000:=Nat.mul_le_mul hby (by omega);have h':((bytes*n:Nat):Int)<=70000000:=by omega
     rw [Int.natCast_mul] at h';omega
   have hn0:¬((n:Int)<0):=by omega
   simp only [execOp,hop,h2,h4,Instr.makeSlice,Sem.run_bind,run_underlying hu,Result.andThen,asInt,asIntOf,Sem.run_pure,vD hi,hw1,Gl];by_cases hz0:n*sz=0
   . have hcs:cs=#[]:=by simp [cs,hz0,show Array.range 0=#[] from rfl]
     simp [hn0,qD hsz,Result.andThen,hz0,newRow,hcs,show Array.range 0=#[] from rfl];rw [if_neg (by omega)]
   . simp [hn0,qD hsz,Result.andThen,hz0,newRow,hzr];rw [if_neg (by omega)]
 refine ⟨cs,n,rfl,hrun,fun g1 b hb1=>?_⟩
 exact cO (n:=n) (f:=fun _ _=>0) hb1 rfl (heap_alloc_new _ _) rfl rfl (fun r j k hr hj=>by
       have hjlt:j<ks.length:=(List.getElem?_eq_some_iff.1 hj).1;have hlt:=xq hjlt hr;rw [hkl,hzl] at hlt;have hv:=tL (I:=I) (g:=g) hks haz (zM I g).2 j k hj;have hv':zx.cells[j]?=some (k.val 0):=by simpa using hv
       have hmod:(r*ks.length+j) % zx.cells.size=j:=by
         rw [hxs,<-hzl,<-hkl,Nat.mul_comm,Nat.mul_add_mod,Nat.mod_eq_of_lt hjlt]
       have:cs[r*ks.length+j]?=some (zx.cells[(r*ks.length+j) % zx.cells.size]!):=by
         simp only [cs,Array.getElem?_map];rw [hkl,hzl];simp [hlt]
       rw [this,hmod,getElem!_def,hv'];exact CK.at0 rfl) (by simp [cs]) (by simp [hkl,hzl])
theorem JM {s:St} {o:Oper} {t el:TypeId} {lo co:Operand} {k1 k2:IntKind} {x:Int} {sz bytes:Nat} {z:AV} {ks:List CK} (hs:qW A I P X g s a w) (hop:o.op=.makeSlice t lo co)
   (hu:P.underlying t=some (.slice el)) (hl:Rel I g (.int k1 (.lit x)) (a.eval lo)) (hc:Rel I g (.int k2 (.lit x)) (a.eval co)) (hz:zJ P el=some z) (hsz:qo P el=some sz)
   (hb:(P.info? el).map (·.bytes)=some bytes) (h0:0<=x) (hx:x<=70000) (hby:bytes<=1000) (hzl:z.cells.length=sz) (hks:jw z.cells=some ks) (haz:z.cells.all AV.isZero=true) :
   zY A I P X g a w o (.slice s.nb (.lit 0) (.lit x) sz false) (zm s (.rows ks .zt (.lit x) true false)):=by
 obtain ⟨cs,n,rfl,hrun,hbr⟩:=fF hop hu hl hc hz hsz hb h0 hx hby hzl hks haz;let p:PB:={ blk:=w.heap.size,base:=0,tot:=n*sz };refine ⟨_,_,g.lay (some p),.inl hrun,g.qH _,rfl,?_,?_⟩
 . exact ⟨0,n,rfl,rfl,Int.le_refl _,by omega,.inl ⟨p,n,by rw [<-hs.nb];exact G.zh g (some p),by simp [p],by simp,by simp [p]⟩⟩
 . have hm:=hs.m.alloc (M':=s.mem) (o:=.cells cs el) (p:=p) (fun _ _ h=>h) rfl (hbr _ _ (G.zh g (some p)));rw [hs.nb] at hm;exact hs.lay hm
theorem Xg {s:St} {o:Oper} {t el:TypeId} {lo co:Operand} {k1 k2:IntKind} {e e':E} {v:AV} {s1:St} {ps:List PE} (hs:qW A I P X g s a w) (hop:o.op=.makeSlice t lo co)
   (hu:P.underlying t=some (.slice el)) (hl:Rel I g (.int k1 e) (a.eval lo)) (hc:Rel I g (.int k2 e') (a.eval co)) (h:lK P s el e e'=some (v,s1,ps)) (hp:∀q∈ps,q.den I g.env) :
   zY A I P X g a w o v s1:=by
 unfold lK at h;split at h
 . rename_i z sz bytes hz hsz hb;split at h
   . rename_i ks hks;split at h
     . rename_i hcond;obtain ⟨rfl,hby,hzl,haz⟩:=hcond;simp only [Option.some.injEq,Prod.mk.injEq] at h;obtain ⟨rfl,rfl,rfl⟩:=h;obtain ⟨x,hx,hlv⟩:=hl;obtain ⟨x',hx',hcv⟩:=hc;rw [hx] at hx';cases hx'
       have key:∀{o:BO} {a b:E} {x y:Int},(PE.tt (mkBin o a b)).den I g.env->a.den I g.env=some (.i x)->b.den I g.env=some (.i y)->o.ev x y≠0:=fun h h1 h2=>by
         obtain ⟨q,hq,hq0⟩:=h;rw [qy h1 h2] at hq;cases hq;exact hq0
       have h0:0<=x:=by
         have:=key (hp _ List.mem_cons_self) (show (E.lit 0).den I g.env=some (.i 0) from rfl) hx;by_cases h:0<=x
         . exact h
         . simp [BO.ev,h] at this
       have h1:x<=70000:=by
         have:=key (hp _ (List.mem_cons_of_mem _ List.mem_cons_self)) hx (show (E.lit 70000).den I g.env=some (.i 70000) from rfl);by_cases h:x<=70000
         . exact h
         . simp [BO.ev,h] at this
       obtain ⟨cs,n,rfl,hrun,hbr⟩:=fF (g:=g) (I:=I) (w:=w) hop hu ⟨x,rfl,hlv⟩ ⟨x,rfl,hcv⟩ hz hsz hb h0 h1 hby hzl hks haz;let p:PB:={ blk:=w.heap.size,base:=0,tot:=n*sz };refine ⟨_,_,g.lay (some p),.inl hrun,g.qH _,rfl,?_,?_⟩
       . exact ⟨0,n,rfl,hx,Int.le_refl _,by omega,.inl ⟨p,n,by rw [<-hs.nb];exact G.zh g (some p),by simp [p],by simp,by simp [p]⟩⟩
       . obtain ⟨f,m,k1,k2,k3⟩:=hbr _ _ (G.zh g (some p));have hm:=hs.m.alloc (M':=s.mem) (o:=.cells cs el) (x:=.rows ks .zt e true false) (p:=p) (fun _ _ h=>h) rfl ⟨f,m,k1,by cases k2;exact hx,k3⟩;rw [hs.nb] at hm;exact hs.lay hm
     . cases h
   . cases h
 . cases h
theorem uQ {o:Oper} {t el:TypeId} {lo co:Operand} {k1 k2:IntKind} {x:Int} {sz bytes:Nat} {z:AV} (hop:o.op=.makeSlice t lo co)
   (hu:P.underlying t=some (.slice el)) (hl:Rel I g (.int k1 (.lit x)) (a.eval lo)) (hc:Rel I g (.int k2 (.lit x)) (a.eval co)) (hz:zJ P el=some z) (hsz:qo P el=some sz)
   (hb:(P.info? el).map (·.bytes)=some bytes) (h0:0<=x) (hx:x<=70000) (hby:bytes<=1000) (hzl:z.cells.length=sz) :
   ∃(cs:Array Value) (n:Nat),x=n/\(execOp a.eval o).run P w=.ok (.value (.slice (some ⟨w.heap.size,0,none⟩) n n)) (w.alloc (.cells cs el))/\
     ∀(g1:G) (b:Nat),g1.φ b=some ⟨w.heap.size,0,n*sz⟩->jN I P g1 b (fun i=>(w.alloc (.cells cs el)).heap[i]?) (.cells (rA x.toNat z.cells) true):=by
 obtain ⟨ti,zx,hi,hiz,hzr,zM⟩:=zC hz;have Gl:ti.bytes=bytes:=by simpa [hi] using hb
 have oV:ti.size=sz:=by simpa [qo,hi] using hsz
 obtain ⟨n1,h1,h2⟩:=hl;obtain ⟨n2,h3,h4⟩:=hc;simp [E.den] at h1 h3;subst h1;subst h3;obtain ⟨n,rfl⟩:=Int.eq_ofNat_of_zero_le h0;have hxs:zx.cells.size=sz:=by rw [<-hzl];simpa using ((zM I g).2.length).symm
 let cs:Array Value:=(Array.range (n*sz)).map (fun i=>zx.cells[i % zx.cells.size]!);have hw1:IntKind.i64.wrap (n:Int)=n:=by simp [IntKind.wrap,IntKind.signed,IntKind.bits];omega
 have hrun:(execOp a.eval o).run P w=.ok (.value (.slice (some ⟨w.heap.size,0,none⟩) n n)) (w.alloc (.cells cs el)):=by
   have hbn:¬((bytes:Int)*(n:Int) > 2 ^ 48):=by
     have:bytes*n<=1000*70000:=Nat.mul_le_mul hby (by omega);have h':((bytes*n:Nat):Int)<=70000000:=by omega
     rw [Int.natCast_mul] at h';omega
   have hn0:¬((n:Int)<0):=by omega
   simp only [execOp,hop,h2,h4,Instr.makeSlice,Sem.run_bind,run_underlying hu,Result.andThen,asInt,asIntOf,Sem.run_pure,vD hi,hw1,Gl];by_cases hz0:n*sz=0
   . have hcs:cs=#[]:=by simp [cs,hz0,show Array.range 0=#[] from rfl]
     simp [hn0,qD hsz,Result.andThen,hz0,newRow,hcs,show Array.range 0=#[] from rfl];rw [if_neg (by omega)]
   . simp [hn0,qD hsz,Result.andThen,hz0,newRow,hzr];rw [if_neg (by omega)]
 refine ⟨cs,n,rfl,hrun,fun g1 b hb1=>?_⟩;exact vW hb1 rfl (heap_alloc_new _ _) (Wx (n:=n) (zM I g1).2 hzl) rfl (by simp [cs])
theorem JN {s:St} {o:Oper} {t el:TypeId} {lo co:Operand} {k1 k2:IntKind} {x:Int} {sz bytes:Nat} {z:AV} (hs:qW A I P X g s a w) (hop:o.op=.makeSlice t lo co)
   (hu:P.underlying t=some (.slice el)) (hl:Rel I g (.int k1 (.lit x)) (a.eval lo)) (hc:Rel I g (.int k2 (.lit x)) (a.eval co)) (hz:zJ P el=some z) (hsz:qo P el=some sz)
   (hb:(P.info? el).map (·.bytes)=some bytes) (h0:0<=x) (hx:x<=70000) (hby:bytes<=1000) (hzl:z.cells.length=sz) :
   zY A I P X g a w o (.slice s.nb (.lit 0) (.lit x) sz false) (zm s (.cells (rA x.toNat z.cells) true)):=by
 obtain ⟨cs,n,rfl,hrun,hbr⟩:=uQ hop hu hl hc hz hsz hb h0 hx hby hzl;let p:PB:={ blk:=w.heap.size,base:=0,tot:=n*sz };refine ⟨_,_,g.lay (some p),.inl hrun,g.qH _,rfl,?_,?_⟩
 . exact ⟨0,n,rfl,rfl,Int.le_refl _,by omega,.inl ⟨p,n,by rw [<-hs.nb];exact G.zh g (some p),by simp [p],by simp,by simp [p]⟩⟩
 . have hm:=hs.m.alloc (M':=s.mem) (o:=.cells cs el) (p:=p) (fun _ _ h=>h) rfl (hbr _ _ (G.zh g (some p)));rw [hs.nb] at hm;exact hs.lay hm
end Go.Sx
end
namespace Go.Sx
open Go
variable {A:Amb} {I:Itp} {P:Program} {g:G} {X:Nat->Prop} {ts:qO} {a:Act} {M:Mem} {w:World}
theorem Qr {p:PB} {c:Array Value} {T:TypeId} {fr:Nat × Nat} {l:List AV} {k len:Nat} (hh:w.heap[p.blk]?=some (.cells c T fr))
   (hcs:∀i v,l[i]?=some v->∃x,c[p.base+i]?=some x/\Rel I g v x) (hle:k+len<=l.length) :
   ∃xs:List Value,qw I g ((l.drop k).take len) xs/\xs.length=len/\(∀q v,xs[q]?=some v->c[p.base+k+q]?=some v)/\
     ∀w':World,w'.heap=w.heap->(loadCells ⟨p.blk,p.base+k,none⟩ len).run P w'=.ok xs.toArray w':=by
 have hget:∀q,q<len->∃x,c[p.base+k+q]?=some x/\∀v,l[k+q]?=some v->Rel I g v x:=fun q hq=>by
   obtain ⟨x,h1,h2⟩:=hcs (k+q) _ (List.getElem?_eq_getElem (by omega));refine ⟨x,by rw [<-h1,Nat.add_assoc],fun v hv=>?_⟩;rw [List.getElem?_eq_getElem (by omega)] at hv;cases hv;exact h2
 have hx:∀q v,((List.range len).map fun q=>(c[p.base+k+q]?).getD Go.undef)[q]?=some v->c[p.base+k+q]?=some v:=fun q v hq=>by
   obtain ⟨h1,rfl⟩:=kX hq;obtain ⟨x,h2,_⟩:=hget q h1;rw [h2];rfl
 refine ⟨(List.range len).map fun q=>(c[p.base+k+q]?).getD Go.undef,?_,by simp,hx,fun w' hw'=>?_⟩
 . refine qw.mk (by simp;omega) fun i v y h1 h2=>?_
   have hi:i<len:=by
     have:=(List.getElem?_eq_some_iff.1 h2).1;simpa using this
   obtain ⟨x,h3,h4⟩:=hget i hi;rw [List.getElem?_take,if_pos hi,List.getElem?_drop] at h1;have:=hx i y h2;rw [h3] at this;cases this;exact h4 v h1
 . have:=run_loadCells_list (P:=P) w' ⟨p.blk,p.base+k,none⟩ ((List.range len).map fun q=>(c[p.base+k+q]?).getD Go.undef) fun q v hq=>by
     rw [addr_add,za (by rw [hw'];exact hh)];exact hx q v hq
   simpa using this
theorem gH {sz:Nat} {ad:Option Addr} {cp:Nat}:(Builtin.firstCells sz 0 (.slice ad 0 cp)).run P w=.ok #[] w:=by
 cases ad with
 | none=>simp [Builtin.firstCells]
 | some a=>
   have:=run_loadCells_list (P:=P) w a [] (fun q v hq=>by simp at hq);simp only [Builtin.firstCells,Nat.zero_mul];simpa using this
theorem YX {sz:Nat} {y:AV} {u:List AV} {x:Value} (hm:qX A I P g M w) (h:Z0 M sz y=some u) (hy:Rel I g y x) :
   ∃(mm:Nat) (xs:List Value),qw I g u xs/\xs.length=mm*sz/\(Builtin.lenOf x).run P w=.ok mm w/\
     ∀w':World,w'.heap=w.heap->(Builtin.firstCells sz mm x).run P w'=.ok xs.toArray w':=by
 have nil:∀ad cp,x=.slice ad 0 cp->∃(mm:Nat) (xs:List Value),qw I g [] xs/\xs.length=mm*sz/\(Builtin.lenOf x).run P w=.ok mm w/\
     ∀w':World,w'.heap=w.heap->(Builtin.firstCells sz mm x).run P w'=.ok xs.toArray w':=by
   rintro ad cp rfl;exact ⟨0,[],trivial,by simp,rfl,fun w' _=>gH⟩
 unfold Z0 at h;split at h
 . simp at h;subst h;simp only [Rel] at hy;exact nil _ _ hy
 . simp at h;subst h;obtain ⟨ad,hy⟩:=hy;exact nil _ _ hy
 . simp at h;subst h;obtain ⟨ad,cp,hy⟩:=hy;exact nil _ _ hy
 . rename_i b lo m s nl;split at h
   . rename_i l wr hb;split at h
     . rename_i hc;simp at h;subst h;obtain ⟨rfl,h1,h2,h3⟩:=hc;obtain ⟨p,c,T,fr,hp,hh,hcs,_⟩:=hm.blk _ _ hb;obtain ⟨l',n',h4,h5,h6,h7,h8⟩:=hy;simp [E.den] at h4 h5;subst h4;subst h5;rcases h8 with ⟨p',cap,h9,rfl,h10,h11⟩ | ⟨_,rfl,ad,rfl⟩
       . rw [hp] at h9;cases h9;obtain ⟨xs,h12,h13,_,h14⟩:=Qr (P:=P) (k:=lo.toNat*s) (len:=m.toNat*s) hh hcs (by rw [<-Nat.add_mul,<-Int.toNat_add h1 h2];exact h3);exact ⟨m.toNat,xs,h12,h13,rfl,h14⟩
       . obtain ⟨mm,xs,h12,h13⟩:=nil _ _ rfl;exact ⟨mm,xs,by simpa using h12,h13⟩
     . cases h
   . cases h
 . rename_i b k n s;split at h
   . rename_i l wr hb;split at h
     . rename_i hc;simp at h;subst h;obtain ⟨rfl,h3⟩:=hc;obtain ⟨p,c,T,fr,hp,hh,hcs,_⟩:=hm.blk _ _ hb;obtain ⟨p',cap,h9,h10,rfl⟩:=hy;rw [hp] at h9;cases h9;obtain ⟨xs,h12,h13,_,h14⟩:=Qr (P:=P) (k:=k) (len:=n*s) hh hcs h3;exact ⟨n,xs,h12,h13,rfl,h14⟩
     . cases h
   . cases h
 . cases h
inductive UF (I:Itp) (P:Program) (g:G) (M:Mem) (w:World) (sz:Nat) (l:List AV) (N:Nat):Option Nat->Value->Prop
 | nil (bo:Option Nat) (base:Option Addr):N=0->l=[]->UF I P g M w sz l N bo (.slice base 0 0)
 | row (b:Nat) (p:PB) (c:Array Value) (T:TypeId) (cap:Nat) (blk:Blk):get M b=some blk->blk.wr=true->g.φ b=some p->N<=cap->cap*sz<=p.tot->w.heap[p.blk]?=some (.cells c T (0,0))->
     l.length=N*sz->(∀i v,l[i]?=some v->∃x,c[p.base+i]?=some x/\Rel I g v x)->p.base+p.tot<=c.size->
     UF I P g M w sz l N (some b) (.slice (some ⟨p.blk,p.base,none⟩) N cap)
theorem XT {sz:Nat} {x y:AV} {l:List AV} {n:Nat} {bo:Option Nat} {v:Value} (hm:qX A I P g M w) (h:KZ M sz x y=some (bo,l,n)) (hx:Rel I g x v) :
   UF I P g M w sz l n bo v:=by
 unfold KZ at h;split at h
 . simp at h;obtain ⟨rfl,rfl,rfl⟩:=h;simp only [Rel] at hx;subst hx;exact .nil _ _ rfl rfl
 . simp at h;obtain ⟨rfl,rfl,rfl⟩:=h;obtain ⟨ad,rfl⟩:=hx;exact .nil _ _ rfl rfl
 . rename_i b n' s nl;split at h
   . rename_i l0 hb;split at h
     . rename_i hc;obtain ⟨rfl,h1,h2,_⟩:=hc;simp at h;obtain ⟨rfl,rfl,rfl⟩:=h;obtain ⟨p,c,T,fr,hp,hh,hcs,hwr⟩:=hm.blk _ _ hb;obtain ⟨hfr,htot⟩:=hwr rfl;subst hfr;obtain ⟨l',N,h4,h5,h6,h7,h8⟩:=hx;simp [E.den] at h4 h5;subst h4;subst h5;rcases h8 with ⟨p',cap,h9,rfl,h10,h11⟩ | ⟨_,rfl,ad,rfl⟩
       . rw [hp] at h9;cases h9
         have:=UF.row (I:=I) (P:=P) (g:=g) (M:=M) (w:=w) (sz:=s) (l:=l0.take (n'.toNat*s)) (N:=n'.toNat) b p c T cap _ hb rfl hp h10 (by simpa using h11) hh
           (by simp;omega) (fun i v hv=>by
             rw [List.getElem?_take] at hv;split at hv
             . exact hcs i v hv
             . cases hv) htot
         simpa using this
       . exact .nil _ _ rfl (by simp)
     . cases h
   . cases h
 . cases h
theorem Qu {s:St} {o:Oper} {t u el d:TypeId} {x y:Operand} {v yv r:AV} {s1:St} {ps:List PE} (hs:qW A I P X g s a w)
   (hop:o.op=.call { callee:=.builtin .append,args:=#[x,y],argTypes:=#[t,u] }) (ht:P.underlying t=some (.slice el)) (hu:P.underlying u=some (.slice d))
   (hx:Rel I g v (a.eval x)) (hy:Rel I g yv (a.eval y)) (h:fK P s el v yv=some (r,s1,ps)) :
   zY A I P X g a w o r s1:=by
 unfold fK at h;split at h
 case h_2=>cases h
 rename_i z sz bytes hz hsz hbytes;split at h
 case isFalse=>cases h
 rename_i hc;obtain ⟨hb1,hb0,hsz0,hzl⟩:=hc;split at h
 case h_2=>cases h
 rename_i uL bo lL n hsrc hdst;obtain ⟨ti,zx,hi,hiz,hzr,zM⟩:=zC hz;have oV:ti.size=sz:=by simpa [qo,hi] using hsz
 have Gl:ti.bytes=bytes:=by simpa [hi] using hbytes
 obtain ⟨m,xs,hxs,hxl,Q0,hfY⟩:=YX hs.m hsrc hy;have hd:=XT hs.m hdst hx;have hul:uL.length=m*sz:=by rw [hxs.length,hxl]
 have exec:∀{val:Value} {w':World},(Builtin.append_ #[t,u] o.type #[a.eval x,a.eval y]).run P w=.ok val w'->(execOp a.eval o).run P w=.ok (.value val) w':=by
   intro val w' hrun;simp [execOp,hop,resolve,invoke,builtin,hrun,Result.andThen]
 split at h
 . rename_i hemp;simp at h;obtain ⟨rfl,rfl,rfl⟩:=h;have hu0:uL=[]:=by simpa using hemp
   have hm0:m=0:=by
     rw [hu0] at hul;rcases Nat.mul_eq_zero.1 hul.symm with h0 | h0
     . exact h0
     . exact absurd h0 hsz0
   subst hm0;have qye:xs=[]:=List.length_eq_zero_iff.1 (by rw [hxl];simp);subst qye
   have hrun:(Builtin.append_ #[t,u] o.type #[a.eval x,a.eval y]).run P w=.ok (a.eval x) w:=by
     have hf0:(Builtin.firstCells ti.size 0 (a.eval y)).run P w=.ok #[] w:=by rw [oV];simpa using hfY w rfl
     generalize a.eval x=xv at hd;cases hd with
     | nil bo base hN0 hl0=>exact run_append_nothing (n:=0) (cap:=0) (base:=base) (Nat.le_refl _) ht hu hi Q0 hf0
     | row b p c T cap blk hb hwr hφ hnc hct hh hl hcont hcs=>exact run_append_nothing hnc ht hu hi Q0 hf0
   exact ⟨_,w,g,.inl (exec hrun),G.Le.refl _,rfl,hx,hs⟩
 rename_i hne;split at h
 case isFalse=>cases h
 rename_i hc;obtain ⟨hsm,mX⟩:=hc;cases h;have hdiv:uL.length / sz=m:=by rw [hul,Nat.mul_div_cancel _ (by omega)]
 rw [hdiv] at hsm ⊢
 have hm0:m≠0:=by
   rintro rfl;rw [Nat.zero_mul] at hul;exact hne (by simp [List.length_eq_zero_iff.1 hul])
 have hval:∀(cs:Array Value) (base:Nat),(∀i v,lL[i]?=some v->∃x,cs[base+i]?=some x/\Rel I g v x)->lL.length=n*sz->(∀q v,xs[q]?=some v->cs[base+n*sz+q]?=some v)->
     ∀i v,(lL++uL)[i]?=some v->∃x,cs[base+i]?=some x/\Rel I g v x:=by
   intro cs base h1 h2 h3 i v hv;by_cases hil:i<lL.length
   . rw [List.getElem?_append_left hil] at hv;exact h1 i v hv
   . rw [List.getElem?_append_right (by omega)] at hv;obtain ⟨x,h4,h5⟩:=hxs.get hv;refine ⟨x,?_,h5⟩;rw [<-h3 _ _ h4]
     congr 1;omega
 have hzs:zx.cells.size=sz:=by
   have h1:=(zM I g).2.length;simp at h1;omega
 -- a new array
 have grow:∀(cap:Nat) (base:Option Addr) (old:List Value),cap<n+m->a.eval x=.slice base n cap->qw I g lL old->
     old.length=n*sz->(Builtin.firstCells ti.size n (.slice base n cap)).run P w.drew=.ok old.toArray w.drew->
     zY A I P X g a w o (.slice s.nb (.lit 0) (.lit ((n+m:Nat):Int)) sz false)
       { s with mem:=(s.nb,.cells (lL++uL) true)::wL bo s.mem,nb:=s.nb+1 }:=by
   intro cap base old hcap hex hold hol hfo
   obtain ⟨nc,hnc,hrun⟩:=run_append_grow (t:=t) (u:=u) (ty:=o.type) (base:=base) ht hu hi hiz (new:=xs.toArray) Q0
     (by rw [oV];exact hfY w.drew rfl) hcap hfo (by have:=Nat.mul_le_mul hsm hb1;rw [<-Gl] at this;omega) (by omega)
   rw [<-hex] at hrun;let p:PB:={ blk:=w.heap.size,base:=0,tot:=nc*sz };refine ⟨_,_,g.lay (some p),.inl (exec hrun),g.qH _,rfl,?_,?_⟩
   . exact ⟨0,((n+m:Nat):Int),rfl,rfl,Int.le_refl _,by omega,.inl ⟨p,nc,by rw [<-hs.nb];exact G.zh g (some p),by simp [p];omega,by simp;omega,by simp [p]⟩⟩
   . have hm1:=(hs.m.lG (w':=w.drew) rfl).alloc (M':=wL bo s.mem) (p:=p)
       (o:=.cells (old.toArray++xs.toArray++Builtin.zeroCells zx.cells (nc - (n+m))) el)
       (x:=.cells (lL++uL) true)
       (fun b z hz=>by
         cases bo with
         | none=>exact hz
         | some b0=>
           simp only [wL,yT] at hz;split at hz
           . cases hz
           . exact hz) rfl
       ⟨p,_,el,(0,0),G.zh g (some p),heap_alloc_new _ _,fun i v hv=>by
         obtain ⟨x,h1,h2⟩:=hval (old.toArray++xs.toArray++Builtin.zeroCells zx.cells (nc - (n+m))) 0 (fun i v hv=>by
           obtain ⟨x,h1,h2⟩:=hold.get hv;have hlt:=(List.getElem?_eq_some_iff.1 h1).1;refine ⟨x,?_,h2⟩;rw [Nat.zero_add,Array.getElem?_append_left (by simp;omega),Array.getElem?_append_left (by simp;omega)];simpa using h1) (by rw [hold.length];exact hol) (fun q v hq=>by
           have hlt:=(List.getElem?_eq_some_iff.1 hq).1;rw [Nat.zero_add,Array.getElem?_append_left (by simp;omega),Array.getElem?_append_right (by simp;omega)];simp only [List.size_toArray,hol,List.getElem?_toArray];rw [<-hq];congr 1;omega) i v hv
         exact ⟨x,h1,h2.le (g.qH _) hs.m.wf⟩,fun _=>⟨rfl,by
           simp [hxl,hol,size_zeroCells,hzs,p,<-Nat.add_mul];exact Nat.mul_le_mul_right _ (by omega)⟩⟩
     rw [hs.nb] at hm1;exact hs.lay hm1
 generalize hex:a.eval x=xv at hd;cases hd with
 | nil bo base hN0 hl0=>
   subst hN0;subst hl0;exact grow 0 base [] (by omega) hex trivial (by simp) gH
 | row b p c T cap blk hb hwr hφ hnc hct hh hl hcont hcs=>
   by_cases hroom:n+m<=cap
   . have Eo:=JZ hxs mX
     have hfit:p.base+n*sz+xs.length<=c.size:=by
       rw [hxl,Nat.add_assoc,<-Nat.add_mul];have:=Nat.mul_le_mul_right sz hroom;omega
     have hst:=run_storeCells_at P p.blk (p.base+n*sz) T xs 0 c w hh (by simpa using hfit) Eo
     have hst':(storeCells ((⟨p.blk,p.base,none⟩:Addr).add (n*ti.size)) xs.toArray.toList).run P w=.ok () (w.setRow p.blk (c.toList.take (p.base+n*sz+0)++xs++c.toList.drop (p.base+n*sz+0+xs.length)).toArray):=by
       rw [oV,addr_add];exact hst
     have hrun:=ug (t:=t) (u:=u) (ty:=o.type) ht hu hi Q0 (by rw [oV];exact hfY w rfl) hroom hst';rw [<-hex] at hrun;have hle:=g.qH (some p);refine ⟨_,_,g.lay (some p),.inl (exec hrun),hle,rfl,?_,?_⟩
     . exact ⟨0,((n+m:Nat):Int),rfl,rfl,Int.le_refl _,by omega,.inl ⟨p,cap,by rw [<-hs.nb];exact G.zh g (some p),by simp;omega,by simp;omega,by simp;omega⟩⟩
     . generalize hcn:(c.toList.take (p.base+n*sz+0)++xs++c.toList.drop (p.base+n*sz+0+xs.length)).toArray=cn
       have hcg:∀q,cn[q]?=if p.base+n*sz<=q/\q<p.base+n*sz+xs.length then xs[q - (p.base+n*sz)]? else c[q]?:=fun q=>by
         rw [<-hcn,List.getElem?_toArray,Nat.add_zero,jd _ _ _ (by simpa using hfit)];simp
       have hcsz:cn.size=c.size:=by
         rw [<-hcn];simp;omega
       have hall:∀i v,(lL++uL)[i]?=some v->∃x,cn[p.base+i]?=some x/\Rel I g v x:=hval cn p.base (fun i v hv=>by
           have hlt:=(List.getElem?_eq_some_iff.1 hv).1;rw [hcg,if_neg (by omega)];exact hcont i v hv) hl (fun q v hq=>by
           have hlt:=(List.getElem?_eq_some_iff.1 hq).1;rw [hcg,if_pos (by omega),<-hq]
           congr 1;omega)
       have hbr:∀(g1:G) (b1:Nat),g1.φ b1=some p->g.Le g1->jN I P g1 b1 (fun i=>(w.setRow p.blk cn).heap[i]?) (.cells (lL++uL) true):=by
         intro g1 b1 hb1 hle1;exact ⟨p,cn,T,(0,0),hb1,setRow_heap _ _ _ _ _ _ hh,fun i v hv=>let ⟨x,h1,h2⟩:=hall i v hv;⟨x,h1,h2.le hle1 hs.m.wf⟩,fun _=>⟨rfl,by omega⟩⟩
       have hm1:=hs.m.write (w':=w.setRow p.blk cn) hb hwr hφ (by simp) (fun i hi=>setRow_other _ _ _ _ hi) (hbr g b hφ (G.Le.refl _))
       have hm2:=hm1.rename (b:=b) (x:=.cells (lL++uL) true) (y:=.cells (lL++uL) true)
         (by rw [get_put,if_pos rfl]) hφ rfl (hbr _ _ (G.zh g (some p)) hle)
       have hm3:=hm2.sub (M':=(g.nb,.cells (lL++uL) true)::wL (some b) s.mem) (fun c z hz=>by
         simp only [qQ] at hz ⊢;split at hz
         . rename_i hc;rw [if_pos hc];exact hz
         . rename_i hc;rw [if_neg hc];simp only [wL,yT] at hz ⊢;split at hz
           . cases hz
           . rename_i hbc;rw [if_neg hbc,get_put,if_neg hbc];exact hz)
       rw [hs.nb] at hm3;exact hs.lay hm3
   . obtain ⟨xs0,h1,h2,_,h3⟩:=Qr (P:=P) (l:=lL) (k:=0) (len:=n*sz) hh hcont (by omega);refine grow cap (some ⟨p.blk,p.base,none⟩) xs0 (by omega) hex (by simpa [<-hl] using h1) h2 ?_;rw [oV];exact h3 w.drew rfl
section run
variable {t u ty el:TypeId} {k:IntKind} {kd:IntKind} {ti:TypeInfo} {z:Value} {n cap:Nat} {base:Option Addr} {y:Value}
theorem iU (ht:P.underlying t=some (.slice el)) (hu:P.underlying u=some (.int k)) (hi:P.info? el=some ti) :
   (Builtin.append_ #[t,u] ty #[.slice base 0 0,.int kd 0]).run P w=.ok (.slice base 0 0) w:=by
 have hs:∀ad:Addr,(storeCells ad []).run P w=.ok () w:=fun ad=>rfl;have hw:IntKind.i64.wrap 0=0:=by decide
 cases base <;> simp [hs,Builtin.append_,run_underlying ht,run_underlying hu,sizeOf,typeInfo,hi,Result.andThen,asInt,asIntOf,hw]
theorem rH (ht:P.underlying t=some (.slice el)) (hu:P.underlying u=some (.int k)) (hi:P.info? el=some ti) (hz:ti.zero=some z) (hs0:ti.size≠0) (hn0:n≠0)
   (hsn:n<=1000000) (hb:ti.bytes<=1000) (hb0:ti.bytes≠0) :
   ∃nc,n<=nc/\(Builtin.append_ #[t,u] ty #[.slice base 0 0,.int kd n]).run P w =
     .ok (.slice (some ⟨w.heap.size,0,none⟩) n nc) (w.drew.alloc (.cells (Builtin.zeroCells z.cells n++Builtin.zeroCells z.cells (nc - n)) el)):=by
 have hsb:=Nat.mul_le_mul hsn hb;have hgs:=growslice_fits (need:=n) (old:=0) (bytes:=ti.bytes) (by omega) (by omega);have hn3:¬(Builtin.nextslicecap n 0*ti.bytes > 2 ^ 48):=by omega
 have hw:IntKind.i64.wrap (n:Int)=n:=by simp [IntKind.wrap,IntKind.signed,IntKind.bits];omega
 have h1:¬((n:Int)<0):=by omega
 have h2:¬((n:Int)*(ti.bytes:Int) > 2 ^ 48):=by rw [<-Int.natCast_mul];omega
 have h2':¬(281474976710656<(n:Int)*(ti.bytes:Int)):=h2;have h3:¬(9223372036854775807<(n:Int)):=by omega
 have hfc:∀w',(Builtin.firstCells ti.size 0 (.slice base 0 0)).run P w'=.ok #[] w':=fun w'=>gH;refine ⟨(Question.appendCap n 0 el).cut (w.tape w.drawn (.appendCap n 0 el)),by simp [Question.cut],?_⟩;simp [Builtin.append_,run_underlying ht,run_underlying hu,sizeOf,typeInfo,hi,Result.andThen,hn0,hn3,Question.forced,zeroValue,hz,newRow,asInt,asIntOf,hw,h1,h2',h3,hfc];rw [if_neg (by rw [Nat.mul_eq_zero];omega)];rfl
end run
theorem Ql {s:St} {o:Oper} {t u el:TypeId} {k kd:IntKind} {x y:Operand} {v r:AV} {e:E} {s1:St} {ps:List PE} (hs:qW A I P X g s a w)
   (hop:o.op=.call { callee:=.builtin .append,args:=#[x,y],argTypes:=#[t,u] }) (ht:P.underlying t=some (.slice el)) (hu:P.underlying u=some (.int k))
   (hx:Rel I g v (a.eval x)) (hy:Rel I g (.int kd e) (a.eval y)) (h:gJ P s el v e=some (r,s1,ps)) (hp:∀q∈ps,q.den I g.env) :
   zY A I P X g a w o r s1:=by
 have hbase:∃base,a.eval x=.slice base 0 0:=by
   unfold gJ at h;split at h
   . simp only [Rel] at hx;exact ⟨_,hx⟩
   . obtain ⟨ad,hx⟩:=hx;exact ⟨_,hx⟩
   . cases h
 obtain ⟨base,hbase⟩:=hbase
 have h':(match zJ P el,qo P el,(P.info? el).map (·.bytes) with
   | some z,some sz,some bytes=>match jw z.cells with
     | some ks=>
       if sz=ks.length/\ks.length≠0/\bytes<=1000/\bytes≠0/\z.cells.all AV.isZero then
         some (AV.slice s.nb (.lit 0) e sz (jD true e),{ s with mem:=(s.nb,Blk.rows ks .zt e true (jD true e))::s.mem,nb:=s.nb+1 },
           [PE.tt (mkBin .le (.lit 0) e),.tt (mkBin .le e (.lit 1000000))])
       else none
     | none=>none
   | _,_,_=>none)=some (r,s1,ps):=by
   unfold gJ at h;split at h
   . exact h
   . exact h
   . cases h
 clear h;split at h'
 case h_2=>cases h'
 rename_i z sz bytes hz hsz hbytes;split at h'
 case h_2=>cases h'
 rename_i ks hks;split at h'
 case isFalse=>cases h'
 rename_i hc;obtain ⟨NT,hk0,hb1,hb0,haz⟩:=hc;cases h';obtain ⟨ti,zx,hi,hiz,hzr,zM⟩:=zC hz;have oV:ti.size=ks.length:=by simp [qo,hi] at hsz;omega
 have Gl:ti.bytes=bytes:=by simpa [hi] using hbytes
 obtain ⟨n0,he,hyv⟩:=hy;have h0:0<=n0:=zn (show (E.lit 0).den I g.env=some (.i 0) from rfl) he (hp _ (by simp));have h1:n0<=1000000:=zn he (show (E.lit 1000000).den I g.env=some (.i 1000000) from rfl) (hp _ (by simp));obtain ⟨n,rfl⟩:=Int.eq_ofNat_of_zero_le h0
 have exec:∀{val:Value} {w':World},(Builtin.append_ #[t,u] o.type #[a.eval x,a.eval y]).run P w=.ok val w'->(execOp a.eval o).run P w=.ok (.value val) w':=by
   intro val w' hrun;simp [execOp,hop,resolve,invoke,builtin,hrun,Result.andThen]
 by_cases hn0:n=0
 . subst hn0
   have hnl:jD true e=true:=by
     cases e <;> simp [E.den] at he <;> simp [jD]
     omega
   rw [hnl];have hrun:=iU (P:=P) (w:=w) (t:=t) (u:=u) (ty:=o.type) (base:=base) (kd:=kd) ht hu hi;rw [show (Value.int kd 0)=a.eval y from hyv.symm,<-hbase] at hrun;refine ⟨_,w,g.lay none,.inl (exec hrun),g.qH _,rfl,?_,?_⟩
   . exact ⟨0,0,rfl,by simpa [G.lay] using he,Int.le_refl _,Int.le_refl _,.inr ⟨rfl,rfl,base,hbase⟩⟩
   . have hm1:=hs.m.oQ (x:=.rows ks .zt e true true) (fun b z hz=>hz) ⟨fun _ _=>0,0,rfl,by simpa [G.lay] using he,Int.le_refl _,.inr ⟨rfl,rfl,by simp⟩⟩;rw [hs.nb] at hm1;exact hs.lay hm1
 . obtain ⟨nc,hnc,hrun⟩:=rH (P:=P) (w:=w) (t:=t) (u:=u) (ty:=o.type) (base:=base) (kd:=kd) ht hu hi hiz (by omega) hn0 (by omega) (by omega) (by omega);rw [<-hyv,<-hbase] at hrun;let p:PB:={ blk:=w.heap.size,base:=0,tot:=nc*ks.length }
   have hzs:zx.cells.size=ks.length:=by
     have h1:=(zM I g).2.length;have h2:=xD hks;simp at h1;omega
   have hzc:∀(N r j:Nat) (k:CK),r<N->ks[j]?=some k->(Builtin.zeroCells zx.cells N)[r*ks.length+j]?=some (k.val 0):=fun N r j k hr hj=>by
     have hjlt:j<ks.length:=(List.getElem?_eq_some_iff.1 hj).1;have hlt:=xq hjlt hr;have hv:=tL (I:=I) (g:=g) hks haz (zM I g).2 j k hj;have hv':zx.cells[j]?=some (k.val 0):=by simpa using hv
     have hmod:(r*ks.length+j) % zx.cells.size=j:=by
       rw [hzs,Nat.mul_comm,Nat.mul_add_mod,Nat.mod_eq_of_lt hjlt]
     have:(Builtin.zeroCells zx.cells N)[r*ks.length+j]?=some (zx.cells[(r*ks.length+j) % zx.cells.size]!):=by
       simp only [Builtin.zeroCells,Array.getElem?_map,hzs];simp [hlt]
     rw [this,hmod,getElem!_def,hv']
   refine ⟨_,_,g.lay (some p),.inl (exec hrun),g.qH _,rfl,?_,?_⟩
   . exact ⟨0,(n:Int),rfl,he,Int.le_refl _,by omega,.inl ⟨p,nc,by rw [<-hs.nb];exact G.zh g (some p),by simp [p],by simp;omega,by simp [p,NT]⟩⟩
   . have hm1:=(hs.m.lG (w':=w.drew) rfl).alloc (M':=s.mem) (p:=p)
       (o:=.cells (Builtin.zeroCells zx.cells n++Builtin.zeroCells zx.cells (nc - n)) el)
       (x:=.rows ks .zt e true (jD true e)) (fun b z hz=>hz) rfl
       (cO (n:=n) (f:=fun _ _=>0) (G.zh g (some p)) rfl (heap_alloc_new _ _) rfl he (fun r j k hr hj=>by
         have hjlt:j<ks.length:=(List.getElem?_eq_some_iff.1 hj).1;have hlt:=xq hjlt hr;rw [Array.getElem?_append_left (by rw [size_zeroCells,hzs];exact hlt)];exact CK.at0 (hzc n r j k hr hj)) (by
         simp [size_zeroCells,hzs,p,<-Nat.add_mul];exact Nat.mul_le_mul_right _ (by omega)) (Nat.mul_le_mul_right _ hnc))
     rw [hs.nb] at hm1;exact hs.lay hm1
theorem tC {s:St} {o:Oper} {t u el:TypeId} {k kd:IntKind} {x y:Operand} {v r:AV} {e:E} {s1:St} {ps:List PE} (hs:qW A I P X g s a w)
   (hop:o.op=.call { callee:=.builtin .append,args:=#[x,y],argTypes:=#[t,u] }) (ht:P.underlying t=some (.slice el)) (hu:P.underlying u=some (.int k))
   (hx:Rel I g v (a.eval x)) (hy:Rel I g (.int kd e) (a.eval y)) (h:yU P s el v e=some (r,s1,ps)) :
   zY A I P X g a w o r s1:=by
 unfold yU at h;split at h
 case h_2=>cases h
 rename_i c;simp only [Rel] at hx;split at h
 case h_2=>cases h
 rename_i z sz bytes hz hsz hbytes;split at h
 case isFalse=>cases h
 rename_i hc;obtain ⟨hc1,hc2,hsz0,hzl,hb1,hb0⟩:=hc;cases h;obtain ⟨ti,zx,hi,hiz,hzr,zM⟩:=zC hz;have oV:ti.size=sz:=by simpa [qo,hi] using hsz
 have Gl:ti.bytes=bytes:=by simpa [hi] using hbytes
 obtain ⟨n0,he,hyv⟩:=hy;simp only [E.den,Option.some.injEq,D.i.injEq] at he;subst he;obtain ⟨n,rfl⟩:=Int.eq_ofNat_of_zero_le (show 0<=c by omega)
 have exec:∀{val:Value} {w':World},(Builtin.append_ #[t,u] o.type #[a.eval x,a.eval y]).run P w=.ok val w'->(execOp a.eval o).run P w=.ok (.value val) w':=by
   intro val w' hrun;simp [execOp,hop,resolve,invoke,builtin,hrun,Result.andThen]
 obtain ⟨nc,hnc,hrun⟩:=rH (P:=P) (w:=w) (t:=t) (u:=u) (ty:=o.type) (base:=none) (kd:=kd) ht hu hi hiz (by omega) (show n≠0 by omega) (by omega) (by omega) (by omega);rw [<-hyv,<-hx] at hrun;let p:PB:={ blk:=w.heap.size,base:=0,tot:=nc*sz }
 have hzs:zx.cells.size=sz:=by
   have h1:=(zM I g).2.length;simp at h1;omega
 refine ⟨_,_,g.lay (some p),.inl (exec hrun),g.qH _,rfl,?_,?_⟩
 . exact ⟨0,(n:Int),rfl,rfl,Int.le_refl _,by omega,.inl ⟨p,nc,by rw [<-hs.nb];exact G.zh g (some p),by simp [p],by simp;omega,by simp [p]⟩⟩
 . have hm1:=(hs.m.lG (w':=w.drew) rfl).alloc (M':=s.mem) (p:=p)
     (o:=.cells (Builtin.zeroCells zx.cells n++Builtin.zeroCells zx.cells (nc - n)) el)
     (x:=.cells (rA (n:Int).toNat z.cells) true) (fun b z hz=>hz) rfl
     ⟨p,_,el,(0,0),G.zh g (some p),heap_alloc_new _ _,fun i v hv=>by
       have hil:i<n*sz:=by
         have:=(List.getElem?_eq_some_iff.1 hv).1;rw [vL,hzl] at this;simpa using this
       rw [Jg _ _ _ (by rw [hzl];simpa using hil),hzl] at hv;obtain ⟨y,h1,h2⟩:=(zM I (g.lay (some p))).2.get hv;refine ⟨y,?_,h2⟩;rw [show p.base+i=i from Nat.zero_add i,Array.getElem?_append_left (by rw [size_zeroCells,hzs];exact hil)];have h1':zx.cells[i % sz]?=some y:=by simpa using h1
       simp only [Builtin.zeroCells,Array.getElem?_map,hzs];simp [hil,getElem!_def,h1'],fun _=>⟨rfl,by
       simp [size_zeroCells,hzs,p,<-Nat.add_mul];exact Nat.mul_le_mul_right _ (by omega)⟩⟩
   rw [hs.nb] at hm1;exact hs.lay hm1
theorem vw {q o:Nat}:∀(ys:List Value) (j i:Nat),storeCells ⟨q,o,none⟩ ys (j+i)=storeCells ⟨q,o+j,none⟩ ys i
 | [],_,_=>rfl
 | y::ys,j,i=>by
   simp only [storeCells,addr_add];rw [Nat.add_assoc j i 1,vw ys j (i+1),Nat.add_assoc o j i]
theorem xJ {q o:Nat} {w':World} {r:Result Unit}:∀(xs ys:List Value) (i:Nat) (w:World),(storeCells ⟨q,o,none⟩ xs i).run P w=.ok () w'->(storeCells ⟨q,o,none⟩ ys (i+xs.length)).run P w'=r->
   (storeCells ⟨q,o,none⟩ (xs++ys) i).run P w=r
 | [],ys,i,w,h,h2=>by
   simp [storeCells] at h;subst h;simpa using h2
 | x::xs,ys,i,w,h,h2=>by
   simp only [storeCells,List.cons_append,Sem.run_bind] at h ⊢;cases hs:(store ((⟨q,o,none⟩:Addr).add i) x).run P w with
   | ok u w1=>
     rw [hs] at h;simp only [Result.andThen] at h ⊢;exact xJ xs ys (i+1) w1 h (by rw [<-h2];congr 2;simp;omega)
   | halt e w1=>rw [hs] at h;simp [Result.andThen] at h
theorem ZM {z:Array Value} (n:Nat):(Builtin.zeroCells z (n+1)).toList=(Builtin.zeroCells z n).toList++z.toList:=by
 rcases Nat.eq_zero_or_pos z.size with h0 | h0
 . have:z=#[]:=Array.eq_empty_of_size_eq_zero h0;subst this;simp [Builtin.zeroCells]
 . refine List.ext_getElem? fun i=>?_;rw [List.getElem?_append];have hlen:∀m,(Builtin.zeroCells z m).toList.length=m*z.size:=fun m=>by simp [size_zeroCells]
   have hget:∀m i,i<m*z.size->(Builtin.zeroCells z m).toList[i]?=some z[i % z.size]!:=fun m i hi=>by
     simp [Builtin.zeroCells,hi]
   rw [hlen];by_cases hi:i<n*z.size
   . rw [if_pos hi,hget _ _ hi,hget _ _ (by rw [Nat.add_mul];omega)]
   . rw [if_neg hi];by_cases hi2:i<(n+1)*z.size
     . rw [hget _ _ hi2];rw [Nat.add_mul,Nat.one_mul] at hi2;have hlt:i - n*z.size<z.size:=by omega
       have hmod:i % z.size=i - n*z.size:=by
         conv=>lhs;rw [show i=i - n*z.size+z.size*n by rw [Nat.mul_comm z.size];omega]
         rw [Nat.add_mul_mod_self_left,Nat.mod_eq_of_lt hlt]
       rw [hmod,getElem!_pos z _ hlt];simp [hlt]
     . rw [List.getElem?_eq_none (by rw [hlen];omega),List.getElem?_eq_none (by rw [Nat.add_mul] at hi2;simp;omega)]
theorem Zz {b k sz:Nat} {p:PB} {zs:List AV} {z:Array Value} (hφ:g.φ b=some p) (hv:qw I g zs z.toList) (hzl:zs.length=sz):∀(n:Nat) {M':Mem} {ps:List PE},qX A I P g M w->
   fQ M b k sz zs n=some (M',ps)->(∀q∈ps,q.den I g.env)->
   ∃w',(storeCells ⟨p.blk,p.base+k,none⟩ (Builtin.zeroCells z n).toList).run P w=.ok () w'/\qX A I P g M' w'
 | 0,M',ps,hm,h,_=>by
   simp [fQ] at h;obtain ⟨rfl,rfl⟩:=h;refine ⟨w,?_,hm⟩;simp [Builtin.zeroCells,storeCells]
 | n+1,M',ps,hm,h,hp=>by
   simp only [fQ] at h;split at h
   . rename_i M1 p1 h1;cases h2:storeAt M1 b (.lit 0) 0 (k+n*sz) zs with
     | none=>simp [h2] at h
     | some q=>
       obtain ⟨M2,p2⟩:=q;simp [h2] at h;obtain ⟨rfl,rfl⟩:=h;obtain ⟨w1,h3,h4⟩:=Zz hφ hv hzl n hm h1 (fun q hq=>hp q (by simp [hq]));obtain ⟨w2,h5,h6⟩:=rV h4 h2 (fun q hq=>hp q (by simp [hq])) (show (E.lit 0).den I g.env=some (.i 0) from rfl) (Int.le_refl _) hφ hv;refine ⟨w2,?_,h6⟩;rw [ZM];refine xJ _ _ 0 w h3 ?_;have hz:z.size=sz:=by have:=hv.length;simp at this;omega
       have:=vw (q:=p.blk) (o:=p.base+k) z.toList (n*sz) 0;simp only [Nat.add_zero] at this;rw [Nat.zero_add,show (Builtin.zeroCells z n).toList.length=n*sz by simp [size_zeroCells,hz],this,<-h5]
       congr 3;simp;omega
   . cases h
theorem FQ {s:St} {o:Oper} {t el:TypeId} {x:Operand} {b k n z:Nat} {zv:AV} {M':Mem} {ps:List PE} (hs:qW A I P X g s a w)
   (hop:o.op=.call { callee:=.builtin .clear,args:=#[x],argTypes:=#[t] }) (ht:P.underlying t=some (.slice el)) (hx:Rel I g (.asl b k n z) (a.eval x)) (hz:zJ P el=some zv)
   (hl:zv.cells.length=z) (h:fQ s.mem b k z zv.cells n=some (M',ps)) (hp:∀q∈ps,q.den I g.env) :
   zY A I P X g a w o (.tup []) { s with mem:=M' }:=by
 obtain ⟨ti,zx,hi,hiz,hzr,zM⟩:=zC hz;obtain ⟨p,cap,h1,h2,h3⟩:=hx;obtain ⟨w',h4,h5⟩:=Zz h1 (zM I g).2 hl n hs.m h hp;refine ⟨.tuple #[],w',g,.inl ?_,.refl _,rfl,⟨#[],rfl,trivial⟩,hs.mem h5⟩
 have hrun:(Builtin.clear_ #[t] o.type #[a.eval x]).run P w=.ok (.tuple #[]) w':=by
   rw [h3];by_cases hn:n=0
   . subst hn;simp [Builtin.zeroCells,storeCells] at h4;subst h4;simp [Builtin.clear_,run_underlying ht,Result.andThen]
   . simp [Builtin.clear_,run_underlying ht,Result.andThen,zeroValue,typeInfo,hi,hiz,hn,h4]
 simp [execOp,hop,resolve,invoke,builtin,hrun,Result.andThen]
end Go.Sx
namespace Go.Sx
open Go
variable {A:Amb} {I:Itp} {P:Program} {g:G} {X:Nat->Prop} {a:Act} {M:Mem} {w:World}
theorem K4 {ks:List CK} {V:Nat->Nat->Value} (n:Nat) {xs:List Value} (hl:xs.length=ks.length)
   (hx:∀j v,xs[j]?=some v->∃c:CK,ks[j]?=some c/\v=V n j):zq ks V (n+1)=zq ks V n++xs:=by
 refine List.ext_getElem? fun i=>?_;rw [List.getElem?_append,zR];split
 . rename_i hi
   have hs:0<ks.length:=by
     rcases Nat.eq_zero_or_pos ks.length with h0 | h0
     . rw [h0] at hi;omega
     . exact h0
   have hj:i % ks.length<ks.length:=Nat.mod_lt _ hs;have hr:i / ks.length<n:=Nat.div_lt_of_lt_mul (by rw [Nat.mul_comm];exact hi);have he:i / ks.length*ks.length+i % ks.length=i:=by rw [Nat.mul_comm];exact Nat.div_add_mod i ks.length
   have h1:=wo (V:=V) (n:=n+1) (Nat.lt_succ_of_lt hr) (List.getElem?_eq_getElem hj);have h2:=wo (V:=V) (n:=n) hr (List.getElem?_eq_getElem hj);rw [he] at h1 h2;rw [h1,h2]
 . rename_i hi;have hi':n*ks.length<=i:=Nat.le_of_not_lt hi;rcases Nat.lt_or_ge (i - n*ks.length) ks.length with hj | hj
   . have h1:=wo (V:=V) (n:=n+1) (r:=n) (Nat.lt_succ_self n) (List.getElem?_eq_getElem hj);rw [show n*ks.length+(i - n*ks.length)=i by omega] at h1;rw [h1];obtain ⟨c,h2,h3⟩:=hx _ _ (List.getElem?_eq_getElem (by rw [hl];exact hj));rw [List.getElem?_eq_getElem (by rw [hl];exact hj),h3]
   . rw [List.getElem?_eq_none (by rw [zR,Nat.add_mul,Nat.one_mul];omega),List.getElem?_eq_none (by omega)]
theorem oC {b lo:Nat} {p:PB} {ks:List CK} {u:E} {l0:Int} {fu:Int->Nat->Int} {V:Nat->Nat->Value} {N:Nat} (hV:Yt g ks (fun r j=>fu (l0+r) j) V N) (hφ:g.φ b=some p) (hu:u.den I g.env=some (.t fu)):∀(n:Nat) (_:n<=N) {M':Mem} {ps:List PE},qX A I P g M w->
   dh M b lo ks u l0 n=some (M',ps)->(∀q∈ps,q.den I g.env)->
   ∃w',(storeCells ⟨p.blk,p.base+lo*ks.length,none⟩ (zq ks V n)).run P w=.ok () w'/\qX A I P g M' w'
 | 0,_,M',ps,hm,h,_=>by
   simp [dh] at h;obtain ⟨rfl,rfl⟩:=h;exact ⟨w,by simp [zq,storeCells],hm⟩
 | n+1,hN,M',ps,hm,h,hp=>by
   simp only [dh] at h;split at h
   . rename_i M1 p1 vs h1 h0;cases h2:storeAt M1 b (.lit ((lo+n:Nat):Int)) ks.length 0 vs with
     | none=>rw [h2] at h;simp at h
     | some q=>
       obtain ⟨M2,p2⟩:=q;rw [h2] at h;simp at h;obtain ⟨rfl,rfl⟩:=h;obtain ⟨w1,h3,h4⟩:=oC hV hφ hu n (by omega) hm h1 (fun q hq=>hp q (by simp [hq]));obtain ⟨hlen,xs,hxs,hx⟩:=kZ hu (show (E.lit (l0+n)).den I g.env=some (.i (l0+n)) from rfl) (V n) (fun j k hj=>hV n j k (by omega) hj) ks.length 0 h0;obtain ⟨w2,h5,h6⟩:=rV h4 h2 (fun q hq=>hp q (by simp [hq])) (show (E.lit ((lo+n:Nat):Int)).den I g.env=some (.i _) from rfl) (by omega) hφ hxs;have hxl:xs.length=ks.length:=by rw [<-hxs.length,hlen]
       refine ⟨w2,?_,h6⟩;rw [K4 n hxl (fun j v hv=>by simpa using hx j v hv)];refine xJ _ _ 0 w h3 ?_;have:=vw (q:=p.blk) (o:=p.base+lo*ks.length) xs (n*ks.length) 0;simp only [Nat.add_zero] at this;have e:p.base+lo*ks.length+n*ks.length=p.base+(((lo+n:Nat):Int)).toNat*ks.length+0:=by rw [Int.toNat_natCast,Nat.add_mul];omega
       rw [Nat.zero_add,zR,this,e];exact h5
   . cases h
theorem Pf {s:St} {o:Oper} {t t' el:TypeId} {ks:List CK} {sz:Nat} {x y:Operand} {xv yv:AV} {n:Nat} {M':Mem} {ps:List PE} (hs:qW A I P X g s a w)
   (hop:o.op=.call { callee:=.builtin .copy,args:=#[x,y],argTypes:=#[t,t'] }) (ht:P.underlying t=some (.slice el)) (hsz:qo P el=some sz) (hks:sz=ks.length)
   (hx:Rel I g xv (a.eval x)) (hy:Rel I g yv (a.eval y)) (h:KV s.mem sz ks xv yv=some (n,M',ps)) (hp:∀q∈ps,q.den I g.env) :
   zY A I P X g a w o (.int .i64 (.lit n)) { s with mem:=M' }:=by
 subst hks;unfold KV at h;split at h
 rotate_left
 . cases h
 rename_i b lo len z nl;split at h
 rotate_left
 . cases h
 rename_i u l0 m p0 hsrc;split at h
 rotate_left
 . cases h
 rename_i hc;obtain ⟨rfl,hlo,hm0,hmn,hm1⟩:=hc;cases hcp:dh s.mem b lo.toNat ks u l0 m.toNat with
 | none=>rw [hcp] at h;simp at h
 | some q=>
   obtain ⟨M2,p2⟩:=q;rw [hcp] at h;simp at h;obtain ⟨rfl,rfl,rfl⟩:=h;obtain ⟨fu,mm,hu,hmm,V,hV,hrows⟩:=QK hs.m hsrc rfl (fun q hq=>hp q (by simp [hq])) hy;have hmm':m=mm:=by have:=Option.some.inj hmm;exact D.i.inj this
   subst hmm';obtain ⟨l,ln,h1,h2,h3,h4,hsl⟩:=hx;obtain rfl:lo=l:=D.i.inj (Option.some.inj h1);obtain rfl:len=ln:=D.i.inj (Option.some.inj h2)
   obtain ⟨w',h5,h6⟩:∃w',(Builtin.copy_ #[t,t'] o.type #[a.eval x,a.eval y]).run P w=.ok (goInt mm) w'/\qX A I P g M2 w':=by
     obtain ⟨ho,hf⟩:=Rows.first (P:=P) hrows
     have hmin:Nat.min mm len.toNat=mm:=Nat.min_eq_left (by omega);rcases hsl with ⟨p,cap,hφ,hxe,_,_⟩ | ⟨_,hn0,ad,hxe⟩
     . obtain ⟨w',h7,h8⟩:=oC hV hφ hu mm (Nat.le_refl _) hs.m (by simpa using hcp) (fun q hq=>hp q (by simp [hq]));refine ⟨w',?_,h8⟩;rw [hxe];simp [Builtin.copy_,run_underlying ht,Result.andThen,ho,hmin,qD hsz,hf,h7]
     . obtain rfl:mm=0:=by omega
       simp [dh] at hcp;obtain ⟨rfl,rfl⟩:=hcp;refine ⟨w,?_,hs.m⟩;rw [hxe];cases ad <;> simp [Builtin.copy_,run_underlying ht,Result.andThen,ho,qD hsz,hf,zq,storeCells]
   refine ⟨_,w',g,.inl ?_,.refl _,rfl,⟨_,rfl,rfl⟩,hs.mem h6⟩;simp [execOp,hop,resolve,invoke,builtin,h5,Result.andThen,goInt]
end Go.Sx
noncomputable section
namespace Go.Sx
open Go
variable {A:Amb} {I:Itp} {P:Program} {g:G} {X:Nat->Prop} {ts:qO} {a:Act} {M:Mem} {w:World}
theorem iD {n m:Int} (h:wh n=wh m):n=m:=by
 unfold wh at h;simp only [Value.string.injEq,ByteArray.mk.injEq] at h;exact fO (by simpa using congrArg Array.toList h)
open Classical in
theorem kL {e:MapEntry} {l:List MapEntry} {κ:Int}:kN (e::l) κ=if e.key=wh κ then some e.val else kN l κ:=by
 by_cases h:e.key=wh κ
 . rw [if_pos h];have h':e.key=.string ⟨(zX κ).toArray⟩:=h;simp only [kN];rw [if_pos h']
 . rw [if_neg h];have h':¬e.key=.string ⟨(zX κ).toArray⟩:=h;simp only [kN];rw [if_neg h']
open Classical in
theorem Q8 {e:MapEntry} {κ:Int} (hk:e.key=wh κ) (κ':Int):∀{l:List MapEntry},kN l κ=none->kN (l++[e]) κ'=if κ'=κ then some e.val else kN l κ'
 | [],_=>by
   simp only [List.nil_append,kL,hk];by_cases h:κ'=κ
   . subst h;simp
   . rw [if_neg (fun h'=>h (iD h').symm),if_neg h]
 | e0::l,hn=>by
   simp only [kL] at hn;split at hn
   . cases hn
   . rename_i h0;simp only [List.cons_append,kL,Q8 hk κ' hn];by_cases h:κ'=κ
     . subst h;rw [if_neg h0];simp
     . simp [h]
open Classical in
theorem Ka {v:Value} {e':MapEntry} {κ:Int} (hk:e'.key=wh κ) (hv:e'.val=v) (κ':Int):∀{l:List MapEntry} {j:Nat} {e:MapEntry},l[j]?=some e->e.key=wh κ->
   (∀i,i<j->∀x,l[i]?=some x->x.key≠wh κ)->kN (l.set j e') κ'=if κ'=κ then some v else kN l κ'
 | [],j,e,h,_,_=>by simp at h
 | e0::l,0,e,h,he,_=>by
   simp only [List.getElem?_cons_zero,Option.some.injEq] at h;subst h;simp only [List.set_cons_zero,kL,hk,he,hv];by_cases h:κ'=κ
   . subst h;simp
   . rw [if_neg (fun h'=>h (iD h').symm),if_neg h,if_neg (fun h'=>h (iD h').symm)]
 | e0::l,j+1,e,h,he,hf=>by
   have h0:=hf 0 (by omega) e0 rfl;simp only [List.getElem?_cons_succ] at h;simp only [List.set_cons_succ,kL,Ka hk hv κ' h he fun i hi x hx=>hf (i+1) (by omega) x (by simpa using hx)];by_cases h:κ'=κ
   . subst h;rw [if_neg h0];simp
   . simp [h]
def nC:List MapEntry->List AV
 | []=>[]
 | e::l=>(match e.key with
   | .string s=>AV.str s.data.toList
   | _=>.any)::nC l
theorem tK:∀{l:List MapEntry},(∀e∈l,∃κ:Int,e.key=wh κ)->qw I g (nC l) (l.map (·.key))
 | [],_=>trivial
 | e::l,h=>by
   obtain ⟨κ,hκ⟩:=h e (by simp);refine ⟨?_,tK fun x hx=>h x (by simp [hx])⟩;simp only [hκ];exact ⟨_,rfl,rfl⟩
theorem MZ {kt:TypeId} (hu:P.underlying kt=some .string) (κ:Int):∀{l:List MapEntry} (i:Nat),(∀e∈l,∃κ:Int,e.key=wh κ)->
   (kN l κ=none/\wJ P kt (.str (zX κ)) (nC l) i=some none)\/
   ∃(j:Nat) (e:MapEntry),l[j]?=some e/\e.key=wh κ/\kN l κ=some e.val/\(∀i,i<j->∀x,l[i]?=some x->x.key≠wh κ)/\wJ P kt (.str (zX κ)) (nC l) i=some (some (i+j))
 | [],i,_=>.inl ⟨rfl,rfl⟩
 | e::l,i,h=>by
   obtain ⟨κ',hκ⟩:=h e (by simp)
   have e1:wJ P kt (.str (zX κ)) (nC (e::l)) i=if zX κ=zX κ' then some (some i) else wJ P kt (.str (zX κ)) (nC l) (i+1):=by
     simp only [nC,hκ,wh,wJ,l8,hu];by_cases hs:zX κ=zX κ'
     . simp [hs]
     . simp [hs]
   by_cases hs:zX κ=zX κ'
   . have:=fO hs;subst this;exact .inr ⟨0,e,rfl,hκ,by rw [kL,if_pos hκ],fun i hi=>by omega,by rw [e1,if_pos rfl];rfl⟩
   . have hne:e.key≠wh κ:=by rw [hκ];exact fun h'=>hs (by rw [iD h'])
     rw [e1,if_neg hs];rcases MZ hu κ (i+1) (l:=l) (fun x hx=>h x (List.mem_cons_of_mem _ hx)) with ⟨h1,h2⟩ | ⟨j,x,h1,h2,h3,h4,h5⟩
     . exact .inl ⟨by rw [kL,if_neg hne];exact h1,h2⟩
     . refine .inr ⟨j+1,x,by simpa using h1,h2,by rw [kL,if_neg hne];exact h3,fun i hi y hy=>?_,by rw [h5];congr 2;omega⟩;cases i with
       | zero=>simp at hy;subst hy;exact hne
       | succ i=>exact h4 i (by omega) y (by simpa using hy)
theorem Ko {kt:TypeId} (hu:P.underlying kt=some .string) (κ:Int) {l:List MapEntry} (h:∀e∈l,∃κ:Int,e.key=wh κ) :
   (kN l κ=none/\(Instr.findKey kt (wh κ) l).run P w=.ok none w)\/
   ∃(j:Nat) (e:MapEntry),l[j]?=some e/\e.key=wh κ/\kN l κ=some e.val/\(∀i,i<j->∀x,l[i]?=some x->x.key≠wh κ)/\(Instr.findKey kt (wh κ) l).run P w=.ok (some (j,e.val)) w:=by
 have I:Itp:=⟨fun _ _ _ _ _=>none,fun _ _=>False⟩;have g:G:=⟨[],fun _=>none,0,fun _=>none⟩;have hk:mK P kt (.str (zX κ))=true:=by simp [mK,hu]
 have hx:Rel I g (.str (zX κ)) (wh κ):=⟨_,rfl,by simp⟩;rcases MZ hu κ 0 h with ⟨h1,h2⟩ | ⟨j,e,h1,h2,h3,h4,h5⟩
 . exact .inl ⟨h1,yx (w:=w) hk hx h2 (tK h)⟩
 . rw [Nat.zero_add] at h5;obtain ⟨e',h6,h7⟩:=yx (w:=w) hk hx h5 (tK h);rw [h1] at h6;cases h6;exact .inr ⟨j,e,h1,h2,h3,h4,h7⟩
theorem qX.MQ {b:Nat} {ck:CK} {t c:E} {κ:Int} {pq:Option PB} {y:Blk} (h:qX A I P g M w) (hb:get M b=some (.fam ck t none)) (hc:c.den I g.env=some (.i κ))
   (hy:jN I P (g.lay pq) g.nb (fun i=>w.heap[i]?) y) (hyf:y.wF=false)
   (hpq:∀q,pq=some q->∃(p:PB) (es:Array MapEntry) (cc:Nat),g.φ b=some p/\w.heap[p.blk]?=some (.map es cc)/\uX es.toList none κ q.blk) :
   qX A I P (g.lay pq) ((g.nb,y)::put b (.fam ck t (some c)) M) w:=by
 have hle:=g.qH pq;have hlt:=h.lt b _ hb;have hold:∀d q,d≠g.nb->(g.lay pq).φ d=some q->g.φ d=some q:=fun d q hd hq=>by simpa [G.lay,hd] using hq
 have hnew:∀q,(g.lay pq).φ g.nb=some q->pq=some q:=fun q hq=>by simpa using hq
 have hcase:∀d z,get ((g.nb,y)::put b (.fam ck t (some c)) M) d=some z->(d=g.nb/\z=y)\/(d≠g.nb/\d=b/\z=.fam ck t (some c))\/(d≠g.nb/\d≠b/\get M d=some z):=fun d z hz=>by
   simp only [qQ] at hz;by_cases hd:g.nb=d
   . rw [if_pos hd] at hz;cases hz;exact .inl ⟨hd.symm,rfl⟩
   . rw [if_neg hd,get_put] at hz;split at hz
     . rename_i hbd;subst hbd;cases hz;exact .inr (.inl ⟨fun e=>hd e.symm,rfl,rfl⟩)
     . rename_i hbd;exact .inr (.inr ⟨fun e=>hd e.symm,fun e=>hbd e.symm,hz⟩)
 have hkey:∀d z,d≠g.nb->get ((g.nb,y)::put b (.fam ck t (some c)) M) d=some z->∃z',get M d=some z'/\(z.wr=true->z'.wr=true):=fun d z hd hz=>by
   rcases hcase d z hz with ⟨h1,_⟩ | ⟨_,rfl,rfl⟩ | ⟨_,_,h1⟩
   . exact absurd h1 hd
   . exact ⟨_,hb,fun _=>rfl⟩
   . exact ⟨z,h1,id⟩
 -- the new block's object
 have Tz:∀q,pq=some q->zV (fun i=>w.heap[i]?) I g b (.fam ck t none) q.blk:=fun q hq=>by
   obtain ⟨p,es,cc,h1,h2,h3⟩:=hpq q hq;exact ⟨p,es,cc,none,κ,h1,h2,trivial,h3⟩
 have hback:∀o,zV (fun i=>w.heap[i]?) I (g.lay pq) b (.fam ck t (some c)) o->zV (fun i=>w.heap[i]?) I g b (.fam ck t none) o/\∀q,pq=some q->q.blk≠o:=fun o ho=>by
   obtain ⟨p,es,cc,k,κ',h1,h2,h3,h4,off,n,cap,h5,h6⟩:=ho;have hk:k=some κ:=jO.fn h3 (show jO I (g.lay pq) (some c) (some κ) from E.qE hle hc);subst hk;have h1':=hold b p (by omega) h1;refine ⟨⟨p,es,cc,none,κ',h1',h2,trivial,by simp,off,n,cap,h5,h6⟩,fun q hq e=>?_⟩;obtain ⟨p',es',cc',k1,k2,k3⟩:=hpq q hq;rw [h1'] at k1;cases k1;have h2':w.heap[p.blk]?=some (.map es cc):=h2;rw [h2'] at k2;cases k2;obtain ⟨p2,es2,cc2,f2,kk,l1,l2,l3,l4,l5⟩:=h.blk b _ hb;rw [h1'] at l1;cases l1;have l2':w.heap[p.blk]?=some (.map es2 cc2):=l2;rw [h2'] at l2';cases l2';have:kk=none:=jO.fn l4 trivial;subst this;have:=l5.apart κ κ' o (by rw [<-e];exact k3) ⟨by simp,off,n,cap,h5,h6⟩;subst this;exact h4 rfl
 refine ⟨G.J4 h.wf _,fun d z hz=>?_,fun d z hz=>?_,fun d e z u q r hz hu hwz hq hr he=>?_,fun d q hq=>?_,fun d z q hz hwz hq=>?_,h.size,h.keep,h.same,fun d z o hz hr=>?_,fun o cs hz=>?_⟩
 . rcases hcase d z hz with ⟨rfl,rfl⟩ | ⟨_,rfl,rfl⟩ | ⟨_,_,hz'⟩
   . exact hy
   . obtain ⟨p,es,cc,f,k,h1,h2,h3,h4,h5⟩:=h.blk d _ hb;have:k=none:=jO.fn h4 trivial;subst this;refine ⟨p,es,cc,f,some κ,hle.some h.wf h1,h2,E.qE hle h3,E.qE hle hc,h5.pl,h5.key,fun κ' _=>h5.mem κ' (by simp),fun κ1 κ2 o k1 k2=>h5.apart κ1 κ2 o ⟨by simp,k1.2⟩ ⟨by simp,k2.2⟩⟩
   . exact (h.blk d z hz').le hle h.wf (h.lt d z hz')
 . by_cases hd:d=g.nb
   . subst hd;simp [G.lay]
   . obtain ⟨z',hz',_⟩:=hkey d z hd hz;have:=h.lt d z' hz';simp [G.lay];omega
 . have key:∀d q r e u,d=g.nb->e≠g.nb->get ((g.nb,y)::put b (.fam ck t (some c)) M) e=some u->(g.lay pq).φ d=some q->(g.lay pq).φ e=some r->q.blk=r.blk->d=e:=fun d q r e u hd he hu hq hr hqr=>by
     subst hd;obtain ⟨u',hu',_⟩:=hkey e u he hu;exact absurd hqr.symm ((h.fam b _ _ hb (Tz q (hnew q hq))).2.2.1 e u' r hu' (hold e r he hr))
   by_cases hd:d=g.nb
   . by_cases hee:e=g.nb
     . omega
     . exact key d q r e u hd hee hu hq hr he
   . by_cases hee:e=g.nb
     . exact (key e r q d z hee hd hz hr hq he.symm).symm
     . obtain ⟨z',hz',Kv⟩:=hkey d z hd hz;obtain ⟨u',hu',_⟩:=hkey e u hee hu;exact h.inj d e z' u' q r hz' hu' (Kv hwz) (hold d q hd hq) (hold e r hee hr) he
 . by_cases hd:d=g.nb
   . subst hd;exact (h.fam b _ _ hb (Tz q (hnew q hq))).2.1
   . exact h.bnd d q (hold d q hd hq)
 . by_cases hd:d=g.nb
   . subst hd;exact (h.fam b _ _ hb (Tz q (hnew q hq))).1
   . obtain ⟨z',hz',Kv⟩:=hkey d z hd hz;exact h.own d z' q hz' (Kv hwz) (hold d q hd hq)
 . -- an object of a map of lists
   have D7:∀d z o,get ((g.nb,y)::put b (.fam ck t (some c)) M) d=some z->zV (fun i=>w.heap[i]?) I (g.lay pq) d z o->d≠g.nb/\∃z',get M d=some z'/\zV (fun i=>w.heap[i]?) I g d z' o/\∀q,pq=some q->q.blk≠o:=fun d z o hz hr=>by
     rcases hcase d z hz with ⟨rfl,rfl⟩ | ⟨hd,rfl,rfl⟩ | ⟨hd,hdb,hz'⟩
     . rw [hr.fam] at hyf;cases hyf
     . exact ⟨hd,_,hb,hback o hr⟩
     . have hr':=zV.le hle (h.lt d z hz') (h.blk d z hz') (fun _ _=>rfl) hr;refine ⟨hd,z,hz',hr',fun q hq e=>?_⟩;have:=Tz q hq;rw [e] at this;exact hdb ((h.fam b _ o hb this).2.2.2 d z hz' hr')
   obtain ⟨hd,z',hz',hr',hq'⟩:=D7 d z o hz hr;obtain ⟨h1,h2,h3,h4⟩:=h.fam d z' o hz' hr';refine ⟨h1,h2,fun e u q hu hq=>?_,fun e u hu hre=>?_⟩
   . by_cases hee:e=g.nb
     . subst hee;exact hq' q (hnew q hq)
     . obtain ⟨u',hu',_⟩:=hkey e u hee hu;exact h3 e u' q hu' (hold e q hee hq)
   . obtain ⟨_,u',hu',EJ,_⟩:=D7 e u o hu hre;exact h4 e u' hu' EJ
 . obtain ⟨h1,h2,h3,h4,h5⟩:=h.frz o cs hz;refine ⟨h1,h2,h3,fun e u q hu hwu hq=>?_,fun e u hu hr=>?_⟩
   . by_cases hee:e=g.nb
     . subst hee;intro he;have:=Tz q (hnew q hq);rw [he] at this;exact h5 b _ hb this
     . obtain ⟨u',hu',Ea⟩:=hkey e u hee hu;exact h4 e u' q hu' (Ea hwu) (hold e q hee hq)
   . rcases hcase e u hu with ⟨rfl,rfl⟩ | ⟨_,rfl,rfl⟩ | ⟨_,_,hu'⟩
     . rw [hr.fam] at hyf;cases hyf
     . exact h5 _ _ hb (hback o hr).1
     . exact h5 e u hu' (zV.le hle (h.lt e u hu') (h.blk e u hu') (fun _ _=>rfl) hr)
theorem qX.Tp {w':World} {b d:Nat} {ck:CK} {t t' c:E} {p:PB} {x:Blk} (h:qX A I P g M w) (hb:get M b=some (.fam ck t (some c))) (hp:g.φ b=some p) (hd:get M d=some x) (hx:x.wr=true) (hdb:d≠b)
   (hsz:w'.heap.size=w.heap.size) (hoth:∀i,i≠p.blk->w'.heap[i]?=w.heap[i]?) (hy:jN I P g b (fun i=>w'.heap[i]?) (.fam ck t' none))
   (hR:∀o,zV (fun i=>w'.heap[i]?) I g b (.fam ck t' none) o->zV (fun i=>w.heap[i]?) I g b (.fam ck t (some c)) o\/∃q,g.φ d=some q/\q.blk=o)
   (ho:w'.os=w.os/\w'.output=w.output:=by exact ⟨rfl,rfl⟩):qX A I P g (put b (.fam ck t' none) (del d M)) w':=by
 have Kh:∀e z q,e≠b->get M e=some z->g.φ e=some q->w'.heap[q.blk]?=w.heap[q.blk]?:=fun e z q he hz hq=>hoth q.blk fun ee=>he (h.inj b e _ z p q hb hz rfl hp hq ee.symm).symm
 have hcase:∀e z,get (put b (.fam ck t' none) (del d M)) e=some z->(e=b/\z=.fam ck t' none)\/(e≠b/\e≠d/\get M e=some z):=fun e z hz=>by
   rw [get_put] at hz;by_cases he:b=e
   . rw [if_pos he] at hz;cases hz;exact .inl ⟨he.symm,rfl⟩
   . rw [if_neg he,yT] at hz;split at hz
     . cases hz
     . rename_i hde;exact .inr ⟨fun e'=>he e'.symm,fun e'=>hde e'.symm,hz⟩
 have hkey:∀e z,get (put b (.fam ck t' none) (del d M)) e=some z->e≠d/\∃z',get M e=some z'/\(z.wr=true->z'.wr=true):=fun e z hz=>by
   rcases hcase e z hz with ⟨rfl,rfl⟩ | ⟨_,h1,h2⟩
   . exact ⟨fun e'=>hdb e'.symm,_,hb,fun _=>rfl⟩
   . exact ⟨h1,z,h2,id⟩
 have D7:∀e z o,get (put b (.fam ck t' none) (del d M)) e=some z->zV (fun i=>w'.heap[i]?) I g e z o->(∃z',get M e=some z'/\zV (fun i=>w.heap[i]?) I g e z' o)\/(e=b/\∃q,g.φ d=some q/\q.blk=o):=fun e z o hz hr=>by
   rcases hcase e z hz with ⟨rfl,rfl⟩ | ⟨he,_,hz'⟩
   . rcases hR o hr with h1 | h1
     . exact .inl ⟨_,hb,h1⟩
     . exact .inr ⟨rfl,h1⟩
   . exact .inl ⟨z,hz',zV.le (.refl g) (h.lt e z hz') (h.blk e z hz') (fun q hq=>Kh e z q he hz' hq) hr⟩
 refine ⟨h.wf,fun e z hz=>?_,fun e z hz=>?_,fun e f z u q r hz hu hwz hq hr ee=>?_,fun e q hq=>?_,fun e z q hz hwz hq=>?_,?_,fun i hi hX=>?_,⟨ho.1.trans h.same.1,ho.2.trans h.same.2⟩,fun e z o hz hr=>?_,fun o cs hz=>?_⟩
 . rcases hcase e z hz with ⟨rfl,rfl⟩ | ⟨he,_,hz'⟩
   . exact hy
   . exact (h.blk e z hz').heap (fun q hq=>Kh e z q he hz' hq) fun o hr=>hoth o fun ee=>(h.fam e z o hz' hr).2.2.1 b _ p hb hp ee.symm
 . obtain ⟨_,z',hz',_⟩:=hkey e z hz;exact h.lt e z' hz'
 . obtain ⟨_,z',hz',Kv⟩:=hkey e z hz;obtain ⟨_,u',hu',_⟩:=hkey f u hu;exact h.inj e f z' u' q r hz' hu' (Kv hwz) hq hr ee
 . rw [hsz];exact h.bnd e q hq
 . obtain ⟨_,z',hz',Kv⟩:=hkey e z hz;exact h.own e z' q hz' (Kv hwz) hq
 . rw [hsz];exact h.size
 . by_cases hi':i=p.blk
   . exfalso;subst hi';rcases h.own b _ p hb rfl hp with h1 | h1
     . exact hX h1
     . omega
   . rw [hoth i hi'];exact h.keep i hi hX
 . rcases D7 e z o hz hr with ⟨z',hz',hr'⟩ | ⟨rfl,q,hq,rfl⟩
   . obtain ⟨h1,h2,h3,h4⟩:=h.fam e z' o hz' hr';refine ⟨h1,by rw [hsz];exact h2,fun f u q hu hq=>?_,fun f u hu hrf=>?_⟩
     . obtain ⟨_,u',hu',_⟩:=hkey f u hu;exact h3 f u' q hu' hq
     . rcases D7 f u o hu hrf with ⟨u',hu',NC⟩ | ⟨_,q,hq,hqo⟩
       . exact h4 f u' hu' NC
       . exact absurd hqo (h3 d x q hd hq)
   . refine ⟨h.own d x q hd hx hq,by rw [hsz];exact h.bnd d q hq,fun f u r hu hr' e=>?_,fun f u hu hrf=>?_⟩
     . obtain ⟨hfd,u',hu',_⟩:=hkey f u hu;exact hfd (h.inj d f x u' q r hd hu' hx hq hr' e.symm).symm
     . rcases D7 f u _ hu hrf with ⟨u',hu',NC⟩ | ⟨hfb,_⟩
       . exact absurd rfl ((h.fam f u' _ hu' NC).2.2.1 d x q hd hq)
       . exact hfb
 . obtain ⟨h1,h2,⟨T,fr,h3⟩,h4,h5⟩:=h.frz o cs hz;refine ⟨h1,by rw [hsz];exact h2,⟨T,fr,by rw [hoth o fun e=>h4 b _ p hb rfl hp e.symm];exact h3⟩,fun e u q hu hwu hq=>?_,fun e u hu hr=>?_⟩
   . obtain ⟨_,u',hu',Ea⟩:=hkey e u hu;exact h4 e u' q hu' (Ea hwu) hq
   . rcases D7 e u o hu hr with ⟨u',hu',hr'⟩ | ⟨_,q,hq,hqo⟩
     . exact h5 e u' hu' hr'
     . exact h4 d x q hd hx hq hqo
theorem rT {r:Nat} {es:Array MapEntry} {c:Nat} {o:Obj} (h:w.heap[r]?=some (.map es c)):(setObj r o).run P w=.ok () (w.putObj r o):=by
 simp [setObj,Sem.run,h,World.putObj]
theorem Dl {s:St} {o:Oper} {t kt et:TypeId} {y z:Operand} (hs:qW A I P X g s a w) (hop:o.op=.lookup t y z false) (hu:P.underlying t=some (.map kt et)) {b:Nat} {ck:CK} {tE:E} {k u:AV} {s1:St} {ps:List PE}
   (hb:get s.mem b=some (.fam ck tE none)) (hy:Rel I g (.mref b) (a.eval y)) (hz:Rel I g k (a.eval z)) (h:HV P s kt et b ck tE k=some (u,s1,ps)):zY A I P X g a w o u s1:=by
 unfold HV at h;split at h
 . rename_i c hkt hze hc;simp only [Option.some.injEq,Prod.mk.injEq] at h;obtain ⟨rfl,rfl,rfl⟩:=h;obtain ⟨κ,hκ,hzv⟩:=xL hc hz;obtain ⟨p,h1,h2⟩:=hy;obtain ⟨p',es,cc,f,kk,h3,h4,h5,h6,h7⟩:=hs.m.blk b _ hb;rw [h1] at h3;cases h3;have hk0:kk=none:=jO.fn h6 trivial;subst hk0;have hh:w.heap[p.blk]?=some (.map es cc):=h4;obtain ⟨ti,zx,_,_,hzr,zM⟩:=zC hze;have hzx:zx=.slice none 0 0:=(zM I g).1;subst hzx
   have hck:(Instr.checkKey es.isEmpty 10000 kt (wh κ)).run P w=.ok () w:=by
     exact yJ (I:=I) (g:=g) (v:=.str (zX κ)) (by simp [mK,hkt]) ⟨_,rfl,by simp⟩ _ 9998
   have main:∀{r:Option (Nat × Value)} {v:Value},(Instr.findKey kt (wh κ) es.toList).run P w=.ok r w->(match r with | some (_,u')=>u'=v | none=>v=.slice none 0 0)->
       (execOp a.eval o).run P w=.ok (.value v) w:=by
     intro r v hr hv;simp only [execOp,hop,h2,Instr.lookup,Sem.run_bind,run_underlying hu,Result.andThen,jW hh,Sem.run_pure,hzv,hck,hr];cases r with
     | none=>simp only at hv;subst hv;simp [hzr w]
     | some r=>simp only at hv;subst hv;simp
   have hmem:=h7.mem κ (by simp);have hsel:=jU (c:=0) h5 hκ
   have htab:(E.fn 1012 tE c (.lit 0) (.lit 0)).den I g.env=some (.t (Tf f κ)):=
     vK (j:=12) h5 hκ (show (E.lit 0).den I g.env=some (.i 0) from rfl) (show (E.lit 0).den I g.env=some (.i 0) from rfl)
   -- a list that is nil, or has no room
   have nothing:∀(v:Value),(∃q,v=.slice q 0 0)->f κ 0=0->(execOp a.eval o).run P w=.ok (.value v) w->
       zY A I P X g a w o (.slice s.nb (.lit 0) (kJ tE c 0) 1 true) { s with mem:=(s.nb,.rows [ck] (.fn 1012 tE c (.lit 0) (.lit 0)) (kJ tE c 0) true true)::put b (.fam ck tE (some c)) s.mem,nb:=s.nb+1 }:=by
     rintro v ⟨q,rfl⟩ h0 hrun;rw [h0] at hsel;refine ⟨_,w,g.lay none,.inl hrun,g.qH _,rfl,⟨0,0,rfl,hsel,Int.le_refl _,Int.le_refl _,.inr ⟨rfl,rfl,q,rfl⟩⟩,?_⟩;refine hs.lay ?_;rw [<-hs.nb];exact hs.m.MQ hb hκ (y:=.rows [ck] (.fn 1012 tE c (.lit 0) (.lit 0)) (kJ tE c 0) true true) ⟨Tf f κ,0,htab,hsel,Int.le_refl _,.inr ⟨rfl,rfl,by simp [G.lay]⟩⟩ rfl (fun q hq=>by cases hq)
   rcases Ko (P:=P) (w:=w) hkt κ h7.key with ⟨h8,h9⟩ | ⟨j,e,h8,h9,h10,h11,h12⟩
   . rw [h8] at hmem;exact nothing _ ⟨none,rfl⟩ hmem (main h9 rfl)
   . rw [h10] at hmem;rcases hmem with ⟨hv,h0⟩ | ⟨ob,off,n,cap,cs,T,fr,k1,k2,k3,k4,k5,k6,k7,k8⟩
     . exact nothing _ hv h0 (main h12 rfl)
     . let q:PB:={ blk:=ob,base:=off,tot:=cap };rw [k4] at hsel;have hat:uX es.toList none κ ob:=⟨by simp,off,n,cap,by rw [h10,k1],k2⟩;refine ⟨e.val,w,g.lay (some q),.inl (main h12 rfl),g.qH _,rfl,⟨0,n,rfl,hsel,Int.le_refl _,by omega,.inl ⟨q,cap,by rw [<-hs.nb];simp,by rw [k1];simp [q],by simpa using k3,by simp [q]⟩⟩,?_⟩;refine hs.lay ?_;rw [<-hs.nb];refine hs.m.MQ hb hκ (y:=.rows [ck] (.fn 1012 tE c (.lit 0) (.lit 0)) (kJ tE c 0) true true) ⟨Tf f κ,n,htab,hsel,by omega,.inl ⟨q,cs,T,fr,by simp,k5,fun r j' ck' hr hj=>?_,fun _=>⟨k6,k7,by simp [q];omega⟩⟩⟩ rfl (fun q' hq=>by cases hq;exact ⟨p,es,cc,h1,hh,hat⟩)
       match j',hj with
       | 0,hj=>
         simp only [List.getElem?_cons_zero,Option.some.injEq] at hj;subst hj;have:=k8 r (by simpa using hr);exact (CK.KS h7.pl).2 (by simpa [q,Tf] using this)
       | j'+1,hj=>simp at hj
 . cases h
theorem Bq {s:St} {o:Oper} {t kt et:TypeId} {y z x:Operand} (hs:qW A I P X g s a w) (hop:o.op=.mapUpdate t y z x) (hu:P.underlying t=some (.map kt et)) {b:Nat} {ck:CK} {tE c:E} {k v u:AV} {s1:St} {ps:List PE}
   (hb:get s.mem b=some (.fam ck tE (some c))) (hy:Rel I g (.mref b) (a.eval y)) (hz:Rel I g k (a.eval z)) (hv:Rel I g v (a.eval x)) (h:XU P s kt b ck tE c k v=some (u,s1,ps)) (hps:∀q∈ps,q.den I g.env) :
   zY A I P X g a w o u s1:=by
 unfold XU at h;split at h
 . rename_i c' d n nl hkt hc;split at h
   . rename_i ck' ut m nl' hd;split at h
     . rename_i hcc;obtain ⟨rfl,rfl⟩:=hcc;simp only [Option.some.injEq,Prod.mk.injEq] at h;obtain ⟨rfl,rfl,rfl⟩:=h;obtain ⟨κ,hκ,hzv⟩:=xL hc hz;obtain ⟨p,h1,h2⟩:=hy;obtain ⟨p',es,cc,f,kk,h3,h4,h5,h6,h7⟩:=hs.m.blk b _ hb;rw [h1] at h3;cases h3;have hk0:kk=some κ:=jO.fn h6 (show jO I g (some c') (some κ) from hκ);subst hk0;have hh:w.heap[p.blk]?=some (.map es cc):=h4;have hlt:=hs.m.bnd b p h1;obtain ⟨l0,nn,hl0,hnn,hl0',hnn',hsl⟩:=hv;simp only [E.den,Option.some.injEq,D.i.injEq] at hl0;subst hl0;obtain ⟨fu,mm,hfu,hmm,hmm',hrows⟩:=hs.m.blk d _ hd
       have hle:nn<=mm:=by
         obtain ⟨q,hq,hq0⟩:=hps _ (List.mem_singleton.2 rfl);rw [qy (o:=.le) hnn hmm] at hq;simp only [Option.some.injEq,D.i.injEq,BO.ev] at hq;by_cases hx:nn<=mm
         . exact hx
         . rw [if_neg hx] at hq;omega
       have hdb:d≠b:=fun e=>by subst e;rw [hb] at hd;cases hd
       have hck:∀em,(Instr.checkKey em 10000 kt (wh κ)).run P w=.ok () w:=fun em=>by
         exact yJ (I:=I) (g:=g) (v:=.str (zX κ)) (by simp [mK,hkt]) ⟨_,rfl,by simp⟩ em 9998
       have htab:(E.fn 1013 tE c' ut n).den I g.env=some (.t (XD f κ fu nn)):=vK (j:=13) h5 hκ hfu hnn
       -- what the list is behind it
       have hap:∀κ' o',uX es.toList (some κ) κ' o'->(∀q,g.φ d=some q->q.blk≠o')/\o'≠p.blk:=fun κ' o' ho=>by
         have hr:=hs.m.fam b _ o' hb ⟨p,es,cc,some κ,κ',h1,h4,hκ,ho⟩;exact ⟨fun q hq=>hr.2.2.1 d _ q hd hq,fun e=>hr.2.2.1 b _ p hb h1 e.symm⟩
       have hdp:∀q,g.φ d=some q->q.blk≠p.blk:=fun q hq e=>hdb (hs.m.inj d b _ _ q p hd hb rfl hq h1 e)
       have build:∀(es':Array MapEntry) (c2:Nat),(∀e∈es'.toList,∃κ:Int,e.key=wh κ)->(∀κ',kN es'.toList κ'=if κ'=κ then some (a.eval x) else kN es.toList κ')->
           (execOp a.eval o).run P w=.ok .skip (w.putObj p.blk (.map es' c2))->zY A I P X g a w o .undef { s with mem:=put b (.fam ck' (.fn 1013 tE c' ut n) none) (del d s.mem) }:=by
         intro es' c2 hkeys hget hrun;have hoth:∀i,i≠p.blk->(w.putObj p.blk (.map es' c2)).heap[i]?=w.heap[i]?:=fun i hi=>World.putObj_heap_other hi
         -- the list that is put back
         have hnew:∀o',uX es'.toList none κ o'->∃q,g.φ d=some q/\q.blk=o':=fun o' ⟨_,off,n',cap,k1,k2⟩=>by
           rw [hget,if_pos rfl] at k1;rcases hsl with ⟨q,cap',l1,l2,_,_⟩ | ⟨_,_,q,l2⟩
           . rw [l2] at k1;simp only [Option.some.injEq,Value.slice.injEq,Addr.mk.injEq] at k1;exact ⟨q,l1,k1.1.1⟩
           . rw [l2] at k1;simp only [Option.some.injEq,Value.slice.injEq] at k1;omega
         have hold:∀κ' o',κ'≠κ->uX es'.toList none κ' o'->uX es.toList (some κ) κ' o':=fun κ' o' hne ⟨_,off,n',cap,k1,k2⟩=>by
           rw [hget,if_neg hne] at k1;exact ⟨fun e=>hne (Option.some.inj e).symm,off,n',cap,k1,k2⟩
         refine ⟨Go.undef,_,g,.inr ⟨hrun,rfl⟩,.refl _,rfl,rfl,hs.mem (hs.m.Tp hb h1 hd rfl hdb (by simp) hoth ?_ ?_)⟩
         . refine ⟨p,es',c2,XD f κ fu nn,none,h1,World.putObj_heap_same hlt,htab,trivial,h7.pl,hkeys,fun κ' _=>?_,fun κ1 κ2 o' k1 k2=>?_⟩
           . rw [hget];by_cases hne:κ'=κ
             . subst hne;rw [if_pos rfl];rcases hsl with ⟨q,cap,l1,l2,l3,l4⟩ | ⟨_,l1,q,l2⟩
               . by_cases hcap:cap=0
                 . refine .inl ⟨⟨some ⟨q.blk,q.base+(0:Int).toNat*1,none⟩,?_⟩,?_⟩
                   . rw [l2,hcap,show nn.toNat=0 by omega]
                   . simp [XD];omega
                 . rcases hrows with ⟨q',cs,T,fr,m1,m2,m3,m4⟩ | ⟨_,_,m1⟩
                   . rw [l1] at m1;cases m1;obtain ⟨m5,m6,m7⟩:=m4 rfl;refine .inr ⟨q.blk,q.base+(0:Int).toNat*1,nn.toNat,cap,cs,T,fr,l2,by omega,l3,by simp [XD];omega,?_,m5,by simp at l4 ⊢;omega,fun j hj=>?_⟩
                     . show (w.putObj p.blk _).heap[q.blk]?=_;rw [hoth _ (hdp q l1)];exact m2
                     . have:=(CK.KS h7.pl).1 (m3 j 0 ck' (by omega) rfl);simp [XD] at this ⊢;exact this
                   . rw [l1] at m1;cases m1
               . refine .inl ⟨⟨q,l2⟩,by simp [XD,l1]⟩
             . rw [if_neg hne];have:=h7.mem κ' fun e=>hne (Option.some.inj e).symm;have e2:XD f κ fu nn κ'=f κ':=by funext c;simp [XD,hne]
               split at this
               . rw [e2];exact this
               . rename_i v e;rw [e2];refine this.heap fun o' off n' cap k1 k2=>hoth _ ?_;exact (hap κ' o' ⟨fun e=>hne (Option.some.inj e).symm,off,n',cap,by rw [e,k1],k2⟩).2
           . by_cases e1:κ1=κ
             . by_cases e2:κ2=κ
               . rw [e1,e2]
               . subst e1;obtain ⟨q,l1,l2⟩:=hnew o' k1;exact absurd l2 ((hap κ2 o' (hold κ2 o' e2 k2)).1 q l1)
             . by_cases e2:κ2=κ
               . subst e2;obtain ⟨q,l1,l2⟩:=hnew o' k2;exact absurd l2 ((hap κ1 o' (hold κ1 o' e1 k1)).1 q l1)
               . exact h7.apart κ1 κ2 o' (hold κ1 o' e1 k1) (hold κ2 o' e2 k2)
         . rintro o' ⟨p2,es2,c3,k2,κ',l1,l2,l3,l4⟩;rw [h1] at l1;cases l1;have l2':(w.putObj p.blk (.map es' c2)).heap[p.blk]?=some (.map es2 c3):=l2;rw [World.putObj_heap_same hlt] at l2';simp only [Option.some.injEq,Obj.map.injEq] at l2';obtain ⟨rfl,rfl⟩:=l2';have:k2=none:=jO.fn l3 trivial;subst this;by_cases e1:κ'=κ
           . subst e1;exact .inr (hnew o' l4)
           . exact .inl ⟨p,es,cc,some κ,κ',h1,h4,hκ,hold κ' o' e1 l4⟩
       rcases Ko (P:=P) (w:=w) hkt κ h7.key with ⟨h8,h9⟩ | ⟨j,e,h8,h9,h10,h11,h12⟩
       . refine build (es.push { key:=a.eval z,val:=a.eval x,born:=cc }) (cc+1) (fun e he=>?_) (fun κ'=>?_) ?_
         . simp only [Array.toList_push,List.mem_append,List.mem_singleton] at he;rcases he with he | rfl
           . exact h7.key e he
           . exact ⟨κ,hzv⟩
         . rw [Array.toList_push];exact Q8 (e:={ key:=a.eval z,val:=a.eval x,born:=cc }) hzv κ' h8
         . simp only [execOp,hop,h2,Instr.mapUpdate,Sem.run_bind,run_underlying hu,Result.andThen,jW hh,Sem.run_pure,hzv,hck,h9,rT hh]
       . have h8':es[j]?=some e:=by rw [<-Array.getElem?_toList];exact h8
         have Gu:(Instr.keyThatStays e.key (wh κ)).run P w=.ok (wh κ) w:=by
           unfold Instr.keyThatStays
           have e0:∀s:ByteArray,(s == s)=true:=fun s=>by
             show (s.data == s.data)=true;simp
           rw [h9,if_pos (by simp only [wh,Instr.sameBits,e0])];rfl
         have hlist:(es.modify j fun e=>{ e with key:=wh κ,val:=a.eval x }).toList=es.toList.set j { e with key:=wh κ,val:=a.eval x }:=by
           apply List.ext_getElem?;intro i;simp only [Array.getElem?_toList,Array.getElem?_modify,List.getElem?_set];split
           . rename_i hij;subst hij;have hjl:j<es.size:=(Array.getElem?_eq_some_iff.1 h8').1;rw [h8'];simp [hjl]
           . simp
         refine build (es.modify j fun e=>{ e with key:=wh κ,val:=a.eval x }) cc (fun e' he=>?_) (fun κ'=>?_) ?_
         . rw [hlist] at he;rcases List.mem_or_eq_of_mem_set he with he | rfl
           . exact h7.key e' he
           . exact ⟨κ,rfl⟩
         . rw [hlist];exact Ka rfl rfl κ' h8 h9 h11
         . simp only [execOp,hop,h2,Instr.mapUpdate,Sem.run_bind,run_underlying hu,Result.andThen,jW hh,Sem.run_pure,hzv,hck,h12,h8',Option.map_some,Option.getD_some,Gu,rT hh,Result.andThen,Sem.run_bind]
     . cases h
   . cases h
 . cases h
end Go.Sx
end
