/-
  Operations that make or write memory, all of them. Conditions: none.
-/
import Derived.Test.YtmjjjhinedogjaaGreatDoorA3
noncomputable section
namespace Go.Sx
open Go
variable {A:Amb} {I:Itp} {P:Program} {g:G} {X:Nat->Prop} {ts:qO} {a:Act} {M:Mem} {w:World}
theorem XL {s:St} {o:Oper} {src dst el:TypeId} {x:Operand} {t n:E} (hs:qW A I P X g s a w) (hop:o.op=.convert src dst x) (hsrc:P.underlying src=some .string) (hd:P.underlying dst=some (.slice el))
   (hel:P.underlying el=some (.int .u8)) (hv:Rel I g (.wE t n) (a.eval x)) :
   zY A I P X g a w o (.slice s.nb (.lit 0) n 1 false) (zm s (.rows [.int .u8] t n true false)):=by
 obtain ⟨f,k,sb,h1,h2,h3,h4,h5⟩:=hv;have hsize:sb.size=sb.data.toList.length:=by rw [Array.length_toList];rfl
 have hcap:sb.size<=grownCap w sb.size 0 el:=by simp [grownCap,Question.cut]
 obtain ⟨cap,IB⟩:∃cap,cap=grownCap w sb.size 0 el:=⟨_,rfl⟩;rw [<-IB] at hcap;have hrun:=run_bytes_of_string w src dst el sb hsrc hd hel;rw [<-IB] at hrun
 have hcs:(bytesRow sb cap).size=cap:=by
   simp [bytesRow];have:sb.data.size=sb.size:=rfl;omega
 have hget:∀(i:Nat) (b:UInt8),sb.data.toList[i]?=some b->(bytesRow sb cap)[i]?=some (.int .u8 (b.toNat:Int)):=fun i b hb=>by
   have hi:=(List.getElem?_eq_some_iff.1 hb).1;have hb':sb.data[i]?=some b:=by simpa using hb
   unfold bytesRow;rw [Array.getElem?_append_left (by simp;rw [Array.length_toList] at hi;exact hi)];simp [hb']
 generalize bytesRow sb cap=cs at hrun hcs hget;let p:PB:={ blk:=w.heap.size,base:=0,tot:=cap };refine ⟨.slice (some ⟨w.heap.size,0,none⟩) sb.size cap,w.drew.alloc (.cells cs el (cs.size,cs.size+1)),g.lay (some p),.inl ?_,g.qH _,rfl,?_,?_⟩
 . have:(execOp a.eval o)=(do pure (.value (<-convert src dst (.string sb)))):=by simp only [execOp,hop,h3]
   rw [this,Sem.run_bind,hrun];rfl
 . refine ⟨0,k,rfl,E.qE (g.qH _) h2,Int.le_refl _,by omega,.inl ⟨p,cap,by rw [<-hs.nb];exact G.zh g (some p),?_,by omega,by simp [p]⟩⟩;simp only [p,Int.toNat_zero,Nat.zero_mul,Nat.add_zero]
   congr 1;omega
 . have hm1:=(hs.m.lG (w':=w.drew) rfl).alloc (M':=s.mem) (o:=.cells cs el (cs.size,cs.size+1)) (x:=.rows [.int .u8] t n true false) (p:=p) (fun _ _ h=>h) rfl
     ⟨f,k,h1,h2,by omega,.inl ⟨p,cs,el,_,G.zh g (some p),heap_alloc_new _ _,fun r j ck hr hj=>by
       cases j with
       | zero=>
         simp at hj;subst hj;have hlt:r<sb.data.toList.length:=by omega
         have hb:=List.getElem?_eq_getElem hlt;have:=hget r _ hb;simp only [p,List.length_singleton,Nat.mul_one,Nat.zero_add,Nat.add_zero];rw [this,h5 r _ hb];exact ⟨_,rfl,rfl⟩
       | succ j=>simp at hj,fun _=>⟨.inr (Nat.le_refl _),by simp [p];omega,by simp [p];omega⟩⟩⟩
   rw [hs.nb] at hm1;exact hs.lay hm1
theorem NK {s:St} {o:Oper} {src el:TypeId} {x:Operand} {b:Nat} {lo n t len:E} (hs:qW A I P X g s a w) (hop:o.op=.convert src src x) (hu:P.underlying src=some (.slice el)) (hel:P.underlying el=some (.int .u8))
   (hv:Rel I g (.slice b lo n 1 false) (a.eval x)) (hb:get s.mem b=some (.rows [.int .u8] t len true false)) :
   zY A I P X g a w o (.slice b lo n 1 false) { s with mem:=put b (.rows [.int .u8] t len true false) s.mem }:=by
 have hv0:=hv;obtain ⟨l,m,hl,hm,hl0,hm0,⟨p,cap,hp,hx,hle,htot⟩ | ⟨h0,_⟩⟩:=hv
 case inr=>cases h0
 obtain ⟨f,k,h1,h2,h3,⟨p',c,T,fr,hp',hh,hc,hw⟩ | ⟨h0,_⟩⟩:=hs.m.blk b _ hb
 case inr=>cases h0
 obtain rfl:p'=p:=Option.some.inj (hp'.symm.trans hp);obtain ⟨hfr,hw2,hw3⟩:=hw rfl;have hsh:(shape p'.blk).run P w=.ok (some (T,c.size)) w:=by simp [run_shape,World.shape?,hh]
 have hrun:(execOp a.eval o).run P w=.ok (.value (a.eval x)) (w.freeze ⟨p'.blk,c.size,none⟩ 1):=by
   simp only [execOp,hop,hx,convert,Sem.run_bind,run_underlying hu,run_underlying hel,Result.andThen,beq_self_eq_true,markStringish,hsh,Sem.run_pure,run_freeze]
 refine ⟨_,_,g,.inl hrun,.refl g,rfl,hv0,hs.mem (hs.m.write hb rfl hp (by simp [World.freeze]) (fun i hi=>?_) ?_ ⟨rfl,rfl⟩)⟩
 . simp only [World.freeze,Nat.one_ne_zero,if_false];rw [Array.getElem?_modify,if_neg (fun e=>hi e.symm)]
 . refine ⟨f,k,h1,h2,h3,.inl ⟨p',c,T,(if fr.1 == fr.2 then (c.size,c.size+1) else (min fr.1 c.size,max fr.2 (c.size+1))),hp,?_,hc,fun _=>⟨?_,hw2,hw3⟩⟩⟩
   . simp only [World.freeze,Nat.one_ne_zero,if_false];rw [Array.getElem?_modify,if_pos rfl];have:w.heap[p'.blk]?=some (.cells c T fr):=hh;rw [this];rfl
   . rcases hfr with rfl | hfr
     . exact .inr (Nat.le_refl _)
     . right;split
       . exact Nat.le_refl _
       . show c.size<=min fr.1 c.size;omega
theorem Xb {s:St} {o:Oper} {t:TypeId} (hs:qW A I P X g s a w) (hop:o.op=.makeMap t none) :
   zY A I P X g a w o (.mref s.nb) (zm s (.mp [] [])):=by
 let p:PB:={ blk:=w.heap.size,base:=0,tot:=0 };refine ⟨.map (some w.heap.size),w.alloc (.map #[] 0),g.lay (some p),.inl ?_,g.qH _,rfl,?_,?_⟩
 . simp only [execOp,hop,Option.map_none,Instr.makeMap,Sem.run_bind,Result.andThen,run_newObj_alloc,Sem.run_pure]
 . exact ⟨p,by rw [<-hs.nb];exact G.zh g (some p),rfl⟩
 . have hm:=hs.m.alloc (M':=s.mem) (o:=.map #[] 0) (x:=.mp [] []) (p:=p) (fun _ _ h=>h) rfl
     ⟨p,#[],0,G.zh g (some p),heap_alloc_new _ _,trivial,trivial⟩
   rw [hs.nb] at hm;exact hs.lay hm
theorem WZ {v u:AV} {x y:Value} (h:v.FI u=true) (hx:Rel I g v x) (hy:Rel I g u y):x=y/\∀n,Instr.sameBits n x y=true:=by
 unfold AV.FI at h;split at h
 . obtain ⟨s1,rfl,h1⟩:=hx;obtain ⟨s2,rfl,h2⟩:=hy
   have:s1=s2:=by
     have e:s1.data=s2.data:=Array.toList_inj.1 (by rw [h1,h2];exact beq_iff_eq.1 h);cases s1;cases s2;simp_all
   subst this
   have e:(s1 == s1)=true:=by
     show (s1.data == s1.data)=true;simp
   exact ⟨rfl,fun n=>by cases n <;> simp only [Instr.sameBits,e]⟩
 . simp only [Bool.and_eq_true,beq_iff_eq] at h;obtain ⟨rfl,rfl⟩:=h;obtain ⟨n1,h1,rfl⟩:=hx;obtain ⟨n2,h2,rfl⟩:=hy;simp only [E.den,Option.some.injEq,D.i.injEq] at h1 h2;subst h1;subst h2;exact ⟨rfl,fun n=>by cases n <;> simp [Instr.sameBits]⟩
 . cases h
theorem Jz:∀{l m:List AV} {xs ys:List Value},aR l m=true->qw I g l xs->qw I g m ys->xs=ys/\∀n,(xs.zip ys).all (fun z=>Instr.sameBits n z.1 z.2)=true
 | [],[],[],[],_,_,_=>⟨rfl,fun _=>rfl⟩
 | v::l,u::m,x::xs,y::ys,h,hx,hy=>by
   simp only [aR,Bool.and_eq_true] at h;obtain ⟨h1,h2⟩:=WZ h.1 hx.1 hy.1;obtain ⟨h3,h4⟩:=Jz h.2 hx.2 hy.2;exact ⟨by rw [h1,h3],fun n=>by simp [h2 n];simpa using h4 n⟩
 | [],[],_::_,_,_,h,_=>by simp [qw] at h
 | [],[],[],_::_,_,_,h=>by simp [qw] at h
 | [],_::_,_,_,h,_,_=>by simp [aR] at h
 | _::_,[],_,_,h,_,_=>by simp [aR] at h
 | _::_,_::_,[],_,_,h,_=>by simp [qw] at h
 | _::_,_::_,_::_,[],_,_,h=>by simp [qw] at h
theorem Nh {v u:AV} {x y:Value} (h:v.Ri u=true) (hx:Rel I g v x) (hy:Rel I g u y):x=y/\∀n,Instr.sameBits (n+1) x y=true:=by
 unfold AV.Ri at h;split at h
 . obtain ⟨cs,rfl,h1⟩:=hx;obtain ⟨ds,rfl,h2⟩:=hy;obtain ⟨h3,h4⟩:=Jz h h1 h2;have:cs=ds:=Array.toList_inj.1 h3;subst this;exact ⟨rfl,fun n=>by simp only [Instr.sameBits,beq_self_eq_true,Bool.true_and];exact h4 n⟩
 . obtain ⟨h1,h2⟩:=WZ h hx hy;exact ⟨h1,fun n=>h2 _⟩
theorem qw.set1 {l:List AV} {xs:List Value} {v:AV} {x:Value} (h:qw I g l xs) (hv:Rel I g v x) (j:Nat):qw I g (l.set j v) (xs.set j x):=
 .mk (by simp [h.length]) fun i u y h1 h2=>by
   rw [List.getElem?_set] at h1 h2;split at h1
   . rename_i hij;rw [if_pos hij] at h2;split at h1
     . split at h2
       . cases h1;cases h2;exact hv
       . cases h2
     . cases h1
   . rename_i hij;rw [if_neg hij] at h2;obtain ⟨z,h3,h4⟩:=h.get h1;rw [h2] at h3;cases h3;exact h4
theorem vF {r:Nat} {es:Array MapEntry} {c:Nat} {o:Obj} (h:w.heap[r]?=some (.map es c)):(setObj r o).run P w=.ok () (w.putObj r o):=by
 simp [setObj,Sem.run,h,World.putObj]
theorem sK {s:St} {o:Oper} {t kt et:TypeId} {y z x:Operand} (hs:qW A I P X g s a w) (hop:o.op=.mapUpdate t y z x\/o.op=.insert t y z x) (hu:P.underlying t=some (.map kt et)) {b:Nat} {k v u:AV} {s1:St} {ps:List PE}
   (hy:Rel I g (.mref b) (a.eval y)) (hz:Rel I g k (a.eval z)) (hv:Rel I g v (a.eval x)) (h:fP P s kt b k v=some (u,s1,ps)) :
   zY A I P X g a w o u s1:=by
 unfold fP at h;split at h
 . rename_i hk;split at h
   . rename_i l m hb;obtain ⟨p,h1,h2⟩:=hy;obtain ⟨p',es,c,h3,h4,h5,h6⟩:=hs.m.blk b _ hb;rw [h1] at h3;cases h3;have hlt:=hs.m.bnd b p h1;have hc:∀em,(Instr.checkKey em 10000 kt (a.eval z)).run P w=.ok () w:=fun em=>yJ hk hz em 9998;split at h
     . rename_i j hj;split at h
       . rename_i k' hk';split at h
         . rename_i hsame;simp at h;obtain ⟨rfl,rfl,rfl⟩:=h;obtain ⟨e,k1,k2⟩:=yx (w:=w) hk hz hj h5;obtain ⟨kv,k3,k4⟩:=h5.get hk'
           have k5:kv=e.key:=by
             rw [List.getElem?_map,k1] at k3;simpa using k3.symm
           subst k5;obtain ⟨k6,k7⟩:=Nh hsame k4 hz;have k8:es[j]?=some e:=by rw [<-Array.getElem?_toList];exact k1
           have Gu:(Instr.keyThatStays e.key (a.eval z)).run P w=.ok (a.eval z) w:=by
             unfold Instr.keyThatStays;rw [if_pos (k7 9999)];rfl
           have hjl:j<es.size:=(Array.getElem?_eq_some_iff.1 k8).1
           have hkeys:((es.modify j fun e=>{ e with key:=a.eval z,val:=a.eval x }).toList.map (·.key))=es.toList.map (·.key):=by
             apply List.ext_getElem?;intro i;simp only [List.getElem?_map,Array.getElem?_toList,Array.getElem?_modify];split
             . rename_i hij;subst hij;rw [k8];simp [k6]
             . rfl
           have qz8:((es.modify j fun e=>{ e with key:=a.eval z,val:=a.eval x }).toList.map (·.val))=(es.toList.map (·.val)).set j (a.eval x):=by
             apply List.ext_getElem?;intro i;simp only [List.getElem?_map,Array.getElem?_toList,Array.getElem?_modify,List.getElem?_set];split
             . rename_i hij;subst hij;rw [k8];simp [hjl]
             . rfl
           refine ⟨Go.undef,w.putObj p.blk (.map (es.modify j fun e=>{ e with key:=a.eval z,val:=a.eval x }) c),g,.inr ⟨?_,rfl⟩,.refl _,rfl,rfl,hs.mem (hs.m.write (y:=.mp l (m.set j v)) hb rfl h1 (by simp) (fun i hi=>World.putObj_heap_other hi) ?_)⟩
           . rcases hop with hop | hop <;> simp only [execOp,hop,h2,Instr.mapUpdate,Sem.run_bind,run_underlying hu,Result.andThen,jW h4,hc,k2,k8,Option.map_some,Option.getD_some,Gu,vF h4,Sem.run_pure]
           . exact ⟨p,_,c,h1,World.putObj_heap_same hlt,by rw [hkeys];exact h5,by rw [qz8];exact h6.set1 hv j⟩
         . cases h
       . cases h
     . rename_i hj;simp at h;obtain ⟨rfl,rfl,rfl⟩:=h;have k2:=yx (w:=w) hk hz hj h5;refine ⟨Go.undef,w.putObj p.blk (.map (es.push { key:=a.eval z,val:=a.eval x,born:=c }) (c+1)),g,.inr ⟨?_,rfl⟩,.refl _,rfl,rfl,hs.mem (hs.m.write (y:=.mp (l++[k]) (m++[v])) hb rfl h1 (by simp) (fun i hi=>World.putObj_heap_other hi) ?_)⟩
       . rcases hop with hop | hop <;> simp only [execOp,hop,h2,Instr.mapUpdate,Sem.run_bind,run_underlying hu,Result.andThen,jW h4,hc,k2,vF h4,Sem.run_pure]
       . exact ⟨p,_,_,h1,World.putObj_heap_same hlt,by simpa using qw.append h5 (m:=[k]) (ys:=[a.eval z]) ⟨hz,trivial⟩,by simpa using qw.append h6 (m:=[v]) (ys:=[a.eval x]) ⟨hv,trivial⟩⟩
     . cases h
   . cases h
 . cases h
theorem iL {c:CK} (hc:c.plain=true) (n:Int) (m:Nat):Instr.sameBits m (c.val n) (c.val n)=true:=by
 cases c with
 | lst ks=>cases hc
 | clo cs=>cases hc
 | int k=>cases m <;> simp [CK.val,Instr.sameBits]
 | bool=>cases m <;> simp [CK.val,Instr.sameBits]
 | str=>
   have e:∀s:ByteArray,(s == s)=true:=fun s=>by
     show (s.data == s.data)=true;simp
   cases m <;> simp only [CK.val,Instr.sameBits,e]
theorem nZ (f:Nat->Int) (m:Nat):∀(ks:List CK) (c:Nat) (_:∀k∈ks,k.plain=true),((wQ f c ks).zip (wQ f c ks)).all (fun z=>Instr.sameBits m z.1 z.2)=true
 | [],_,_=>rfl
 | k::ks,c,hk=>by
   simp only [wQ,List.zip_cons_cons,List.all_cons,iL (hk k (by simp)),Bool.true_and];exact nZ f m ks (c+1) fun k' h=>hk k' (by simp [h])
theorem YS (w:Nat) (one:Bool) (ks:List CK) (hks:∀k∈ks,k.plain=true) (f:Nat->Int) (m:Nat):Instr.sameBits (m+1) (fH w one ks f) (fH w one ks f)=true:=by
 unfold fH;cases one with
 | true=>
   cases ks with
   | nil=>rfl
   | cons k ks=>exact iL (hks k (by simp)) ..
 | false=>
   have e:∀l:List Value,l.zip l |>.all (fun z=>Instr.sameBits m z.1 z.2)->Instr.sameBits (m+1) (.agg l.toArray) (.agg l.toArray)=true:=fun l h=>by
     simp only [Instr.sameBits,beq_self_eq_true,Bool.true_and];simpa using h
   cases ks with
   | nil=>exact e _ (by simpa using nZ f m [] 0 (by simp))
   | cons k ks=>exact e _ (by simpa using nZ f m ((k::ks).take w) 0 fun k' h=>hks k' (List.mem_of_mem_take h))
theorem iG {s:St} {o:Oper} {t kt et:TypeId} {y z x:Operand} (hs:qW A I P X g s a w) (hop:o.op=.mapUpdate t y z x\/o.op=.insert t y z x) (hu:P.underlying t=some (.map kt et)) {b wd:Nat} {one:Bool} {ks:List CK} {tE n:E} {k v u:AV} {s1:St} {ps:List PE}
   (hb:get s.mem b=some (.smp wd one ks tE n)) (hy:Rel I g (.mref b) (a.eval y)) (hz:Rel I g k (a.eval z)) (hv:Rel I g v (a.eval x)) (h:cu P s kt b wd one ks tE n k v=some (u,s1,ps)) :
   zY A I P X g a w o u s1:=by
 obtain ⟨p,h1,h2⟩:=hy;obtain ⟨p',es,c,f,h3,h4,h5,h6,hks,h7⟩:=hs.m.blk b _ hb;rw [h1] at h3;cases h3;have hh:w.heap[p.blk]?=some (.map es c):=h4;have hlt:=hs.m.bnd b p h1;unfold cu at h;split at h
 . rename_i hkt;split at h
   . rename_i ue ck ck' e hku hck hkv hsc;split at h
     . rename_i hcc;subst hcc;simp only [Option.some.injEq,Prod.mk.injEq] at h;obtain ⟨rfl,rfl,rfl⟩:=h;obtain ⟨q,hq,hkey,_⟩:=J9 hks hku hz;rw [hkey] at hz
       have hlen:ks.length=wd+1/\(one=true->1<=wd):=by
         unfold Xo at hkt;simp only [Bool.and_eq_true,decide_eq_true_eq] at hkt;refine ⟨hkt.1,fun h1=>?_⟩;subst h1;have:=hkt.2;simp only [if_true,Bool.and_eq_true,beq_iff_eq] at this;omega
       obtain ⟨m,hm,hxr⟩:=Z9 hkv hsc hv;have hxv:a.eval x=ck.val m:=(CK.yu (hks ck (List.mem_of_getElem? hck))).1 hxr;have hq2:=Yg (k:=wd) hq (show (E.lit 0).den I g.env=some (.i 0) from rfl) hm;have Fq:∀c,c<wd->qd q 0 wd m 0 c=q 0 c:=fun c hc=>by simp only [qd];rw [if_neg (by omega)]
       have hfind:=G7 h5 h6 hq wd;have hle:=qy (o:=.le) (show (E.lit 0).den I g.env=some (.i 0) from rfl) hfind;have hn':=fq (j:=0) (n:=if BO.le.ev 0 (kG f q wd es.size 0)≠0 then (es.size:Int) else (es.size:Int)+1) hle h6 (zk h6 (show (E.lit 1).den I g.env=some (.i 1) from rfl)) rfl;have ht':=vK (j:=9) h5 h6 hq2 (show (E.lit (wd:Int)).den I g.env=some (.i (wd:Int)) from rfl);have e9:bi 9 (.t f) (.i (es.size:Int)) (.t (qd q 0 wd m)) (.i (wd:Int))=.t (VA f es.size (qd q 0 wd m) wd):=rfl;rw [e9] at ht'
       have htf:∀n i,kG f (qd q 0 wd m) wd n i=kG f q wd n i:=by
         intro n
         induction n with
         | zero=>intro i;rfl
         | succ n ih=>
           intro i;simp only [kG,ih]
           have:((List.range wd).all fun c=>f i c == qd q 0 wd m 0 c)=((List.range wd).all fun c=>f i c == q 0 c):=by
             rw [Bool.eq_iff_iff,List.all_eq_true,List.all_eq_true];constructor
             . intro hh c hc;have:=hh c hc;rwa [Fq c (List.mem_range.1 hc)] at this
             . intro hh c hc;have:=hh c hc;rwa [Fq c (List.mem_range.1 hc)]
           rw [this]
       have hc:∀em,(Instr.checkKey em 10000 kt (a.eval z)).run P w=.ok () w:=fun em=>by rw [hkey];exact yJ (Xi hkt (q 0)) (nM (I:=I) (g:=g) wd one ks (q 0) hks) em 9998
       rcases GD hks (q:=q) (W:=w) hkt (fun i e he=>(h7 i e he).1) with ⟨h8,h9⟩ | ⟨j,e0,h8,h9,h10⟩
       . have e1:BO.le.ev 0 (kG f q wd es.size 0)=0:=by simp only [BO.ev];rw [if_neg (by omega)]
         rw [e1] at hn';simp only [ne_eq,not_true_eq_false,if_false] at hn';rw [<-hkey] at h9;refine ⟨Go.undef,w.putObj p.blk (.map (es.push { key:=a.eval z,val:=a.eval x,born:=c }) (c+1)),g,.inr ⟨?_,rfl⟩,.refl _,rfl,rfl,hs.mem (hs.m.write (y:=.smp wd one ks _ _) hb rfl h1 (by simp) (fun i hi=>World.putObj_heap_other hi) ?_)⟩
         . rcases hop with hop | hop <;> simp only [execOp,hop,h2,Instr.mapUpdate,Sem.run_bind,run_underlying hu,Result.andThen,jW hh,hc,h9,vF hh,Sem.run_pure]
         . refine ⟨p,_,_,VA f es.size (qd q 0 wd m) wd,h1,World.putObj_heap_same hlt,ht',by rw [hn'];simp,hks,fun i e he=>?_⟩
           have hmp:VA f es.size (qd q 0 wd m) wd=fun r c=>if r=(es.size:Int)/\c<=wd then qd q 0 wd m 0 c else f r c:=by
             unfold VA;rw [if_neg (by rw [Int.toNat_natCast,htf];omega)]
           rw [hmp];rw [Array.getElem?_push] at he;split at he
           . rename_i hi;subst hi;simp only [Option.some.injEq] at he;subst he;refine ⟨?_,ck,hck,?_⟩
             . simp only;rw [hkey];exact bA hlen.2 fun c hc=>by simp only [true_and];rw [if_pos (by omega),Fq c hc]
             . simp only [true_and];rw [if_pos (by omega),hxv];simp [qd]
           . rename_i hi;have hne:¬((i:Int)=(es.size:Int)):=by omega
             obtain ⟨k1,k2,k3,k4⟩:=h7 i e he;refine ⟨?_,k2,k3,?_⟩
             . rw [k1];exact bA hlen.2 fun c hc=>by simp [hne]
             . rw [k4];simp [hne]
       . have e1:BO.le.ev 0 (kG f q wd es.size 0)=1:=by simp only [BO.ev];rw [if_pos (by omega)]
         rw [e1] at hn';simp only [ne_eq,Int.one_ne_zero,not_false_eq_true,if_true] at hn';obtain ⟨k1,k2,k3,k4⟩:=h7 j e0 h9;rw [hck] at k3;cases k3;have hjl:j<es.size:=(Array.getElem?_eq_some_iff.1 h9).1
         have hrow:∀c,c<wd->f j c=q 0 c:=by
           rcases ZL f q wd es.size 0 with ⟨h11,_⟩ | ⟨j',h11,_,_,h12,_⟩
           . omega
           . have:j'=j:=by omega
             subst this;exact h12
         have hkk:fH wd one ks (f j)=fH wd one ks (q 0):=bA hlen.2 hrow
         have Gu:(Instr.keyThatStays e0.key (a.eval z)).run P w=.ok (a.eval z) w:=by
           unfold Instr.keyThatStays;rw [k1,hkey,hkk,if_pos (YS _ _ _ hks _ _)];rfl
         rw [<-hkey] at h10;refine ⟨Go.undef,w.putObj p.blk (.map (es.modify j fun e=>{ e with key:=a.eval z,val:=a.eval x }) c),g,.inr ⟨?_,rfl⟩,.refl _,rfl,rfl,hs.mem (hs.m.write (y:=.smp wd one ks _ _) hb rfl h1 (by simp) (fun i hi=>World.putObj_heap_other hi) ?_)⟩
         . rcases hop with hop | hop <;> simp only [execOp,hop,h2,Instr.mapUpdate,Sem.run_bind,run_underlying hu,Result.andThen,jW hh,hc,h10,h9,Option.map_some,Option.getD_some,Gu,vF hh,Sem.run_pure]
         . refine ⟨p,_,_,VA f es.size (qd q 0 wd m) wd,h1,World.putObj_heap_same hlt,ht',by rw [hn'];simp,hks,fun i e he=>?_⟩
           have hmp:VA f es.size (qd q 0 wd m) wd=fun r c=>if r=(j:Int)/\c=wd then m else f r c:=by
             unfold VA;rw [Int.toNat_natCast,htf,h8,if_pos (by omega)];simp [qd]
           rw [hmp];rw [Array.getElem?_modify] at he;split at he
           . rename_i hij;subst hij;rw [h9] at he;simp only [Option.map_some,Option.some.injEq] at he;subst he;refine ⟨?_,ck,hck,?_⟩
             . simp only;rw [hkey,<-hkk];exact bA hlen.2 fun c hc=>by rw [if_neg (by omega)]
             . simp [hxv]
           . rename_i hij;have hne:¬((i:Int)=(j:Int)):=by omega
             obtain ⟨l1,l2,l3,l4⟩:=h7 i e he;refine ⟨?_,l2,l3,?_⟩
             . rw [l1];exact bA hlen.2 fun c hc=>by simp [hne]
             . rw [l4];simp [hne]
     . cases h
   . cases h
 . cases h
theorem Dv {s:St} {o:Oper} {t:TypeId} {x:Operand} (hs:qW A I P X g s a w) (hop:o.op=.range t x) (hu:P.underlying t=some .string) {c:E} {n:Int} (hc:c.den I g.env=some (.i n)) (hx:a.eval x=wh n) :
   zY A I P X g a w o (.ptr s.nb (.lit 0) 0 0) (zm s (.iter c (.lit 0) 0)):=by
 let p:PB:={ blk:=w.heap.size,base:=0,tot:=0 };refine ⟨.pointer (some ⟨w.heap.size,0,none⟩),w.alloc (.stringIter ⟨(zX n).toArray⟩ 0),g.lay (some p),.inl ?_,g.qH _,rfl,?_,?_⟩
 . simp only [execOp,hop,hx,wh,Instr.range,Sem.run_bind,run_underlying hu,Result.andThen,Sem.run_pure,run_newObj_alloc]
 . exact ⟨0,p,rfl,Int.le_refl _,by rw [<-hs.nb];exact G.zh g (some p),by simp [p]⟩
 . have hm:=hs.m.alloc (M':=s.mem) (o:=.stringIter ⟨(zX n).toArray⟩ 0) (x:=.iter c (.lit 0) 0) (p:=p) (fun _ _ h=>h) rfl
     ⟨p,n,0,G.zh g (some p),rfl,E.qE (g.qH _) hc,rfl,heap_alloc_new _ _,fun h=>by omega,fun h=>by omega⟩
   rw [hs.nb] at hm;exact hs.lay hm
theorem NZ {s:St} {o:Oper} {x:Operand} (hs:qW A I P X g s a w) (hop:o.op=.next x true) {b:Nat} (hx:Rel I g (.ptr b (.lit 0) 0 0) (a.eval x)) {e q:E} (hb:get s.mem b=some (.iter e q 1)) :
   zY A I P X g a w o (.tup [.bool (.lit 1),.int .i64 q,.int .i32 (mkS 10 e q (.lit 0))]) { s with mem:=put b (.iter e (mkAdd q (mkS 11 e q (.lit 0))) 0) s.mem }:=by
 obtain ⟨m0,p,h1,_,h2,h3⟩:=hx;obtain ⟨p',n,m,h4,h5,h6,h7,h8,h9,_⟩:=hs.m.blk b _ hb;rw [h2] at h4;cases h4;have hh:w.heap[p.blk]?=some (.stringIter ⟨(zX n).toArray⟩ m):=h8;have hlt:=hs.m.bnd b p h2;have h1':m0=0:=by simpa [E.den] using h1.symm
 subst h1'
 have hsz:m<(ByteArray.mk (zX n).toArray).size:=by
   show m<(zX n).toArray.size;simpa using h9 rfl
 have hr:=fq (j:=10) (n:=Rh n m) h6 h7 (show (E.lit 0).den I g.env=some (.i 0) from rfl) rfl;have hwd:=fq (j:=11) (n:=Dq n m) h6 h7 (show (E.lit 0).den I g.env=some (.i 0) from rfl) rfl;have hget:(getObj p.blk).run P w=.ok (.stringIter ⟨(zX n).toArray⟩ m) w:=by simp [getObj,Sem.run,hh]
 have hset:∀o',(setObj p.blk o').run P w=.ok () (w.putObj p.blk o'):=fun o'=>by simp [setObj,Sem.run,hh,World.putObj]
 refine ⟨.tuple #[.bool true,.int .i64 m,.int .i32 ((Utf8.decode ⟨(zX n).toArray⟩ m).1:Nat)],w.putObj p.blk (.stringIter ⟨(zX n).toArray⟩ (m+(Utf8.decode ⟨(zX n).toArray⟩ m).2)),g,.inl ?_,.refl _,rfl,?_,hs.mem (hs.m.write (y:=.iter e _ 0) hb rfl h2 (by simp) (fun i hi=>World.putObj_heap_other hi) ?_)⟩
 . simp only [execOp,hop,h3,h5,Instr.next,Int.toNat_zero,Nat.zero_mul,Nat.add_zero,Sem.run_bind,hget,Result.andThen,hsz,if_true,hset,Sem.run_pure,goInt]
 . exact ⟨_,rfl,⟨1,rfl,rfl⟩,⟨m,h7,rfl⟩,⟨_,hr,by simp [Rh]⟩,trivial⟩
 . refine ⟨p,n,_,h2,h5,h6,?_,World.putObj_heap_same hlt,fun h=>by omega,fun h=>by omega⟩;have:=zk h7 hwd;rw [this];simp [Dq]
theorem NQ {s:St} {o:Oper} {x:Operand} (hs:qW A I P X g s a w) (hop:o.op=.next x true) {b:Nat} (hx:Rel I g (.ptr b (.lit 0) 0 0) (a.eval x)) {e q:E} (hb:get s.mem b=some (.iter e q 2)) :
   zY A I P X g a w o (.tup [.bool (.lit 0)]) s:=by
 obtain ⟨m0,p,h1,_,h2,h3⟩:=hx;obtain ⟨p',n,m,h4,h5,h6,h7,h8,_,h9⟩:=hs.m.blk b _ hb;rw [h2] at h4;cases h4;have hh:w.heap[p.blk]?=some (.stringIter ⟨(zX n).toArray⟩ m):=h8;have h1':m0=0:=by simpa [E.den] using h1.symm
 subst h1'
 have hsz:¬m<(ByteArray.mk (zX n).toArray).size:=by
   show ¬m<(zX n).toArray.size;simpa using h9 rfl
 have hget:(getObj p.blk).run P w=.ok (.stringIter ⟨(zX n).toArray⟩ m) w:=by simp [getObj,Sem.run,hh]
 refine ⟨.tuple #[.bool false],w,g,.inl ?_,.refl _,rfl,⟨_,rfl,⟨0,rfl,rfl⟩,trivial⟩,hs⟩;simp only [execOp,hop,h3,h5,Instr.next,Int.toNat_zero,Nat.zero_mul,Nat.add_zero,Sem.run_bind,hget,Result.andThen,hsz,if_false,Sem.run_pure]
theorem DW {s:St} {o:Oper} {v:AV} {s1:St} {ps:List PE} (hs:qW A I P X g s a w) (hx:∀t,.tmp t∈o.op.operands.toList->¬X t)
   {kn:Kn} (h:loud P kn s o.op=some (v,s1,ps)) (hp:∀q∈ps,q.den I g.env):zY A I P X g a w o v s1:=by
 have ev:∀{y:Operand} {u:AV},y∈o.op.operands.toList->evalOp s.tmps y=some u->Rel I g u (a.eval y):=fun hy hu=>zl hs.t hu fun t e=>hx t (e ▸ hy);cases hop:o.op with
 | alloc t=>
   rw [hop] at h;simp only [loud] at h;split at h
   . split at h
     . rename_i bg hbg;split at h
       . rename_i l m hz;cases h;have ht:bg.t=t:=by have:=List.find?_some hbg;simpa using this
         subst ht;exact Wy hs hop hz
       . cases h
     . cases h
   . split at h
     . split at h
       . rename_i hz;simp at h;obtain ⟨rfl,rfl,rfl⟩:=h;exact Ww hs hop hz
       . cases h
     . split at h
       . rename_i z hz;simp at h;obtain ⟨rfl,rfl,rfl⟩:=h;exact FY hs hop hz
       . cases h
 | convert src dst x=>
   rw [hop] at h ev;simp only [loud] at h;split at h
   . rename_i hsd;subst hsd;unfold eT at h;split at h
     . rename_i b lo n el hv hd;split at h
       . rename_i t len hel hb;cases h;exact NK hs hop hd hel (ev (by simp [Op.operands]) hv) hb
       . cases h
     . cases h
   split at h
   . rename_i tE n el hv hd hsrc;split at h
     . rename_i hel hsz;simp at h;obtain ⟨rfl,rfl,rfl⟩:=h;obtain ⟨u,hu,has⟩:=Option.bind_eq_some_iff.1 hv;exact XL hs hop hsrc hd hel (PZ has (ev (by simp [Op.operands]) hu))
     . cases h
   . cases h
 | box t x=>
   rw [hop] at h ev;simp only [loud] at h;split at h
   . rename_i l ks tt n m hu;split at h
     . cases h;exact Bp hs hop (ev (by simp [Op.operands]) hu)
     . cases h
   . rename_i u hnb hu;split at h
     . simp at h;obtain ⟨rfl,rfl,rfl⟩:=h;exact TS hs hop (ev (by simp [Op.operands]) hu) (lM hu) (by cases u <;> first | rfl | exact (hnb _ _ _ _ _ rfl).elim)
     . cases h
   . cases h
 | makeMap t r=>
   rw [hop] at h;cases r with
   | some _=>simp [loud] at h
   | none=>
     simp [loud] at h;obtain ⟨rfl,rfl,rfl⟩:=h;exact Xb hs hop
 | mapUpdate t y z x=>
   rw [hop] at h ev;simp only [loud] at h;split at h
   . rename_i b k v' kt et hy hz hv hu;split at h
     . rename_i wd one ks tE n hb;exact iG hs (.inl hop) hu hb (ev (by simp [Op.operands]) hy) (ev (by simp [Op.operands]) hz) (ev (by simp [Op.operands]) hv) h
     . rename_i ck t c hb;exact Bq hs hop hu hb (ev (by simp [Op.operands]) hy) (ev (by simp [Op.operands]) hz) (ev (by simp [Op.operands]) hv) h hp
     . exact sK hs (.inl hop) hu (ev (by simp [Op.operands]) hy) (ev (by simp [Op.operands]) hz) (ev (by simp [Op.operands]) hv) h
   . cases h
 | insert t y z x=>
   rw [hop] at h ev;simp only [loud] at h;split at h
   . rename_i b k v' kt et hy hz hv hu;split at h
     . rename_i wd one ks tE n hb;exact iG hs (.inr hop) hu hb (ev (by simp [Op.operands]) hy) (ev (by simp [Op.operands]) hz) (ev (by simp [Op.operands]) hv) h
     . exact sK hs (.inr hop) hu (ev (by simp [Op.operands]) hy) (ev (by simp [Op.operands]) hz) (ev (by simp [Op.operands]) hv) h
   . cases h
 | lookup t y z ok=>
   rw [hop] at h ev;cases ok with
   | true=>simp [loud] at h
   | false=>
     simp only [loud] at h;split at h
     . rename_i b k kt et hy hz hu;split at h
       . rename_i ck t c hb;exact Dl hs hop hu hb (ev (by simp [Op.operands]) hy) (ev (by simp [Op.operands]) hz) h
       . cases h
     . cases h
 | range t x=>
   rw [hop] at h ev;simp only [loud] at h;split at h
   . rename_i c hc hu;simp only [Option.some.injEq,Prod.mk.injEq] at h;obtain ⟨rfl,rfl,rfl⟩:=h;obtain ⟨v0,hv0,hcode⟩:=Option.bind_eq_some_iff.1 hc;obtain ⟨n,h1,h2⟩:=xL hcode (ev (by simp [Op.operands]) hv0);exact Dv hs hop hu h1 h2
   . cases h
 | next x str=>
   rw [hop] at h ev;cases str with
   | false=>simp [loud] at h
   | true=>
     simp only [loud] at h;split at h
     . rename_i b hv0;split at h
       . rename_i e q hb;simp only [Option.some.injEq,Prod.mk.injEq] at h;obtain ⟨rfl,rfl,rfl⟩:=h;exact NZ hs hop (ev (by simp [Op.operands]) hv0) hb
       . rename_i e q hb;simp only [Option.some.injEq,Prod.mk.injEq] at h;obtain ⟨rfl,rfl,rfl⟩:=h;exact NQ hs hop (ev (by simp [Op.operands]) hv0) hb
       . cases h
     . cases h
 | store t y x=>
   rw [hop] at h ev;simp only [loud] at h;split at h
   . rename_i b r z k u n hy hu hn;split at h
     . rename_i hl;cases hst:storeAt s.mem b r z k u.cells with
       | none=>simp [hst] at h
       | some q=>
         obtain ⟨M',ps'⟩:=q;simp [hst] at h;obtain ⟨rfl,rfl,rfl⟩:=h;exact Dk hs hop (ev (by simp [Op.operands]) hy) (ev (by simp [Op.operands]) hu) (lM hu) (by cases u <;> first | rfl | simp [storeAt,AV.cells,AV.one] at hst) hn hl hst hp
     . cases h
   . cases h
 | buildSlice t n parts=>
   rw [hop] at h;simp only [loud] at h;split at h
   . rename_i el hu;split at h
     . rename_i z sz l hz hsz hl;split at h
       . rename_i hc;split at h
         . rename_i vs hf;split at h
           . simp only [Option.some.injEq,Prod.mk.injEq] at h;obtain ⟨rfl,rfl,rfl⟩:=h;exact Zm hs hop hx hu hz hsz hl hc.1 hc.2 hf
           . cases h
         . cases h
       . cases h
     . cases h
   . cases h
 | makeSlice t l c=>
   rw [hop] at h ev;simp only [loud] at h;split at h
   . rename_i el k1 x k2 y hu hl hc;split at h
     . rename_i z sz bytes hz hsz hb;split at h
       . rename_i hcond;obtain ⟨h0,rfl,h1,h2,h3⟩:=hcond;split at h
         . rename_i ks hks;split at h
           . rename_i haz;simp at h;obtain ⟨rfl,rfl,rfl⟩:=h;exact JM hs hop hu (ev (by simp [Op.operands]) hl) (ev (by simp [Op.operands]) hc) hz hsz hb h0 h1 h2 h3 hks haz
           . cases h
         . split at h
           . cases h;exact JN hs hop hu (ev (by simp [Op.operands]) hl) (ev (by simp [Op.operands]) hc) hz hsz hb h0 h1 h2 h3
           . cases h
       . cases h
     . cases h
   . rename_i hu hl hc;exact Xg hs hop hu (ev (by simp [Op.operands]) hl) (ev (by simp [Op.operands]) hc) h hp
   . cases h
 | call c=>
   obtain ⟨callee,args,argTypes⟩:=c;rw [hop] at h ev;cases callee with
   | builtin b=>
     cases b with
     | copy=>
       simp only [loud] at h;split at h
       . rename_i x y t t' ha hat;have ha':=x9 ha;have hat':=x9 hat;subst ha';subst hat';split at h
         . rename_i xv yv el hv1 hv2 ht;split at h
           . rename_i zv sz hz hsz;split at h
             . rename_i ks hks;split at h
               . rename_i hl;cases hcl:KV s.mem sz ks xv yv with
                 | none=>simp [hcl] at h
                 | some q=>
                   obtain ⟨n,M',ps'⟩:=q;simp [hcl] at h;obtain ⟨rfl,rfl,rfl⟩:=h;exact Pf hs hop ht hsz hl (ev (by simp [Op.operands,Call.operands]) hv1) (ev (by simp [Op.operands,Call.operands]) hv2) hcl hp
               . cases h
             . cases h
           . cases h
         . cases h
       . cases h
     | append=>
       simp only [loud] at h;split at h
       . rename_i x y t u ha hat;have ha':=x9 ha;have hat':=x9 hat;subst ha';subst hat';split at h
         . rename_i v1 kd e el k hv1 hv2 ht hu;split at h
           . rename_i r hr;cases h;exact Ql hs hop ht hu (ev (by simp [Op.operands,Call.operands]) hv1) (ev (by simp [Op.operands,Call.operands]) hv2) hr hp
           . exact tC hs hop ht hu (ev (by simp [Op.operands,Call.operands]) hv1) (ev (by simp [Op.operands,Call.operands]) hv2) h
         . rename_i v1 v2 el d hv1 hv2 ht hu;split at h
           . split at h
             . exact Zy hs hop ht hu (ev (by simp [Op.operands,Call.operands]) hv1) (ev (by simp [Op.operands,Call.operands]) hv2) h hp
             . split at h
               . rename_i r hr;cases h;exact Zy hs hop ht hu (ev (by simp [Op.operands,Call.operands]) hv1) (ev (by simp [Op.operands,Call.operands]) hv2) hr hp
               . exact Qu hs hop ht hu (ev (by simp [Op.operands,Call.operands]) hv1) (ev (by simp [Op.operands,Call.operands]) hv2) h
           . cases h
         . cases h
       . cases h
     | clear=>
       simp only [loud] at h;split at h
       . rename_i x t ha hat;have ha':=kW ha;have hat':=kW hat;subst ha';subst hat';split at h
         . rename_i b k n z el hv1 ht;split at h
           . rename_i zv sz hz hsz;split at h
             . rename_i hc;obtain ⟨rfl,hl⟩:=hc;cases hcl:fQ s.mem b k sz zv.cells n with
               | none=>simp [hcl] at h
               | some q=>
                 obtain ⟨M',ps'⟩:=q;simp [hcl] at h;obtain ⟨rfl,rfl,rfl⟩:=h;exact FQ hs hop ht (ev (by simp [Op.operands,Call.operands]) hv1) hz hl hcl hp
             . cases h
           . cases h
         . cases h
       . cases h
     | _=>simp [loud] at h
   | _=>simp [loud] at h
 | _=>rw [hop] at h;simp [loud] at h
section vc
variable {env:List D}
theorem Pm {c:Nat} {lo hi:Int}:∀{e:E},e.oL c lo hi=true->∃f,e.den I env=some (.t f)/\∀r:Int,lo<=f r c/\f r c<=hi:=by
 intro e
 induction e with
 | zt=>intro h;simp [E.oL] at h;exact ⟨_,rfl,fun _=>h⟩
 | kt row=>intro h;simp [E.oL] at h;exact ⟨_,rfl,fun _=>by simpa using h⟩
 | upd t r d v iht _ _=>
   intro h;cases r with
   | lit m=>
     cases v with
     | lit n=>
       simp only [E.oL,Bool.and_eq_true,Bool.or_eq_true,bne_iff_ne,ne_eq,decide_eq_true_eq] at h;obtain ⟨f,h1,h2⟩:=iht h.2;refine ⟨qd f m d n,by simp [E.den,h1],fun r=>?_⟩;simp only [qd];split
       . rename_i hc;rcases h.1 with h3 | h3
         . exact absurd hc.2.symm h3
         . exact h3
       . exact h2 r
     | _=>simp [E.oL] at h
   | _=>simp [E.oL] at h
 | _=>intro h;simp [E.oL] at h
theorem V4 {p:PE} {t:Tree} (h:(JV p t).vc I env):p.den I env/\t.vc I env:=by
 unfold JV at h;split at h
 . split at h
   . exact h.elim
   . rename_i n hn;exact ⟨⟨n,rfl,hn⟩,h⟩
 . split at h
   . rename_i n hn;subst hn;exact ⟨rfl,h⟩
   . exact h.elim
 . split at h
   . rename_i k n hn;exact ⟨⟨n,rfl,hn⟩,h⟩
   . exact h.elim
 . exact ⟨⟨_,rfl⟩,h⟩
 . exact ⟨⟨_,rfl⟩,h⟩
 . split at h
   . rename_i hc;exact ⟨Pm hc,h⟩
   . exact h
 . exact h
theorem qB:∀{ps:List PE} {t:Tree},(qI ps t).vc I env->(∀p∈ps,p.den I env)/\t.vc I env
 | [],t,h=>⟨by simp,h⟩
 | p::ps,t,h=>by
   obtain ⟨h1,h2⟩:=V4 h;obtain ⟨h3,h4⟩:=qB h2;exact ⟨List.forall_mem_cons.2 ⟨h1,h3⟩,h4⟩
theorem pJ:∀{ps:List PE} {t:Tree},(assumes ps t).vc I env->(∀p∈ps,p.den I env)->t.vc I env
 | [],t,h,_=>h
 | p::ps,t,h,hp=>pJ (h (hp p (by simp))) fun q hq=>hp q (by simp [hq])
def Sorts:List Bool->List D->Prop
 | [],[]=>True
 | true::l,.t _::m=>Sorts l m
 | false::l,.i _::m=>Sorts l m
 | _,_=>False
theorem Sorts.length:∀{l:List Bool} {m:List D},Sorts l m->m.length=l.length
 | [],[],_=>rfl
 | true::l,.t _::m,h=>by simp [Sorts.length (l:=l) (m:=m) h]
 | false::l,.i _::m,h=>by simp [Sorts.length (l:=l) (m:=m) h]
 | [],_::_,h=>by simp [Sorts] at h
 | true::_,[],h=>by simp [Sorts] at h
 | false::_,[],h=>by simp [Sorts] at h
 | true::_,.i _::_,h=>by simp [Sorts] at h
 | false::_,.t _::_,h=>by simp [Sorts] at h
theorem lD:∀{l:List Bool} {ds:List D} {env:List D} {t:Tree},(sN l t).vc I env->Sorts l ds->t.vc I (env++ds)
 | [],[],env,t,h,_=>by simpa [sN] using h
 | true::l,.t f::m,env,t,h,hs=>by
   have:=lD (l:=l) (ds:=m) (env:=env++[.t f]) (h f) hs;simpa using this
 | false::l,.i n::m,env,t,h,hs=>by
   have:=lD (l:=l) (ds:=m) (env:=env++[.i n]) (h n) hs;simpa using this
 | [],_::_,_,_,_,h=>by simp [Sorts] at h
 | true::_,[],_,_,_,h=>by simp [Sorts] at h
 | false::_,[],_,_,_,h=>by simp [Sorts] at h
 | true::_,.i _::_,_,_,_,h=>by simp [Sorts] at h
 | false::_,.t _::_,_,_,_,h=>by simp [Sorts] at h
end vc
end Go.Sx
end
noncomputable section
namespace Go.Sx
open Go
variable {A:Amb} {I:Itp} {P:Program} {g:G} {X:Nat->Prop} {ts:qO} {a:Act} {M:Mem} {w:World}
def FW (r:Option Nat):Fence:={ Fence.wide with round:=r }
def Ex.toX:Ex->Exit
 | .normal=>.normal
 | .ret=>.ret
 | .exit id=>.exit id
 | .goto l=>.goto l
def Post (A:Amb) (I:Itp) (P:Program) (X:Nat->Prop) (g:G) (k:Ex->St->Tree):Exit->Act->World->Prop:=
 fun e a w=>∃x g' s',e=Ex.toX x/\g.Le g'/\qW A I P X g' s' a w/\(k x s').vc I g'.env
def pW (g:G):Option Nat->Option Nat->Prop
 | none,none=>True
 | some b,some l=>∃p,g.φ b=some p/\l=p.blk
 | _,_=>False
theorem pW.le {g g':G} (h:g.Le g') (hw:g.wf):∀{x y:Option Nat},pW g x y->pW g' x y
 | none,none,_=>trivial
 | some _,some _,⟨p,h1,h2⟩=>⟨p,h.some hw h1,h2⟩
 | none,some _,h=>h.elim
 | some _,none,h=>h.elim
def COK (P:Program) (fn o:Nat) (c:Code):Prop:=∀i rf,(rfs c)[i]?=some rf->Jw P fn (o+i)=some rf
def KI (r:Option Nat) (n:Nat) (P:Program) (x:Value) (xs:List Value) (w:World) (R:Value->World->Prop):Prop:=
 ∃nx w1,(do let d <-Deferred.ofValue x xs.toArray;invoke d.target d.args:Sem Next).run P w=.ok nx w1/\
   ((∃f args,nx=.enter f args/\CallsIn (FW r) n P f args w1 fun e w'=>∃v,e=.returned v/\R v w')\/
    (∃l f tmps assign body,nx=.round l f tmps assign body/\RoundIn (FW r) n P l f tmps assign body w1 fun e w'=>∃v,e=.returned v/\R v w'))
def aY (A:Amb) (I:Itp) (P:Program) (X:Nat->Prop) (g:G) (a:Act) (k:AV->St->Tree):Value->World->Prop:=
 fun v w=>∃av g' s',g.Le g'/\Rel I g' av v/\qW A I P X g' s' a w/\(k av s').vc I g'.env
def yF (F:Fence) (n:Nat) (P:Program) (c:Code) (Q:Exit->Act->World->Prop) (a:Act) (w:World):Prop:=
 ∀(b:Frame) (k:List Item) (cs:List Frame),b.roundOf=F.round->F.fn b.fn->F.room (cs.length+1+n)->
   ∃e a' w',Q e a' w'/\ArrivesIn (Machine.fenced P F) P (lone (b.atR a (.code c :: .inLoop c::k)) cs w) b k cs e a' w'
structure jh (I:Itp) (cx:Cx) (e:Eng):Prop where
 exec:∀{A:Amb} {g:G} {fn:FuncId} {rnd r:Option Nat} {bid o:Nat} {c:Code} {s:St} {k:Ex->St->Tree} {a:Act} {w:World},
   GOk cx.kn.globs A->(e.exec fn rnd bid o c s k).vc I g.env->qW A I cx.P (fun _=>False) g s a w->pW g rnd r->COK cx.P fn o c->∀n,c.wpIn (FW r) n cx.P (Post A I cx.P (fun _=>False) g k) a w
 loop:∀{A:Amb} {g:G} {fn:FuncId} {rnd r:Option Nat} {bid o:Nat} {c:Code} {s:St} {k:Ex->St->Tree} {a:Act} {w:World},
   GOk cx.kn.globs A->(e.loop fn rnd bid o c s k).vc I g.env->qW A I cx.P (fun _=>False) g s a w->pW g rnd r->COK cx.P fn o c->∀n,yF (FW r) n cx.P c (Post A I cx.P (fun _=>False) g k) a w
 tH:∀{A:Amb} {X:Nat->Prop} {g:G} {r:Option Nat} {f:AV} {args:List AV} {s:St} {k:AV->St->Tree} {a:Act} {w:World} {x:Value} {xs:List Value},
   GOk cx.kn.globs A->(e.tH f args s k).vc I g.env->qW A I cx.P X g s a w->Rel I g f x->qw I g args xs->∀n,KI r n cx.P x xs w (aY A I cx.P X g a k)
 I6:∀{A:Amb} {X:Nat->Prop} {g:G} {f:FuncId} {cap args:List AV} {s:St} {k:AV->St->Tree} {a:Act} {w:World} {xs:List Value},
   GOk cx.kn.globs A->(e.tH (.func f cap) args s k).vc I g.env->qW A I cx.P X g s a w->qw I g (args++cap) xs->
     (∃fn c,cx.P.funcs[f]?=some fn/\fn.body=some c/\(fn.name == "runtime.NumGoroutine")=false)/\Calls cx.P f xs.toArray w fun e w'=>∃v,e=.returned v/\aY A I cx.P X g a k v w'
theorem qW.yX {s s':St} {dst:Option Tmp} {v:AV} {x:Value} (hs:qW A I P X g s a w) (hv:Rel I g v x) (h:yX s dst v=some s'):qW A I P X g s' (a.put dst x) w:=by
 rw [FL] at h;cases dst with
 | none=>simp at h;subst h;exact hs
 | some d=>
   simp only at h;split at h
   . rename_i hd;simp at h;subst h;refine ⟨hs.m,fun t u ht hX=>?_,(by show (a.tmps.setIfInBounds d x).size=s.nt;rw [Array.size_setIfInBounds];exact hs.nt),hs.d,hs.nv,hs.nb⟩;have ht:get (vU d v s.tmps) t=some u:=ht;rw [xH] at ht;by_cases htd:d=t
     . subst htd;rw [if_pos rfl] at ht;simp at ht;subst ht;exact ⟨x,by simp [Act.put,hs.nt,hd],hv⟩
     . rw [if_neg htd] at ht;obtain ⟨y,h1,h2⟩:=hs.t t u ht hX;exact ⟨y,by simp [Act.put,Array.getElem?_setIfInBounds_ne htd,h1],h2⟩
   . cases h
def wM (A:Amb) (I:Itp) (P:Program) (X:Nat->Prop) (g:G) (k:St->Tree):Act->World->Prop:=
 fun a w=>∃g' s',g.Le g'/\qW A I P X g' s' a w/\(k s').vc I g'.env
theorem KI.upon {r:Option Nat} {n:Nat} {x:Value} {xs:List Value} {R:Value->World->Prop} {o:Oper} {K:Act->World->Prop} {Q:Exit->Act->World->Prop}
   {f:Operand} {args:Array Operand} {tys:Array TypeId} (hop:o.op=.call { callee:=.value f,args,argTypes:=tys })
   (hx:a.eval f=x) (hxs:args.toList.map a.eval=xs) (h:KI r (n - 1) P x xs w R) (hK:∀v w',R v w'->K (a.put o.dst v) w') :
   o.wpIn (FW r) n P a w K Q:=by
 obtain ⟨nx,w1,hrun,hc⟩:=h;refine ⟨fun _ _=>trivial,?_⟩
 have XY:(o.semAt (FW r).round a.eval).run P w=.ok nx w1:=by
   rw [Oper.semAt_eq _ _ _ (fun c hc=>by rw [hop] at hc;cases hc)]
   have:execOp a.eval o=(do let d <-Deferred.ofValue x xs.toArray;invoke d.target d.args):=by
     have e:args.map a.eval=xs.toArray:=Array.toList_inj.1 (by rw [<-hxs];exact Array.toList_map);simp [execOp,hop,resolve,hx,e]
   rw [this];exact hrun
 rw [XY];rcases hc with ⟨f',args',rfl,hcall⟩ | ⟨l,f',tmps,assign,body,rfl,EZ⟩
 . refine ⟨fun h=>by simp [FW,Fence.wide] at h,hcall.mono fun e w' he=>?_⟩;obtain ⟨v,rfl,hv⟩:=he;exact hK v w' hv
 . refine ⟨fun h=>by simp [FW,Fence.wide] at h,EZ.mono fun e w' he=>?_⟩;obtain ⟨v,rfl,hv⟩:=he;exact hK v w' hv
theorem FJ {o:Op} {f:AV} {l:List AV} (h:KM ts o=some (f,l)):∃fo args tys,o=.call { callee:=.value fo,args,argTypes:=tys }/\evalOp ts fo=some f/\vP ts args.toList=some l:=by
 unfold KM at h;split at h
 . rename_i fo args tys;split at h
   . rename_i v l' h1 h2;simp at h;obtain ⟨rfl,rfl⟩:=h;exact ⟨fo,args,tys,rfl,h1,h2⟩
   . cases h
 . cases h
theorem VZ {cx:Cx} {s s':St} {o:Oper} {v:AV} {ps:List PE} {k:St->Tree} {r:Option Nat} {n:Nat} {Q:Exit->Act->World->Prop} (hG:GOk cx.kn.globs A) (hs:qW A I cx.P X g s a w)
   (hx:∀t,.tmp t∈o.op.operands.toList->¬X t) (hq:quiet cx.P cx.kn s.tmps s.mem o.op=some (v,ps)) (hset:yX s o.dst v=some s') (h:(qI ps (k s')).vc I g.env) :
   o.wpIn (FW r) n cx.P a w (wM A I cx.P X g k) Q:=by
 obtain ⟨hp,hk⟩:=qB h;obtain ⟨x,h1,h2⟩:=sj hG hs.m hs.t hx hq hp;refine ⟨fun _ _=>trivial,?_⟩;rw [Oper.semAt_eq _ _ _ (fun c hc=>fG hc hq),h1];exact ⟨g,s',.refl _,hs.yX h2 hset,hk⟩
theorem Mj {cx:Cx} {s s1 s':St} {o:Oper} {v:AV} {ps:List PE} {k:St->Tree} {r:Option Nat} {n:Nat} {Q:Exit->Act->World->Prop} (hs:qW A I cx.P X g s a w)
   (hx:∀t,.tmp t∈o.op.operands.toList->¬X t) (hq:loud cx.P cx.kn s o.op=some (v,s1,ps)) (hset:yX s1 o.dst v=some s') (h:(qI ps (k s')).vc I g.env) :
   o.wpIn (FW r) n cx.P a w (wM A I cx.P X g k) Q:=by
 obtain ⟨hp,hk⟩:=qB h;obtain ⟨x,w',g',h1,h2,Zf,h3,h4⟩:=(DW hs hx hq hp).run;refine ⟨fun _ _=>trivial,?_⟩;rw [Oper.semAt_eq _ _ _ (fun c hc=>by rw [hc] at hq;simp [loud] at hq)];have hk':(k s').vc I g'.env:=by rw [Zf];exact hk
 rcases h1 with h1 | ⟨h1,rfl⟩
 . rw [h1];exact ⟨g',s',h2,h4.yX h3 hset,hk'⟩
 . rw [h1];exact ⟨g',s',h2,h4.yX h3 hset,hk'⟩
theorem MN {cx:Cx} {e:Eng} (hE:jh I cx e) {s:St} {o:Oper} {f:AV} {l:List AV} {k:St->Tree} {r:Option Nat} {n:Nat} {Q:Exit->Act->World->Prop} {bad:Nat} (hG:GOk cx.kn.globs A) (hs:qW A I cx.P X g s a w)
   (hx:∀t,.tmp t∈o.op.operands.toList->¬X t) (hq:KM s.tmps o.op=some (f,l))
   (h:(e.tH f l s fun v s1=>match yX s1 o.dst v with | some s'=>k s' | none=>.fail bad).vc I g.env) :
   o.wpIn (FW r) n cx.P a w (wM A I cx.P X g k) Q:=by
 obtain ⟨fo,args,tys,hop,h1,h2⟩:=FJ hq;have hf:Rel I g f (a.eval fo):=zl hs.t h1 fun t e=>hx t (by rw [hop,e];simp [Op.operands,Call.operands]);have hl:qw I g l (args.toList.map a.eval):=xg hs.t h2 fun t ht=>hx t (by rw [hop];simp [Op.operands,Call.operands];right;simpa using ht);refine (hE.tH hG h hs hf hl (n - 1)).upon hop rfl rfl fun v w' hv=>?_;obtain ⟨av,g',s',h3,h4,h5,h6⟩:=hv;dsimp only at h6;split at h6
 . rename_i s'' hset;exact ⟨g',s'',h3,h5.yX h4 hset,h6⟩
 . exact h6.elim
theorem TQ {cx:Cx} {s:St} {o:Oper} {d:DV} {k:St->Tree} {r:Option Nat} {n:Nat} {Q:Exit->Act->World->Prop} (hd:r=none\/bQ o.op=false) (hs:qW A I cx.P X g s a w)
   (hx:∀t,.tmp t∈o.op.operands.toList->¬X t) (hq:XC s.tmps o.op=some d) (hdst:o.dst=none) (h:(k { s with defers:=d::s.defers }).vc I g.env) :
   o.wpIn (FW r) n cx.P a w (wM A I cx.P X g k) Q:=by
 unfold XC at hq;split at hq
 case h_2=>cases hq
 rename_i fo args tys hop;split at hq
 case isFalse=>cases hq
 rename_i hsz;have hargs:args=#[]:=Array.eq_empty_of_size_eq_zero hsz;subst hargs
 have hr:r=none:=by
   rcases hd with hd | hd
   . exact hd
   . rw [hop] at hd;simp [bQ] at hd
 subst hr
 have fin:∀{x:Deferred},(Deferred.ofValue (a.eval fo) #[]).run cx.P w=.ok x w->aK I g d x->o.wpIn (FW none) n cx.P a w (wM A I cx.P X g k) Q:=fun {x} h1 h2=>by
   refine ⟨fun _ _=>trivial,?_⟩
   have:(o.semAt (FW none).round a.eval).run cx.P w=.ok (.defer x) w:=by
     show (Oper.semAt none a.eval o).run cx.P w=.ok (.defer x) w;rw [Oper.semAt_none];simp [execOp,hop,resolve,h1,Result.andThen]
   rw [this,Oper.uponIn_defer,hdst];exact ⟨g,{ s with defers:=d::s.defers },.refl _,⟨hs.m,hs.t,hs.nt,(show aK I g d x/\gM I g s.defers a.defers from ⟨h2,hs.d⟩),hs.nv,hs.nb⟩,h⟩
 split at hq
 . rename_i f l he;cases hq;obtain ⟨cs,h1,h2⟩:=zl hs.t he fun t e=>hx t (by rw [hop,e];simp [Op.operands,Call.operands]);rw [h1] at fin;exact fin (x:={ target:=.fn (.func f) cs,args:=#[] }) (by simp [Deferred.ofValue]) ⟨#[],cs,rfl,trivial,h2⟩
 . rename_i f m l he;cases hq;obtain ⟨ms,cs,h1,h2,h3⟩:=zl hs.t he fun t e=>hx t (by rw [hop,e];simp [Op.operands,Call.operands]);rw [h1] at fin;exact fin (x:={ target:=.fn (.func f) cs,args:=ms }) (by simp [Deferred.ofValue]) ⟨ms,cs,rfl,h2,h3⟩
 . cases hq
theorem vI {cx:Cx} {e:Eng} (hE:jh I cx e) {s:St} {o:Oper} {k:St->Tree} {r:Option Nat} {n:Nat} {Q:Exit->Act->World->Prop} (hG:GOk cx.kn.globs A) (hd:r=none\/bQ o.op=false) (hs:qW A I cx.P X g s a w)
   (hx:∀t,.tmp t∈o.op.operands.toList->¬X t) (h:(pI cx e s o k).vc I g.env):o.wpIn (FW r) n cx.P a w (wM A I cx.P X g k) Q:=by
 unfold pI at h;rw [jT] at h;split at h
 . rename_i v ps hq;split at h
   . rename_i s' hset;exact VZ hG hs hx hq hset h
   . exact h.elim
 . split at h
   . rename_i v s1 ps hq;split at h
     . rename_i s' hset;exact Mj hs hx hq hset h
     . exact h.elim
   . split at h
     . rename_i f l hq;exact MN hE hG hs hx hq h
     . split at h
       . rename_i d hdf;split at h
         . rename_i hdst;exact TQ hd hs hx hdf hdst h
         . exact h.elim
       . exact h.elim
theorem QB {s:St} {t:Nat} {c:E} {n:Int} (hs:qW A I P X g s a w) (ht:get s.tmps t=some (.bool c)) (hc:c.den I g.env=some (.i n)) :
   qW A I P X g (setBool s t (decide (n≠0))) a w:=by
 refine ⟨hs.m,fun u v hu hX=>?_,hs.nt,hs.d,hs.nv,hs.nb⟩;have hu:get (vU t (.bool (.lit (if decide (n≠0)=true then 1 else 0))) s.tmps) u=some v:=hu;rw [xH] at hu;by_cases htu:t=u
 . subst htu;rw [if_pos rfl] at hu;simp only [Option.some.injEq] at hu;subst hu;obtain ⟨x,h1,m,h2,rfl⟩:=hs.t t _ ht hX;rw [hc] at h2;simp at h2;subst h2;refine ⟨_,h1,_,rfl,?_⟩;by_cases hn:n=0 <;> simp [hn]
 . rw [if_neg htu] at hu;exact hs.t u v hu hX
theorem uV {ops:Array Oper} {j t:Nat} {tmps:Array Value} {b:Bool} (hj:(ops[j]?).bind (·.dst)=some t) (ht:tmps[t]?=some (.bool b)):yielded ops tmps j=some b:=by
 unfold yielded;rw [hj];simp [ht]
theorem Vy {ops:Array Oper} {s:St} {o:Oper} {b:Bool} (hs:qW A I P X g s a w) (hX:∀t∈Qy ops o,¬X t) (h:iX ops s o=some (.inl b)) :
   Region.wanted o (yielded ops a.tmps)=b:=by
 unfold iX at h;unfold Region.wanted;split at h
 . rename_i hg;rw [hg];simpa using h
 . rename_i j want hg;rw [hg];simp only;split at h
   . rename_i t hj;have hXt:¬X t:=hX t (by simp only [Qy,hg,hj];simp);split at h
     . rename_i n ht;obtain ⟨x,h1,m,h2,rfl⟩:=hs.t t _ ht hXt;simp [E.den] at h2;subst h2;rw [uV hj h1];simp at h;rw [<-h];by_cases hn:n=0 <;> cases want <;> simp [hn]
     . cases h
     . rename_i ht;obtain ⟨x,h1,h2⟩:=hs.t t _ ht hXt;simp only [Rel] at h2;subst h2;simp at h;subst h;unfold yielded;rw [hj];simp [h1,Go.undef]
     . cases h
   . cases h
theorem Vw {ops:Array Oper} {s:St} {o:Oper} {t:Nat} {c:E} (hs:qW A I P X g s a w) (hX:∀t∈Qy ops o,¬X t) (h:iX ops s o=some (.inr (t,c))) :
   ∃j want,o.guard=some (j,want)/\get s.tmps t=some (.bool c)/\∃n:Int,c.den I g.env=some (.i n)/\Region.wanted o (yielded ops a.tmps)=(decide (n≠0) == want):=by
 unfold iX at h;split at h
 . simp at h
 . rename_i j want hg;split at h
   . rename_i t' hj;have hXt:¬X t':=hX t' (by simp only [Qy,hg,hj];simp);split at h
     . cases h
     . rename_i e ht;simp at h;obtain ⟨rfl,rfl⟩:=h;obtain ⟨x,h1,n,h2,rfl⟩:=hs.t t' _ ht hXt;refine ⟨j,want,hg,ht,n,h2,?_⟩;unfold Region.wanted;rw [hg];simp only;rw [uV hj h1];by_cases hn:n=0 <;> cases want <;> simp [hn]
     . cases h
     . cases h
   . cases h
theorem Dh {s:St} {o:Oper} {t:Nat} {c:E} (h:Hu s o=some (t,c)):get s.tmps t=some (.bool c)/\.tmp t∈o.op.operands.toList:=by
 unfold Hu at h;split at h
 . rename_i t' x y hop;split at h
   . cases h
   . rename_i e _ ht;simp at h;obtain ⟨rfl,rfl⟩:=h;exact ⟨ht,by rw [hop];simp [Op.operands]⟩
   . cases h
 . cases h
theorem YV {s:St} {o:Op} {i:Nat} {kd:IntKind} {x:E} {n:Nat} (h:YG s o=some (i,kd,x,n)):get s.tmps i=some (.int kd x):=by
 unfold YG at h;split at h
 . split at h
   . rename_i hg;split at h
     . split at h
       . simp at h;obtain ⟨rfl,rfl,rfl,rfl⟩:=h;exact hg
       . cases h
     . cases h
   . rename_i hg;split at h
     . split at h
       . simp at h;obtain ⟨rfl,rfl,rfl,rfl⟩:=h;exact hg
       . cases h
     . cases h
   . cases h
 . split at h
   . rename_i hg;split at h
     . split at h
       . simp at h;obtain ⟨rfl,rfl,rfl,rfl⟩:=h;exact hg
       . cases h
     . cases h
   . cases h
 . cases h
theorem KE {kn:Kn} {s:St} {o:Op} {i:Nat} {kd:IntKind} {x:E} {n:Nat} (h:Z4 kn s o=some (i,kd,x,n)):get s.tmps i=some (.int kd x):=by
 unfold Z4 at h;split at h
 . split at h
   . rename_i hg _;split at h
     . simp only [Option.some.injEq,Prod.mk.injEq] at h;obtain ⟨rfl,rfl,rfl,rfl⟩:=h;assumption
     . cases h
   . split at h
     . split at h
       . simp only [Option.some.injEq,Prod.mk.injEq] at h;obtain ⟨rfl,rfl,rfl,rfl⟩:=h;assumption
       . cases h
     . split at h
       . simp only [Option.some.injEq,Prod.mk.injEq] at h;obtain ⟨rfl,rfl,rfl,rfl⟩:=h;assumption
       . cases h
     . cases h
   . cases h
 . cases h
theorem QW {kn:Kn} {s:St} {o:Op} {i:Nat} {kd:IntKind} {x:E} {n:Nat} (h:YB kn s o=some (i,kd,x,n)):get s.tmps i=some (.int kd x):=by
 unfold YB at h;split at h
 . cases h
 . split at h
   . rename_i r hr;cases h;exact KE hr
   . exact YV h
theorem Gg {v:AV} {e:E} {n:Int} {x:Value} (he:e.den I g.env=some (.i n)) (h:Rel I g v x):Rel I g (v.Xp e n) x:=by
 unfold AV.Xp;split
 . rename_i k f;split
   . rename_i hf;subst hf;obtain ⟨m,h1,h2⟩:=h;rw [he] at h1;cases h1;exact ⟨n,rfl,h2⟩
   . exact h
 . exact h
theorem Ga {e:E} {n:Int} {t:Nat} {v:AV}:∀{ts:qO},get (DR e n ts) t=some v->∃u,get ts t=some u/\v=u.Xp e n
 | [],h=>by simp [DR,get_nil] at h
 | (k,u)::ts,h=>by
   simp only [DR,qQ] at h ⊢;split at h
   . simp only [Option.some.injEq] at h;rename_i hk;exact ⟨u,by rw [if_pos hk],h.symm⟩
   . rename_i hk;rw [if_neg hk];exact Ga h
theorem Gx {e:E} {n:Int} {ts:qO} {t:Array Value} (he:e.den I g.env=some (.i n)) (h:wG I g X ts t):wG I g X (DR e n ts) t:=fun u v hv hX=>by
 obtain ⟨v0,h1,rfl⟩:=Ga hv;obtain ⟨x,h2,h3⟩:=h u v0 h1 hX;exact ⟨x,h2,Gg he h3⟩
theorem iE {ts:qO} {t:Array Value} {i:Nat} {v:AV} {x:Value} (h:wG I g X ts t) (hx:t[i]?=some x) (hv:Rel I g v x):wG I g X (vU i v ts) t:=fun u v' hv' hX=>by
 rw [xH] at hv';by_cases hit:i=u
 . subst hit;rw [if_pos rfl] at hv';simp only [Option.some.injEq] at hv';subst hv';exact ⟨_,hx,hv⟩
 . rw [if_neg hit] at hv';exact h u v' hv' hX
theorem Vh {kn:Kn} {s:St} {o:Oper} {i:Nat} {kd:IntKind} {x:E} {n:Nat} (h:Rn kn s o=some (i,kd,x,n)):get s.tmps i=some (.int kd x):=QW h
theorem Wu {x:E} {f:Nat->Tree} {env:List D} {z:Int} (hx:x.den I env=some (.i z)):∀{n:Nat},(Dw x f n).vc I env->∃j:Nat,z=j/\(f j).vc I env
 | 0,h=>h.elim
 | n+1,h=>by
   obtain ⟨h1,h2⟩:=h;have hd:=qy (o:=.eq) hx (show (E.lit (n:Int)).den I env=some (.i n) from rfl);by_cases hz:z=n
   . exact ⟨n,hz,h1 _ hd (by simp [BO.ev,hz])⟩
   . simp only [BO.ev,if_neg hz] at hd;exact Wu hx (h2 hd)
theorem Vf {s:St} {o:Oper} {b:Nat} {e q:E} (h:splitN s o=some (b,e,q)):get s.mem b=some (.iter e q 0):=by
 unfold splitN at h;split at h
 . split at h
   . split at h
     . rename_i hb;simp only [Option.some.injEq,Prod.mk.injEq] at h;obtain ⟨rfl,rfl,rfl⟩:=h;exact hb
     . cases h
   . cases h
 . cases h
theorem iK {c:E} {t f:Tree} {env:List D} (h:(o9 c t f).vc I env):((∀n,c.den I env=some (.i n)->n≠0->t.vc I env)/\(c.den I env=some (.i 0)->f.vc I env)):=by
 unfold o9 at h;split at h
 . rename_i n;split at h
   . rename_i h0;subst h0;exact ⟨fun m hm hm0=>absurd (by simpa [E.den] using hm.symm) hm0,fun _=>h⟩
   . rename_i h0;exact ⟨fun _ _ _=>h,fun h1=>absurd (by simpa [E.den] using h1) h0⟩
 . exact h
theorem QG {s:St} {b:Nat} {e q:E} {k:Nat} (hs:qW A I P X g s a w) (hb:get s.mem b=some (.iter e q 0))
   (hcond:∀(n:Int) (m:Nat),e.den I g.env=some (.i n)->q.den I g.env=some (.i (m:Nat))->(k=1->m<(zX n).length)/\(k=2->¬m<(zX n).length)):qW A I P X g (setIter s b e q k) a w:=by
 obtain ⟨p,n,m,h1,h2,h3,h4,h5,_⟩:=hs.m.blk b _ hb;exact hs.mem (hs.m.write (w':=w) hb rfl h1 rfl (fun _ _=>rfl) ⟨p,n,m,h1,h2,h3,h4,h5,hcond n m h3 h4⟩)
theorem ND {s s1:St} {x:Operand} (hs:qW A I P X g s a w) (hx:∀t,x=.tmp t->¬X t) (h:Sn s x=some s1):∃g':G,g.Le g'/\g'.env=g.env/\qW A I P X g' s1 a w:=by
 unfold Sn at h;split at h
 . rename_i t;split at h
   . rename_i k ks e ht;simp only [Option.some.injEq] at h;subst h;obtain ⟨x,h1,h2⟩:=hs.t t _ ht (hx t rfl);obtain ⟨p,h3,h4⟩:=Gj (by simp) hs.m h2;have h5:=hs.lay h3;rw [hs.nb] at h5 h4;refine ⟨g.lay p,g.qH p,rfl,h5.m,fun t' v hv hX=>?_,h5.nt,h5.d,h5.nv,h5.nb⟩;have hv:get (vU t (Mw s.nb (k::ks) e) s.tmps) t'=some v:=hv;rw [xH] at hv;by_cases htt:t=t'
     . subst htt;rw [if_pos rfl] at hv;simp only [Option.some.injEq] at hv;subst hv;exact ⟨x,h1,h4⟩
     . rw [if_neg htt] at hv;exact h5.t t' v hv hX
   . cases h
 . cases h
theorem WS {s s1:St} {o:Op} (hs:qW A I P X g s a w) (hx:∀t,.tmp t∈o.operands.toList->¬X t) (h:lookO s o=some s1):∃g':G,g.Le g'/\g'.env=g.env/\qW A I P X g' s1 a w:=by
 unfold lookO at h;split at h
 . exact ND hs (fun t e=>hx t (by subst e;simp [Op.operands])) h
 . cases h
theorem Gt {s s1:St} {o:Op} {ps:List PE} (hs:qW A I P X g s a w) (hx:∀t,.tmp t∈o.operands.toList->¬X t) (h:LC s o=some (s1,ps)) (hp:∀q∈ps,q.den I g.env) :
   ∃g':G,g.Le g'/\g'.env=g.env/\qW A I P X g' s1 a w:=by
 unfold LC at h;split at h
 . split at h
   . rename_i x y hargs;split at h
     . rename_i b lo ln z nl c m z' nl' hxv hy;split at h
       . rename_i ks t0 n0 wr0 nl0 l hb hc;split at h
         . cases h
         . rename_i hcond;simp only [Bool.or_eq_true,not_or,Bool.not_eq_true,bne_eq_false_iff_eq,Bool.not_eq_false',decide_eq_true_eq,beq_eq_false_iff_ne,ne_eq] at hcond;obtain ⟨⟨⟨⟨⟨_,h1⟩,h2⟩,h3⟩,h4⟩,h5⟩:=hcond;subst h1;subst h2;have hz:=zl (a:=a) hs.t hy (fun t' ht'=>hx t' (by simp [Op.operands,Call.operands,hargs,ht']));obtain ⟨g',k1,k2,k3,_⟩:=Gc hs hc h4 (by omega) hz h hp;exact ⟨g',k1,k2,k3⟩
       . cases h
     . cases h
   . cases h
 . rename_i ty y t;split at h
   . rename_i b r z k v hy ht;split at h
     . rename_i ks hb;split at h
       . cases h
       . split at h
         . rename_i l;simp only [Option.some.injEq,Prod.mk.injEq] at h;obtain ⟨rfl,rfl⟩:=h;obtain ⟨x,k1,cs,rfl,k2⟩:=hs.t t _ ht (hx t (by simp [Op.operands]));obtain ⟨g',h1,h2,h3,h4⟩:=bJ hs hp k2;exact ⟨g',h1,h2,h3.m,iE h3.t k1 ⟨cs,rfl,h4⟩,h3.nt,h3.d,h3.nv,h3.nb⟩
         . split at h
           . rename_i c hc;simp only [Option.some.injEq,Prod.mk.injEq] at h;obtain ⟨rfl,rfl⟩:=h;obtain ⟨x,k1,k2⟩:=hs.t t _ ht (hx t (by simp [Op.operands]));obtain ⟨g',h1,h2,h3,h4⟩:=QE hs hp k2;exact ⟨g',h1,h2,h3.m,iE h3.t k1 h4,h3.nt,h3.d,h3.nv,h3.nb⟩
           . cases h
     . cases h
   . cases h
 . cases h
theorem wM.le {X:Nat->Prop} {g':G} (h:g.Le g') {k:St->Tree} {a':Act} {w':World} (hp:wM A I P X g' k a' w'):wM A I P X g k a' w':=by
 obtain ⟨g2,s',h1,h2⟩:=hp;exact ⟨g2,s',h.trans h1,h2⟩
theorem LJ {cx:Cx} {s:St} {o:Oper} {k:St->Tree} {r:Option Nat} {n:Nat} {Q:Exit->Act->World->Prop} {nE:E} {b:Bool} (hs:qW A I cx.P X g s a w)
   (hX:∀t,.tmp t∈o.op.operands.toList->¬X t) (hn:Aa cx.P s o.op=some (nE,b)) (h:(Ao s o nE b k).vc I g.env):o.wpIn (FW r) n cx.P a w (wM A I cx.P X g k) Q:=by
 unfold Ao at h;split at h
 rotate_left
 . exact h.elim
 rename_i s1 s2 qjz qjq;obtain ⟨h1,h2⟩:=h
 -- one way or the other
 have fin:∀{bo:BinOp} {t:TypeId} {x y:Operand} {yt:TypeId} {v:AV},o.op=.binOp bo t x y yt->evalOp s.tmps x=some v->evalOp s.tmps y=some .qJ->(∃el,cx.P.underlying t=some (.slice el))->(bo=.eql/\b=true\/bo=.neq/\b=false)->
     ((∃p l c,a.eval x=.slice (some p) l c)\/(a.eval x=.slice none 0 0/\nE.den I g.env=some (.i 0)))->o.wpIn (FW r) n cx.P a w (wM A I cx.P X g k) Q:=by
   intro bo t x y yt v hop hx hy ⟨el,hu⟩ hbo hcase
   have hyv:a.eval y=.slice none 0 0:=by
     have:=zl (a:=a) hs.t hy (fun t' ht'=>hX t' (by rw [hop];simp [Op.operands,ht']));simpa [Rel] using this
   have key:∀{m:Int} {s':St},BQ cx.P w t (a.eval x) (a.eval y) m->yX s o.dst (.bool (.lit (if b=true then m else (if m=0 then 1 else 0))))=some s'->(k s').vc I g.env->o.wpIn (FW r) n cx.P a w (wM A I cx.P X g k) Q:=by
     intro m s' hE hset hk;refine ⟨fun _ _=>trivial,?_⟩;rw [Oper.semAt_eq _ _ _ (fun c hc=>by rw [hop] at hc;cases hc)];rcases hbo with ⟨rfl,rfl⟩ | ⟨rfl,rfl⟩
     . have hrun:(execOp a.eval o).run cx.P w=.ok (.value (.bool (decide (m≠0)))) w:=by
         simp only [execOp,hop];rw [Sem.run_bind,zi (hE.guard _ _ _) hE.eql];rfl
       rw [hrun];exact ⟨g,s',.refl _,hs.yX (v:=.bool (.lit (if (true:Bool)=true then m else (if m=0 then 1 else 0)))) ⟨m,rfl,rfl⟩ hset,hk⟩
     . have hrun:(execOp a.eval o).run cx.P w=.ok (.value (.bool (!decide (m≠0)))) w:=by
         simp only [execOp,hop];rw [Sem.run_bind,zi (hE.guard _ _ _) hE.neq];rfl
       rw [hrun];refine ⟨g,s',.refl _,hs.yX (v:=.bool (.lit (if (false:Bool)=true then m else (if m=0 then 1 else 0)))) ⟨_,rfl,?_⟩ hset,hk⟩;by_cases hm:m=0 <;> simp [hm]
   rw [hyv] at key;rcases hcase with ⟨p,l,c,hx'⟩ | ⟨hx',hn0⟩
   . rw [hx'] at key;refine key (m:=0) (.jo (fun op ox oy=>by cases op <;> rfl) rfl rfl (by rw [run_equal_slice_nil hu];rfl)) ?_ h2;rw [<-qjq];rcases hbo with ⟨_,rfl⟩ | ⟨_,rfl⟩ <;> rfl
   . rw [hx'] at key;obtain ⟨h3,_⟩:=iK h1;have h4:=h3 _ (qy (o:=.eq) hn0 (show (E.lit 0).den I g.env=some (.i 0) from rfl)) (by decide);refine key (m:=1) (.jo (fun op ox oy=>by cases op <;> rfl) rfl rfl (by rw [gP hu];rfl)) ?_ h4;rw [<-qjz];rcases hbo with ⟨_,rfl⟩ | ⟨_,rfl⟩ <;> rfl
 unfold Aa at hn;split at hn
 . rename_i q t x y yt hop;split at hn
   . rename_i v el hx hy hu;have hxr:=zl (a:=a) hs.t hx (fun t' ht'=>hX t' (by rw [hop];simp [Op.operands,ht']))
     have hsl:∀{b0:Nat} {lo nn:E} {z:Nat},Rel I g (.slice b0 lo nn z true) (a.eval x)->(∃p l c,a.eval x=.slice (some p) l c)\/(a.eval x=.slice none 0 0/\nn.den I g.env=some (.i 0)):=by
       intro b0 lo nn z ⟨l,m,_,h4,_,_,h5⟩;rcases h5 with ⟨p,cap,_,h6,_⟩ | ⟨_,rfl,ad,h6⟩
       . exact .inl ⟨_,_,_,h6⟩
       . cases ad with
         | none=>exact .inr ⟨h6,h4⟩
         | some ad=>exact .inl ⟨_,_,_,h6⟩
     have hls:∀{ks:List SK} {e:E},Rel I g (.lst ks e) (a.eval x)->(∃p l c,a.eval x=.slice (some p) l c)\/(a.eval x=.slice none 0 0/\(j5 ks e).den I g.env=some (.i 0)):=by
       intro ks e ⟨m,h4,h5⟩;rcases h5 with ⟨⟨ad,h6⟩,h7⟩ | ⟨o',off,len,cap,cs,h6,_⟩
       . cases ad with
         | none=>exact .inr ⟨h6,by rw [bS h4,om h7]⟩
         | some ad=>exact .inl ⟨_,_,_,h6⟩
       . exact .inl ⟨_,_,_,h6⟩
     split at hn
     . simp only [Option.some.injEq,Prod.mk.injEq] at hn;obtain ⟨rfl,rfl⟩:=hn;exact fin hop hx hy ⟨_,hu⟩ (.inl ⟨rfl,rfl⟩) (hsl hxr)
     . simp only [Option.some.injEq,Prod.mk.injEq] at hn;obtain ⟨rfl,rfl⟩:=hn;exact fin hop hx hy ⟨_,hu⟩ (.inr ⟨rfl,rfl⟩) (hsl hxr)
     . simp only [Option.some.injEq,Prod.mk.injEq] at hn;obtain ⟨rfl,rfl⟩:=hn;exact fin hop hx hy ⟨_,hu⟩ (.inl ⟨rfl,rfl⟩) (hls hxr)
     . simp only [Option.some.injEq,Prod.mk.injEq] at hn;obtain ⟨rfl,rfl⟩:=hn;exact fin hop hx hy ⟨_,hu⟩ (.inr ⟨rfl,rfl⟩) (hls hxr)
     . cases hn
   . cases hn
 . cases hn
theorem R5 {cx:Cx} {e:Eng} (hE:jh I cx e) {s:St} {o:Oper} {k:St->Tree} {r:Option Nat} {n:Nat} {Q:Exit->Act->World->Prop}
   (hG:GOk cx.kn.globs A) (hd:r=none\/bQ o.op=false) (hs:qW A I cx.P (fun _=>False) g s a w) (h:(HY cx e s o k).vc I g.env):o.wpIn (FW r) n cx.P a w (wM A I cx.P (fun _=>False) g k) Q:=by
 unfold HY at h;split at h
 . rename_i nE b hn;exact LJ hs (fun _ _ h=>h) hn h
 split at h
 . rename_i b x q hsp;have hb:=Vf hsp;obtain ⟨p,m,j,_,_,h3,h4,_⟩:=hs.m.blk b _ hb;have hc:=qy (o:=.lt) h4 (vJ h3);obtain ⟨hv1,hv2⟩:=iK h
   have inj:∀(n:Int) (i:Nat),x.den I g.env=some (.i n)->q.den I g.env=some (.i (i:Nat))->n=m/\i=j:=fun n i hn hi=>by
     rw [h3] at hn;rw [h4] at hi;simp only [Option.some.injEq,D.i.injEq] at hn hi;exact ⟨hn.symm,by omega⟩
   by_cases hlt:j<(zX m).length
   . have e1:BO.lt.ev (j:Int) (uF m)=1:=by simp only [BO.ev,uF];exact if_pos (by omega)
     refine vI hE hG hd (s:=setIter s b x q 1) (QG hs hb fun n i hn hi=>?_) (fun _ _ h=>h) (hv1 1 (by rw [hc,e1]) (by decide));obtain ⟨rfl,rfl⟩:=inj n i hn hi;exact ⟨fun _=>hlt,fun h=>by omega⟩
   . have e1:BO.lt.ev (j:Int) (uF m)=0:=by simp only [BO.ev,uF];exact if_neg (by omega)
     refine vI hE hG hd (s:=setIter s b x q 2) (QG hs hb fun n i hn hi=>?_) (fun _ _ h=>h) (hv2 (by rw [hc,e1]));obtain ⟨rfl,rfl⟩:=inj n i hn hi;exact ⟨fun h=>by omega,fun _=>hlt⟩
 split at h
 . rename_i i kd x m hsp;have ht:=Vh hsp;obtain ⟨y,h1,z,h2,rfl⟩:=hs.t i _ ht (fun h=>h);obtain ⟨j,rfl,hv⟩:=Wu h2 h;exact vI hE hG hd (s:=setInt s i kd x j) ⟨hs.m,iE (Gx h2 hs.t) h1 ⟨j,rfl,rfl⟩,hs.nt,hs.d,hs.nv,hs.nb⟩ (fun _ _ h=>h) hv
 split at h
 . rename_i s1 hlk;obtain ⟨g',h1,h2,h3⟩:=WS hs (fun _ _ h=>h) hlk;rw [<-h2] at h;exact Oper.wpIn_mono (fun _ _ hp=>wM.le h1 hp) (vI hE hG hd h3 (fun _ _ h=>h) h)
 split at h
 . rename_i s1 ps hic;obtain ⟨hp,h⟩:=qB h;obtain ⟨g',h1,h2,h3⟩:=Gt hs (fun _ _ h=>h) hic hp;rw [<-h2] at h;exact Oper.wpIn_mono (fun _ _ hp=>wM.le h1 hp) (vI hE hG hd h3 (fun _ _ h=>h) h)
 . exact vI hE hG hd hs (fun _ _ h=>h) h
theorem CO {cx:Cx} {e:Eng} (hE:jh I cx e) {ops:Array Oper} {s:St} {o:Oper} {k:St->Tree} {r:Option Nat} {n:Nat} {Q:Exit->Act->World->Prop}
   (hG:GOk cx.kn.globs A) (hd:r=none\/bQ o.op=false) (hs:qW A I cx.P (fun _=>False) g s a w) (h:(oper cx e ops s o k).vc I g.env) :
   if Region.wanted o (yielded ops a.tmps) then o.wpIn (FW r) n cx.P a w (wM A I cx.P (fun _=>False) g k) Q
   else (∀f,o.about cx.P w a.eval=some f->(FW r).fn f)/\wM A I cx.P (fun _=>False) g k (a.put o.dst Go.undef) w:=by
 have hX:∀(l:List Nat),∀t∈l,¬(fun _:Nat=>False) t:=fun _ _ _ h=>h
 have hgo:∀(s:St) (wt:Bool),qW A I cx.P (fun _=>False) g s a w->
     (if wt then match Hu s o with
       | some (t,c)=>Tree.branch c (pI cx e (setBool s t true) o k) (pI cx e (setBool s t false) o k)
       | none=>HY cx e s o k
     else match yX s o.dst .undef with
       | some s'=>k s'
       | none=>.fail 24).vc I g.env->
     if wt then o.wpIn (FW r) n cx.P a w (wM A I cx.P (fun _=>False) g k) Q
     else (∀f,o.about cx.P w a.eval=some f->(FW r).fn f)/\wM A I cx.P (fun _=>False) g k (a.put o.dst Go.undef) w:=by
   intro s wt hs hv;cases wt with
   | true=>
     simp only [if_true] at hv ⊢;split at hv
     . rename_i t c hp;obtain ⟨ht,_⟩:=Dh hp;obtain ⟨h1,h2⟩:=hv;obtain ⟨x,_,m,h4,_⟩:=hs.t t _ ht (fun h=>h);have hsb:=QB hs ht h4;by_cases hm:m=0
       . subst hm;exact vI hE hG hd (by simpa using hsb) (fun _ _ h=>h) (h2 h4)
       . rw [show decide (m≠0)=true by simp [hm]] at hsb;exact vI hE hG hd hsb (fun _ _ h=>h) (h1 m h4 hm)
     . exact R5 hE hG hd hs hv
   | false=>
     simp only [Bool.false_eq_true,if_false] at hv ⊢;split at hv
     . rename_i s' hset;exact ⟨fun _ _=>trivial,g,s',.refl _,hs.yX (v:=.undef) rfl hset,hv⟩
     . exact hv.elim
 unfold oper at h;simp only at h;split at h
 . rename_i wt hw;rw [Vy hs (hX _) hw];exact hgo s wt hs h
 . rename_i t c hw;obtain ⟨j,want,hg,ht,m,hc,hwt⟩:=Vw hs (hX _) hw;rw [hwt];rw [hg] at h;simp only at h;obtain ⟨h1,h2⟩:=h;have hsb:=QB hs ht hc;by_cases hm:m=0
   . subst hm;rw [show decide ((0:Int)≠0)=false by simp] at hsb ⊢;exact hgo _ _ hsb (h2 hc)
   . rw [show decide (m≠0)=true by simp [hm]] at hsb ⊢;exact hgo _ _ hsb (h1 m hc hm)
 . exact h.elim
theorem aL {cx:Cx} {e:Eng} (hE:jh I cx e) {ops:Array Oper} {r:Option Nat} {n:Nat} {Q:Exit->Act->World->Prop} {k:St->Tree} (hG:GOk cx.kn.globs A) (hd:r=none\/∀(i:Nat) (o:Oper),ops[i]?=some o->bQ o.op=false):∀{l:List Nat} {g:G} {s:St} {a:Act} {w:World},
   qW A I cx.P (fun _=>False) g s a w->(aI cx e ops l s k).vc I g.env->(∀g' a' w',g.Le g'->wM A I cx.P (fun _=>False) g' k a' w'->Q .normal a' w')->wpOpsIn (FW r) n cx.P ops Q l a w
 | [],g,s,a,w,hs,h,hQ=>hQ g a w (.refl _) ⟨g,s,.refl _,hs,h⟩
 | i::l,g,s,a,w,hs,h,hQ=>by
   rw [wpOpsIn_cons];unfold wpOpIn;simp only [aI] at h;cases ho:ops[i]? with
   | none=>
     simp only [ho] at h ⊢;exact aL hE hG hd hs h hQ
   | some o=>
     simp only [ho] at h ⊢;have:=CO (r:=r) (n:=n) (Q:=Q) hE hG (hd.imp id fun hd=>hd i o ho) hs h
     have hnext:∀a' w',wM A I cx.P (fun _=>False) g (fun s'=>aI cx e ops l s' k) a' w'->wpOpsIn (FW r) n cx.P ops Q l a' w':=by
       intro a' w' ⟨g',s',h1,h2,h3⟩;exact aL hE hG hd h2 h3 fun g2 a2 w2 h4 h5=>hQ g2 a2 w2 (h1.trans h4) h5
     split
     . rename_i hw;rw [if_pos hw] at this;exact Oper.wpIn_mono hnext this
     . rename_i hw;rw [if_neg hw] at this;exact ⟨this.1,hnext _ _ this.2⟩
end Go.Sx
end
noncomputable section
namespace Go.Sx
open Go
variable {A:Amb} {I:Itp} {P:Program} {g:G} {X:Nat->Prop} {ts:qO} {a:Act} {M:Mem} {w:World}
theorem KY {env:List D}:∀{σ:List E} {ds:List D},qg I env σ=some ds->∀{i:Nat} {e:E},σ[i]?=some e->∃d,e.den I env=some d/\ds[i]?=some d
 | [],ds,h,i,e,hi=>by simp at hi
 | e0::σ,ds,h,i,e,hi=>by
   simp only [qg] at h;split at h
   . rename_i d ds' h1 h2;simp at h;subst h;cases i with
     | zero=>simp at hi;subst hi;exact ⟨d,h1,rfl⟩
     | succ i=>obtain ⟨d',h3,h4⟩:=KY h2 (i:=i) (by simpa using hi);exact ⟨d',h3,by simpa using h4⟩
   . cases h
theorem Q9 {env:List D}:∀{σ:List E} {ds:List D},qg I env σ=some ds->ds.length=σ.length
 | [],ds,h=>by simp [qg] at h;subst h;rfl
 | e::σ,ds,h=>by
   simp only [qg] at h;split at h
   . rename_i d ds' h1 h2;simp at h;subst h;simp [Q9 h2]
   . cases h
theorem zF {env ds:List D} {n:Nat} {σ:List E} (hσ:qg I env σ=some ds) (hn:n<=env.length):∀{e:E} {d:D},(e.subst n σ).den I env=some d->e.den I (env.take n++ds)=some d:=by
 intro e
 induction e with
 | lit x=>intro d h;exact h
 | zt=>intro d h;exact h
 | kt row=>intro d h;exact h
 | bt b=>intro d h;exact h
 | var i=>
   intro d h;simp only [E.aN] at h;split at h
   . rename_i hi;simp only [E.den] at h ⊢;rw [List.getElem?_append_left (by simp;omega),List.getElem?_take_of_lt hi];exact h
   . rename_i hi;cases hs:σ[i - n]? with
     | none=>rw [hs] at h;simp [E.den] at h
     | some e'=>
       rw [hs] at h;obtain ⟨d',h1,h2⟩:=KY hσ hs;simp at h;rw [h1] at h;simp at h;subst h;simp only [E.den];rw [List.getElem?_append_right (by simp;omega),<-h2]
       congr 1;simp;omega
 | bin o a b iha ihb=>
   intro d h;simp only [E.subst,E.den] at h ⊢;split at h
   . rename_i x y h1 h2;rw [iha h1,ihb h2];exact h
   . cases h
 | wrap k a ih=>
   intro d h;simp only [E.subst,E.den] at h ⊢;split at h
   . rename_i x h1;rw [ih h1];exact h
   . cases h
 | sel t r c iht ihr=>
   intro d h;simp only [E.subst,E.den] at h ⊢;split at h
   . rename_i x y h1 h2;rw [iht h1,ihr h2];exact h
   . cases h
 | upd t r c v iht ihr ihv=>
   intro d h;simp only [E.subst,E.den] at h ⊢;split at h
   . rename_i x y z h1 h2 h3;rw [iht h1,ihr h2,ihv h3];exact h
   . cases h
 | cat t n u iht ihn ihu=>
   intro d h;simp only [E.subst,E.den] at h ⊢;split at h
   . rename_i x y z h1 h2 h3;rw [iht h1,ihn h2,ihu h3];exact h
   . cases h
 | sh t n iht ihn=>
   intro d h;simp only [E.subst,E.den] at h ⊢;split at h
   . rename_i x y h1 h2;rw [iht h1,ihn h2];exact h
   . cases h
 | teq t n u m iht ihn ihu ihm=>
   intro d h;simp only [E.subst,E.den] at h ⊢;split at h
   . rename_i x y z v h1 h2 h3 h4;rw [iht h1,ihn h2,ihu h3,ihm h4];exact h
   . cases h
 | fn j a b c d iha ihb ihc ihd=>
   intro x h;simp only [E.subst,E.den] at h ⊢;split at h
   . rename_i x1 x2 x3 x4 h1 h2 h3 h4;rw [iha h1,ihb h2,ihc h3,ihd h4];exact h
   . cases h
def Fix.view (u:Fix) (g:G) (ds:List D):G:={ env:=g.env.take u.nv++ds,φ:=fun b=>(u.img b).bind g.φ,nb:=u.kb,fz:=g.fz }
structure Fix.Fits (I:Itp) (u:Fix) (g:G) (ds:List D):Prop where
 σ:qg I g.env u.σ=some ds
 nv:u.nv<=g.env.length
 kb:u.nb<=u.kb
theorem Fix.XJ {u:Fix} (h:u.nb<=u.kb) {b c:Nat} (hb:u.img b=some c):b<u.kb:=by
 unfold Fix.img at hb;split at hb
 . omega
 . split at hb
   . assumption
   . cases hb
theorem Fix.Cv {u:Fix} {ds:List D} (h:u.nb<=u.kb):(u.view g ds).wf:=fun b hb=>by
 cases hi:u.img b with
 | none=>simp [Fix.view,hi]
 | some c=>have:=Fix.XJ h hi;simp only [Fix.view] at hb;omega
theorem Fix.qU {u:Fix} {ds:List D} {b c:Nat} (h:u.img b=some c):(u.view g ds).φ b=g.φ c:=by simp [Fix.view,h]
section
variable {u:Fix} {ds:List D}
theorem Fix.zO (hf:u.Fits I g ds) {p f:E} {d:D} (h:(u.e p == f)=true) (hd:f.den I g.env=some d):p.den I (u.view g ds).env=some d:=by
 have:u.e p=f:=by simpa using h
 rw [<-this] at hd;exact zF hf.σ hf.nv hd
theorem CK.Ve {k:CK} {n:Int} {x:Value} (hk:k.Sv=true) (h:k.rel g n x):k.rel (u.view g ds) n x:=by
 cases k with
 | clo cs=>cases hk
 | lst ks=>exact h
 | int k=>exact h
 | bool=>exact h
 | str=>exact h
theorem aW.view {cs:List Clo} {n:Int} {x:Value} (hk:u.TY cs=true) (h:aW g (cs.map u.clo) n x):aW (u.view g ds) cs n x:=by
 rcases h with h | ⟨h1,c,p,o,q,z,h2,h3,h4,h5,h6⟩
 . exact .inl h
 . rw [List.getElem?_map,Option.map_eq_some_iff] at h2;rw [List.length_map] at h2 h6;obtain ⟨c0,h2,rfl⟩:=h2;have hi:(u.img c0.b).isSome=true:=List.all_eq_true.1 hk c0 (List.mem_of_getElem? h2);obtain ⟨b,hb⟩:=Option.isSome_iff_exists.1 hi;refine .inr ⟨h1,c0,p,o,q,z,h2,?_,h4,h5,h6⟩;rw [Fix.qU hb];simpa [Fix.clo,hb] using h3
theorem CK.OO {k:CK} {n:Int} {x:Value} (hk:u.TB k=true) (h:(u.ck k).rel g n x):k.rel (u.view g ds) n x:=by
 cases k with
 | clo cs=>exact aW.view hk h
 | lst ks=>exact h
 | int k=>exact h
 | bool=>exact h
 | str=>exact h
theorem CK.TI {k:CK} {n:Int} {x:Option Value} (hk:u.TB k=true) (h:(u.ck k).at g n x):k.at (u.view g ds) n x:=let ⟨y,a,b⟩:=h;⟨y,a,CK.OO hk b⟩
mutual
theorem Fix.sG (hf:u.Fits I g ds):∀{p v:AV} {x:Value},u.le p v=true->Rel I g v x->Rel I (u.view g ds) p x:=by
 intro p v x h hv
 match p with
 | .any=>simp [Rel]
 | .undef=>cases v <;> first | (simp [Fix.le] at h;done) | simpa [Rel] using hv
 | .bool e=>
   cases v with
   | bool f=>
     simp only [Fix.le] at h;obtain ⟨n,h1,h2⟩:=hv;exact ⟨n,Fix.zO hf h h1,h2⟩
   | _=>simp [Fix.le] at h
 | .int k e=>
   cases v with
   | int k' f=>
     simp only [Fix.le,Bool.and_eq_true,beq_iff_eq] at h;obtain ⟨rfl,h⟩:=h;obtain ⟨n,h1,h2⟩:=hv;exact ⟨n,Fix.zO hf (by simpa using h) h1,h2⟩
   | _=>simp [Fix.le] at h
 | .wP=>cases v <;> first | (simp [Fix.le] at h;done) | simpa [Rel] using hv
 | .ptr b r s k=>
   cases v with
   | ptr c q s' k'=>
     simp only [Fix.le,Bool.and_eq_true,beq_iff_eq] at h;obtain ⟨⟨⟨hb,hr⟩,rfl⟩,rfl⟩:=h;obtain ⟨n,p,h1,h2,h3,h4⟩:=hv;exact ⟨n,p,Fix.zO hf (by simpa using hr) h1,h2,by rw [Fix.qU hb];exact h3,h4⟩
   | _=>simp [Fix.le] at h
 | .qJ=>cases v <;> first | (simp [Fix.le] at h;done) | simpa [Rel] using hv
 | .slice b lo n s nl=>
   have emp:∀{ad:Option Addr},x=.slice ad 0 0->nl=true->(u.e n == .lit 0)=true->(u.e lo == .lit 0)=true->Rel I (u.view g ds) (.slice b lo n s nl) x:=fun {ad} hx hnl hn hlo=>by
     have h1:=Fix.zO (p:=n) (f:=.lit 0) hf hn rfl;have h2:=Fix.zO (p:=lo) (f:=.lit 0) hf hlo rfl;exact ⟨0,0,h2,h1,Int.le_refl _,Int.le_refl _,.inr ⟨hnl,rfl,ad,hx⟩⟩
   cases v with
   | slice c lo' n' s' nl'=>
     simp only [Fix.le,Bool.and_eq_true,beq_iff_eq] at h;obtain ⟨⟨⟨⟨hb,hlo⟩,hn⟩,rfl⟩,hnl⟩:=h;obtain ⟨l,m,h1,h2,h3,h4,h5⟩:=hv;refine ⟨l,m,Fix.zO hf (by simpa using hlo) h1,Fix.zO hf (by simpa using hn) h2,h3,h4,?_⟩;rcases h5 with ⟨p,cap,h5,h6⟩ | ⟨h5,h6⟩
     . exact .inl ⟨p,cap,by rw [Fix.qU hb];exact h5,h6⟩
     . refine .inr ⟨?_,h6⟩;rw [h5] at hnl;simpa using hnl
   | qJ=>
     simp only [Fix.le,Bool.and_eq_true] at h;simp only [Rel] at hv;exact emp hv h.1.1 h.1.2 h.2
   | cap0=>
     simp only [Fix.le,Bool.and_eq_true] at h;obtain ⟨ad,hv⟩:=hv;exact emp hv h.1.1 h.1.2 h.2
   | mM=>
     simp only [Fix.le,Bool.and_eq_true] at h;obtain ⟨ad,hv⟩:=hv;exact emp hv h.1.1 h.1.2 h.2
   | _=>simp [Fix.le] at h
 | .mM=>cases v <;> first | (simp [Fix.le] at h;done) | simpa [Rel] using hv
 | .lst ks e=>
   cases v with
   | lst ks' f=>
     simp only [Fix.le,Bool.and_eq_true,beq_iff_eq] at h;obtain ⟨rfl,h⟩:=h;obtain ⟨n,h1,h2⟩:=hv;exact ⟨n,Fix.zO hf (by simpa using h) h1,h2⟩
   | _=>simp [Fix.le] at h
 | .fco cs e=>
   cases v with
   | fco cs' f=>
     simp only [Fix.le,Bool.and_eq_true,beq_iff_eq] at h;obtain ⟨⟨rfl,h⟩,hk⟩:=h;obtain ⟨n,h1,h2⟩:=hv;exact ⟨n,Fix.zO hf (by simpa using h) h1,h2.view hk⟩
   | jY=>
     simp only [Fix.le] at h;exact ⟨0,Fix.zO (f:=.lit 0) hf h rfl,.inl ⟨rfl,by simpa [Rel] using hv⟩⟩
   | _=>simp [Fix.le] at h
 | .gZ b=>
   cases v with
   | gZ c=>
     simp only [Fix.le] at h;obtain ⟨o,q,z,y,h1,h2,h3,h4⟩:=hv;exact ⟨o,q,z,y,h1,h2,h3,Fix.sG hf h h4⟩
   | _=>simp [Fix.le] at h
 | .xV ks e i k=>
   cases v with
   | xV ks' f j k'=>
     simp only [Fix.le,Bool.and_eq_true,beq_iff_eq] at h;obtain ⟨⟨⟨rfl,h1⟩,h2⟩,rfl⟩:=h;obtain ⟨n,j',h3,h4,h5,h6⟩:=hv;exact ⟨n,j',Fix.zO hf (by simpa using h1) h3,Fix.zO hf (by simpa using h2) h4,h5,h6⟩
   | _=>simp [Fix.le] at h
 | .wE t n=>
   cases v with
   | wE t' n'=>
     simp only [Fix.le,Bool.and_eq_true] at h;obtain ⟨f,k,s,h1,h2,h3⟩:=hv;exact ⟨f,k,s,Fix.zO hf h.1 h1,Fix.zO hf h.2 h2,h3⟩
   | str l=>
     simp only [Fix.le,Bool.and_eq_true] at h;obtain ⟨s,h1,h2⟩:=hv;obtain ⟨f,h3,h4⟩:=ZO (I:=I) (env:=g.env) l;exact ⟨f,_,s,Fix.zO hf h.1 h3,Fix.zO hf h.2 rfl,h1,by rw [h2],fun i b hb=>h4 i b (by rw [<-h2];exact hb)⟩
   | _=>simp [Fix.le] at h
 | .func f l=>
   cases v with
   | func f' m=>
     simp only [Fix.le,Bool.and_eq_true,beq_iff_eq] at h;obtain ⟨rfl,h⟩:=h;obtain ⟨cs,h1,h2⟩:=hv;exact ⟨cs,h1,Fix.yS hf h h2⟩
   | _=>simp [Fix.le] at h
 | .yld b=>
   cases v with
   | yld c=>
     simp only [Fix.le,beq_iff_eq] at h;obtain ⟨p,h1,h2⟩:=hv;exact ⟨p,by rw [Fix.qU h];exact h1,h2⟩
   | _=>simp [Fix.le] at h
 | .mref b=>
   cases v with
   | mref c=>
     simp only [Fix.le,beq_iff_eq] at h;obtain ⟨p,h1,h2⟩:=hv;exact ⟨p,by rw [Fix.qU h];exact h1,h2⟩
   | _=>simp [Fix.le] at h
 | .gV=>cases v <;> first | (simp [Fix.le] at h;done) | simpa [Rel] using hv
 | .xk=>cases v <;> first | (simp [Fix.le] at h;done) | simpa [Rel] using hv
 | .sat e=>
   simp only [Fix.le] at h;split at h
   . rename_i f hf';obtain ⟨n,h1,h2⟩:=xL hf' hv;exact ⟨n,Fix.zO hf h h1,h2⟩
   . cases h
 | .ifo e=>
   cases v with
   | ifo f=>
     simp only [Fix.le] at h;obtain ⟨n,h1,h2⟩:=hv;exact ⟨n,Fix.zO hf h h1,h2⟩
   | xk=>
     simp only [Fix.le] at h;simp only [Rel] at hv;exact ⟨0,Fix.zO hf h rfl,.inl ⟨rfl,hv⟩⟩
   | _=>simp [Fix.le] at h
 | .jY=>cases v <;> first | (simp [Fix.le] at h;done) | simpa [Rel] using hv
 | .agg l=>
   cases v with
   | agg m=>
     simp only [Fix.le] at h;obtain ⟨cs,h1,h2⟩:=hv;exact ⟨cs,h1,Fix.yS hf h h2⟩
   | _=>simp [Fix.le] at h
 | .tup l=>
   cases v with
   | tup m=>
     simp only [Fix.le] at h;obtain ⟨cs,h1,h2⟩:=hv;exact ⟨cs,h1,Fix.yS hf h h2⟩
   | _=>simp [Fix.le] at h
 | .big l ks t n m=>
   cases v with
   | big l' ks' t' n' m'=>
     simp only [Fix.le,Bool.and_eq_true,beq_iff_eq] at h;obtain ⟨⟨⟨⟨⟨h1,rfl⟩,h3⟩,rfl⟩,h5⟩,hk⟩:=h;obtain ⟨f,xs,ys,zs,h6,h7,h8,h9,h10⟩:=hv;exact ⟨f,xs,ys,zs,Fix.zO hf (by simpa using h3) h6,h7,Fix.yS hf h1 h8,Fix.yS hf h5 h9,h10.1,fun r j k a b=>let ⟨y,c,d⟩:=h10.2 r j k a b;⟨y,c,CK.Ve (List.all_eq_true.1 hk k (List.mem_of_getElem? b)) d⟩⟩
   | _=>simp [Fix.le] at h
 | .cap0=>cases v <;> first | (simp [Fix.le] at h;done) | simpa [Rel] using hv
 | .empty=>
   cases v with
   | empty=>simpa [Rel] using hv
   | cap0=>obtain ⟨ad,hv⟩:=hv;exact ⟨ad,0,hv⟩
   | _=>simp [Fix.le] at h
 | .asl b k n s=>
   cases v with
   | asl c k' n' s'=>
     simp only [Fix.le,Bool.and_eq_true,beq_iff_eq] at h;obtain ⟨⟨⟨h1,rfl⟩,rfl⟩,rfl⟩:=h;obtain ⟨p,cap,h2,h3⟩:=hv;exact ⟨p,cap,by rw [Fix.qU h1];exact h2,h3⟩
   | _=>simp [Fix.le] at h
 | .yN f l m=>
   cases v with
   | yN f' l' m'=>
     simp only [Fix.le,Bool.and_eq_true,beq_iff_eq] at h;obtain ⟨⟨rfl,h1⟩,h2⟩:=h;obtain ⟨ms,cs,h3,h4,h5⟩:=hv;exact ⟨ms,cs,h3,Fix.yS hf h1 h4,Fix.yS hf h2 h5⟩
   | _=>simp [Fix.le] at h
 | .bK b k=>
   cases v with
   | bK b' k'=>
     simp only [Fix.le,Bool.and_eq_true,beq_iff_eq] at h;obtain ⟨rfl,rfl⟩:=h;simpa [Rel] using hv
   | _=>simp [Fix.le] at h
 | .str l=>
   cases v with
   | str m=>
     simp only [Fix.le,beq_iff_eq] at h;subst h;simpa [Rel] using hv
   | _=>simp [Fix.le] at h
theorem Fix.yS (hf:u.Fits I g ds):∀{l m:List AV} {xs:List Value},u.les l m=true->qw I g m xs->qw I (u.view g ds) l xs:=by
 intro l m xs h hm
 match l,m,xs with
 | [],[],[]=>trivial
 | a::l,b::m,x::xs=>
   simp only [Fix.les,Bool.and_eq_true] at h;exact ⟨Fix.sG hf h.1 hm.1,Fix.yS hf h.2 hm.2⟩
 | [],_::_,_=>simp [Fix.les] at h
 | _::_,[],_=>simp [Fix.les] at h
 | [],[],_::_=>simp [qw] at hm
 | _::_,_::_,[]=>simp [qw] at hm
end
theorem Fix.oo (hf:u.Fits I g ds) {X:Nat->Prop}:∀{p ts:qO} {xs:Array Value},u.leT p ts=true->wG I g X ts xs->wG I (u.view g ds) X p xs
 | [],ts,xs,_,_=>fun t v h=>by simp [get_nil] at h
 | (t0,v0)::p,ts,xs,h,ht=>by
   simp only [Fix.leT,Bool.and_eq_true] at h;obtain ⟨h1,h2⟩:=h;have ih:=Fix.oo hf h2 ht;intro t v hv hX;simp only [qQ] at hv;split at hv
   . rename_i he;subst he;simp at hv;subst hv;split at h1
     . rename_i w0 hw;obtain ⟨x,h3,h4⟩:=ht t0 w0 hw hX;exact ⟨x,h3,Fix.sG hf h1 h4⟩
     . cases h1
   . exact ih t v hv hX
theorem Fix.J2:∀{l m:List AV},u.NP l m=true->∀{i:Nat} {v:AV},l[i]?=some v->∃v',m[i]?=some v'/\u.le v v'=true
 | [],_,_,i,v,hv=>by simp at hv
 | _::_,[],hm,_,_,_=>by simp [Fix.NP] at hm
 | a::l,b::m,hm,i,v,hv=>by
   simp only [Fix.NP,Bool.and_eq_true] at hm;cases i with
   | zero=>simp at hv;subst hv;exact ⟨b,rfl,hm.1⟩
   | succ i=>simpa using Fix.J2 hm.2 (i:=i) (by simpa using hv)
theorem Fix.Xt:∀{l m:List AV},u.les l m=true->l.length=m.length/\∀{i:Nat} {v:AV},l[i]?=some v->∃v',m[i]?=some v'/\u.le v v'=true
 | [],[],_=>⟨rfl,fun hv=>by simp at hv⟩
 | [],_::_,hm=>by simp [Fix.les] at hm
 | _::_,[],hm=>by simp [Fix.les] at hm
 | a::l,b::m,hm=>by
   simp only [Fix.les,Bool.and_eq_true] at hm;obtain ⟨h1,h2⟩:=Fix.Xt hm.2;refine ⟨by simp [h1],fun {i v} hv=>?_⟩;cases i with
   | zero=>simp at hv;subst hv;exact ⟨b,rfl,hm.1⟩
   | succ i=>simpa using h2 (i:=i) (by simpa using hv)
theorem Fix.LX (hf:u.Fits I g ds) {b c:Nat} (hb:u.img b=some c) {H:Nat->Option Obj}:∀{x y:Blk},u.leB x y=true->jN I P g c H y->jN I P (u.view g ds) b H x:=by
 intro x y h hy;cases x with
 | cells l w=>
   cases y with
   | cells m w'=>
     simp only [Fix.leB,Bool.and_eq_true] at h;obtain ⟨hw,h⟩:=h;obtain ⟨p,cs,T,fr,h1,h2,h3,h4⟩:=hy;refine ⟨p,cs,T,fr,by rw [Fix.qU hb];exact h1,h2,fun i v hv=>?_,fun hw2=>h4 (by rw [hw2] at hw;simpa using hw)⟩;obtain ⟨v',h5,h6⟩:=Fix.J2 h hv;obtain ⟨x,h7,h8⟩:=h3 i v' h5;exact ⟨x,h7,Fix.sG hf h6 h8⟩
   | _=>simp [Fix.leB] at h
 | rows ks t n w nl=>
   cases y with
   | rows ks' t' n' w' nl'=>
     simp only [Fix.leB,Bool.and_eq_true,beq_iff_eq] at h;obtain ⟨⟨⟨⟨⟨rfl,ht⟩,hn⟩,hw⟩,hnl⟩,hk⟩:=h;obtain ⟨f,m,h1,h2,h3,h4⟩:=hy;refine ⟨f,m,Fix.zO hf (by simpa using ht) h1,Fix.zO hf (by simpa using hn) h2,h3,?_⟩;rw [List.length_map] at h4;rcases h4 with ⟨p,cs,T,fr,h4,h5,h6,h7⟩ | ⟨h4,h5,h6⟩
     . exact .inl ⟨p,cs,T,fr,by rw [Fix.qU hb];exact h4,h5,fun r j k a b=>CK.TI (List.all_eq_true.1 hk k (List.mem_of_getElem? b)) (h6 r j (u.ck k) a (by rw [List.getElem?_map,b];rfl)),fun hw2=>h7 (by rw [hw2] at hw;simpa using hw)⟩
     . exact .inr ⟨by rw [h4] at hnl;simpa using hnl,h5,by rw [Fix.qU hb];exact h6⟩
   | ovr ks' t' n' h' l' w' nl'=>
     simp only [Fix.leB,Bool.and_eq_true,beq_iff_eq,Bool.not_eq_true'] at h;obtain ⟨⟨⟨⟨⟨⟨rfl,ht⟩,hn⟩,rfl⟩,rfl⟩,hnl⟩,hk⟩:=h;obtain ⟨f,m,q,h1,h2,_,h3,h4⟩:=hy;refine ⟨f,m,Fix.zO hf (by simpa using ht) h1,Fix.zO hf (by simpa using hn) h2,h3,?_⟩;rw [List.length_map] at h4;rcases h4 with ⟨p,cs,T,fr,h4,h5,h6,_⟩ | ⟨h4,h5,h6⟩
     . exact .inl ⟨p,cs,T,fr,by rw [Fix.qU hb];exact h4,h5,fun r j k a b=>CK.TI (List.all_eq_true.1 hk k (List.mem_of_getElem? b)) (h6 r j (u.ck k) a (fun e=>by cases e) (by rw [List.getElem?_map,b];rfl)),fun hw2=>by cases hw2⟩
     . exact .inr ⟨by rw [h4] at hnl;simpa using hnl,h5,by rw [Fix.qU hb];exact h6⟩
   | _=>simp [Fix.leB] at h
 | ovr ks t n e l w nl=>
   cases y with
   | ovr ks' t' n' e' l' w' nl'=>
     simp only [Fix.leB,Bool.and_eq_true,beq_iff_eq] at h;obtain ⟨⟨⟨⟨⟨⟨⟨rfl,ht⟩,hn⟩,he⟩,hl⟩,rfl⟩,hnl⟩,hk⟩:=h;obtain ⟨f,m,q,h1,h2,h2',h3,h4⟩:=hy;obtain ⟨_,hget⟩:=Fix.Xt hl;refine ⟨f,m,q,Fix.zO hf (by simpa using ht) h1,Fix.zO hf (by simpa using hn) h2,Fix.zO hf (by simpa using he) h2',h3,?_⟩;rw [List.length_map] at h4;rcases h4 with ⟨p,cs,T,fr,h4,h5,h6,h6',h7⟩ | ⟨h4,h5,h6⟩
     . refine .inl ⟨p,cs,T,fr,by rw [Fix.qU hb];exact h4,h5,fun r j k a c b=>CK.TI (List.all_eq_true.1 hk k (List.mem_of_getElem? b)) (h6 r j (u.ck k) a c (by rw [List.getElem?_map,b];rfl)),fun a c j v hv=>?_,h7⟩;obtain ⟨v',h8,h9⟩:=hget hv;obtain ⟨x,h10,h11⟩:=h6' a c j v' h8;exact ⟨x,h10,Fix.sG hf h9 h11⟩
     . exact .inr ⟨by rw [h4] at hnl;simpa using hnl,h5,by rw [Fix.qU hb];exact h6⟩
   | _=>simp [Fix.leB] at h
 | big l ks t n m w=>
   cases y with
   | big l' ks' t' n' m' w'=>
     simp only [Fix.leB,Bool.and_eq_true,beq_iff_eq] at h;obtain ⟨⟨⟨⟨⟨⟨hl,rfl⟩,ht⟩,rfl⟩,hm⟩,hw⟩,hk⟩:=h;obtain ⟨p,cs,T,fr,f,h1,h2,h3,h4,h5,h6,h7⟩:=hy;obtain ⟨hlen,hget⟩:=Fix.Xt hl;refine ⟨p,cs,T,fr,f,by rw [Fix.qU hb];exact h1,h2,Fix.zO hf (by simpa using ht) h3,fun i v hv=>?_,by rw [hlen];exact fun r j k a b=>let ⟨y,c,d⟩:=h5 r j k a b;⟨y,c,CK.Ve (List.all_eq_true.1 hk k (List.mem_of_getElem? b)) d⟩,fun i v hv=>?_,fun hw2=>h7 (by rw [hw2] at hw;simpa using hw)⟩
     . obtain ⟨v',h8,h9⟩:=hget hv;obtain ⟨x,h10,h11⟩:=h4 i v' h8;exact ⟨x,h10,Fix.sG hf h9 h11⟩
     . obtain ⟨v',h8,h9⟩:=Fix.J2 hm hv;obtain ⟨x,h10,h11⟩:=h6 i v' h8;exact ⟨x,by rw [hlen];exact h10,Fix.sG hf h9 h11⟩
   | _=>simp [Fix.leB] at h
 | loop st p f ix nt ts d=>
   cases y with
   | loop st' p' f' ix' nt' ts' d'=>
     simp only [Fix.leB,Bool.and_eq_true,beq_iff_eq] at h;obtain ⟨⟨⟨⟨⟨⟨rfl,rfl⟩,rfl⟩,rfl⟩,rfl⟩,hts⟩,hd⟩:=h;obtain ⟨q,q',r,rf,h1,h2,h3,h4,h5,h6,h7,h8,h9,h10,h11,h12⟩:=hy;exact ⟨q,q',r,rf,by rw [Fix.qU hb];exact h1,by rw [Fix.qU hd];exact h2,h3,h4,h5,h6,h7,h8,h9,h10,h11,Fix.oo hf hts h12⟩
   | _=>simp [Fix.leB] at h
 | dfr x=>
   cases y with
   | dfr y=>
     simp only [Fix.leB,beq_iff_eq] at h;subst h;obtain ⟨p,h1,h2⟩:=hy;exact ⟨p,by rw [Fix.qU hb];exact h1,h2⟩
   | _=>simp [Fix.leB] at h
 | mp l m=>
   cases y with
   | mp l' m'=>
     simp only [Fix.leB,Bool.and_eq_true] at h;obtain ⟨p,es,c,h1,h2,h3,h4⟩:=hy;exact ⟨p,es,c,by rw [Fix.qU hb];exact h1,h2,Fix.yS hf h.1 h3,Fix.yS hf h.2 h4⟩
   | _=>simp [Fix.leB] at h
 | smp w one ks t n=>
   cases y with
   | smp w' one' ks' t' n'=>
     simp only [Fix.leB,Bool.and_eq_true,beq_iff_eq] at h;obtain ⟨⟨⟨⟨rfl,rfl⟩,rfl⟩,ht⟩,hn⟩:=h;obtain ⟨p,es,c,f,h1,h2,h3,h4,h5⟩:=hy;exact ⟨p,es,c,f,by rw [Fix.qU hb];exact h1,h2,Fix.zO hf (by simpa using ht) h3,Fix.zO hf (by simpa using hn) h4,h5⟩
   | mp l m=>
     match l,m with
     | [],[]=>
       simp only [Fix.leB,Bool.and_eq_true,beq_iff_eq,List.all_eq_true] at h;obtain ⟨⟨ht,hn⟩,hpl⟩:=h;obtain ⟨p,es,c,h1,h2,h3,h4⟩:=hy
       have h5:es.size=0:=by
         have:=h3.length;simpa using this.symm
       refine ⟨p,es,c,fun _ _=>0,by rw [Fix.qU hb];exact h1,h2,Fix.zO hf (p:=t) (f:=.zt) (by simpa using ht) rfl,Fix.zO hf (p:=n) (f:=.lit 0) (d:=.i (es.size:Nat)) (by simpa using hn) (by rw [h5];rfl),hpl,fun i e he=>?_⟩;have:=(Array.getElem?_eq_some_iff.1 he).1;omega
     | [],_::_=>simp [Fix.leB] at h
     | _::_,_=>simp [Fix.leB] at h
   | _=>simp [Fix.leB] at h
 | iter e q k=>
   cases y with
   | iter e' q' k'=>
     simp only [Fix.leB,Bool.and_eq_true,Bool.or_eq_true,beq_iff_eq] at h;obtain ⟨⟨he,hq⟩,hk⟩:=h;obtain ⟨p,n,m,h1,h2,h3,h4,h5,h6,h7⟩:=hy;refine ⟨p,n,m,by rw [Fix.qU hb];exact h1,h2,Fix.zO hf (by simpa using he) h3,Fix.zO hf (by simpa using hq) h4,h5,fun hk1=>h6 ?_,fun hk2=>h7 ?_⟩
     . rcases hk with hk | hk <;> omega
     . rcases hk with hk | hk <;> omega
   | _=>simp [Fix.leB] at h
 | bld t e d=>
   cases y with
   | bld t' e' d'=>
     simp only [Fix.leB,Bool.and_eq_true,beq_iff_eq] at h;obtain ⟨⟨rfl,he⟩,hd⟩:=h;obtain ⟨p,n,x,y,h1,h2,h3,h4,h5,h6⟩:=hy;exact ⟨p,n,x,y,by rw [Fix.qU hb];exact h1,h2,h3,Fix.zO hf (by simpa using he) h4,h5,h6.imp id fun ⟨q,a,z⟩=>⟨q,by rw [Fix.qU hd];exact a,z⟩⟩
   | _=>simp [Fix.leB] at h
 | byt t e=>
   cases y with
   | byt t' e'=>
     simp only [Fix.leB,Bool.and_eq_true,beq_iff_eq] at h;obtain ⟨rfl,he⟩:=h;obtain ⟨n,h1,h2⟩:=hy;exact ⟨n,Fix.zO hf (by simpa using he) h1,by rw [Fix.qU hb];exact h2⟩
   | _=>simp [Fix.leB] at h
 | fam ck t op=>
   cases y with
   | fam ck' t' op'=>
     match op,op',h,hy with
     | none,none,h,⟨p,es,cc,f,k,h1,h2,h3,h4,h5⟩=>
       simp only [Fix.leB,Bool.and_eq_true,beq_iff_eq] at h;obtain ⟨rfl,ht⟩:=h;have:k=none:=jO.fn h4 trivial;subst this;exact ⟨p,es,cc,f,none,by rw [Fix.qU hb];exact h1,h2,Fix.zO hf (by simpa using ht) h3,trivial,h5⟩
     | some e,some e',h,⟨p,es,cc,f,some k,h1,h2,h3,h4,h5⟩=>
       simp only [Fix.leB,Bool.and_eq_true,beq_iff_eq] at h;obtain ⟨⟨rfl,ht⟩,he⟩:=h;exact ⟨p,es,cc,f,some k,by rw [Fix.qU hb];exact h1,h2,Fix.zO hf (by simpa using ht) h3,Fix.zO hf (by simpa using he) h4,h5⟩
     | some _,some _,_,⟨_,_,_,_,none,_,_,_,h4,_⟩=>exact h4.elim
     | none,some _,h,_=>simp [Fix.leB] at h
     | some _,none,h,_=>simp [Fix.leB] at h
   | mp l m=>
     match l,m,op with
     | [],[],none=>
       simp only [Fix.leB,Bool.and_eq_true,beq_iff_eq] at h;obtain ⟨h,hpl⟩:=h;obtain ⟨p,es,cc,h1,h2,h3,h4⟩:=hy
       have h5:es.toList=[]:=by
         have:=h3.length;simpa using this.symm
       refine ⟨p,es,cc,fun _ _=>0,none,by rw [Fix.qU hb];exact h1,h2,Fix.zO hf (p:=t) (f:=.zt) (by simpa using h) rfl,trivial,?_⟩;rw [h5];exact ⟨hpl,fun e he=>by simp at he,fun κ _=>rfl,fun κ κ' o h6=>by obtain ⟨_,_,_,_,h7,_⟩:=h6;simp [kN] at h7⟩
     | [],[],some _=>simp [Fix.leB] at h
     | [],_::_,_=>simp [Fix.leB] at h
     | _::_,_,_=>simp [Fix.leB] at h
   | _=>simp [Fix.leB] at h
theorem Fix.qja (hf:u.Fits I g ds) {b c o:Nat} (hb:u.img b=some c) {H:Nat->Option Obj} {x y:Blk} (h:u.leB x y=true) (hy:jN I P g c H y) (hr:zV H I (u.view g ds) b x o):zV H I g c y o:=by
 cases x with
 | fam ck t op=>
   cases y with
   | fam ck' t' op'=>
     refine zV.turn hy (fun p hp=>by rw [Fix.qU hb] at hp;exact hp) (fun _ _=>rfl) (fun {k} hk=>?_) hr
     match op,op',k,h,hk with
     | none,none,none,_,_=>trivial
     | some e,some e',some k,h,hk=>
       simp only [Fix.leB,Bool.and_eq_true,beq_iff_eq] at h;exact Fix.zO hf (by simpa using h.2) hk
     | none,some _,_,h,_=>simp [Fix.leB] at h
     | some _,none,_,h,_=>simp [Fix.leB] at h
     | none,none,some _,_,hk=>exact hk.elim
     | some _,some _,none,_,hk=>exact hk.elim
   | mp l m=>
     match l,m,op with
     | [],[],none=>
       obtain ⟨p,es,cc,h1,h2,h3,h4⟩:=hy;obtain ⟨p',es',c',k,κ,k1,k2,k3,k4,off,n,cap,k5,_⟩:=hr;rw [Fix.qU hb,h1] at k1;cases k1;rw [h2] at k2;cases k2
       have h5:es.toList=[]:=by
         have:=h3.length;simpa using this.symm
       rw [h5] at k5;simp [kN] at k5
     | [],[],some _=>simp [Fix.leB] at h
     | [],_::_,_=>simp [Fix.leB] at h
     | _::_,_,_=>simp [Fix.leB] at h
   | _=>simp [Fix.leB] at h
 | _=>exact hr.elim
theorem Fix.J3 {x y:Blk} (h:u.leB x y=true) (hw:x.wr=true):y.wr=true:=by
 cases x <;> cases y <;> first | (simp [Fix.leB] at h;done) | rfl | (simp only [Fix.leB,Bool.and_eq_true,Blk.wr] at h hw ⊢;simp_all)
theorem Fix.yQ:∀{p M:Mem},u.leM p M=true->∀{b:Nat} {x:Blk},get p b=some x->
   (∃c y,u.img b=some c/\get M c=some y/\u.leB x y=true)\/
   (u.img b=none/\b<u.kb/\∃ks t n w,x=.rows ks t n w true/\u.e n=.lit 0/\u.e t=.zt)
 | [],M,_,b,x,h=>by simp [get_nil] at h
 | (b0,x0)::p,M,hm,b,x,h=>by
   simp only [Fix.leM,Bool.and_eq_true] at hm;simp only [qQ] at h;split at h
   . rename_i he;subst he;simp at h;subst h;have h1:=hm.1;split at h1
     . rename_i c hc;split at h1
       . rename_i y hy;exact .inl ⟨c,y,hc,hy,h1⟩
       . cases h1
     . rename_i hc;split at h1
       . rename_i ks t n w nl;simp only [Bool.and_eq_true,beq_iff_eq,decide_eq_true_eq] at h1;obtain ⟨⟨⟨h2,h3⟩,h4⟩,h5⟩:=h1;subst h2;exact .inr ⟨hc,h5,ks,t,n,w,rfl,h3,h4⟩
       . cases h1
   . exact Fix.yQ hm.2 h
theorem Fix.Kw:∀{p:Mem} {b c:Nat} {x:Blk},get p b=some x->u.img b=some c->c∈u.DL p
 | [],b,c,x,h,_=>by simp [get_nil] at h
 | (b0,x0)::p,b,c,x,h,hc=>by
   simp only [qQ] at h;simp only [Fix.DL];split at h
   . rename_i he;subst he;rw [hc];simp
   . have:=Fix.Kw h hc;split
     . simp [this]
     . exact this
theorem Fix.Ky:∀{p:Mem},nodup (u.DL p)=true->∀{b c d:Nat} {x y:Blk},get p b=some x->get p c=some y->u.img b=some d->u.img c=some d->b=c
 | [],_,b,c,d,x,y,h,_,_,_=>by simp [get_nil] at h
 | (b0,x0)::p,hn,b,c,d,x,y,hb,hc,hbd,hcd=>by
   simp only [Fix.DL] at hn;simp only [qQ] at hb hc;by_cases h1:b0=b
   . by_cases h2:b0=c
     . omega
     . rw [if_neg h2] at hc;subst h1;rw [hbd] at hn;simp only [nodup,Bool.and_eq_true] at hn;have:=Fix.Kw hc hcd;simp [this] at hn
   . rw [if_neg h1] at hb;by_cases h2:b0=c
     . subst h2;rw [hcd] at hn;simp only [nodup,Bool.and_eq_true] at hn;have:=Fix.Kw hb hbd;simp [this] at hn
     . rw [if_neg h2] at hc;refine Fix.Ky ?_ hb hc hbd hcd;split at hn
       . simp only [nodup,Bool.and_eq_true] at hn;exact hn.2
       . exact hn
theorem Fix.AQ (hf:u.Fits I g ds) {p:Mem} (hm:qX A I P g M w) (hle:u.leM p M=true) (hok:u.ok p=true):qX A I P (u.view g ds) p w:=by
 simp only [Fix.ok,VI,Bool.and_eq_true] at hok;refine ⟨Fix.Cv hf.kb,fun b x hx=>?_,fun b x hx=>?_,fun b c x y q r hx hy hwx hq hr e=>?_,fun b q hq=>?_,fun b x q hx hw hq=>?_,hm.size,hm.keep,hm.same,fun b x o hx hr=>?_,fun o cs hz=>?_⟩
 . rcases Fix.yQ hle hx with ⟨c,y,h1,h2,h3⟩ | ⟨h1,h2,ks,t,n,w',rfl,h3,h4⟩
   . exact Fix.LX hf h1 h3 (hm.blk c y h2)
   . have ht:=Fix.zO (p:=t) (f:=.zt) hf (by simp [h4]) rfl;have hn:=Fix.zO (p:=n) (f:=.lit 0) hf (by simp [h3]) rfl;exact ⟨_,0,ht,hn,Int.le_refl _,.inr ⟨rfl,rfl,by simp [Fix.view,h1]⟩⟩
 . rcases Fix.yQ hle hx with ⟨c,y,h1,_⟩ | ⟨_,h2,_⟩
   . exact Fix.XJ hf.kb h1
   . exact h2
 . rcases Fix.yQ hle hx with ⟨b',x',h1,h2,hxb⟩ | ⟨h1,_⟩
   . rcases Fix.yQ hle hy with ⟨c',y',h3,h4,_⟩ | ⟨h3,_⟩
     . rw [Fix.qU h1] at hq;rw [Fix.qU h3] at hr;have:=hm.inj b' c' x' y' q r h2 h4 (Fix.J3 hxb hwx) hq hr e;subst this;exact Fix.Ky hok.2 hx hy h1 h3
     . simp [Fix.view,h3] at hr
   . simp [Fix.view,h1] at hq
 . cases hi:u.img b with
   | none=>simp [Fix.view,hi] at hq
   | some c=>rw [Fix.qU hi] at hq;exact hm.bnd c q hq
 . rcases Fix.yQ hle hx with ⟨c,y,h1,h2,h3⟩ | ⟨h1,_⟩
   . rw [Fix.qU h1] at hq;exact hm.own c y q h2 (Fix.J3 h3 hw) hq
   . simp [Fix.view,h1] at hq
 . have back:∀b x,get p b=some x->zV (fun i=>w.heap[i]?) I (u.view g ds) b x o->∃c y,u.img b=some c/\get M c=some y/\zV (fun i=>w.heap[i]?) I g c y o:=fun b x hx hr=>by
     rcases Fix.yQ hle hx with ⟨c,y,h1,h2,h3⟩ | ⟨h1,h2,ks,t,n,w',rfl,h3,h4⟩
     . exact ⟨c,y,h1,h2,Fix.qja hf h1 h3 (hm.blk c y h2) hr⟩
     . exact hr.elim
   obtain ⟨c,y,h1,h2,h3⟩:=back b x hx hr;obtain ⟨h4,h5,h6,h7⟩:=hm.fam c y o h2 h3;refine ⟨h4,h5,fun d z q hz hq=>?_,fun d z hz hrz=>?_⟩
   . rcases Fix.yQ hle hz with ⟨e,y',h8,h9,_⟩ | ⟨h8,_⟩
     . rw [Fix.qU h8] at hq;exact h6 e y' q h9 hq
     . simp [Fix.view,h8] at hq
   . obtain ⟨e,y',h8,h9,h10⟩:=back d z hz hrz;have:=h7 e y' h9 h10;subst this;exact Fix.Ky hok.2 hz hx h8 h1
 . obtain ⟨h1,h2,h3,h4,h5⟩:=hm.frz o cs hz;refine ⟨h1,h2,h3,fun b x q hx hw hq=>?_,fun b x hx hr=>?_⟩
   . rcases Fix.yQ hle hx with ⟨c,y,k1,k2,k3⟩ | ⟨k1,_⟩
     . rw [Fix.qU k1] at hq;exact h4 c y q k2 (Fix.J3 k3 hw) hq
     . simp [Fix.view,k1] at hq
   . rcases Fix.yQ hle hx with ⟨c,y,k1,k2,k3⟩ | ⟨_,_,ks,t,n,w',rfl,_,_⟩
     . exact h5 c y k2 (Fix.qja hf k1 k3 (hm.blk c y k2) hr)
     . exact hr.elim
theorem Fix.Xc (hf:u.Fits I g ds):∀{l m:List DV} {xs:List Deferred},u.leD l m=true->gM I g m xs->gM I (u.view g ds) l xs
 | [],[],[],_,_=>trivial
 | .blk b::l,.blk c::m,x::xs,h,hm=>by
   simp only [Fix.leD,Bool.and_eq_true,beq_iff_eq] at h;obtain ⟨⟨p,h1,h2⟩,h3⟩:=hm;exact ⟨⟨p,by rw [Fix.qU h.1];exact h1,h2⟩,Fix.Xc hf h.2 h3⟩
 | .fn f l1 l2::l,.fn f' m1 m2::m,x::xs,h,hm=>by
   simp only [Fix.leD,Bool.and_eq_true,beq_iff_eq] at h;obtain ⟨⟨⟨rfl,h4⟩,h5⟩,h6⟩:=h;obtain ⟨⟨ms,cs,h1,h2,h2'⟩,h3⟩:=hm;exact ⟨⟨ms,cs,h1,Fix.yS hf h4 h2,Fix.yS hf h5 h2'⟩,Fix.Xc hf h6 h3⟩
 | .blk _::_,.fn .. :: _,_,h,_=>by simp [Fix.leD] at h
 | .fn .. :: _,.blk _::_,_,h,_=>by simp [Fix.leD] at h
 | [],_::_,_,h,_=>by simp [Fix.leD] at h
 | _::_,[],_,h,_=>by simp [Fix.leD] at h
 | [],[],_::_,_,h=>by simp [gM] at h
 | _::_,_::_,[],_,h=>by simp [gM] at h
theorem Fix.qk0 (hf:u.Fits I g ds) {h s:St} (hs:qW A I P X g s a w) (hle:u.leS h s=true) (hnv:h.nv=u.nv+ds.length) (hnb:h.nb=u.kb):qW A I P X (u.view g ds) h a w:=by
 simp only [Fix.leS,Bool.and_eq_true,beq_iff_eq] at hle;obtain ⟨⟨⟨⟨⟨_,h1⟩,h2⟩,h3⟩,h4⟩,h5⟩:=hle;refine ⟨Fix.AQ hf hs.m h4 h5,Fix.oo hf h3 hs.t,by rw [hs.nt,h1],Fix.Xc hf h2 hs.d,?_,by rw [hnb];rfl⟩;rw [hnv];have:=hf.nv;simp [Fix.view];omega
end
end Go.Sx
noncomputable section
namespace Go.Sx
open Go
variable {A:Amb} {I:Itp} {P:Program} {g:G} {X:Nat->Prop} {ts:qO} {a:Act} {M:Mem} {w:World}
theorem KJ {env ds:List D} {n:Nat} {σ:List E} (hσ:qg I env σ=some ds) (hn:n<=env.length):∀{l:List E} {xs:List D},qg I env (l.map (E.subst n σ))=some xs->qg I (env.take n++ds) l=some xs
 | [],xs,h=>h
 | e::l,xs,h=>by
   simp only [List.map_cons,qg] at h ⊢;split at h
   . rename_i d ds' h1 h2;rw [zF hσ hn h1,KJ hσ hn h2];exact h
   . cases h
theorem PE.zF {env ds:List D} {n:Nat} {σ:List E} (hσ:qg I env σ=some ds) (hn:n<=env.length):∀{p:PE},(p.subst n σ).den I env->p.den I (env.take n++ds)
 | .tt _,⟨m,h1,h2⟩=>⟨m,Sx.zF hσ hn h1,h2⟩
 | .ff _,h=>Sx.zF hσ hn h
 | .rng _ _,⟨m,h1,h2⟩=>⟨m,Sx.zF hσ hn h1,h2⟩
 | .same _ _,⟨d,h1,h2⟩=>⟨d,Sx.zF hσ hn h1,Sx.zF hσ hn h2⟩
 | .pr _ _,⟨xs,h1,h2⟩=>⟨xs,KJ hσ hn (by rw [<-bX (List.drop_zero).symm];exact h1),h2⟩
 | .sort true _,⟨f,h⟩=>⟨f,Sx.zF hσ hn h⟩
 | .sort false _,⟨m,h⟩=>⟨m,Sx.zF hσ hn h⟩
 | .col _ _ _ _,⟨f,h1,h2⟩=>⟨f,Sx.zF hσ hn h1,h2⟩
 | .agr _ _ _ _,⟨f,g,k,h1,h2,h3,h4⟩=>⟨f,g,k,Sx.zF hσ hn h1,Sx.zF hσ hn h2,Sx.zF hσ hn h3,h4⟩
 | .byt _ _,⟨f,k,h1,h2,h3⟩=>⟨f,k,Sx.zF hσ hn h1,Sx.zF hσ hn h2,h3⟩
theorem xK {env:List D}:∀{l:List Bool} {σ:List E},σ.length=l.length->(∀p∈gY l σ,p.den I env)->∃ds,qg I env σ=some ds/\Sorts l ds
 | [],[],_,_=>⟨[],rfl,trivial⟩
 | true::l,e::σ,hl,h=>by
   obtain ⟨f,hf⟩:=h (.sort true e) (by simp [gY]);obtain ⟨ds,h1,h2⟩:=xK (l:=l) (σ:=σ) (by simpa using hl) (fun p hp=>h p (by simp [gY,hp]));exact ⟨.t f::ds,by simp [qg,hf,h1],h2⟩
 | false::l,e::σ,hl,h=>by
   obtain ⟨n,hn⟩:=h (.sort false e) (by simp [gY]);obtain ⟨ds,h1,h2⟩:=xK (l:=l) (σ:=σ) (by simpa using hl) (fun p hp=>h p (by simp [gY,hp]));exact ⟨.i n::ds,by simp [qg,hn,h1],h2⟩
 | [],_::_,hl,_=>by simp at hl
 | true::_,[],hl,_=>by simp at hl
 | false::_,[],hl,_=>by simp at hl
theorem yF.wp {F:Fence} {n:Nat} {c:Code} {Q:Exit->Act->World->Prop} (h:yF F n P c Q a w):(Code.loop c).wpIn F n P Q a w:=by
 intro b k cs hro hb hr;obtain ⟨e,a',w',hq,harr⟩:=h b k cs hro hb hr;exact ⟨e,a',w',hq,.of_steps (.one (fenced_calm hb hr rfl) stepR_loop) harr⟩
theorem yF.round {F:Fence} {n:Nat} {c:Code} {Q:Exit->Act->World->Prop} (h:c.wpIn F n P (Exit.then (yF F n P c Q) Q) a w):yF F n P c Q a w:=by
 intro b k cs hro hb hr;obtain ⟨e,a₁,w₁,hq,harr⟩:=h b (.inLoop c::k) cs hro hb hr;cases e with
 | normal=>
   obtain ⟨e₂,a₂,w₂,hq₂,harr₂⟩:=hq b k cs hro hb hr;exact ⟨e₂,a₂,w₂,hq₂,.of_steps (StepsIn.trans harr (.one (fenced_calm hb hr rfl) stepR_inLoop)) harr₂⟩
 | exit id=>exact ⟨_,a₁,w₁,hq,.pass (x:=.inLoop c) rfl (fun _ _=>.inl (by simp)) harr⟩
 | goto l=>exact ⟨_,a₁,w₁,hq,.pass (x:=.inLoop c) rfl (fun _ _=>.inl (by simp)) harr⟩
 | ret=>exact ⟨_,a₁,w₁,hq,.pass (x:=.inLoop c) rfl (fun _ _=>.inl (by simp)) harr⟩
 | panic ch=>exact ⟨_,a₁,w₁,hq,.pass (x:=.inLoop c) rfl (fun _ _=>.inl (by simp)) harr⟩
 | outgrown=>exact ⟨_,a₁,w₁,hq,.pass (x:=.inLoop c) rfl (fun _ _=>.inl (by simp)) harr⟩
theorem yF.EF {F:Fence} {n:Nat} {c:Code} {Q:Exit->Act->World->Prop} (J:Nat->Act->World->Prop)
   (round:∀m a w,J m a w->c.wpIn F n P (Exit.then (fun a' w'=>(∃m',m'<m/\J m' a' w')\/yF F n P c Q a' w') Q) a w):∀m a w,J m a w->yF F n P c Q a w:=by
 intro m
 induction m using Nat.strongRecOn with
 | _ m ih=>
   intro a w hJ;refine yF.round (wpIn_mono (round m a w hJ) fun e a' w' h=>?_);cases e with
   | normal=>
     rcases h with ⟨m',h1,h2⟩ | h
     . exact ih m' h1 a' w' h2
     . exact h
   | _=>exact h
theorem nV {X:Nat->Prop}:∀{l:List AV} {xs:List Value} {s:St} {g:G},qW A I P X g s a w->qw I g l xs->
   ∃g':G,g.Le g'/\g'.env=g.env/\qW A I P X g' { s with mem:=(xW s.nb s.mem l).2.1,nb:=(xW s.nb s.mem l).1 } a w/\qw I g' (xW s.nb s.mem l).2.2 xs/\
     ∀b,b<s.nb->get (xW s.nb s.mem l).2.1 b=get s.mem b
 | [],xs,s,g,hs,hv=>⟨g,.refl _,rfl,hs,hv,fun _ _=>rfl⟩
 | v::l,[],s,g,hs,hv=>by simp [qw] at hv
 | v::l,x::xs,s,g,hs,hv=>by
   unfold xW;split
   . rename_i heq;cases heq
   . rename_i k ks e l' heq;cases heq;obtain ⟨p,h1,h2⟩:=Gj (by simp) hs.m hv.1;have h3:=hs.lay h1;rw [hs.nb] at h3 h2;obtain ⟨g',h4,h5,h6,h7,h8⟩:=nV (l:=l) h3 (hv.2.le (g.qH p) hs.m.wf);refine ⟨g',(g.qH p).trans h4,h5,h6,⟨h2.le h4 h3.m.wf,h7⟩,fun b hb=>?_⟩;have:=h8 b (by show b<s.nb+1;omega);dsimp only at this ⊢;rw [this,qQ,if_neg (by omega)]
   . rename_i v' l' hno heq;cases heq;obtain ⟨g',h1,h2,h3,h4,h5⟩:=nV (l:=l) hs hv.2;exact ⟨g',h1,h2,h3,⟨hv.1.le h1 hs.m.wf,h4⟩,h5⟩
theorem WY {X:Nat->Prop} {s s1:St} {b:Nat} {r:E} {ps:List PE} {x:Int} (hs:qW A I P X g s a w) (hr:r.den I g.env=some (.i x)) (h:Hl s b r=some (s1,ps)) (hp:∀q∈ps,q.den I g.env) :
   ∃g':G,g.Le g'/\g'.env=g.env/\qW A I P X g' s1 a w:=by
 unfold Hl at h;split at h
 . rename_i ks t n wr nl hb;split at h
   . rename_i l hl;simp only [Option.some.injEq,Prod.mk.injEq] at h;obtain ⟨rfl,rfl⟩:=h;obtain ⟨f,m,hf,hn,hm0,hrow⟩:=hs.m.blk b _ hb;obtain ⟨hx0,hxm⟩:=zH hr hn hp;rcases hrow with ⟨p,c,T,fr,hφ,hh,hcs,hwr⟩ | ⟨_,h0,_⟩
     case inr=>omega
     have hX:∀(j:Nat) (ck:CK),ks[j]?=some ck->ck.rel g (f x j) ((c[p.base+x.toNat*ks.length+j]?).getD Go.undef)/\c[p.base+x.toNat*ks.length+j]?=some ((c[p.base+x.toNat*ks.length+j]?).getD Go.undef):=fun j ck hj=>by
       have:=hcs x.toNat j ck (by omega) hj;rw [Int.toNat_of_nonneg hx0] at this;exact yL this
     obtain ⟨hll,xs,hrel,hxs⟩:=kZ hf hr _ (fun j ck hj=>(hX j ck hj).1) _ 0 hl;obtain ⟨g',h1,h2,h3,h4,h5⟩:=nV hs hrel;have hlt:=hs.m.lt b _ hb;have hb':get (xW s.nb s.mem l).2.1 b=some (.rows ks t n wr nl):=by rw [h5 b (by rw [<-hs.nb];exact hlt)];exact hb
     refine ⟨g',h1,h2,h3.mem (h3.m.turn hb' id rfl ?_)⟩;refine ⟨f,m,x,E.qE h1 hf,E.qE h1 hn,E.qE h1 hr,hm0,.inl ⟨p,c,T,fr,h1.some hs.m.wf hφ,hh,fun r' j k hr' _ hj=>CK.Zw h1 hs.m.wf (hcs r' j k hr' hj),fun _ _ j v hj=>?_,hwr⟩⟩;obtain ⟨y,h6,h7⟩:=h4.get hj;obtain ⟨ck,h8,h9⟩:=hxs j y h6;rw [Nat.zero_add] at h8 h9;exact ⟨y,by rw [h9];exact (hX j ck h8).2,h7⟩
   . cases h
 . cases h
theorem RU {cx:Cx} {fn:FuncId} {bid:Nat} {s s1:St} {ps:List PE} (hs:qW A I P (fun _=>False) g s a w) (h:O5 cx fn bid s=some (s1,ps)) (hp:∀q∈ps,q.den I g.env) :
   ∃g':G,g.Le g'/\g'.env=g.env/\qW A I P (fun _=>False) g' s1 a w:=by
 unfold O5 at h;split at h
 . split at h
   . rename_i b r z ht;obtain ⟨_,_,n,p,h1,_⟩:=hs.t _ _ ht (fun h=>h);exact WY hs h1 h hp
   . cases h
 . cases h
theorem mY {fn bid:Nat} {s s1:St} {ps:List PE} (hs:qW A I P (fun _=>False) g s a w) (hp:∀q∈ps,q.den I g.env):∀{l:List (FuncId × Nat × Nat × List CK)},XK s fn bid l=some (s1,ps)->
   ∃g':G,g.Le g'/\g'.env=g.env/\qW A I P (fun _=>False) g' s1 a w
 | [],h=>by simp [XK] at h
 | (f,b,t,ks)::l,h=>by
   simp only [XK] at h;split at h
   . split at h
     . rename_i c m z nl ht;split at h
       . rename_i cs hc;split at h
         . exact mY hs hp h
         . rename_i hcond;simp only [Bool.or_eq_true,not_or,Bool.not_eq_true,bne_eq_false_iff_eq,Bool.not_eq_false',decide_eq_true_eq,beq_eq_false_iff_ne,ne_eq] at hcond;obtain ⟨⟨⟨h2,h3⟩,h4⟩,h5⟩:=hcond;subst h2;split at h
           . rename_i r hr;cases h;obtain ⟨_,_,hz⟩:=hs.t _ _ ht (fun h=>h);obtain ⟨g',k1,k2,k3,_⟩:=Gc hs hc h4 (by omega) hz hr hp;exact ⟨g',k1,k2,k3⟩
           . exact mY hs hp h
       . exact mY hs hp h
     . exact mY hs hp h
   . exact mY hs hp h
theorem NM {e:E} {n:Int} (he:e.den I g.env=some (.i n)):∀{l:List AV} {i:Nat} {v:AV},(l.map (AV.Xp e n))[i]?=some v->∃u,l[i]?=some u/\∀x,Rel I g u x->Rel I g v x:=fun {l i v} h=>by
 rw [List.getElem?_map,Option.map_eq_some_iff] at h;obtain ⟨u,h1,rfl⟩:=h;exact ⟨u,h1,fun x hx=>Gg he hx⟩
theorem GQ {e:E} {n:Int} {b:Nat} {y:Blk}:∀{M:Mem},get (Gv e n M) b=some y->∃x,get M b=some x/\(y=x\/∃l w,x=.cells l w/\y=.cells (l.map (AV.Xp e n)) w)
 | [],h=>by simp [Gv,get_nil] at h
 | (c,x)::M,h=>by
   have step:∀{z:Blk},get ((c,z)::Gv e n M) b=some y->(z=x\/∃l w,x=.cells l w/\z=.cells (l.map (AV.Xp e n)) w)->∃x',get ((c,x)::M) b=some x'/\(y=x'\/∃l w,x'=.cells l w/\y=.cells (l.map (AV.Xp e n)) w):=fun {z} hz hc=>by
     rw [qQ] at hz ⊢;split at hz
     . rename_i hcb;simp only [Option.some.injEq] at hz;subst hz;rw [if_pos hcb];exact ⟨x,rfl,hc⟩
     . rename_i hcb;rw [if_neg hcb];exact GQ hz
   cases x with
   | cells l w=>exact step h (.inr ⟨l,w,rfl,rfl⟩)
   | _=>exact step h (.inl rfl)
theorem SY {e:E} {n:Int} (he:e.den I g.env=some (.i n)) (h:qX A I P g M w):qX A I P g (Gv e n M) w:=by
 have hold:∀{b y},get (Gv e n M) b=some y->∃x,get M b=some x/\(y.wr=true->x.wr=true)/\jN I P g b (fun i=>w.heap[i]?) y/\∀o,zV (fun i=>w.heap[i]?) I g b y o->y=x:=fun {b y} hy=>by
   obtain ⟨x,h1,h2⟩:=GQ hy;have hB:=h.blk b x h1;rcases h2 with rfl | ⟨l,wr,rfl,rfl⟩
   . exact ⟨_,h1,id,hB,fun _ _=>rfl⟩
   . obtain ⟨p,c,T,fr,k1,k2,k3,k4⟩:=hB
     exact ⟨_,h1,id,⟨p,c,T,fr,k1,k2,fun i v hv=>by
       obtain ⟨u,q1,q2⟩:=NM he hv;obtain ⟨x,q3,q4⟩:=k3 i u q1;exact ⟨x,q3,q2 x q4⟩,k4⟩,fun _ hr=>hr.elim⟩
 refine ⟨h.wf,fun d z hz=>?_,fun d z hz=>?_,fun d e z u q r hz hu hw hq hr he=>?_,h.bnd,fun d z q hz hw hq=>?_,h.size,h.keep,h.same,fun d z o hz hr=>?_,fun o cs hz=>?_⟩
 . exact (hold hz).choose_spec.2.2.1
 . obtain ⟨u,hu,_⟩:=hold hz;exact h.lt d u hu
 . obtain ⟨z',hz',hw',_⟩:=hold hz;obtain ⟨u',hu',_⟩:=hold hu;exact h.inj d e z' u' q r hz' hu' (hw' hw) hq hr he
 . obtain ⟨z',hz',hw',_⟩:=hold hz;exact h.own d z' q hz' (hw' hw) hq
 . obtain ⟨z',hz',_,_,hf⟩:=hold hz;have:=hf o hr;subst this;obtain ⟨h1,h2,h3,h4⟩:=h.fam d z o hz' hr;refine ⟨h1,h2,fun e u q he hq=>?_,fun e u he hre=>?_⟩
   . obtain ⟨u',hu',_⟩:=hold he;exact h3 e u' q hu' hq
   . obtain ⟨u',hu',_,_,hf'⟩:=hold he;have:=hf' o hre;subst this;exact h4 e u hu' hre
 . obtain ⟨h1,h2,h3,h4,h5⟩:=h.frz o cs hz;refine ⟨h1,h2,h3,fun d z q hz hw hq=>?_,fun d z hz hr=>?_⟩
   . obtain ⟨z',hz',hw',_⟩:=hold hz;exact h4 d z' q hz' (hw' hw) hq
   . obtain ⟨z',hz',_,_,hf⟩:=hold hz;have:=hf o hr;subst this;exact h5 d z hz' hr
theorem QV {X:Nat->Prop}:∀{l:List (E × Int)} {s:St},qW A I P X g s a w->(∀x∈l,x.1.den I g.env=some (.i x.2))->qW A I P X g (YR l s) a w
 | [],s,hs,_=>hs
 | (e,n)::l,s,hs,h=>by
   have he:=h (e,n) (by simp);exact QV (l:=l) ⟨SY he hs.m,Gx he hs.t,hs.nt,hs.d,hs.nv,hs.nb⟩ fun x hx=>h x (by simp [hx])
theorem Cz {a b:Int} (h:BO.and.ev a b≠0):a≠0/\b≠0:=by
 simp only [BO.ev] at h;split at h
 . assumption
 . exact absurd rfl h
theorem WT:∀{l:List (E × Int)} {c:E} {n:Int},(Gy l c).den I g.env=some (.i n)->n≠0->(∀x∈l,x.1.den I g.env=some (.i x.2))/\∃m,c.den I g.env=some (.i m)/\m≠0
 | [],c,n,h,hn=>⟨fun x hx=>by simp at hx,n,h,hn⟩
 | (e,k)::l,c,n,h,hn=>by
   simp only [Gy] at h
   have key:∀{a b:E} {o:BO} {z:Int},(mkBin o a b).den I g.env=some (.i z)->∃x y,a.den I g.env=some (.i x)/\b.den I g.env=some (.i y)/\z=o.ev x y:=by
     intro a b o z hz;unfold mkBin at hz;split at hz
     . simp [E.den] at hz;exact ⟨_,_,rfl,rfl,hz.symm⟩
     . simp only [E.den] at hz;split at hz
       . rename_i x y h1 h2;simp at hz;exact ⟨x,y,h1,h2,hz.symm⟩
       . cases hz
   obtain ⟨x,y,h1,h2,rfl⟩:=key h;obtain ⟨x1,y1,h3,h4,rfl⟩:=key h1;simp [E.den] at h4;subst h4;have hxy:=Cz hn
   have hx1:x1=k:=by
     by_cases hc:x1=k
     . exact hc
     . have:=hxy.1;simp [BO.ev,hc] at this
   subst hx1;obtain ⟨h5,h6⟩:=WT h2 hxy.2
   exact ⟨fun z hz=>by
     rcases List.mem_cons.1 hz with rfl | hz
     . exact h3
     . exact h5 z hz,h6⟩
structure FD (A:Amb) (I:Itp) (P:Program) (g:G) (an:Ann) (h:St) (m:Nat) (a:Act) (w:World):Prop where
 ex:∃(ds:List D) (gh:G),Sorts an.sorts ds/\gh.env=g.env++ds/\g.Le gh/\qW A I P (fun _=>False) gh h a w/\(∀p∈an.inv,p.den I gh.env)/\
   (∀z:Int,an.meas.den I gh.env=some (.i z)->z.toNat=m)
theorem WI {an:Ann} {s s1:St} {g1:G} (hg:g.Le g1) (hnv:g.env.length=s.nv) (hnb:g.nb=s.nb) {u:Fix} {a1:Act} {w1:World}
   (hu1:u.nv=s.nv) (hu2:u.nb=s.nb) (hu3:u.kb=s.nb+an.nbl) (hs1:qW A I P (fun _=>False) g1 s1 a1 w1) (hle:u.leS (an.head s) s1=true) (hlen:u.σ.length=an.sorts.length)
   (hps:∀p∈gY an.sorts u.σ++an.inv.map (PE.subst s.nv u.σ),p.den I g1.env) :
   ∃m,FD A I P g an (an.head s) m a1 w1/\(∀z:Int,(an.meas.subst s.nv u.σ).den I g1.env=some (.i z)->m=z.toNat):=by
 obtain ⟨ds,hds,hso⟩:=xK hlen (fun p hp=>hps p (by simp [hp]));obtain ⟨⟨xs,hxs⟩,qyU,EG,hgz⟩:=hg;have hfit:u.Fits I g1 ds:=⟨hds,by rw [hu1,hxs];simp;omega,by omega⟩;have htake:g1.env.take u.nv=g.env:=by rw [hu1,hxs,<-hnv,List.take_left'];rfl
 have hsr:=Fix.qk0 hfit hs1 hle (by simp [Ann.head,hu1,hso.length]) (by simp [Ann.head,hu3]);have Zf:(u.view g1 ds).env=g.env++ds:=by simp [Fix.view,htake]
 have hle':g.Le (u.view g1 ds):=⟨⟨ds,Zf⟩,by simp only [Fix.view];omega,fun b hb=>by
   have:u.img b=some b:=by unfold Fix.img;rw [if_pos (by omega)]
   rw [Fix.qU this,EG b hb],hgz⟩
 have hinv:∀p∈an.inv,p.den I (u.view g1 ds).env:=fun p hp=>by
   have:=PE.zF (n:=s.nv) hds (by rw [hxs];simp;omega) (hps (p.subst s.nv u.σ) (by simp;exact .inr ⟨p,hp,rfl⟩));rw [<-hu1] at this;simpa [Fix.view] using this
 refine ⟨match an.meas.den I (u.view g1 ds).env with | some (.i z)=>z.toNat | _=>0,⟨ds,u.view g1 ds,hso,Zf,hle',hsr,hinv,fun z hz=>by rw [hz]⟩,fun z hz=>?_⟩;have:=Sx.zF (n:=s.nv) hds (by rw [hxs];simp;omega) hz;rw [<-hu1] at this;have h2:an.meas.den I (u.view g1 ds).env=some (.i z):=by simpa [Fix.view] using this
 rw [h2]
theorem Gq {cx:Cx} {e:Eng} (hE:jh I cx e) (hG:GOk cx.kn.globs A) {an:Ann} {fn:FuncId} {rnd r:Option Nat} {bid o:Nat} {c:Code} {s:St} {k:Ex->St->Tree}
   (h:(JU cx e an fn rnd bid o c s k).vc I g.env) (hs:qW A I cx.P (fun _=>False) g s a w) (hr:pW g rnd r) (hc:COK cx.P fn o c) (n:Nat) :
   yF (FW r) n cx.P c (Post A I cx.P (fun _=>False) g k) a w:=by
 unfold JU at h;simp only at h;split at h
 . exact h.elim
 rename_i hcond;simp only [Bool.or_eq_true,Bool.not_eq_true',decide_eq_false_iff_not,not_or,Bool.not_eq_false,Decidable.not_not] at hcond;obtain ⟨hle,hlen⟩:=hcond;obtain ⟨hps,hbody⟩:=qB h;obtain ⟨m0,hJ0,_⟩:=WI (.refl g) hs.nv hs.nb rfl rfl rfl hs hle hlen hps;refine yF.EF (fun m a w=>FD A I cx.P g an (an.head s) m a w) (fun m a1 w1 hJ=>?_) m0 a w hJ0;obtain ⟨ds,gh,hso,Zf,D6,hsr,hinv,qjb⟩:=hJ.ex;have hb1:=lD hbody hso;rw [<-Zf] at hb1;have qy3:=pJ hb1 hinv;obtain ⟨hsort,hb2⟩:=qB qy3;obtain ⟨z0,hz0⟩:=hsort (.sort false an.meas) (by simp)
 -- a round, from the head or from the head with a row kept out
 have fin:∀{g1:G} {h1:St},gh.Le g1->qW A I cx.P (fun _=>False) g1 h1 a1 w1->(e.exec fn rnd bid o c h1 (fun x s1=>
     match x with
     | .normal=>
       let u1:=vM s.nv s.nb an.sorts.length an.nbl (an.head s) s1
       if !(u1.leS (an.head s) s1) || !(decide (u1.σ.length=an.sorts.length)) then (if an.leave then e.loop fn rnd bid o c s1 k else .fail 61) else
       qI (gY an.sorts u1.σ++an.inv.map (PE.subst s.nv u1.σ)) <|
         qI [.tt (mkBin .le (.lit 0) (an.meas.subst s.nv u1.σ)),.tt (mkBin .lt (an.meas.subst s.nv u1.σ) an.meas)] .ok
     | x=>k x s1)).vc I g1.env->c.wpIn (FW r) n cx.P (Exit.then (fun a' w'=>(∃m',m'<m/\FD A I cx.P g an (an.head s) m' a' w')\/yF (FW r) n cx.P c (Post A I cx.P (fun _=>False) g k) a' w') (Post A I cx.P (fun _=>False) g k)) a1 w1:=by
   intro g1 h1 hg1 qyW hb2;refine wpIn_mono (hE.exec hG hb2 qyW (hr.le (D6.trans hg1) hs.m.wf) hc n) fun ex a2 w2 hpost=>?_;obtain ⟨x,g2,s2,rfl,qyI,hs2,hv2⟩:=hpost;have hg2:=hg1.trans qyI;cases x with
   | normal=>
     simp only at hv2;split at hv2
     . split at hv2
       . have hl:=hE.loop hG hv2 hs2 (hr.le (D6.trans hg2) hs.m.wf) hc n;refine .inr fun b k' cs h1 h2 h3=>?_;obtain ⟨e',a',w',hq,harr⟩:=hl b k' cs h1 h2 h3;obtain ⟨x,g',s',q1,q2,q3⟩:=hq;exact ⟨e',a',w',⟨x,g',s',q1,(D6.trans hg2).trans q2,q3⟩,harr⟩
       . exact hv2.elim
     rename_i Td;simp only [Bool.or_eq_true,Bool.not_eq_true',decide_eq_false_iff_not,not_or,Bool.not_eq_false,Decidable.not_not] at Td;obtain ⟨hle2,qjd⟩:=Td;obtain ⟨qyH,hv3⟩:=qB hv2;obtain ⟨qjy,_⟩:=qB hv3;obtain ⟨m',hJ',hm'⟩:=WI (D6.trans hg2) hs.nv hs.nb rfl rfl rfl hs2 hle2 qjd qyH;refine .inl ⟨m',?_,hJ'⟩;have hp1:=qjy _ List.mem_cons_self;have hp2:=qjy _ (List.mem_cons_of_mem _ List.mem_cons_self);obtain ⟨z1,hz1,hz1'⟩:=hp1;obtain ⟨z2,hz2,hz2'⟩:=hp2
     have key:∀{a b:E} {o:BO} {z:Int},(mkBin o a b).den I g2.env=some (.i z)->∃x y,a.den I g2.env=some (.i x)/\b.den I g2.env=some (.i y)/\z=o.ev x y:=by
       intro a b o z hz;unfold mkBin at hz;split at hz
       . simp [E.den] at hz;exact ⟨_,_,rfl,rfl,hz.symm⟩
       . simp only [E.den] at hz;split at hz
         . rename_i x y h1 h2;simp at hz;exact ⟨x,y,h1,h2,hz.symm⟩
         . cases hz
     obtain ⟨x1,y1,h1,h2,rfl⟩:=key hz1;obtain ⟨x2,y2,h3,h4,rfl⟩:=key hz2;simp [E.den] at h1;subst h1;rw [h2] at h3;simp at h3;subst h3;have hm1:=hm' y1 h2
     have hle0:0<=y1:=by
       by_cases h:0<=y1
       . exact h
       . simp [BO.ev,h] at hz1'
     have hlt:y1<y2:=by
       by_cases h:y1<y2
       . exact h
       . simp [BO.ev,h] at hz2'
     rw [E.qE hg2 hz0] at h4;simp at h4;subst h4;have:=qjb z0 hz0;omega
   | ret=>exact ⟨.ret,g2,s2,rfl,D6.trans hg2,hs2,hv2⟩
   | exit id=>exact ⟨.exit id,g2,s2,rfl,D6.trans hg2,hs2,hv2⟩
   | goto l=>exact ⟨.goto l,g2,s2,rfl,D6.trans hg2,hs2,hv2⟩
 split at hb2
 . exact fin (.refl _) hsr hb2
 . rename_i t x b l hsp;split at hb2
   . rename_i kd y ht;split at hb2
     . rename_i h' ps EW;obtain ⟨qyX,hb2⟩:=qB hb2;obtain ⟨z,hz⟩:=qyX _ (List.mem_singleton.2 rfl);obtain ⟨h1,h2⟩:=hb2;obtain ⟨yv,hy1,yn,hy2,rfl⟩:=hsr.t t _ ht (fun h=>h);by_cases hz':z=0
       . subst hz';exact fin (.refl _) hsr (h2 hz)
       . obtain ⟨hl,q,hq,hq'⟩:=WT hz hz'
         have key:∀{a b:E} {o:BO} {z:Int},(mkBin o a b).den I gh.env=some (.i z)->∃x y,a.den I gh.env=some (.i x)/\b.den I gh.env=some (.i y)/\z=o.ev x y:=by
           intro a b o z hz;unfold mkBin at hz;split at hz
           . simp [E.den] at hz;exact ⟨_,_,rfl,rfl,hz.symm⟩
           . simp only [E.den] at hz;split at hz
             . rename_i x y h1 h2;simp at hz;exact ⟨x,y,h1,h2,hz.symm⟩
             . cases hz
         obtain ⟨q1,q2,hq1,hq2,rfl⟩:=key hq;obtain ⟨y1,x1,hy3,hx1,rfl⟩:=key hq1;rw [hy2] at hy3;cases hy3
         have hyx:yn=x1:=by
           by_cases hc:yn=x1
           . exact hc
           . have:=(Cz hq').1;simp [BO.ev,hc] at this
         subst hyx;have hs1:qW A I cx.P (fun _=>False) gh { an.head s with tmps:=vU t (.int kd x) (an.head s).tmps } a1 w1:=⟨hsr.m,iE hsr.t hy1 ⟨yn,hx1,rfl⟩,hsr.nt,hsr.d,hsr.nv,hsr.nb⟩;obtain ⟨hp,h3⟩:=qB (h1 z hz hz');obtain ⟨g',k1,k2,k3⟩:=WY (QV hs1 hl) hx1 EW hp;rw [<-k2] at h3;exact fin k1 k3 h3
     . exact hb2.elim
   . exact hb2.elim
end Go.Sx
end
