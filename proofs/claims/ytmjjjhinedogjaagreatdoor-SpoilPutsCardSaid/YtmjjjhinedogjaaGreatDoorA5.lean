/-
  The executor is sound: every step, and so the whole. Conditions: none.
-/
import Derived.Test.YtmjjjhinedogjaaGreatDoorA4
import Derived.RangeFuncNested
import Derived.ProofKit
import Derived.WideKeyArgs
import Derived.OpenShut
namespace Go.Sx
open Go
variable {A:Amb} {I:Itp} {P:Program} {g:G} {X:Nat->Prop} {ts:qO} {a:Act} {M:Mem} {w:World} {ops:Array Oper}
def Exit.LZ (Q:Exit->Act->World->Prop):Exit->Act->World->Prop
 | .goto _,_,_=>False
 | e,a,w=>Q e a w
theorem BD {F:Fence} {n:Nat} {P:Program} {Q:Exit->Act->World->Prop} {a:Act} {w:World} {c:Code} (h:c.wpIn F n P (Exit.LZ Q) a w):(Code.scope c).wpIn F n P Q a w:=by
 intro b k cs hro hb hr;have h0:(lone (b.atR a (.code (.scope c)::k)) cs w).fenced P F:=fenced_calm hb hr rfl;have hs:step P (lone (b.atR a (.code (.scope c)::k)) cs w)=.next (lone (b.atR a (.code c :: .inScope c::k)) cs w):=step_lone_go (by simp [stepG,stepG.exec,Frame.atR])
 have hi:∀(a:Act) (w:World),step P (lone (b.atR a (.inScope c::k)) cs w)=.next (lone (b.atR a k) cs w):=fun a w=>step_lone_go (by simp [stepG,stepG.exec,Frame.atR])
 obtain ⟨e,a₁,w₁,hq,harr⟩:=h b (.inScope c::k) cs hro hb hr;cases e with
 | normal=>exact ⟨.normal,a₁,w₁,hq,.head h0 hs (StepsIn.trans harr (.one (fenced_calm hb hr rfl) (hi a₁ w₁)))⟩
 | exit id'=>
   have hx:exitTo id' (.inScope c::k)=exitTo id' k:=by simp [exitTo]
   exact ⟨.exit id',a₁,w₁,hq,fun k' hk=>.head h0 hs (harr.1 k' (by rw [hx];exact hk)),
     fun hr' hk=>let ⟨k₁,h1,h2⟩:=harr.2 hr' (by rw [hx];exact hk);⟨k₁,h1,.head h0 hs h2⟩⟩
 | goto l=>exact hq.elim
 | ret=>exact ⟨_,a₁,w₁,hq,.of_steps (.one h0 hs) harr⟩
 | panic ch=>exact ⟨_,a₁,w₁,hq,.of_steps (.one h0 hs) harr⟩
 | outgrown=>exact ⟨_,a₁,w₁,hq,.of_steps (.one h0 hs) harr⟩
theorem Post.mono {g1:G} {k:Ex->St->Tree} (h:g.Le g1) {e:Exit} (hp:Post A I P X g1 k e a w):Post A I P X g k e a w:=by
 obtain ⟨x,g',s',h1,h2,h3⟩:=hp;exact ⟨x,g',s',h1,h.trans h2,h3⟩
theorem K6 {l:Nat} {pl:PB} {k:Ex->St->Tree} {r:Option Nat} {n:Nat} {g2:G} {a2:Act} {v:Value} {w3:World} (hle:g.Le g2) (hw2:g2.wf) (hl:g2.φ l=some pl)
   (h:aY A I P (fun _=>False) g2 a2 (fun _ s3=>Jd l k s3) v w3):rangePost (FW r) n P pl.blk (Post A I P (fun _=>False) g k) a2 (.returned v) w3:=by
 obtain ⟨av,g3,s3,hle3,_,hs3,hk⟩:=h;have hl3:=hle3.some hw2 hl;unfold Jd at hk;dsimp only at hk;split at hk
 rotate_left
 . exact hk.elim
 rename_i st j fn' ix' nt' ts' d' hg;split at hk
 . exact hk.elim
 rename_i hst;obtain ⟨p',q,rl,rf,hp',hq,hh,hrf,h1,h2,h3,h4,h5,h6,h7,h8⟩:=hs3.m.blk l _ hg;rw [hl3] at hp';cases hp';have hlt:=hs3.m.bnd l pl hl3
 have hm4:qX A I P g3 (put l (.loop .exhausted j fn' ix' nt' ts' d') s3.mem) (w3.putObj pl.blk (.loop { rl with state:=.exhausted })):=
   hs3.m.write hg rfl hl3 (by simp) (fun i hi=>World.putObj_heap_other hi) ⟨pl,q,_,rf,hl3,hq,World.putObj_heap_same hlt,hrf,rfl,h2,h3,h4,h5,h6,h7,h8⟩
 have hs4:qW A I P (fun _=>False) g3 { s3 with mem:=put l (.loop .exhausted j fn' ix' nt' ts' d') s3.mem } a2 (w3.putObj pl.blk (.loop { rl with state:=.exhausted })):=
   ⟨hm4,hs3.t,hs3.nt,hs3.d,hs3.nv,hs3.nb⟩
 refine ⟨_,_,run_endLoop hh (by rw [h1];exact hst),?_⟩;rw [h2] at hs4 ⊢;cases j with
 | none=>exact ⟨.normal,g3,{ s3 with mem:=put l (.loop .exhausted none fn' ix' nt' ts' d') s3.mem },rfl,hle.trans hle3,hs4,hk⟩
 | some j=>
   cases j with
   | ret=>exact wpIn_ret ⟨.ret,g3,{ s3 with mem:=put l (.loop .exhausted (some .ret) fn' ix' nt' ts' d') s3.mem },rfl,hle.trans hle3,hs4,hk⟩
   | exit id=>exact wpIn_exit ⟨.exit id,g3,{ s3 with mem:=put l (.loop .exhausted (some (.exit id)) fn' ix' nt' ts' d') s3.mem },rfl,hle.trans hle3,hs4,hk⟩
   | goto l=>exact hk.elim
theorem Jb {cx:Cx} {e:Eng} (hE:jh I cx e) (hG:GOk cx.kn.globs A) {fn:FuncId} {o gf:Nat} {cap:List AV} {d:Nat} {s1:St} {k:Ex->St->Tree} {g1:G} {a1:Act} {w1:World} {q:PB} {r:Option Nat} {n:Nat}
   {rf:RF} {rl:Loop} {cs:Array Value} (hrf:Jw cx.P fn o=some rf) (hle:g.Le g1) (hs:qW A I cx.P (fun _=>False) g1 s1 a1 w1) (hq:g1.φ d=some q) (h:(Za e fn o gf cap d s1 k).vc I g1.env)
   (hcap:qw I g1 cap cs.toList) (h1:rl.state=.ready) (h2:rl.pending=none) (h3:rl.params.toList=rf.params) (h4:rl.assign=rf.assign) (h5:rl.body=rf.body) (h6:rl.defers=q.blk) (h7:rl.tmps=a1.tmps) :
   (∃fn c,cx.P.funcs[gf]?=some fn/\fn.body=some c/\(fn.name == "runtime.NumGoroutine")=false)/\
   Calls cx.P gf (#[Value.func (.yield w1.heap.size) #[] #[]]++cs) (w1.alloc (.loop rl)) (rangePost (FW r) n cx.P w1.heap.size (Post A I cx.P (fun _=>False) g k) a1):=by
 unfold Za at h;let pl:PB:=⟨w1.heap.size,0,0⟩;have hle2:=g1.qH (some pl);have hl:(g1.lay (some pl)).φ s1.nb=some pl:=by simp [G.lay,hs.nb]
 have hq2:=hle2.some hs.m.wf hq
 have hm2:qX A I cx.P (g1.lay (some pl)) ((g1.nb,.loop .ready none fn o s1.nt s1.tmps d)::s1.mem) (w1.alloc (.loop rl)):=
   hs.m.alloc (fun _ _ h=>h) rfl ⟨pl,q,rl,rf,by simp [G.lay],hq2,heap_alloc_new w1 _,hrf,h1,h2,h3,h4,h5,h6,by rw [h7];exact hs.nt,by rw [h7];exact hs.t.le hle2 hs.m.wf⟩
 rw [hs.nb] at hm2;have hs2:qW A I cx.P (fun _=>False) (g1.lay (some pl)) (zm s1 (.loop .ready none fn o s1.nt s1.tmps d)) a1 (w1.alloc (.loop rl)):=hs.lay hm2
 have hargs:qw I (g1.lay (some pl)) ([.yld s1.nb]++cap) ([Value.func (.yield w1.heap.size) #[] #[]]++cs.toList):=
   qw.append ⟨⟨pl,hl,rfl⟩,trivial⟩ (hcap.le hle2 hs.m.wf)
 obtain ⟨h8,h9⟩:=hE.I6 (g:=g1.lay (some pl)) hG h hs2 hargs;refine ⟨h8,?_⟩;have e:(#[Value.func (.yield w1.heap.size) #[] #[]]++cs)=([Value.func (.yield w1.heap.size) #[] #[]]++cs.toList).toArray:=by simp
 rw [e];refine h9.mono fun e w' he=>?_;obtain ⟨v,rfl,hv⟩:=he;exact K6 (hle.trans hle2) hs2.m.wf hl hv
theorem RG {cx:Cx} {e:Eng} (hE:jh I cx e) (hG:GOk cx.kn.globs A) {fn:FuncId} {rnd r:Option Nat} {bid o:Nat} {f:Operand} {ps:Array Tmp} {ac bc:Code} {s:St} {k:Ex->St->Tree}
   (h:(yM cx e fn rnd bid o (.rangeFunc f ps ac bc) s k).vc I g.env) (hs:qW A I cx.P (fun _=>False) g s a w) (hr:pW g rnd r) (hc:COK cx.P fn o (.rangeFunc f ps ac bc)) (n:Nat) :
   (Code.rangeFunc f ps ac bc).wpIn (FW r) n cx.P (Post A I cx.P (fun _=>False) g k) a w:=by
 simp only [yM] at h;split at h
 rotate_left
 . exact h.elim
 rename_i gf cap hev
 have hrf:Jw cx.P fn o=some { params:=ps.toList,assign:=ac,body:=bc }:=by
   have:=hc 0 _ (by simp [rfs];rfl);simpa using this
 obtain ⟨cs,hx,hcap⟩:Rel I g (.func gf cap) (a.eval f):=zl hs.t hev fun _ _ h=>h
 have hres:∀(l:Nat) (w1:World),(resolve a.eval (rangeCall f l) 0).run cx.P w1=.ok { target:=.fn (.func gf) cs,args:=#[Value.func (.yield l) #[] #[]] } w1:=by
   intro l w1
   have e:resolve a.eval (rangeCall f l) 0=Deferred.ofValue (a.eval f) #[Value.func (.yield l) #[] #[]]:=by
     have e2:a.eval (.const (.func (.yield l) #[] #[]))=Value.func (.yield l) #[] #[]:=rfl;simp only [resolve,List.map_toArray,List.map_cons,List.map_nil,e2]
   rw [e,hx];simp [Deferred.ofValue]
 refine wpIn_rangeFunc fun fn' _=>?_;split at h
 . -- an outermost loop
   cases r with
   | some r=>exact hr.elim
   | none=>
   let q:PB:=⟨w.heap.size,0,0⟩;have hle1:=g.qH (some q)
   have hm1:qX A I cx.P (g.lay (some q)) ((g.nb,.dfr true)::s.mem) (w.alloc (.deferred (some []))):=
     hs.m.alloc (fun _ _ h=>h) rfl ⟨q,by simp [G.lay],heap_alloc_new w _⟩
   rw [hs.nb] at hm1
   have hs1:qW A I cx.P (fun _=>False) (g.lay (some q)) { zm s (.dfr true) with defers:=.blk s.nb::s.defers } { a with defers:=[{ target:=.collected w.heap.size,args:=#[] }]++a.defers } (w.alloc (.deferred (some []))):=
     ⟨hm1,hs.t.le hle1 hs.m.wf,hs.nt,⟨⟨q,by simp [G.lay,hs.nb],rfl⟩,hs.d.le hle1 hs.m.wf⟩,hs.nv,by simp [G.lay,zm,hs.nb]⟩
   obtain ⟨⟨fnn,c,h1,h2,h3⟩,h4⟩:=Jb (r:=none) (n:=n) (g:=g) (rl:={ state:=.ready,pending:=none,fn:=fn',tmps:=a.tmps,params:=ps,assign:=ac,body:=bc,defers:=w.heap.size })
     hE hG hrf hle1 hs1 (q:=q) (by simp [G.lay,hs.nb]) h (hcap.le hle1 hs.m.wf) rfl rfl rfl rfl rfl rfl rfl
   obtain ⟨W,hW⟩:∃W,(w.alloc (.deferred (some []))).alloc (.loop { state:=.ready,pending:=none,fn:=fn',tmps:=a.tmps,params:=ps,assign:=ac,body:=bc,defers:=w.heap.size })=W:=⟨_,rfl⟩;rw [hW] at h4;have e:(w.alloc (.deferred (some []))).heap.size=w.heap.size+1:=by simp
   rw [e] at h4;refine ⟨w.heap.size+1,[{ target:=.collected w.heap.size,args:=#[] }],W,_,W,gf,#[Value.func (.yield (w.heap.size+1)) #[] #[]]++cs,W,by rw [<-hW];exact run_enterLoop_outer _ _ _ _ _,hres _ _,fun _ _=>trivial,?_,fun h=>by simp [FW,Fence.wide] at h,?_⟩
   . have:=yh (w:=W) h1 h2 h3 (#[Value.func (.yield (w.heap.size+1)) #[] #[]]++cs);simpa [invoke] using this
   . rw [vY];exact h4
 . -- a loop within a round
   rename_i l0;cases r with
   | none=>exact hr.elim
   | some r=>
   obtain ⟨p0,hp0,rfl⟩:=hr;split at h
   rotate_left
   . exact h.elim
   rename_i d hg0;obtain ⟨p',q,rl0,rf0,hp',hq,hh,_,_,_,_,_,_,h6,_,_⟩:=hs.m.blk l0 _ hg0;rw [hp0] at hp';cases hp'
   obtain ⟨⟨fnn,c,h1,h2,h3⟩,h4⟩:=Jb (r:=some p0.blk) (n:=n) (g:=g) (rl:={ state:=.ready,pending:=none,fn:=fn',tmps:=a.tmps,params:=ps,assign:=ac,body:=bc,defers:=rl0.defers })
     hE hG hrf (.refl g) hs hq h hcap rfl rfl rfl rfl rfl h6 rfl
   obtain ⟨W,hW⟩:∃W,w.alloc (.loop { state:=.ready,pending:=none,fn:=fn',tmps:=a.tmps,params:=ps,assign:=ac,body:=bc,defers:=rl0.defers })=W:=⟨_,rfl⟩;rw [hW] at h4;refine ⟨w.heap.size,[],W,_,W,gf,#[Value.func (.yield w.heap.size) #[] #[]]++cs,W,by rw [<-hW];exact run_enterLoop_inner hh _ _ _ _ _,hres _ _,fun _ _=>trivial,?_,fun h=>by simp [FW,Fence.wide] at h,?_⟩
   . have:=yh (w:=W) h1 h2 h3 (#[Value.func (.yield w.heap.size) #[] #[]]++cs);simpa [invoke] using this
   . rw [vY];simpa using h4
theorem Fb {cx:Cx} {e:Eng} (hE:jh I cx e) (hG:GOk cx.kn.globs A) {fn:FuncId} {rnd r:Option Nat} {bid o:Nat} {c:Code} {s:St} {k:Ex->St->Tree}
   (h:(yM cx e fn rnd bid o c s k).vc I g.env) (hs:qW A I cx.P (fun _=>False) g s a w) (hr:pW g rnd r) (hc:COK cx.P fn o c) (n:Nat) :
   c.wpIn (FW r) n cx.P (Post A I cx.P (fun _=>False) g k) a w:=by
 cases c with
 | skip=>exact wpIn_skip ⟨.normal,g,s,rfl,.refl _,hs,h⟩
 | label l=>exact wpIn_label ⟨.normal,g,s,rfl,.refl _,hs,h⟩
 | ret=>exact wpIn_ret ⟨.ret,g,s,rfl,.refl _,hs,h⟩
 | exit id=>exact wpIn_exit ⟨.exit id,g,s,rfl,.refl _,hs,h⟩
 | seq x y=>
   simp only [yM] at h
   have hcx:COK cx.P fn o x:=fun i rf hi=>hc i rf (by
     simp only [rfs];rw [List.getElem?_append_left]
     . exact hi
     . rcases Nat.lt_or_ge i (rfs x).length with h | h
       . exact h
       . rw [List.getElem?_eq_none (by simpa using h)] at hi;cases hi)
   have hcy:COK cx.P fn (o+(rfs x).length) y:=fun i rf hi=>by
     have:=hc ((rfs x).length+i) rf (by
       simp only [rfs];rw [List.getElem?_append_right (by omega)];simpa using hi)
     rw [<-Nat.add_assoc] at this;exact this
   refine wpIn_seq (wpIn_mono (hE.exec hG h hs hr hcx n) fun ex a1 w1 hp=>?_);obtain ⟨x1,g1,s1,rfl,hle,hs1,hk⟩:=hp;cases x1 with
   | normal=>exact wpIn_mono (hE.exec hG hk hs1 (hr.le hle hs.m.wf) hcy n) fun ex a2 w2 hp=>hp.mono hle
   | ret=>exact ⟨.ret,g1,s1,rfl,hle,hs1,hk⟩
   | exit id=>exact ⟨.exit id,g1,s1,rfl,hle,hs1,hk⟩
   | goto l=>exact ⟨.goto l,g1,s1,rfl,hle,hs1,hk⟩
 | block id b=>
   simp only [yM] at h;refine wpIn_block (wpIn_mono (hE.exec hG h hs hr (fun i rf hi=>hc i rf (by simpa [rfs] using hi)) n) fun ex a1 w1 hp=>?_);obtain ⟨x1,g1,s1,rfl,hle,hs1,hk⟩:=hp;cases x1 with
   | normal=>exact ⟨.normal,g1,s1,rfl,hle,hs1,hk⟩
   | ret=>exact ⟨.ret,g1,s1,rfl,hle,hs1,hk⟩
   | exit id'=>
     dsimp only at hk;simp only [Ex.toX,Exit.inBlock];split at hk
     . rename_i he;rw [if_pos he];exact ⟨.normal,g1,s1,rfl,hle,hs1,hk⟩
     . rename_i he;rw [if_neg he];exact ⟨.exit id',g1,s1,rfl,hle,hs1,hk⟩
   | goto l=>exact ⟨.goto l,g1,s1,rfl,hle,hs1,hk⟩
 | scope b=>
   simp only [yM] at h;refine BD (wpIn_mono (hE.exec hG h hs hr (fun i rf hi=>hc i rf (by simpa [rfs] using hi)) n) fun ex a1 w1 hp=>?_);obtain ⟨x1,g1,s1,rfl,hle,hs1,hk⟩:=hp;cases x1 with
   | normal=>exact ⟨.normal,g1,s1,rfl,hle,hs1,hk⟩
   | ret=>exact ⟨.ret,g1,s1,rfl,hle,hs1,hk⟩
   | exit id'=>exact ⟨.exit id',g1,s1,rfl,hle,hs1,hk⟩
   | goto l=>exact hk.elim
 | cond c x y=>
   simp only [yM] at h
   have hcx:COK cx.P fn o x:=fun i rf hi=>hc i rf (by
     simp only [rfs];rw [List.getElem?_append_left]
     . exact hi
     . rcases Nat.lt_or_ge i (rfs x).length with h | h
       . exact h
       . rw [List.getElem?_eq_none (by simpa using h)] at hi;cases hi)
   have hcy:COK cx.P fn (o+(rfs x).length) y:=fun i rf hi=>by
     have:=hc ((rfs x).length+i) rf (by
       simp only [rfs];rw [List.getElem?_append_right (by omega)];simpa using hi)
     rw [<-Nat.add_assoc] at this;exact this
   split at h
   . rename_i m hev;obtain ⟨m',h1,h2⟩:Rel I g (.bool (.lit m)) (a.eval c):=zl hs.t hev fun _ _ h=>h;simp [E.den] at h1;subst h1;split at h
     . rename_i hm;subst hm;exact wpIn_cond_false (by simpa using h2) (hE.exec hG h hs hr hcy n)
     . rename_i hm;exact wpIn_cond_true (by simpa [hm] using h2) (hE.exec hG h hs hr hcx n)
   . rename_i q _ hev;obtain ⟨m,h1,h2⟩:Rel I g (.bool q) (a.eval c):=zl hs.t hev fun _ _ h=>h;obtain ⟨h3,h4⟩:=h;by_cases hm:m=0
     . subst hm;exact wpIn_cond_false (by simpa using h2) (hE.exec hG (h4 h1) hs hr hcy n)
     . exact wpIn_cond_true (by simpa [hm] using h2) (hE.exec hG (h3 m h1 hm) hs hr hcx n)
   . exact h.elim
 | loop b=>exact (hE.loop hG h hs hr (fun i rf hi=>hc i rf (by simpa [rfs] using hi)) n).wp
 | region id ops dr=>
   cases dr with
   | false=>
     simp only [yM] at h;split at h
     . exact h.elim
     rename_i hdf
     have hd:r=none\/∀(i:Nat) (o:Oper),ops[i]?=some o->bQ o.op=false:=by
       cases rnd with
       | none=>cases r with
         | none=>exact .inl rfl
         | some _=>exact hr.elim
       | some b=>
         right;intro i o ho;simp only [Option.isSome_some,Bool.true_and,Bool.not_eq_true] at hdf;rw [Array.any_eq_false'] at hdf;cases hb:bQ o.op with
         | false=>rfl
         | true=>exact absurd hb (hdf o (Array.mem_of_getElem? ho))
     exact wpIn_region (aL hE hG hd hs h fun g' a' w' hle hn=>by
       obtain ⟨g2,s2,h1,h2,h3⟩:=hn;exact ⟨.normal,g2,s2,rfl,hle.trans h1,h2,h3⟩)
   | true=>
     simp only [yM] at h;split at h
     rotate_left
     . exact h.elim
     rename_i hcond;simp only [Bool.and_eq_true] at hcond;have hD:=GA hcond.1;have hs':qW A I cx.P (fun _=>False) g s a { w with drawn:=w.drawn+1 }:=⟨hs.m.lG rfl,hs.t,hs.nt,hs.d,hs.nv,hs.nb⟩;refine wpIn_region_any hcond.2 ?_;refine Pv hE hG hD (g0:=g) (k:=fun s'=>k .normal s') (fun g' s' a' w' h1 h2 h3=>⟨.normal,g',s',rfl,h1,h2,h3⟩) ops.size _ g _ _ a _ (List.range ops.size) (.refl g) h ?_ (fun i b x hm=>by simp at hm) (by simp) (fun i hi _=>by simpa using hi);refine ⟨hs'.weaken fun t h=>h.elim,by simp,fun i hi=>?_,fun i hi=>absurd hi Ns.oq,fun i o hi=>absurd hi Ns.oq,fun i b x hm=>by simp at hm,rfl,rfl,fun i b x o hm=>by simp at hm,fun i hi=>absurd hi Ns.oq,fun c b hc=>by simp [Fj] at hc,fun i hi=>absurd hi Ns.oq,fun i hi=>?_⟩
     . exfalso;simp only [Array.getD_eq_getD_getElem?,Array.getElem?_replicate] at hi;split at hi <;> simp at hi
     . exfalso;simp only [Array.getD_eq_getD_getElem?,Array.getElem?_replicate] at hi;split at hi <;> simp at hi
 | rangeFunc f ps x y=>exact RG hE hG h hs hr hc n
 | _=>exact h.elim
theorem DF {cx:Cx} {e:Eng} (hE:jh I cx e) (hG:GOk cx.kn.globs A) {fn:FuncId} {rnd r:Option Nat} {bid o:Nat} {c:Code} {s:St} {k:Ex->St->Tree}
   (h:(JL cx e fn rnd bid o c s k).vc I g.env) (hs:qW A I cx.P (fun _=>False) g s a w) (hr:pW g rnd r) (hc:COK cx.P fn o c) (n:Nat) :
   yF (FW r) n cx.P c (Post A I cx.P (fun _=>False) g k) a w:=by
 unfold JL at h
 have again:∀{s1:St} {ps:List PE} {g1:G},g.Le g1->qW A I cx.P (fun _=>False) g1 s1 a w->(e.loop fn rnd bid o c s1 k).vc I g1.env->yF (FW r) n cx.P c (Post A I cx.P (fun _=>False) g k) a w:=fun {s1 ps g1} hle hs1 hv b k' cs h1 h2 h3=>by
   obtain ⟨e',a',w',hq,harr⟩:=hE.loop hG hv hs1 (hr.le hle hs.m.wf) hc n b k' cs h1 h2 h3;exact ⟨e',a',w',hq.mono hle,harr⟩
 split at h
 . rename_i s1 ps EW;obtain ⟨hp,hv⟩:=qB h;obtain ⟨g1,k1,k2,k3⟩:=RU hs EW hp;exact again (ps:=ps) k1 k3 (by rw [k2];exact hv)
 split at h
 . rename_i s1 ps qyL;obtain ⟨hp,hv⟩:=qB h;obtain ⟨g1,k1,k2,k3⟩:=mY hs hp qyL;exact again (ps:=ps) k1 k3 (by rw [k2];exact hv)
 split at h
 . exact Gq hE hG h hs hr hc n
 split at h
 . exact h.elim
 . refine yF.round (wpIn_mono (hE.exec hG h hs hr hc n) fun ex a1 w1 hp=>?_);obtain ⟨x1,g1,s1,rfl,hle,hs1,hk⟩:=hp;cases x1 with
   | normal=>
     have hs1:qW A I cx.P (fun _=>False) g1 { s1 with tmps:=oZ s.tmps s1.tmps,mem:=gcR s.nb { s1 with tmps:=oZ s.tmps s1.tmps } } a1 w1:={ hs1 with t:=fun t v h1 h2=>hs1.t t v (Qx h1) h2,m:=hs1.m.sub fun b y hb=>Uy (s:={ s1 with tmps:=oZ s.tmps s1.tmps }) hb };have:=hE.loop hG hk hs1 (hr.le hle hs.m.wf) hc n;intro b k' cs h1 h2 h3;obtain ⟨e',a',w',hq,harr⟩:=this b k' cs h1 h2 h3;exact ⟨e',a',w',hq.mono hle,harr⟩
   | ret=>exact ⟨.ret,g1,s1,rfl,hle,hs1,hk⟩
   | exit id=>exact ⟨.exit id,g1,s1,rfl,hle,hs1,hk⟩
   | goto l=>exact ⟨.goto l,g1,s1,rfl,hle,hs1,hk⟩
theorem Yk {cx:Cx} (hC:∀c∈cx.cs,COk I cx.P cx.kn.globs c):∀n,jh I cx (eng cx n)
 | 0=>⟨fun _ h=>h.elim,fun _ h=>h.elim,fun _ h=>h.elim,fun _ h=>h.elim⟩
 | n+1=>
   have hE:=Yk hC n
   ⟨fun hG h hs hr hc=>Fb hE hG h hs hr hc,fun hG h hs hr hc=>DF hE hG h hs hr hc,fun hG h hs hf ha=>Bg hE hG hC h hs hf ha,fun hG h hs ha=>gQ hE hG hC h hs ha⟩
end Go.Sx
namespace Go.Sx
open Go
variable {A:Amb} {I:Itp} {P:Program} {g:G} {X:Nat->Prop} {ts:qO} {a:Act} {M:Mem} {w:World} {ops:Array Oper}
theorem uY {c:Contract} {v:AV} {s:St} {g2:G} {x:Value} {w':World} (hso:Sorts c.sorts g.env) (hnb:g.nb=c.nb) (hle:g.Le g2) (h:(ZX c v s).vc I g2.env)
   (hm:qX A I P g2 s.mem w') (hv:Rel I g2 v x) :
   ∃outs g',Sorts c.outs outs/\g'.env=g.env++outs/\g'.nb=c.nb+c.fresh.length/\(∀b,b<c.nb->g'.φ b=g.φ b)/\(∀o cs,g.fz o=some cs->g'.fz o=some cs)/\Rel I g' c.res x/\qX A I P g' (c.mods++c.fresh) w'/\∀p∈c.post,p.den I g'.env:=by
 unfold ZX at h;simp only at h;split at h
 . exact h.elim
 rename_i hcond;simp only [Bool.or_eq_true,Bool.not_eq_true',decide_eq_false_iff_not,not_or,Bool.not_eq_false,Decidable.not_not] at hcond;obtain ⟨hle',hlen⟩:=hcond;generalize hu:vM c.sorts.length c.nb c.outs.length c.fresh.length { tmps:=[(0,c.res)],nt:=0,defers:=[],mem:=c.mods++c.fresh,nv:=c.sorts.length,nb:=c.nb } { tmps:=[(0,v)],nt:=0,defers:=[],mem:=s.mem,nv:=c.sorts.length,nb:=c.nb }=u at *;have hu1:u.nv=c.sorts.length:=by rw [<-hu];rfl
 have hu2:u.nb=c.nb:=by rw [<-hu];rfl
 have hu3:u.kb=c.nb+c.fresh.length:=by rw [<-hu];rfl
 obtain ⟨hps,_⟩:=qB h;obtain ⟨ds,hds,qyA⟩:=xK hlen (fun p hp=>hps p (by simp [hp]));obtain ⟨⟨xs,hxs⟩,qyU,EG,hgz⟩:=hle;have hnv:=hso.length;have hfit:u.Fits I g2 ds:=⟨hds,by rw [hu1,hxs];simp;omega,by omega⟩;have htake:g2.env.take u.nv=g.env:=by rw [hu1,hxs,<-hnv,List.take_left'];rfl
 simp only [Fix.leS,Bool.and_eq_true,beq_iff_eq] at hle';obtain ⟨⟨⟨⟨_,_⟩,hleT⟩,NU⟩,hok⟩:=hle';have Zf:(u.view g2 ds).env=g.env++ds:=by simp [Fix.view,htake]
 refine ⟨ds,u.view g2 ds,qyA,Zf,by simp [Fix.view,hu3],fun b hb=>?_,hgz,?_,Fix.AQ hfit hm NU hok,fun p hp=>?_⟩
 . have:u.img b=some b:=by unfold Fix.img;rw [if_pos (by omega)]
   rw [Fix.qU this,EG b (by omega)]
 . have h0:wG I g2 (fun _=>False) [(0,v)] #[x]:=fun t v' hv' _=>by
     simp only [qQ] at hv';split at hv'
     . rename_i he;subst he;simp at hv';subst hv';exact ⟨_,rfl,hv⟩
     . cases hv'
   obtain ⟨y,hy,hr⟩:=Fix.oo hfit hleT h0 0 c.res (by simp [qQ]) (fun h=>h);simp at hy;subst hy;exact hr
 . have:=PE.zF (n:=c.sorts.length) hds (by rw [hxs];simp;omega) (hps (p.subst c.sorts.length u.σ) (by simp;exact .inr ⟨p,hp,rfl⟩));rw [<-hu1] at this;simpa [Fix.view] using this
theorem IZ {env:List D} {a b:E} (h:(PE.tt (mkBin .le a b)).den I env):∃x y,a.den I env=some (.i x)/\b.den I env=some (.i y)/\x<=y:=by
 obtain ⟨z,h1,h2⟩:=h;unfold mkBin at h1;split at h1
 . rename_i x y;refine ⟨x,y,rfl,rfl,?_⟩;simp only [E.den,Option.some.injEq,D.i.injEq,BO.ev] at h1;by_cases hxy:x<=y
   . exact hxy
   . simp [hxy] at h1;omega
 . simp only [E.den] at h1;split at h1
   . rename_i x y hx hy;refine ⟨x,y,hx,hy,?_⟩;simp only [Option.some.injEq,D.i.injEq,BO.ev] at h1;by_cases hxy:x<=y
     . exact hxy
     . simp [hxy] at h1;omega
   . cases h1
theorem qX.weak {b:Nat} {x y:Blk} (h:qX A I P g M w) (hb:get M b=some x) (hy:jN I P g b (fun i=>w.heap[i]?) y) (hw:y.wr=x.wr) (hnf:y.wF=false:=by rfl):qX A I P g (put b y M) w where
 wf:=h.wf
 blk:=fun c z hc=>by
   rw [get_put] at hc;split at hc
   . rename_i e;subst e;cases hc;exact hy
   . exact h.blk c z hc
 lt:=fun c z hc=>by
   rw [get_put] at hc;split at hc
   . rename_i e;subst e;exact h.lt b x hb
   . exact h.lt c z hc
 inj:=fun c d z z' p q hc hd hz hp hq e=>by
   rw [get_put] at hc hd
   have h1:∃z,get M c=some z/\z.wr=true:=by
     split at hc
     . rename_i e;subst e;cases hc;exact ⟨x,hb,hw ▸ hz⟩
     . exact ⟨z,hc,hz⟩
   have h2:∃z,get M d=some z:=by
     split at hd
     . rename_i e;subst e;exact ⟨x,hb⟩
     . exact ⟨z',hd⟩
   obtain ⟨z1,h1,h1w⟩:=h1;obtain ⟨z2,h2⟩:=h2;exact h.inj c d z1 z2 p q h1 h2 h1w hp hq e
 bnd:=h.bnd
 own:=fun c z p hc hz hp=>by
   rw [get_put] at hc;split at hc
   . rename_i e;subst e;cases hc;exact h.own b x p hb (hw ▸ hz) hp
   . exact h.own c z p hc hz hp
 size:=h.size
 keep:=h.keep
 same:=h.same
 fam:=fun c z o hc hr=>by
   have key:∀c z,get (put b y M) c=some z->zV (fun i=>w.heap[i]?) I g c z o->get M c=some z:=fun c z hc hr=>by
     rw [get_put] at hc;split at hc
     . cases hc;rw [hr.fam] at hnf;cases hnf
     . exact hc
   obtain ⟨h1,h2,h3,h4⟩:=h.fam c z o (key c z hc hr) hr;refine ⟨h1,h2,fun d u q hd hq=>?_,fun d u hd hru=>h4 d u (key d u hd hru) hru⟩;rw [get_put] at hd;split at hd
   . rename_i e;subst e;exact h3 b x q hb hq
   . exact h3 d u q hd hq
 frz:=fun o cs hz=>by
   obtain ⟨h1,h2,h3,h4,h5⟩:=h.frz o cs hz;refine ⟨h1,h2,h3,fun d u q hd hwu hq=>?_,fun d u hd hr=>?_⟩
   . rw [get_put] at hd;split at hd
     . rename_i e;subst e;cases hd;exact h4 b x q hb (hw ▸ hwu) hq
     . exact h4 d u q hd hwu hq
   . rw [get_put] at hd;split at hd
     . cases hd;rw [hr.fam] at hnf;cases hnf
     . exact h5 d u hd hr
theorem aM {u:Fix}:∀{l M:Mem},qX A I P g M w->(∀p∈(Wd u l M).2,p.den I g.env)->qX A I P g (Wd u l M).1 w
 | [],_,hm,_=>hm
 | x::l,M,hm,hp=>by
   simp only [Wd] at hp ⊢;split
   . rename_i c y ps ht;rw [ht] at hp;simp only [List.mem_append] at hp;refine aM ?_ fun p h=>hp p (.inr h);unfold UO at ht;split at ht
     . split at ht
       . split at ht
         . rename_i ks t n' wr nl hg;split at ht
           . split at ht
             . cases ht
             . split at ht
               . rename_i row;simp only [Option.some.injEq,Prod.mk.injEq] at ht;obtain ⟨rfl,rfl,rfl⟩:=ht;refine hm.weak hg ?_ rfl;obtain ⟨f1,f2,k0,e1,e2,e3,e4⟩:=hp _ (.inl List.mem_cons_self);obtain ⟨f,N,k1,k2,k3,k4⟩:=hm.blk _ _ hg;rw [k1] at e2;cases e2;rw [k2] at e3;cases e3;refine ⟨f1,_,e1,k2,k3,?_⟩;rcases k4 with ⟨p,cs,T,fr,q1,q2,q3,q4⟩ | ⟨q1,q2,q3⟩
                 . exact .inl ⟨p,cs,T,fr,q1,q2,fun r j k hr hj=>by
                     rw [e4 r j (by omega) (by omega) (List.getElem?_eq_some_iff.1 hj).1];exact q3 r j k hr hj,q4⟩
                 . exact .inr ⟨q1,q2,q3⟩
               . cases ht
           . simp only [Option.some.injEq,Prod.mk.injEq] at ht;obtain ⟨rfl,rfl,rfl⟩:=ht;refine hm.weak hg ?_ rfl;obtain ⟨z,a,h1,h2,h3⟩:=IZ (hp _ (.inl List.mem_cons_self));obtain ⟨a',m,h4,h5,h6⟩:=IZ (hp _ (.inl (List.mem_cons_of_mem _ List.mem_cons_self)));simp only [E.den,Option.some.injEq,D.i.injEq] at h1;subst h1;rw [h4] at h2;cases h2;obtain ⟨f,N,k1,k2,k3,k4⟩:=hm.blk _ _ hg;rw [k2] at h5;cases h5;refine ⟨f,a,k1,h4,h3,?_⟩;rcases k4 with ⟨p,cs,T,fr,q1,q2,q3,q4⟩ | ⟨q1,q2,q3⟩
             . exact .inl ⟨p,cs,T,fr,q1,q2,fun r j k hr hj=>q3 r j k (by omega) hj,fun hw=>by
                 obtain ⟨e1,e2,e3⟩:=q4 hw;exact ⟨e1,e2,Nat.le_trans (Nat.mul_le_mul_right _ (by omega)) e3⟩⟩
             . exact .inr ⟨q1,by omega,q3⟩
         . cases ht
       . cases ht
     . split at ht
       . split at ht
         . rename_i l ks t n m wr hg;split at ht
           . cases ht
           . split at ht
             . cases ht
             . simp only [Option.some.injEq,Prod.mk.injEq] at ht;obtain ⟨rfl,rfl,rfl⟩:=ht;refine hm.weak hg ?_ rfl;obtain ⟨f1,f2,k0,e1,e2,e3,e4⟩:=hp _ (.inl List.mem_cons_self);obtain ⟨p,cs,T,fr,f,q1,q2,q3,q4,q5,q6,q7⟩:=hm.blk _ _ hg;rw [q3] at e2;cases e2;simp only [E.den,Option.some.injEq,D.i.injEq] at e3;subst e3
               exact ⟨p,cs,T,fr,f1,q1,q2,e1,q4,fun r j k hr hj=>by
                 rw [e4 r j (by omega) (by omega) (List.getElem?_eq_some_iff.1 hj).1];exact q5 r j k hr hj,q6,q7⟩
         . cases ht
       . cases ht
     . cases ht
   . rename_i ht;rw [ht] at hp;exact aM hm hp
theorem XM {c:Contract} {v:AV} {s:St} {g2:G} {x:Value} {w':World} (hso:Sorts c.sorts g.env) (hnb:g.nb=c.nb) (hle:g.Le g2) (h:(finish c v s).vc I g2.env)
   (hm:qX A I P g2 s.mem w') (hv:Rel I g2 v x) :
   ∃outs g',Sorts c.outs outs/\g'.env=g.env++outs/\g'.nb=c.nb+c.fresh.length/\(∀b,b<c.nb->g'.φ b=g.φ b)/\(∀o cs,g.fz o=some cs->g'.fz o=some cs)/\Rel I g' c.res x/\qX A I P g' (c.mods++c.fresh) w'/\∀p∈c.post,p.den I g'.env:=by
 unfold finish at h;dsimp only at h;split at h
 . exact uY hso hnb hle h hm hv
 . rename_i M p ps hr;obtain ⟨hp,h'⟩:=qB h;have e1:=congrArg Prod.fst hr;have e2:=congrArg Prod.snd hr;dsimp only at e1 e2;rw [<-e2] at hp;rw [<-e1] at h';exact uY hso hnb hle h' (aM hm hp) hv
theorem Nq {X:Nat->Prop} {s s1:St} {b:Nat} {ps:List PE} (hs:qW A I P X g s a w) (h:PL s b=some (s1,ps)) (hp:∀q∈ps,q.den I g.env) :
   ∃g':G,g.Le g'/\g'.env=g.env/\qW A I P X g' s1 a w:=by
 unfold PL at h;split at h
 . rename_i ks t n hE l nl hb;dsimp only at h;split at h
   . rename_i t' ks1 t1 n1 h1 l1 nl1 hu hstill;split at h
     . rename_i hll;simp only [Option.some.injEq,Prod.mk.injEq] at h;obtain ⟨rfl,rfl⟩:=h;obtain ⟨f,N,m,hf,hn,hm,hN0,hrow⟩:=hs.m.blk b _ hb;obtain ⟨hm0,hmN⟩:=zH hm hn fun q hq=>hp q (List.mem_append.2 (.inl hq));rcases hrow with ⟨p,c,T,fr,hφ,hh,hcs,hch,hwr⟩ | ⟨_,h0,_⟩
       case inr=>omega
       obtain ⟨hfr,hsize,htot⟩:=hwr rfl
       have hget:∀j,j<l.length->c[p.base+m.toNat*ks.length+j]?=some ((c[p.base+m.toNat*ks.length+j]?).getD Go.undef):=fun j hj=>by
         obtain ⟨y,h1,_⟩:=hch hm0 hmN j _ (List.getElem?_eq_getElem hj);rw [h1];rfl
       obtain ⟨xs,hxs⟩:∃xs:List Value,xs=(List.range l.length).map fun j=>(c[p.base+m.toNat*ks.length+j]?).getD Go.undef:=⟨_,rfl⟩
       have hrel:qw I g l xs:=qw.mk (by simp [hxs]) fun i v x h1 h2=>by
         have hi:=(List.getElem?_eq_some_iff.1 h1).1;obtain ⟨y,h3,h4⟩:=hch hm0 hmN i v h1;rw [hxs,List.getElem?_map,List.getElem?_range hi] at h2;simp only [Option.map_some,Option.some.injEq] at h2;rw [<-h2,h3];exact h4
       obtain ⟨g',k1,k2,k3,k4⟩:=bJ hs (fun q hq=>hp q (List.mem_append.2 (.inr hq))) hrel;obtain ⟨f',h4,h5,h6,h7⟩:=kI (E.qE k1 hm) hu k4 (E.qE k1 hf);have hlx:xs.length=ks.length:=by rw [hxs];simp [hll]
       refine ⟨g',k1,k2,k3.mem (k3.m.turn hstill id rfl ⟨f',N,h4,E.qE k1 hn,hN0,.inl ⟨p,c,T,fr,k1.some hs.m.wf hφ,hh,fun r j k hr hj=>?_,fun _=>⟨hfr,hsize,htot⟩⟩⟩)⟩;have hjlt:j<ks.length:=(List.getElem?_eq_some_iff.1 hj).1;by_cases hrm:(r:Int)=m
       . have hlt:j<xs.length:=by omega
         obtain ⟨c2,h8,h9⟩:=h6 j _ (List.getElem?_eq_getElem hlt);rw [Nat.zero_add] at h8 h9;rw [hj] at h8;simp only [Option.some.injEq] at h8;subst h8;rw [hrm];have hr':r=m.toNat:=by omega
         have hx:xs[j]=(c[p.base+m.toNat*ks.length+j]?).getD Go.undef:=by simp [hxs]
         rw [hx] at h9;exact ⟨_,by rw [hr'];exact hget j (by omega),h9⟩
       . rw [h7 _ j (.inl hrm)];exact CK.Zw k1 hs.m.wf (hcs r j k hr (fun _=>hrm) hj)
     . cases h
   . cases h
 . cases h
theorem uG {X:Nat->Prop}:∀{l:List Nat} {s:St} {g:G},qW A I P X g s a w->(∀q∈(rW l s).2,q.den I g.env)->∃g':G,g.Le g'/\g'.env=g.env/\qW A I P X g' (rW l s).1 a w
 | [],s,g,hs,_=>⟨g,.refl _,rfl,hs⟩
 | b::l,s,g,hs,hp=>by
   unfold rW at hp ⊢;split
   . rename_i s1 ps hu;rw [hu] at hp;dsimp only at hp ⊢;obtain ⟨g1,h1,h2,h3⟩:=Nq hs hu fun q hq=>hp q (List.mem_append.2 (.inl hq));obtain ⟨g2,h4,h5,h6⟩:=uG (l:=l) h3 fun q hq=>by rw [h2];exact hp q (List.mem_append.2 (.inr hq))
     exact ⟨g2,h1.trans h4,by rw [h5,h2],h6⟩
   . rename_i hu;rw [hu] at hp;exact uG (l:=l) hs hp
theorem Yl {cx:Cx} (hC:∀c∈cx.cs,COk I cx.P cx.kn.globs c) {fuel:Nat} {c:Contract} (h:∀ds,Sorts c.sorts ds->(verify cx fuel c).vc I ds):COk I cx.P cx.kn.globs c:=by
 intro g w xs hso hnb hG hm ha hpre;have hv:=h g.env hso;unfold verify at hv;split at hv
 rotate_left
 . exact hv.elim
 split at hv
 rotate_left
 . exact hv.elim
 have hb:=pJ hv hpre;have hE:=Yk hC fuel;have hE':jh I { cx with cs:=[] } (eng cx fuel):=⟨hE.exec,hE.loop,hE.tH,hE.I6⟩
 have hs:qW (c.amb g w) I cx.P (fun _=>False) g { tmps:=[],nt:=0,defers:=[],mem:=c.mem,nv:=c.sorts.length,nb:=c.nb } { tmps:=#[],defers:=[] } w:=
   ⟨hm,fun t v ht _=>by simp [get_nil] at ht,rfl,trivial,hso.length,hnb⟩
 obtain ⟨_,hcall⟩:=gQ hE' hG (fun c hc=>by simp at hc) hb hs ha;refine hcall.mono fun e w' he=>?_;obtain ⟨v,rfl,av,g2,s2,hle,hrel,hs2,hk⟩:=he;obtain ⟨hp,hk⟩:=qB hk;obtain ⟨g3,k1,k2,k3⟩:=uG hs2 hp;rw [<-k2] at hk;obtain ⟨outs,g',h1,h2,h3,h4,h4z,h5,h6,h7⟩:=XM hso hnb (hle.trans k1) hk k3.m (hrel.le k1 hs2.m.wf);exact ⟨v,outs,g',rfl,h1,h2,h3,h4,h4z,h5,h6,h7⟩
end Go.Sx
noncomputable section
namespace Go.Sx
open Go
variable {I:Itp} {P:Program}
end Go.Sx
end
noncomputable section
namespace Go.Sx
open Go
variable {I:Itp}
def E.qR (fs:Nat->Option Bool) (ss:List Bool):E->Option Bool
 | .lit _=>some false
 | .var i=>Si ss i
 | .bin _ a b=>if a.qR fs ss=some false/\b.qR fs ss=some false then some false else none
 | .wrap _ a=>if a.qR fs ss=some false then some false else none
 | .zt=>some true
 | .kt _=>some true
 | .bt _=>some true
 | .sel t r _=>if t.qR fs ss=some true/\r.qR fs ss=some false then some false else none
 | .upd t r _ v=>if t.qR fs ss=some true/\r.qR fs ss=some false/\v.qR fs ss=some false then some true else none
 | .cat t n u=>if t.qR fs ss=some true/\n.qR fs ss=some false/\u.qR fs ss=some true then some true else none
 | .sh t n=>if t.qR fs ss=some true/\n.qR fs ss=some false then some true else none
 | .teq t n u m=>if (t.qR fs ss=some true/\n.qR fs ss=some false)/\u.qR fs ss=some true/\m.qR fs ss=some false then some false else none
 | .fn j a b c d=>if (a.qR fs ss).isSome/\(b.qR fs ss).isSome/\(c.qR fs ss).isSome/\(d.qR fs ss).isSome then fs j else none
def D.is:Bool->D->Prop
 | true,.t _=>True
 | false,.i _=>True
 | _,_=>False
theorem D.Zd {d:D} (h:d.is false):∃n,d=.i n:=by cases d with | i n=>exact ⟨n,rfl⟩ | t f=>exact h.elim
theorem D.XQ {d:D} (h:d.is true):∃f,d=.t f:=by cases d with | i n=>exact h.elim | t f=>exact ⟨f,rfl⟩
def Itp.tot (I:Itp) (fs:Nat->Option Bool):Prop:=∀j s,fs j=some s->∀a b c d,∃x,I.ap j a b c d=some x/\x.is s
theorem Sorts.get:∀{ss:List Bool} {env:List D} {i:Nat} {b:Bool},Sorts ss env->ss[i]?=some b->∃d,env[i]?=some d/\d.is b
 | true::l,.t f::m,0,b,_,h=>by simp at h;subst h;exact ⟨_,rfl,trivial⟩
 | false::l,.i f::m,0,b,_,h=>by simp at h;subst h;exact ⟨_,rfl,trivial⟩
 | true::l,.t f::m,i+1,b,hs,h=>by simpa using Sorts.get (ss:=l) (env:=m) (i:=i) hs (by simpa using h)
 | false::l,.i f::m,i+1,b,hs,h=>by simpa using Sorts.get (ss:=l) (env:=m) (i:=i) hs (by simpa using h)
 | [],[],_,_,_,h=>by simp at h
 | [],_::_,_,_,h,_=>h.elim
 | true::_,[],_,_,h,_=>h.elim
 | false::_,[],_,_,h,_=>h.elim
 | true::_,.i _::_,_,_,h,_=>h.elim
 | false::_,.t _::_,_,_,h,_=>h.elim
theorem Sorts.app:∀{ss:List Bool} {env:List D} {b:Bool} {d:D},Sorts ss env->d.is b->Sorts (ss++[b]) (env++[d])
 | [],[],true,.t _,_,_=>trivial
 | [],[],false,.i _,_,_=>trivial
 | [],[],true,.i _,_,h=>h.elim
 | [],[],false,.t _,_,h=>h.elim
 | true::l,.t _::m,_,_,hs,h=>Sorts.app (ss:=l) (env:=m) hs h
 | false::l,.i _::m,_,_,hs,h=>Sorts.app (ss:=l) (env:=m) hs h
 | [],_::_,_,_,h,_=>h.elim
 | true::_,[],_,_,h,_=>h.elim
 | false::_,[],_,_,h,_=>h.elim
 | true::_,.i _::_,_,_,h,_=>h.elim
 | false::_,.t _::_,_,_,h,_=>h.elim
theorem E.uD {fs:Nat->Option Bool} (hI:I.tot fs) {ss:List Bool} {env:List D} (hs:Sorts ss env):∀{e:E} {b:Bool},e.qR fs ss=some b->∃d,e.den I env=some d/\d.is b:=by
 intro e
 induction e with
 | lit n=>intro b h;simp only [E.qR,Option.some.injEq] at h;subst h;exact ⟨_,rfl,trivial⟩
 | zt=>intro b h;simp only [E.qR,Option.some.injEq] at h;subst h;exact ⟨_,rfl,trivial⟩
 | kt row=>intro b h;simp only [E.qR,Option.some.injEq] at h;subst h;exact ⟨_,rfl,trivial⟩
 | bt b'=>intro b h;simp only [E.qR,Option.some.injEq] at h;subst h;exact ⟨_,rfl,trivial⟩
 | var i=>intro b h;simp only [E.qR,lW] at h;exact hs.get h
 | bin o x y ihx ihy=>
   intro b h;simp only [E.qR] at h;split at h
   . rename_i hc;cases h;obtain ⟨d1,h1,k1⟩:=ihx hc.1;obtain ⟨d2,h2,k2⟩:=ihy hc.2;obtain ⟨n1,rfl⟩:=D.Zd k1;obtain ⟨n2,rfl⟩:=D.Zd k2;exact ⟨.i (o.ev n1 n2),by simp [E.den,h1,h2],trivial⟩
   . cases h
 | wrap k x ihx=>
   intro b h;simp only [E.qR] at h;split at h
   . rename_i hc;cases h;obtain ⟨d1,h1,k1⟩:=ihx hc;obtain ⟨n1,rfl⟩:=D.Zd k1;exact ⟨.i (k.wrap n1),by simp [E.den,h1],trivial⟩
   . cases h
 | sel t r c iht ihr=>
   intro b h;simp only [E.qR] at h;split at h
   . rename_i hc;cases h;obtain ⟨d1,h1,k1⟩:=iht hc.1;obtain ⟨d2,h2,k2⟩:=ihr hc.2;obtain ⟨f,rfl⟩:=D.XQ k1;obtain ⟨n2,rfl⟩:=D.Zd k2;exact ⟨.i (f n2 c),by simp [E.den,h1,h2],trivial⟩
   . cases h
 | upd t r c v iht ihr ihv=>
   intro b h;simp only [E.qR] at h;split at h
   . rename_i hc;cases h;obtain ⟨d1,h1,k1⟩:=iht hc.1;obtain ⟨d2,h2,k2⟩:=ihr hc.2.1;obtain ⟨d3,h3,k3⟩:=ihv hc.2.2;obtain ⟨f,rfl⟩:=D.XQ k1;obtain ⟨n2,rfl⟩:=D.Zd k2;obtain ⟨n3,rfl⟩:=D.Zd k3;exact ⟨.t (qd f n2 c n3),by simp only [E.den,h1,h2,h3],trivial⟩
   . cases h
 | cat t n u iht ihr ihv=>
   intro b h;simp only [E.qR] at h;split at h
   . rename_i hc;cases h;obtain ⟨d1,h1,k1⟩:=iht hc.1;obtain ⟨d2,h2,k2⟩:=ihr hc.2.1;obtain ⟨d3,h3,k3⟩:=ihv hc.2.2;obtain ⟨f,rfl⟩:=D.XQ k1;obtain ⟨n2,rfl⟩:=D.Zd k2;obtain ⟨f3,rfl⟩:=D.XQ k3;exact ⟨.t (BS f n2 f3),by simp only [E.den,h1,h2,h3],trivial⟩
   . cases h
 | sh t n iht ihn=>
   intro b h;simp only [E.qR] at h;split at h
   . rename_i hc;cases h;obtain ⟨d1,h1,k1⟩:=iht hc.1;obtain ⟨d2,h2,k2⟩:=ihn hc.2;obtain ⟨f,rfl⟩:=D.XQ k1;obtain ⟨n2,rfl⟩:=D.Zd k2;exact ⟨.t fun r c=>f (r+n2) c,by simp [E.den,h1,h2],trivial⟩
   . cases h
 | teq t n u m iht ihn ihu ihm=>
   intro b h;simp only [E.qR] at h;split at h
   . rename_i hc;cases h;obtain ⟨d1,h1,k1⟩:=iht hc.1.1;obtain ⟨d2,h2,k2⟩:=ihn hc.1.2;obtain ⟨d3,h3,k3⟩:=ihu hc.2.1;obtain ⟨d4,h4,k4⟩:=ihm hc.2.2;obtain ⟨f,rfl⟩:=D.XQ k1;obtain ⟨n2,rfl⟩:=D.Zd k2;obtain ⟨f3,rfl⟩:=D.XQ k3;obtain ⟨n4,rfl⟩:=D.Zd k4;exact ⟨.i (strEq f n2 f3 n4),by simp only [E.den,h1,h2,h3,h4],trivial⟩
   . cases h
 | fn j x y z u ihx ihy ihz ihu=>
   intro b h;simp only [E.qR] at h;split at h
   . rename_i hc;obtain ⟨h1,h2,h3,h4⟩:=hc;obtain ⟨b1,h1⟩:=Option.isSome_iff_exists.1 h1;obtain ⟨b2,h2⟩:=Option.isSome_iff_exists.1 h2;obtain ⟨b3,h3⟩:=Option.isSome_iff_exists.1 h3;obtain ⟨b4,h4⟩:=Option.isSome_iff_exists.1 h4;obtain ⟨d1,g1,_⟩:=ihx h1;obtain ⟨d2,g2,_⟩:=ihy h2;obtain ⟨d3,g3,_⟩:=ihz h3;obtain ⟨d4,g4,_⟩:=ihu h4;obtain ⟨x,hx,hx'⟩:=hI j b h d1 d2 d3 d4;exact ⟨x,by simp only [E.den,g1,g2,g3,g4];exact hx,hx'⟩
   . cases h
def PE.tf:Bool->E->PE
 | true,e=>.tt e
 | false,e=>.ff e
def IC (o:BO) (a b:E):PE:=
 match o with
 | .lt=>.tt (.bin .le b a)
 | .le=>.tt (.bin .lt b a)
 | .eq=>.tt (.bin .ne a b)
 | .ne=>.tt (.bin .eq a b)
 | o=>.ff (.bin o a b)
def E.flat (s:Bool):E->List PE
 | .bin o a b=>
   if s=true/\o=.and then a.flat true++b.flat true
   else if s=false/\o=.or then a.flat false++b.flat false
   else if o=.eq/\b=.lit 0 then a.flat (!s)
   else if o=.ne/\b=.lit 0 then a.flat s
   else if s=true then [.tt (.bin o a b)] else [IC o a b]
 | e=>[.tf s e]
theorem ZR {env:List D} {o:BO} {a b:E}:(PE.tt (.bin o a b)).den I env↔∃x y,a.den I env=some (.i x)/\b.den I env=some (.i y)/\o.ev x y≠0:=by
 constructor
 . rintro ⟨n,h1,h2⟩;simp only [E.den] at h1;split at h1
   . rename_i x y hx hy;simp only [Option.some.injEq,D.i.injEq] at h1;exact ⟨x,y,hx,hy,by rw [h1];exact h2⟩
   . cases h1
 . rintro ⟨x,y,hx,hy,h⟩;exact ⟨o.ev x y,by simp [E.den,hx,hy],h⟩
theorem Ki {env:List D} {o:BO} {a b:E}:(PE.ff (.bin o a b)).den I env↔∃x y,a.den I env=some (.i x)/\b.den I env=some (.i y)/\o.ev x y=0:=by
 constructor
 . intro h1;simp only [PE.den,E.den] at h1;split at h1
   . rename_i x y hx hy;simp only [Option.some.injEq,D.i.injEq] at h1;exact ⟨x,y,hx,hy,h1⟩
   . cases h1
 . rintro ⟨x,y,hx,hy,h⟩;simp [PE.den,E.den,hx,hy,h]
theorem Oe {env:List D} {a:E}:(PE.tt a).den I env↔∃x,a.den I env=some (.i x)/\x≠0:=Iff.rfl
theorem ET {env:List D} {a:E}:(PE.ff a).den I env↔a.den I env=some (.i 0):=Iff.rfl
theorem NI {env:List D} {o:BO} {a b:E}:(IC o a b).den I env↔(PE.ff (.bin o a b)).den I env:=by
 have key:∀(o':BO) (h:∀x y,o'.ev x y≠0↔o.ev x y=0),(PE.tt (.bin o' a b)).den I env↔(PE.ff (.bin o a b)).den I env:=by
   intro o' h;rw [ZR,Ki];constructor
   . rintro ⟨x,y,h1,h2,h3⟩;exact ⟨x,y,h1,h2,(h x y).1 h3⟩
   . rintro ⟨x,y,h1,h2,h3⟩;exact ⟨x,y,h1,h2,(h x y).2 h3⟩
 have key2:∀(o':BO) (h:∀x y,o'.ev y x≠0↔o.ev x y=0),(PE.tt (.bin o' b a)).den I env↔(PE.ff (.bin o a b)).den I env:=by
   intro o' h;rw [ZR,Ki];constructor
   . rintro ⟨x,y,h1,h2,h3⟩;exact ⟨y,x,h2,h1,(h y x).1 h3⟩
   . rintro ⟨x,y,h1,h2,h3⟩;exact ⟨y,x,h2,h1,(h x y).2 h3⟩
 cases o with
 | lt=>exact key2 .le fun x y=>by simp only [BO.ev];split <;> split <;> simp <;> omega
 | le=>exact key2 .lt fun x y=>by simp only [BO.ev];split <;> split <;> simp <;> omega
 | eq=>exact key .ne fun x y=>by simp only [BO.ev];split <;> simp
 | ne=>exact key .eq fun x y=>by simp only [BO.ev];split <;> simp
 | _=>exact Iff.rfl
theorem E.tq {env:List D}:∀{e:E} {s:Bool},(∀q∈e.flat s,q.den I env)↔(PE.tf s e).den I env:=by
 intro e
 induction e with
 | bin o a b iha ihb=>
   intro s;simp only [E.flat];split
   . rename_i h;obtain ⟨rfl,rfl⟩:=h;have h1:=iha (s:=true);have h2:=ihb (s:=true);simp only [PE.tf] at h1 h2 ⊢;rw [ZR];simp only [List.mem_append,or_imp,forall_and,h1,h2,Oe,BO.ev];constructor
     . rintro ⟨⟨x,h3,h4⟩,⟨y,h5,h6⟩⟩;exact ⟨x,y,h3,h5,by simp [h4,h6]⟩
     . rintro ⟨x,y,h3,h5,h6⟩;have:x≠0/\y≠0:=by by_cases h:x≠0/\y≠0;exact h;simp [h] at h6
       exact ⟨⟨x,h3,this.1⟩,⟨y,h5,this.2⟩⟩
   split
   . rename_i h;obtain ⟨rfl,rfl⟩:=h;have h1:=iha (s:=false);have h2:=ihb (s:=false);simp only [PE.tf] at h1 h2 ⊢;rw [Ki];simp only [List.mem_append,or_imp,forall_and,h1,h2,ET,BO.ev];constructor
     . rintro ⟨h3,h4⟩;exact ⟨0,0,h3,h4,by simp⟩
     . rintro ⟨x,y,h3,h5,h6⟩
       have:x=0/\y=0:=by
         by_cases hx:x=0
         . by_cases hy:y=0
           . exact ⟨hx,hy⟩
           . simp [hy] at h6
         . simp [hx] at h6
       obtain ⟨rfl,rfl⟩:=this;exact ⟨h3,h5⟩
   split
   . rename_i h;obtain ⟨rfl,rfl⟩:=h;rw [iha];cases s with
     | true=>
       simp only [PE.tf,Bool.not_true];rw [ZR,ET];constructor
       . intro h;exact ⟨0,0,h,rfl,by simp [BO.ev]⟩
       . rintro ⟨x,y,h1,h2,h3⟩;simp only [E.den,Option.some.injEq,D.i.injEq] at h2;subst h2;have:x=0:=by by_cases h:x=0;exact h;simp [BO.ev,h] at h3
         subst this;exact h1
     | false=>
       simp only [PE.tf,Bool.not_false];rw [Ki,Oe];constructor
       . rintro ⟨x,h,h0⟩;exact ⟨x,0,h,rfl,by simp [BO.ev,h0]⟩
       . rintro ⟨x,y,h1,h2,h3⟩;simp only [E.den,Option.some.injEq,D.i.injEq] at h2;subst h2;exact ⟨x,h1,fun h=>by simp [BO.ev,h] at h3⟩
   split
   . rename_i h;obtain ⟨rfl,rfl⟩:=h;rw [iha];cases s with
     | true=>
       simp only [PE.tf];rw [ZR,Oe];constructor
       . rintro ⟨x,h,h0⟩;exact ⟨x,0,h,rfl,by simp [BO.ev,h0]⟩
       . rintro ⟨x,y,h1,h2,h3⟩;simp only [E.den,Option.some.injEq,D.i.injEq] at h2;subst h2;exact ⟨x,h1,fun h=>by simp [BO.ev,h] at h3⟩
     | false=>
       simp only [PE.tf];rw [Ki,ET];constructor
       . intro h;exact ⟨0,0,h,rfl,by simp [BO.ev]⟩
       . rintro ⟨x,y,h1,h2,h3⟩;simp only [E.den,Option.some.injEq,D.i.injEq] at h2;subst h2;have:x=0:=by by_cases h:x=0;exact h;simp [BO.ev,h] at h3
         subst this;exact h1
   split
   . rename_i h;subst h;simp [PE.tf]
   . rename_i h;have:s=false:=by simpa using h
     subst this;simpa [PE.tf] using NI
 | _=>intro s;simp [E.flat]
def PE.flat:PE->List PE
 | .tt e=>e.flat true
 | .ff e=>e.flat false
 | p=>[p]
theorem PE.tq {env:List D} {p:PE}:(∀q∈p.flat,q.den I env)↔p.den I env:=by
 cases p with
 | tt e=>exact E.tq
 | ff e=>exact E.tq
 | _=>simp [PE.flat]
theorem PE.zT {env xs:List D} {p:PE} (h:p.den I env):p.den I (env++xs):=by
 cases p with
 | tt e=>obtain ⟨n,h1,h2⟩:=h;exact ⟨n,E.zT h1,h2⟩
 | ff e=>exact E.zT (e:=e) h
 | rng k e=>obtain ⟨n,h1,h2⟩:=h;exact ⟨n,E.zT h1,h2⟩
 | same a b=>obtain ⟨d,h1,h2⟩:=h;exact ⟨d,E.zT h1,E.zT h2⟩
 | pr j l=>obtain ⟨ds,h1,h2⟩:=h;exact ⟨ds,lS h1,h2⟩
 | sort b e=>cases b with
   | true=>obtain ⟨d,h1⟩:=h;exact ⟨d,E.zT h1⟩
   | false=>obtain ⟨d,h1⟩:=h;exact ⟨d,E.zT h1⟩
 | col t c lo hi=>obtain ⟨f,h1,h2⟩:=h;exact ⟨f,E.zT h1,h2⟩
 | agr t u n w=>obtain ⟨f,g,k,h1,h2,h3,h4⟩:=h;exact ⟨f,g,k,E.zT h1,E.zT h2,E.zT h3,h4⟩
 | byt t n=>obtain ⟨f,k,h1,h2,h3⟩:=h;exact ⟨f,k,E.zT h1,E.zT h2,h3⟩
def Mx (s:Bool):PE->Bool
 | .tt (.lit n)=>s && n != 0
 | .ff (.lit n)=>s && n == 0
 | _=>false
theorem NH {env:List D} {p:PE} (h:Mx true p=true):p.den I env:=by
 unfold Mx at h;split at h
 . exact ⟨_,rfl,by simpa using h⟩
 . rename_i n;have:n=0:=by simpa using h
   subst this;rfl
 . cases h
def hM (x:Nat):Nat:=Nat.mod x 2305843009213693951
def hI:Int->Nat
 | .ofNat n=>Nat.mul n 2
 | .negSucc n=>Nat.succ (Nat.mul n 2)
def BO.h:BO->Nat
 | .add=>1
 | .sub=>2
 | .mul=>3
 | .tdiv=>4
 | .tmod=>5
 | .lt=>6
 | .le=>7
 | .eq=>8
 | .ne=>9
 | .and=>10
 | .or=>11
 | .max=>12
 | .min=>13
 | .bits o _=>Nat.add 20 o
def h2 (a b:Nat):Nat:=hM (Nat.add (Nat.mul a 1000003) (Nat.mul b 48271))
def E.h:E->Nat
 | .lit n=>Nat.add (Nat.mul (hI n) 16) 1
 | .var i=>Nat.add (Nat.mul i 16) 2
 | .bin o a b=>Nat.add (Nat.mul (h2 a.h b.h) 64) o.h
 | .wrap _ a=>Nat.add (Nat.mul a.h 16) 3
 | .zt=>4
 | .kt _=>5
 | .bt _=>6
 | .sel t r c=>h2 (h2 t.h r.h) (Nat.add c 7)
 | .upd t r c v=>h2 (h2 t.h r.h) (h2 v.h (Nat.add c 8))
 | .cat t n u=>h2 (h2 t.h n.h) (h2 u.h 9)
 | .sh t n=>h2 (h2 t.h n.h) 10
 | .teq t n u m=>h2 (h2 t.h n.h) (h2 u.h m.h)
 | .fn j a b c d=>h2 (h2 (h2 a.h b.h) (h2 c.h d.h)) (Nat.add j 11)
def PE.h:PE->Nat
 | .tt e=>Nat.mul e.h 16
 | .ff e=>Nat.add (Nat.mul e.h 16) 1
 | .rng _ e=>Nat.add (Nat.mul e.h 16) 2
 | .same a b=>Nat.add (Nat.mul (h2 a.h b.h) 16) 3
 | .pr j _=>Nat.add (Nat.mul j 16) 4
 | .sort _ e=>Nat.add (Nat.mul e.h 16) 5
 | .byt t n=>Nat.add (Nat.mul (h2 t.h n.h) 16) 6
 | .col t c _ _=>Nat.add (Nat.mul (h2 t.h c) 16) 7
 | .agr t u n _=>Nat.add (Nat.mul (h2 (h2 t.h u.h) n.h) 16) 8
def eqK (p q:PE):Bool:=bif Nat.beq p.h q.h then decide (p=q) else false
theorem MJ {p q:PE}:eqK p q=true↔p=q:=by
 unfold eqK;cases hb:Nat.beq p.h q.h with
 | true=>rw [cond_true,decide_eq_true_eq]
 | false=>
   rw [cond_false];constructor
   . intro h;cases h
   . rintro rfl;have:Nat.beq p.h p.h=true:=Nat.beq_refl _;rw [this] at hb;cases hb
def Gi (q:PE):List PE->Bool
 | []=>false
 | p::K=>bif eqK p q then true else Gi q K
theorem oG {q:PE}:∀{K:List PE},Gi q K=true↔q∈K
 | []=>by simp [Gi]
 | p::K=>by
   simp only [Gi,List.mem_cons];cases h:eqK p q with
   | true=>simp [(MJ.1 h).symm]
   | false=>
     rw [cond_false,oG];constructor
     . exact .inr
     . rintro (e | e)
       . rw [MJ.2 e.symm] at h;cases h
       . exact e
def known (fs:Nat->Option Bool) (ss:List Bool) (K:List PE) (p:PE):Bool:=
 match p with
 | .sort b e=>decide (e.qR fs ss=some b) || Gi (.sort b e) K
 | .same a b=>(decide (a=b) && (a.qR fs ss).isSome) || Gi (.same a b) K
 | p=>p.flat.all fun q=>Gi q K || Mx true q
theorem Qz {fs:Nat->Option Bool} (hI:I.tot fs) {ss:List Bool} {env:List D} (hs:Sorts ss env) {K:List PE} (hK:∀p∈K,p.den I env) {p:PE} (h:known fs ss K p=true):p.den I env:=by
 have gen:∀p:PE,(p.flat.all fun q=>Gi q K || Mx true q)=true->p.den I env:=by
   intro p h;rw [<-PE.tq];intro q hq;have:=List.all_eq_true.1 h q hq;simp only [Bool.or_eq_true,oG] at this;rcases this with h1 | h1
   . exact hK q h1
   . exact NH h1
 cases p with
 | sort b e=>
   simp only [known,Bool.or_eq_true,decide_eq_true_eq,oG] at h;rcases h with h | h
   . obtain ⟨d,h1,h2⟩:=E.uD hI hs h;cases b with
     | true=>obtain ⟨f,rfl⟩:=D.XQ h2;exact ⟨f,h1⟩
     | false=>obtain ⟨f,rfl⟩:=D.Zd h2;exact ⟨f,h1⟩
   . exact hK _ h
 | same a b=>
   simp only [known,Bool.or_eq_true,Bool.and_eq_true,decide_eq_true_eq,oG] at h;rcases h with ⟨rfl,h⟩ | h
   . obtain ⟨b,h⟩:=Option.isSome_iff_exists.1 h;obtain ⟨d,h1,_⟩:=E.uD hI hs h;exact ⟨d,h1,h1⟩
   . exact hK _ h
 | tt e=>exact gen _ h
 | ff e=>exact gen _ h
 | rng k e=>exact gen _ h
 | pr j l=>exact gen _ h
 | byt t n=>exact gen _ h
 | col t c lo hi=>exact gen _ h
 | agr t u n w=>exact gen _ h
def Tree.isOk:Tree->Bool
 | .ok=>true
 | _=>false
theorem Tree.kF {t:Tree} {env:List D} (h:t.isOk=true):t.vc I env:=by cases t <;> first | trivial | cases h
def DZ (o:BO) (a b:E):E:=
 match o with
 | .add=>mkAdd a b
 | o=>mkBin o a b
def E.sub (σ:List E):E->E
 | .lit n=>.lit n
 | .var i=>(Si σ i).getD .zt
 | .bin o a b=>DZ o (a.sub σ) (b.sub σ)
 | .wrap k a=>mkWrap k (a.sub σ)
 | .zt=>.zt
 | .kt row=>.kt row
 | .bt b=>.bt b
 | .sel t r c=>kJ (t.sub σ) (r.sub σ) c
 | .upd t r c v=>.upd (t.sub σ) (r.sub σ) c (v.sub σ)
 | .cat t n u=>.cat (t.sub σ) (n.sub σ) (u.sub σ)
 | .sh t n=>.sh (t.sub σ) (n.sub σ)
 | .teq t n u m=>.teq (t.sub σ) (n.sub σ) (u.sub σ) (m.sub σ)
 | .fn j a b c d=>.fn j (a.sub σ) (b.sub σ) (c.sub σ) (d.sub σ)
theorem NJ {env:List D} {o:BO} {a b:E} {x y:Int} (ha:a.den I env=some (.i x)) (hb:b.den I env=some (.i y)):(mkBin o a b).den I env=some (.i (o.ev x y)):=by
 unfold mkBin;split
 . simp only [E.den,Option.some.injEq,D.i.injEq] at ha hb;subst ha hb;rfl
 . simp only [E.den,ha,hb]
theorem DJ {env:List D} {a b:E} {x y:Int} (ha:a.den I env=some (.i x)) (hb:b.den I env=some (.i y)):(mkAdd a b).den I env=some (.i (x+y)):=by
 unfold mkAdd;split
 . simp only [E.den,Option.some.injEq,D.i.injEq] at ha hb;subst ha hb;rfl
 . simp only [E.den,Option.some.injEq,D.i.injEq] at ha;subst ha;simpa using hb
 . simp only [E.den,Option.some.injEq,D.i.injEq] at hb;subst hb;simpa using ha
 . rename_i a' p q _;obtain ⟨u,v,h1,h2,rfl⟩:=gu ha;simp [E.den] at h2 hb;subst h2;subst hb;split
   . rw [h1];congr 2;omega
   . simp only [E.den,h1,BO.ev];congr 2;omega
 . simp only [E.den,ha,hb,BO.ev]
theorem Da {env:List D} {o:BO} {a b:E} {x y:Int} (ha:a.den I env=some (.i x)) (hb:b.den I env=some (.i y)):(DZ o a b).den I env=some (.i (o.ev x y)):=by
 unfold DZ;split
 . exact DJ ha hb
 . exact NJ ha hb
theorem VE {env:List D} {k:IntKind} {a:E} {x:Int} (ha:a.den I env=some (.i x)):(mkWrap k a).den I env=some (.i (k.wrap x)):=by
 unfold mkWrap;split
 . simp only [E.den,Option.some.injEq,D.i.injEq] at ha;subst ha;rfl
 . simp only [E.den,ha]
theorem MV {env':List D}:∀{σ:List E} {env:List D},qg I env' σ=some env->∀{i:Nat} {d:D},env[i]?=some d->∃e,σ[i]?=some e/\e.den I env'=some d
 | [],env,h,i,d,hd=>by simp only [qg,Option.some.injEq] at h;subst h;simp at hd
 | e::σ,env,h,i,d,hd=>by
   simp only [qg] at h;split at h
   . rename_i d0 ds h1 h2;cases h;cases i with
     | zero=>simp at hd;subst hd;exact ⟨e,rfl,h1⟩
     | succ i=>simpa using MV h2 (i:=i) (by simpa using hd)
   . cases h
theorem E.ze {σ:List E} {env env':List D} (hσ:qg I env' σ=some env):∀{e:E} {d:D},e.den I env=some d->(e.sub σ).den I env'=some d:=by
 intro e
 induction e with
 | lit n=>intro d h;exact h
 | zt=>intro d h;exact h
 | kt row=>intro d h;exact h
 | bt b=>intro d h;exact h
 | var i=>
   intro d h;obtain ⟨e,h1,h2⟩:=MV hσ h;simp only [E.sub,lW,h1];exact h2
 | bin o a b iha ihb=>
   intro d h;simp only [E.den] at h;split at h
   . rename_i x y h1 h2;cases h;exact Da (iha h1) (ihb h2)
   . cases h
 | wrap k a ih=>
   intro d h;simp only [E.den] at h;split at h
   . rename_i x h1;cases h;exact VE (ih h1)
   . cases h
 | sel t r c iht ihr=>
   intro d h;simp only [E.den] at h;split at h
   . rename_i x y h1 h2;cases h;exact jU (iht h1) (ihr h2)
   . cases h
 | upd t r c v iht ihr ihv=>
   intro d h;simp only [E.den] at h;split at h
   . rename_i x y z h1 h2 h3;cases h;simp only [E.sub,E.den,iht h1,ihr h2,ihv h3]
   . cases h
 | cat t n u iht ihn ihu=>
   intro d h;simp only [E.den] at h;split at h
   . rename_i x y z h1 h2 h3;cases h;simp only [E.sub,E.den,iht h1,ihn h2,ihu h3]
   . cases h
 | sh t n iht ihn=>
   intro d h;simp only [E.den] at h;split at h
   . rename_i x y h1 h2;cases h;simp only [E.sub,E.den,iht h1,ihn h2]
   . cases h
 | teq t n u m iht ihn ihu ihm=>
   intro d h;simp only [E.den] at h;split at h
   . rename_i x y z v h1 h2 h3 h4;cases h;simp only [E.sub,E.den,iht h1,ihn h2,ihu h3,ihm h4]
   . cases h
 | fn j a b c d iha ihb ihc ihd=>
   intro x h;simp only [E.den] at h;split at h
   . rename_i x1 x2 x3 x4 h1 h2 h3 h4;simp only [E.sub,E.den,iha h1,ihb h2,ihc h3,ihd h4];exact h
   . cases h
theorem G5 {σ:List E} {env env':List D} (hσ:qg I env' σ=some env):∀{l:List E} {ds:List D},qg I env l=some ds->qg I env' (l.map (E.sub σ))=some ds
 | [],_,h=>h
 | e::l,ds,h=>by
   simp only [qg] at h;split at h
   . rename_i d ds' h1 h2;cases h;simp only [List.map_cons,qg,E.ze hσ h1,G5 hσ h2]
   . cases h
def Dz (σ:List E):Nat->List E->List E->List E
 | _,_,[]=>[]
 | i,r,.var j::l=>match (bif Nat.beq i j then r else σ.drop j) with
   | x::r'=>x::Dz σ (j+1) r' l
   | []=>.zt::Dz σ (j+1) [] l
 | i,r,e::l=>e.sub σ::Dz σ i r l
theorem Py {σ r':List E} {j:Nat} {x:E} (h:σ.drop j=x::r'):σ[j]?=some x/\r'=σ.drop (j+1):=by
 have hj:j<σ.length:=by
   rcases Nat.lt_or_ge j σ.length with h1 | h1
   . exact h1
   . rw [List.drop_eq_nil_of_le h1] at h;cases h
 rw [List.drop_eq_getElem_cons hj] at h;cases h;exact ⟨List.getElem?_eq_getElem hj,rfl⟩
theorem Pw {σ:List E} {j:Nat} (h:σ.drop j=[]):σ[j]?=none/\([]:List E)=σ.drop (j+1):=by
 have hj:=List.drop_eq_nil_iff.1 h;exact ⟨List.getElem?_eq_none hj,(List.drop_eq_nil_of_le (by omega)).symm⟩
theorem iF {σ:List E}:∀{l:List E} {i:Nat} {r:List E},r=σ.drop i->Dz σ i r l=l.map (E.sub σ)
 | [],_,_,_=>rfl
 | e::l,i,r,h=>by
   cases e
   case var j=>
     have hq:(bif Nat.beq i j then r else σ.drop j)=σ.drop j:=by
       cases hb:Nat.beq i j
       . rfl
       . have:=Nat.eq_of_beq_eq_true hb;subst this;exact h
     simp only [Dz,List.map_cons,E.sub,lW,hq];cases hd:σ.drop j with
     | nil=>
       obtain ⟨h1,h2⟩:=Pw hd;simp only [h1,Option.getD_none,iF h2]
     | cons x r'=>
       obtain ⟨h1,h2⟩:=Py hd;simp only [h1,Option.getD_some,iF h2]
   all_goals simp only [Dz,List.map_cons,iF h]
def PE.sub (σ:List E):PE->PE
 | .tt e=>.tt (e.sub σ)
 | .ff e=>.ff (e.sub σ)
 | .rng k e=>.rng k (e.sub σ)
 | .same a b=>.same (a.sub σ) (b.sub σ)
 | .pr j l=>.pr j (Dz σ 0 σ l)
 | .sort b e=>.sort b (e.sub σ)
 | .byt t n=>.byt (t.sub σ) (n.sub σ)
 | .col t c lo hi=>.col (t.sub σ) c lo hi
 | .agr t u n w=>.agr (t.sub σ) (u.sub σ) (n.sub σ) w
theorem PE.ze {σ:List E} {env env':List D} (hσ:qg I env' σ=some env):∀{p:PE},p.den I env->(p.sub σ).den I env'
 | .tt _,⟨n,h1,h2⟩=>⟨n,E.ze hσ h1,h2⟩
 | .ff e,h=>E.ze (e:=e) hσ h
 | .rng _ _,⟨n,h1,h2⟩=>⟨n,E.ze hσ h1,h2⟩
 | .same _ _,⟨d,h1,h2⟩=>⟨d,E.ze hσ h1,E.ze hσ h2⟩
 | .pr _ _,⟨ds,h1,h2⟩=>⟨ds,by rw [iF (List.drop_zero).symm];exact G5 hσ h1,h2⟩
 | .sort true _,⟨f,h⟩=>⟨f,E.ze hσ h⟩
 | .sort false _,⟨f,h⟩=>⟨f,E.ze hσ h⟩
 | .col _ _ _ _,⟨f,h1,h2⟩=>⟨f,E.ze hσ h1,h2⟩
 | .agr _ _ _ _,⟨f,g,k,h1,h2,h3,h4⟩=>⟨f,g,k,E.ze hσ h1,E.ze hσ h2,E.ze hσ h3,h4⟩
 | .byt _ _,⟨f,k,h1,h2,h3⟩=>⟨f,k,E.ze hσ h1,E.ze hσ h2,h3⟩
def Z6 (fs:Nat->Option Bool) (ss:List Bool):Nat->List Bool->List E->Bool
 | _,_,[]=>true
 | i,r,.var j::l=>match (bif Nat.beq i j then r else ss.drop j) with
   | _::r'=>Z6 fs ss (j+1) r' l
   | []=>false
 | i,r,e::l=>(e.qR fs ss).isSome && Z6 fs ss i r l
theorem Z5 {fs:Nat->Option Bool} {ss:List Bool}:∀{l:List E} {i:Nat} {r:List Bool},r=ss.drop i->Z6 fs ss i r l=l.all fun e=>(e.qR fs ss).isSome
 | [],_,_,_=>rfl
 | e::l,i,r,h=>by
   cases e
   case var j=>
     have hq:(bif Nat.beq i j then r else ss.drop j)=ss.drop j:=by
       cases hb:Nat.beq i j
       . rfl
       . have:=Nat.eq_of_beq_eq_true hb;subst this;exact h
     simp only [Z6,List.all_cons,E.qR,lW,hq];cases hd:ss.drop j with
     | nil=>
       have hj:=List.drop_eq_nil_iff.1 hd;simp only [List.getElem?_eq_none hj,Option.isSome_none,Bool.false_and]
     | cons x r'=>
       have hj:j<ss.length:=by
         rcases Nat.lt_or_ge j ss.length with h1 | h1
         . exact h1
         . rw [List.drop_eq_nil_of_le h1] at hd;cases hd
       rw [List.drop_eq_getElem_cons hj] at hd;have h2:r'=ss.drop (j+1):=by cases hd;rfl
       simp only [List.getElem?_eq_getElem hj,Option.isSome_some,Bool.true_and,Z5 h2]
   all_goals simp only [Z6,List.all_cons,Z5 h]
def PE.sorted (fs:Nat->Option Bool) (ss:List Bool):PE->Bool
 | .tt e | .ff e | .rng _ e | .sort _ e | .col e _ _ _=>(e.qR fs ss).isSome
 | .same a b | .byt a b=>(a.qR fs ss).isSome && (b.qR fs ss).isSome
 | .agr t u n _=>(t.qR fs ss).isSome && ((u.qR fs ss).isSome && (n.qR fs ss).isSome)
 | .pr _ l=>Z6 fs ss 0 ss l
section
variable {fs:Nat->Option Bool} (hI:I.tot fs) {ss:List Bool} {σ:List E} {env env':List D} (hs:Sorts ss env) (hσ:qg I env' σ=some env)
include hI hs hσ
theorem E.jG {e:E} {d:D} (h1:(e.qR fs ss).isSome=true) (h2:(e.sub σ).den I env'=some d):e.den I env=some d:=by
 obtain ⟨b,hb⟩:=Option.isSome_iff_exists.1 h1;obtain ⟨d',h3,_⟩:=E.uD hI hs hb;have:=E.ze hσ h3;rw [this] at h2;cases h2;exact h3
theorem Yx:∀{l:List E} {ds:List D},(l.all fun e=>(e.qR fs ss).isSome)=true->qg I env' (l.map (E.sub σ))=some ds->qg I env l=some ds
 | [],_,_,h=>h
 | e::l,ds,hl,h=>by
   simp only [List.all_cons,Bool.and_eq_true] at hl;simp only [List.map_cons,qg] at h;split at h
   . rename_i d ds' h1 h2;cases h;simp only [qg,E.jG hI hs hσ hl.1 h1,Yx hl.2 h2]
   . cases h
theorem PE.jG {p:PE} (h1:p.sorted fs ss=true) (h2:(p.sub σ).den I env'):p.den I env:=by
 cases p with
 | tt e=>obtain ⟨n,h3,h4⟩:=h2;exact ⟨n,E.jG hI hs hσ h1 h3,h4⟩
 | ff e=>exact E.jG hI hs hσ h1 h2
 | rng k e=>obtain ⟨n,h3,h4⟩:=h2;exact ⟨n,E.jG hI hs hσ h1 h3,h4⟩
 | same a b=>
   simp only [PE.sorted,Bool.and_eq_true] at h1;obtain ⟨d,h3,h4⟩:=h2;exact ⟨d,E.jG hI hs hσ h1.1 h3,E.jG hI hs hσ h1.2 h4⟩
 | pr j l=>
   obtain ⟨ds,h3,h4⟩:=h2;rw [iF (List.drop_zero).symm] at h3;have h1:Z6 fs ss 0 ss l=true:=h1;rw [Z5 (List.drop_zero).symm] at h1;exact ⟨ds,Yx hI hs hσ h1 h3,h4⟩
 | sort b e=>cases b with
   | true=>obtain ⟨n,h3⟩:=h2;exact ⟨n,E.jG hI hs hσ h1 h3⟩
   | false=>obtain ⟨n,h3⟩:=h2;exact ⟨n,E.jG hI hs hσ h1 h3⟩
 | col t c lo hi=>obtain ⟨f,h3,h4⟩:=h2;exact ⟨f,E.jG hI hs hσ h1 h3,h4⟩
 | agr t u n w=>
   simp only [PE.sorted,Bool.and_eq_true] at h1;obtain ⟨f,g,k,h3,h4,h5,h6⟩:=h2;exact ⟨f,g,k,E.jG hI hs hσ h1.1 h3,E.jG hI hs hσ h1.2.1 h4,E.jG hI hs hσ h1.2.2 h5,h6⟩
 | byt t m=>
   simp only [PE.sorted,Bool.and_eq_true] at h1;obtain ⟨f,k,h3,h4,h5⟩:=h2;exact ⟨f,k,E.jG hI hs hσ h1.1 h3,E.jG hI hs hσ h1.2 h4,h5⟩
end
def isVar:E->Bool
 | .var _=>true
 | _=>false
def defined (σ:List E):PE->List E
 | .same (.var i) e=>if ((σ[i]?).map isVar)=some true then σ.set i (e.sub σ) else σ
 | _=>σ
theorem G6 {env':List D} {e:E} {d:D}:∀{σ:List E} {env:List D} {i:Nat},qg I env' σ=some env->env[i]?=some d->e.den I env'=some d->qg I env' (σ.set i e)=some env
 | [],env,i,h,hi,_=>by simp only [qg,Option.some.injEq] at h;subst h;simp at hi
 | e0::σ,env,i,h,hi,he=>by
   simp only [qg] at h;split at h
   . rename_i d0 ds h1 h2;cases h;cases i with
     | zero=>simp at hi;subst hi;simp only [List.set_cons_zero,qg,he,h2]
     | succ i=>simp only [List.set_cons_succ,qg,h1,G6 h2 (by simpa using hi) he]
   . cases h
theorem Zq {σ:List E} {env env':List D} (hσ:qg I env' σ=some env) {p:PE} (hp:p.den I env):qg I env' (defined σ p)=some env:=by
 unfold defined;split
 . split
   . obtain ⟨d,h1,h2⟩:=hp;exact G6 hσ h1 (E.ze hσ h2)
   . exact hσ
 . exact hσ
def PE.plain (ss:List Bool):PE->Bool
 | .sort b (.var i)=>match Si ss i with
   | some c=>bif b then c else !c
   | none=>false
 | _=>false
theorem PE.Nl {ss:List Bool} {env:List D} (hs:Sorts ss env) {p:PE} (h:p.plain ss=true):p.den I env:=by
 unfold PE.plain at h;split at h
 . rename_i b i;rw [lW] at h;cases hc:ss[i]? with
   | none=>rw [hc] at h;cases h
   | some c=>
     rw [hc] at h;obtain ⟨d,h1,h2⟩:=hs.get hc;cases b with
     | true=>
       have:c=true:=h;subst this;obtain ⟨f,rfl⟩:=D.XQ h2;exact ⟨f,h1⟩
     | false=>
       have:c=false:=by cases c <;> first | rfl | cases h
       subst this;obtain ⟨n,rfl⟩:=D.Zd h2;exact ⟨n,h1⟩
 . cases h
def Tree.tidy (fs:Nat->Option Bool):List Bool->List E->List Bool->List PE->Tree->Tree
 | _,_,_,_,.ok=>.ok
 | _,_,_,_,.fail n=>.fail n
 | ss,σ,ss',K,.assert p t=>bif p.plain ss then t.tidy fs ss σ ss' K else if p.sorted fs ss then
     let q:=p.sub σ
     if known fs ss' K q then t.tidy fs ss σ ss' K else .assert q (t.tidy fs ss σ ss' (q.flat++K))
   else .fail 200
 | ss,σ,ss',K,.assume p t=>
   let q:=p.sub σ
   if known fs ss' K q then t.tidy fs ss σ ss' K else
   let t':=t.tidy fs ss (defined σ p) ss' (q.flat++K)
   if t'.isOk then .ok else .assume q t'
 | ss,σ,ss',K,.branch e a b=>if e.qR fs ss=some false then
     let c:=e.sub σ
     if known fs ss' K (.tt c) then a.tidy fs ss σ ss' K else if known fs ss' K (.ff c) then b.tidy fs ss σ ss' K else
     let a':=a.tidy fs ss σ ss' (c.flat true++K);let b':=b.tidy fs ss σ ss' (c.flat false++K)
     if a'.isOk && b'.isOk then .ok else .branch c a' b'
   else .fail 201
 | ss,σ,ss',K,.both a b=>
   let a':=a.tidy fs ss σ ss' K;let b':=b.tidy fs ss σ ss' K
   if a'.isOk then b' else if b'.isOk then a' else .both a' b'
 | ss,σ,ss',K,.qp s t=>
   let t':=t.tidy fs (ss++[s]) (σ++[.var ss'.length]) (ss'++[s]) K
   if t'.isOk then .ok else .qp s t'
theorem Yv {env':List D} {e:E} {d:D} (he:e.den I env'=some d):∀{σ:List E} {env:List D},qg I env' σ=some env->qg I env' (σ++[e])=some (env++[d])
 | [],env,h=>by simp only [qg,Option.some.injEq] at h;subst h;simp [qg,he]
 | e0::σ,env,h=>by
   simp only [qg] at h;split at h
   . rename_i d0 ds h1 h2;cases h;simp only [List.cons_append,qg,h1,Yv he h2]
   . cases h
theorem Tree.Cr {fs:Nat->Option Bool} (hI:I.tot fs):∀{t:Tree} {ss:List Bool} {σ:List E} {ss':List Bool} {K:List PE} {env env':List D},Sorts ss env->Sorts ss' env'->qg I env' σ=some env->(∀p∈K,p.den I env')->
   (t.tidy fs ss σ ss' K).vc I env'->t.vc I env:=by
 intro t
 have Ck:∀{K:List PE} {p:PE} {env:List D},(∀p∈K,p.den I env)->p.den I env->∀q∈p.flat++K,q.den I env:=fun hK hp q hq=>by
   rcases List.mem_append.1 hq with h | h
   . exact PE.tq.2 hp q h
   . exact hK q h
 induction t with
 | ok=>intros;trivial
 | fail n=>intro _ _ _ _ _ _ _ _ _ _ h;exact h
 | assert p t ih=>
   intro ss σ ss' K env env' hs hs' hσ hK h;simp only [Tree.tidy] at h;cases hpl:p.plain ss with
   | true=>
     rw [hpl,cond_true] at h;exact ⟨PE.Nl hs hpl,ih hs hs' hσ hK h⟩
   | false=>
   rw [hpl,cond_false] at h;split at h
   . rename_i hsr;split at h
     . rename_i hk;exact ⟨PE.jG hI hs hσ hsr (Qz hI hs' hK hk),ih hs hs' hσ hK h⟩
     . exact ⟨PE.jG hI hs hσ hsr h.1,ih hs hs' hσ (Ck hK h.1) h.2⟩
   . exact h.elim
 | assume p t ih=>
   intro ss σ ss' K env env' hs hs' hσ hK h hp;simp only [Tree.tidy] at h;have hq:=PE.ze hσ hp;split at h
   . exact ih hs hs' hσ hK h
   split at h
   . rename_i hk;exact ih hs hs' (Zq hσ hp) (Ck hK hq) (Tree.kF hk)
   . exact ih hs hs' (Zq hσ hp) (Ck hK hq) (h hq)
 | branch e a b iha ihb=>
   intro ss σ ss' K env env' hs hs' hσ hK h;simp only [Tree.tidy] at h;split at h
   rotate_left
   . exact h.elim
   split at h
   . rename_i hk;obtain ⟨m,h1,h2⟩:=Qz hI hs' hK hk;exact ⟨fun _ _ _=>iha hs hs' hσ hK h,fun h3=>by rw [E.ze hσ h3] at h1;cases h1;exact (h2 rfl).elim⟩
   split at h
   . rename_i hk;have h1:(e.sub σ).den I env'=some (.i 0):=Qz hI hs' hK hk;exact ⟨fun n h2 h3=>by rw [E.ze hσ h2] at h1;cases h1;exact (h3 rfl).elim,fun _=>ihb hs hs' hσ hK h⟩
   have hT:∀n,e.den I env=some (.i n)->n≠0->∀q∈(e.sub σ).flat true++K,q.den I env':=fun n h1 h2=>Ck (p:=.tt (e.sub σ)) hK ⟨n,E.ze hσ h1,h2⟩;have hF:e.den I env=some (.i 0)->∀q∈(e.sub σ).flat false++K,q.den I env':=fun h1=>Ck (p:=.ff (e.sub σ)) hK (E.ze hσ h1);split at h
   . rename_i hk;simp only [Bool.and_eq_true] at hk;exact ⟨fun n h1 h2=>iha hs hs' hσ (hT n h1 h2) (Tree.kF hk.1),fun h1=>ihb hs hs' hσ (hF h1) (Tree.kF hk.2)⟩
   . exact ⟨fun n h1 h2=>iha hs hs' hσ (hT n h1 h2) (h.1 n (E.ze hσ h1) h2),fun h1=>ihb hs hs' hσ (hF h1) (h.2 (E.ze hσ h1))⟩
 | both a b iha ihb=>
   intro ss σ ss' K env env' hs hs' hσ hK h;simp only [Tree.tidy] at h;split at h
   . rename_i hk;exact ⟨iha hs hs' hσ hK (Tree.kF hk),ihb hs hs' hσ hK h⟩
   split at h
   . rename_i hk;exact ⟨iha hs hs' hσ hK h,ihb hs hs' hσ hK (Tree.kF hk)⟩
   . exact ⟨iha hs hs' hσ hK h.1,ihb hs hs' hσ hK h.2⟩
 | qp s t ih=>
   intro ss σ ss' K env env' hs hs' hσ hK h;simp only [Tree.tidy] at h
   have go:∀d:D,d.is s->(∀q∈K,q.den I (env'++[d]))/\qg I (env'++[d]) (σ++[.var ss'.length])=some (env++[d]):=fun d _=>
     ⟨fun q hq=>PE.zT (hK q hq),Yv (by simp only [E.den,<-hs'.length,List.getElem?_concat_length]) (lS hσ)⟩
   cases s with
   | true=>
     intro f;obtain ⟨hK',S9⟩:=go (.t f) trivial;split at h
     . rename_i hk;exact ih (hs.app (b:=true) trivial) (hs'.app (b:=true) (d:=.t f) trivial) S9 hK' (Tree.kF hk)
     . exact ih (hs.app (b:=true) trivial) (hs'.app (b:=true) (d:=.t f) trivial) S9 hK' (h f)
   | false=>
     intro f;obtain ⟨hK',S9⟩:=go (.i f) trivial;split at h
     . rename_i hk;exact ih (hs.app (b:=false) trivial) (hs'.app (b:=false) (d:=.i f) trivial) S9 hK' (Tree.kF hk)
     . exact ih (hs.app (b:=false) trivial) (hs'.app (b:=false) (d:=.i f) trivial) S9 hK' (h f)
def Tree.ZK:Tree->Bool
 | .qp _ _=>true
 | _=>false
def Tree.wB (fs:Nat->Option Bool):List Bool->List Bool->List E->List Bool->List PE->Tree->Tree
 | _,_,_,_,_,.ok=>.ok
 | _,_,_,_,_,.fail n=>.fail n
 | _,ss,σ,ss',K,.assert p t=>bif p.plain ss then t.wB fs [] ss σ ss' K else if p.sorted fs ss then
     let q:=p.sub σ
     if known fs ss' K q then t.wB fs [] ss σ ss' K else .assert q (t.wB fs [] ss σ ss' (q.flat++K))
   else .fail 200
 | _,ss,σ,ss',K,.assume p t=>
   let q:=p.sub σ
   if known fs ss' K q then t.wB fs [] ss σ ss' K else
   let t':=t.wB fs [] ss (defined σ p) ss' (q.flat++K)
   if t'.isOk then .ok else .assume q t'
 | _,ss,σ,ss',K,.branch e a b=>if e.qR fs ss=some false then
     let c:=e.sub σ
     if known fs ss' K (.tt c) then a.wB fs [] ss σ ss' K else if known fs ss' K (.ff c) then b.wB fs [] ss σ ss' K else
     let a':=a.wB fs [] ss σ ss' (c.flat true++K);let b':=b.wB fs [] ss σ ss' (c.flat false++K)
     if a'.isOk && b'.isOk then .ok else .branch c a' b'
   else .fail 201
 | _,ss,σ,ss',K,.both a b=>
   let a':=a.wB fs [] ss σ ss' K;let b':=b.wB fs [] ss σ ss' K
   if a'.isOk then b' else if b'.isOk then a' else .both a' b'
 | hv,ss,σ,ss',K,.qp s t=>
   let t':=match t.ZK with
     | true=>t.wB fs (s::hv) ss σ ss' K
     | false=>t.wB fs [] (ss++(s::hv).reverse) (σ++ji ss'.length (s::hv).length) (ss'++(s::hv).reverse) K
   if t'.isOk then .ok else .qp s t'
theorem Tree.vT {fs:Nat->Option Bool}:∀{t:Tree},(∀ss σ ss' K,t.wB fs [] ss σ ss' K=t.tidy fs ss σ ss' K)/\
   (t.ZK=true->∀hv ss σ ss' K,t.wB fs hv ss σ ss' K=t.tidy fs (ss++hv.reverse) (σ++ji ss'.length hv.length) (ss'++hv.reverse) K):=by
 intro t
 induction t with
 | ok=>exact ⟨fun _ _ _ _=>rfl,fun h=>by cases h⟩
 | fail n=>exact ⟨fun _ _ _ _=>rfl,fun h=>by cases h⟩
 | assert p t ih=>exact ⟨fun _ _ _ _=>by simp only [Tree.wB,Tree.tidy,ih.1],fun h=>by cases h⟩
 | assume p t ih=>exact ⟨fun _ _ _ _=>by simp only [Tree.wB,Tree.tidy,ih.1],fun h=>by cases h⟩
 | branch e a b iha ihb=>exact ⟨fun _ _ _ _=>by simp only [Tree.wB,Tree.tidy,iha.1,ihb.1],fun h=>by cases h⟩
 | both a b iha ihb=>exact ⟨fun _ _ _ _=>by simp only [Tree.wB,Tree.tidy,iha.1,ihb.1],fun h=>by cases h⟩
 | qp s t ih=>
   have key:∀hv ss σ ss' K,(Tree.qp s t).wB fs hv ss σ ss' K=(Tree.qp s t).tidy fs (ss++hv.reverse) (σ++ji ss'.length hv.length) (ss'++hv.reverse) K:=by
     intro hv ss σ ss' K
     have e:(match t.ZK with
         | true=>t.wB fs (s::hv) ss σ ss' K
         | false=>t.wB fs [] (ss++(s::hv).reverse) (σ++ji ss'.length (s::hv).length) (ss'++(s::hv).reverse) K) =
         t.tidy fs ((ss++hv.reverse)++[s]) ((σ++ji ss'.length hv.length)++[.var (ss'++hv.reverse).length]) ((ss'++hv.reverse)++[s]) K:=by
       have e1:(σ++ji ss'.length hv.length)++[E.var (ss'++hv.reverse).length]=σ++ji ss'.length (s::hv).length:=by
         rw [List.length_cons,uq,List.append_assoc,List.length_append,List.length_reverse]
       have e2:∀l:List Bool,(l++hv.reverse)++[s]=l++(s::hv).reverse:=fun l=>by rw [List.reverse_cons,List.append_assoc]
       rw [e1,e2,e2];cases h:t.ZK with
       | true=>exact ih.2 h _ _ _ _ _
       | false=>exact ih.1 _ _ _ _
     simp only [Tree.wB,Tree.tidy];rw [e]
   refine ⟨fun ss σ ss' K=>?_,fun _=>key⟩;have:=key [] ss σ ss' K;simpa [ji,Qa] using this
def ql (fs:Nat->Option Bool) (cx:Cx) (fuel:Nat) (c:Contract):Tree:=(verify cx fuel c).wB fs [] c.sorts (ji 0 c.sorts.length) c.sorts []
theorem Wh {fs:Nat->Option Bool} {cx:Cx} {fuel:Nat} {c:Contract}:ql fs cx fuel c=(verify cx fuel c).tidy fs c.sorts (ji 0 c.sorts.length) c.sorts []:=Tree.vT.1 _ _ _ _
theorem nu {fs:Nat->Option Bool} (hI:I.tot fs) {cx:Cx} (hC:∀c∈cx.cs,COk I cx.P cx.kn.globs c) {fuel:Nat} {c:Contract} (h:∀ds,Sorts c.sorts ds->(ql fs cx fuel c).vc I ds):COk I cx.P cx.kn.globs c:=
 Yl hC fun ds hd=>by
   have h1:=Qf (I:=I) (env:=[]) (outs:=ds) ds.length (Nat.le_refl _);simp only [List.nil_append,List.length_nil,List.take_length] at h1;rw [hd.length] at h1;have h2:=h ds hd;rw [Wh] at h2;exact Tree.Cr hI hd hd h1 (by simp) h2
theorem kg {fs:Nat->Option Bool} (hI:I.tot fs) {cx:Cx} (hC:∀c∈cx.cs,COk I cx.P cx.kn.globs c) {fuel:Nat} {c:Contract} (h:(ql fs cx fuel c).isOk=true):COk I cx.P cx.kn.globs c:=
 nu hI hC fun _ _=>Tree.kF h
def kM:Nat->Option Bool:=fun _=>none
theorem qV (I:Itp):I.tot kM:=fun _ _ h=>by cases h
end Go.Sx
noncomputable section
namespace Go.Sx
open Go
variable {f:Nat->D->D->D->D->Option D} {p q:Nat->List D->Prop} {P:Program} {g:G} {A:Amb}
theorem E.jv (env:List D):∀e:E,e.den ⟨f,p⟩ env=e.den ⟨f,q⟩ env:=by
 intro e
 induction e with
 | lit n=>rfl
 | zt=>rfl
 | kt row=>rfl
 | bt b=>rfl
 | var i=>rfl
 | bin o a b iha ihb=>simp only [E.den,iha,ihb]
 | wrap k a ih=>simp only [E.den,ih]
 | sel t r c iht ihr=>simp only [E.den,iht,ihr]
 | upd t r c v iht ihr ihv=>simp only [E.den,iht,ihr,ihv]
 | cat t n u iht ihn ihu=>simp only [E.den,iht,ihn,ihu]
 | sh t n iht ihn=>simp only [E.den,iht,ihn]
 | teq t n u m iht ihn ihu ihm=>simp only [E.den,iht,ihn,ihu,ihm]
 | fn j a b c d iha ihb ihc ihd=>simp only [E.den,iha,ihb,ihc,ihd];rfl
mutual
theorem Rel.pr:∀{v:AV} {x:Value},Rel ⟨f,p⟩ g v x->Rel ⟨f,q⟩ g v x:=by
 intro v x h;have he:∀(e:E) (d:D),e.den ⟨f,p⟩ g.env=some d->e.den ⟨f,q⟩ g.env=some d:=fun e d h=>by rw [<-E.jv (p:=p)];exact h
 match v with
 | .any=>simp [Rel]
 | .undef=>simpa [Rel] using h
 | .bool e=>obtain ⟨n,h1,h2⟩:=h;exact ⟨n,he _ _ h1,h2⟩
 | .int k e=>obtain ⟨n,h1,h2⟩:=h;exact ⟨n,he _ _ h1,h2⟩
 | .wP=>simpa [Rel] using h
 | .ptr b r s k=>obtain ⟨n,p',h1,h2⟩:=h;exact ⟨n,p',he _ _ h1,h2⟩
 | .qJ=>simpa [Rel] using h
 | .slice b lo n s nl=>obtain ⟨l,m,h1,h2,h3⟩:=h;exact ⟨l,m,he _ _ h1,he _ _ h2,h3⟩
 | .func fn l=>obtain ⟨cs,h1,h2⟩:=h;exact ⟨cs,h1,qw.pr h2⟩
 | .yld b=>exact h
 | .jY=>simpa [Rel] using h
 | .agg l=>obtain ⟨cs,h1,h2⟩:=h;exact ⟨cs,h1,qw.pr h2⟩
 | .tup l=>obtain ⟨cs,h1,h2⟩:=h;exact ⟨cs,h1,qw.pr h2⟩
 | .big l ks t n m=>obtain ⟨tf,xs,ys,zs,h1,h2,h3,h4,h5⟩:=h;exact ⟨tf,xs,ys,zs,he _ _ h1,h2,qw.pr h3,qw.pr h4,h5⟩
 | .cap0=>simpa [Rel] using h
 | .empty=>simpa [Rel] using h
 | .asl b k n s=>simpa [Rel] using h
 | .yN fn l m=>obtain ⟨ms,cs,h1,h2,h3⟩:=h;exact ⟨ms,cs,h1,qw.pr h2,qw.pr h3⟩
 | .bK b k=>simpa [Rel] using h
 | .str l=>simpa [Rel] using h
 | .wE t n=>obtain ⟨tf,k,s,h1,h2,h3⟩:=h;exact ⟨tf,k,s,he _ _ h1,he _ _ h2,h3⟩
 | .mM=>simpa [Rel] using h
 | .mref b=>simpa [Rel] using h
 | .gV=>simpa [Rel] using h
 | .xk=>simpa [Rel] using h
 | .sat e=>obtain ⟨n,h1,h2⟩:=h;exact ⟨n,he _ _ h1,h2⟩
 | .lst ks e=>obtain ⟨n,h1,h2⟩:=h;exact ⟨n,he _ _ h1,h2⟩
 | .ifo e=>obtain ⟨n,h1,h2⟩:=h;exact ⟨n,he _ _ h1,h2⟩
 | .gZ a=>obtain ⟨o,k,z,y,h1,h2,h3,h4⟩:=h;exact ⟨o,k,z,y,h1,h2,h3,Rel.pr h4⟩
 | .fco cs e=>obtain ⟨n,h1,h2⟩:=h;exact ⟨n,he _ _ h1,h2⟩
 | .xV ks e i k=>obtain ⟨n,j,h1,h2,h3⟩:=h;exact ⟨n,j,he _ _ h1,he _ _ h2,h3⟩
theorem qw.pr:∀{l:List AV} {xs:List Value},qw ⟨f,p⟩ g l xs->qw ⟨f,q⟩ g l xs:=by
 intro l xs h
 match l,xs with
 | [],[]=>trivial
 | v::l,x::xs=>exact ⟨Rel.pr h.1,qw.pr h.2⟩
 | [],_::_=>simp [qw] at h
 | _::_,[]=>simp [qw] at h
end
theorem jO.pr:∀{op:Option E} {k:Option Int},jO ⟨f,p⟩ g op k->jO ⟨f,q⟩ g op k
 | none,none,_=>trivial
 | some _,some _,h=>by simp only [jO] at h ⊢;rw [<-E.jv (p:=p)];exact h
 | none,some _,h=>h.elim
 | some _,none,h=>h.elim
theorem jN.pr {b:Nat} {H:Nat->Option Obj}:∀{x:Blk},jN ⟨f,p⟩ P g b H x->jN ⟨f,q⟩ P g b H x
 | .cells l wr,⟨pb,c,T,fr,h1,h2,h3,h4⟩=>⟨pb,c,T,fr,h1,h2,fun i v hv=>let ⟨x,a,b⟩:=h3 i v hv;⟨x,a,Rel.pr b⟩,h4⟩
 | .rows ks t len wr nl,⟨tf,n,h1,h2,h3⟩=>⟨tf,n,by rw [<-E.jv (p:=p)];exact h1,by rw [<-E.jv (p:=p)];exact h2,h3⟩
 | .ovr ks t len e l wr nl,⟨tf,n,m,h1,h2,h2',h3,h4⟩=>⟨tf,n,m,by rw [<-E.jv (p:=p)];exact h1,by rw [<-E.jv (p:=p)];exact h2,by rw [<-E.jv (p:=p)];exact h2',h3,
     h4.imp (fun ⟨pb,c,T,fr,h5,h6,h7,h8,h9⟩=>⟨pb,c,T,fr,h5,h6,h7,fun a d j v hv=>let ⟨x,y,z⟩:=h8 a d j v hv;⟨x,y,Rel.pr z⟩,h9⟩) id⟩
 | .big l ks t n m wr,⟨pb,c,T,fr,tf,h1,h2,h3,h4,h5,h6,h7⟩=>
   ⟨pb,c,T,fr,tf,h1,h2,by rw [<-E.jv (p:=p)];exact h3,fun i v hv=>let ⟨x,a,b⟩:=h4 i v hv;⟨x,a,Rel.pr b⟩,h5,fun i v hv=>let ⟨x,a,b⟩:=h6 i v hv;⟨x,a,Rel.pr b⟩,h7⟩
 | .loop st pend fn ix nt ts d,⟨pb,qb,r,rf,h1,h2,h3,h4,h5,h6,h7,h8,h9,h10,h11,h12⟩=>
   ⟨pb,qb,r,rf,h1,h2,h3,h4,h5,h6,h7,h8,h9,h10,h11,fun t v a b=>let ⟨x,c,d⟩:=h12 t v a b;⟨x,c,Rel.pr d⟩⟩
 | .dfr sh,h=>h
 | .mp l m,⟨pb,es,c,h1,h2,h3,h4⟩=>⟨pb,es,c,h1,h2,qw.pr h3,qw.pr h4⟩
 | .smp _ _ _ _ _,⟨pb,es,c,tf,h1,h2,h3,h4,h5⟩=>⟨pb,es,c,tf,h1,h2,by rw [<-E.jv (p:=p)];exact h3,by rw [<-E.jv (p:=p)];exact h4,h5⟩
 | .iter _ _ _,⟨pb,n,m,h1,h2,h3,h4,h5⟩=>⟨pb,n,m,h1,h2,by rw [<-E.jv (p:=p)];exact h3,by rw [<-E.jv (p:=p)];exact h4,h5⟩
 | .bld _ _ _,⟨pb,n,x,y,h1,h2,h3,h4,h5⟩=>⟨pb,n,x,y,h1,h2,h3,by rw [<-E.jv (p:=p)];exact h4,h5⟩
 | .byt _ _,⟨n,h1,h2⟩=>⟨n,by rw [<-E.jv (p:=p)];exact h1,h2⟩
 | .fam _ _ _,⟨pb,es,c,tf,k,h1,h2,h3,h4,h5⟩=>⟨pb,es,c,tf,k,h1,h2,by rw [<-E.jv (p:=p)];exact h3,jO.pr h4,h5⟩
theorem zV.pr {b o:Nat} {H:Nat->Option Obj}:∀{x:Blk},zV H ⟨f,p⟩ g b x o->zV H ⟨f,q⟩ g b x o
 | .fam _ _ _,⟨pb,es,c,k,κ,h1,h2,h3,h4⟩=>⟨pb,es,c,k,κ,h1,h2,jO.pr h3,h4⟩
theorem qX.pr {M:Mem} {w:World} (h:qX A ⟨f,p⟩ P g M w):qX A ⟨f,q⟩ P g M w where
 wf:=h.wf
 blk:=fun b x hb=>jN.pr (h.blk b x hb)
 lt:=h.lt
 inj:=h.inj
 bnd:=h.bnd
 own:=h.own
 size:=h.size
 keep:=h.keep
 same:=h.same
 fam:=fun b x o hx hr=>let ⟨h1,h2,h3,h4⟩:=h.fam b x o hx (zV.pr hr);⟨h1,h2,h3,fun c y hc hr=>h4 c y hc (zV.pr hr)⟩
 frz:=fun o cs hz=>let ⟨h1,h2,h3,h4,h5⟩:=h.frz o cs hz;⟨h1,h2,h3,h4,fun b x hx hr=>h5 b x hx (zV.pr hr)⟩
theorem MX (env:List D):∀l:List E,qg ⟨f,p⟩ env l=qg ⟨f,q⟩ env l
 | []=>rfl
 | e::l=>by simp only [qg,E.jv (p:=p) (q:=q) env e,MX env l]
theorem PE.jv {env:List D}:∀{e:PE},(∀j l,e=.pr j l->∀ds,p j ds->q j ds)->e.den ⟨f,p⟩ env->e.den ⟨f,q⟩ env
 | .tt e,_,⟨n,h1,h2⟩=>⟨n,by rw [<-E.jv (p:=p)];exact h1,h2⟩
 | .ff e,_,h=>by have h:e.den ⟨f,p⟩ env=some (.i 0):=h;show e.den ⟨f,q⟩ env=some (.i 0);rw [<-E.jv (p:=p)];exact h
 | .rng k e,_,⟨n,h1,h2⟩=>⟨n,by rw [<-E.jv (p:=p)];exact h1,h2⟩
 | .same a b,_,⟨d,h1,h2⟩=>⟨d,by rw [<-E.jv (p:=p)];exact h1,by rw [<-E.jv (p:=p)];exact h2⟩
 | .pr j l,hj,⟨ds,h1,h2⟩=>⟨ds,by rw [<-MX (p:=p)];exact h1,hj j l rfl ds h2⟩
 | .sort true e,_,⟨n,h1⟩=>⟨n,by rw [<-E.jv (p:=p)];exact h1⟩
 | .sort false e,_,⟨n,h1⟩=>⟨n,by rw [<-E.jv (p:=p)];exact h1⟩
 | .col _ _ _ _,_,⟨f,h1,h2⟩=>⟨f,by rw [<-E.jv (p:=p)];exact h1,h2⟩
 | .agr _ _ _ _,_,⟨f,g,k,h1,h2,h3,h4⟩=>⟨f,g,k,by rw [<-E.jv (p:=p)];exact h1,by rw [<-E.jv (p:=p)];exact h2,by rw [<-E.jv (p:=p)];exact h3,h4⟩
 | .byt _ _,_,⟨f,k,h1,h2,h3⟩=>⟨f,k,by rw [<-E.jv (p:=p)];exact h1,by rw [<-E.jv (p:=p)];exact h2,h3⟩
theorem COk.pr {gl:List Glob} {c:Contract} {pre post:List PE} (h:COk ⟨f,p⟩ P gl c) (hpre:∀env,Sorts c.sorts env->(∀e∈pre,e.den ⟨f,q⟩ env)->∀e∈c.pre,e.den ⟨f,p⟩ env)
   (hpost:∀env,(∀e∈c.post,e.den ⟨f,p⟩ env)->∀e∈post,e.den ⟨f,q⟩ env):COk ⟨f,q⟩ P gl { c with pre:=pre,post:=post }:=by
 intro g w xs hso hnb hG hm ha hp;refine (h g w xs hso hnb hG hm.pr (qw.pr ha) (hpre _ hso hp)).mono fun e w' he=>?_;obtain ⟨v,outs,g',h1,h2,h3,h4,h5,hz,h6,h7,h8⟩:=he;exact ⟨v,outs,g',h1,h2,h3,h4,h5,hz,h6.pr,h7.pr,hpost _ h8⟩
theorem COk.weak {I:Itp} {gl:List Glob} {c:Contract} {post:List PE} (h:COk I P gl c)
   (hpost:∀env outs,Sorts c.sorts env->Sorts c.outs outs->(∀e∈c.pre,e.den I env)->(∀e∈c.post,e.den I (env++outs))->∀e∈post,e.den I (env++outs)):COk I P gl { c with post:=post }:=by
 intro g w xs hso hnb hG hm ha hp;refine (h g w xs hso hnb hG hm ha hp).mono fun e w' he=>?_;obtain ⟨v,outs,g',h1,h2,h3,h4,h5,hz,h6,h7,h8⟩:=he;exact ⟨v,outs,g',h1,h2,h3,h4,h5,hz,h6,h7,by rw [h3] at h8 ⊢;exact hpost g.env outs hso h2 hp h8⟩
end Go.Sx
noncomputable section
namespace Go.Sx
open Go Go.ChangeShapes Go.WideShapes Go.ChangeAt Go.RowKit
structure Kept (W W':World):Prop where
 os:W'.os=W.os
 output:W'.output=W.output
 size:W.heap.size<=W'.heap.size
 old:∀i,i<W.heap.size->W'.heap[i]?=W.heap[i]?
theorem Kept.refl (W:World):Kept W W:=⟨rfl,rfl,Nat.le_refl _,fun _ _=>rfl⟩
theorem Kept.keptBut {W W':World} (h:Kept W W') (may:MemPlace->Prop):W.keptBut W' may:=by
 refine ⟨h.os,h.output,fun i hi=>?_⟩;rw [h.old i hi];split
 . rename_i a b;cases b.symm.trans a;exact ⟨rfl,rfl,rfl,fun _ _=>rfl⟩
 . rename_i a b;cases b.symm.trans a;exact .inr ⟨rfl,rfl⟩
 . rfl
theorem Kept.sameAt {W W':World} (h:Kept W W') {p:MemPlace} (hp:p.block<W.heap.size):W.sameAt W' p:=by
 cases p with
 | cell b off=>simp only [World.sameAt,World.cell?];rw [h.old b hp]
 | map b=>exact h.old b hp
variable {H:Type} {enc:TypeId × Value->H} {P:Program}
theorem Kept.trodAll {W W':World} (h:Kept W W') (hl:laidOutB P=true):∀{ts:List TypeId} {vs:List Value} {ds:List (DataW H)} {ps:List MemPlace},(∀t∈ts,P.readableRec t=true/\t<P.types.size)->
   DataW.TrodAll enc P W 0 (fun _=>true) true ts vs ds ps->(∀p∈ps,p.block<W.heap.size)->∀sp:Nat->Bool,(∀p∈ps,sp p.block=true)->DataW.TrodAll enc P W' 0 sp true ts vs ds ps
 | [],_,_,_,_,ht,_,_,_=>by
   obtain ⟨rfl,rfl,rfl⟩:=trodAll_nil ht;exact trodAll_mk0
 | t::ts,_,_,_,hr,ht,hlt,sp,hs=>by
   obtain ⟨v,vs',d,ds',p,q,rfl,rfl,rfl,h0,r0⟩:=trodAll_cons ht;have hr0:=hr t (by simp)
   exact trodAll_cons_mk (WideElems.Trod_stays hl hr0.1 hr0.2 h0 (fun x hx=>h.sameAt (hlt x (by simp [hx]))) (fun x hx=>hs x (by simp [hx])))
     (Kept.trodAll h hl (fun t ht=>hr t (by simp [ht])) r0 (fun p hp=>hlt p (by simp [hp])) sp (fun p hp=>hs p (by simp [hp])))
theorem SB {f:Func} {s:ChangeSpec} {tb:TypeId} {apart fresh:Bool} {W W':World} {args:Array Value} {ds gs:List (DataW H)} {before:List MemPlace}
   (hl:laidOutB P=true) (hrt:f.resultTypes=#[tb]) (hb:P.underlying tb=some .bool) (hv:s.vars=[]) (hrd:∀t∈f.params.toList,P.readableRec t=true/\t<P.types.size)
   (hres:(s.fn H (ds++gs)).results=[.lit (.bool true)]) (hargs:(s.fn H (ds++gs)).args=ds) (hvs:(s.fn H (ds++gs)).vars=[])
   (hW:DataW.Whole enc P f.params.toList s.vars apart W args.toList ds gs before) (hk:Kept W W'):s.post enc P f apart fresh false false W args (.bool true) W':=by
 have hlt:=hW.lt;have hW0:=hW;obtain ⟨p,q,hA,hV,rfl,hz,hn⟩:=hW;rw [hv] at hV;obtain ⟨rfl,rfl⟩:=trodVars_none hV;simp only [List.append_nil] at hW0 hlt hres hargs hvs hz hn;have hA':∀sp:Nat->Bool,(∀x∈p,sp x.block=true)->DataW.TrodAll enc P W' 0 sp true f.params.toList args.toList ds p:=hk.trodAll hl hrd hA hlt
 have hR:∀(b:Nat) (sp:Nat->Bool) (hd:Bool),DataW.TrodAll enc P W' b sp hd f.resultTypes.toList ((Value.bool true).resultList f.resultTypes.size) [.lit (.bool true)] []:=fun b sp hd=>by
   rw [hrt];exact trodAll_mk1 (shut_bool hb true)
 refine ⟨ds,[],p,[],p,[],hW0,?_,?_,?_,World.keptBut_mono (fun x hx=>⟨hx,.inr (.inl hx)⟩) (hk.keptBut _),fun h=>by cases h⟩
 . simp only [List.append_nil,hres];exact hR _ _ _
 . simp only [List.append_nil,hargs];exact hA' _ fun x hx=>by simpa using hlt x hx
 . simp only [List.append_nil,hvs,hv];rfl
end Go.Sx
end
namespace Go.Sx
open Go
theorem uR {P:Prop} [Decidable P]:((if P then (1:Int) else 0)≠0)=P:=by by_cases h:P <;> simp [h]
theorem uS {P:Prop} [Decidable P]:((if P then (1:Int) else 0)=0)=¬P:=by by_cases h:P <;> simp [h]
theorem ny {P:Prop} [Decidable P]:((if P then (0:Int) else 1)≠0)=¬P:=by by_cases h:P <;> simp [h]
theorem zero_eq {P:Prop} [Decidable P]:((if P then (0:Int) else 1)=0)=P:=by by_cases h:P <;> simp [h]
theorem min_i64:IntKind.i64.min=-9223372036854775808:=rfl
theorem max_i64:IntKind.i64.max=9223372036854775807:=rfl
theorem min_u8:IntKind.u8.min=0:=rfl
theorem max_u8:IntKind.u8.max=255:=rfl
theorem min_u16:IntKind.u16.min=0:=rfl
theorem max_u16:IntKind.u16.max=65535:=rfl
theorem min_u32:IntKind.u32.min=0:=rfl
theorem max_u32:IntKind.u32.max=4294967295:=rfl
theorem min_u64:IntKind.u64.min=0:=rfl
theorem max_u64:IntKind.u64.max=18446744073709551615:=rfl
theorem M5 {l:List Bool} {Q:List D->Prop} (h:∀T ds,Sorts l ds->Q (.t T::ds)):∀ds,Sorts (true::l) ds->Q ds:=by
 intro ds hs
 match ds,hs with
 | .t T::ds,hs=>exact h T ds hs
 | [],hs=>exact hs.elim
 | .i _::_,hs=>exact hs.elim
theorem KL {Q:List D->Prop} (h:Q []):∀ds,Sorts [] ds->Q ds:=by
 intro ds hs
 match ds,hs with
 | [],_=>exact h
 | _::_,hs=>exact hs.elim
theorem qG {I:Itp} {P:Program} {gl:List Glob}:∀c∈([]:List Contract),COk I P gl c:=fun _ h=>by cases h
theorem qx {I:Itp} {P:Program} {gl:List Glob} {c:Contract} {l:List Contract} (h:COk I P gl c) (hl:∀c∈l,COk I P gl c):∀d∈c::l,COk I P gl d:=fun d hd=>by
 rcases List.mem_cons.1 hd with rfl | hd
 . exact h
 . exact hl d hd
theorem qN {fs:Nat->Option Bool} {I:Itp} (hI:I.tot fs) {cx:Cx} {fuel:Nat} {c:Contract} {t:Tree} (hC:∀c∈cx.cs,COk I cx.P cx.kn.globs c) (ht:ql fs cx fuel c=t) (h:∀ds,Sorts c.sorts ds->t.vc I ds):COk I cx.P cx.kn.globs c:=
 nu hI hC fun ds hs=>by rw [ht];exact h ds hs
theorem RB {x:Int} (h0:0<=x) (h1:x<1024):wR 6 .i64 x 64=x / 64:=by
 have h2:x.tdiv 64=x / 64:=Int.tdiv_eq_ediv_of_nonneg h0;simp only [wR,h2,IntKind.wrap,IntKind.signed,IntKind.bits];have:x / 64 % 18446744073709551616=x / 64:=Int.emod_eq_of_lt (by omega) (by omega);simp only [Int.reducePow,Bool.true_and,this];rw [if_neg];simp;omega
theorem Qt (x:Int):wR 0 .u64 (wR 5 .u64 0 x) 1=0:=by
 have:wR 5 .u64 0 x=0:=by simp [wR]
 rw [this];rfl
end Go.Sx
noncomputable section
namespace Go.Sx
open Go
inductive Ow (W:World) (ks:List CK):Value->Int->(Int->Nat->Int)->Prop
 | none (T:Int->Nat->Int):Ow W ks (.slice none 0 0) 0 T
 | some (b off len cap:Nat) (c:Array Value) (T:TypeId) (fr:Nat × Nat) (f:Int->Nat->Int) (hl:len<=cap) (hb:W.heap[b]?=some (.cells c T fr))
     (hc:∀r j:Nat,∀k:CK,r<len->ks[j]?=some k->c[off+r*ks.length+j]?=some (k.val (f r j))) (hp:∀k∈ks,k.plain=true:=by decide):Ow W ks (.slice (some ⟨b,off,none⟩) len cap) len f
structure Oy where
 ks:List CK
 v:Value
 n:Int
 T:Int->Nat->Int
 iT:Nat
 iN:Nat
def Oy.pb (x:Oy):Option PB:=match x.v with
 | .slice (some a) _ cap=>some { blk:=a.block,base:=a.off,tot:=cap*x.ks.length }
 | _=>none
end Go.Sx
end
noncomputable section
namespace Go.Sx
open Go
variable {I:Itp}
def Tree.only:Tree->List Bool->Tree
 | t,[]=>t
 | .ok,_=>.ok
 | .fail n,_=>.fail n
 | .assert q t,p=>.assert q (t.only p)
 | .assume q t,p=>.assume q (t.only p)
 | .qp s t,p=>.qp s (t.only p)
 | .branch e a _,true::p=>.branch e (a.only p) .ok
 | .branch e _ b,false::p=>.branch e .ok (b.only p)
 | .both a _,true::p=>a.only p
 | .both _ b,false::p=>b.only p
def mQ (q:PE) (t:Tree):Tree:=if t.isOk then .ok else .assume q t
def mo (c:E) (a b:Tree):Tree:=if a.isOk && b.isOk then .ok else .branch c a b
def eF (a b:Tree):Tree:=if a.isOk then b else if b.isOk then a else .both a b
def lZ (s:Bool) (t:Tree):Tree:=if t.isOk then .ok else .qp s t
theorem vE {q:PE} {t:Tree} {env:List D}:(mQ q t).vc I env↔(Tree.assume q t).vc I env:=by
 unfold mQ;split
 . rename_i h;exact ⟨fun _ _=>Tree.kF h,fun _=>trivial⟩
 . exact Iff.rfl
theorem vO {c:E} {a b:Tree} {env:List D}:(mo c a b).vc I env↔(Tree.branch c a b).vc I env:=by
 unfold mo;split
 . rename_i h;simp only [Bool.and_eq_true] at h;exact ⟨fun _=>⟨fun _ _ _=>Tree.kF h.1,fun _=>Tree.kF h.2⟩,fun _=>trivial⟩
 . exact Iff.rfl
theorem lJ {a b:Tree} {env:List D}:(eF a b).vc I env↔(Tree.both a b).vc I env:=by
 unfold eF;split
 . rename_i h;exact ⟨fun hb=>⟨Tree.kF h,hb⟩,fun h=>h.2⟩
 . split
   . rename_i h;exact ⟨fun ha=>⟨ha,Tree.kF h⟩,fun h=>h.1⟩
   . exact Iff.rfl
theorem nD {s:Bool} {t:Tree} {env:List D}:(lZ s t).vc I env↔(Tree.qp s t).vc I env:=by
 unfold lZ;split
 . rename_i h;refine ⟨fun _=>?_,fun _=>trivial⟩;cases s with
   | true=>exact fun _=>Tree.kF h
   | false=>exact fun _=>Tree.kF h
 . exact Iff.rfl
inductive Cut where
 | leaf
 | node (a b:Cut)
theorem qc {α:Type} {Q:α->Prop} {a:α} {l:List α} (h:Q a) (hl:∀b∈l,Q b):∀b∈a::l,Q b:=fun b hb=>by
 rcases List.mem_cons.1 hb with rfl | hb
 . exact h
 . exact hl b hb
theorem Ju {α:Type} {Q:α->Prop}:∀b∈([]:List α),Q b:=fun b hb=>by cases hb
inductive Mask where
 | all
 | none
 | node (a b:Mask)
def Mask.or:Mask->Mask->Mask
 | .all,_=>.all
 | .none,m=>m
 | .node _ _,.all=>.all
 | .node a b,.none=>.node a b
 | .node a b,.node c d=>.node (a.or c) (b.or d)
def Mask.isAll:Mask->Bool
 | .all=>true
 | .none=>false
 | .node a b=>a.isAll && b.isAll
def Tree.qY:Tree->Mask->Tree
 | t,.all=>t
 | _,.none=>.ok
 | .ok,_=>.ok
 | .fail n,_=>.fail n
 | .assert q t,m=>.assert q (t.qY m)
 | .assume q t,m=>mQ q (t.qY m)
 | .qp s t,m=>lZ s (t.qY m)
 | .branch e a b,.node l r=>mo e (a.qY l) (b.qY r)
 | .both a b,.node l r=>eF (a.qY l) (b.qY r)
theorem Tree.PD:∀{t:Tree} {m:Mask} {env:List D},t.vc I env->(t.qY m).vc I env:=by
 intro t
 induction t with
 | ok=>intro m env _;cases m <;> trivial
 | fail n=>intro m env h;exact h.elim
 | assert q t ih=>
   intro m env h;cases m with
   | all=>exact h
   | none=>trivial
   | node l r=>exact ⟨h.1,ih h.2⟩
 | assume q t ih=>
   intro m env h;cases m with
   | all=>exact h
   | none=>trivial
   | node l r=>exact vE.2 fun hq=>ih (h hq)
 | branch e a b iha ihb=>
   intro m env h;cases m with
   | all=>exact h
   | none=>trivial
   | node l r=>exact vO.2 ⟨fun n hn h0=>iha (h.1 n hn h0),fun hn=>ihb (h.2 hn)⟩
 | both a b iha ihb=>
   intro m env h;cases m with
   | all=>exact h
   | none=>trivial
   | node l r=>exact lJ.2 ⟨iha h.1,ihb h.2⟩
 | qp s t ih=>
   intro m env h;cases m with
   | all=>exact h
   | none=>trivial
   | node l r=>
     refine nD.2 ?_;cases s with
     | true=>exact fun f=>ih (h f)
     | false=>exact fun f=>ih (h f)
def Tree.jK (fs:Nat->Option Bool):List Bool->List E->List Bool->List PE->Tree->Mask->Tree
 | ss,σ,ss',K,t,.all=>t.tidy fs ss σ ss' K
 | _,_,_,_,_,.none=>.ok
 | _,_,_,_,.ok,.node _ _=>.ok
 | _,_,_,_,.fail n,.node _ _=>.fail n
 | ss,σ,ss',K,.assert p t,.node l r=>bif p.plain ss then t.jK fs ss σ ss' K (.node l r) else if p.sorted fs ss then
     let q:=p.sub σ
     if known fs ss' K q then t.jK fs ss σ ss' K (.node l r) else .assert q (t.jK fs ss σ ss' (q.flat++K) (.node l r))
   else .fail 200
 | ss,σ,ss',K,.assume p t,.node l r=>
   let q:=p.sub σ
   if known fs ss' K q then t.jK fs ss σ ss' K (.node l r) else mQ q (t.jK fs ss (defined σ p) ss' (q.flat++K) (.node l r))
 | ss,σ,ss',K,.branch e a b,.node l r=>if e.qR fs ss=some false then
     let c:=e.sub σ
     if known fs ss' K (.tt c) then a.jK fs ss σ ss' K (.node l r) else if known fs ss' K (.ff c) then b.jK fs ss σ ss' K (.node l r) else
     mo c (a.jK fs ss σ ss' (c.flat true++K) l) (b.jK fs ss σ ss' (c.flat false++K) r)
   else .fail 201
 | ss,σ,ss',K,.both a b,.node l r=>eF (a.jK fs ss σ ss' K l) (b.jK fs ss σ ss' K r)
 | ss,σ,ss',K,.qp s t,.node l r=>lZ s (t.jK fs (ss++[s]) (σ++[.var ss'.length]) (ss'++[s]) K (.node l r))
section
variable {fs:Nat->Option Bool}
theorem Tree.ZT {ss:List Bool} {σ:List E} {ss':List Bool} {K:List PE} (t:Tree):t.jK fs ss σ ss' K .none=.ok:=by cases t <;> rfl
theorem Tree.P8:∀{t:Tree} {ss:List Bool} {σ:List E} {ss':List Bool} {K:List PE} {m n:Mask} {env:List D},
   (t.jK fs ss σ ss' K m).vc I env->(t.jK fs ss σ ss' K n).vc I env->(t.jK fs ss σ ss' K (m.or n)).vc I env:=by
 intro t
 induction t with
 | ok=>intro ss σ ss' K m n env _ _;cases m.or n <;> trivial
 | fail k=>
   intro ss σ ss' K m n env h1 h2;cases m with
   | all=>exact h1
   | none=>exact h2
   | node a b=>cases n <;> exact h1
 | assert q t ih=>
   intro ss σ ss' K m n env h1 h2;cases m with
   | all=>exact h1
   | none=>exact h2
   | node a b=>
     cases n with
     | all=>exact h2
     | none=>exact h1
     | node c d=>
       simp only [Mask.or,Tree.jK] at h1 h2 ⊢;cases hpl:q.plain ss with
       | true=>
         rw [hpl,cond_true] at h1 h2;rw [cond_true];exact ih h1 h2
       | false=>
         rw [hpl,cond_false] at h1 h2;rw [cond_false];split
         . rename_i hs;rw [if_pos hs] at h1 h2;split
           . rename_i hk;rw [if_pos hk] at h1 h2;exact ih h1 h2
           . rename_i hk;rw [if_neg hk] at h1 h2;exact ⟨h1.1,ih h1.2 h2.2⟩
         . rename_i hs;rw [if_neg hs] at h1;exact h1
 | assume q t ih=>
   intro ss σ ss' K m n env h1 h2;cases m with
   | all=>exact h1
   | none=>exact h2
   | node a b=>
     cases n with
     | all=>exact h2
     | none=>exact h1
     | node c d=>
       simp only [Mask.or,Tree.jK] at h1 h2 ⊢;split
       . rename_i hk;rw [if_pos hk] at h1 h2;exact ih h1 h2
       . rename_i hk;rw [if_neg hk,vE] at h1 h2;rw [vE];exact fun hq=>ih (h1 hq) (h2 hq)
 | branch x a b iha ihb=>
   intro ss σ ss' K m n env h1 h2;cases m with
   | all=>exact h1
   | none=>exact h2
   | node ml mr=>
     cases n with
     | all=>exact h2
     | none=>exact h1
     | node nl nr=>
       simp only [Mask.or,Tree.jK] at h1 h2 ⊢;split
       . rename_i hs;rw [if_pos hs] at h1 h2;split
         . rename_i hk;rw [if_pos hk] at h1 h2;exact iha (m:=.node ml mr) (n:=.node nl nr) h1 h2
         . rename_i hk;rw [if_neg hk] at h1 h2;split
           . rename_i hk2;rw [if_pos hk2] at h1 h2;exact ihb (m:=.node ml mr) (n:=.node nl nr) h1 h2
           . rename_i hk2;rw [if_neg hk2,vO] at h1 h2;rw [vO];exact ⟨fun z hz h0=>iha (h1.1 z hz h0) (h2.1 z hz h0),fun hz=>ihb (h1.2 hz) (h2.2 hz)⟩
       . rename_i hs;rw [if_neg hs] at h1;exact h1
 | both a b iha ihb=>
   intro ss σ ss' K m n env h1 h2;cases m with
   | all=>exact h1
   | none=>exact h2
   | node ml mr=>
     cases n with
     | all=>exact h2
     | none=>exact h1
     | node nl nr=>
       simp only [Mask.or,Tree.jK] at h1 h2 ⊢;rw [lJ] at h1 h2 ⊢;exact ⟨iha h1.1 h2.1,ihb h1.2 h2.2⟩
 | qp s t ih=>
   intro ss σ ss' K m n env h1 h2;cases m with
   | all=>exact h1
   | none=>exact h2
   | node a b=>
     cases n with
     | all=>exact h2
     | none=>exact h1
     | node c d=>
       simp only [Mask.or,Tree.jK] at h1 h2 ⊢;rw [nD] at h1 h2 ⊢;cases s with
       | true=>exact fun f=>ih (h1 f) (h2 f)
       | false=>exact fun f=>ih (h1 f) (h2 f)
theorem Tree.BR:∀{t:Tree} {ss:List Bool} {σ:List E} {ss':List Bool} {K:List PE} {m:Mask} {env:List D},m.isAll=true->(t.jK fs ss σ ss' K m).vc I env->(t.tidy fs ss σ ss' K).vc I env:=by
 have qjc:∀{a:Tree} {c:Bool},a.isOk=c->True:=fun _=>trivial;intro t
 induction t with
 | ok=>intros;trivial
 | fail k=>intro ss σ ss' K m env hm h;cases m with
   | all=>exact h
   | none=>cases hm
   | node a b=>exact h
 | assert q t ih=>
   intro ss σ ss' K m env hm h;cases m with
   | all=>exact h
   | none=>cases hm
   | node a b=>
     simp only [Tree.jK] at h;simp only [Tree.tidy];cases hpl:q.plain ss with
     | true=>rw [hpl,cond_true] at h;rw [cond_true];exact ih hm h
     | false=>
       rw [hpl,cond_false] at h;rw [cond_false];split
       . rename_i hs;rw [if_pos hs] at h;split
         . rename_i hk;rw [if_pos hk] at h;exact ih hm h
         . rename_i hk;rw [if_neg hk] at h;exact ⟨h.1,ih hm h.2⟩
       . rename_i hs;rw [if_neg hs] at h;exact h
 | assume q t ih=>
   intro ss σ ss' K m env hm h;cases m with
   | all=>exact h
   | none=>cases hm
   | node a b=>
     simp only [Tree.jK] at h;show (if _ then _ else mQ _ _:Tree).vc I env;split
     . rename_i hk;rw [if_pos hk] at h;exact ih hm h
     . rename_i hk;rw [if_neg hk,vE] at h;rw [vE];exact fun hq=>ih hm (h hq)
 | branch x a b iha ihb=>
   intro ss σ ss' K m env hm h;cases m with
   | all=>exact h
   | none=>cases hm
   | node l r=>
     have hm2:l.isAll=true/\r.isAll=true:=by simpa [Mask.isAll] using hm
     simp only [Tree.jK] at h;show (if _ then (if _ then _ else if _ then _ else mo _ _ _) else _:Tree).vc I env;split
     . rename_i hs;rw [if_pos hs] at h;split
       . rename_i hk;rw [if_pos hk] at h;exact iha hm h
       . rename_i hk;rw [if_neg hk] at h;split
         . rename_i hk2;rw [if_pos hk2] at h;exact ihb hm h
         . rename_i hk2;rw [if_neg hk2,vO] at h;rw [vO];exact ⟨fun z hz h0=>iha hm2.1 (h.1 z hz h0),fun hz=>ihb hm2.2 (h.2 hz)⟩
     . rename_i hs;rw [if_neg hs] at h;exact h
 | both a b iha ihb=>
   intro ss σ ss' K m env hm h;cases m with
   | all=>exact h
   | none=>cases hm
   | node l r=>
     have hm2:l.isAll=true/\r.isAll=true:=by simpa [Mask.isAll] using hm
     simp only [Tree.jK,lJ] at h;show (eF _ _:Tree).vc I env;rw [lJ];exact ⟨iha hm2.1 h.1,ihb hm2.2 h.2⟩
 | qp s t ih=>
   intro ss σ ss' K m env hm h;cases m with
   | all=>exact h
   | none=>cases hm
   | node a b=>
     simp only [Tree.jK,nD] at h;show (lZ _ _:Tree).vc I env;rw [nD];cases s with
     | true=>exact fun f=>ih hm (h f)
     | false=>exact fun f=>ih hm (h f)
end
def Vp (l:Mask) (t:Tree):Tree:=match l with
 | .none=>.ok
 | _=>t
def Tree.xZ (fs:Nat->Option Bool):List Bool->List E->List Bool->List PE->Tree->Mask->Tree
 | ss,σ,ss',K,t,.all=>t.wB fs [] ss σ ss' K
 | _,_,_,_,_,.none=>.ok
 | _,_,_,_,.ok,.node _ _=>.ok
 | _,_,_,_,.fail n,.node _ _=>.fail n
 | ss,σ,ss',K,.assert p t,.node l r=>bif p.plain ss then t.xZ fs ss σ ss' K (.node l r) else if p.sorted fs ss then
     let q:=p.sub σ
     if known fs ss' K q then t.xZ fs ss σ ss' K (.node l r) else .assert q (t.xZ fs ss σ ss' (q.flat++K) (.node l r))
   else .fail 200
 | ss,σ,ss',K,.assume p t,.node l r=>
   let q:=p.sub σ
   if known fs ss' K q then t.xZ fs ss σ ss' K (.node l r) else mQ q (t.xZ fs ss (defined σ p) ss' (q.flat++K) (.node l r))
 | ss,σ,ss',K,.branch e a b,.node l r=>if e.qR fs ss=some false then
     let c:=e.sub σ
     if known fs ss' K (.tt c) then a.xZ fs ss σ ss' K (.node l r) else if known fs ss' K (.ff c) then b.xZ fs ss σ ss' K (.node l r) else
     mo c (Vp l (a.xZ fs ss σ ss' (c.flat true++K) l)) (Vp r (b.xZ fs ss σ ss' (c.flat false++K) r))
   else .fail 201
 | ss,σ,ss',K,.both a b,.node l r=>eF (Vp l (a.xZ fs ss σ ss' K l)) (Vp r (b.xZ fs ss σ ss' K r))
 | ss,σ,ss',K,.qp s t,.node l r=>lZ s (t.xZ fs (ss++[s]) (σ++[.var ss'.length]) (ss'++[s]) K (.node l r))
theorem Vn {fs:Nat->Option Bool} {ss:List Bool} {σ:List E} {ss':List Bool} {K:List PE} {t:Tree} {l:Mask}:Vp l (t.jK fs ss σ ss' K l)=t.jK fs ss σ ss' K l:=by
 cases l with
 | none=>exact (Tree.ZT t).symm
 | _=>rfl
theorem Tree.P7 {fs:Nat->Option Bool}:∀{t:Tree} {ss:List Bool} {σ:List E} {ss':List Bool} {K:List PE} {m:Mask},t.xZ fs ss σ ss' K m=t.jK fs ss σ ss' K m:=by
 intro t
 induction t with
 | ok=>intro ss σ ss' K m;cases m <;> first | rfl | exact Tree.vT.1 ss σ ss' K
 | fail n=>intro ss σ ss' K m;cases m <;> first | rfl | exact Tree.vT.1 ss σ ss' K
 | assert p t ih=>
   intro ss σ ss' K m;cases m with
   | all=>exact Tree.vT.1 ss σ ss' K
   | none=>rfl
   | node l r=>simp only [Tree.xZ,Tree.jK,ih]
 | assume p t ih=>
   intro ss σ ss' K m;cases m with
   | all=>exact Tree.vT.1 ss σ ss' K
   | none=>rfl
   | node l r=>simp only [Tree.xZ,Tree.jK,ih]
 | branch e a b iha ihb=>
   intro ss σ ss' K m;cases m with
   | all=>exact Tree.vT.1 ss σ ss' K
   | none=>rfl
   | node l r=>simp only [Tree.xZ,Tree.jK,iha,ihb,Vn]
 | both a b iha ihb=>
   intro ss σ ss' K m;cases m with
   | all=>exact Tree.vT.1 ss σ ss' K
   | none=>rfl
   | node l r=>simp only [Tree.xZ,Tree.jK,iha,ihb,Vn]
 | qp s t ih=>
   intro ss σ ss' K m;cases m with
   | all=>exact Tree.vT.1 ss σ ss' K
   | none=>rfl
   | node l r=>simp only [Tree.xZ,Tree.jK,ih]
def qK (fs:Nat->Option Bool) (cx:Cx) (fuel:Nat) (c:Contract) (m:Mask):Tree:=(verify cx fuel c).xZ fs c.sorts (ji 0 c.sorts.length) c.sorts [] m
theorem JX {fs:Nat->Option Bool} {cx:Cx} {fuel:Nat} {c:Contract} {m:Mask}:qK fs cx fuel c m=(verify cx fuel c).jK fs c.sorts (ji 0 c.sorts.length) c.sorts [] m:=Tree.P7
def QT:List Mask->Mask
 | []=>.none
 | m::l=>m.or (QT l)
theorem He {fs:Nat->Option Bool} {cx:Cx} {fuel:Nat} {c:Contract} {env:List D}:∀{l:List Mask},(∀m∈l,(qK fs cx fuel c m).vc I env)->(qK fs cx fuel c (QT l)).vc I env
 | [],_=>by unfold QT;rw [JX,Tree.ZT];trivial
 | m::l,h=>by
   have h1:=h m (by simp);have h2:=He (l:=l) fun n hn=>h n (by simp [hn]);rw [JX] at h1 h2 ⊢;exact Tree.P8 h1 h2
theorem gq {fs:Nat->Option Bool} (hI:I.tot fs) {cx:Cx} (hC:∀c∈cx.cs,COk I cx.P cx.kn.globs c) {fuel:Nat} {c:Contract} {l:List Mask} (ha:(QT l).isAll=true)
   (h:∀m∈l,∀ds,Sorts c.sorts ds->(qK fs cx fuel c m).vc I ds):COk I cx.P cx.kn.globs c:=
 nu (fuel:=fuel) hI hC fun ds hd=>by
   have hp:=He (fs:=fs) (cx:=cx) (fuel:=fuel) (c:=c) (env:=ds) (I:=I) fun m hm=>h m hm ds hd;rw [JX] at hp;rw [Wh];exact Tree.BR ha hp
theorem lu {fs:Nat->Option Bool} {cx:Cx} {fuel:Nat} {c:Contract} {m n:Mask} {t:Tree} (h:qK fs cx fuel c m=t.qY n) (hv:∀ds,Sorts c.sorts ds->t.vc I ds):∀ds,Sorts c.sorts ds->(qK fs cx fuel c m).vc I ds:=fun ds hd=>by
 rw [h];exact Tree.PD (hv ds hd)
end Go.Sx
