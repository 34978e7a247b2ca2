/-
  A contract, and what it is worth to a caller. Conditions: none.
-/
import Derived.Test.YtmjjjhinedogjaaGreatDoorA6
import Derived.RangeFuncLeaves
import Derived.RangeFuncRecord
import Derived.Laws.Sem
import Derived.RecoverIn
import Derived.OrdersIn
noncomputable section
namespace Go.Sx
open Go
variable {A:Amb} {I:Itp} {P:Program} {g:G} {X:Nat->Prop} {ts:qO} {a:Act} {M:Mem} {w:World}
def Contract.amb (c:Contract) (g:G) (w:World):Amb:={ w0:=w,X:=fun i=>∃b x p,get c.mem b=some x/\x.wr=true/\g.φ b=some p/\p.blk=i,fz:=g.fz }
def COk (I:Itp) (P:Program) (gl:List Glob) (c:Contract):Prop:=
 ∀(g:G) (w:World) (xs:List Value),Sorts c.sorts g.env->g.nb=c.nb->GOk gl (c.amb g w)->qX (c.amb g w) I P g c.mem w->qw I g c.args xs->(∀p∈c.pre,p.den I g.env)->
   Calls P c.fn xs.toArray w fun e w'=>∃v outs g',e=.returned v/\Sorts c.outs outs/\g'.env=g.env++outs/\g'.nb=c.nb+c.fresh.length/\(∀b,b<c.nb->g'.φ b=g.φ b)/\(∀o cs,g.fz o=some cs->g'.fz o=some cs)/\
     Rel I g' c.res v/\qX (c.amb g w) I P g' (c.mods++c.fresh) w'/\(∀p∈c.post,p.den I g'.env)
theorem zf {env ds:List D} {σ:List E} (hσ:qg I env σ=some ds):∀{e:E} {d:D},e.den I ds=some d->(e.subst 0 σ).den I env=some d:=by
 intro e
 induction e with
 | lit x=>intro d h;exact h
 | zt=>intro d h;exact h
 | kt row=>intro d h;exact h
 | bt b=>intro d h;exact h
 | var i=>
   intro d h;simp only [E.den] at h;simp only [E.aN,Nat.not_lt_zero,if_false,Nat.sub_zero]
   have hi:i<σ.length:=by
     have:=(List.getElem?_eq_some_iff.1 h).1
     rwa [Q9 hσ] at this
   obtain ⟨d',h1,h2⟩:=KY hσ (List.getElem?_eq_getElem hi);rw [h] at h2;simp at h2;subst h2;rw [List.getElem?_eq_getElem hi];exact h1
 | bin o a b iha ihb=>
   intro d h;simp only [E.subst,E.den] at h ⊢;split at h
   . rename_i x y h1 h2;rw [iha h1,ihb h2];exact h
   . cases h
 | wrap k a ih=>
   intro d h;simp only [E.subst,E.den] at h ⊢;split at h
   . rename_i x h1;rw [ih h1];exact h
   . cases h
 | sel t r c iht ihr=>
   intro d h;simp only [E.subst,E.den] at h ⊢;split at h
   . rename_i x y h1 h2;rw [iht h1,ihr h2];exact h
   . cases h
 | upd t r c v iht ihr ihv=>
   intro d h;simp only [E.subst,E.den] at h ⊢;split at h
   . rename_i x y z h1 h2 h3;rw [iht h1,ihr h2,ihv h3];exact h
   . cases h
 | cat t n u iht ihn ihu=>
   intro d h;simp only [E.subst,E.den] at h ⊢;split at h
   . rename_i x y z h1 h2 h3;rw [iht h1,ihn h2,ihu h3];exact h
   . cases h
 | sh t n iht ihn=>
   intro d h;simp only [E.subst,E.den] at h ⊢;split at h
   . rename_i x y h1 h2;rw [iht h1,ihn h2];exact h
   . cases h
 | teq t n u m iht ihn ihu ihm=>
   intro d h;simp only [E.subst,E.den] at h ⊢;split at h
   . rename_i x y z v h1 h2 h3 h4;rw [iht h1,ihn h2,ihu h3,ihm h4];exact h
   . cases h
 | fn j a b c d iha ihb ihc ihd=>
   intro x h;simp only [E.subst,E.den] at h ⊢;split at h
   . rename_i x1 x2 x3 x4 h1 h2 h3 h4;rw [iha h1,ihb h2,ihc h3,ihd h4];exact h
   . cases h
theorem Yy {env ds:List D} {σ:List E} (hσ:qg I env σ=some ds):∀{l:List E} {xs:List D},qg I ds l=some xs->qg I env (l.map (E.subst 0 σ))=some xs
 | [],xs,h=>h
 | e::l,xs,h=>by
   simp only [List.map_cons,qg] at h ⊢;split at h
   . rename_i d ds' h1 h2;rw [zf hσ h1,Yy hσ h2];exact h
   . cases h
theorem PE.SI {env ds:List D} {σ:List E} (hσ:qg I env σ=some ds):∀{p:PE},p.den I ds->(p.subst 0 σ).den I env
 | .tt _,⟨m,h1,h2⟩=>⟨m,zf hσ h1,h2⟩
 | .ff _,h=>zf hσ h
 | .rng _ _,⟨m,h1,h2⟩=>⟨m,zf hσ h1,h2⟩
 | .same _ _,⟨d,h1,h2⟩=>⟨d,zf hσ h1,zf hσ h2⟩
 | .pr _ _,⟨xs,h1,h2⟩=>⟨xs,(by rw [bX (List.drop_zero).symm];exact Yy hσ h1),h2⟩
 | .sort true _,⟨f,h⟩=>⟨f,zf hσ h⟩
 | .sort false _,⟨m,h⟩=>⟨m,zf hσ h⟩
 | .col _ _ _ _,⟨f,h1,h2⟩=>⟨f,zf hσ h1,h2⟩
 | .agr _ _ _ _,⟨f,g,k,h1,h2,h3,h4⟩=>⟨f,g,k,zf hσ h1,zf hσ h2,zf hσ h3,h4⟩
 | .byt _ _,⟨f,k,h1,h2,h3⟩=>⟨f,k,zf hσ h1,zf hσ h2,h3⟩
structure Inst (I:Itp) (u:Fix) (g' g2:G):Prop where
 nv:u.nv=0
 σ:qg I g2.env u.σ=some g'.env
 φ:∀b p,g'.φ b=some p->∃c,u.img b=some c/\g2.φ c=some p
 fz:∀o c,g'.fz o=some c->g2.fz o=some c
section
variable {u:Fix} {g' g2:G}
theorem aW.inst (hi:Inst I u g' g2) {cs:List Clo} {n:Int} {x:Value} (h:aW g' cs n x):aW g2 (cs.map u.clo) n x:=by
 rcases h with h | ⟨h1,c,p,o,q,z,h2,h3,h4,h5,h6⟩
 . exact .inl h
 . obtain ⟨c',h7,h8⟩:=hi.φ c.b p h3;refine .inr ⟨h1,u.clo c,p,o,q,z,?_,?_,h4,hi.fz _ _ h5,?_⟩
   . rw [List.length_map,List.getElem?_map,h2];rfl
   . simpa [Fix.clo,h7] using h8
   . rw [List.length_map];exact h6
theorem CK.RX (hi:Inst I u g' g2) {k:CK} {n:Int} {x:Value} (h:k.rel g' n x):(u.ck k).rel g2 n x:=by
 cases k with
 | clo cs=>exact aW.inst hi h
 | lst ks=>exact LV.le hi.fz h
 | int k=>exact h
 | bool=>exact h
 | str=>exact h
theorem CK.ay (hi:Inst I u g' g2) {ks:List CK} {j:Nat} {k:CK} {n:Int} {x:Option Value} (hk:(ks.map u.ck)[j]?=some k) (h:∀k0,ks[j]?=some k0->k0.at g' n x):k.at g2 n x:=by
 rw [List.getElem?_map,Option.map_eq_some_iff] at hk;obtain ⟨k0,hk,rfl⟩:=hk;obtain ⟨y,h1,h2⟩:=h k0 hk;exact ⟨y,h1,CK.RX hi h2⟩
mutual
theorem Inst.rel (hi:Inst I u g' g2):∀{p:AV} {x:Value},Rel I g' p x->Rel I g2 (u.inst p) x:=by
 intro p x h;have he:∀{e:E} {d:D},e.den I g'.env=some d->(u.e e).den I g2.env=some d:=fun h=>by unfold Fix.e;rw [hi.nv];exact zf hi.σ h
 match p with
 | .any=>simp [Fix.inst,Rel]
 | .undef=>simpa [Fix.inst,Rel] using h
 | .bool e=>obtain ⟨n,h1,h2⟩:=h;exact ⟨n,he h1,h2⟩
 | .int k e=>obtain ⟨n,h1,h2⟩:=h;exact ⟨n,he h1,h2⟩
 | .wP=>simpa [Fix.inst,Rel] using h
 | .ptr b r s k=>
   obtain ⟨n,p,h1,h2,h3,h4⟩:=h;obtain ⟨c,hc,hc'⟩:=hi.φ b p h3;exact ⟨n,p,he h1,h2,by rw [hc];exact hc',h4⟩
 | .qJ=>simpa [Fix.inst,Rel] using h
 | .slice b lo n s nl=>
   obtain ⟨l,m,h1,h2,h3,h4,h5⟩:=h;refine ⟨l,m,he h1,he h2,h3,h4,?_⟩;rcases h5 with ⟨p,cap,h5,h6⟩ | h5
   . obtain ⟨c,hc,hc'⟩:=hi.φ b p h5;exact .inl ⟨p,cap,by rw [hc];exact hc',h6⟩
   . exact .inr h5
 | .func f l=>obtain ⟨cs,h1,h2⟩:=h;exact ⟨cs,h1,Inst.K5 hi h2⟩
 | .yld b=>
   obtain ⟨p,h1,h2⟩:=h;obtain ⟨c,hc,hc'⟩:=hi.φ b p h1;exact ⟨p,by rw [hc];exact hc',h2⟩
 | .jY=>simpa [Fix.inst,Rel] using h
 | .agg l=>obtain ⟨cs,h1,h2⟩:=h;exact ⟨cs,h1,Inst.K5 hi h2⟩
 | .tup l=>obtain ⟨cs,h1,h2⟩:=h;exact ⟨cs,h1,Inst.K5 hi h2⟩
 | .big l ks t n m=>
   obtain ⟨f,xs,ys,zs,h1,h2,h3,h4,h5⟩:=h;refine ⟨f,xs,ys,zs,he h1,h2,Inst.K5 hi h3,Inst.K5 hi h4,by rw [List.length_map];exact h5.1,fun r j k a b=>?_⟩;rw [List.length_map];exact CK.ay hi b fun k0 hk=>h5.2 r j k0 a hk
 | .cap0=>simpa [Fix.inst,Rel] using h
 | .empty=>simpa [Fix.inst,Rel] using h
 | .asl b k n s=>
   obtain ⟨p,cap,h1,h2⟩:=h;obtain ⟨c,hc,hc'⟩:=hi.φ b p h1;exact ⟨p,cap,by rw [hc];exact hc',h2⟩
 | .yN f l m=>obtain ⟨ms,cs,h1,h2,h3⟩:=h;exact ⟨ms,cs,h1,Inst.K5 hi h2,Inst.K5 hi h3⟩
 | .bK v k=>simpa [Fix.inst,Rel] using h
 | .str l=>simpa [Fix.inst,Rel] using h
 | .wE t n=>obtain ⟨f,k,s,h1,h2,h3⟩:=h;exact ⟨f,k,s,he h1,he h2,h3⟩
 | .mM=>simpa [Fix.inst,Rel] using h
 | .mref b=>
   obtain ⟨p,h1,h2⟩:=h;obtain ⟨c,hc,hc'⟩:=hi.φ b p h1;exact ⟨p,by rw [hc];exact hc',h2⟩
 | .gV=>simpa [Fix.inst,Rel] using h
 | .xk=>simpa [Fix.inst,Rel] using h
 | .sat e=>obtain ⟨n,h1,h2⟩:=h;exact ⟨n,he h1,h2⟩
 | .lst ks e=>obtain ⟨n,h1,h2⟩:=h;exact ⟨n,he h1,h2.le hi.fz⟩
 | .ifo e=>obtain ⟨n,h1,h2⟩:=h;exact ⟨n,he h1,h2⟩
 | .gZ b=>obtain ⟨o,q,z,y,h1,h2,h3,h4⟩:=h;exact ⟨o,q,z,y,h1,hi.fz _ _ h2,h3,Inst.rel hi h4⟩
 | .fco cs e=>obtain ⟨n,h1,h2⟩:=h;exact ⟨n,he h1,h2.inst hi⟩
 | .xV ks e i k=>obtain ⟨n,j,h1,h2,h3,h4⟩:=h;exact ⟨n,j,he h1,he h2,h3,h4.le hi.fz⟩
theorem Inst.K5 (hi:Inst I u g' g2):∀{l:List AV} {xs:List Value},qw I g' l xs->qw I g2 (u.insts l) xs:=by
 intro l xs h
 match l,xs with
 | [],[]=>simp [Fix.insts,qw]
 | v::l,x::xs=>exact ⟨Inst.rel hi h.1,Inst.K5 hi h.2⟩
 | [],_::_=>simp [qw] at h
 | _::_,[]=>simp [qw] at h
end
theorem Inst.qkE (hi:Inst I u g' g2) {X:Nat->Prop}:∀{ts:qO} {xs:Array Value},wG I g' X ts xs->wG I g2 X (u.QI ts) xs
 | [],xs,_=>fun t v h=>by simp [Fix.QI,get_nil] at h
 | (t0,v0)::ts,xs,h=>by
   intro t v hv hX;simp only [Fix.QI,qQ] at hv;split at hv
   . rename_i he;subst he;simp at hv;subst hv;obtain ⟨x,h1,h2⟩:=h t0 v0 (by simp [qQ]) hX;exact ⟨x,h1,Inst.rel hi h2⟩
   . rename_i he
     have hsub:∀{ts:qO} {t:Nat} {v:AV},get (u.QI ts) t=some v->∃v',get ts t=some v'/\v=u.inst v':=by
       intro ts
       induction ts with
       | nil=>intro t v h;simp [Fix.QI,get_nil] at h
       | cons q ts ih=>
         intro t v h;obtain ⟨t1,v1⟩:=q;simp only [Fix.QI,qQ] at h ⊢;split at h
         . rename_i he;rw [if_pos he];simp at h;exact ⟨v1,rfl,h.symm⟩
         . rename_i he;rw [if_neg he];exact ih h
     obtain ⟨v',h1,rfl⟩:=hsub hv;obtain ⟨x,h2,h3⟩:=h t v' (by simp only [qQ];rw [if_neg he];exact h1) hX;exact ⟨x,h2,Inst.rel hi h3⟩
theorem lX:∀{l:List AV} {i:Nat} {v:AV},(u.insts l)[i]?=some v->∃v',l[i]?=some v'/\v=u.inst v'
 | [],i,v,h=>by simp [Fix.insts] at h
 | q::l,i,v,h=>by
   simp only [Fix.insts] at h;cases i with
   | zero=>simp at h;exact ⟨q,rfl,h.symm⟩
   | succ i=>simpa using lX (l:=l) (i:=i) (by simpa using h)
theorem nS:∀{l:List AV},(u.insts l).length=l.length
 | []=>rfl
 | q::l=>by simp [Fix.insts,nS (l:=l)]
theorem Inst.qxU (hi:Inst I u g' g2) {b c:Nat} (hb:u.img b=some c) (ED:∀p,g2.φ c=some p->g'.φ b=some p) {H:Nat->Option Obj}:∀{x:Blk},jN I P g' b H x->jN I P g2 c H (u.Gr x)
 | .cells l wr,⟨p,cs,T,fr,h1,h2,h3,h4⟩=>by
   obtain ⟨c',hc,hc'⟩:=hi.φ b p h1;rw [hb] at hc;cases hc;refine ⟨p,cs,T,fr,hc',h2,fun i v hv=>?_,h4⟩
   have key:∀{l:List AV} {i:Nat} {v:AV},(u.insts l)[i]?=some v->∃v',l[i]?=some v'/\v=u.inst v':=by
     intro l
     induction l with
     | nil=>intro i v h;simp [Fix.insts] at h
     | cons q l ih=>
       intro i v h;simp only [Fix.insts] at h;cases i with
       | zero=>simp at h;exact ⟨q,rfl,h.symm⟩
       | succ i=>simpa using ih (i:=i) (by simpa using h)
   obtain ⟨v',h5,rfl⟩:=key hv;obtain ⟨x,h6,h7⟩:=h3 i v' h5;exact ⟨x,h6,Inst.rel hi h7⟩
 | .rows ks t n wr nl,⟨f,m,h1,h2,h3,h4⟩=>by
   have he:∀{e:E} {d:D},e.den I g'.env=some d->(u.e e).den I g2.env=some d:=fun h=>by unfold Fix.e;rw [hi.nv];exact zf hi.σ h
   refine ⟨f,m,he h1,he h2,h3,?_⟩;rcases h4 with ⟨p,cs,T,fr,h4,h5,h5',qxq⟩ | ⟨h4,h5,h6⟩
   . obtain ⟨c',hc,hc'⟩:=hi.φ b p h4;rw [hb] at hc;cases hc;refine .inl ⟨p,cs,T,fr,hc',h5,fun r j k a b=>?_,by rw [List.length_map];exact qxq⟩;rw [List.length_map];exact CK.ay hi b fun k0 hk=>h5' r j k0 a hk
   . refine .inr ⟨h4,h5,?_⟩;cases hq:g2.φ c with
     | none=>rfl
     | some p=>rw [ED p hq] at h6;cases h6
 | .big l ks t n m wr,⟨p,cs,T,fr,f,h1,h2,h3,h4,h5,h6,h7⟩=>by
   obtain ⟨c',hc,hc'⟩:=hi.φ b p h1;rw [hb] at hc;cases hc;have he:∀{e:E} {d:D},e.den I g'.env=some d->(u.e e).den I g2.env=some d:=fun h=>by unfold Fix.e;rw [hi.nv];exact zf hi.σ h
   refine ⟨p,cs,T,fr,f,hc',h2,he h3,fun i v hv=>?_,by rw [nS,List.length_map];exact fun r j k a b=>CK.ay hi b fun k0 hk=>h5 r j k0 a hk,fun i v hv=>?_,h7⟩
   . obtain ⟨v',h8,rfl⟩:=lX hv;obtain ⟨x,h9,h10⟩:=h4 i v' h8;exact ⟨x,h9,Inst.rel hi h10⟩
   . obtain ⟨v',h8,rfl⟩:=lX hv;obtain ⟨x,h9,h10⟩:=h6 i v' h8;exact ⟨x,by rw [nS,List.length_map];exact h9,Inst.rel hi h10⟩
 | .ovr ks t n e l wr nl,⟨f,m,q,h1,h2,h2',h3,h4⟩=>by
   have he:∀{e:E} {d:D},e.den I g'.env=some d->(u.e e).den I g2.env=some d:=fun h=>by unfold Fix.e;rw [hi.nv];exact zf hi.σ h
   refine ⟨f,m,q,he h1,he h2,he h2',h3,?_⟩;rcases h4 with ⟨p,cs,T,fr,h4,h5,h5',h6,h7⟩ | ⟨h4,h5,h6⟩
   . obtain ⟨c',hc,hc'⟩:=hi.φ b p h4;rw [hb] at hc;cases hc;refine .inl ⟨p,cs,T,fr,hc',h5,fun r j k a d b=>?_,fun a d j v hv=>?_,by rw [List.length_map];exact h7⟩
     . rw [List.length_map];exact CK.ay hi b fun k0 hk=>h5' r j k0 a d hk
     . obtain ⟨v',h8,rfl⟩:=lX hv;obtain ⟨x,h9,h10⟩:=h6 a d j v' h8;exact ⟨x,by rw [List.length_map];exact h9,Inst.rel hi h10⟩
   . refine .inr ⟨h4,h5,?_⟩;cases hq:g2.φ c with
     | none=>rfl
     | some p=>rw [ED p hq] at h6;cases h6
 | .loop st pend f ix nt ts d,⟨p,q,r,rf,h1,h2,h3,h4,h5,h6,h7,h8,h9,h10,h11,h12⟩=>by
   obtain ⟨c',hc,hc'⟩:=hi.φ b p h1;rw [hb] at hc;cases hc;obtain ⟨d',hd,hd'⟩:=hi.φ d q h2;exact ⟨p,q,r,rf,hc',by rw [hd];exact hd',h3,h4,h5,h6,h7,h8,h9,h10,h11,Inst.qkE hi h12⟩
 | .dfr sh,⟨p,h1,h2⟩=>by
   obtain ⟨c',hc,hc'⟩:=hi.φ b p h1;rw [hb] at hc;cases hc;exact ⟨p,hc',h2⟩
 | .mp l m,⟨p,es,k,h1,h2,h3,h4⟩=>by
   obtain ⟨c',hc,hc'⟩:=hi.φ b p h1;rw [hb] at hc;cases hc;exact ⟨p,es,k,hc',h2,Inst.K5 hi h3,Inst.K5 hi h4⟩
 | .smp w one ks t n,⟨p,es,k,f,h1,h2,h3,h4,h5⟩=>by
   obtain ⟨c',hc,hc'⟩:=hi.φ b p h1;rw [hb] at hc;cases hc;have he:∀{e:E} {d:D},e.den I g'.env=some d->(u.e e).den I g2.env=some d:=fun h=>by unfold Fix.e;rw [hi.nv];exact zf hi.σ h
   exact ⟨p,es,k,f,hc',h2,he h3,he h4,h5⟩
 | .iter e q k,⟨p,n,m,h1,h2,h3,h4,h5⟩=>by
   obtain ⟨c',hc,hc'⟩:=hi.φ b p h1;rw [hb] at hc;cases hc;have he:∀{e:E} {d:D},e.den I g'.env=some d->(u.e e).den I g2.env=some d:=fun h=>by unfold Fix.e;rw [hi.nv];exact zf hi.σ h
   exact ⟨p,n,m,hc',h2,he h3,he h4,h5⟩
 | .bld T e d,⟨p,n,x,y,h1,h2,h3,h4,h5,h6⟩=>by
   obtain ⟨c',hc,hc'⟩:=hi.φ b p h1;rw [hb] at hc;cases hc;have he:∀{e:E} {d:D},e.den I g'.env=some d->(u.e e).den I g2.env=some d:=fun h=>by unfold Fix.e;rw [hi.nv];exact zf hi.σ h
   refine ⟨p,n,x,y,hc',h2,h3,he h4,h5,h6.imp id fun ⟨q,a,z⟩=>?_⟩;obtain ⟨d',hd,hd'⟩:=hi.φ d q a;exact ⟨q,by rw [hd];exact hd',z⟩
 | .byt T e,⟨n,h1,h2⟩=>by
   have he:∀{e:E} {d:D},e.den I g'.env=some d->(u.e e).den I g2.env=some d:=fun h=>by unfold Fix.e;rw [hi.nv];exact zf hi.σ h
   refine ⟨n,he h1,?_⟩;rcases h2 with ⟨h2,h3⟩ | ⟨q,cur,h2,h3⟩
   . refine .inl ⟨?_,h3⟩;cases hq:g2.φ c with
     | none=>rfl
     | some p=>rw [ED p hq] at h2;cases h2
   . obtain ⟨c',hc,hc'⟩:=hi.φ b q h2;rw [hb] at hc;cases hc;exact .inr ⟨q,cur,hc',h3⟩
 | .fam ck t op,⟨p,es,cc,f,k,h1,h2,h3,h4,h5⟩=>by
   obtain ⟨c',hc,hc'⟩:=hi.φ b p h1;rw [hb] at hc;cases hc;have he:∀{e:E} {d:D},e.den I g'.env=some d->(u.e e).den I g2.env=some d:=fun h=>by unfold Fix.e;rw [hi.nv];exact zf hi.σ h
   refine ⟨p,es,cc,f,k,hc',h2,he h3,?_,h5⟩
   match op,k,h4 with
   | none,none,_=>trivial
   | some _,some _,h4=>exact he h4
   | none,some _,h4=>exact h4.elim
   | some _,none,h4=>exact h4.elim
theorem WU (x:Blk):(u.Gr x).wF=x.wF:=by cases x <;> rfl
theorem WO:∀{M:Mem} {c:Nat} {y:Blk},get (u.dS M) c=some y->∃b x,get M b=some x/\(u.img b).getD 0=c/\y=u.Gr x:=by
 intro M
 induction M with
 | nil=>intro c y h;simp [Fix.dS,get_nil] at h
 | cons q M ih=>
   intro c y h;obtain ⟨b0,x0⟩:=q;simp only [Fix.dS,qQ] at h;split at h
   . rename_i he;simp at h;exact ⟨b0,x0,by simp [qQ],he,h.symm⟩
   . rename_i hne;obtain ⟨b,x,h1,h2,h3⟩:=ih h;refine ⟨b,x,?_,h2,h3⟩;simp only [qQ];rw [if_neg]
     . exact h1
     . rintro rfl;exact hne h2
end
theorem sP (n m b:Nat):∀k,get (lV n m k) b=if n<=b/\b<n+k then some (some (m+(b - n))) else none
 | 0=>by simp [lV,get_nil]
 | k+1=>by
   simp only [lV,qQ];by_cases h:n+k=b
   . subst h;simp
   . rw [if_neg h,sP n m b k];by_cases h2:n<=b/\b<n+k
     . rw [if_pos h2,if_pos (by omega)]
     . rw [if_neg h2,if_neg (by omega)]
theorem z8 {α:Type} (u:Nat):∀(l m:List (Nat × α)),get (l++m) u=match get l u with | some x=>some x | none=>get m u
 | [],m=>rfl
 | (k,v)::l,m=>by
   simp only [List.cons_append,qQ];split
   . rfl
   . exact z8 u l m
theorem KX {env:List D}:∀{l m:List E} {xs ys:List D},qg I env l=some xs->qg I env m=some ys->qg I env (l++m)=some (xs++ys)
 | [],m,xs,ys,h,h'=>by simp [qg] at h;subst h;simpa using h'
 | e::l,m,xs,ys,h,h'=>by
   simp only [qg] at h;split at h
   . rename_i d ds h1 h2;simp at h;subst h;simp [qg,h1,KX h2 h']
   . cases h
theorem lS {env zs:List D}:∀{l:List E} {xs:List D},qg I env l=some xs->qg I (env++zs) l=some xs
 | [],xs,h=>h
 | e::l,xs,h=>by
   simp only [qg] at h ⊢;split at h
   . rename_i d ds h1 h2;rw [E.zT h1,lS h2];exact h
   . cases h
theorem Qf {env outs:List D}:∀k,k<=outs.length->qg I (env++outs) (ji env.length k)=some (outs.take k)
 | 0,_=>by simp [ji,Qa,qg]
 | k+1,h=>by
   have h1:=Qf (env:=env) (outs:=outs) k (by omega)
   have h2:qg I (env++outs) [E.var (env.length+k)]=some [outs[k]]:=by
     simp [qg,E.den,List.getElem?_append_right,List.getElem?_eq_getElem (show k<outs.length by omega)]
   simp only [uq];rw [KX h1 h2];rw [List.take_add_one,List.getElem?_eq_getElem (show k<outs.length by omega)];rfl
theorem qX.qqU {c:Contract} (h:qX A I P g c.mem w) (hnf:∀b x,get c.mem b=some x->x.wF=false):qX (c.amb g w) I P g c.mem w:=
 ⟨h.wf,h.blk,h.lt,h.inj,h.bnd,fun b x p hx hw hp=>.inl ⟨b,x,p,hx,hw,hp,rfl⟩,Nat.le_refl _,fun _ _ _=>rfl,⟨rfl,rfl⟩,fun b x o hx hr=>(by
   have:=hnf b x hx;rw [hr.fam] at this;cases this),fun o cs hz=>⟨.inl hz,(h.frz o cs hz).2⟩⟩
theorem V5:∀{M:Mem} {b:Nat} {x:Blk},get M b=some x->x.wr=true->b∈p8 M
 | [],b,x,h,_=>by simp [get_nil] at h
 | (b0,x0)::M,b,x,h,hw=>by
   simp only [qQ] at h;simp only [p8];split at h
   . rename_i he;subst he;simp at h;subst h;rw [if_pos hw];simp
   . have:=V5 h hw;split <;> simp [this]
theorem V6 {u:Fix}:∀{l:List Nat} {b c:Nat},b∈l->u.img b=some c->c∈u.Qk l
 | [],b,c,h,_=>by simp at h
 | b0::l,b,c,h,hc=>by
   simp only [Fix.Qk];simp at h;rcases h with rfl | h
   . rw [hc];simp
   . have:=V6 h hc;split <;> simp [this]
theorem xM {α:Type}:∀{l:List (Nat × α)} {b:Nat} {x:α},get l b=some x->b∈keys l/\(b,x)∈l
 | [],b,x,h=>by simp [get_nil] at h
 | (k,v)::l,b,x,h=>by
   simp only [qQ] at h;split at h
   . rename_i he;subst he;simp at h;subst h;simp [keys]
   . obtain ⟨h1,h2⟩:=xM h;simp only [keys] at h1 ⊢;exact ⟨by simp [h1],by simp [h2]⟩
theorem X6 {cx:Cx} {c:Contract} (hG:GOk cx.kn.globs A) (hc:COk I cx.P cx.kn.globs c) {args:List AV} {s:St} {k:AV->St->Tree} {xs:List Value} (h:(FK c args s k).vc I g.env) (hs:qW A I cx.P X g s a w) (ha:qw I g args xs) :
   Calls cx.P c.fn xs.toArray w fun e w'=>∃v,e=.returned v/\aY A I cx.P X g a k v w':=by
 unfold FK at h;simp only at h;split at h
 . exact h.elim
 rename_i hcond;simp only [Bool.or_eq_true,Bool.not_eq_true',decide_eq_false_iff_not,not_or,Bool.not_eq_false,Decidable.not_not] at hcond;obtain ⟨⟨⟨hle,hlen⟩,hform⟩,hsome⟩:=hcond;simp only [Contract.form,Bool.and_eq_true,List.all_eq_true,decide_eq_true_eq,List.contains_iff_mem] at hform;obtain ⟨⟨⟨hfresh,IW⟩,hwr⟩,Tj⟩:=hform
 have qyR:∀b x,get c.mem b=some x->x.wF=false:=fun b x hx=>by
   have:=Tj (b,x) (by simp only [List.mem_append];exact .inl (xM hx).2);simpa using this
 have qjg:∀b x,get (c.mods++c.fresh) b=some x->x.wF=false:=fun b x hx=>by
   have:=Tj (b,x) (by simp only [List.mem_append];exact .inr (by simpa using (xM hx).2));simpa using this
 generalize hu:vM 0 0 c.sorts.length c.nb { tmps:=[(0,.agg c.args)],nt:=0,defers:=[],mem:=c.mem,nv:=0,nb:=0 } { tmps:=[(0,.agg args)],nt:=0,defers:=[],mem:=s.mem,nv:=0,nb:=0 }=u at *;have hu1:u.nv=0:=by rw [<-hu];rfl
 have hu2:u.nb=0:=by rw [<-hu];rfl
 have hu3:u.kb=c.nb:=by rw [<-hu];exact Nat.zero_add _
 simp only [Fix.leS,Bool.and_eq_true,beq_iff_eq] at hle;obtain ⟨⟨⟨⟨_,_⟩,hleT⟩,NU⟩,hok⟩:=hle;obtain ⟨hps,hbody⟩:=qB h;obtain ⟨ds,hds,hso⟩:=xK hlen (fun p hp=>hps p (by simp [hp]));have hfit:u.Fits I g ds:=⟨hds,by omega,by omega⟩;have Zf:(u.view g ds).env=ds:=by simp [Fix.view,hu1]
 have hmr:=Fix.AQ hfit hs.m NU hok
 have qy8:qw I (u.view g ds) c.args xs:=by
   have h0:wG I g (fun _=>False) [(0,.agg args)] #[Value.agg xs.toArray]:=fun t v hv _=>by
     simp only [qQ] at hv;split at hv
     . rename_i he;subst he;simp at hv;subst hv;exact ⟨_,rfl,_,rfl,by simpa using ha⟩
     . cases hv
   obtain ⟨x,hx,cs,hcs,hr⟩:=Fix.oo hfit hleT h0 0 (.agg c.args) (by simp [qQ]) (fun h=>h);simp at hx;subst hx;cases hcs;simpa using hr
 have hpre:∀p∈c.pre,p.den I (u.view g ds).env:=fun p hp=>by
   have:=PE.zF (n:=0) hds (by omega) (hps (p.subst 0 u.σ) (by simp;exact .inr ⟨p,hp,rfl⟩));rw [Zf];simpa using this
 have hGc:GOk cx.kn.globs (c.amb (u.view g ds) w):=fun x hx=>by
   obtain ⟨hgp,h1,h2,cs,T,fr,h3,h4⟩:=hG x hx;refine ⟨hgp,Nat.lt_of_lt_of_le h1 hs.m.size,?_,cs,T,fr,by rw [<-h3];exact hs.m.keep _ h1 h2,h4⟩;rintro ⟨b,y,p,h5,h6,h7,h8⟩;rcases Fix.yQ NU h5 with ⟨c',z,h9,h10,h11⟩ | ⟨h9,_⟩
   . rw [Fix.qU h9] at h7;rcases hs.m.own c' z p h10 (Fix.J3 h11 h6) h7 with h12 | h12
     . rw [h8] at h12;exact h2 h12
     . omega
   . simp [Fix.view,h9] at h7
 refine (hc (u.view g ds) w xs (by rw [Zf];exact hso) hu3 hGc (hmr.qqU qyR) qy8 hpre).mono fun e w' he=>?_;obtain ⟨v,outs,g',rfl,hout,qjr,hnb',hφ',hfz',hres,hm',hpost⟩:=he;refine ⟨v,rfl,?_⟩
 -- the caller's state behind the call
 let nf:=c.fresh.length;let u2:Fix:={ nv:=0,nb:=0,kb:=c.nb+nf,σ:=u.σ++ji s.nv c.outs.length,ρ:=lV c.nb s.nb nf++u.ρ };let g2:G:={ env:=g.env++outs,φ:=fun b=>if b<g.nb then g.φ b else if b<g.nb+nf then g'.φ (c.nb+(b - g.nb)) else none,nb:=g.nb+nf,fz:=g'.fz };have hle2:g.Le g2:=⟨⟨outs,rfl⟩,Nat.le_add_right _ _,fun b hb=>by simp only [g2];rw [if_pos hb],hfz'⟩
 have Tw:∀b,b<c.nb->u2.img b=u.img b:=fun b hb=>by
   simp only [Fix.img,u2,hu2,hu3,Nat.not_lt_zero,if_false];rw [if_pos (by omega),if_pos hb,z8,sP,if_neg (by omega)]
 have IY:∀b,c.nb<=b->b<c.nb+nf->u2.img b=some (s.nb+(b - c.nb)):=fun b h1 h2=>by
   simp only [Fix.img,u2,Nat.not_lt_zero,if_false];rw [if_pos h2,z8,sP,if_pos ⟨h1,h2⟩];rfl
 have hinst:Inst I u2 g' g2:=by
   refine ⟨rfl,?_,fun b p hp=>?_,fun _ _ h=>h⟩
   . rw [qjr,Zf];have h1:=Qf (I:=I) (env:=g.env) (outs:=outs) c.outs.length (by rw [hout.length];exact Nat.le_refl _);rw [hs.nv] at h1;have h2:outs.take c.outs.length=outs:=by rw [<-hout.length,List.take_length]
     rw [h2] at h1;exact KX (lS hds) h1
   . have hb:=hm'.wf.lt hp;rw [hnb'] at hb;by_cases hbc:b<c.nb
     . rw [hφ' b hbc] at hp;simp only [Fix.view] at hp;cases hi:u.img b with
       | none=>rw [hi] at hp;cases hp
       | some c'=>
         rw [hi] at hp;have hp':g.φ c'=some p:=hp;exact ⟨c',by rw [Tw b hbc];exact hi,hle2.some hs.m.wf hp'⟩
     . refine ⟨_,IY b (by omega) hb,?_⟩;simp only [g2];rw [if_neg (by rw [hs.nb];omega),if_pos (by rw [hs.nb];omega),hs.nb,<-hp]
       congr 1;omega
 -- the blocks that the callee may write are the caller's
 have hX:∀i,(c.amb (u.view g ds) w).X i->∃b x p,get s.mem b=some x/\x.wr=true/\g.φ b=some p/\p.blk=i/\b∈u.Qk (p8 c.mem):=by
   rintro i ⟨b,x,p,h1,h2,h3,h4⟩;rcases Fix.yQ NU h1 with ⟨c',y,h5,h6,h7⟩ | ⟨h5,_⟩
   . rw [Fix.qU h5] at h3;exact ⟨c',y,p,h6,Fix.J3 h7 h2,h3,h4,V6 (V5 h1 h2) h5⟩
   . simp [Fix.view,h5] at h3
 have D5:∀b y p,get s.mem b=some y->b ∉ u.Qk (p8 c.mem)->g.φ b=some p->w'.heap[p.blk]?=w.heap[p.blk]?:=fun b y p h1 h2 h3=>
   hm'.keep p.blk (hs.m.bnd b p h3) fun hx=>by
     obtain ⟨b',x',p',h4,hw4,h5,h6,h7⟩:=hX _ hx;have:=hs.m.inj b' b x' y p' p h4 h1 hw4 h5 h3 h6;subst this;exact h2 h7
 -- an entry is the callee's or the caller's
 have hent:∀b y,get (u2.dS c.fresh++(u2.dS c.mods++G8 (u.Qk (p8 c.mem)) s.mem)) b=some y->
     (∃pb x,get (c.mods++c.fresh) pb=some x/\u2.img pb=some b/\y=u2.Gr x/\b<g2.nb/\g2.φ b=g'.φ pb)\/(get s.mem b=some y/\b ∉ u.Qk (p8 c.mem)):=by
   intro b y hb;rw [z8] at hb;split at hb
   . rename_i y' hy';cases hb;obtain ⟨pb,x,h1,h2,h3⟩:=WO hy';have hk:=hfresh pb (xM h1).1;have hi:=IY pb hk.1 hk.2;rw [hi] at h2;simp at h2;refine .inl ⟨pb,x,?_,by rw [hi,h2],h3,?_,?_⟩
     . rw [z8];cases hg:get c.mods pb with
       | none=>exact h1
       | some z=>
         exfalso;have hm:=IW pb (xM hg).1;have hs':=List.all_eq_true.1 hsome pb hm;cases hii:u.img pb with
         | none=>rw [hii] at hs';cases hs'
         | some q=>have:=Fix.XJ hfit.kb hii;omega
     . simp only [g2];rw [hs.nb];omega
     . simp only [g2];rw [if_neg (by rw [hs.nb];omega),if_pos (by rw [hs.nb];omega)]
       congr 1
       rw [hs.nb];omega
   . rw [z8] at hb;split at hb
     . rename_i y' hy';cases hb;obtain ⟨pb,x,h1,h2,h3⟩:=WO hy';have hm:=IW pb (xM h1).1;have hs':=List.all_eq_true.1 hsome pb hm;cases hii:u.img pb with
       | none=>rw [hii] at hs';cases hs'
       | some q=>
         have hlt:pb<c.nb:=by have:=Fix.XJ hfit.kb hii;omega
         rw [Tw pb hlt,hii] at h2;simp at h2;subst h2
         -- q is in the caller's memory
         have hq:q<g.nb:=by
           have hwm:∀{M:Mem} {b:Nat},b∈p8 M->∃x,(b,x)∈M:=by
             intro M
             induction M with
             | nil=>intro b h;simp [p8] at h
             | cons z M ih=>
               intro b h;obtain ⟨b0,x0⟩:=z;simp only [p8] at h;split at h
               . simp at h;rcases h with rfl | h
                 . exact ⟨x0,by simp⟩
                 . obtain ⟨x,hx⟩:=ih h;exact ⟨x,by simp [hx]⟩
               . obtain ⟨x,hx⟩:=ih h;exact ⟨x,by simp [hx]⟩
           have hgm:∀{M:Mem} {b:Nat} {x:Blk},(b,x)∈M->∃x',get M b=some x':=by
             intro M
             induction M with
             | nil=>intro b x h;simp at h
             | cons z M ih=>
               intro b x h;obtain ⟨b0,x0⟩:=z;simp only [qQ];split
               . exact ⟨x0,rfl⟩
               . rename_i hne;simp at h;rcases h with ⟨rfl,_⟩ | h
                 . exact absurd rfl hne
                 . exact ih h
           obtain ⟨x1,hx1⟩:=hwm hm;obtain ⟨x2,hx2⟩:=hgm hx1;rcases Fix.yQ NU hx2 with ⟨c',y,h5,h6,_⟩ | ⟨h5,_⟩
           . rw [hii] at h5;cases h5;exact hs.m.lt _ _ h6
           . rw [hii] at h5;cases h5
         refine .inl ⟨pb,x,by rw [z8,h1],by rw [Tw pb hlt];exact hii,h3,?_,?_⟩
         . simp only [g2];omega
         . simp only [g2];rw [if_pos hq,hφ' pb hlt,Fix.qU hii]
     . obtain ⟨h1,h2⟩:=GZ _ _ _ hb;exact .inr ⟨h1,h2⟩
 have L6:∀pb x p,get (c.mods++c.fresh) pb=some x->g'.φ pb=some p->(∃b x p',get s.mem b=some x/\x.wr=true/\g.φ b=some p'/\p'.blk=p.blk/\b∈u.Qk (p8 c.mem))\/w.heap.size<=p.blk:=fun pb x p h1 h2=>by
   rcases hm'.own pb x p h1 (hwr _ (xM h1).2) h2 with h3 | h3
   . exact .inl (hX _ h3)
   . exact .inr h3
 have qyC:qX A I cx.P g2 (u2.dS c.fresh++(u2.dS c.mods++G8 (u.Qk (p8 c.mem)) s.mem)) w':=by
   refine ⟨fun b hb=>?_,fun b y hb=>?_,fun b y hb=>?_,fun b d y z p q hy hz hwy hp hq e=>?_,fun b p hp=>?_,fun b y p hy hw hp=>?_,?_,fun i hi hXi=>?_,⟨hm'.same.1.trans hs.m.same.1,hm'.same.2.trans hs.m.same.2⟩,fun b y o hb hr=>?_,fun o cs hz=>?_⟩
   . simp only [g2] at hb ⊢;rw [if_neg (by omega),if_neg (by omega)]
   . rcases hent b y hb with ⟨pb,x,h1,h2,rfl,h4,h5⟩ | ⟨h1,h2⟩
     . exact Inst.qxU hinst h2 (fun p hp=>by rw [<-h5];exact hp) (hm'.blk pb x h1)
     . refine ((hs.m.blk b y h1).heap (H':=fun i=>w'.heap[i]?) (fun p hp=>D5 b y p h1 h2 hp) fun o hr=>?_).le hle2 hs.m.wf (hs.m.lt b y h1);obtain ⟨_,h4,h5,_⟩:=hs.m.fam b y o h1 hr
       exact hm'.keep o h4 fun hx=>by
         obtain ⟨b',x',p',h6,_,h7,h8,_⟩:=hX _ hx;exact h5 b' x' p' h6 h7 h8
   . rcases hent b y hb with ⟨_,_,_,_,_,h4,_⟩ | ⟨h1,_⟩
     . exact h4
     . have:=hs.m.lt b y h1;simp only [g2];omega
   . rcases hent b y hy with ⟨pb,x,h1,h2,rfl,_,h5⟩ | ⟨h1,h2⟩ <;> rcases hent d z hz with ⟨pd,x',h6,h7,rfl,_,h10⟩ | ⟨h6,h7⟩
     . rw [h5] at hp;rw [h10] at hq;have:=hm'.inj pb pd x x' p q h1 h6 (hwr _ (xM h1).2) hp hq e;subst this;rw [h2] at h7;exact Option.some.inj h7
     . rw [h5] at hp;rw [hle2.φ d (hs.m.lt d z h6)] at hq;rcases L6 pb x p h1 hp with ⟨b',x',p',h11,Ee,h12,h13,h14⟩ | h11
       . have:=hs.m.inj b' d x' z p' q h11 h6 Ee h12 hq (by rw [h13,e]);subst this;exact absurd h14 h7
       . have:=hs.m.bnd d q hq;omega
     . rw [h10] at hq;rw [hle2.φ b (hs.m.lt b y h1)] at hp;rcases L6 pd x' q h6 hq with ⟨b',x',p',h11,Ee,h12,h13,h14⟩ | h11
       . have:=hs.m.inj b' b x' y p' p h11 h1 Ee h12 hp (by rw [h13,e]);subst this;exact absurd h14 h2
       . have:=hs.m.bnd b p hp;omega
     . rw [hle2.φ b (hs.m.lt b y h1)] at hp;rw [hle2.φ d (hs.m.lt d z h6)] at hq;exact hs.m.inj b d y z p q h1 h6 hwy hp hq e
   . simp only [g2] at hp;split at hp
     . have h1:=hs.m.bnd b p hp;have h2:=hm'.size;exact Nat.lt_of_lt_of_le h1 h2
     . split at hp
       . exact hm'.bnd _ p hp
       . cases hp
   . rcases hent b y hy with ⟨pb,x,h1,h2,rfl,_,h5⟩ | ⟨h1,h2⟩
     . rw [h5] at hp;rcases L6 pb x p h1 hp with ⟨b',x',p',h11,h12,h13,h14,_⟩ | h11
       . rw [<-h14];exact hs.m.own b' x' p' h11 h12 h13
       . right;exact Nat.le_trans hs.m.size h11
     . rw [hle2.φ b (hs.m.lt b y h1)] at hp;exact hs.m.own b y p h1 hw hp
   . exact Nat.le_trans hs.m.size hm'.size
   . have h1:w'.heap[i]?=w.heap[i]?:=hm'.keep i (Nat.lt_of_lt_of_le hi hs.m.size) fun hx=>by
       obtain ⟨b',x',p',h4,h5,h6,h7,_⟩:=hX _ hx;rcases hs.m.own b' x' p' h4 h5 h6 with h8 | h8
       . rw [h7] at h8;exact hXi h8
       . omega
     rw [h1];exact hs.m.keep i hi hXi
   . have back:∀b y,get (u2.dS c.fresh++(u2.dS c.mods++G8 (u.Qk (p8 c.mem)) s.mem)) b=some y->zV (fun i=>w'.heap[i]?) I g2 b y o->get s.mem b=some y/\zV (fun i=>w.heap[i]?) I g b y o:=fun b y hb hr=>by
       rcases hent b y hb with ⟨pb,x,h1,_,rfl,_,_⟩ | ⟨h1,h2⟩
       . have:=hr.fam;rw [WU,qjg pb x h1] at this;cases this
       . exact ⟨h1,zV.le hle2 (hs.m.lt b y h1) (hs.m.blk b y h1) (fun p hp=>D5 b y p h1 h2 hp) hr⟩
     obtain ⟨h1,h2⟩:=back b y hb hr;obtain ⟨h3,h4,h5,h6⟩:=hs.m.fam b y o h1 h2;refine ⟨h3,Nat.lt_of_lt_of_le h4 hm'.size,fun d z q hz hq=>?_,fun d z hz hrz=>?_⟩
     . rcases hent d z hz with ⟨pb,x,k1,_,rfl,_,k5⟩ | ⟨k1,_⟩
       . rw [k5] at hq;rcases L6 pb x q k1 hq with ⟨b',x',p',k6,_,k7,k8,_⟩ | k6
         . rw [<-k8];exact h5 b' x' p' k6 k7
         . omega
       . rw [hle2.φ d (hs.m.lt d z k1)] at hq;exact h5 d z q k1 hq
     . obtain ⟨k1,k2⟩:=back d z hz hrz;exact h6 d z k1 k2
   . have hz:g'.fz o=some cs:=hz;obtain ⟨h1,h2,h3,h4,h5⟩:=hm'.frz o cs hz;have h1:g.fz o=some cs\/(c.amb (u.view g ds) w).X o\/w.heap.size<=o:=h1;refine ⟨?_,h2,h3,fun d z q hd hwz hq=>?_,fun d z hd hr=>?_⟩
     . rcases h1 with h1 | h1 | h1
       . exact (hs.m.frz o cs h1).1
       . obtain ⟨b',x',p',h6,h7,h8,h9,_⟩:=hX _ h1;rcases hs.m.own b' x' p' h6 h7 h8 with h10 | h10
         . rw [h9] at h10;exact .inr (.inl h10)
         . rw [h9] at h10;exact .inr (.inr h10)
       . exact .inr (.inr (Nat.le_trans hs.m.size h1))
     . rcases hent d z hd with ⟨pb,x,k1,_,rfl,_,k5⟩ | ⟨k1,k2⟩
       . rw [k5] at hq;exact h4 pb x q k1 (hwr _ (xM k1).2) hq
       . rw [hle2.φ d (hs.m.lt d z k1)] at hq;rcases h1 with h1 | h1 | h1
         . exact (hs.m.frz o cs h1).2.2.2.1 d z q k1 hwz hq
         . obtain ⟨b',x',p',h6,h7,h8,h9,h10⟩:=hX _ h1;intro e;have:=hs.m.inj b' d x' z p' q h6 k1 h7 h8 hq (by rw [h9,e]);subst this;exact k2 h10
         . have:=hs.m.bnd d q hq;omega
     . rcases hent d z hd with ⟨pb,x,k1,_,rfl,_,_⟩ | ⟨k1,k2⟩
       . have:=hr.fam;rw [WU,qjg pb x k1] at this;cases this
       . have hr':=zV.le hle2 (hs.m.lt d z k1) (hs.m.blk d z k1) (fun p hp=>D5 d z p k1 k2 hp) hr;obtain ⟨_,f2,f3,_⟩:=hs.m.fam d z o k1 hr';rcases h1 with h1 | h1 | h1
         . exact (hs.m.frz o cs h1).2.2.2.2 d z k1 hr'
         . obtain ⟨b',x',p',h6,_,h8,h9,_⟩:=hX _ h1;exact f3 b' x' p' h6 h8 h9
         . omega
 have hb1:=lD hbody hout
 have hb2:=pJ hb1 fun p hp=>by
   simp only [List.mem_map] at hp;obtain ⟨q,hq,rfl⟩:=hp;exact PE.SI hinst.σ (hpost q hq)
 refine ⟨_,g2,{ s with mem:=u2.dS c.fresh++(u2.dS c.mods++G8 (u.Qk (p8 c.mem)) s.mem),nv:=s.nv+c.outs.length,nb:=s.nb+c.fresh.length },hle2,Inst.rel hinst hres,⟨qyC,hs.t.le hle2 hs.m.wf,hs.nt,hs.d.le hle2 hs.m.wf,?_,?_⟩,hb2⟩
 . simp [g2,hs.nv,hout.length]
 . simp [g2,hs.nb,nf]
end Go.Sx
noncomputable section
namespace Go.Sx
open Go
variable {A:Amb} {I:Itp} {P:Program} {g:G} {X:Nat->Prop} {ts:qO} {a:Act} {M:Mem} {w:World}
theorem vY {r:Option Nat} {n:Nat} {f:FuncId} {args:Array Value} {R:Ending->World->Prop}:CallsIn (FW r) n P f args w R↔Calls P f args w R:=by
 have:CallsIn (FW r) n P f args w R=CallsIn Fence.wide n P f args w R:=rfl;rw [this];exact callsIn_wide
theorem yh {f:FuncId} {fn:Func} {c:Code} (hf:P.funcs[f]?=some fn) (hb:fn.body=some c) (hn:(fn.name == "runtime.NumGoroutine")=false) (args:Array Value) :
   (callFunc f args).run P w=.ok (.enter f args) w:=by
 simp [callFunc,go_sem,hf,hb];intro h;rw [h] at hn;simp at hn
def Vl (tmps:Array Value):ResultVar->Sem Value
 | .tmp t=>pure (tmps.getD t undef)
 | .cell b t=>do loadVar t (<-asAddr (tmps.getD b undef))
theorem eu {s:St} (hm:qX A I P g s.mem w) (ht:wG I g (fun _=>False) s.tmps a.tmps):∀{l:List ResultVar} {vs:List AV},rO P s l=some vs->
   ∃xs,(l.mapM (Vl a.tmps)).run P w=.ok xs w/\qw I g vs xs
 | [],vs,h=>by simp [rO] at h;subst h;exact ⟨[],rfl,trivial⟩
 | .tmp t::l,vs,h=>by
   simp only [rO] at h;split at h
   . rename_i v vs' h1 h2;simp at h;subst h;obtain ⟨x,h3,h4⟩:=ht t v h1 (fun h=>h);obtain ⟨xs,h5,h6⟩:=eu hm ht h2;refine ⟨x::xs,?_,h4,h6⟩;simp [List.mapM_cons,Vl,h5,Result.andThen,Array.getD_eq_getD_getElem?,h3]
   . cases h
 | .cell b t::l,vs,h=>by
   simp only [rO] at h;split at h
   . rename_i bl r z k ag n vs' h1 h2 h3 h4;split at h
     . rename_i v hl;simp at h;subst h;obtain ⟨x,h5,h6⟩:=ht b _ h1 (fun h=>h);obtain ⟨m,p,h7,h8,h9,rfl⟩:=h6;obtain ⟨xs,h10,h11⟩:=eu hm ht h4;obtain ⟨y,h12,h13⟩:=JO hm hl (fun q hq=>by simp at hq) h7 h8 h9 h2 h3;refine ⟨y::xs,?_,h13,h11⟩
       have h14:(loadVar t ⟨p.blk,p.base+m.toNat*z+k,none⟩).run P w=.ok y w:=by
         simpa [Instr.loadAt,Instr.sureAddr,Sem.run_bind,Result.andThen] using h12
       simp [List.mapM_cons,Sem.run_bind,Vl,h10,Result.andThen,Array.getD_eq_getD_getElem?,h5,asAddr,h14]
     . cases h
   . cases h
theorem QF {s:St} (hm:qX A I P g s.mem w) (ht:wG I g (fun _=>False) s.tmps a.tmps) {fn:Func} {vs:List AV} (h:rO P s fn.results.toList=some vs) :
   ∃v,(results fn a.tmps).run P w=.ok v w/\Rel I g (single vs) v:=by
 obtain ⟨xs,h1,h2⟩:=eu hm ht h
 have e:results fn a.tmps=(do let vs <-fn.results.mapM (Vl a.tmps);pure (if h:vs.size=1 then vs[0] else .tuple vs)):=by
   unfold results;rfl
 rw [e,Array.mapM_eq_mapM_toList]
 have hrun:(Functor.map List.toArray (List.mapM (Vl a.tmps) fn.results.toList)).run P w=.ok xs.toArray w:=by
   rw [map_eq_pure_bind];simp [h1,Result.andThen]
 refine ⟨if h:xs.toArray.size=1 then xs.toArray[0] else .tuple xs.toArray,?_,?_⟩
 . rw [Sem.run_bind,hrun];simp [Result.andThen]
 . match vs,xs,h2 with
   | [],[],_=>simp [single,Rel,qw]
   | [v],[x],h2=>simpa [single,qw] using h2
   | v1::v2::vs,x1::x2::xs,h2=>simpa [single,Rel] using h2
   | [_],_::_::_,h2=>simp [qw] at h2
   | _::_::_,[_],h2=>simp [qw] at h2
theorem JJ:∀{l:List AV} {xs:List Value} {n t:Nat} {v:AV},qw I g l xs->get (number n l) t=some v->∃x,n<=t/\xs[t - n]?=some x/\Rel I g v x
 | [],[],n,t,v,_,h=>by simp [number,get_nil] at h
 | v0::l,x0::xs,n,t,v,hr,h=>by
   simp only [number,qQ] at h;split at h
   . rename_i he;subst he;simp at h;subst h;exact ⟨x0,Nat.le_refl _,by simp,hr.1⟩
   . obtain ⟨x,h1,h2,h3⟩:=JJ hr.2 h;refine ⟨x,by omega,?_,h3⟩;obtain ⟨k,rfl⟩:∃k,t=n+1+k:=⟨t - (n+1),by omega⟩;rw [show n+1+k - n=(n+1+k - (n+1))+1 by omega];simpa using h2
 | [],_::_,_,_,_,hr,_=>by simp [qw] at hr
 | _::_,[],_,_,_,hr,_=>by simp [qw] at hr
theorem Yj {s:St} {nt:Nat} {args:List AV} {xs:List Value} (hm:qX A I P g s.mem w) (hnv:g.env.length=s.nv) (hnb:g.nb=s.nb) (ha:qw I g args xs) (hlen:args.length<=nt) :
   qW A I P (fun _=>False) g { s with tmps:=number 0 args,nt:=nt,defers:=[] } { tmps:=xs.toArray++Array.replicate (nt - xs.toArray.size) undef,defers:=[] } w:=by
 have hxs:=ha.length;refine ⟨hm,fun t v ht _=>?_,?_,trivial,hnv,hnb⟩
 . obtain ⟨x,_,h2,h3⟩:=JJ ha ht
   have hlt:t<xs.length:=by
     rcases Nat.lt_or_ge t xs.length with h | h
     . exact h
     . rw [List.getElem?_eq_none (by simpa using h)] at h2;cases h2
   exact ⟨x,by simp [Array.getElem?_append,hlt];simpa [List.getElem?_eq_getElem hlt] using h2,h3⟩
 . simp;omega
theorem VQ {c c2:Code} {d:Option Tmp} (h:YL c=some (d,c2)):∃id o,c=.seq (.region id #[o] false) c2/\(∃a t,o.op=.call ⟨.builtin .recover,a,t⟩)/\o.guard=none/\d=o.dst:=by
 unfold YL at h;split at h
 case h_2=>cases h
 rename_i id ops c';split at h
 case h_2=>cases h
 rename_i o ho;split at h
 case h_2=>cases h
 rename_i a t hop hg;cases h;have:ops=#[o]:=by rw [<-Array.toArray_toList (xs:=ops),ho]
 exact ⟨id,o,by rw [this],⟨a,t,hop⟩,hg,rfl⟩
theorem rD {cx:Cx} {e:Eng} (hE:jh I cx e) (hG:GOk cx.kn.globs A) {n:Nat} {fn:Func} {tmps:Array Value} {R:Ending->World->Prop} {k:St->Tree}:∀{l:List DV} {ds:List Deferred} {g:G} {s:St} {w:World},
   gM I g l ds->qX A I cx.P g s.mem w->wG I g (fun _=>False) s.tmps tmps->g.env.length=s.nv->g.nb=s.nb->(shut cx e l s k).vc I g.env->
   (∀g' s' w',g.Le g'->qX A I cx.P g' s'.mem w'->wG I g' (fun _=>False) s'.tmps tmps->g'.env.length=s'.nv->g'.nb=s'.nb->(k s').vc I g'.env->LeavesIn (FW none) n cx.P fn tmps R [] .returning w')->
   LeavesInM (FW none) n cx.P fn tmps R ds .returning w
 | [],[],g,s,w,_,hm,ht,hnv,hnb,h,hk=>hk g s w (.refl _) hm ht hnv hnb h
 | .blk b::l,d::ds,g,s,w,⟨⟨p,hp,hd⟩,hds⟩,hm,ht,hnv,hnb,h,hk=>by
   simp only [shut] at h;split at h
   . rename_i hg;obtain ⟨p',hp',hh⟩:=hm.blk b _ hg;rw [hp] at hp';cases hp';refine ⟨by simp,.inl ⟨p.blk,_,by rw [hd],run_takeDeferred hh,?_⟩⟩;have hlt:=hm.bnd b p hp;exact rD hE hG (s:={ s with mem:=put b (.dfr false) s.mem }) hds (hm.write (y:=.dfr false) hg rfl hp (by simp) (fun i hi=>World.putObj_heap_other hi) ⟨p,hp,World.putObj_heap_same hlt⟩) ht hnv hnb h hk
   . exact h.elim
 | .fn f m cap::l,d::ds,g,s,w,⟨⟨ms,cs,hd,hms,hcs⟩,hds⟩,hm,ht,hnv,hnb,h,hk=>by
   simp only [shut] at h;unfold TJ at h;split at h
   rotate_left
   . exact h.elim
   rename_i fn' hf;split at h
   rotate_left
   . exact h.elim
   rename_i c hb;split at h
   . exact h.elim
   rename_i hname;split at h
   rotate_left
   . exact h.elim
   rename_i hlen;have ha:qw I g (m++cap) (ms.toList++cs.toList):=hms.append hcs;have hco:COK cx.P f 0 c:=fun i rf hi=>by simp [Jw,hf,hb,hi]
   have hs0:=Yj hm hnv hnb ha hlen;refine ⟨by simp,.inr ⟨fun h=>by simp [FW,Fence.wide] at h,.func f,cs,f,ms++cs,by rw [hd],?_,fun _ _=>trivial,?_⟩⟩
   . rw [hd];have:=yh (w:=w) hf hb (by simpa using hname) (ms++cs);simpa [invoke] using this
   . have hargs:(ms.toList++cs.toList).toArray=ms++cs:=by simp
     rw [hargs] at hs0
     have hall:∀{x:Ex} {g':G} {s':St} {a':Act} {w':World},g.Le g'->qW A I cx.P (fun _=>False) g' s' a' w'->(Fp cx fn' s (fun s'=>shut cx e l s' k) x s').vc I g'.env->
         (x=.normal\/x=.ret)/\a'.defers=[]/\∃v,(results fn' a'.tmps).run cx.P w'=.ok v w'/\∃v',Ending.returned v=.returned v'/\LeavesInM (FW none) n cx.P fn tmps R ds .returning w':=by
       intro x g' s' a' w' hle hs' hv
       have hx:x=.normal\/x=.ret:=by
         cases x with
         | normal=>exact .inl rfl
         | ret=>exact .inr rfl
         | exit id=>exact hv.elim
         | goto l=>exact hv.elim
       refine ⟨hx,?_⟩
       have hv':(if s'.defers.isEmpty then match rO cx.P s' fn'.results.toList with
             | some _=>shut cx e l { s with mem:=s'.mem,nv:=s'.nv,nb:=s'.nb } k
             | none=>.fail 30
           else .fail 37).vc I g'.env:=by
         rcases hx with rfl | rfl <;> exact hv
       split at hv'
       . rename_i hemp;split at hv'
         . rename_i vs hvs;obtain ⟨v,h4,_⟩:=QF hs'.m hs'.t hvs
           have hd0:a'.defers=[]:=by
             have:=hs'.d;rw [List.isEmpty_iff.1 hemp] at this;cases hda:a'.defers with
             | nil=>rfl
             | cons _ _=>rw [hda] at this;simp [gM] at this
           refine ⟨hd0,v,h4,v,rfl,?_⟩
           exact rD hE hG (s:={ s with mem:=s'.mem,nv:=s'.nv,nb:=s'.nb }) (hds.le hle hm.wf) hs'.m (ht.le hle hm.wf) hs'.nv hs'.nb hv'
             fun g2 s2 w2 hle2=>hk g2 s2 w2 (hle.trans hle2)
         . exact hv'.elim
       . exact hv'.elim
     split at h
     . rename_i d c2 hrec;split at h
       rotate_left
       . exact h.elim
       rename_i s1 hset;obtain ⟨id,o,rfl,hop,hgd,rfl⟩:=VQ hrec
       refine (callsDIn_of_wpSIn (R:=fun e u w'=>u=.returning/\∃v,e=.returned v/\LeavesInM (FW none) n cx.P fn tmps R ds .returning w') hf hb trivial fun c₀ qjV hmode=>wpSIn_seq (wpSIn_region ?_)).mono
         fun e u' w' ⟨h1,v,h2,h3⟩=>by subst h1;subst h2;exact h3
       obtain ⟨ca,ta,hop⟩:=hop
       have hrun:(execOp (Act.eval { tmps:=ms++cs++Array.replicate (fn'.ntmps - (ms++cs).size) undef,defers:=[] }) o).run cx.P w=.ok .recover w:=by
         simp [execOp,hop,resolve,invoke,Go.builtin]
       have hno:recoverD (c₀::qjV)=none:=by simp [recoverD,hmode]
       show wpOpsSIn _ _ _ _ _ [0] _ _ _;simp only [wpOpsSIn,List.getElem?_toArray,List.getElem?_cons_zero,Region.wanted,hgd,if_true,hrun,hno];refine ⟨fun _ _=>trivial,?_⟩;have qyE:COK cx.P f 0 c2:=fun i rf hi=>hco i rf (by simpa [rfs] using hi);refine wpSIn_of_wpIn rfl (wpIn_mono (hE.exec hG (r:=none) h (hs0.yX (show Rel I g .xk .nilIface from rfl) hset) trivial qyE (n - 1)) fun ex a' w' hpost=>?_);obtain ⟨x,g',s',rfl,hle,hs',hv⟩:=hpost;obtain ⟨hx,hd0,v,hr,v',hv1,hv2⟩:=hall hle hs' hv;rcases hx with rfl | rfl
       . exact ⟨hd0,c₀.mode,rfl,v,hr,hmode,v',hv1,hv2⟩
       . exact ⟨hd0,c₀.mode,rfl,v,hr,hmode,v',hv1,hv2⟩
     . refine (callsDIn_of_wp (R:=fun e w'=>∃v,e=.returned v/\LeavesInM (FW none) n cx.P fn tmps R ds .returning w') hf hb trivial ?_).mono fun e u' w' ⟨h1,v,h2,h3⟩=>by subst h1;subst h2;exact h3
       refine wpIn_mono (hE.exec hG (r:=none) h hs0 trivial hco (n - 1)) fun ex a' w' hpost=>?_;obtain ⟨x,g',s',rfl,hle,hs',hv⟩:=hpost;obtain ⟨hx,hall⟩:=hall hle hs' hv;rcases hx with rfl | rfl
       . exact hall
       . exact hall
 | [],_::_,_,_,_,hd,_,_,_,_,_,_=>by simp [gM] at hd
 | _::_,[],_,_,_,hd,_,_,_,_,_,_=>by simp [gM] at hd
theorem get_filter {p:Nat->Bool}:∀{M:Mem} {b:Nat} {y:Blk},get (M.filter fun x=>p x.1) b=some y->get M b=some y
 | [],b,y,h=>by simp [get_nil] at h
 | (b0,x0)::M,b,y,h=>by
   simp only [List.filter_cons] at h;simp only [qQ];by_cases he:b0=b
   . subst he;rw [if_pos rfl];split at h
     . simpa [qQ] using h
     . rename_i hp;exfalso
       have hno:∀{M:Mem},get (M.filter fun x=>p x.1) b0=none:=by
         intro M
         induction M with
         | nil=>rfl
         | cons q M ih=>
           obtain ⟨b1,x1⟩:=q;simp only [List.filter_cons];split
           . rename_i h1;simp only [qQ];rw [if_neg]
             . exact ih
             . rintro rfl;exact hp h1
           . exact ih
       rw [hno] at h;cases h
   . rw [if_neg he];split at h
     . simp only [qQ] at h;rw [if_neg he] at h;exact get_filter h
     . exact get_filter h
theorem EN {nb nb':Nat} {v:AV} {M:Mem} {b:Nat} {y:Blk} (h:get (gc nb nb' v M) b=some y):get M b=some y:=by
 unfold gc at h;split at h
 . exact h
 . exact get_filter (p:=fun b=>decide (b<nb) || Bt (mark nb M 2000 (lq nb M (v.refs nb [])) 0) b) h
theorem Uy {nb:Nat} {s:St} {b:Nat} {y:Blk} (h:get (gcR nb s) b=some y):get s.mem b=some y:=by
 unfold gcR at h;split at h
 . exact h
 . exact get_filter (p:=fun b=>decide (b<nb) || Bt (mark nb s.mem 2000 (lq nb s.mem (F7 nb s.tmps (F8 nb s.defers []))) 0) b) h
theorem N8:∀{cs:List Contract} {f:FuncId} {args:List AV} {s:St} {c:Contract},Tn cs f args s=some c->c∈cs/\c.fn=f:=by
 intro cs f args s c h;unfold Tn at h;exact ⟨List.mem_of_find?_eq_some h,by have:=List.find?_some h;simp only [Bool.and_eq_true,beq_iff_eq] at this;exact this.1⟩
theorem gQ {cx:Cx} {e:Eng} (hE:jh I cx e) (hG:GOk cx.kn.globs A) (hC:∀c∈cx.cs,COk I cx.P cx.kn.globs c) {f:FuncId} {args:List AV} {s:St} {k:AV->St->Tree} {xs:List Value}
   (h:(Yh cx e f args s k).vc I g.env) (hs:qW A I cx.P X g s a w) (ha:qw I g args xs) :
   (∃fn c,cx.P.funcs[f]?=some fn/\fn.body=some c/\(fn.name == "runtime.NumGoroutine")=false)/\
     Calls cx.P f xs.toArray w fun e w'=>∃v,e=.returned v/\aY A I cx.P X g a k v w':=by
 unfold Yh at h;split at h
 . rename_i fn hf;split at h
   . rename_i c hb;split at h
     . exact h.elim
     rename_i hname;refine ⟨⟨fn,c,hf,hb,by simpa using hname⟩,?_⟩;split at h
     . rename_i ct hct;obtain ⟨h1,h2⟩:=N8 hct;subst h2;exact X6 hG (hC ct h1) h hs ha
     . split at h
       . rename_i hlen;rw [<-vY (r:=none) (n:=0)];refine callsIn_of_wp_marks hf hb trivial ?_;have hs0:=Yj hs.m hs.nv hs.nb ha hlen;have hco:COK cx.P f 0 c:=fun i rf hi=>by simp [Jw,hf,hb,hi]
         refine wpIn_mono (hE.exec hG (r:=none) h hs0 trivial hco 0) fun ex a' w' hpost=>?_;obtain ⟨x,g',s',rfl,hle,hs',hv⟩:=hpost
         have hall:x=.normal\/x=.ret->LeavesInM (FW none) 0 cx.P fn a'.tmps (fun e w'=>∃v,e=.returned v/\aY A I cx.P X g a k v w') a'.defers .returning w':=by
           intro hx
           have hv':(shut cx e s'.defers s' fun s''=>match rO cx.P s'' fn.results.toList with
               | some vs=>k (single vs) { s with mem:=gc s.nb s''.nb (single vs) s''.mem,nv:=s''.nv,nb:=s''.nb }
               | none=>.fail 30).vc I g'.env:=by
             rcases hx with rfl | rfl <;> exact hv
           refine rD hE hG hs'.d hs'.m hs'.t hs'.nv hs'.nb hv' fun g2 s2 w2 hle2 hm2 ht2 qyM qyT hv2=>?_;split at hv2
           . rename_i vs h2;obtain ⟨v,h4,h5⟩:=QF hm2 ht2 h2;have hle':=hle.trans hle2
             exact ⟨v,h4,v,rfl,single vs,g2,{ s with mem:=gc s.nb s2.nb (single vs) s2.mem,nv:=s2.nv,nb:=s2.nb },hle',h5,
               ⟨hm2.sub fun b y hb=>EN hb,hs.t.le hle' hs.m.wf,hs.nt,hs.d.le hle' hs.m.wf,qyM,qyT⟩,hv2⟩
           . exact hv2.elim
         cases x with
         | normal=>exact hall (.inl rfl)
         | ret=>exact hall (.inr rfl)
         | exit id=>exact hv.elim
         | goto l=>exact hv.elim
       . exact h.elim
   . exact h.elim
 . exact h.elim
theorem uy {nt:Nat}:∀{ps:List Nat} {args:List AV} {xs:List Value} {ts:qO} {arr:Array Value},wG I g (fun _=>False) ts arr->arr.size=nt->qw I g args xs->ps.all (·<nt)=true->
   wG I g (fun _=>False) (vg ps args ts) ((ps.zip xs).foldl (fun tmps (t,a)=>tmps.setIfInBounds t a) arr)/\((ps.zip xs).foldl (fun tmps (t,a)=>tmps.setIfInBounds t a) arr).size=nt
 | [],args,xs,ts,arr,ht,hn,_,_=>by simp [vg];exact ⟨ht,hn⟩
 | p::ps,[],[],ts,arr,ht,hn,_,_=>by simp [vg];exact ⟨ht,hn⟩
 | p::ps,v::args,x::xs,ts,arr,ht,hn,hr,hp=>by
   simp only [List.all_cons,Bool.and_eq_true,decide_eq_true_eq] at hp;simp only [vg,List.zip_cons_cons,List.foldl_cons];refine uy (fun t u hu _=>?_) (by simpa using hn) hr.2 hp.2;rw [xH] at hu;by_cases htp:p=t
   . subst htp;rw [if_pos rfl] at hu;simp at hu;subst hu;exact ⟨x,by simp [hn,hp.1],hr.1⟩
   . rw [if_neg htp] at hu;obtain ⟨y,h1,h2⟩:=ht t u hu (fun h=>h);exact ⟨y,by simp [Array.getElem?_setIfInBounds_ne htp,h1],h2⟩
 | _::_,[],_::_,_,_,_,_,hr,_=>by simp [qw] at hr
 | _::_,_::_,[],_,_,_,_,hr,_=>by simp [qw] at hr
theorem Vo:∀{c:Code} {i j:Nat} {rf x:RF},(rfs c)[i]?=some rf->(rfs rf.assign++rfs rf.body)[j]?=some x->(rfs c)[i+1+j]?=some x:=by
 have happ:∀{l m:List RF} {i j:Nat} {rf x:RF},(∀{i j:Nat} {rf x:RF},l[i]?=some rf->(rfs rf.assign++rfs rf.body)[j]?=some x->l[i+1+j]?=some x)->
     (∀{i j:Nat} {rf x:RF},m[i]?=some rf->(rfs rf.assign++rfs rf.body)[j]?=some x->m[i+1+j]?=some x)->
     (l++m)[i]?=some rf->(rfs rf.assign++rfs rf.body)[j]?=some x->(l++m)[i+1+j]?=some x:=by
   intro l m i j rf x hl hm h1 h2;rcases Nat.lt_or_ge i l.length with hi | hi
   . rw [List.getElem?_append_left hi] at h1;have h3:=hl h1 h2
     have hlt:i+1+j<l.length:=by
       rcases Nat.lt_or_ge (i+1+j) l.length with h | h
       . exact h
       . rw [List.getElem?_eq_none (by simpa using h)] at h3;cases h3
     rw [List.getElem?_append_left hlt];exact h3
   . rw [List.getElem?_append_right hi] at h1;have h3:=hm h1 h2;rw [List.getElem?_append_right (by omega),show i+1+j - l.length=i - l.length+1+j by omega];exact h3
 intro c
 induction c with
 | seq a b iha ihb=>intro i j rf x h1 h2;simp only [rfs] at h1 ⊢;exact happ iha ihb h1 h2
 | cond o a b iha ihb=>intro i j rf x h1 h2;simp only [rfs] at h1 ⊢;exact happ iha ihb h1 h2
 | block id b ih=>intro i j rf x h1 h2;simp only [rfs] at h1 ⊢;exact ih h1 h2
 | loop b ih=>intro i j rf x h1 h2;simp only [rfs] at h1 ⊢;exact ih h1 h2
 | scope b ih=>intro i j rf x h1 h2;simp only [rfs] at h1 ⊢;exact ih h1 h2
 | rangeFunc f ps a b iha ihb=>
   intro i j rf x h1 h2;simp only [rfs] at h1 ⊢;cases i with
   | zero=>
     simp at h1;subst h1;rw [show 0+1+j=j+1 by omega,List.getElem?_cons_succ];exact h2
   | succ i=>
     rw [List.getElem?_cons_succ] at h1;rw [show i+1+1+j=(i+1+j)+1 by omega,List.getElem?_cons_succ];exact happ iha ihb h1 h2
 | _=>intro i j rf x h1 h2;simp [rfs] at h1
theorem COK.qzW {fn ix:Nat} {rf:RF} (h:Jw P fn ix=some rf):COK P fn (ix+1) rf.assign/\COK P fn (ix+1+(rfs rf.assign).length) rf.body:=by
 unfold Jw at h;split at h
 . rename_i f hf;split at h
   . rename_i c hb;refine ⟨fun i x hi=>?_,fun i x hi=>?_⟩
     . have:=Vo (j:=i) h (x:=x) (by
         rw [List.getElem?_append_left]
         . exact hi
         . rcases Nat.lt_or_ge i (rfs rf.assign).length with h | h
           . exact h
           . rw [List.getElem?_eq_none (by simpa using h)] at hi;cases hi)
       simp [Jw,hf,hb,this]
     . have:=Vo (j:=(rfs rf.assign).length+i) h (x:=x) (by
         rw [List.getElem?_append_right (by omega)];simpa using hi)
       rw [<-Nat.add_assoc] at this;simp [Jw,hf,hb,this]
   . cases h
 . cases h
theorem Vj {cx:Cx} {e:Eng} (hE:jh I cx e) (hG:GOk cx.kn.globs A) {b:Nat} {p:PB} {args:List AV} {s:St} {k:AV->St->Tree} {xs:List Value} {r:Option Nat} {n:Nat}
   (h:(yield cx e b args s k).vc I g.env) (hs:qW A I cx.P X g s a w) (hp:g.φ b=some p) (ha:qw I g args xs) :
   KI r n cx.P (.func (.yield p.blk) #[] #[]) xs w (aY A I cx.P X g a k):=by
 unfold yield at h;split at h
 rotate_left
 . exact h.elim
 rename_i pend fn ix nt ts dd hg;split at h
 rotate_left
 . exact h.elim
 rename_i rf hrf;split at h
 rotate_left
 . exact h.elim
 rename_i hcond;obtain ⟨hlen,hps⟩:=hcond;obtain ⟨p',q,rl,rf',hp',hq,hh,NC,hst,hpend,hpar,has,hbo,hdef,hsz,htr⟩:=hs.m.blk b _ hg;rw [hp] at hp';cases hp';rw [hrf] at NC;cases NC;have hxs:=ha.length
 have hyr:=run_yield (P:=cx.P) (args:=xs.toArray) hh (by
   have:rl.params.size=rf.params.length:=by rw [<-hpar];simp
   simp;omega)
 refine ⟨_,w,?_,.inr ⟨p.blk,rl.fn,(rl.params.zip xs.toArray).foldl (fun tmps (t,a)=>tmps.setIfInBounds t a) rl.tmps,rl.assign,rl.body,rfl,?_⟩⟩
 . have e:(do let d <-Deferred.ofValue (.func (.yield p.blk) #[] #[]) xs.toArray;invoke d.target d.args:Sem Next).run cx.P w=(Instr.yield p.blk xs.toArray).run cx.P w:=by
     simp [Deferred.ofValue,invoke]
   rw [e];exact hyr
 refine roundIn_of_wpIn (F:=FW r) trivial ?_;rw [show (FW r).inRound p.blk=FW (some p.blk) from rfl];obtain ⟨hca,hcb⟩:=COK.qzW hrf;have IK:=uy (nt:=nt) htr hsz ha hps
 have IX:(rl.params.zip xs.toArray).foldl (fun tmps (t,a)=>tmps.setIfInBounds t a) rl.tmps=(rf.params.zip xs).foldl (fun tmps (t,a)=>tmps.setIfInBounds t a) rl.tmps:=by
   rw [<-hpar,<-Array.foldl_toList];simp
 rw [has,hbo]
 have hs0:qW A I cx.P (fun _=>False) g { s with tmps:=vg rf.params args ts,nt:=nt,defers:=[] }
     { tmps:=(rl.params.zip xs.toArray).foldl (fun tmps (t,a)=>tmps.setIfInBounds t a) rl.tmps,defers:=[] } w:=
   ⟨hs.m,by rw [IX];exact IK.1,by rw [IX];exact IK.2,trivial,hs.nv,hs.nb⟩
 refine wpIn_mono (hE.exec hG (r:=some p.blk) h hs0 ⟨p,hp,rfl⟩ hca n) fun ex a1 w1 hpost=>?_;obtain ⟨x,g1,s1,rfl,hle1,hs1,hv1⟩:=hpost;have hp1:=hle1.some hs.m.wf hp;cases x with
 | ret=>exact hv1.elim
 | exit id=>exact hv1.elim
 | goto l=>exact hv1.elim
 | normal=>
   dsimp only at hv1;split at hv1
   rotate_left
   . exact hv1.elim
   rename_i Ho fn1 ix1 nt1 ts1 d1 hx1 hg1;split at hv1
   rotate_left
   . exact hv1.elim
   rename_i hfi;obtain ⟨rfl,rfl⟩:=hfi;obtain ⟨p',q1,rl1,rf1,hp',hq1,hh1,qyG,qyK,EY,qjv,qy7,qy1,qjt,hsz1,qyJ⟩:=hs1.m.blk b _ hg1;rw [hp1] at hp';cases hp';refine ⟨_,run_beginRound hh1 qyK,?_⟩;have hlt1:=hs1.m.bnd b p hp1
   have hm2:qX A I cx.P g1 (put b (.loop .busy Ho fn1 ix1 nt1 ts1 d1) s1.mem) (w1.putObj p.blk (.loop { rl1 with state:=.busy })):=
     hs1.m.write hg1 rfl hp1 (by simp) (fun i hi=>World.putObj_heap_other hi) ⟨p,q1,_,rf1,hp1,hq1,World.putObj_heap_same hlt1,qyG,rfl,EY,qjv,qy7,qy1,qjt,hsz1,qyJ⟩
   have hs2:qW A I cx.P (fun _=>False) g1 { s1 with mem:=put b (.loop .busy Ho fn1 ix1 nt1 ts1 d1) s1.mem } a1 (w1.putObj p.blk (.loop { rl1 with state:=.busy })):=
     ⟨hm2,hs1.t,hs1.nt,hs1.d,hs1.nv,hs1.nb⟩
   refine wpIn_mono (hE.exec hG (r:=some p.blk) hv1 hs2 ⟨p,hp1,rfl⟩ hcb n) fun ex a2 w2 EK=>?_;obtain ⟨y,g2,s2,rfl,hle2,hs3,hv2⟩:=EK;have hp2:=hle2.some hs1.m.wf hp1;dsimp only at hv2;split at hv2
   rotate_left
   . exact hv2.elim
   rename_i st2 pend2 fn2 ix2 nt2 ts2 d2 hg2;obtain ⟨p',q2,rl2,rf2,hp',hq2,hh2,qyV,hst2,hpend2,qjx,qy6,qy0,qjs,hsz2,qyZ⟩:=hs3.m.blk b _ hg2;rw [hp2] at hp';cases hp';have hlt2:=hs3.m.bnd b p hp2
   have fin:∀(j:Option Jump),
       (k (.bool (.lit (if j.isNone then 1 else 0))) { s with mem:=put b (.loop (if j.isNone then .ready else .done) j fn2 ix2 nt2 ts2 d2) s2.mem,nv:=s2.nv,nb:=s2.nb }).vc I g2.env->
       ∃v w',(Instr.endRound p.blk (j.map Jump.code)).run cx.P w2=.ok v w'/\∃v',Ending.returned v=.returned v'/\aY A I cx.P X g a k v' w':=by
     intro j hj;refine ⟨_,_,run_endRound (j.map Jump.code) hh2,_,rfl,.bool (.lit (if j.isNone then 1 else 0)),g2,{ s with mem:=put b (.loop (if j.isNone then .ready else .done) j fn2 ix2 nt2 ts2 d2) s2.mem,nv:=s2.nv,nb:=s2.nb },hle1.trans hle2,?_,⟨?_,hs.t.le (hle1.trans hle2) hs.m.wf,hs.nt,hs.d.le (hle1.trans hle2) hs.m.wf,hs3.nv,hs3.nb⟩,hj⟩
     . refine ⟨_,rfl,?_⟩;cases j <;> rfl
     . refine hs3.m.write hg2 rfl hp2 (by simp) (fun i hi=>World.putObj_heap_other hi) ⟨p,q2,_,rf2,hp2,hq2,World.putObj_heap_same hlt2,qyV,?_,rfl,qjx,qy6,qy0,qjs,hsz2,qyZ⟩;cases j <;> rfl
   cases y with
   | normal=>exact fin none hv2
   | ret=>exact fin (some .ret) hv2
   | exit id=>exact fin (some (.exit id)) hv2
   | goto l=>exact fin (some (.goto l)) hv2
theorem MF {e:E} {N:Nat} {f:Clo->Tree} {env:List D} {n:Int} {j:Nat} {c:Clo} (he:e.den I env=some (.i n)) (hn:0<n) (hj:(n - 1) % N=j):∀{cs:List Clo} {i:Nat},i<=j->cs[j - i]?=some c->(qqj e N f i cs).vc I env->(f c).vc I env
 | [],i,_,h,_=>by simp at h
 | d::cs,i,hi,h,hv=>by
   obtain ⟨h1,h2⟩:=iK hv
   have hc:(if N=1 then (E.lit 0) else mkBin .tmod (mkSub e (.lit 1)) (.lit N)).den I env=some (.i j):=by
     split
     . rename_i h1;subst h1;have:(n - 1) % ((1:Nat):Int)=0:=Int.emod_one _;rw [<-hj,this];rfl
     . rw [qy (o:=.tmod) (xu he (show (E.lit 1).den I env=some (.i 1) from rfl)) (show (E.lit (N:Int)).den I env=some (.i (N:Int)) from rfl)];simp only [BO.ev];rw [Int.tmod_eq_emod_of_nonneg (by omega),hj]
   have hd:=qy (o:=.eq) hc (show (E.lit (i:Int)).den I env=some (.i (i:Int)) from rfl);by_cases hij:i=j
   . subst hij;rw [Nat.sub_self] at h;simp at h;subst h;exact h1 _ hd (by simp [BO.ev])
   . have h0:¬((j:Int)=(i:Int)):=by omega
     simp only [BO.ev,if_neg h0] at hd;refine MF he hn hj (i:=i+1) (by omega) ?_ (h2 hd);rw [show j - i=(j - (i+1))+1 by omega,List.getElem?_cons_succ] at h;exact h
theorem Fa {e:E} {N:Nat} {env:List D} {n:Int} (he:e.den I env=some (.i n)) (hn:0<n):(KD e N).den I env=some (.i ((n - 1) / N)):=by
 unfold KD;split
 . rename_i h1;subst h1;rw [xu he (show (E.lit 1).den I env=some (.i 1) from rfl)];simp
 . rw [qy (o:=.tdiv) (xu he (show (E.lit 1).den I env=some (.i 1) from rfl)) (show (E.lit (N:Int)).den I env=some (.i (N:Int)) from rfl)];simp only [BO.ev];rw [Int.tdiv_eq_ediv_of_nonneg (by omega)]
theorem Fe {M:Mem} {c:Clo} {r:E} {m:Int} {p:PB} (hm:qX A I P g M w) (hr:r.den I g.env=some (.i m)) (hm0:0<=m) (hp:g.φ c.b=some p) (hq:∀q∈(Qn M c r).2,q.den I g.env) :
   Rel I g (Qn M c r).1 (.pointer (some ⟨p.blk,p.base+m.toNat*c.s+c.k,none⟩)):=by
 unfold Qn at hq ⊢;split
 . rename_i ks t n h l wr nl hb;rw [hb] at hq;obtain ⟨_,_,z,_,_,hz,_⟩:=hm.blk c.b _ hb;obtain ⟨x,hx,hx0⟩:=hq _ (List.mem_singleton.2 rfl);rw [qy hr hz] at hx;cases hx
   have:m=z:=by
     by_cases hc:m=z
     . exact hc
     . simp [BO.ev,hc] at hx0
   subst this;exact ⟨m,p,hz,hm0,hp,rfl⟩
 . exact ⟨m,p,hr,hm0,hp,rfl⟩
theorem Bg {cx:Cx} {e:Eng} (hE:jh I cx e) (hG:GOk cx.kn.globs A) (hC:∀c∈cx.cs,COk I cx.P cx.kn.globs c) {f:AV} {args:List AV} {s:St} {k:AV->St->Tree} {x:Value} {xs:List Value} {r:Option Nat}
   (h:(Qs cx e f args s k).vc I g.env) (hs:qW A I cx.P X g s a w) (hf:Rel I g f x) (ha:qw I g args xs) (n:Nat) :
   KI r n cx.P x xs w (aY A I cx.P X g a k):=by
 unfold Qs at h;split at h
 . rename_i f' cap;obtain ⟨cs,rfl,hcap⟩:=hf;obtain ⟨⟨fn,c,h1,h2,h3⟩,h4⟩:=gQ hE hG hC h hs (ha.append hcap);refine ⟨.enter f' (xs.toArray++cs),w,?_,.inl ⟨f',_,rfl,?_⟩⟩
   . have:=yh (w:=w) h1 h2 h3 (xs.toArray++cs);simpa [Deferred.ofValue,invoke,Sem.run_bind,Result.andThen] using this
   . rw [vY];have e:(xs++cs.toList).toArray=xs.toArray++cs:=by simp
     rw [<-e];exact h4
 . rename_i f' m cap;obtain ⟨ms,cs,rfl,hm,hcap⟩:=hf;obtain ⟨⟨fn,c,h1,h2,h3⟩,h4⟩:=gQ hE hG hC h hs ((hm.append ha).append hcap);refine ⟨.enter f' (ms++xs.toArray++cs),w,?_,.inl ⟨f',_,rfl,?_⟩⟩
   . have:=yh (w:=w) h1 h2 h3 (ms++xs.toArray++cs);simpa [Deferred.ofValue,invoke,Sem.run_bind,Result.andThen] using this
   . rw [vY];have e:(ms.toList++xs++cs.toList).toArray=ms++xs.toArray++cs:=by simp
     rw [<-e];exact h4
 . rename_i b;obtain ⟨p,hp,rfl⟩:=hf;exact Vj hE hG h hs hp ha
 . rename_i cs e';obtain ⟨hp,h⟩:=qB h;obtain ⟨n',h1,h2⟩:=hf
   have hpos:0<n':=by
     obtain ⟨x,hx,hx0⟩:=hp _ (List.mem_singleton.2 rfl);rw [qy (o:=.lt) (show (E.lit 0).den I g.env=some (.i 0) from rfl) h1] at hx;cases hx;by_cases hc:0<n'
     . exact hc
     . simp [BO.ev,hc] at hx0
   rcases h2 with ⟨h0,_⟩ | ⟨_,c,p,o,q,z,h2,h3,rfl,h5,h6⟩
   . omega
   have hl:(0:Int)<cs.length:=by
     have:=(List.getElem?_eq_some_iff.1 h2).1;omega
   have hj:(n' - 1) % (cs.length:Int)=(((n' - 1) % (cs.length:Int)).toNat:Nat):=(Int.toNat_of_nonneg (Int.emod_nonneg _ (by omega))).symm;obtain ⟨hp2,hv⟩:=qB (MF (c:=c) h1 hpos hj (Nat.zero_le _) (by rw [Nat.sub_zero];exact h2) h);have hrow:=Fa (N:=cs.length) h1 hpos;have qyF:=Fe (c:=c) hs.m hrow (Int.ediv_nonneg (by omega) (by omega)) h3 hp2;have L8:qw I g [.gZ (Qn s.mem c (KD e' cs.length)).1] [.pointer (some ⟨o,q,none⟩)]:=⟨⟨o,q,z,_,rfl,h5,h6,qyF⟩,trivial⟩;obtain ⟨⟨fn,b,k1,k2,k3⟩,k4⟩:=gQ hE hG hC hv hs (ha.append L8);refine ⟨.enter c.f (xs.toArray ++ #[.pointer (some ⟨o,q,none⟩)]),w,?_,.inl ⟨c.f,_,rfl,?_⟩⟩
   . have:=yh (w:=w) k1 k2 k3 (xs.toArray ++ #[.pointer (some ⟨o,q,none⟩)]);simpa [Deferred.ofValue,invoke,Sem.run_bind,Result.andThen] using this
   . rw [vY];have e:(xs++[Value.pointer (some ⟨o,q,none⟩)]).toArray=xs.toArray ++ #[.pointer (some ⟨o,q,none⟩)]:=by simp
     rw [<-e];exact k4
 . exact h.elim
end Go.Sx
end
noncomputable section
namespace Go.Sx
open Go
structure G.Ext (g g':G):Prop where
 env:∃xs,g'.env=g.env++xs
 some:∀{b:Nat} {p:PB},g.φ b=some p->g'.φ b=some p
 fz:∀{o:Nat} {cs:Array Value},g.fz o=Option.some cs->g'.fz o=Option.some cs
theorem E.zW {I:Itp} {g g':G} (h:g.Ext g') {e:E} {d:D} (he:e.den I g.env=some d):e.den I g'.env=some d:=by
 obtain ⟨⟨xs,hx⟩,_,_⟩:=h;rw [hx];exact E.zT he
theorem G.Le.ext {g g':G} (h:g.Le g') (hw:g.wf):g.Ext g':=⟨h.env,fun hb=>h.some hw hb,fun hz=>h.fz _ _ hz⟩
theorem CK.KT {g g':G} (h:g.Ext g') {k:CK} {n:Int} {x:Option Value}:k.at g n x->k.at g' n x:=fun ⟨y,a,b⟩=>⟨y,a,CK.iA (fun _ _ hb=>h.some hb) (fun _ _ hz=>h.fz hz) b⟩
mutual
theorem Rel.ext {I:Itp} {g g':G} (h:g.Ext g'):∀{v:AV} {x:Value},Rel I g v x->Rel I g' v x:=by
 intro v x hv
 match v with
 | .any=>trivial
 | .undef=>simpa [Rel] using hv
 | .bool e=>simp only [Rel] at hv ⊢;obtain ⟨n,h1,h2⟩:=hv;exact ⟨n,E.zW h h1,h2⟩
 | .int k e=>simp only [Rel] at hv ⊢;obtain ⟨n,h1,h2⟩:=hv;exact ⟨n,E.zW h h1,h2⟩
 | .wP=>simpa [Rel] using hv
 | .ptr b r s k=>
   simp only [Rel] at hv ⊢;obtain ⟨n,p,h1,h2,h3,h4⟩:=hv;exact ⟨n,p,E.zW h h1,h2,h.some h3,h4⟩
 | .qJ=>simpa [Rel] using hv
 | .slice b lo len s nl=>
   simp only [Rel] at hv ⊢;obtain ⟨l,n,h1,h2,h3,h4,h5⟩:=hv;refine ⟨l,n,E.zW h h1,E.zW h h2,h3,h4,?_⟩;rcases h5 with ⟨p,cap,h5,h6⟩ | h5
   . exact .inl ⟨p,cap,h.some h5,h6⟩
   . exact .inr h5
 | .func f cap=>simp only [Rel] at hv ⊢;obtain ⟨cs,h1,h2⟩:=hv;exact ⟨cs,h1,qw.ext h h2⟩
 | .yld b=>simp only [Rel] at hv ⊢;obtain ⟨p,h1,h2⟩:=hv;exact ⟨p,h.some h1,h2⟩
 | .jY=>simpa [Rel] using hv
 | .agg l=>simp only [Rel] at hv ⊢;obtain ⟨cs,h1,h2⟩:=hv;exact ⟨cs,h1,qw.ext h h2⟩
 | .tup l=>simp only [Rel] at hv ⊢;obtain ⟨cs,h1,h2⟩:=hv;exact ⟨cs,h1,qw.ext h h2⟩
 | .big l ks t n m=>
   simp only [Rel] at hv ⊢;obtain ⟨f,xs,ys,zs,h1,h2,h3,h4,h5⟩:=hv;exact ⟨f,xs,ys,zs,E.zW h h1,h2,qw.ext h h3,qw.ext h h4,h5.1,fun r j k a b=>CK.KT h (h5.2 r j k a b)⟩
 | .cap0=>simpa [Rel] using hv
 | .empty=>simpa [Rel] using hv
 | .asl b k n s=>simp only [Rel] at hv ⊢;obtain ⟨p,cap,h1,h2⟩:=hv;exact ⟨p,cap,h.some h1,h2⟩
 | .yN f m cap=>simp only [Rel] at hv ⊢;obtain ⟨ms,cs,h1,h2,h3⟩:=hv;exact ⟨ms,cs,h1,qw.ext h h2,qw.ext h h3⟩
 | .bK v k=>simpa [Rel] using hv
 | .str l=>simpa [Rel] using hv
 | .wE t n=>simp only [Rel] at hv ⊢;obtain ⟨f,k,s,h1,h2,h3⟩:=hv;exact ⟨f,k,s,E.zW h h1,E.zW h h2,h3⟩
 | .mM=>simpa [Rel] using hv
 | .mref b=>simp only [Rel] at hv ⊢;obtain ⟨p,h1,h2⟩:=hv;exact ⟨p,h.some h1,h2⟩
 | .gV=>simpa [Rel] using hv
 | .xk=>simpa [Rel] using hv
 | .sat e=>simp only [Rel] at hv ⊢;obtain ⟨n,h1,h2⟩:=hv;exact ⟨n,E.zW h h1,h2⟩
 | .lst ks e=>simp only [Rel] at hv ⊢;obtain ⟨n,h1,h2⟩:=hv;exact ⟨n,E.zW h h1,h2.le fun _ _ hz=>h.fz hz⟩
 | .ifo e=>simp only [Rel] at hv ⊢;obtain ⟨n,h1,h2⟩:=hv;exact ⟨n,E.zW h h1,h2⟩
 | .gZ a=>simp only [Rel] at hv ⊢;obtain ⟨o,q,z,y,h1,h2,h3,h4⟩:=hv;exact ⟨o,q,z,y,h1,h.fz h2,h3,Rel.ext h h4⟩
 | .fco cs e=>simp only [Rel] at hv ⊢;obtain ⟨n,h1,h2⟩:=hv;exact ⟨n,E.zW h h1,h2.mono (fun _ _ hb=>h.some hb) fun _ _ hz=>h.fz hz⟩
 | .xV ks e i k=>simp only [Rel] at hv ⊢;obtain ⟨n,j,h1,h2,h3,h4⟩:=hv;exact ⟨n,j,E.zW h h1,E.zW h h2,h3,h4.le fun _ _ hz=>h.fz hz⟩
theorem qw.ext {I:Itp} {g g':G} (h:g.Ext g'):∀{l:List AV} {xs:List Value},qw I g l xs->qw I g' l xs:=by
 intro l xs hl
 match l,xs with
 | [],[]=>trivial
 | a::l,x::xs=>simp only [qw] at hl ⊢;exact ⟨Rel.ext h hl.1,qw.ext h hl.2⟩
 | [],_::_=>simp [qw] at hl
 | _::_,[]=>simp [qw] at hl
end
theorem wG.ext {I:Itp} {g g':G} {X:Nat->Prop} (h:g.Ext g') {ts:qO} {a:Array Value} (ht:wG I g X ts a):wG I g' X ts a:=
 fun t v h1 h2=>let ⟨x,h3,h4⟩:=ht t v h1 h2;⟨x,h3,h4.ext h⟩
theorem jN.ext {I:Itp} {P:Program} {g g':G} {b:Nat} {H:Nat->Option Obj} (h:g.Ext g') (hb:g'.φ b=g.φ b):∀{x:Blk},jN I P g b H x->jN I P g' b H x
 | .cells l wr,hx=>by
   obtain ⟨p,c,T,fr,h1,h2,h3,h4⟩:=hx;exact ⟨p,c,T,fr,h.some h1,h2,fun i v hv=>let ⟨x,a,b⟩:=h3 i v hv;⟨x,a,b.ext h⟩,h4⟩
 | .rows ks t len wr nl,hx=>by
   obtain ⟨f,n,h1,h2,h3,h4⟩:=hx;refine ⟨f,n,E.zW h h1,E.zW h h2,h3,?_⟩;rcases h4 with ⟨p,c,T,fr,h5,h6,h6',qy9⟩ | ⟨h5,h6,h7⟩
   . exact .inl ⟨p,c,T,fr,h.some h5,h6,fun r j k a b=>CK.KT h (h6' r j k a b),qy9⟩
   . exact .inr ⟨h5,h6,by rw [hb];exact h7⟩
 | .ovr ks t len e l wr nl,hx=>by
   obtain ⟨f,n,m,h1,h2,h2',h3,h4⟩:=hx;refine ⟨f,n,m,E.zW h h1,E.zW h h2,E.zW h h2',h3,?_⟩;rcases h4 with ⟨p,c,T,fr,h5,h6,h6',h8,h9⟩ | ⟨h5,h6,h7⟩
   . exact .inl ⟨p,c,T,fr,h.some h5,h6,fun r j k a d b=>CK.KT h (h6' r j k a d b),fun a d j v hv=>let ⟨x,y,z⟩:=h8 a d j v hv;⟨x,y,z.ext h⟩,h9⟩
   . exact .inr ⟨h5,h6,by rw [hb];exact h7⟩
 | .big l ks t n m wr,hx=>by
   obtain ⟨p,c,T,fr,f,h1,h2,h3,h4,h5,h6,h7⟩:=hx;exact ⟨p,c,T,fr,f,h.some h1,h2,E.zW h h3,fun i v hv=>let ⟨x,a,b⟩:=h4 i v hv;⟨x,a,b.ext h⟩,fun r j k a b=>CK.KT h (h5 r j k a b),fun i v hv=>let ⟨x,a,b⟩:=h6 i v hv;⟨x,a,b.ext h⟩,h7⟩
 | .loop st pend fn ix nt ts d,hx=>by
   obtain ⟨p,q,r,rf,h1,h2,h3,h4,h5,h6,h8,h9,h10,h11,h12,h13⟩:=hx;exact ⟨p,q,r,rf,h.some h1,h.some h2,h3,h4,h5,h6,h8,h9,h10,h11,h12,h13.ext h⟩
 | .dfr sh,hx=>by
   obtain ⟨p,h1,h2⟩:=hx;exact ⟨p,h.some h1,h2⟩
 | .mp l m,hx=>by
   obtain ⟨p,es,c,h1,h2,h3,h4⟩:=hx;exact ⟨p,es,c,h.some h1,h2,h3.ext h,h4.ext h⟩
 | .smp w one ks t n,hx=>by
   obtain ⟨p,es,c,f,h1,h2,h3,h4,h5⟩:=hx;exact ⟨p,es,c,f,h.some h1,h2,E.zW h h3,E.zW h h4,h5⟩
 | .iter e q k,hx=>by
   obtain ⟨p,n,m,h1,h2,h3,h4,h5⟩:=hx;exact ⟨p,n,m,h.some h1,h2,E.zW h h3,E.zW h h4,h5⟩
 | .bld T e d,⟨p,n,x,y,h1,h2,h3,h4,h5,h6⟩=>⟨p,n,x,y,h.some h1,h2,h3,E.zW h h4,h5,h6.imp id fun ⟨q,a,z⟩=>⟨q,h.some a,z⟩⟩
 | .byt T e,⟨n,h1,h2⟩=>⟨n,E.zW h h1,h2.imp (fun ⟨a,c⟩=>⟨by rw [hb];exact a,c⟩) fun ⟨q,cur,a,c⟩=>⟨q,cur,h.some a,c⟩⟩
 | .fam ck t op,⟨p,es,c,f,k,h1,h2,h3,h4,h5⟩=>⟨p,es,c,f,k,h.some h1,h2,E.zW h h3,jO.le (E.zW h) h4,h5⟩
theorem zV.ext {I:Itp} {P:Program} {g g':G} {b o:Nat} {H H':Nat->Option Obj} (h:g.Ext g') (hb:g'.φ b=g.φ b) {x:Blk} (hB:jN I P g b H x) (hH:∀p,g.φ b=some p->H' p.blk=H p.blk) (hr:zV H' I g' b x o):zV H I g b x o:=by
 cases x with
 | fam ck t op=>exact zV.turn hB (fun p hp=>by rw [<-hb];exact hp) (fun p hp=>hH p (by rw [<-hb];exact hp)) (jO.le (E.zW h)) hr
 | _=>exact hr.elim
theorem aK.ext {I:Itp} {g g':G} (h:g.Ext g'):∀{d:DV} {x:Deferred},aK I g d x->aK I g' d x
 | .blk _,_,⟨p,h1,h2⟩=>⟨p,h.some h1,h2⟩
 | .fn _ _ _,_,⟨ms,cs,h1,h2,h3⟩=>⟨ms,cs,h1,h2.ext h,h3.ext h⟩
theorem gM.ext {I:Itp} {g g':G} (h:g.Ext g'):∀{l:List DV} {xs:List Deferred},gM I g l xs->gM I g' l xs
 | [],[],_=>trivial
 | _::_,_::_,⟨h1,h3⟩=>⟨h1.ext h,gM.ext h h3⟩
 | [],_::_,h=>by simp [gM] at h
 | _::_,[],h=>by simp [gM] at h
def G.place (g:G) (b:Nat) (p:PB):G:={ g with φ:=fun c=>if c=b then some p else g.φ c }
theorem G.mg {g:G} {b:Nat} {p:PB} (h:g.φ b=none):g.Ext (g.place b p):=⟨⟨[],by simp [G.place]⟩,fun {c q} hc=>by
 simp only [G.place];split
 . rename_i e;subst e;rw [h] at hc;cases hc
 . exact hc,fun h=>h⟩
variable {A:Amb} {I:Itp} {P:Program} {g:G} {X:Nat->Prop} {ts:qO} {a:Act} {M:Mem} {w:World}
theorem qX.place {b:Nat} {o:Obj} {x:Blk} {p:PB} (h:qX A I P g M w) (hb:b<g.nb) (hφ:g.φ b=none) (hn:get M b=none) (hp:p.blk=w.heap.size)
   (hx:jN I P (g.place b p) b (fun i=>(w.alloc o).heap[i]?) x) (hnf:x.wF=false):qX A I P (g.place b p) ((b,x)::M) (w.alloc o):=by
 have hext:=G.mg (p:=p) hφ;have hold:∀c q,c≠b->(g.place b p).φ c=some q->g.φ c=some q:=fun c q hc hq=>by simpa [G.place,hc] using hq
 have hnew:∀q,(g.place b p).φ b=some q->q=p:=fun q hq=>by simpa [G.place] using hq.symm
 have hkeep:∀i,i<w.heap.size->(w.alloc o).heap[i]?=w.heap[i]?:=fun i hi=>by
   show (w.heap.push o)[i]?=_;rw [Array.getElem?_push,if_neg (by omega)]
 have hcase:∀c y,get ((b,x)::M) c=some y->(c=b/\y=x)\/(c≠b/\get M c=some y):=fun c y hc=>by
   simp only [qQ] at hc;split at hc
   . rename_i e;left;exact ⟨e.symm,by cases hc;rfl⟩
   . rename_i e;right;exact ⟨fun e'=>e e'.symm,hc⟩
 refine ⟨fun c hc=>?_,fun c y hc=>?_,fun c y hc=>?_,fun c d y z q r hc hd hwy hq hr e=>?_,fun c q hc=>?_,fun c y q hc hy hq=>?_,?_,fun i hi hX=>?_,h.same,fun c y o' hc hr=>?_,fun o' cs hz=>?_⟩
 . simp only [G.place] at hc ⊢;rw [if_neg (by omega)];exact h.wf c hc
 . rcases hcase c y hc with ⟨rfl,rfl⟩ | ⟨hne,hc⟩
   . exact hx
   . exact jN.ext hext (b:=c) (by simp [G.place,hne]) ((h.blk c y hc).heap (H':=fun i=>(w.alloc o).heap[i]?) (fun q hq=>hkeep _ (h.bnd c q hq)) fun o' hr=>hkeep _ (h.fam c y o' hc hr).2.1)
 . rcases hcase c y hc with ⟨rfl,rfl⟩ | ⟨_,hc⟩
   . exact hb
   . exact h.lt c y hc
 . rcases hcase c y hc with ⟨rfl,rfl⟩ | ⟨hnc,hc⟩ <;> rcases hcase d z hd with ⟨rfl,rfl⟩ | ⟨hnd,hd⟩
   . rfl
   . have:=hnew q hq;subst this;have:=h.bnd d r (hold d r hnd hr);omega
   . have:=hnew r hr;subst this;have:=h.bnd c q (hold c q hnc hq);omega
   . exact h.inj c d y z q r hc hd hwy (hold c q hnc hq) (hold d r hnd hr) e
 . have hs:(w.alloc o).heap.size=w.heap.size+1:=by simp
   rw [hs];by_cases hcb:c=b
   . subst hcb;rw [hnew q hc];omega
   . have:=h.bnd c q (hold c q hcb hc);omega
 . rcases hcase c y hc with ⟨rfl,rfl⟩ | ⟨hne,hc⟩
   . right;rw [hnew q hq,hp];exact h.size
   . exact h.own c y q hc hy (hold c q hne hq)
 . have hs:(w.alloc o).heap.size=w.heap.size+1:=by simp
   rw [hs];have:=h.size;omega
 . have:=h.size;rw [hkeep i (by omega)];exact h.keep i hi hX
 . have back:∀c y,get ((b,x)::M) c=some y->zV (fun i=>(w.alloc o).heap[i]?) I (g.place b p) c y o'->get M c=some y/\zV (fun i=>w.heap[i]?) I g c y o':=fun c y hc hr=>by
     rcases hcase c y hc with ⟨rfl,rfl⟩ | ⟨hne,hc⟩
     . rw [hr.fam] at hnf;cases hnf
     . exact ⟨hc,zV.ext hext (by simp [G.place,hne]) (h.blk c y hc) (fun q hq=>hkeep _ (h.bnd c q hq)) hr⟩
   obtain ⟨h1,h2⟩:=back c y hc hr;obtain ⟨h3,h4,h5,h6⟩:=h.fam c y o' h1 h2;have hs:(w.alloc o).heap.size=w.heap.size+1:=by simp
   refine ⟨h3,by omega,fun d z q hd hq=>?_,fun d z hd hrz=>?_⟩
   . rcases hcase d z hd with ⟨rfl,rfl⟩ | ⟨hne,hd⟩
     . rw [hnew q hq];omega
     . exact h5 d z q hd (hold d q hne hq)
   . obtain ⟨k1,k2⟩:=back d z hd hrz;exact h6 d z k1 k2
 . obtain ⟨h1,h2,⟨T,fr,h3⟩,h4,h5⟩:=h.frz o' cs hz;have hs:(w.alloc o).heap.size=w.heap.size+1:=by simp
   refine ⟨h1,by omega,⟨T,fr,by rw [hkeep o' h2];exact h3⟩,fun d z q hd hwz hq=>?_,fun d z hd hrz=>?_⟩
   . rcases hcase d z hd with ⟨rfl,rfl⟩ | ⟨hne,hd⟩
     . rw [hnew q hq];omega
     . exact h4 d z q hd hwz (hold d q hne hq)
   . rcases hcase d z hd with ⟨rfl,rfl⟩ | ⟨hne,hd⟩
     . rw [hrz.fam] at hnf;cases hnf
     . exact h5 d z hd (zV.ext hext (by simp [G.place,hne]) (h.blk d z hd) (fun q hq=>hkeep _ (h.bnd d q hq)) hrz)
def aQ (I:Itp) (M:Mem) (g:G) (w:World):Amb:={ w0:=w,X:=fun i=>(∃b x p,get M b=some x/\x.wr=true/\g.φ b=some p/\p.blk=i)\/∃b x,get M b=some x/\zV (fun i=>w.heap[i]?) I g b x i,fz:=g.fz }
theorem qX.part {M H:Mem} (h:qX A I P g (M++H) w):qX (aQ I M g w) I P g M w:=by
 have hs:∀b y,get M b=some y->get (M++H) b=some y:=fun b y hb=>by rw [z8,hb]
 have h':=h.sub hs
 exact ⟨h'.wf,h'.blk,h'.lt,h'.inj,h'.bnd,fun b x p hx hw hp=>.inl (.inl ⟨b,x,p,hx,hw,hp,rfl⟩),Nat.le_refl _,fun _ _ _=>rfl,⟨rfl,rfl⟩,fun b x o hx hr=>
   ⟨.inl (.inr ⟨b,x,hx,hr⟩),(h'.fam b x o hx hr).2⟩,fun o cs hz=>⟨.inl hz,(h'.frz o cs hz).2⟩⟩
theorem GOk.part {gl:List Glob} {M H:Mem} (hG:GOk gl A) (h:qX A I P g (M++H) w):GOk gl (aQ I M g w):=fun x hx=>by
 obtain ⟨hgp,h1,h2,cs,T,fr,h3,h4⟩:=hG x hx;refine ⟨hgp,Nat.lt_of_lt_of_le h1 h.size,?_,cs,T,fr,by rw [<-h3];exact h.keep _ h1 h2,h4⟩;rintro (⟨b,y,p,h5,h6,h7,h8⟩ | ⟨b,y,h5,h6⟩)
 . rcases h.own b y p (by rw [z8,h5]) h6 h7 with h12 | h12
   . rw [h8] at h12;exact h2 h12
   . omega
 . rcases (h.fam b y _ (by rw [z8,h5]) h6).1 with h12 | h12
   . exact h2 h12
   . omega
theorem qX.frame {M H M':Mem} {g':G} {w':World} (h:qX A I P g (M++H) w) (hd:∀b y,get H b=some y->get M b=none) (hle:g.Le g')
   (hm:qX (aQ I M g w) I P g' M' w') (hk:Xu g.nb M M'=true):qX A I P g' (M'++H) w':=by
 have hM:∀{b:Nat} {y:Blk},get M b=some y->get (M++H) b=some y:=fun hb=>by rw [z8,hb]
 have hH:∀{b:Nat} {y:Blk},get H b=some y->get (M++H) b=some y:=fun {b y} hb=>by rw [z8,hd b y hb];exact hb
 have hcase:∀{b:Nat} {y:Blk},get (M'++H) b=some y->get M' b=some y\/get H b=some y:=fun {b y} hb=>by
   rw [z8] at hb;split at hb
   . rename_i z hz;cases hb;exact .inl hz
   . exact .inr hb
 have hkey:∀{c:Nat} {y:Blk},get M' c=some y->(c<g.nb/\∃x,get M c=some x)\/(g.nb<=c/\y.wr=true):=fun {c y} hc=>by
   have:=List.all_eq_true.1 (J8 hk) _ (xM hc).2;simp only at this;split at this
   . rename_i hlt;exact .inl ⟨hlt,Option.isSome_iff_exists.1 this⟩
   . rename_i hlt;exact .inr ⟨by omega,this⟩
 have hX:∀{i:Nat},(aQ I M g w).X i->A.X i\/A.w0.heap.size<=i:=fun {i} hx=>by
   rcases hx with ⟨b,x,p,h1,h2,h3,h4⟩ | ⟨b,x,h1,h2⟩
   . rw [<-h4];exact h.own b x p (hM h1) h2 h3
   . exact (h.fam b x i (hM h1) h2).1
 have hφ:∀{b:Nat} {y:Blk} {p:PB},get H b=some y->g'.φ b=some p->g.φ b=some p:=fun {b y p} hb hp=>by
   rw [<-hle.φ b (h.lt b y (hH hb))];exact hp
 -- a block of H is apart from what may be written
 have hap:∀{b:Nat} {y:Blk} {p:PB},get H b=some y->g.φ b=some p->¬(aQ I M g w).X p.blk:=by
   rintro b y p hb hp (⟨c,x,q,h1,hwx,h3,h4⟩ | ⟨c,x,h1,h2⟩)
   . have:=h.inj c b x y q p (hM h1) (hH hb) hwx h3 hp h4;subst this;rw [hd c y hb] at h1;cases h1
   . exact (h.fam c x _ (hM h1) h2).2.2.1 b y p (hH hb) hp rfl
 have L9:∀{b:Nat} {y:Blk} {o:Nat},get H b=some y->zV (fun i=>w.heap[i]?) I g b y o->¬(aQ I M g w).X o:=by
   rintro b y o hb hr (⟨c,x,q,h1,hwx,h3,h4⟩ | ⟨c,x,h1,h2⟩)
   . exact (h.fam b y o (hH hb) hr).2.2.1 c x q (hM h1) h3 h4
   . have:=(h.fam b y o (hH hb) hr).2.2.2 c x (hM h1) h2;subst this;rw [hd c y hb] at h1;cases h1
 have Tv:∀{b c:Nat} {y z:Blk} {p q:PB},get H b=some y->get M' c=some z->(y.wr=true\/z.wr=true)->g'.φ b=some p->g'.φ c=some q->p.blk=q.blk->b=c:=by
   intro b c y z p q hb hc hwz hp hq e;have hp':=hφ hb hp
   have hz:(∃x,get M c=some x/\y.wr=true/\g.φ c=some q)\/z.wr=true:=by
     rcases hkey hc with ⟨h1,x,h2⟩ | ⟨_,h2⟩
     . rcases hwz with h3 | h3
       . exact .inl ⟨x,h2,h3,by rw [<-hle.φ c h1];exact hq⟩
       . exact .inr h3
     . exact .inr h2
   rcases hz with ⟨x,h2,h3,hq'⟩ | h2
   . exact h.inj b c y x p q (hH hb) (hM h2) h3 hp' hq' e
   . rcases hm.own c z q hc h2 hq with h3 | h3
     . rw [<-e] at h3;exact absurd h3 (hap hb hp')
     . have h4:=h.bnd b p hp';have h5:w.heap.size<=q.blk:=h3;omega
 refine ⟨hm.wf,fun b y hb=>?_,fun b y hb=>?_,fun b c y z p q hb hc hwy hp hq e=>?_,hm.bnd,fun b y p hb hw hp=>?_,Nat.le_trans h.size hm.size,fun i hi hXi=>?_,⟨hm.same.1.trans h.same.1,hm.same.2.trans h.same.2⟩,fun b y o hb hr=>?_,fun o cs hz=>?_⟩
 . rcases hcase hb with hb | hb
   . exact hm.blk b y hb
   . have hlt:=h.lt b y (hH hb);exact ((h.blk b y (hH hb)).heap (H':=fun i=>w'.heap[i]?) (fun p hp=>hm.keep p.blk (h.bnd b p hp) (hap hb hp)) fun o hr=>hm.keep o (h.fam b y o (hH hb) hr).2.1 (L9 hb hr)).le hle h.wf hlt
 . rcases hcase hb with hb | hb
   . exact hm.lt b y hb
   . exact Nat.lt_of_lt_of_le (h.lt b y (hH hb)) hle.nb
 . rcases hcase hb with hb | hb <;> rcases hcase hc with hc | hc
   . exact hm.inj b c y z p q hb hc hwy hp hq e
   . exact (Tv hc hb (.inr hwy) hq hp e.symm).symm
   . exact Tv hb hc (.inl hwy) hp hq e
   . exact h.inj b c y z p q (hH hb) (hH hc) hwy (hφ hb hp) (hφ hc hq) e
 . rcases hcase hb with hb | hb
   . rcases hm.own b y p hb hw hp with h1 | h1
     . exact hX h1
     . exact .inr (Nat.le_trans h.size h1)
   . exact h.own b y p (hH hb) hw (hφ hb hp)
 . have h1:w'.heap[i]?=w.heap[i]?:=hm.keep i (Nat.lt_of_lt_of_le hi h.size) fun hx=>by
     rcases hX hx with h2 | h2
     . exact hXi h2
     . omega
   rw [h1];exact h.keep i hi hXi
 . have TU:∀{b:Nat} {y:Blk} {o:Nat},get H b=some y->zV (fun i=>w'.heap[i]?) I g' b y o->zV (fun i=>w.heap[i]?) I g b y o:=fun {b y o} hb hr=>
     zV.le hle (h.lt b y (hH hb)) (h.blk b y (hH hb)) (fun p hp=>hm.keep p.blk (h.bnd b p hp) (hap hb hp)) hr
   rcases hcase hb with hb | hb
   . obtain ⟨h1,h2,h3,h4⟩:=hm.fam b y o hb hr;have h1':(aQ I M g w).X o\/w.heap.size<=o:=h1;refine ⟨?_,h2,fun c z q hc hq=>?_,fun c z hc hrc=>?_⟩
     . rcases h1' with h1 | h1
       . exact hX h1
       . exact .inr (Nat.le_trans h.size h1)
     . rcases hcase hc with hc | hc
       . exact h3 c z q hc hq
       . rintro rfl;rcases h1' with h1 | h1
         . exact hap hc (hφ hc hq) h1
         . have:=h.bnd c q (hφ hc hq);omega
     . rcases hcase hc with hc | hc
       . exact h4 c z hc hrc
       . have qjw:=TU hc hrc;rcases h1' with h1 | h1
         . exact absurd h1 (L9 hc qjw)
         . have:=(h.fam c z o (hH hc) qjw).2.1;omega
   . have hr':=TU hb hr;obtain ⟨h1,h2,h3,h4⟩:=h.fam b y o (hH hb) hr';have hno:=L9 hb hr';refine ⟨h1,Nat.lt_of_lt_of_le h2 hm.size,fun c z q hc hq=>?_,fun c z hc hrc=>?_⟩
     . rcases hcase hc with hc | hc
       . rintro rfl;rcases hkey hc with ⟨k1,x,k2⟩ | ⟨_,k2⟩
         . rw [hle.φ c k1] at hq;exact h3 c x q (hM k2) hq rfl
         . rcases hm.own c z q hc k2 hq with k3 | k3
           . exact hno k3
           . have k4:w.heap.size<=q.blk:=k3;omega
       . exact h3 c z q (hH hc) (hφ hc hq)
     . rcases hcase hc with hc | hc
       . rcases (hm.fam c z o hc hrc).1 with k3 | k3
         . exact absurd k3 hno
         . have k4:w.heap.size<=o:=k3;omega
       . exact h4 c z (hH hc) (TU hc hrc)
 . obtain ⟨h1,h2,h3,h4,h5⟩:=hm.frz o cs hz;have h1:g.fz o=some cs\/(aQ I M g w).X o\/w.heap.size<=o:=h1;refine ⟨?_,h2,h3,fun b y q hb hw hq=>?_,fun b y hb hr=>?_⟩
   . rcases h1 with h1 | h1 | h1
     . exact (h.frz o cs h1).1
     . exact .inr (hX h1)
     . exact .inr (.inr (Nat.le_trans h.size h1))
   . rcases hcase hb with hb | hb
     . exact h4 b y q hb hw hq
     . rcases h1 with h1 | h1 | h1
       . exact (h.frz o cs h1).2.2.2.1 b y q (hH hb) hw (hφ hb hq)
       . rintro rfl;exact hap hb (hφ hb hq) h1
       . have:=h.bnd b q (hφ hb hq);omega
   . rcases hcase hb with hb | hb
     . exact h5 b y hb hr
     . have hr':zV (fun i=>w.heap[i]?) I g b y o:=zV.le hle (h.lt b y (hH hb)) (h.blk b y (hH hb)) (fun p hp=>hm.keep p.blk (h.bnd b p hp) (hap hb hp)) hr;rcases h1 with h1 | h1 | h1
       . exact (h.frz o cs h1).2.2.2.2 b y (hH hb) hr'
       . exact L9 hb hr' h1
       . have:=(h.fam b y o (hH hb) hr').2.1;omega
end Go.Sx
noncomputable section
namespace Go.Sx
open Go
variable {A:Amb} {I:Itp} {P:Program} {g:G} {X:Nat->Prop} {ts:qO} {a:Act} {M:Mem} {w:World} {ops:Array Oper} {kn:Kn}
theorem uI {acc:List Nat} {j:Nat}:∀{l:List Edge},(uO acc l).testBit j=true->∃e∈l,Region.binds .any e=true/\(e.on=j\/((acc[e.on]?).getD 0).testBit j=true)
 | [],h=>by simp [uO] at h
 | e::l,h=>by
   simp only [uO] at h;split at h
   . rename_i hb;simp only [Nat.testBit_or,Bool.or_eq_true] at h;rcases h with h | h | h
     . rw [Nat.one_shiftLeft,Nat.testBit_two_pow] at h;exact ⟨e,by simp,hb,.inl (by simpa using h)⟩
     . exact ⟨e,by simp,hb,.inr h⟩
     . obtain ⟨e',h1,h2⟩:=uI h;exact ⟨e',by simp [h1],h2⟩
   . obtain ⟨e',h1,h2⟩:=uI h;exact ⟨e',by simp [h1],h2⟩
theorem WM:∀{l:List Oper} {acc:List Nat} {k u:Nat},acc[k]?=some u->(masks l acc)[k]?=some u
 | [],acc,k,u,h=>h
 | o::l,acc,k,u,h=>by
   simp only [masks];refine WM ?_;rw [List.getElem?_append_left]
   . exact h
   . rcases Nat.lt_or_ge k acc.length with h' | h'
     . exact h'
     . rw [List.getElem?_eq_none (by simpa using h')] at h;cases h
theorem JF:∀{l:List Oper} {acc:List Nat} {i v:Nat},(masks l acc)[i]?=some v->
   acc[i]?=some v\/∃(o:Oper) (acc':List Nat),acc.length<=i/\l[i - acc.length]?=some o/\v=uO acc' o.after.toList/\∀(k u:Nat),acc'[k]?=some u->(masks l acc)[k]?=some u
 | [],acc,i,v,h=>.inl h
 | o::l,acc,i,v,h=>by
   simp only [masks] at h;rcases JF h with h1 | ⟨o',acc',h1,h2,h3,h4⟩
   . rcases Nat.lt_or_ge i acc.length with hi | hi
     . rw [List.getElem?_append_left hi] at h1;exact .inl h1
     . rw [List.getElem?_append_right hi] at h1
       have:i=acc.length:=by
         rcases Nat.eq_or_lt_of_le hi with h | h
         . exact h.symm
         . rw [List.getElem?_eq_none (by simp;omega)] at h1;cases h1
       subst this;simp at h1;exact .inr ⟨o,acc,Nat.le_refl _,by simp,h1.symm,fun k u hk=>WM hk⟩
   . simp at h1 h2;refine .inr ⟨o',acc',by omega,?_,h3,h4⟩;rw [show i - acc.length=(i - (acc.length+1))+1 by omega,List.getElem?_cons_succ];exact h2
theorem pQ {i j:Nat} (h:(before ops i).testBit j=true):∃o,ops[i]?=some o/\∃e∈o.after.toList,Region.binds .any e=true/\(e.on=j\/(before ops e.on).testBit j=true):=by
 unfold before at h;cases hm:(masks ops.toList [])[i]? with
 | none=>rw [hm] at h;simp at h
 | some v=>
   rw [hm] at h;simp only [Option.getD_some] at h;rcases JF hm with h1 | ⟨o,acc',_,h2,rfl,h4⟩
   . simp at h1
   . obtain ⟨e,h5,h6,h7⟩:=uI h;refine ⟨o,by simpa using h2,e,h5,h6,h7.imp id fun h8=>?_⟩;unfold before;cases hk:acc'[e.on]? with
     | none=>rw [hk] at h8;simp at h8
     | some u=>rw [h4 _ _ hk];rw [hk] at h8;exact h8
def Closed (ops:Array Oper) (S:Nat->Prop):Prop:=∀i,S i->∀j,(before ops i).testBit j=true->S j
theorem Closed.add {S:Nat->Prop} (h:Closed ops S) {i:Nat} {o:Oper} (ho:ops[i]?=some o) (ha:∀e∈o.after.toList,Region.binds .any e=true->S e.on):Closed ops fun k=>k=i\/S k:=by
 intro k hk j hj;rcases hk with rfl | hk
 . obtain ⟨o',ho',e,h1,h2,h3⟩:=pQ hj;rw [ho] at ho';cases ho';have:=ha e h1 h2;rcases h3 with rfl | h3
   . exact .inr this
   . exact .inr (h _ this _ h3)
 . exact .inr (h k hk j hj)
structure pY (ops:Array Oper):Prop where
 nodup:nodup (Zh ops.toList)=true
 edge:∀i o,ops[i]?=some o->∀e∈o.after.toList,Region.binds .any e=true->e.on<i
 read:∀i o j o' d,ops[i]?=some o->ops[j]?=some o'->o'.dst=some d->d∈readsOf ops o->(before ops i).testBit j=true\/i=j\/(before ops j).testBit i=true
theorem GA (h:Fh ops=true):pY ops:=by
 unfold Fh at h;simp only [Bool.and_eq_true,List.all_eq_true,List.mem_range] at h;obtain ⟨h1,h2⟩:=h
 have lt:∀{i:Nat} {o:Oper},ops[i]?=some o->i<ops.size:=fun {i o} h=>by
   rcases Nat.lt_or_ge i ops.size with h' | h'
   . exact h'
   . rw [Array.getElem?_eq_none h'] at h;cases h
 refine ⟨h1,fun i o ho e he hb=>?_,fun i o j o' d ho ho' hd hr=>?_⟩
 . have:=h2 i (lt ho);rw [ho] at this;simp only [Bool.and_eq_true] at this;have h3:=this.1.1;rw [Array.all_eq_true_iff_forall_mem] at h3;have:=h3 e (by simpa using he);simpa [hb] using this
 . have:=h2 i (lt ho);rw [ho] at this;simp only [Bool.and_eq_true,List.all_eq_true,List.mem_range] at this;have h3:=this.2 j (lt ho');rw [ho'] at h3;simp only [Option.bind_some,hd,Bool.or_eq_true,Bool.not_eq_true'] at h3;rcases h3 with ((h3 | h3) | h3) | h3
   . rw [<-Bool.not_eq_true,List.contains_iff_mem] at h3;exact absurd hr h3
   . exact .inl h3
   . exact .inr (.inl (by simpa using h3))
   . exact .inr (.inr h3)
theorem JK {i j:Nat} {o o':Oper} {d:Nat} (h:oJ ops j=false) (ho':ops[j]?=some o') (hd:o'.dst=some d) (ho:ops[i]?=some o) (hr:d∈readsOf ops o):(before ops i).testBit j=true:=by
 unfold oJ at h;rw [ho'] at h;simp only [Option.bind_some,hd] at h;have hlt:i<ops.size:=(Array.getElem?_eq_some_iff.1 ho).1;have:=List.any_eq_false.1 h i (List.mem_range.2 hlt);rw [ho] at this;simp only [Bool.and_eq_true,List.contains_iff_mem,Bool.not_eq_true'] at this;cases hb:(before ops i).testBit j with
 | true=>rfl
 | false=>exact absurd ⟨hr,hb⟩ this
theorem pY.Yn (h:pY ops):∀{i j:Nat},(before ops i).testBit j=true->j<i:=by
 intro i
 induction i using Nat.strongRecOn with
 | _ i ih=>
   intro j hj;obtain ⟨o,ho,e,h1,h2,h3⟩:=pQ hj;have hlt:=h.edge i o ho e h1 h2;rcases h3 with rfl | h3
   . exact hlt
   . have:=ih _ hlt h3;omega
theorem JD:∀{l:List Oper} {j:Nat} {o:Oper} {d:Nat},l[j]?=some o->o.dst=some d->d∈Zh l
 | x::l,0,o,d,h,hd=>by simp at h;subst h;simp [Zh,hd]
 | x::l,j+1,o,d,h,hd=>by
   simp at h;have:=JD h hd;simp only [Zh];split <;> simp [this]
 | [],_,_,_,h,_=>by simp at h
theorem GU:∀{l:List Oper} {i j:Nat} {o p:Oper} {d:Nat},nodup (Zh l)=true->l[i]?=some o->l[j]?=some p->o.dst=some d->p.dst=some d->i=j
 | [],i,j,o,p,d,_,h,_,_,_=>by simp at h
 | x::l,0,0,o,p,d,_,_,_,_,_=>rfl
 | x::l,0,j+1,o,p,d,hn,h1,h2,h3,h4=>by
   simp at h1 h2;subst h1;simp only [Zh,h3,nodup,Bool.and_eq_true,Bool.not_eq_true',<-Bool.not_eq_true,List.contains_iff_mem] at hn;exact absurd (JD h2 h4) hn.1
 | x::l,i+1,0,o,p,d,hn,h1,h2,h3,h4=>by
   simp at h1 h2;subst h2;simp only [Zh,h4,nodup,Bool.and_eq_true,Bool.not_eq_true',<-Bool.not_eq_true,List.contains_iff_mem] at hn;exact absurd (JD h1 h3) hn.1
 | x::l,i+1,j+1,o,p,d,hn,h1,h2,h3,h4=>by
   simp at h1 h2
   have:nodup (Zh l)=true:=by
     simp only [Zh] at hn;split at hn
     . simp only [nodup,Bool.and_eq_true] at hn;exact hn.2
     . exact hn
   rw [GU this h1 h2 h3 h4]
theorem pY.inj (h:pY ops) {i j:Nat} {o p:Oper} {d:Nat} (h1:ops[i]?=some o) (h2:ops[j]?=some p) (h3:o.dst=some d) (h4:p.dst=some d):i=j:=
 GU h.nodup (by simpa using h1) (by simpa using h2) h3 h4
def Reads (I:Itp) (g:G) (ops:Array Oper) (o:Oper) (ts:qO) (a:Act):Prop:=∀t∈readsOf ops o,∀v,get ts t=some v->∃x,a.tmps[t]?=some x/\Rel I g v x
structure G.aJ (g g':G):Prop where
 env:g'.env=g.env
 nb:g.nb<=g'.nb
 some:∀{b:Nat} {p:PB},g.φ b=some p->g'.φ b=some p
 fz:∀{o:Nat} {cs:Array Value},g.fz o=Option.some cs->g'.fz o=Option.some cs
theorem G.aJ.refl (g:G):g.aJ g:=⟨rfl,Nat.le_refl _,fun h=>h,fun h=>h⟩
theorem G.aJ.trans {g h k:G} (a:g.aJ h) (b:h.aJ k):g.aJ k:=⟨b.env.trans a.env,Nat.le_trans a.nb b.nb,fun h=>b.some (a.some h),fun h=>b.fz (a.fz h)⟩
theorem G.aJ.ext {g h:G} (a:g.aJ h):g.Ext h:=⟨⟨[],by rw [a.env];simp⟩,fun h=>a.some h,fun h=>a.fz h⟩
def tO (A:Amb) (I:Itp) (P:Program) (g:G) (ops:Array Oper) (s:St) (o:Oper):Prop:=
 (∀d,o.dst=some d->d<s.nt)/\∀(g':G) (w:World),g.aJ g'->qX A I P g' s.mem w->∀a:Act,Reads I g' ops o s.tmps a->
   (Region.wanted o (yielded ops a.tmps)=true->∀r:Option Nat,∃x,(o.semAt r a.eval).run P w=.ok (.value x) w/\∀d v,o.dst=some d->get s.tmps d=some v->Rel I g' v x)/\
   (Region.wanted o (yielded ops a.tmps)=false->∀d v,o.dst=some d->get s.tmps d=some v->Rel I g' v Go.undef)
theorem tO.ext {A:Amb} {I:Itp} {P:Program} {g g':G} {ops:Array Oper} {s:St} {o:Oper} (h:tO A I P g ops s o) (he:g.aJ g'):tO A I P g' ops s o:=
 ⟨h.1,fun g2 w h2=>h.2 g2 w (he.trans h2)⟩
def Qi (I:Itp) (g:G) (l:List (E × Bool)):Prop:=∀c b,Fj c l=some b->∃n:Int,c.den I g.env=some (.i n)/\b=decide (n≠0)
theorem Qi.le {g':G} (h:g.Le g') {l:List (E × Bool)} (hd:Qi I g l):Qi I g' l:=fun c b hc=>let ⟨n,h1,h2⟩:=hd c b hc;⟨n,E.qE h h1,h2⟩
theorem vB {d:Dr} {o:Oper} (hd:Qi I g d.dec) (hr:Reads I g ops o d.s.tmps a) :
   (dG ops d o=some .yes->Region.wanted o (yielded ops a.tmps)=true)/\(dG ops d o=some .no->Region.wanted o (yielded ops a.tmps)=false):=by
 unfold dG Region.wanted;cases hg:o.guard with
 | none=>simp
 | some q=>
   obtain ⟨j,want⟩:=q;simp only;cases hj:(ops[j]?).bind (·.dst) with
   | none=>simp
   | some t=>
     simp only;have hm:t∈readsOf ops o:=by simp only [readsOf,Qy,hg,hj];simp
     cases ht:get d.s.tmps t with
     | none=>simp
     | some v=>
       obtain ⟨x,h1,h2⟩:=hr t hm v ht;cases v with
       | bool e=>
         obtain ⟨n,h3,rfl⟩:=h2;rw [uV hj h1];simp only
         have fin:∀b:Bool,b=decide (n≠0)->((some (if b == want then Want.yes else .no)=some Want.yes->(some (decide (n≠0)) == some want)=true)/\(some (if b == want then Want.yes else .no)=some Want.no->(some (decide (n≠0)) == some want)=false)):=by
           intro b hb;subst hb;by_cases hn:n=0 <;> cases want <;> simp [hn]
         split
         . rename_i m;simp [E.den] at h3;subst h3;exact fin _ (by by_cases hn:m=0 <;> simp [hn])
         . split
           . rename_i b hb;obtain ⟨n',h4,h5⟩:=hd _ _ hb;rw [h3] at h4;simp at h4;subst h4;exact fin b h5
           . simp
       | undef=>
         simp only [Rel] at h2;subst h2
         have:yielded ops a.tmps j=none:=by
           unfold yielded;rw [hj];simp [h1,Go.undef]
         rw [this];simp
       | _=>simp
theorem Ji {dec:List (E × Bool)} (hd:Qi I g dec) {e:E} {m:Int} (he:e.den I g.env=some (.i m)):∀{n j:Nat},Jo e dec n=some (.inl j)->m=j
 | 0,j,h=>by simp [Jo] at h
 | n+1,j,h=>by
   simp only [Jo] at h;split at h
   . rename_i hb;simp only [Option.some.injEq,Sum.inl.injEq] at h;subst h;obtain ⟨n',h4,h5⟩:=hd _ _ hb;rw [qy (o:=.eq) he (show (E.lit (n:Int)).den I g.env=some (.i n) from rfl)] at h4;simp only [Option.some.injEq,D.i.injEq] at h4;subst h4;have h6:BO.eq.ev m n≠0:=of_decide_eq_true h5.symm;by_cases hm:m=n
     . exact hm
     . exact absurd (show BO.eq.ev m n=0 by simp only [BO.ev];exact if_neg hm) h6
   . exact Ji hd he h
   . simp at h
theorem YI {d:Dr} {o:Oper} {v:AV} {ps:List PE} (hG:GOk kn.globs A) (hm:qX A I P g d.s.mem w) (hd:Qi I g d.dec) (hr:Reads I g ops o d.s.tmps a) (h:Jh P kn d o.op=some (.val v ps)) (hp:∀p∈ps,p.den I g.env) (r:Option Nat) :
   ∃x,(o.semAt r a.eval).run P w=.ok (.value x) w/\Rel I g v x:=by
 have hread:∀t,.tmp t∈o.op.operands.toList->t∈readsOf ops o:=by
   have h0:∀{l:List Operand} {t:Nat},.tmp t∈l->t∈gX l:=by
     intro l
     induction l with
     | nil=>intro t h;simp at h
     | cons x l ih=>
       intro t h;simp at h;rcases h with h | h
       . subst h;simp [gX]
       . have:=ih h;cases x <;> simp [gX,this]
   intro t ht;exact List.mem_append_right _ (h0 ht)
 have ht:wG I g (fun t=>t ∉ readsOf ops o) d.s.tmps a.tmps:=fun t v hv hx=>hr t (Decidable.not_not.1 hx) v hv;unfold Jh at h;split at h
 . rename_i t x y hop;have hev:∀{z:Operand} {u:AV},z∈o.op.operands.toList->evalOp d.s.tmps z=some u->Rel I g u (a.eval z):=fun hz hu=>zl ht hu fun t e hx=>hx (hread t (e ▸ hz))
   have XY:∀b:Bool,a.eval (.tmp t)=.bool b->(o.semAt r a.eval).run P w=.ok (.value (if b then a.eval x else a.eval y)) w:=by
     intro b hb;rw [Oper.semAt_eq _ _ _ (fun c hc=>by rw [hop] at hc;cases hc)];simp only [execOp,hop,hb];cases b <;> simp [asBool]
   have hmt:t∈readsOf ops o:=hread t (by rw [hop];simp [Op.operands]);split at h
   . rename_i n hg;obtain ⟨z,h1,m,h2,rfl⟩:=hr t hmt _ hg;simp [E.den] at h2;subst h2;refine ⟨_,XY (decide (n≠0)) (by simp [Act.eval,h1,Array.getD_eq_getD_getElem?]),?_⟩;split at h
     . rename_i hn;subst hn;simp at h;obtain ⟨u,h3,rfl,rfl⟩:=h;simpa using hev (by rw [hop];simp [Op.operands]) h3
     . rename_i hn;simp at h;obtain ⟨u,h3,rfl,rfl⟩:=h;simpa [hn] using hev (by rw [hop];simp [Op.operands]) h3
   . rename_i e _ hg;obtain ⟨z,h1,m,h2,rfl⟩:=hr t hmt _ hg;split at h
     . rename_i b hb;obtain ⟨n',h4,h5⟩:=hd _ _ hb;rw [h2] at h4;simp at h4;subst h4;refine ⟨_,XY (decide (m≠0)) (by simp [Act.eval,h1,Array.getD_eq_getD_getElem?]),?_⟩;rw [<-h5];split at h
       . rename_i hbt;simp at h;obtain ⟨u,h3,rfl,rfl⟩:=h;rw [if_pos hbt];exact hev (by rw [hop];simp [Op.operands]) h3
       . rename_i hbt;simp at h;obtain ⟨u,h3,rfl,rfl⟩:=h;rw [if_neg hbt];exact hev (by rw [hop];simp [Op.operands]) h3
     . simp at h
   . cases h
 . split at h
   . rename_i i k e n hsp;split at h
     . rename_i j hj;simp only [Option.map_eq_some_iff] at h;obtain ⟨⟨v',ps'⟩,h1,h2⟩:=h;cases h2
       have ht':wG I g (fun t=>t ∉ readsOf ops o) (FU d.s i k j).tmps a.tmps:=by
         intro t v hv hx;have hv:get (vU i (.int k (.lit j)) d.s.tmps) t=some v:=hv;rw [xH] at hv;by_cases hit:i=t
         . subst hit;rw [if_pos rfl] at hv;simp only [Option.some.injEq] at hv;subst hv;obtain ⟨z,k1,m,k2,rfl⟩:=ht i _ (QW hsp) hx;have:=Ji hd k2 hj;subst this;exact ⟨_,k1,_,rfl,rfl⟩
         . rw [if_neg hit] at hv;exact ht t v hv hx
       obtain ⟨x,h3,h4⟩:=sj hG hm ht' (fun t ht hx=>hx (hread t ht)) h1 hp;refine ⟨x,?_,h4⟩;rw [Oper.semAt_eq _ _ _ (fun c hc=>fG hc h1)];exact h3
     . simp at h
     . cases h
   . simp only [Option.map_eq_some_iff] at h;obtain ⟨⟨v',ps'⟩,h1,h2⟩:=h;cases h2;obtain ⟨x,h3,h4⟩:=sj hG hm ht (fun t ht hx=>hx (hread t ht)) h1 hp;refine ⟨x,?_,h4⟩;rw [Oper.semAt_eq _ _ _ (fun c hc=>fG hc h1)];exact h3
theorem Jf {d:Dr} {o:Op} (h:Jh P kn d o=some .skip):False:=by
 unfold Jh at h;split at h
 . split at h
   . split at h <;> simp at h
   . split at h
     . split at h <;> simp at h
     . cases h
   . cases h
 . split at h
   . split at h
     . simp only [Option.map_eq_some_iff] at h;obtain ⟨⟨v',ps'⟩,_,h2⟩:=h;cases h2
     . cases h
     . cases h
   . simp only [Option.map_eq_some_iff] at h;obtain ⟨⟨v',ps'⟩,_,h2⟩:=h;cases h2
theorem Na {d:Dr} {o:Oper} (hd:Qi I g d.dec) (h:K9 P kn ops d o=some .skip) (hr:Reads I g ops o d.s.tmps a):Region.wanted o (yielded ops a.tmps)=false:=by
 unfold K9 at h;split at h
 . exact (Jf h).elim
 . rename_i hw;exact (vB hd hr).2 hw
 . cases h
 . cases h
theorem R4 {d:Dr} {o:Oper} {v:AV} {ps:List PE} (hG:GOk kn.globs A) (hm:qX A I P g d.s.mem w) (hd:Qi I g d.dec) (h:K9 P kn ops d o=some (.val v ps)) (hp:∀p∈ps,p.den I g.env) (hr:Reads I g ops o d.s.tmps a) :
   Region.wanted o (yielded ops a.tmps)=true/\∀r:Option Nat,∃x,(o.semAt r a.eval).run P w=.ok (.value x) w/\Rel I g v x:=by
 unfold K9 at h;split at h
 . rename_i hw;exact ⟨(vB hd hr).1 hw,YI hG hm hd hr h hp⟩
 . cases h
 . cases h
 . cases h
def Holds (I:Itp) (g:G) (s:St) (o:Oper):Out->Prop
 | .skip=>∀t,o.dst=some t->t<s.nt/\get s.tmps t=some .undef
 | .val v ps=>(∀p∈ps,p.den I g.env)/\∀t,o.dst=some t->t<s.nt/\∃u,get s.tmps t=some u/\∀(g':G) x,g.aJ g'->Rel I g' v x->Rel I g' u x
 | .dec _=>False
theorem tO.Sw {d:Dr} {o:Oper} {out:Out} {s:St} (hG:GOk kn.globs A) (hmem:s.mem=d.s.mem) (hd:Qi I g d.dec) (h:K9 P kn ops d o=some out) (hs:∀t∈readsOf ops o,get s.tmps t=get d.s.tmps t) (hh:Holds I g s o out) :
   tO A I P g ops s o:=by
 have hr:∀{g':G} {a:Act},Reads I g' ops o s.tmps a->Reads I g' ops o d.s.tmps a:=fun h t ht v hv=>h t ht v (by rw [hs t ht];exact hv);have hd':∀{g':G},g.aJ g'->Qi I g' d.dec:=fun he c b hc=>by rw [he.env];exact hd c b hc
 cases out with
 | skip=>
   refine ⟨fun t ht=>(hh t ht).1,fun g' w he hm a ha=>⟨fun hw=>?_,fun _ t v ht hv=>?_⟩⟩
   . rw [Na (hd' he) h (hr ha)] at hw;cases hw
   . rw [(hh t ht).2] at hv;cases hv;rfl
 | val v ps=>
   obtain ⟨hp,hh⟩:=hh;refine ⟨fun t ht=>(hh t ht).1,fun g' w he hm a ha=>?_⟩;rw [hmem] at hm;obtain ⟨h1,h2⟩:=R4 hG hm (hd' he) h (by rw [he.env];exact hp) (hr ha);refine ⟨fun _ r=>?_,fun hw=>by rw [h1] at hw;cases hw⟩;obtain ⟨x,h3,h4⟩:=h2 r;refine ⟨x,h3,fun t u ht hu=>?_⟩;obtain ⟨_,u',h5,h6⟩:=hh t ht;rw [hu] at h5;cases h5;exact h6 g' x he h4
 | dec c=>exact hh.elim
def X8 (I:Itp) (P:Program) (g:G) (ops:Array Oper) (s:St) (o:Oper) (b:Nat) (v:AV) (x:Blk):Prop:=x.wF=false/\
 ∀g':G,g.Ext g'->∀a:Act,Reads I g' ops o s.tmps a->Region.wanted o (yielded ops a.tmps)=true/\∀(r:Option Nat) (w:World),g'.φ b=none->
   ∃obj val p,p.blk=w.heap.size/\(o.semAt r a.eval).run P w=.ok (.value val) (w.alloc obj)/\Rel I (g'.place b p) v val/\jN I P (g'.place b p) b (fun i=>(w.alloc obj).heap[i]?) x
theorem X8.ext {g1:G} {s:St} {o:Oper} {b:Nat} {v:AV} {x:Blk} (h:X8 I P g ops s o b v x) (he:g.Ext g1):X8 I P g1 ops s o b v x:=⟨h.1,fun g' h1=>
 h.2 g' ⟨by obtain ⟨⟨xs,hx⟩,_⟩:=he;obtain ⟨⟨ys,hy⟩,_⟩:=h1;exact ⟨xs++ys,by rw [hy,hx,List.append_assoc]⟩,fun hb=>h1.some (he.some hb),fun hz=>h1.fz (he.fz hz)⟩⟩
theorem jI {b:Nat} {p:PB}:(g.place b p).φ b=some p:=by simp [G.place]
theorem lg {b k:Nat}:Rel I (g.place b ⟨k,0,0⟩) (.ptr b (.lit 0) 0 0) (.pointer (some ⟨k,0,none⟩)):=⟨0,⟨k,0,0⟩,rfl,Int.le_refl _,jI,by simp⟩
theorem sQ {b k n sz:Nat}:Rel I (g.place b ⟨k,0,n*sz⟩) (.slice b (.lit 0) (.lit n) sz false) (.slice (some ⟨k,0,none⟩) n n):=
 ⟨0,n,rfl,rfl,Int.le_refl _,by omega,.inl ⟨⟨k,0,n*sz⟩,n,jI,by simp,by simp,by simp⟩⟩
theorem Wz {o:Oper} {t:TypeId} {z:AV} (hop:o.op=.alloc t) (hz:zJ P t=some z) (g':G) (r:Option Nat) (w:World) (b:Nat) (a:Act) :
   ∃obj val p,p.blk=w.heap.size/\(o.semAt r a.eval).run P w=.ok (.value val) (w.alloc obj)/\Rel I (g'.place b p) (.ptr b (.lit 0) 0 0) val/\jN I P (g'.place b p) b (fun i=>(w.alloc obj).heap[i]?) (.cells z.cells true):=by
 obtain ⟨ti,zx,_,_,hzr,zM⟩:=zC hz;refine ⟨.cells zx.cells t,.pointer (some ⟨w.heap.size,0,none⟩),⟨w.heap.size,0,0⟩,rfl,?_,lg,vW (fr:=(0,0)) jI rfl (heap_alloc_new _ _) (zM I _).2 rfl (Nat.zero_le _)⟩;rw [Oper.semAt_eq _ _ _ (fun c hc=>by rw [hop] at hc;cases hc)];simp only [execOp,hop,Instr.alloc,Sem.run_bind,hzr,Result.andThen,newVar,newRow,run_newObj_alloc,Sem.run_pure]
theorem GK {o:Oper} {t:TypeId} {y:Operand} {v:AV} (hop:o.op=.box t y) (g':G) (r:Option Nat) (w:World) (b:Nat) (hb:g'.φ b=none) (a:Act) (hv:Rel I g' v (a.eval y)) (hne:v≠.any) (hnb:v.mW=false) :
   ∃obj val p,p.blk=w.heap.size/\(o.semAt r a.eval).run P w=.ok (.value val) (w.alloc obj)/\Rel I (g'.place b p) (.ptr b (.lit 0) 0 0) val/\jN I P (g'.place b p) b (fun i=>(w.alloc obj).heap[i]?) (.cells v.cells true):=by
 refine ⟨.cells (a.eval y).cells t,.pointer (some ⟨w.heap.size,0,none⟩),⟨w.heap.size,0,0⟩,rfl,?_,lg,vW (fr:=(0,0)) jI rfl (heap_alloc_new _ _) ((mH hv hne hnb).ext (G.mg hb)) rfl (Nat.zero_le _)⟩;rw [Oper.semAt_eq _ _ _ (fun c hc=>by rw [hop] at hc;cases hc)];simp only [execOp,hop,Instr.box,Sem.run_bind,Result.andThen,newVar,newRow,run_newObj_alloc,Sem.run_pure]
theorem Qv {o:Oper} {bg:Big} (hop:o.op=.alloc bg.t) {l m:List AV} (hz:yP P bg=some (l,m)) (g':G) (r:Option Nat) (w:World) (b:Nat) (a:Act) :
   ∃obj val p,p.blk=w.heap.size/\(o.semAt r a.eval).run P w=.ok (.value val) (w.alloc obj)/\Rel I (g'.place b p) (.ptr b (.lit 0) 0 0) val/\jN I P (g'.place b p) b (fun i=>(w.alloc obj).heap[i]?) (.big l bg.ks .zt bg.n m true):=by
 obtain ⟨ti,cs,xs,ys,zs,_,_,hcs,hzr,zM,hyl,hys⟩:=bq hz;refine ⟨.cells cs bg.t,.pointer (some ⟨w.heap.size,0,none⟩),⟨w.heap.size,0,0⟩,rfl,?_,lg,aj (f:=fun _ _=>0) jI rfl (heap_alloc_new _ _) hcs rfl (zM I _).1 (zM I _).2 hyl fun r j k a b=>CK.at0 (hys r j k a b)⟩;rw [Oper.semAt_eq _ _ _ (fun c hc=>by rw [hop] at hc;cases hc)];simp only [execOp,hop,Instr.alloc,Sem.run_bind,hzr,Result.andThen,newVar,newRow,run_newObj_alloc,Sem.run_pure,Value.cells]
theorem Kc {o:Oper} {t:TypeId} {y:Operand} {l m:List AV} {ks:List CK} {e:E} {n:Nat} (hop:o.op=.box t y) (g':G) (r:Option Nat) (w:World) (b:Nat) (hb:g'.φ b=none) (a:Act) (hv:Rel I g' (.big l ks e n m) (a.eval y)) :
   ∃obj val p,p.blk=w.heap.size/\(o.semAt r a.eval).run P w=.ok (.value val) (w.alloc obj)/\Rel I (g'.place b p) (.ptr b (.lit 0) 0 0) val/\jN I P (g'.place b p) b (fun i=>(w.alloc obj).heap[i]?) (.big l ks e n m true):=by
 obtain ⟨f,xs,ys,zs,h1,h2,h3,h4,h5,h6⟩:=hv;have hext:=G.mg (p:=⟨w.heap.size,0,0⟩) hb;refine ⟨.cells (a.eval y).cells t,.pointer (some ⟨w.heap.size,0,none⟩),⟨w.heap.size,0,0⟩,rfl,?_,lg,aj jI rfl (heap_alloc_new _ _) (by rw [h2];rfl) (E.zW hext h1) (h3.ext hext) (h4.ext hext) h5 fun r j k a b=>CK.KT hext (h6 r j k a b)⟩;rw [Oper.semAt_eq _ _ _ (fun c hc=>by rw [hop] at hc;cases hc)];simp only [execOp,hop,Instr.box,Sem.run_bind,Result.andThen,newVar,newRow,run_newObj_alloc,Sem.run_pure]
theorem mq {o:Oper} {t:Nat} (h:.tmp t∈o.op.operands.toList):t∈readsOf ops o:=by
 have h0:∀{l:List Operand} {t:Nat},.tmp t∈l->t∈gX l:=by
   intro l
   induction l with
   | nil=>intro t h;simp at h
   | cons x l ih=>
     intro t h;simp at h;rcases h with h | h
     . subst h;simp [gX]
     . have:=ih h;cases x <;> simp [gX,this]
 exact List.mem_append_right _ (h0 h)
theorem JH {s s1:St} {el:TypeId} {e e':E} {v:AV}:lK P s el e e'≠some (v,s1,[]):=fun h=>by
 unfold lK at h;split at h
 . split at h
   . split at h
     . simp at h
     . cases h
   . cases h
 . cases h
theorem Fx {s:St} {o:Op} {v:AV} {x:Blk} (h:jX P kn s o=some (v,x)):x.wF=false:=by
 have hnew:∀{y:Blk} {s1:St} {b:Nat} {z:Blk},zm { s with mem:=[] } y=s1->s1.mem=[(b,z)]->y.wF=false->z.wF=false:=fun {y s1 b z} h1 h2 h3=>by
   subst h1;simp only [zm,List.cons.injEq,Prod.mk.injEq,and_true] at h2;rw [<-h2.2];exact h3
 have key:∀o:Op,(match o with
     | .alloc _ | .box _ _ | .makeSlice .. | .buildSlice .. | .makeMap ..=>true
     | _=>false)=true->∀{v:AV} {s1:St} {b:Nat} {z:Blk},loud P kn { s with mem:=[] } o=some (v,s1,[])->s1.mem=[(b,z)]->z.wF=false:=by
   intro o ho v s1 b z h1 h2;cases o <;> simp only [Bool.false_eq_true] at ho <;> simp only [loud] at h1
   case alloc t=>
     split at h1
     . split at h1
       . split at h1
         . simp only [Option.some.injEq,Prod.mk.injEq,and_true] at h1;exact hnew h1.2 h2 rfl
         . cases h1
       . cases h1
     . split at h1
       . split at h1
         . simp only [Option.some.injEq,Prod.mk.injEq,and_true] at h1;obtain ⟨_,rfl⟩:=h1;simp at h2
         . cases h1
       . split at h1
         . simp only [Option.some.injEq,Prod.mk.injEq,and_true] at h1;exact hnew h1.2 h2 rfl
         . cases h1
   case box t y=>
     split at h1
     . split at h1
       . simp only [Option.some.injEq,Prod.mk.injEq,and_true] at h1;exact hnew h1.2 h2 rfl
       . cases h1
     . split at h1
       . simp only [Option.some.injEq,Prod.mk.injEq,and_true] at h1;exact hnew h1.2 h2 rfl
       . cases h1
     . cases h1
   case buildSlice t n parts=>
     split at h1
     . split at h1
       . split at h1
         . split at h1
           . split at h1
             . simp only [Option.some.injEq,Prod.mk.injEq,and_true] at h1;exact hnew h1.2 h2 QY
             . cases h1
           . cases h1
         . cases h1
       . cases h1
     . cases h1
   case makeSlice t l c=>
     split at h1
     . split at h1
       . split at h1
         . split at h1
           . split at h1
             . simp only [Option.some.injEq,Prod.mk.injEq] at h1;exact hnew h1.2.1 h2 rfl
             . cases h1
           . split at h1
             . simp only [Option.some.injEq,Prod.mk.injEq] at h1;exact hnew h1.2.1 h2 rfl
             . cases h1
         . cases h1
       . cases h1
     . exact absurd h1 JH
     . cases h1
   case makeMap t q=>
     cases q with
     | some _=>cases h1
     | none=>
       simp only [Option.some.injEq,Prod.mk.injEq,and_true] at h1;exact hnew h1.2 h2 rfl
 unfold jX at h;split at h <;> first | (cases h;done) | skip
 all_goals
   split at h
   . rename_i hl;rw [jT] at hl;split at h
     . rename_i hm;simp only [Option.some.injEq,Prod.mk.injEq] at h;obtain ⟨_,rfl⟩:=h;exact key _ rfl hl hm
     . cases h
   . cases h
theorem Fy {d:Dr} {o:Oper} {v:AV} {x:Blk} (hd:Qi I g d.dec) (hw:Qj (dG ops d o)=true) (h:jX P kn d.s o.op=some (v,x)):X8 I P g ops d.s o d.s.nb v x:=by
 refine ⟨Fx h,?_⟩;intro g' hext a hr;have hdec:Qi I g' d.dec:=fun c b hc=>let ⟨n,h1,h2⟩:=hd c b hc;⟨n,E.zW hext h1,h2⟩;refine ⟨(vB hdec hr).1 (by unfold Qj at hw;split at hw <;> simp_all),fun r w hb=>?_⟩;have ht:wG I g' (fun t=>t ∉ readsOf ops o) d.s.tmps a.tmps:=fun t v hv hx=>hr t (Decidable.not_not.1 hx) v hv;have ev0:∀{z:Operand} {u:AV},z∈o.op.operands.toList->evalOp d.s.tmps z=some u->Rel I g' u (a.eval z):=fun hz hu=>zl ht hu fun t e hx=>hx (mq (by rw [<-e];exact hz));cases hop:o.op with
 | alloc t=>
   rw [hop] at h;cases hbg:ak kn.p9 t with
   | some bg=>
     cases hz:yP P bg with
     | some lm=>
       obtain ⟨l,m⟩:=lm;simp [jX,jT,loud,hbg,hz,zm] at h;obtain ⟨rfl,rfl⟩:=h;have ht:bg.t=t:=by have:=List.find?_some hbg;simpa using this
       subst ht;exact Qv hop hz g' r w _ a
     | none=>simp [jX,jT,loud,hbg,hz] at h
   | none=>
     cases hz:zJ P t with
     | some z=>
       by_cases htb:kn.SL t=true
       . exfalso;simp only [jX,jT,loud,hbg,hz,Option.isSome_none,Bool.false_eq_true,if_false,if_pos htb] at h;split at h
         . rename_i v' s1 hl0;split at hl0
           . simp only [Option.some.injEq,Prod.mk.injEq,and_true] at hl0;obtain ⟨_,rfl⟩:=hl0;cases h
           . cases hl0
         . cases h
       . simp [jX,jT,loud,hbg,hz,zm,htb] at h;obtain ⟨rfl,rfl⟩:=h;exact Wz hop hz g' r w _ a
     | none=>simp [jX,jT,loud,hbg,hz] at h
 | box t y=>
   rw [hop] at h;have ev:∀{u:AV},evalOp d.s.tmps y=some u->Rel I g' u (a.eval y):=fun hu=>ev0 (by rw [hop];simp [Op.operands]) hu;cases hu:evalOp d.s.tmps y with
   | none=>simp [jX,jT,loud,hu] at h
   | some u=>
     by_cases hnb:u.mW=true
     . cases u <;> simp [AV.mW] at hnb
       rename_i l ks e n m;simp only [jX,jT,loud,hu] at h;by_cases hc:l.all AV.one=true/\m.all AV.one=true
       . rw [if_pos hc] at h;simp [zm] at h;obtain ⟨rfl,rfl⟩:=h;exact Kc hop g' r w _ hb a (ev hu)
       . rw [if_neg hc] at h;simp at h
     . by_cases hc:u.cells.all AV.one=true
       . have:jX P kn d.s (.box t y)=some (.ptr d.s.nb (.lit 0) 0 0,.cells u.cells true):=by
           cases u <;> first | (simp [AV.mW] at hnb;done) | (simp only [jX,jT,loud,hu];rw [if_pos hc];rfl)
         rw [this] at h;cases h;exact GK hop g' r w _ hb a (ev hu) (lM hu) (by simpa using hnb)
       . exfalso
         have:jX P kn d.s (.box t y)=none:=by
           cases u <;> first | (simp [AV.mW] at hnb;done) | (simp only [jX,jT,loud,hu];rw [if_neg hc])
         rw [this] at h;cases h
 | makeSlice t lo co=>
   have XY:(o.semAt r a.eval).run P w=(execOp a.eval o).run P w:=by
     rw [Oper.semAt_eq _ _ _ (fun c hc=>by rw [hop] at hc;cases hc)]
   rw [hop] at h;simp only [jX] at h;split at h
   . rename_i v' s1 hl0;split at h
     . rename_i bb x' hmem;simp at h;obtain ⟨rfl,rfl⟩:=h;simp only [jT,loud] at hl0;split at hl0
       . rename_i el k1 x1 k2 y1 hu hl hc;split at hl0
         . rename_i z sz bytes hz hsz hbb;split at hl0
           . rename_i hcond;obtain ⟨h0,rfl,h1,h2,h3⟩:=hcond;have hl':=ev0 (by rw [hop];simp [Op.operands]) hl;have hc':=ev0 (by rw [hop];simp [Op.operands]) hc;split at hl0
             . rename_i ks hks;split at hl0
               . rename_i haz;simp at hl0;obtain ⟨rfl,rfl⟩:=hl0;simp [zm] at hmem;obtain ⟨_,rfl⟩:=hmem;obtain ⟨cs,n,rfl,hrun,hbr⟩:=fF (w:=w) hop hu hl' hc' hz hsz hbb h0 h1 h2 h3 hks haz;exact ⟨_,_,⟨w.heap.size,0,n*sz⟩,rfl,by rw [XY];exact hrun,sQ,hbr _ _ jI⟩
               . cases hl0
             . split at hl0
               . simp at hl0;obtain ⟨rfl,rfl⟩:=hl0;simp [zm] at hmem;obtain ⟨_,rfl⟩:=hmem;obtain ⟨cs,n,rfl,hrun,hbr⟩:=uQ (w:=w) hop hu hl' hc' hz hsz hbb h0 h1 h2 h3;exact ⟨_,_,⟨w.heap.size,0,n*sz⟩,rfl,by rw [XY];exact hrun,sQ,hbr _ _ jI⟩
               . cases hl0
           . cases hl0
         . cases hl0
       . exact absurd hl0 JH
       . cases hl0
     . cases h
   . cases h
 | buildSlice t n parts=>
   have XY:(o.semAt r a.eval).run P w=(execOp a.eval o).run P w:=by
     rw [Oper.semAt_eq _ _ _ (fun c hc=>by rw [hop] at hc;cases hc)]
   rw [hop] at h;simp only [jX] at h;split at h
   . rename_i v' s1 hl0;split at h
     . rename_i bb x' hmem;simp at h;obtain ⟨rfl,rfl⟩:=h;simp only [jT,loud] at hl0;split at hl0
       . rename_i el hu;split at hl0
         . rename_i z sz ps hz hsz hps;split at hl0
           . rename_i hcond;split at hl0
             . rename_i vs hf;split at hl0
               . simp only [Option.some.injEq,Prod.mk.injEq] at hl0;obtain ⟨rfl,rfl,_⟩:=hl0;simp [zm] at hmem;obtain ⟨_,rfl⟩:=hmem;obtain ⟨ds,hrun,h5,hl⟩:=tN (w:=w) ht hop (fun t' ht' hx=>hx (mq ht')) hu hz hsz hps hcond.1 hcond.2 hf
                 exact ⟨_,_,⟨w.heap.size,0,n*sz⟩,rfl,by rw [XY];exact hrun,by
                   split
                   . rename_i h0;obtain ⟨rfl,_⟩:=h0;exact ⟨_,rfl⟩
                   . exact sQ,uw jI rfl (by rw [hcond.1]) (heap_alloc_new _ _) (h5.ext (G.mg hb)) hl⟩
               . cases hl0
             . cases hl0
           . cases hl0
         . cases hl0
       . cases hl0
     . cases h
   . cases h
 | makeMap t q=>
   rw [hop] at h;cases q with
   | some _=>simp [jX,jT,loud] at h
   | none=>
     simp [jX,jT,loud,zm] at h;obtain ⟨rfl,rfl⟩:=h;refine ⟨.map #[] 0,.map (some w.heap.size),⟨w.heap.size,0,0⟩,rfl,?_,⟨_,jI,rfl⟩,⟨_,#[],0,jI,heap_alloc_new _ _,trivial,trivial⟩⟩;rw [Oper.semAt_eq _ _ _ (fun c hc=>by rw [hop] at hc;cases hc)];simp only [execOp,hop,Option.map_none,Instr.makeMap,Sem.run_bind,Result.andThen,run_newObj_alloc,Sem.run_pure]
 | _=>rw [hop] at h;simp [jX] at h
def l6 (ops:Array Oper) (done:Ns) (listed:Array Bool) (t:Nat):Prop:=∃i o,i∈done/\listed.getD i false=false/\ops[i]?=some o/\o.dst=some t
def wH (p:Nat->Bool):List (Nat × Nat × Blk)->Mem
 | []=>[]
 | (i,b,x)::l=>if p i then (b,x)::wH p l else wH p l
theorem bY {bf:Nat}:∀{l:List (Nat × Nat × Blk)},yw bf l=wH (fun i=>bf.testBit i) l
 | []=>rfl
 | (i,b,x)::l=>by simp only [yw,wH];rw [bY]
theorem WE {p:Nat->Bool}:∀{l:List (Nat × Nat × Blk)},(∀i b x,(i,b,x)∈l->p i=true)->GX l=wH p l
 | [],_=>rfl
 | (i,b,x)::l,h=>by
   simp only [GX,wH];rw [if_pos (h i b x (by simp)),WE fun i b x hm=>h i b x (by simp [hm])]
theorem tu {p q:Nat->Bool}:∀{l:List (Nat × Nat × Blk)},(∀i b x,(i,b,x)∈l->p i=q i)->wH p l=wH q l
 | [],_=>rfl
 | (i,b,x)::l,h=>by
   simp only [wH];rw [h i b x (by simp),tu fun i b x hm=>h i b x (by simp [hm])]
theorem jr {bf:Nat} {y:Nat × Nat × Blk}:∀{l:List (Nat × Nat × Blk)},y∈wW bf l↔y∈l/\bf.testBit y.1=false
 | []=>by simp [wW]
 | z::l=>by
   simp only [wW];split
   . rename_i hz;rw [jr];constructor
     . rintro ⟨h1,h2⟩;exact ⟨by simp [h1],h2⟩
     . rintro ⟨h1,h2⟩;rcases List.mem_cons.1 h1 with rfl | h1
       . rw [hz] at h2;cases h2
       . exact ⟨h1,h2⟩
   . rename_i hz;rw [List.mem_cons,jr];constructor
     . rintro (rfl | ⟨h1,h2⟩)
       . exact ⟨by simp,by simpa using hz⟩
       . exact ⟨by simp [h1],h2⟩
     . rintro ⟨h1,h2⟩;rcases List.mem_cons.1 h1 with rfl | h1
       . exact .inl rfl
       . exact .inr ⟨h1,h2⟩
theorem kY {bf:Nat} {f:Nat × Nat × Blk->Nat}:∀{l:List (Nat × Nat × Blk)},nodup (l.map f)=true->nodup ((wW bf l).map f)=true
 | [],_=>rfl
 | z::l,h=>by
   simp only [List.map_cons,nodup,Bool.and_eq_true,Bool.not_eq_true',<-Bool.not_eq_true,List.contains_iff_mem] at h;simp only [wW];split
   . exact kY h.2
   . simp only [List.map_cons,nodup,Bool.and_eq_true,Bool.not_eq_true',<-Bool.not_eq_true,List.contains_iff_mem];refine ⟨fun hm=>h.1 ?_,kY h.2⟩;obtain ⟨y,h1,h2⟩:=List.mem_map.1 hm;exact List.mem_map.2 ⟨y,(jr.1 h1).1,h2⟩
theorem bV {α:Type} {f:α->Nat}:∀{l:List α},nodup (l.map f)=true->∀{y z:α},y∈l->z∈l->f y=f z->y=z
 | [],_,y,z,h,_,_=>by cases h
 | u::l,h,y,z,h1,h2,h3=>by
   simp only [List.map_cons,nodup,Bool.and_eq_true,Bool.not_eq_true',<-Bool.not_eq_true,List.contains_iff_mem] at h;rcases List.mem_cons.1 h1 with h4 | h4 <;> rcases List.mem_cons.1 h2 with h5 | h5
   . rw [h4,h5]
   . rw [h4] at h3;exact (h.1 (List.mem_map.2 ⟨z,h5,h3.symm⟩)).elim
   . rw [h5] at h3;exact (h.1 (List.mem_map.2 ⟨y,h4,h3⟩)).elim
   . exact bV h.2 h4 h5 h3
theorem jm {p:Nat->Bool}:∀{l:List (Nat × Nat × Blk)},nodup (l.map fun y=>y.2.1)=true->∀{b:Nat} {x:Blk},get (wH p l) b=some x↔∃i,(i,b,x)∈l/\p i=true
 | [],_,b,x=>by simp [wH,get_nil]
 | (i0,b0,x0)::l,h,b,x=>by
   have h0:=h;simp only [List.map_cons,nodup,Bool.and_eq_true,Bool.not_eq_true',<-Bool.not_eq_true,List.contains_iff_mem] at h;simp only [wH];split
   . rename_i hp;simp only [qQ];split
     . rename_i hb;constructor
       . intro e;cases e;exact ⟨i0,by simp [hb],hp⟩
       . rintro ⟨i,h1,_⟩;have:=bV h0 h1 (z:=(i0,b0,x0)) (by simp) hb.symm;cases this;rfl
     . rename_i hb;rw [jm h.2];constructor
       . rintro ⟨i,h1,h2⟩;exact ⟨i,by simp [h1],h2⟩
       . rintro ⟨i,h1,h2⟩;rcases List.mem_cons.1 h1 with e | h1
         . cases e;exact absurd rfl hb
         . exact ⟨i,h1,h2⟩
   . rename_i hp;rw [jm h.2];constructor
     . rintro ⟨i,h1,h2⟩;exact ⟨i,by simp [h1],h2⟩
     . rintro ⟨i,h1,h2⟩;rcases List.mem_cons.1 h1 with e | h1
       . cases e;exact absurd h2 hp
       . exact ⟨i,h1,h2⟩
structure dK (A:Amb) (I:Itp) (P:Program) (ops:Array Oper) (g:G) (d:Dr) (listed:Array Bool) (a:Act) (w:World):Prop where
 sr:qW A I P (l6 ops d.done listed) g { d.s with mem:=wH (fun i=>listed.getD i false) d.fl++d.s.mem } a w
 size:listed.size=ops.size
 sub:∀i,listed.getD i false=true->i∈d.done
 qs:∀i∈d.done,listed.getD i false=false->(∀b x,(i,b,x) ∉ d.fl)->i∈d.qs
 lag:∀i o,i∈d.done->listed.getD i false=false->(∀b x,(i,b,x) ∉ d.fl)->ops[i]?=some o->tO A I P g ops d.s o
 xS:∀i b x,(i,b,x)∈d.fl->i∈d.done/\i<ops.size/\b<d.s.nb/\get d.s.mem b=none
 dz:nodup (d.fl.map fun y=>y.2.1)=true
 fidx:nodup (d.fl.map fun y=>y.1)=true
 Q6:∀i b x o,(i,b,x)∈d.fl->listed.getD i false=false->ops[i]?=some o->g.φ b=none/\∃v,X8 I P g ops d.s o b v x/\∀t,o.dst=some t->t<d.s.nt/\get d.s.tmps t=some v
 bar:∀i,i∈d.done->listed.getD i false=false->oJ ops i=false
 dec:Qi I g d.dec
 dcl:Closed ops (·∈d.done)
 lcl:Closed ops (fun i=>listed.getD i false=true)
theorem qW.weaken {X Y:Nat->Prop} {s:St} (h:qW A I P X g s a w) (hXY:∀t,X t->Y t):qW A I P Y g s a w:=
 ⟨h.m,fun t v ht hy=>h.t t v ht fun hx=>hy (hXY t hx),h.nt,h.d,h.nv,h.nb⟩
theorem zP {l:Array Bool} {j i:Nat} (hj:j<l.size):(l.setIfInBounds j true).getD i false=if i=j then true else l.getD i false:=by
 by_cases h:i=j
 . subst h;simp [Array.getD_eq_getD_getElem?,hj]
 . rw [if_neg h];simp [Array.getD_eq_getD_getElem?,Array.getElem?_setIfInBounds_ne (Ne.symm h)]
theorem lt_of_getElem? {j:Nat} {o:Oper} (ho:ops[j]?=some o):j<ops.size:=(Array.getElem?_eq_some_iff.1 ho).1
theorem tO.tmps {s s':St} {o:Oper} (h:tO A I P g ops s o) (hm:s'.mem=s.mem) (hn:s'.nt=s.nt) (hr:∀t∈readsOf ops o,get s'.tmps t=get s.tmps t) (hd:∀t,o.dst=some t->get s'.tmps t=get s.tmps t) :
   tO A I P g ops s' o:=by
 refine ⟨fun t ht=>by rw [hn];exact h.1 t ht,fun g' w he hm' a ha=>?_⟩;obtain ⟨h1,h2⟩:=h.2 g' w he (by rw [<-hm];exact hm') a fun t ht u hu=>ha t ht u (by rw [hr t ht];exact hu);refine ⟨fun hw r=>?_,fun hw t u ht hu=>h2 hw t u ht (by rw [<-hd t ht];exact hu)⟩;obtain ⟨x,h3,h4⟩:=h1 hw r;exact ⟨x,h3,fun t u ht hu=>h4 t u ht (by rw [<-hd t ht];exact hu)⟩
theorem X8.tmps {s s':St} {o:Oper} {b:Nat} {v:AV} {x:Blk} (h:X8 I P g ops s o b v x) (hr:∀t∈readsOf ops o,get s'.tmps t=get s.tmps t):X8 I P g ops s' o b v x:=
 ⟨h.1,fun g' he a ha=>h.2 g' he a fun t ht u hu=>ha t ht u (by rw [hr t ht];exact hu)⟩
theorem dK.reads {d:Dr} {listed:Array Bool} (h:dK A I P ops g d listed a w) {j:Nat} {o:Oper} (ho:ops[j]?=some o)
   (ha:∀e∈o.after.toList,Region.binds .any e=true->listed.getD e.on false=true):∀t∈readsOf ops o,¬l6 ops d.done listed t:=by
 rintro t ht ⟨i,oi,h1,h2,h3,h4⟩;have hb:=JK (h.bar i h1 h2) h3 h4 ho ht;obtain ⟨o',ho',e,h5,h6,h7⟩:=pQ hb;rw [ho] at ho';cases ho';have h8:=ha e h5 h6;rcases h7 with rfl | h7
 . rw [h8] at h2;cases h2
 . have:=h.lcl _ h8 _ h7;simp only at this;rw [this] at h2;cases h2
theorem dK.reads' {d:Dr} {listed:Array Bool} (h:dK A I P ops g d listed a w) {j:Nat} {o:Oper} (ho:ops[j]?=some o)
   (ha:∀e∈o.after.toList,Region.binds .any e=true->listed.getD e.on false=true):Reads I g ops o d.s.tmps a:=fun t ht v hv=>h.sr.t t v hv (h.reads ho ha t ht)
theorem dK.eO {d:Dr} {listed:Array Bool} (h:dK A I P ops g d listed a w) {j:Nat} {o:Oper} (ho:ops[j]?=some o)
   (ha:∀e∈o.after.toList,Region.binds .any e=true->listed.getD e.on false=true):Closed ops fun i=>(listed.setIfInBounds j true).getD i false=true:=by
 have hj:j<listed.size:=by rw [h.size];exact lt_of_getElem? ho
 have:=h.lcl.add ho ha;intro i hi k hk;rw [zP hj] at hi ⊢
 have h1:=this i (by
   split at hi
   . rename_i e;exact .inl e
   . exact .inr hi) k hk
 rcases h1 with rfl | h1
 . simp
 . split
   . rfl
   . exact h1
theorem dK.Mq {d:Dr} {listed:Array Bool} (h:dK A I P ops g d listed a w):qX A I P g d.s.mem w:=
 h.sr.m.sub fun c y hc=>by
   rw [z8];split
   . rename_i z hz;obtain ⟨i,h1,_⟩:=(jm h.dz).1 hz;rw [(h.xS i c z h1).2.2.2] at hc;cases hc
   . exact hc
theorem dK.Bw {d:Dr} {listed:Array Bool} (_hD:pY ops) (h:dK A I P ops g d listed a w) {j:Nat} {o:Oper} (ho:ops[j]?=some o) (hj:j∈d.done) (hfl:∀b x,(j,b,x) ∉ d.fl)
   (ha:∀e∈o.after.toList,Region.binds .any e=true->listed.getD e.on false=true) (hnt:∀t,o.dst=some t->t<d.s.nt) {x:Value}
   (hx:∀t v,o.dst=some t->get d.s.tmps t=some v->Rel I g v x):dK A I P ops g d (listed.setIfInBounds j true) (a.put o.dst x) w:=by
 have hjl:j<listed.size:=by rw [h.size];exact lt_of_getElem? ho
 have hsel:wH (fun i=>(listed.setIfInBounds j true).getD i false) d.fl=wH (fun i=>listed.getD i false) d.fl:=
   tu fun i b x hm=>by rw [zP hjl,if_neg (fun e:i=j=>hfl b x (e ▸ hm))]
 refine ⟨⟨by rw [hsel];exact h.sr.m,fun t v hv ht=>?_,?_,?_,h.sr.nv,h.sr.nb⟩,by simpa using h.size,fun i hi=>?_,fun i hi hl=>?_,fun i oi hi hl hf hoi=>?_,h.xS,h.dz,h.fidx,fun i b y oi hm hl hoi=>?_,fun i hi hl=>?_,h.dec,h.dcl,h.eO ho ha⟩
 . by_cases hd:o.dst=some t
   . refine ⟨x,?_,hx t v hd hv⟩;have hsz:t<a.tmps.size:=by have:=h.sr.nt;simp only at this;rw [this];exact hnt t hd
     simp [Act.put,hd,hsz]
   . have hnl:¬l6 ops d.done listed t:=by
       rintro ⟨i,oi,h1,h2,h3,h4⟩;by_cases hij:i=j
       . subst hij;rw [ho] at h3;cases h3;exact hd h4
       . exact ht ⟨i,oi,h1,by rw [zP hjl,if_neg hij];exact h2,h3,h4⟩
     obtain ⟨y,h1,h2⟩:=h.sr.t t v hv hnl;refine ⟨y,?_,h2⟩;cases hdd:o.dst with
     | none=>simpa [Act.put] using h1
     | some t'=>
       have:t'≠t:=fun e=>hd (by rw [hdd,e]);simp [Act.put,Array.getElem?_setIfInBounds_ne this,h1]
 . have:=h.sr.nt;cases hdd:o.dst <;> simpa [Act.put] using this
 . have:=h.sr.d;cases hdd:o.dst <;> simpa [Act.put] using this
 . rw [zP hjl] at hi;split at hi
   . rename_i e;subst e;exact hj
   . exact h.sub i hi
 . rw [zP hjl] at hl;split at hl
   . cases hl
   . exact h.qs i hi hl
 . rw [zP hjl] at hl;split at hl
   . cases hl
   . exact h.lag i oi hi hl hf hoi
 . rw [zP hjl] at hl;split at hl
   . cases hl
   . exact h.Q6 i b y oi hm hl hoi
 . rw [zP hjl] at hl;split at hl
   . cases hl
   . exact h.bar i hi hl
theorem dK.Bv {d:Dr} {listed:Array Bool} (h:dK A I P ops g d listed a w) {j:Nat} {o:Oper} (ho:ops[j]?=some o) (hj:j∈d.done) (hjf:listed.getD j false=false)
   (ha:∀e∈o.after.toList,Region.binds .any e=true->listed.getD e.on false=true) {b:Nat} {x:Blk} (hm:(j,b,x)∈d.fl) {obj:Obj} {val:Value} {p:PB} (hpb:p.blk=w.heap.size)
   (hval:∀t v,o.dst=some t->get d.s.tmps t=some v->Rel I (g.place b p) v val) (hdst:∀t,o.dst=some t->t<d.s.nt)
   (hx:jN I P (g.place b p) b (fun i=>(w.alloc obj).heap[i]?) x) (hnf:x.wF=false) :
   dK A I P ops (g.place b p) d (listed.setIfInBounds j true) (a.put o.dst val) (w.alloc obj):=by
 have hjl:j<listed.size:=by rw [h.size];exact lt_of_getElem? ho
 obtain ⟨_,_,qy2,hbm⟩:=h.xS j b x hm;obtain ⟨hφ,_⟩:=h.Q6 j b x o hm hjf ho;have hext:=G.mg (p:=p) hφ;have Tx:g.aJ (g.place b p):=⟨rfl,Nat.le_refl _,hext.some,hext.fz⟩
 have Tq:∀{i:Nat} {z:Blk},(i,b,z)∈d.fl->i=j:=fun {i z} hi=>by
   have:=bV h.dz hi hm rfl;cases this;rfl
 have qjj:get (wH (fun i=>listed.getD i false) d.fl++d.s.mem) b=none:=by
   rw [z8];split
   . rename_i z hz;obtain ⟨i,h1,h2⟩:=(jm h.dz).1 hz;have:=Tq h1;subst this;rw [hjf] at h2;cases h2
   . exact hbm
 have hnb:b<g.nb:=by rw [h.sr.nb];exact qy2
 have hm1:=h.sr.m.place (o:=obj) (x:=x) (p:=p) hnb hφ qjj hpb hx hnf;refine ⟨⟨hm1.sub fun c y hc=>?_,fun t v hv ht=>?_,?_,?_,h.sr.nv,h.sr.nb⟩,by simpa using h.size,fun i hi=>?_,fun i hi hl=>?_,fun i oi hi hl hf hoi=>?_,h.xS,h.dz,h.fidx,fun i c y oi hmi hl hoi=>?_,fun i hi hl=>?_,fun c b hc=>h.dec c b hc,h.dcl,h.eO ho ha⟩
 . simp only at hc;rw [z8] at hc;simp only [qQ];split at hc
   . rename_i z hz;cases hc;obtain ⟨i,h1,h2⟩:=(jm h.dz).1 hz;rw [zP hjl] at h2;by_cases hij:i=j
     . subst hij;have:=bV h.fidx h1 hm rfl;cases this;rw [if_pos rfl]
     . rw [if_neg hij] at h2;have hbc:b≠c:=fun e=>hij (Tq (e ▸ h1));rw [if_neg hbc,z8,(jm h.dz).2 ⟨i,h1,h2⟩]
   . rename_i hz;have hbc:b≠c:=fun e=>by subst e;rw [hbm] at hc;cases hc
     rw [if_neg hbc,z8];split
     . rename_i z hz';obtain ⟨i,h1,h2⟩:=(jm h.dz).1 hz';rw [(h.xS i c z h1).2.2.2] at hc;cases hc
     . exact hc
 . by_cases hd:o.dst=some t
   . have h1:=hdst t hd;have hv:get d.s.tmps t=some v:=hv;have hsz:t<a.tmps.size:=by have:=h.sr.nt;simp only at this;rw [this];exact h1
     exact ⟨val,by simp [Act.put,hd,hsz],hval t v hd hv⟩
   . have hnl:¬l6 ops d.done listed t:=by
       rintro ⟨i,oi,h1,h2,h3,h4⟩;by_cases hij:i=j
       . subst hij;rw [ho] at h3;cases h3;exact hd h4
       . exact ht ⟨i,oi,h1,by rw [zP hjl,if_neg hij];exact h2,h3,h4⟩
     obtain ⟨y,h1,h2⟩:=h.sr.t t v hv hnl;refine ⟨y,?_,h2.ext hext⟩;cases hdd:o.dst with
     | none=>simpa [Act.put] using h1
     | some t'=>
       have:t'≠t:=fun e=>hd (by rw [hdd,e]);simp [Act.put,Array.getElem?_setIfInBounds_ne this,h1]
 . have:=h.sr.nt;cases hdd:o.dst <;> simpa [Act.put] using this
 . have:=h.sr.d.ext hext;cases hdd:o.dst <;> simpa [Act.put] using this
 . rw [zP hjl] at hi;split at hi
   . rename_i e;subst e;exact hj
   . exact h.sub i hi
 . rw [zP hjl] at hl;split at hl
   . cases hl
   . exact h.qs i hi hl
 . rw [zP hjl] at hl;split at hl
   . cases hl
   . exact (h.lag i oi hi hl hf hoi).ext Tx
 . rw [zP hjl] at hl;split at hl
   . cases hl
   . rename_i hij;obtain ⟨h1,v,h2,h3⟩:=h.Q6 i c y oi hmi hl hoi;have hcb:c≠b:=fun e=>hij (Tq (e ▸ hmi));exact ⟨by simp [G.place,hcb,h1],v,h2.ext hext,h3⟩
 . rw [zP hjl] at hl;split at hl
   . cases hl
   . exact h.bar i hi hl
theorem cB {s s':St} {dst:Option Tmp} {v:AV} (h:yX s dst v=some s') :
   s'.mem=s.mem/\s'.nt=s.nt/\s'.defers=s.defers/\s'.nv=s.nv/\s'.nb=s.nb/\(∀t,dst=some t->t<s.nt)/\∀t,get s'.tmps t=if dst=some t then some v else get s.tmps t:=by
 rw [FL] at h;cases dst with
 | none=>simp at h;subst h;simp
 | some d=>
   simp only at h;split at h
   . rename_i hd;simp at h;subst h;refine ⟨rfl,rfl,rfl,rfl,rfl,fun t ht=>by cases ht;exact hd,fun t=>?_⟩;rw [xH];by_cases ht:d=t
     . subst ht;simp
     . rw [if_neg ht,if_neg (by simp;exact ht)]
   . cases h
theorem eH {m:Ns} {l:List Nat} {i:Nat}:i∈Jv m l↔i∈l/\i ∉ m:=by
 rw [Jy,List.mem_filter,Ns.mem_iff];simp
theorem nG {j:Nat}:∀{l:List Edge},(bR l).testBit j=true↔∃e∈l,Region.binds .any e=true/\e.on=j
 | []=>by simp [bR]
 | e::l=>by
   simp only [bR];split
   . rename_i hb;show ((bR l) ||| (1 <<< e.on)).testBit j=true↔_;rw [Nat.testBit_or,Bool.or_eq_true,nG,Nat.one_shiftLeft,Nat.testBit_two_pow,decide_eq_true_eq];constructor
     . rintro (⟨e',h1,h2⟩ | h)
       . exact ⟨e',by simp [h1],h2⟩
       . exact ⟨e,by simp,hb,h⟩
     . rintro ⟨e',h1,h2⟩;rcases List.mem_cons.1 h1 with rfl | h1
       . exact .inr h2.2
       . exact .inl ⟨e',h1,h2⟩
   . rename_i hb;rw [nG];constructor
     . rintro ⟨e',h1,h2⟩;exact ⟨e',by simp [h1],h2⟩
     . rintro ⟨e',h1,h2⟩;rcases List.mem_cons.1 h1 with rfl | h1
       . exact absurd h2.1 hb
       . exact ⟨e',h1,h2⟩
theorem Bl {done:Ns} {l:List Edge}:ZH done l=true↔∀e∈l,Region.binds .any e=true->e.on∈done:=by
 have h0:ZH done l=true↔(bR l) &&& (show Nat from done)=bR l:=by
   unfold ZH;rw [Nat.beq_eq];rfl
 rw [h0];constructor
 . intro h e he hb;rw [Ns.mem_iff,Ns.has_eq];have h1:=nG.2 ⟨e,he,hb,rfl⟩;rw [<-h,Nat.testBit_and,Bool.and_eq_true] at h1;exact h1.2
 . intro h;apply Nat.eq_of_testBit_eq;intro j;rw [Nat.testBit_and];cases hj:(bR l).testBit j with
   | false=>rfl
   | true=>
     obtain ⟨e,he,hb,rfl⟩:=nG.1 hj;have:=h e he hb;rw [Ns.mem_iff,Ns.has_eq] at this;rw [Bool.true_and];exact this
theorem dH {o:Oper} {done:Ns}:nY o done=true↔∀e∈o.after.toList,Region.binds .any e=true->e.on∈done:=Bl
theorem dK.ahead {d:Dr} {listed:Array Bool} (hG:GOk kn.globs A) (hD:pY ops) (h:dK A I P ops g d listed a w) {i:Nat} {o:Oper} (ho:ops[i]?=some o) (hi:i ∉ d.done) (hrd:nY o d.done=true) (hbar:oJ ops i=false)
   {v:AV} {s':St} (hset:yX d.s o.dst v=some s') {out:Out} (hout:K9 P kn ops d o=some out) (hh:Holds I g s' o out) :
   dK A I P ops g { d with s:=s',done:=d.done.add i,qs:=i::d.qs } listed a w:=by
 obtain ⟨h1,h2,h3,h4,h5,h6,h7⟩:=cB hset
 have hnl:listed.getD i false=false:=by
   cases hl:listed.getD i false with
   | false=>rfl
   | true=>exact absurd (h.sub i hl) hi
 have hown:∀t∈readsOf ops o,get s'.tmps t=get d.s.tmps t:=fun t ht=>by
   rw [h7 t,if_neg];intro e;have:=hD.Yn (JK hbar ho e ho ht);omega
 have hst:∀{k:Nat} {ok:Oper},k∈d.done->ops[k]?=some ok->∀t∈readsOf ops ok,get s'.tmps t=get d.s.tmps t:=fun {k ok} hk hok t ht=>by
   rw [h7 t,if_neg];intro e;exact hi (h.dcl k hk i (JK hbar ho e hok ht))
 have hdst:∀{k:Nat} {ok:Oper},k∈d.done->ops[k]?=some ok->∀t,ok.dst=some t->get s'.tmps t=get d.s.tmps t:=fun {k ok} hk hok t ht=>by
   rw [h7 t,if_neg];intro e;have:=hD.inj ho hok e ht;subst this;exact hi hk
 refine ⟨⟨by rw [h1];exact h.sr.m,fun t u hu ht=>?_,by show a.tmps.size=s'.nt;rw [h2];exact h.sr.nt,by show gM I g s'.defers a.defers;rw [h3];exact h.sr.d,by show g.env.length=s'.nv;rw [h4];exact h.sr.nv,by show g.nb=s'.nb;rw [h5];exact h.sr.nb⟩,h.size,fun k hk=>Ns.zN.2 (.inr (h.sub k hk)),fun k hk hl hf=>?_,fun k ok hk hl hf hok=>?_,fun k b x hm=>?_,h.dz,h.fidx,fun k b x ok hm hl hok=>?_,fun k hk hl=>?_,h.dec,?_,h.lcl⟩
 . have hne:o.dst≠some t:=fun e=>ht ⟨i,o,Ns.zN.2 (.inl rfl),hnl,ho,e⟩;have hu:get s'.tmps t=some u:=hu;rw [h7 t,if_neg hne] at hu;exact h.sr.t t u hu fun ⟨k,ok,hk1,hk2,hk3,hk4⟩=>ht ⟨k,ok,Ns.zN.2 (.inr hk1),hk2,hk3,hk4⟩
 . rcases Ns.zN.1 hk with rfl | hk
   . simp
   . exact List.mem_cons_of_mem _ (h.qs k hk hl hf)
 . rcases Ns.zN.1 hk with rfl | hk
   . rw [ho] at hok;cases hok;exact tO.Sw (s:=s') hG h1 h.dec hout hown hh
   . exact (h.lag k ok hk hl hf hok).tmps h1 h2 (hst hk hok) (hdst hk hok)
 . obtain ⟨h8,h9,h10,h11⟩:=h.xS k b x hm;exact ⟨Ns.zN.2 (.inr h8),h9,by show b<s'.nb;rw [h5];exact h10,by show get s'.mem b=none;rw [h1];exact h11⟩
 . obtain ⟨h8,vv,h9,h10⟩:=h.Q6 k b x ok hm hl hok;have hk:=(h.xS k b x hm).1;exact ⟨h8,vv,h9.tmps (hst hk hok),fun t ht=>⟨by show t<s'.nt;rw [h2];exact (h10 t ht).1,by show get s'.tmps t=_;rw [hdst hk hok t ht];exact (h10 t ht).2⟩⟩
 . rcases Ns.zN.1 hk with rfl | hk
   . exact hbar
   . exact h.bar k hk hl
 . intro k hk j hj;have:=(h.dcl.add ho (dH.1 hrd)) k (Ns.zN.1 hk) j hj;exact Ns.zN.2 this
theorem qX.pass (h:qX A I P g M w):qX A I P (g.lay none) M w:=
 (h.oQ (x:=.rows [] .zt (.lit 0) false true) (fun _ _ h=>h) ⟨fun _ _=>0,0,rfl,rfl,Int.le_refl _,.inr ⟨rfl,rfl,by simp [G.lay]⟩⟩).sub fun b y hb=>by
   simp only [qQ];rw [if_neg (fun e=>by have:=h.lt b y hb;omega)];exact hb
theorem dK.float {d:Dr} {listed:Array Bool} (hD:pY ops) (h:dK A I P ops g d listed a w) {i:Nat} {o:Oper} (ho:ops[i]?=some o) (hi:i ∉ d.done) (hrd:nY o d.done=true) (hbar:oJ ops i=false)
   {s':St} {v:AV} (hset:yX { d.s with nb:=d.s.nb+1 } o.dst v=some s') {x:Blk} (hf:X8 I P g ops d.s o d.s.nb v x) :
   dK A I P ops (g.lay none) { d with s:=s',done:=d.done.add i,fl:=(i,d.s.nb,x)::d.fl } listed a w:=by
 obtain ⟨h1,h2,h3,h4,h5,h6,h7⟩:=cB hset;simp only at h1 h2 h3 h4 h5 h6 h7
 have hnl:listed.getD i false=false:=by
   cases hl:listed.getD i false with
   | false=>rfl
   | true=>exact absurd (h.sub i hl) hi
 have hown:∀t∈readsOf ops o,get s'.tmps t=get d.s.tmps t:=fun t ht=>by
   rw [h7 t,if_neg];intro e;have:=hD.Yn (JK hbar ho e ho ht);omega
 have hst:∀{k:Nat} {ok:Oper},k∈d.done->ops[k]?=some ok->∀t∈readsOf ops ok,get s'.tmps t=get d.s.tmps t:=fun {k ok} hk hok t ht=>by
   rw [h7 t,if_neg];intro e;exact hi (h.dcl k hk i (JK hbar ho e hok ht))
 have hdst:∀{k:Nat} {ok:Oper},k∈d.done->ops[k]?=some ok->∀t,ok.dst=some t->get s'.tmps t=get d.s.tmps t:=fun {k ok} hk hok t ht=>by
   rw [h7 t,if_neg];intro e;have:=hD.inj ho hok e ht;subst this;exact hi hk
 have hwf:=h.sr.m.wf;have hle:=g.qH none;have hext:=hle.ext hwf;have hnb:=h.sr.nb;simp only at hnb;have Tx:g.aJ (g.lay none):=⟨rfl,by simp [G.lay],fun hb=>hle.some hwf hb,fun h=>h⟩
 have hsel:wH (fun i=>listed.getD i false) ((i,d.s.nb,x)::d.fl)=wH (fun i=>listed.getD i false) d.fl:=by
   simp only [wH,hnl,Bool.false_eq_true,if_false]
 refine ⟨⟨by dsimp only;rw [hsel,h1];exact h.sr.m.pass,fun t u hu ht=>?_,by show a.tmps.size=s'.nt;rw [h2];exact h.sr.nt,by show gM I (g.lay none) s'.defers a.defers;rw [h3];exact h.sr.d.le hle hwf,by show g.env.length=s'.nv;rw [h4];exact h.sr.nv,by show g.nb+1=s'.nb;rw [h5,hnb]⟩,h.size,fun k hk=>Ns.zN.2 (.inr (h.sub k hk)),fun k hk hl hf'=>?_,fun k ok hk hl hf' hok=>?_,fun k b y hm=>?_,?_,?_,fun k b y ok hm hl hok=>?_,fun k hk hl=>?_,h.dec.le hle,?_,h.lcl⟩
 . have hne:o.dst≠some t:=fun e=>ht ⟨i,o,Ns.zN.2 (.inl rfl),hnl,ho,e⟩;have hu:get s'.tmps t=some u:=hu;rw [h7 t,if_neg hne] at hu;exact h.sr.t.le hle hwf t u hu fun ⟨k,ok,hk1,hk2,hk3,hk4⟩=>ht ⟨k,ok,Ns.zN.2 (.inr hk1),hk2,hk3,hk4⟩
 . rcases Ns.zN.1 hk with rfl | hk
   . exact absurd (by simp) (hf' d.s.nb x)
   . exact h.qs k hk hl fun b y hm=>hf' b y (by simp [hm])
 . rcases Ns.zN.1 hk with rfl | hk
   . exact absurd (by simp) (hf' d.s.nb x)
   . exact ((h.lag k ok hk hl (fun b y hm=>hf' b y (by simp [hm])) hok).ext Tx).tmps h1 h2 (hst hk hok) (hdst hk hok)
 . rcases List.mem_cons.1 hm with e | hm
   . cases e;refine ⟨Ns.zN.2 (.inl rfl),lt_of_getElem? ho,by show d.s.nb<s'.nb;rw [h5];omega,?_⟩;show get s'.mem d.s.nb=none;rw [h1];cases hg:get d.s.mem d.s.nb with
     | none=>rfl
     | some z=>have:=h.Mq.lt _ z hg;omega
   . obtain ⟨h8,h9,h10,h11⟩:=h.xS k b y hm;exact ⟨Ns.zN.2 (.inr h8),h9,by show b<s'.nb;rw [h5];omega,by show get s'.mem b=none;rw [h1];exact h11⟩
 . simp only [List.map_cons,nodup,Bool.and_eq_true,Bool.not_eq_true',<-Bool.not_eq_true,List.contains_iff_mem];refine ⟨fun hm=>?_,h.dz⟩;obtain ⟨⟨k,b,y⟩,h8,h9⟩:=List.mem_map.1 hm;have:=(h.xS k b y h8).2.2.1;simp only at h9;omega
 . simp only [List.map_cons,nodup,Bool.and_eq_true,Bool.not_eq_true',<-Bool.not_eq_true,List.contains_iff_mem];refine ⟨fun hm=>?_,h.fidx⟩;obtain ⟨⟨k,b,y⟩,h8,h9⟩:=List.mem_map.1 hm;simp only at h9;exact hi (h9 ▸ (h.xS k b y h8).1)
 . rcases List.mem_cons.1 hm with e | hm
   . cases e;rw [ho] at hok;cases hok;exact ⟨by simp [G.lay,hnb],v,(hf.ext hext).tmps hown,fun t ht=>⟨by show t<s'.nt;rw [h2];exact h6 t ht,by show get s'.tmps t=_;rw [h7 t,if_pos ht]⟩⟩
   . obtain ⟨h8,vv,h9,h10⟩:=h.Q6 k b y ok hm hl hok;obtain ⟨hk,_,hb,_⟩:=h.xS k b y hm;exact ⟨by simp only [G.lay];rw [if_neg (by omega)];exact h8,vv,(h9.ext hext).tmps (hst hk hok),fun t ht=>⟨by show t<s'.nt;rw [h2];exact (h10 t ht).1,by show get s'.tmps t=_;rw [hdst hk hok t ht];exact (h10 t ht).2⟩⟩
 . rcases Ns.zN.1 hk with rfl | hk
   . exact hbar
   . exact h.bar k hk hl
 . intro k hk j hj;have:=(h.dcl.add ho (dH.1 hrd)) k (Ns.zN.1 hk) j hj;exact Ns.zN.2 this
theorem bn {d:Dr} {bf:Nat}:∀{l:List Nat} {ps:List PE},recheck P kn ops d bf l=some ps->(∀p∈ps,p.den I g.env)->g.env.length=d.s.nv->g.nb=d.s.nb->g.wf->
   ∀q∈l,bf.testBit q=false->∀o,ops[q]?=some o->∃out,K9 P kn ops d o=some out/\Holds I g d.s o out
 | [],_,_,_,_,_,_,q,hq,_,_,_=>by simp at hq
 | q0::l,ps,h,hp,hnv,hnb,hwf,q,hq,hb,o,ho=>by
   simp only [recheck] at h;split at h
   . rename_i hb0;rcases List.mem_cons.1 hq with rfl | hq
     . rw [hb] at hb0;cases hb0
     . exact bn h hp hnv hnb hwf q hq hb o ho
   . split at h
     . rename_i o0 ho0;split at h
       . rename_i ps' h1 h2
         have hps:ps'=ps/\∀t,o0.dst=some t->t<d.s.nt/\get d.s.tmps t=some .undef:=by
           split at h
           . rename_i hn;simp at h;exact ⟨h,fun t ht=>by rw [hn] at ht;cases ht⟩
           . rename_i t0 hn;split at h
             . rename_i hu;split at h
               . rename_i hlt;simp at h;exact ⟨h,fun t ht=>by rw [hn] at ht;cases ht;exact ⟨hlt,hu⟩⟩
               . cases h
             . cases h
         obtain ⟨rfl,qyQ⟩:=hps;rcases List.mem_cons.1 hq with rfl | hq
         . rw [ho0] at ho;cases ho;exact ⟨.skip,h1,qyQ⟩
         . exact bn h2 hp hnv hnb hwf q hq hb o ho
       . rename_i v p ps' h1 h2
         have hps:p++ps'=ps/\∀t,o0.dst=some t->t<d.s.nt/\∃u,get d.s.tmps t=some u/\Fix.le { nv:=d.s.nv,nb:=d.s.nb,kb:=d.s.nb,σ:=[],ρ:=[] } u v=true:=by
           split at h
           . rename_i hn;simp at h;exact ⟨h,fun t ht=>by rw [hn] at ht;cases ht⟩
           . rename_i t0 hn;split at h
             . rename_i u hu;split at h
               . rename_i hlt;simp at h;exact ⟨h,fun t ht=>by rw [hn] at ht;cases ht;exact ⟨hlt.1,u,hu,hlt.2⟩⟩
               . cases h
             . cases h
         obtain ⟨rfl,hval⟩:=hps;rcases List.mem_cons.1 hq with rfl | hq
         . rw [ho0] at ho;cases ho;refine ⟨.val v p,h1,fun p' hp'=>hp p' (by simp [hp']),fun t ht=>?_⟩;obtain ⟨h3,u,h4,h5⟩:=hval t ht;refine ⟨h3,u,h4,fun g' x he hx=>?_⟩;have qyN:g'.env.length=d.s.nv:=by rw [he.env];exact hnv
           have hnb':=he.nb;have hf:Fix.Fits I { nv:=d.s.nv,nb:=d.s.nb,kb:=d.s.nb,σ:=[],ρ:=[] } g' []:=⟨rfl,by simp;omega,Nat.le_refl _⟩;refine (Fix.sG hf h5 hx).le ?_ ?_
           . refine ⟨⟨[],by simp [Fix.view,<-qyN]⟩,by simp [Fix.view];omega,fun b hb=>?_,fun _ _ h=>h⟩;simp only [Fix.view] at hb ⊢;simp [Fix.img,hb]
           . intro b hb;simp only [Fix.view] at hb ⊢;simp [Fix.img,Nat.not_lt.2 hb]
         . exact bn h2 (fun p' hp'=>hp p' (by simp [hp'])) hnv hnb hwf q hq hb o ho
       . cases h
     . cases h
theorem dL {d:Dr}:∀{l:List Nat} {i:Nat} {o:Oper} {x:Out},ig P kn ops d l=some (i,o,x)->i∈l/\ops[i]?=some o/\nY o d.done=true/\oJ ops i=false/\K9 P kn ops d o=some x
 | [],i,o,x,h=>by simp [ig] at h
 | i0::l,i,o,x,h=>by
   simp only [ig] at h;split at h
   . rename_i o0 ho0;split at h
     . rename_i hr;simp only [Bool.and_eq_true,Bool.not_eq_true'] at hr;split at h
       . rename_i x0 hx;simp at h;obtain ⟨rfl,rfl,rfl⟩:=h;exact ⟨by simp,ho0,hr.1,hr.2,hx⟩
       . obtain ⟨h1,h2⟩:=dL h;exact ⟨by simp [h1],h2⟩
     . obtain ⟨h1,h2⟩:=dL h;exact ⟨by simp [h1],h2⟩
   . obtain ⟨h1,h2⟩:=dL h;exact ⟨by simp [h1],h2⟩
theorem dI {d:Dr}:∀{l:List Nat} {i:Nat} {o:Oper} {v:AV} {x:Blk},iQ P kn ops d l=some (i,o,v,x)->i∈l/\ops[i]?=some o/\Qj (dG ops d o)=true/\oJ ops i=false/\jX P kn d.s o.op=some (v,x)
 | [],i,o,v,x,h=>by simp [iQ] at h
 | i0::l,i,o,v,x,h=>by
   simp only [iQ] at h;split at h
   . rename_i o0 ho0;split at h
     . rename_i hr;simp only [Bool.and_eq_true,Bool.not_eq_true'] at hr;split at h
       . rename_i v0 x0 hx;simp at h;obtain ⟨rfl,rfl,rfl,rfl⟩:=h;exact ⟨by simp,ho0,hr.1,hr.2,hx⟩
       . obtain ⟨h1,h2⟩:=dI h;exact ⟨by simp [h1],h2⟩
     . obtain ⟨h1,h2⟩:=dI h;exact ⟨by simp [h1],h2⟩
   . obtain ⟨h1,h2⟩:=dI h;exact ⟨by simp [h1],h2⟩
theorem nK {done:Ns}:∀{l:List Nat} {j:Nat},j∈nW ops done l->j∈l/\∃o,ops[j]?=some o/\nY o done=true
 | [],_,h=>by simp [nW] at h
 | i::l,j,h=>by
   simp only [nW] at h;split at h
   . rename_i o ho;split at h
     . rename_i hr;rcases List.mem_cons.1 h with rfl | h
       . exact ⟨by simp,o,ho,hr⟩
       . obtain ⟨h1,h2⟩:=nK h;exact ⟨by simp [h1],h2⟩
     . obtain ⟨h1,h2⟩:=nK h;exact ⟨by simp [h1],h2⟩
   . obtain ⟨h1,h2⟩:=nK h;exact ⟨by simp [h1],h2⟩
theorem rE {done:Ns}:∀{l:List Nat} {j:Nat} {o:Oper},j∈l->ops[j]?=some o->nY o done=true->j∈nW ops done l
 | [],_,_,h,_,_=>by simp at h
 | i::l,j,o,h,ho,hr=>by
   simp only [nW];rcases List.mem_cons.1 h with rfl | h
   . rw [ho];simp [hr]
   . have:=rE h ho hr;split
     . split
       . exact List.mem_cons_of_mem _ this
       . exact this
     . exact this
theorem Br {f:Nat->Tree} {env:List D}:∀{l:List Nat},(TT f l).vc I env->∀i∈l,(f i).vc I env
 | [],_,i,hi=>by simp at hi
 | [j],h,i,hi=>by simp at hi;subst hi;exact h
 | j::k::l,h,i,hi=>by
   rcases List.mem_cons.1 hi with rfl | hi
   . exact h.1
   . exact Br h.2 i hi
end Go.Sx
end
namespace Go.Sx
open Go
variable {A:Amb} {I:Itp} {P:Program} {g:G} {X:Nat->Prop} {ts:qO} {a:Act} {M:Mem} {w:World} {ops:Array Oper}
theorem eG {cx:Cx} {e:Eng} (hE:jh I cx e) {s:St} {o:Oper} {k:St->Tree} {r:Option Nat} {n:Nat} {Q:Exit->Act->World->Prop} (hG:GOk cx.kn.globs A) (hs:qW A I cx.P X g s a w)
   (hx:∀t,.tmp t∈o.op.operands.toList->¬X t) (h:(JQ cx e s o k).vc I g.env):o.wpIn (FW r) n cx.P a w (wM A I cx.P X g k) Q:=by
 unfold JQ at h;rw [jT] at h;split at h
 . rename_i v s1 ps hq;split at h
   . rename_i s' hset;exact Mj hs hx hq hset h
   . exact h.elim
 . split at h
   . rename_i f l hq;exact MN hE hG hs hx hq h
   . split at h
     . rename_i v ps hq;split at h
       . rename_i s' hset;exact VZ hG hs hx hq hset h
       . exact h.elim
     . exact h.elim
theorem R6 {cx:Cx} {e:Eng} (hE:jh I cx e) {s:St} {o:Oper} {k:St->Tree} {r:Option Nat} {n:Nat} {Q:Exit->Act->World->Prop} (hG:GOk cx.kn.globs A) (hs:qW A I cx.P X g s a w)
   (hx:∀t,.tmp t∈o.op.operands.toList->¬X t) (h:(R7 cx e s o k).vc I g.env):o.wpIn (FW r) n cx.P a w (wM A I cx.P X g k) Q:=by
 unfold R7 at h;split at h
 . rename_i s1 ps hic;obtain ⟨hp,h⟩:=qB h;obtain ⟨g',h1,h2,h3⟩:=Gt hs hx hic hp;rw [<-h2] at h;exact Oper.wpIn_mono (fun _ _ hp=>wM.le h1 hp) (eG hE hG h3 hx h)
 split at h
 . rename_i s1 hlk;obtain ⟨g',h1,h2,h3⟩:=WS hs hx hlk;rw [<-h2] at h;exact Oper.wpIn_mono (fun _ _ hp=>wM.le h1 hp) (eG hE hG h3 hx h)
 . exact eG hE hG hs hx h
theorem JG:∀{l:List Operand} {t:Nat},.tmp t∈l->t∈gX l
 | x::l,t,h=>by
   rcases List.mem_cons.1 h with h | h
   . subst h;simp [gX]
   . have:=JG h;cases x <;> simp [gX,this]
 | [],_,h=>by simp at h
theorem Oper.BF {F:Fence} {o:Oper} {n:Nat} {K:Act->World->Prop} {Q:Exit->Act->World->Prop} (hh:o.wpIn F n P a w K Q) :
   o.wpIn F n P a w (fun a' w'=>K a' w'/\∃x,a'.tmps=(a.put o.dst x).tmps) Q:=by
 unfold Oper.wpIn at *;refine ⟨hh.1,?_⟩;have hh:=hh.2;generalize (o.semAt F.round a.eval).run P w=r at *;cases r with
 | ok x w'=>
   cases x <;> simp only [Oper.uponIn] at hh ⊢ <;>
     first
       | exact ⟨hh,_,rfl⟩
       | exact ⟨hh,undef,by cases o.dst <;> rfl⟩
       | exact ⟨hh.1,CallsIn.mono hh.2 (fun e w'' he=>by cases e <;> first | exact ⟨he,_,rfl⟩ | exact he)⟩
       | exact ⟨hh.1,RowsIn.mono hh.2 (fun _ _ he=>⟨he,_,rfl⟩)⟩
       | exact ⟨hh.1,RoundIn.mono hh.2 (fun e w'' he=>by cases e <;> first | exact ⟨he,_,rfl⟩ | exact he)⟩
 | halt x w'=>cases x <;> simp only [Oper.uponIn] at hh ⊢ <;> exact hh
theorem GJ {old new ts:qO} {dst:Option Tmp} (h:frameT old dst new=some ts) :
   ∀t,(dst=some t->get ts t=get new t)/\(dst≠some t->get ts t=get old t):=by
 unfold frameT at h;intro t;cases dst with
 | none=>simp at h;subst h;simp
 | some d=>
   simp only at h;split at h
   . rename_i v hv;simp at h;subst h;refine ⟨fun e=>by cases e;rw [xH,if_pos rfl,hv],fun e=>by rw [xH,if_neg (fun e'=>e (by rw [e']))]⟩
   . cases h
theorem ZY {α:Type} {m:Ns} {i:Nat} {f:Nat->α}:nT (m.add i) f=f (m.add i):=WA
theorem Pv {cx:Cx} {e:Eng} (hE:jh I cx e) (hG:GOk cx.kn.globs A) (hD:pY ops) {k:St->Tree} {r:Option Nat} {n:Nat} {Q:Exit->Act->World->Prop} {g0:G}
   (hQ:∀g s a w,g0.Le g->qW A I cx.P (fun _=>False) g s a w->(k s).vc I g.env->Q .normal a w) :
   ∀(m fuel:Nat) (g:G) (d:Dr) (listed:Array Bool) (a:Act) (w:World) (cov:List Nat),g0.Le g->(dx cx e ops fuel d k).vc I g.env->dK A I cx.P ops g d listed a w->(∀i b x,(i,b,x)∈d.fl->g0.nb<=b)->
     cov.length<=m->(∀i,i<ops.size->listed.getD i false=false->i∈cov)->wpAnyIn (FW r) n cx.P .any ops Q m listed a w:=by
 -- all have been listed
 have fin:∀(fuel:Nat) (g:G) (d:Dr) (listed:Array Bool) (a:Act) (w:World),g0.Le g->(dx cx e ops fuel d k).vc I g.env->dK A I cx.P ops g d listed a w->
     Region.ready .any ops listed=[]->Q .normal a w:=by
   intro fuel g d listed a w hg h hI hr
   have hall:∀i,i<ops.size->listed.getD i false=true:=by
     intro i
     induction i using Nat.strongRecOn with
     | _ i ih=>
       intro hi;cases hl:listed.getD i false with
       | true=>rfl
       | false=>
         exfalso
         have:i∈Region.ready .any ops listed:=by
           rw [mem_ready];refine ⟨?_,ops[i],by simp [hi],fun ed he hb=>ih ed.on (hD.edge i ops[i] (by simp [hi]) ed (by simpa using he) hb) (Nat.lt_trans (hD.edge i ops[i] (by simp [hi]) ed (by simpa using he) hb) hi)⟩;rw [Array.getD_eq_getD_getElem?] at hl ⊢;have:i<listed.size:=by rw [hI.size];exact hi
           simp only [Array.getElem?_eq_getElem this,Option.getD_some] at hl ⊢;exact hl
         rw [hr] at this;cases this
   cases fuel with
   | zero=>exact h.elim
   | succ f=>
     unfold dx at h
     have hnil:Jv d.done (List.range ops.size)=[]:=by
       rw [Jy,List.filter_eq_nil_iff];intro i hi;simp [Ns.mem_iff.1 (hI.sub i (hall i (List.mem_range.1 hi)))]
     rw [hnil] at h;have hsel:GX d.fl=wH (fun i=>listed.getD i false) d.fl:=WE fun i b x hm=>hall i (hI.xS i b x hm).2.1;dsimp only at h;rw [hsel] at h;exact hQ g _ a w hg (hI.sr.weaken fun t ⟨i,o,_,h1,h2,_⟩=>by rw [hall i (lt_of_getElem? h2)] at h1;cases h1) h
 intro m
 induction m with
 | zero=>
   intro fuel g d listed a w cov hg h hI Kr hlen Tg
   have hr:Region.ready .any ops listed=[]:=by
     rw [List.eq_nil_iff_forall_not_mem];intro i hi;obtain ⟨h1,o,h2,_⟩:=mem_ready.1 hi;have hi:=lt_of_getElem? h2
     have:listed.getD i false=false:=by
       rw [Array.getD_eq_getD_getElem?] at h1 ⊢;have:i<listed.size:=by rw [hI.size];exact hi
       simp only [Array.getElem?_eq_getElem this,Option.getD_some] at h1 ⊢;exact h1
     have:=Tg i hi this;have hc:cov=[]:=List.length_eq_zero_iff.1 (by omega);rw [hc] at this;cases this
   exact ⟨hr,fin fuel g d listed a w hg h hI hr⟩
 | succ m ih=>
   intro fuel g d listed a w cov hg h hI Kr hlen Tg;refine ⟨fin fuel g d listed a w hg h hI,fun j hj=>?_⟩;obtain ⟨hjl,o,hjo,hja⟩:=mem_ready.1 hj;have hjs:=lt_of_getElem? hjo;have XV:j<listed.size:=by rw [hI.size];exact hjs
   have LA:listed.getD j false=false:=by
     rw [Array.getD_eq_getD_getElem?] at hjl ⊢;simp only [Array.getElem?_eq_getElem XV,Option.getD_some] at hjl ⊢;exact hjl
   have Wq:∀ed∈o.after.toList,Region.binds .any ed=true->listed.getD ed.on false=true:=fun ed he hb=>hja ed (by simpa using he) hb
   have Ms:∀i,i<ops.size->(listed.setIfInBounds j true).getD i false=false->i∈cov.filter (·≠j):=by
     intro i hi hl;rw [zP XV] at hl;split at hl
     . cases hl
     . rename_i hij;simp [Tg i hi hl,hij]
   have hlen':(cov.filter (·≠j)).length<=m:=by
     have hm:=Tg j hjs LA
     have:(cov.filter (·≠j)).length<cov.length:=by
       have h1:=List.length_filter_lt_length_iff_exists (p:=(·≠j)) (l:=cov);exact h1.2 ⟨j,hm,by simp⟩
     omega
   unfold wpOpIn;rw [hjo];simp only
   -- the executor goes on till the operation is its own next, or is behind it
   clear hlen Tg
   induction fuel generalizing d g with
   | zero=>exact h.elim
   | succ f ihf=>
     by_cases hjd:j∈d.done
     . by_cases qjh:∃b x,(j,b,x)∈d.fl
       . -- it floated
         obtain ⟨b,x,hm⟩:=qjh;obtain ⟨hφ,v,hok,hdv⟩:=hI.Q6 j b x o hm LA hjo;obtain ⟨h1,h2⟩:=hok.2 g ⟨⟨[],by simp⟩,fun h=>h,fun h=>h⟩ a (hI.reads' hjo Wq);obtain ⟨obj,val,p,hpb,h3,hvr,h4⟩:=h2 (FW r).round w hφ;rw [if_pos h1];refine ⟨fun _ _=>trivial,?_⟩;rw [h3];refine ih (f+1) (g.place b p) d _ _ _ _ ⟨hg.env,hg.nb,fun c hc=>?_,hg.fz⟩ h (hI.Bv hjo hjd LA Wq hm hpb (fun t u ht hu=>by rw [(hdv t ht).2] at hu;cases hu;exact hvr) (fun t ht=>(hdv t ht).1) h4 hok.1) Kr hlen' Ms;have:=Kr j b x hm;simp only [G.place];rw [if_neg (by omega)];exact hg.φ c hc
       . -- it lagged
         have Tk:∀b x,(j,b,x) ∉ d.fl:=fun b x hm=>qjh ⟨b,x,hm⟩;obtain ⟨h1,h2⟩:=hI.lag j o hjd LA Tk hjo;obtain ⟨h3,h4⟩:=h2 g w (.refl g) hI.Mq a (hI.reads' hjo Wq);split
         . rename_i hw;obtain ⟨x,h5,h6⟩:=h3 hw (FW r).round;refine ⟨fun _ _=>trivial,?_⟩;rw [h5];exact ih (f+1) g d _ _ w _ hg h (hI.Bw hD hjo hjd Tk Wq h1 h6) Kr hlen' Ms
         . rename_i hw;have hw:Region.wanted o (yielded ops a.tmps)=false:=by simpa using hw
           exact ⟨fun _ _=>trivial,ih (f+1) g d _ _ w _ hg h (hI.Bw hD hjo hjd Tk Wq h1 (h4 hw)) Kr hlen' Ms⟩
     . have Mr:j∈Jv d.done (List.range ops.size):=eH.2 ⟨List.mem_range.2 hjs,hjd⟩;unfold dx at h;split at h
       . rename_i hnil;rw [hnil] at Mr;cases Mr
       rename_i l hl0;split at h
       . -- a quiet operation ahead
         rename_i i oi x hfq;obtain ⟨h1,h2,h3,hbar,h4⟩:=dL hfq;have hid:i ∉ d.done:=(eH.1 h1).2;cases x with
         | skip=>
           simp only at h;split at h
           . rename_i s' hset;obtain ⟨_,e2,_,_,_,e6,e7⟩:=cB hset;rw [ZY] at h;exact ihf _ _ hg h (hI.ahead hG hD h2 hid h3 hbar hset h4 fun t ht=>⟨by rw [e2];exact e6 t ht,by rw [e7 t,if_pos ht]⟩) Kr
           . exact h.elim
         | val v ps=>
           simp only at h;split at h
           . rename_i s' hset;obtain ⟨_,e2,_,_,_,e6,e7⟩:=cB hset;obtain ⟨hp,hk⟩:=qB h;rw [ZY] at hk;exact ihf _ _ hg hk (hI.ahead hG hD h2 hid h3 hbar hset h4 ⟨hp,fun t ht=>⟨by rw [e2];exact e6 t ht,v,by rw [e7 t,if_pos ht],fun _ _ _ hx=>hx⟩⟩) Kr
           . exact h.elim
         | dec c=>
           simp only at h;obtain ⟨hp,hk⟩:=qB h;obtain ⟨nn,hnn⟩:=hp (.sort false c) (by simp);obtain ⟨hk1,hk2⟩:=hk
           have hdec:∀b:Bool,b=decide (nn≠0)->dK A I cx.P ops g { d with dec:=(c,b)::d.dec } listed a w:=fun b hb=>
             ⟨hI.sr,hI.size,hI.sub,hI.qs,hI.lag,hI.xS,hI.dz,hI.fidx,hI.Q6,hI.bar,fun c' b' hc'=>by
               simp only [Fj] at hc';split at hc'
               . rename_i ec;simp at hc';subst hc';subst ec;exact ⟨nn,hnn,hb⟩
               . exact hI.dec c' b' hc',hI.dcl,hI.lcl⟩
           by_cases hz:nn=0
           . subst hz;exact ihf _ _ hg (hk2 hnn) (hdec false (by simp)) Kr
           . exact ihf _ _ hg (hk1 nn hnn hz) (hdec true (by simp [hz])) Kr
       . -- an operation that does more
         have hjr:nY o d.done=true:=dH.2 fun ed he hb=>hI.sub _ (Wq ed he hb);split at h
         . exact h.elim
         split at h
         . -- a block ahead
           rename_i i oi v x hff;obtain ⟨h1,h2,h3,hbar,h4⟩:=dI hff;obtain ⟨h5,o2,ho2,qyB⟩:=nK h1;rw [h2] at ho2;cases ho2;have hid:i ∉ d.done:=(eH.1 h5).2;split at h
           . rename_i s' hset;rw [ZY] at h;refine ihf (g.lay none) _ (hg.trans (g.qH none)) h (hI.float hD h2 hid qyB hbar hset (Fy hI.dec h3 h4)) fun k b y hm=>?_;rcases List.mem_cons.1 hm with e | hm
             . cases e;have h6:=hI.sr.nb;simp only at h6;rw [<-h6];exact hg.nb
             . exact Kr k b y hm
           . exact h.elim
         rename_i hffn
         have hb:=Br h j (by
           first
             | exact rE Mr hjo hjr
             | exact (rE (hl0 ▸ Mr) hjo hjr))
         rw [hjo] at hb;simp only at hb;split at hb
         rotate_left
         . exact hb.elim
         rename_i hwant;have hrd:=hI.reads' hjo Wq
         have hwt:Region.wanted o (yielded ops a.tmps)=true:=by
           unfold Qj at hwant;split at hwant
           . rename_i hw;exact (vB hI.dec hrd).1 hw
           . cases hwant
         rw [if_pos hwt]
         have hbl:∀{i:Nat},(before ops j).testBit i=true->listed.getD i false=true:=fun {i} hb=>by
           obtain ⟨o',ho',ed,h5,h6,h7⟩:=pQ hb;rw [hjo] at ho';cases ho';have h8:=Wq ed h5 h6;rcases h7 with rfl | h7
           . exact h8
           . exact hI.lcl _ h8 _ h7
         have qyS:g.nb=d.s.nb:=hI.sr.nb;have hjf:∀{i:Nat} {b:Nat} {x:Blk},(i,b,x)∈d.fl->i≠j:=fun {i b x} hm e=>hjd (e ▸ (hI.xS i b x hm).1)
         have hHM:∀b y,get (wH (fun i=>listed.getD i false) (wW (before ops j) d.fl)) b=some y->get (yw (before ops j) d.fl++d.s.mem) b=none:=fun b y hb=>by
           obtain ⟨i,h1,h2⟩:=(jm (kY hI.dz)).1 hb;obtain ⟨h3,h4⟩:=jr.1 h1;rw [z8,bY];split
           . rename_i z hz;obtain ⟨i',h5,h6⟩:=(jm hI.dz).1 hz;have:=bV hI.dz h3 h5 rfl;cases this;simp only at h4;rw [h4] at h6;cases h6
           . exact (hI.xS i b y h3).2.2.2
         have hMH:qX A I cx.P g ((yw (before ops j) d.fl++d.s.mem)++wH (fun i=>listed.getD i false) (wW (before ops j) d.fl)) w:=hI.sr.m.sub fun c y hc=>by
           rw [z8,z8] at hc;simp only;rw [z8];split at hc
           . rename_i z hz;cases hc;split at hz
             . rename_i u hu;cases hz;rw [bY] at hu;obtain ⟨i,h1,h2⟩:=(jm hI.dz).1 hu;rw [(jm hI.dz).2 ⟨i,h1,hbl h2⟩]
             . split
               . rename_i u hu;obtain ⟨i,h1,h2⟩:=(jm hI.dz).1 hu;rw [(hI.xS i c u h1).2.2.2] at hz;cases hz
               . exact hz
           . obtain ⟨i,h1,h2⟩:=(jm (kY hI.dz)).1 hc;rw [(jm hI.dz).2 ⟨i,(jr.1 h1).1,h2⟩]
         have hsM:qW (aQ I (yw (before ops j) d.fl++d.s.mem) g w) I cx.P (l6 ops d.done listed) g { d.s with mem:=yw (before ops j) d.fl++d.s.mem } a w:=
           ⟨hMH.part,hI.sr.t,hI.sr.nt,hI.sr.d,hI.sr.nv,hI.sr.nb⟩
         refine Oper.wpIn_mono (fun a' w' hn=>?_) (Oper.BF (R6 hE (hG.part hMH) hsM (fun t ht=>hI.reads hjo Wq t (List.mem_append_right _ (JG ht))) hb));obtain ⟨⟨g',s1,hle,hs1,hk⟩,xv,hxv⟩:=hn;dsimp only at hk;split at hk
         . exact hk.elim
         rename_i hkeys;have hkeys:Xu g.nb (yw (before ops j) d.fl++d.s.mem) s1.mem=true:=by rw [qyS];simpa using hkeys
         split at hk
         . exact hk.elim
         rename_i tsn hfr;have hfs:=GJ hfr;split at hk
         rotate_left
         . exact hk.elim
         rename_i ps hrc;obtain ⟨hp,hk⟩:=qB hk;rw [ZY] at hk;have hwf:=hI.sr.m.wf;have IG:=hI.dec.le hle;have hmf:=hMH.frame hHM hle hs1.m hkeys
         have hfree:∀{b:Nat},b<g.nb->get (yw (before ops j) d.fl++d.s.mem) b=none->get s1.mem b=none:=fun {b} hb hn=>by
           cases hg:get s1.mem b with
           | none=>rfl
           | some z=>
             have:=List.all_eq_true.1 (J8 hkeys) _ (xM hg).2;simp only at this;rw [if_pos hb,hn] at this;cases this
         have qjp:∀{i b:Nat} {x:Blk},(i,b,x)∈wW (before ops j) d.fl->get s1.mem b=none:=fun {i b x} hm=>by
           obtain ⟨h3,h4⟩:=jr.1 hm;obtain ⟨_,_,h5,h6⟩:=hI.xS i b x h3;refine hfree (by omega) ?_;rw [z8,bY];split
           . rename_i z hz;obtain ⟨i',h7,h8⟩:=(jm hI.dz).1 hz;have:=bV hI.dz h3 h7 rfl;cases this;simp only at h4;rw [h4] at h8;cases h8
           . exact h6
         have hsel:wH (fun i=>(listed.setIfInBounds j true).getD i false) (wW (before ops j) d.fl)=wH (fun i=>listed.getD i false) (wW (before ops j) d.fl):=
           tu fun i b x hm=>by rw [zP XV,if_neg (hjf (jr.1 hm).1)]
         have hsz:a'.tmps.size=a.tmps.size:=by rw [hxv];cases o.dst <;> simp [Act.put]
         have qyY:qW A I cx.P (l6 ops (d.done.add j) (listed.setIfInBounds j true)) g' { s1 with tmps:=tsn,mem:=wH (fun i=>(listed.setIfInBounds j true).getD i false) (wW (before ops j) d.fl)++s1.mem } a' w':=by
           refine ⟨hmf.sub fun c y hc=>?_,fun t v hv ht=>?_,hs1.nt,hs1.d,hs1.nv,hs1.nb⟩
           . simp only at hc;rw [hsel,z8] at hc;rw [z8];split at hc
             . rename_i z hz;cases hc;obtain ⟨i,h1,h2⟩:=(jm (kY hI.dz)).1 hz;rw [qjp h1];exact hz
             . rw [hc]
           . have hv:get tsn t=some v:=hv;by_cases hd:o.dst=some t
             . rw [(hfs t).1 hd] at hv;refine hs1.t t v hv ?_;rintro ⟨i,oi,h1,h2,h3,h4⟩;have:=hD.inj hjo h3 hd h4;subst this;exact hjd h1
             . rw [(hfs t).2 hd] at hv
               obtain ⟨y,h1,h2⟩:=hI.sr.t t v hv (by
                 rintro ⟨i,oi,h1,h2,h3,h4⟩;have hij:i≠j:=fun e=>hjd (e ▸ h1);exact ht ⟨i,oi,Ns.zN.2 (.inr h1),by rw [zP XV,if_neg hij];exact h2,h3,h4⟩)
               refine ⟨y,?_,h2.le hle hwf⟩;rw [hxv];cases hdd:o.dst with
               | none=>simpa [Act.put] using h1
               | some t'=>
                 have:t'≠t:=fun e=>hd (by rw [hdd,e]);simp [Act.put,Array.getElem?_setIfInBounds_ne this,h1]
         have hsp:=bn hrc hp hs1.nv hs1.nb hs1.m.wf;refine ih f g' { d with s:={ s1 with tmps:=tsn },done:=d.done.add j,fl:=wW (before ops j) d.fl } _ a' w' _ (hg.trans hle) hk ⟨qyY,by simpa using hI.size,?_,?_,?_,?_,kY hI.dz,kY hI.fidx,?_,?_,IG,?_,hI.eO hjo Wq⟩ (fun i b x hm=>Kr i b x (jr.1 hm).1) hlen' Ms
         . intro i hi;rw [zP XV] at hi;split at hi
           . rename_i e;subst e;exact Ns.zN.2 (.inl rfl)
           . exact Ns.zN.2 (.inr (hI.sub i hi))
         . intro i hi hl hf;rw [zP XV] at hl;split at hl
           . cases hl
           . rename_i hij;rcases Ns.zN.1 hi with e | hi
             . exact absurd e hij
             . refine hI.qs i hi hl fun b x hm=>?_;cases hb:(before ops j).testBit i with
               | true=>have:=hbl hb;rw [this] at hl;cases hl
               | false=>exact hf b x (jr.2 ⟨hm,hb⟩)
         . intro i oi hi hl hf hoi;rw [zP XV] at hl;split at hl
           . cases hl
           rename_i hij;rcases Ns.zN.1 hi with e | hi
           . exact absurd e hij
           have hnb:(before ops j).testBit i=false:=by
             cases hb:(before ops j).testBit i with
             | false=>rfl
             | true=>have:=hbl hb;rw [this] at hl;cases hl
           have hnf:∀b x,(i,b,x) ∉ d.fl:=fun b x hm=>hf b x (jr.2 ⟨hm,hnb⟩);obtain ⟨out,h9,h10⟩:=hsp i (hI.qs i hi hl hnf) hnb oi hoi;exact tO.Sw hG (d:={ d with s:={ s1 with tmps:=tsn } }) rfl IG h9 (fun _ _=>rfl) h10
         . intro i b x hm;obtain ⟨h3,h4⟩:=jr.1 hm;obtain ⟨h5,h6,h7,_⟩:=hI.xS i b x h3;refine ⟨Ns.zN.2 (.inr h5),h6,?_,qjp hm⟩;have:=hle.nb;have h8:g'.nb=s1.nb:=hs1.nb;show b<s1.nb;omega
         . intro i b x oi hm hl hoi;obtain ⟨h3,h4⟩:=jr.1 hm;have hij:=hjf h3;rw [zP XV,if_neg hij] at hl;obtain ⟨h5,vv,h6,h7⟩:=hI.Q6 i b x oi h3 hl hoi;obtain ⟨hid,_,hb,_⟩:=hI.xS i b x h3
           have hst:∀t∈readsOf ops oi,get tsn t=get d.s.tmps t:=fun t ht=>(hfs t).2 fun e=>by
             rcases hD.read i oi j o t hoi hjo e ht with h8 | h8 | h8
             . exact hjd (hI.dcl i hid j h8)
             . exact hij h8
             . have:=hbl h8;rw [this] at hl;cases hl
           have hdst:∀t,oi.dst=some t->get tsn t=get d.s.tmps t:=fun t ht=>(hfs t).2 fun e=>hij (hD.inj hoi hjo ht e);refine ⟨by rw [hle.φ b (by omega)];exact h5,vv,(h6.ext (hle.ext hwf)).tmps hst,fun t ht=>⟨?_,by show get tsn t=_;rw [hdst t ht];exact (h7 t ht).2⟩⟩;have h8:a'.tmps.size=s1.nt:=hs1.nt;have h9:a.tmps.size=d.s.nt:=hI.sr.nt;show t<s1.nt;rw [<-h8,hsz,h9];exact (h7 t ht).1
         . intro i hi hl;rw [zP XV] at hl;split at hl
           . cases hl
           rename_i hij;rcases Ns.zN.1 hi with e | hi
           . exact absurd e hij
           . exact hI.bar i hi hl
         . intro i hi q hq;have:=(hI.dcl.add hjo (dH.1 hjr)) i (Ns.zN.1 hi) q hq;exact Ns.zN.2 this
end Go.Sx
