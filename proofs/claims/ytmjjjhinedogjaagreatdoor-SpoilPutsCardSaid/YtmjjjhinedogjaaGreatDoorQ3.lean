/-
  Arguments of plain types, opened: their cells one after another, as a symbolic state speaks of them. Conditions: none.
-/
import Derived.Test.YtmjjjhinedogjaaGreatDoorC1
import Derived.Test.YtmjjjhinedogjaaGreatDoorA5
import Derived.OpenShut
import Derived.Deep.Slices
import Derived.WideShapes
import Derived.Test.YtmjjjhinedogjaaGreatDoorProg
import Derived.KernelRfl
import Derived.ChangeMaps5
noncomputable section
namespace Go.Sp
open Go Go.Sx Go.Proofs Go.WideShapes
def XF (P:Program) (F:TypeId->Option (List TypeId)):Nat->List Field->Option (List TypeId)
 | _,[]=>some []
 | k,f::fs=>match Nat.beq f.offset k with
   | true=>match F f.type with
     | some l=>match Nat.beq l.length (P.cellsOf f.type) with
       | true=>match XF P F (k+l.length) fs with
         | some m=>some (l++m)
         | none=>none
       | false=>none
     | none=>none
   | false=>none
def CV (l:List TypeId):Nat->List TypeId
 | 0=>[]
 | n+1=>l++CV l n
def flat (P:Program):Nat->TypeId->Option (List TypeId)
 | 0,_=>none
 | n+1,t=>match P.underlying t with
   | some .bool=>some [t]
   | some (.int _)=>some [t]
   | some (.slice _)=>some [t]
   | some (.struct fs)=>match XF P (flat P n) 0 fs.toList with
     | some l=>match Nat.beq l.length (P.cellsOf t) with
       | true=>some l
       | false=>none
     | none=>none
   | some (.array m e)=>match flat P n e with
     | some l=>match Nat.beq l.length (P.cellsOf e) && Nat.beq (m*l.length) (P.cellsOf t) with
       | true=>some (CV l m)
       | false=>none
     | none=>none
   | _=>none
def nk {α β:Type} (R:α->β->Prop):List α->List β->Prop
 | [],[]=>True
 | a::l,b::m=>R a b/\nk R l m
 | _,_=>False
theorem nk.append {α β:Type} {R:α->β->Prop}:∀{l l':List α} {m m':List β},nk R l m->nk R l' m'->nk R (l++l') (m++m')
 | [],_,[],_,_,h=>h
 | _::_,_,_::_,_,h,h'=>⟨h.1,nk.append h.2 h'⟩
 | [],_,_::_,_,h,_=>h.elim
 | _::_,_,[],_,h,_=>h.elim
theorem nk.length {α β:Type} {R:α->β->Prop}:∀{l:List α} {m:List β},nk R l m->m.length=l.length
 | [],[],_=>rfl
 | _::_,_::_,h=>by simp [nk.length h.2]
 | [],_::_,h=>h.elim
 | _::_,[],h=>h.elim
theorem nk.get {α β:Type} {R:α->β->Prop}:∀{l:List α} {m:List β},nk R l m->∀{i:Nat} {a:α},l[i]?=some a->∃b,m[i]?=some b/\R a b
 | [],_,_,i,a,h=>by simp at h
 | x::_,y::_,h,0,a,hi=>by simp at hi;subst hi;exact ⟨y,rfl,h.1⟩
 | _::_,_::_,h,i+1,a,hi=>by simp at hi;obtain ⟨b,h1,h2⟩:=nk.get h.2 hi;exact ⟨b,by simpa using h1,h2⟩
 | _::_,[],h,_,_,_=>h.elim
section
variable {H:Type} {enc:TypeId × Value->H} {P:Program} {w:World} {base:Nat} {spare:Nat->Bool} {held:Bool}
def mO (enc:TypeId × Value->H) (P:Program) (w:World) (base:Nat) (spare:Nat->Bool) (held:Bool) (l:TypeId) (c:Value):Prop:=∃m z,DataW.trod enc P w base spare held m l [c]=some z
theorem Q7 {F:TypeId->Option (List TypeId)} {cs:List Value} (hF:∀t l,F t=some l->∀fuel cs x,DataW.trod enc P w base spare held fuel t cs=some x->nk (mO enc P w base spare held) l cs) :
   ∀(fs:List Field) (k:Nat) (ls:List TypeId),XF P F k fs=some ls->(∀f∈fs,∃fuel x,DataW.trod enc P w base spare held fuel f.type ((cs.drop f.offset).take (P.cellsOf f.type))=some x)->
     nk (mO enc P w base spare held) ls ((cs.drop k).take ls.length)
 | [],k,ls,h,_=>by cases h;simp [nk]
 | f::fs,k,ls,h,hx=>by
   simp only [XF] at h;split at h
   . rename_i hk;split at h
     . rename_i l hl;split at h
       . rename_i hc;split at h
         . rename_i m hm;cases h;have hk:=Nat.eq_of_beq_eq_true hk;have hc:=Nat.eq_of_beq_eq_true hc;obtain ⟨fuel,x,hx0⟩:=hx f (List.Mem.head _);have a:=hF _ _ hl _ _ _ hx0;rw [hk,<-hc] at a;have b:=Q7 hF fs (k+l.length) m hm fun g hg=>hx g (List.Mem.tail _ hg)
           have e:(cs.drop k).take (l++m).length=(cs.drop k).take l.length++(cs.drop (k+l.length)).take m.length:=by
             rw [List.length_append,List.take_add,List.drop_drop]
           rw [e];exact a.append b
         . cases h
       . cases h
     . cases h
   . cases h
theorem WJ {e:TypeId} {cs:List Value} {l:List TypeId} (hl:l.length=P.cellsOf e):∀(n k:Nat),(∀i,i<n->nk (mO enc P w base spare held) l ((cs.drop ((k+i)*l.length)).take l.length))->
   nk (mO enc P w base spare held) (CV l n) ((cs.drop (k*l.length)).take (n*l.length))
 | 0,k,_=>by simp [CV,nk]
 | n+1,k,h=>by
   have b:=WJ hl n (k+1) fun i hi=>by
     have:=h (i+1) (by omega)
     rwa [show k+(i+1)=k+1+i by omega] at this
   have a:=h 0 (by omega)
   have e:(cs.drop (k*l.length)).take ((n+1)*l.length)=(cs.drop ((k+0)*l.length)).take l.length++(cs.drop ((k+1)*l.length)).take (n*l.length):=by
     rw [show (n+1)*l.length=l.length+n*l.length by rw [Nat.add_mul];omega,List.take_add,List.drop_drop,show (k+1)*l.length=k*l.length+l.length by rw [Nat.add_mul];omega,Nat.add_zero]
   rw [e];exact a.append b
theorem lF:∀(n:Nat) {t:TypeId} {ls:List TypeId},flat P n t=some ls->∀{fuel:Nat} {cs:List Value} {x:DataW H × List MemPlace},DataW.trod enc P w base spare held fuel t cs=some x->nk (mO enc P w base spare held) ls cs
 | 0,_,_,h,_,_,_,_=>by cases h
 | n+1,t,ls,h,fuel,cs,x,hx=>by
   simp only [flat] at h;split at h
   . rename_i ht;cases h;obtain ⟨b,rfl,_⟩:=DataW.trod_bool ht hx;exact ⟨⟨fuel,x,hx⟩,trivial⟩
   . rename_i k ht;cases h;obtain ⟨b,rfl,_⟩:=DataW.trod_int ht hx;exact ⟨⟨fuel,x,hx⟩,trivial⟩
   . rename_i e ht;cases h;rcases DataW.trod_slice ht hx with ⟨rfl,_⟩ | ⟨a,len,cap,_,_,_,_,rfl,_⟩
     . exact ⟨⟨fuel,x,hx⟩,trivial⟩
     . exact ⟨⟨fuel,x,hx⟩,trivial⟩
   . rename_i fs ht;split at h
     . rename_i l hl;split at h
       . rename_i hc;cases h;have hc:=Nat.eq_of_beq_eq_true hc;obtain ⟨xs,m,rfl,_,hlen,hsz,hf⟩:=DataW.trod_struct ht hx
         have:=Q7 (enc:=enc) (w:=w) (base:=base) (spare:=spare) (held:=held) (cs:=cs) (fun t l h fuel cs x hx=>lF n h hx) fs.toList 0 ls hl fun f hf0=>by
           obtain ⟨i,hi⟩:=List.getElem?_of_mem hf0;have hi:fs[i]?=some f:=by simpa using hi
           have hlt:i<xs.length:=by rw [hsz];exact (Array.getElem?_eq_some_iff.1 hi).1
           have:=hf i f hi;rw [List.getElem?_eq_getElem hlt] at this;exact ⟨_,_,this⟩
         rwa [List.drop_zero,List.take_of_length_le (by omega)] at this
       . cases h
     . cases h
   . rename_i m e ht;split at h
     . rename_i l hl;split at h
       . rename_i hc;cases h;rw [Bool.and_eq_true] at hc;have h1:=Nat.eq_of_beq_eq_true hc.1;have h2:=Nat.eq_of_beq_eq_true hc.2;obtain ⟨xs,m',rfl,_,hlen,hsz,hf⟩:=DataW.trod_array ht hx
         have:=WJ (enc:=enc) (w:=w) (base:=base) (spare:=spare) (held:=held) (cs:=cs) h1 m 0 fun i hi=>by
           have hlt:i<xs.length:=by omega
           have:=hf i hi;rw [List.getElem?_eq_getElem hlt,<-h1] at this;rw [Nat.zero_add];exact lF n hl this
         rwa [Nat.zero_mul,List.drop_zero,List.take_of_length_le (by omega)] at this
       . cases h
     . cases h
   . cases h
end
def fzW (w:World) (o:Nat):Option (Array Value):=match w.heap[o]? with
 | some (.cells c _ _)=>some c
 | _=>none
def gW (w:World):G:={ env:=[],φ:=fun _=>none,nb:=0,fz:=fzW w }
theorem Ux {w:World} {b i:Nat} {v:Value} (h:w.cell? ⟨b,i,none⟩=some v):∃arr,fzW w b=some arr/\arr[i]?=some v:=by
 unfold World.cell? at h;unfold fzW;split at h
 . rename_i c T fr hb;simp only [Option.isSome_none] at h;exact ⟨c,by simp only at hb;rw [hb],by simpa using h⟩
 . cases h
theorem XB {w:World} {b:Nat} {arr:Array Value} (h:fzW w b=some arr):∃T fr,w.heap[b]?=some (.cells arr T fr):=by
 unfold fzW at h;split at h
 . rename_i c T fr hb;cases h;exact ⟨T,fr,hb⟩
 . cases h
def ER:SK->Int->Prop
 | .int k,n=>(Lit.int k n).wf=true
 | .bool,n=>n=0\/n=1
 | .str,_=>True
def XH:CK->Int->Prop
 | .int k,n=>(Lit.int k n).wf=true
 | .bool,n=>n=0\/n=1
 | .lst ks,n=>∃rows:Nat,(gy n).length=rows*ks.length/\∀(r j:Nat) (k:SK),r<rows->ks[j]?=some k->ER k ((gy n).getD (r*ks.length+j) 0)
 | _,_=>True
def skB (P:Program) (t:TypeId):SK->Bool
 | .int k=>match P.underlying t with
   | some (.int k')=>decide (k'=k)
   | _=>false
 | .bool=>match P.underlying t with
   | some .bool=>true
   | _=>false
 | .str=>false
def mI {α β:Type} (f:α->β->Bool):List α->List β->Bool
 | [],[]=>true
 | a::l,b::m=>f a b && mI f l m
 | _,_=>false
theorem Yr {α β:Type} {f:α->β->Bool}:∀{l:List α} {m:List β},mI f l m=true->l.length=m.length/\∀{i:Nat} {b:β},m[i]?=some b->∃a,l[i]?=some a/\f a b=true
 | [],[],_=>⟨rfl,fun h=>by simp at h⟩
 | a::l,b::m,h=>by
   simp only [mI,Bool.and_eq_true] at h;obtain ⟨h1,h2⟩:=Yr h.2;refine ⟨by simp [h1],fun {i} {c} hi=>?_⟩;cases i with
   | zero=>simp at hi;subst hi;exact ⟨a,rfl,h.1⟩
   | succ i=>simp at hi;obtain ⟨x,h3,h4⟩:=h2 hi;exact ⟨x,by simpa using h3,h4⟩
 | [],_::_,h=>by simp [mI] at h
 | _::_,[],h=>by simp [mI] at h
def LW {β:Type} (P:Program) (f:TypeId->β->Bool) (t:TypeId) (ks:List β):Bool:=match P.underlying t with
 | some (.slice e)=>match flat P 9 e with
   | some es=>Nat.beq es.length (P.cellsOf e) && Nat.ble 1 es.length && mI f es ks
   | none=>false
 | _=>false
def SN (P:Program) (t:TypeId):CK->Bool
 | .int k=>skB P t (.int k)
 | .bool=>skB P t .bool
 | .lst ks=>LW P (skB P) t ks
 | _=>false
def lyB (P:Program) (t:TypeId):Ly->Bool
 | .c k=>SN P t k
 | .s ks=>LW P (SN P) t ks
section
variable {H:Type} {enc:TypeId × Value->H} {P:Program} {w:World} {base:Nat} {held:Bool}
theorem YN {spare:Nat->Bool} {t:TypeId} {k:SK} {c:Value} (hk:skB P t k=true) (h:mO enc P w base spare held t c):∃n,c=k.val n/\ER k n:=by
 obtain ⟨m,z,hz⟩:=h;cases k with
 | int k=>
   simp only [skB] at hk;split at hk
   . rename_i k' ht;obtain rfl:=of_decide_eq_true hk;obtain ⟨n,e,_,hw⟩:=DataW.trod_int ht hz;simp at e;exact ⟨n,e,hw⟩
   . cases hk
 | bool=>
   simp only [skB] at hk;split at hk
   . rename_i ht;obtain ⟨b,e,_⟩:=DataW.trod_bool ht hz;simp at e;cases b with
     | true=>exact ⟨1,e,.inr rfl⟩
     | false=>exact ⟨0,e,.inl rfl⟩
   . cases hk
 | str=>cases hk
theorem Dy {t e:TypeId} {n:Nat} {es:List TypeId} {c:Value} (ht:P.underlying t=some (.slice e)) (hf:flat P n e=some es) (hc:es.length=P.cellsOf e) (hpos:1<=es.length)
   (h:mO enc P w base (fun _=>true) held t c) :
   (∃a,c=.slice a 0 0)\/∃(b off len cap:Nat) (arr:Array Value),c=.slice (some ⟨b,off,none⟩) len cap/\len<=cap/\fzW w b=some arr/\
     ∀r,r<cap->∀(j:Nat) (l:TypeId),es[j]?=some l->∃x,arr[off+r*es.length+j]?=some x/\mO enc P w base (fun _=>true) held l x:=by
 obtain ⟨m,z,hz⟩:=h;rcases Deep.open_slice ht hz with ⟨h0,_⟩ | ⟨a,len,cap,m',n',D,Pl,h0,_,hl,_,hm,_,hx⟩
 . simp at h0;exact .inl ⟨none,h0⟩
 . simp at h0;subst h0;simp only [if_true] at hm;subst hm;rcases Nat.eq_zero_or_pos m' with e0 | hcap
   . subst e0;obtain rfl:len=0:=by omega
     exact .inl ⟨some a,rfl⟩
   . right;obtain ⟨blk,off,spot⟩:=a
     have hs:spot=none:=by
       obtain ⟨cs',h1,h2⟩:=hx 0 hcap;obtain ⟨_,hlen,hcell⟩:=World.cells?_some h1;have h3:=hcell 0 (by omega);obtain ⟨v,hv⟩:∃v,cs'[0]?=some v:=⟨_,List.getElem?_eq_getElem (by omega)⟩;rw [hv,Nat.zero_mul] at h3;have:=World.cell?_spot h3;simpa [Addr.add] using this
     subst hs
     have each:∀r,r<m'->∀(j:Nat) (l:TypeId),es[j]?=some l->∃arr x,fzW w blk=some arr/\arr[off+r*es.length+j]?=some x/\mO enc P w base (fun _=>true) held l x:=by
       intro r hr j l hj;obtain ⟨cs',h1,h2⟩:=hx r hr;obtain ⟨_,hlen,hcell⟩:=World.cells?_some h1;obtain ⟨x,h3,h4⟩:=(lF _ hf h2).get hj;have hj':j<P.cellsOf e:=by rw [<-hc];exact (List.getElem?_eq_some_iff.1 hj).1
       have h5:=hcell j hj';rw [h3,add_plain,add_plain,<-hc] at h5;obtain ⟨arr,h6,h7⟩:=Ux h5;exact ⟨arr,x,h6,h7,h4⟩
     obtain ⟨l0,hl0⟩:∃l,es[0]?=some l:=⟨_,List.getElem?_eq_getElem (by omega)⟩;obtain ⟨arr,_,ha,_⟩:=each 0 hcap 0 l0 hl0;refine ⟨blk,off,len,m',arr,rfl,hl,ha,fun r hr j l hj=>?_⟩;obtain ⟨arr',x,h1,h2,h3⟩:=each r hr j l hj;rw [ha] at h1;cases h1;exact ⟨x,h2,h3⟩
theorem V7 {β:Type} {f:TypeId->β->Bool} {t:TypeId} {ks:List β} {c:Value} {R:β->Int->Value->Prop} (hk:LW P f t ks=true) (hR:∀l k x,f l k=true->mO enc P w base (fun _=>true) held l x->∃n,R k n x)
   (h:mO enc P w base (fun _=>true) held t c) :
   (∃a,c=.slice a 0 0)\/∃(b off len cap:Nat) (arr:Array Value) (F:Nat->Nat->Int),c=.slice (some ⟨b,off,none⟩) len cap/\len<=cap/\fzW w b=some arr/\
     ∀(r j:Nat) (k:β),r<len->ks[j]?=some k->∃x,arr[off+r*ks.length+j]?=some x/\R k (F r j) x:=by
 unfold LW at hk;split at hk
 . rename_i e ht;split at hk
   . rename_i es hf;simp only [Bool.and_eq_true] at hk;have hc:=Nat.eq_of_beq_eq_true hk.1.1;have hpos:=Nat.le_of_ble_eq_true hk.1.2;obtain ⟨hlen,hg⟩:=Yr hk.2;rcases Dy ht hf hc hpos h with h0 | ⟨b,off,len,cap,arr,h1,h2,h3,h4⟩
     . exact .inl h0
     . have each:∀r j:Nat,∃q:Int,∀k:β,r<len->ks[j]?=some k->∃x,arr[off+r*ks.length+j]?=some x/\R k q x:=by
         intro r j;by_cases hr:r<len
         . rcases hj:ks[j]? with _ | k
           . exact ⟨0,fun k _ h=>by cases h⟩
           . obtain ⟨l,g1,g2⟩:=hg hj;obtain ⟨x,g3,g4⟩:=h4 r (by omega) j l g1;obtain ⟨n,g5⟩:=hR l k x g2 g4;exact ⟨n,fun k' _ h=>by cases h;exact ⟨x,by rw [<-hlen];exact g3,g5⟩⟩
         . exact ⟨0,fun k h=>absurd h hr⟩
       exact .inr ⟨b,off,len,cap,arr,fun r j=>Classical.choose (each r j),h1,h2,h3,fun r j k hr hj=>Classical.choose_spec (each r j) k hr hj⟩
   . cases hk
 . cases hk
theorem WL {t:TypeId} {k:CK} {c:Value} (hk:SN P t k=true) (h:mO enc P w base (fun _=>true) held t c):∃n,k.rel (gW w) n c/\XH k n:=by
 cases k with
 | int k=>obtain ⟨n,h1,h2⟩:=YN (k:=.int k) hk h;exact ⟨n,h1,h2⟩
 | bool=>obtain ⟨n,h1,h2⟩:=YN (k:=.bool) hk h;exact ⟨n,h1,h2⟩
 | str=>cases hk
 | clo cs=>cases hk
 | lst ks=>
   rcases V7 (R:=fun k n x=>x=k.val n/\ER k n) hk (fun l k x=>YN) h with ⟨a,rfl⟩ | ⟨b,off,len,cap,arr,F,rfl,hl,hz,hx⟩
   . exact ⟨0,.inl ⟨⟨a,rfl⟩,rfl⟩,0,by simp [gy,QU],fun r j k hr=>absurd hr (Nat.not_lt_zero _)⟩
   . let L:List Int:=(List.range (len*ks.length)).map fun i=>F (i / ks.length) (i % ks.length)
     have hL:∀r j:Nat,r<len->j<ks.length->L.getD (r*ks.length+j) 0=F r j:=by
       intro r j hr hj
       have h1:r*ks.length+j<len*ks.length:=by
         calc r*ks.length+j<r*ks.length+ks.length:=by omega
           _=(r+1)*ks.length:=by rw [Nat.add_mul];omega
           _<=len*ks.length:=Nat.mul_le_mul_right _ hr
       have h2:(r*ks.length+j) / ks.length=r:=by
         rw [Nat.add_comm,Nat.add_mul_div_right _ _ (by omega),Nat.div_eq_of_lt hj,Nat.zero_add]
       have h3:(r*ks.length+j) % ks.length=j:=by
         rw [Nat.add_comm,Nat.add_mul_mod_self_right,Nat.mod_eq_of_lt hj]
       simp only [L,List.getD,List.getElem?_map,List.getElem?_range h1,Option.map_some,Option.getD_some,h2,h3]
     have hn:L.length=len*ks.length:=by simp [L]
     refine ⟨LY L,.inr ⟨b,off,len,cap,arr,rfl,hz,hl,by rw [xw];exact hn,fun r j k hr hj=>?_⟩,len,by rw [xw];exact hn,fun r j k hr hj=>?_⟩
     . rw [xw,hL r j hr (List.getElem?_eq_some_iff.1 hj).1];obtain ⟨x,h1,h2,_⟩:=hx r j k hr hj;rw [h1,h2]
     . rw [xw,hL r j hr (List.getElem?_eq_some_iff.1 hj).1];obtain ⟨x,_,_,h3⟩:=hx r j k hr hj;exact h3
end
def qjO (w:World) (ks:List CK) (c:Value) (n:Int) (f:Int->Nat->Int):Prop:=
 ((∃a,c=.slice a 0 0)/\n=0)\/∃(b off len cap:Nat) (arr:Array Value),c=.slice (some ⟨b,off,none⟩) len cap/\n=(len:Int)/\len<=cap/\fzW w b=some arr/\
   ∀(r j:Nat) (k:CK),r<len->ks[j]?=some k->k.at (gW w) (f r j) arr[off+r*ks.length+j]?
def Tm (ks:List CK) (n:Int) (f:Int->Nat->Int):Prop:=0<=n/\∀(r:Int) (j:Nat) (k:CK),0<=r->r<n->ks[j]?=some k->XH k (f r j)
def fM (w:World):List Ly->List Value->List D->Prop
 | [],[],[]=>True
 | .c k::l,c::cs,.i n::ds=>k.rel (gW w) n c/\XH k n/\fM w l cs ds
 | .s ks::l,c::cs,.t f :: .i n::ds=>qjO w ks c n f/\Tm ks n f/\fM w l cs ds
 | _,_,_=>False
theorem Mv {H:Type} {enc:TypeId × Value->H} {P:Program} {w:World} {base:Nat} {held:Bool}:∀{ls:List TypeId} {ly:List Ly} {cs:List Value},mI (lyB P) ls ly=true->nk (mO enc P w base (fun _=>true) held) ls cs->∃ds,fM w ly cs ds
 | [],[],[],_,_=>⟨[],trivial⟩
 | t::ls,y::ly,c::cs,h,h'=>by
   simp only [mI,Bool.and_eq_true] at h;obtain ⟨ds,hd⟩:=Mv h.2 h'.2;cases y with
   | c k=>obtain ⟨n,h1,h2⟩:=WL h.1 h'.1;exact ⟨.i n::ds,h1,h2,hd⟩
   | s ks=>
     rcases V7 (R:=fun k n x=>k.rel (gW w) n x/\XH k n) h.1 (fun l k x=>WL) h'.1 with ⟨a,rfl⟩ | ⟨b,off,len,cap,arr,F,rfl,hl,hz,hx⟩
     . exact ⟨.t (fun _ _=>0) :: .i 0::ds,.inl ⟨⟨a,rfl⟩,rfl⟩,⟨Int.le_refl _,fun r j k h0 h1=>by omega⟩,hd⟩
     . refine ⟨.t (fun r j=>F r.toNat j) :: .i len::ds,.inr ⟨b,off,len,cap,arr,rfl,rfl,hl,hz,fun r j k hr hj=>?_⟩,⟨by omega,fun r j k h0 h1 hj=>?_⟩,hd⟩
       . obtain ⟨x,g1,g2,_⟩:=hx r j k hr hj;exact ⟨x,g1,by simpa using g2⟩
       . obtain ⟨x,_,_,g3⟩:=hx r.toNat j k (by omega) hj;exact g3
 | [],_::_,_,h,_=>by simp [mI] at h
 | _::_,[],_,h,_=>by simp [mI] at h
 | [],[],_::_,_,h=>h.elim
 | _::_,_::_,[],_,h=>h.elim
theorem nN {w:World}:∀{ly:List Ly} {cs:List Value} {ds:List D},fM w ly cs ds->Sorts (Ly.sorts ly) ds
 | [],[],[],_=>trivial
 | .c _::l,_::cs,.i _::_,h=>nN (ly:=l) (cs:=cs) h.2.2
 | .s _::l,_::cs,.t _ :: .i _::_,h=>nN (ly:=l) (cs:=cs) h.2.2
 | [],[],_::_,h=>h.elim
 | [],_::_,_,h=>h.elim
 | .c _::_,[],_,h=>h.elim
 | .c _::_,_::_,[],h=>h.elim
 | .c _::_,_::_,.t _::_,h=>h.elim
 | .s _::_,[],_,h=>h.elim
 | .s _::_,_::_,[],h=>h.elim
 | .s _::_,_::_,.i _::_,h=>h.elim
 | .s _::_,_::_,[.t _],h=>h.elim
 | .s _::_,_::_,.t _ :: .t _::_,h=>h.elim
def pbX (s:Nat):Value->Option PB
 | .slice (some a) _ cap=>some { blk:=a.block,base:=a.off,tot:=cap*s }
 | _=>none
def pbs:List Ly->List Value->List (Option PB)
 | .c _::l,_::cs=>pbs l cs
 | .s ks::l,c::cs=>(match c with
   | .slice _ _ 0=>none
   | c=>pbX ks.length c)::pbs l cs
 | _,_=>[]
theorem qqx {I:Itp} {g:G} {k:CK} {i:Nat} {n:Int} {c:Value} (hn:g.env[i]?=some (.i n)) (h:k.rel g n c):Rel I g (k.av (.var i)) c:=by
 cases k with
 | int k=>exact ⟨n,hn,h⟩
 | bool=>exact ⟨n,hn,by rw [show c=.bool (n≠0) from h]⟩
 | str=>exact ⟨n,hn,h⟩
 | lst ks=>exact ⟨n,hn,h⟩
 | clo cs=>exact ⟨n,hn,h⟩
theorem Qq {w:World} {I:Itp} {P:Program} {g:G} (hz:g.fz=fzW w):∀{ly:List Ly} {cs:List Value} {ds:List D} (v b:Nat),fM w ly cs ds->(∀i d,ds[i]?=some d->g.env[v+i]?=some d)->
   (∀j p,(pbs ly cs)[j]?=some p->g.φ (b+j)=p)->qw I g (Ly.avs v b ly) cs/\
     ∀x y,get (Ly.mem false v b ly) x=some y->jN I P g x (fun i=>w.heap[i]?) y/\b<=x/\x<b+(pbs ly cs).length/\y.wr=false/\∀o,¬zV (fun i=>w.heap[i]?) I g x y o
 | [],[],[],v,b,_,_,_=>⟨trivial,fun x y h=>by simp [Ly.mem,get_nil] at h⟩
 | .c k::l,c::cs,.i n::ds,v,b,h,he,hp=>by
   obtain ⟨h1,_,h3⟩:=h;obtain ⟨a1,a2⟩:=Qq hz (ly:=l) (cs:=cs) (v+1) b h3 (fun i d hi=>by rw [show v+1+i=v+(i+1) by omega];exact he (i+1) d hi) hp;exact ⟨⟨qqx (by simpa using he 0 _ rfl) (CK.iA (g:=gW w) (fun _ _ h=>by cases h) (fun o c h=>by rw [hz];exact h) h1),a1⟩,a2⟩
 | .s ks::l,c::cs,.t f :: .i n::ds,v,b,h,he,hp=>by
   obtain ⟨h1,⟨h0,_⟩,h3⟩:=h;obtain ⟨a1,a2⟩:=Qq hz (ly:=l) (cs:=cs) (v+2) (b+1) h3 (fun i d hi=>by rw [show v+2+i=v+(i+2) by omega];exact he (i+2) d hi) (fun j p hj=>by rw [show b+1+j=b+(j+1) by omega];exact hp (j+1) p hj);have ef:g.env[v]?=some (.t f):=by simpa using he 0 _ rfl
   have en:g.env[v+1]?=some (.i n):=he 1 _ rfl;have hφ:=hp 0 _ rfl;rw [Nat.add_zero] at hφ;have hat:∀{k:CK} {m:Int} {x:Option Value},k.at (gW w) m x->k.at g m x:=fun ⟨y,q1,q2⟩=>⟨y,q1,CK.iA (g:=gW w) (fun _ _ h=>by cases h) (fun o c h=>by rw [hz];exact h) q2⟩
   have key:Rel I g (.slice b (.lit 0) (.var (v+1)) ks.length true) c/\jN I P g b (fun i=>w.heap[i]?) (.rows ks (.var v) (.var (v+1)) false true):=by
     rcases h1 with ⟨⟨a,rfl⟩,rfl⟩ | ⟨o,off,len,cap,arr,rfl,rfl,hl,hf,hx⟩
     . exact ⟨⟨0,0,rfl,en,Int.le_refl _,Int.le_refl _,.inr ⟨rfl,rfl,a,rfl⟩⟩,⟨f,0,ef,en,Int.le_refl _,.inr ⟨rfl,rfl,by simpa using hφ⟩⟩⟩
     . rcases Nat.eq_zero_or_pos cap with e0 | hc
       . subst e0;obtain rfl:len=0:=by omega
         exact ⟨⟨0,0,rfl,en,Int.le_refl _,Int.le_refl _,.inr ⟨rfl,rfl,_,rfl⟩⟩,⟨f,0,ef,en,Int.le_refl _,.inr ⟨rfl,rfl,by simpa using hφ⟩⟩⟩
       . have hφ':g.φ b=some { blk:=o,base:=off,tot:=cap*ks.length }:=by
           rw [hφ];cases cap with
           | zero=>omega
           | succ m=>rfl
         obtain ⟨T,fr,hb⟩:=XB hf
         exact ⟨⟨0,len,rfl,en,Int.le_refl _,by omega,.inl ⟨_,cap,hφ',by simp,by simpa using hl,by simp⟩⟩,
           ⟨f,len,ef,en,by omega,.inl ⟨_,arr,T,fr,hφ',hb,fun r j k hr hj=>hat (hx r j k (by simpa using hr) hj),fun h=>by cases h⟩⟩⟩
   refine ⟨⟨key.1,a1⟩,fun x y hxy=>?_⟩;simp only [Ly.mem,qQ] at hxy;split at hxy
   . rename_i e;subst e;cases hxy;exact ⟨key.2,Nat.le_refl _,by simp [pbs],rfl,fun o h=>h.elim⟩
   . obtain ⟨q1,q2,q3,q4⟩:=a2 x y hxy;exact ⟨q1,by omega,by simp only [pbs,List.length_cons];omega,q4⟩
 | [],[],_::_,_,_,h,_,_=>h.elim
 | [],_::_,_,_,_,h,_,_=>h.elim
 | .c _::_,[],_,_,_,h,_,_=>h.elim
 | .c _::_,_::_,[],_,_,h,_,_=>h.elim
 | .c _::_,_::_,.t _::_,_,_,h,_,_=>h.elim
 | .s _::_,[],_,_,_,h,_,_=>h.elim
 | .s _::_,_::_,[],_,_,h,_,_=>h.elim
 | .s _::_,_::_,.i _::_,_,_,h,_,_=>h.elim
 | .s _::_,_::_,[.t _],_,_,h,_,_=>h.elim
 | .s _::_,_::_,.t _ :: .t _::_,_,_,h,_,_=>h.elim
theorem Dp {w:World}:∀{ly:List Ly} {cs:List Value} {ds:List D},fM w ly cs ds->(pbs ly cs).length=(Ly.mem false 0 0 ly).length:=by
 have h:∀{ly:List Ly} {cs:List Value} {ds:List D} (v b:Nat),fM w ly cs ds->(pbs ly cs).length=(Ly.mem false v b ly).length:=by
   intro ly
   induction ly with
   | nil=>intro cs ds v b _;cases cs <;> rfl
   | cons y l ih=>
     intro cs ds v b h
     match y,cs,ds,h with
     | .c k,c::cs,.i n::ds,h=>exact ih (v+1) b h.2.2
     | .s ks,c::cs,.t f :: .i n::ds,h=>simp only [pbs,Ly.mem,List.length_cons,ih (v+2) (b+1) h.2.2]
 intro ly cs ds h';exact h 0 0 h'
theorem Dm {w:World}:∀{ly:List Ly} {cs:List Value} {ds:List D},fM w ly cs ds->∀p,some p∈pbs ly cs->p.blk<w.heap.size
 | [],cs,_,_,p,hp=>by cases cs <;> cases hp
 | .c k::l,c::cs,.i n::ds,h,p,hp=>Dm (ly:=l) (cs:=cs) h.2.2 p hp
 | .s ks::l,c::cs,.t f :: .i n::ds,h,p,hp=>by
   rcases List.mem_cons.1 hp with hp | hp
   . rcases h.1 with ⟨⟨a,rfl⟩,_⟩ | ⟨o,off,len,cap,arr,rfl,_,_,hf,_⟩
     . cases hp
     . obtain ⟨T,fr,hb⟩:=XB hf;cases cap with
       | zero=>cases hp
       | succ m=>cases hp;exact (Array.getElem?_eq_some_iff.1 hb).1
   . exact Dm (ly:=l) (cs:=cs) h.2.2 p hp
 | .c _::_,[],_,h,_,_=>h.elim
 | .c _::_,_::_,[],h,_,_=>h.elim
 | .c _::_,_::_,.t _::_,h,_,_=>h.elim
 | .s _::_,[],_,h,_,_=>h.elim
 | .s _::_,_::_,[],h,_,_=>h.elim
 | .s _::_,_::_,.i _::_,h,_,_=>h.elim
 | .s _::_,_::_,[.t _],h,_,_=>h.elim
 | .s _::_,_::_,.t _ :: .t _::_,h,_,_=>h.elim
theorem COk.lies {I:Itp} {P:Program} {gl:List Glob} {c:Contract} (h:COk I P gl c) {ly:List Ly} {cs:List Value} {ds es:List D} {W:World} (hl:fM W ly cs ds) (hm:c.mem=Ly.mem false 0 0 ly) (hnb:c.nb=(Ly.mem false 0 0 ly).length)
   (hso:Sorts c.sorts (ds++es)) (hG:GOk gl { w0:=W,X:=fun _=>False }) {xs:List Value} (ha:∀g:G,g.env=ds++es->qw I g (Ly.avs 0 0 ly) cs->qw I g c.args xs) (hp:∀p∈c.pre,p.den I (ds++es)) :
   Calls P c.fn xs.toArray W fun e w'=>∃v outs g',e=.returned v/\Sorts c.outs outs/\g'.env=(ds++es)++outs/\Rel I g' c.res v/\(∀p∈c.post,p.den I g'.env)/\
     w'.os=W.os/\w'.output=W.output/\W.heap.size<=w'.heap.size/\∀i,i<W.heap.size->w'.heap[i]?=W.heap[i]?:=by
 let g:G:={ env:=ds++es,φ:=fun b=>((pbs ly cs)[b]?).getD none,nb:=(pbs ly cs).length,fz:=fzW W }
 obtain ⟨hr,hb⟩:=Qq (I:=I) (P:=P) (g:=g) rfl 0 0 hl (fun i d hi=>by
   show (ds++es)[0+i]?=some d;rw [Nat.zero_add,List.getElem?_append_left (List.getElem?_eq_some_iff.1 hi).1];exact hi) (fun j p hj=>by
   show ((pbs ly cs)[0+j]?).getD none=p;rw [Nat.zero_add,hj];rfl)
 have hX:∀i,¬(c.amb g W).X i:=by
   rintro i ⟨b,x,p,h1,h2,_⟩;rw [hm] at h1;rw [(hb b x h1).2.2.2.1] at h2;cases h2
 have hmr:qX (c.amb g W) I P g c.mem W:=by
   rw [hm];refine ⟨fun b hb=>?_,fun b y hy=>(hb b y hy).1,fun b y hy=>by have:=(hb b y hy).2.2.1;rw [Nat.zero_add] at this;exact this,fun b c x y p q hx _ hw=>?_,fun b p hp=>?_,fun b x p hx hw=>?_,Nat.le_refl _,fun _ _ _=>rfl,⟨rfl,rfl⟩,fun b x o hx hr=>?_,fun o z hz=>⟨.inl hz,?_,?_,fun b x q hx hw=>?_,fun b x hx=>(hb b x hx).2.2.2.2 o⟩⟩
   . show ((pbs ly cs)[b]?).getD none=none;rw [List.getElem?_eq_none hb];rfl
   . rw [(hb b x hx).2.2.2.1] at hw;cases hw
   . have hp:((pbs ly cs)[b]?).getD none=some p:=hp;rcases h2:(pbs ly cs)[b]? with _ | q
     . rw [h2] at hp;cases hp
     . rw [h2] at hp;simp only [Option.getD_some] at hp;subst hp;exact Dm hl p (List.mem_of_getElem? h2)
   . rw [(hb b x hx).2.2.2.1] at hw;cases hw
   . exact absurd hr ((hb b x hx).2.2.2.2 o)
   . obtain ⟨T,fr,h1⟩:=XB hz;exact (Array.getElem?_eq_some_iff.1 h1).1
   . exact XB hz
   . rw [(hb b x hx).2.2.2.1] at hw;cases hw
 refine (h g W xs hso (by rw [hnb,<-Dp hl]) (fun x hx=>let ⟨h0,h1,_,h3⟩:=hG x hx;⟨h0,h1,hX _,h3⟩) hmr (ha g rfl hr) hp).mono fun e w' he=>?_;obtain ⟨v,outs,g',rfl,h1,h2,_,_,_,h5,h6,h7⟩:=he;exact ⟨v,outs,g',rfl,h1,h2,h5,h7,h6.same.1,h6.same.2,h6.size,fun i hi=>h6.keep i hi (hX i)⟩
end Go.Sp
noncomputable section
namespace Go.Sp
open Go Go.Sx Go.Proofs
def N7:List Ly->List D->Prop
 | [],[]=>True
 | .c k::l,.i n::ds=>XH k n/\N7 l ds
 | .s ks::l,.t f :: .i n::ds=>Tm ks n f/\N7 l ds
 | _,_=>False
theorem ou {w:World}:∀{ly:List Ly} {cs:List Value} {ds:List D},fM w ly cs ds->N7 ly ds
 | [],[],[],_=>trivial
 | .c _::l,_::cs,.i _::ds,h=>⟨h.2.1,ou (ly:=l) (cs:=cs) h.2.2⟩
 | .s _::l,_::cs,.t _ :: .i _::ds,h=>⟨h.2.1,ou (ly:=l) (cs:=cs) h.2.2⟩
 | [],[],_::_,h=>h.elim
 | [],_::_,_,h=>h.elim
 | .c _::_,[],_,h=>h.elim
 | .c _::_,_::_,[],h=>h.elim
 | .c _::_,_::_,.t _::_,h=>h.elim
 | .s _::_,[],_,h=>h.elim
 | .s _::_,_::_,[],h=>h.elim
 | .s _::_,_::_,.i _::_,h=>h.elim
 | .s _::_,_::_,[.t _],h=>h.elim
 | .s _::_,_::_,.t _ :: .t _::_,h=>h.elim
def Zg:List Ly->Nat->Option Ly
 | [],_=>none
 | .c k::_,0=>some (.c k)
 | .c _::l,v+1=>Zg l v
 | .s ks::_,0=>some (.s ks)
 | .s _::_,1=>none
 | .s _::l,v+2=>Zg l v
theorem uW:∀{ly:List Ly} {ds:List D} {v:Nat} {k:CK},N7 ly ds->Zg ly v=some (.c k)->XH k (gi ds v)
 | .c k::l,.i n::ds,0,k',h,e=>by cases e;exact h.1
 | .c k::l,.i n::ds,v+1,k',h,e=>uW (ly:=l) (ds:=ds) h.2 e
 | .s ks::l,.t f :: .i n::ds,0,k',h,e=>by cases e
 | .s ks::l,.t f :: .i n::ds,1,k',h,e=>by cases e
 | .s ks::l,.t f :: .i n::ds,v+2,k',h,e=>uW (ly:=l) (ds:=ds) h.2 e
 | [],_,_,_,_,e=>by cases e
 | .c _::_,[],_,_,h,_=>h.elim
 | .c _::_,.t _::_,_,_,h,_=>h.elim
 | .s _::_,[],_,_,h,_=>h.elim
 | .s _::_,.i _::_,_,_,h,_=>h.elim
 | .s _::_,[.t _],_,_,h,_=>h.elim
 | .s _::_,.t _ :: .t _::_,_,_,h,_=>h.elim
theorem xR:∀{ly:List Ly} {ds:List D} {v:Nat} {ks:List CK},N7 ly ds->Zg ly v=some (.s ks)->Tm ks (gi ds (v+1)) (gt ds v)
 | .c k::l,.i n::ds,0,k',h,e=>by cases e
 | .c k::l,.i n::ds,v+1,k',h,e=>xR (ly:=l) (ds:=ds) h.2 e
 | .s ks::l,.t f :: .i n::ds,0,k',h,e=>by cases e;exact h.1
 | .s ks::l,.t f :: .i n::ds,1,k',h,e=>by cases e
 | .s ks::l,.t f :: .i n::ds,v+2,k',h,e=>xR (ly:=l) (ds:=ds) h.2 e
 | [],_,_,_,_,e=>by cases e
 | .c _::_,[],_,_,h,_=>h.elim
 | .c _::_,.t _::_,_,_,h,_=>h.elim
 | .s _::_,[],_,_,h,_=>h.elim
 | .s _::_,.i _::_,_,_,h,_=>h.elim
 | .s _::_,[.t _],_,_,h,_=>h.elim
 | .s _::_,.t _ :: .t _::_,_,_,h,_=>h.elim
def R64 (x:Int):Prop:=-9223372036854775808<=x/\x<=9223372036854775807
theorem r64 {n:Int} (h:XH i64 n):R64 n:=by
 show -9223372036854775808<=n/\n<=9223372036854775807;have h:(Lit.int .i64 n).wf=true:=h;simp only [Lit.wf,Bool.and_eq_true,decide_eq_true_eq] at h;simpa [IntKind.min,IntKind.max,IntKind.signed,IntKind.bits] using h
theorem r8 {n:Int} (h:XH (.int .u8) n):0<=n/\n<=255:=by
 have h:(Lit.int .u8 n).wf=true:=h;simp only [Lit.wf,Bool.and_eq_true,decide_eq_true_eq] at h;simpa [IntKind.min,IntKind.max,IntKind.signed,IntKind.bits] using h
theorem OJ (n:Int):0<=tr n/\tr n<=1:=by unfold tr;split <;> omega
theorem kV {k f x:Int} (h:R64 x) (h3:¬(k=3/\f<64)) (h6:¬(k=6/\f=4\/k=11/\f=1\/k=12/\f=7)):qM k f x:=⟨fun e=>absurd e h3,fun e=>absurd e h6,h⟩
theorem Fv {k f x:Int} (h:0<=x/\x<=1):qM k f x:=⟨fun _=>by omega,fun _=>h,by omega,by omega⟩
theorem EP {k f x:Int} (h:0<=x/\x<=255) (h6:¬(k=6/\f=4\/k=11/\f=1\/k=12/\f=7)):qM k f x:=⟨fun _=>h,fun e=>absurd e h6,by omega,by omega⟩
theorem Us:∀j:Nat,j<64->MG[j+1]?=some (.int .u8):=fun j hj=>by
 show (List.replicate 64 (CK.int .u8))[j]?=_;rw [List.getElem?_replicate,if_pos hj]
theorem at3 {c:Nat} (h:c<3):[i64,i64,i64][c]?=some i64:=by
 match c,h with
 | 0,_=>rfl
 | 1,_=>rfl
 | 2,_=>rfl
theorem at2 {c:Nat} (h:c<2):[i64,i64][c]?=some i64:=by
 match c,h with
 | 0,_=>rfl
 | 1,_=>rfl
theorem Cq:∀j:Nat,j<16->Zg ni (41+15*j+7)=some (.s wT)/\Zg ni (41+15*j+10)=some (.s wT)/\Zg ni (41+15*j+12)=some (.s wT)/\∀c,c=14\/c<7->Zg ni (41+15*j+c)=some (.c i64):=by
 have h:((List.range 16).all fun j=>(match Zg ni (41+15*j+7),Zg ni (41+15*j+10),Zg ni (41+15*j+12) with
   | some (.s a),some (.s b),some (.s c)=>decide (a=wT) && decide (b=wT) && decide (c=wT)
   | _,_,_=>false) && [14,0,1,2,3,4,5,6].all fun c=>match Zg ni (41+15*j+c) with
   | some (.c k)=>decide (k=i64)
   | _=>false)=true:=by decide +kernel
 intro j hj;have h:=List.all_eq_true.1 h j (List.mem_range.2 hj);rw [Bool.and_eq_true] at h;obtain ⟨h1,h2⟩:=h;split at h1
 . rename_i a b c e1 e2 e3;simp only [Bool.and_eq_true,decide_eq_true_eq] at h1;obtain ⟨⟨rfl,rfl⟩,rfl⟩:=h1;refine ⟨e1,e2,e3,fun c hc=>?_⟩
   have h3:=List.all_eq_true.1 h2 c (by
     rcases hc with rfl | hc
     . exact List.Mem.head _
     . have:c=0\/c=1\/c=2\/c=3\/c=4\/c=5\/c=6:=by omega
       rcases this with rfl | rfl | rfl | rfl | rfl | rfl | rfl <;> simp)
   split at h3
   . rename_i k e4;rw [e4,of_decide_eq_true h3]
   . cases h3
 . cases h1
theorem Vv {ds:List D} (h:N7 ni ds):Typed ds:=by
 have s0:=xR (v:=0) h rfl;have s2:=xR (v:=2) h rfl;have s4:=xR (v:=4) h rfl;have s6:=xR (v:=6) h rfl;have s23:=xR (v:=23) h rfl;have s25:=xR (v:=25) h rfl;have s30:=xR (v:=30) h rfl;have s32:=xR (v:=32) h rfl;have s35:=xR (v:=35) h rfl;have s37:=xR (v:=37) h rfl;have s39:=xR (v:=39) h rfl;refine ⟨⟨s0.1,s2.1,s4.1,s6.1,s23.1,s25.1,s30.1,s32.1,s35.1,s37.1,s39.1⟩,fun j hj=>?_,fun k i f k1 k2 hh=>?_⟩
 . obtain ⟨a,b,c,_⟩:=Cq j hj;have a:=(xR h a).1;have b:=(xR h b).1;have c:=(xR h c).1;rw [show 41+15*j+7+1=49+15*j by omega] at a;rw [show 41+15*j+10+1=52+15*j by omega] at b;rw [show 41+15*j+12+1=54+15*j by omega] at c;exact ⟨a,b,c⟩
 . have hh:=of_decide_eq_true hh;obtain ⟨i0,i1,f0,f1,hx⟩:=hh;have hk:k=1\/k=2\/k=3\/k=4\/k=5\/k=6\/k=7\/k=8\/k=9\/k=10\/k=11\/k=12\/k=13\/k=14\/k=15\/k=16:=by omega
   rcases hk with rfl | rfl | rfl | rfl | rfl | rfl | rfl | rfl | rfl | rfl | rfl | rfl | rfl | rfl | rfl | rfl <;>
     simp only [qz,qj,qh,Int.reduceEq,if_true,if_false] at i1 f1 ⊢
   . exact kV (r64 (s0.2 i f.toNat _ i0 i1 (at3 (by omega)))) (by omega) (by omega)
   . exact kV (r64 (s2.2 i 0 _ i0 i1 rfl)) (by omega) (by omega)
   . split
     . rename_i h64;have:=r8 (s4.2 i (f.toNat+1) _ i0 i1 (Us _ (by omega)));refine EP ?_ (by omega);rw [rZ (k:=.i64) (by simp only [IntKind.min,IntKind.max,IntKind.signed,IntKind.bits];simp;omega)];exact this
     . exact kV (r64 (s4.2 i 0 _ i0 i1 rfl)) (by omega) (by omega)
   . exact kV (r64 (s23.2 i f.toNat _ i0 i1 (at2 (by omega)))) (by omega) (by omega)
   . exact kV (r64 (uW (v:=22) h rfl)) (by omega) (by omega)
   . split
     . exact Fv (OJ _)
     . refine kV (r64 (s25.2 i f.toNat _ i0 i1 ?_)) (by omega) (by omega);have e:f.toNat<4:=by omega
       generalize f.toNat=c at e
       match c,e with
       | 0,_=>rfl
       | 1,_=>rfl
       | 2,_=>rfl
       | 3,_=>rfl
   . split
     . exact kV (r64 (uW (v:=27) h rfl)) (by omega) (by omega)
     . split
       . exact kV (r64 (uW (v:=29) h rfl)) (by omega) (by omega)
       . exact kV (r64 (uW (v:=28) h rfl)) (by omega) (by omega)
   . exact kV (r64 (s30.2 i f.toNat _ i0 i1 (at2 (by omega)))) (by omega) (by omega)
   . split
     . exact kV (r64 (s32.2 i 0 _ i0 i1 rfl)) (by omega) (by omega)
     . rename_i hf;refine kV (r64 ?_) (by omega) (by omega);obtain ⟨rows,e1,e2⟩:=s32.2 i 1 _ i0 i1 rfl;have e1:(gy (gt ds 32 i 1)).length=rows*2:=e1
       have hl:llen (gt ds 32 i 1) 2=rows:=by
         unfold llen;rw [e1]
         have:rows*2 / (2:Int).toNat=rows:=by
           show rows*2 / 2=rows;omega
         rw [this]
       rw [hl] at f1
       have:=e2 ((f - 1) / 2).toNat ((f - 1) % 2).toNat (.int .i64) (by omega) (by
         have e:((f - 1) % 2).toNat<2:=by omega
         generalize ((f - 1) % 2).toNat=c at e
         match c,e with
         | 0,_=>rfl
         | 1,_=>rfl)
       exact this
   . exact kV (r64 (uW (v:=34) h rfl)) (by omega) (by omega)
   . split
     . exact kV (r64 (s35.2 i 0 _ i0 i1 rfl)) (by omega) (by omega)
     . split
       . exact Fv (OJ _)
       . exact kV (r64 (s39.2 i 0 _ i0 (by show i<gi ds 40;omega) rfl)) (by omega) (by omega)
   . obtain ⟨a,b,c,d⟩:=Cq i.toNat (by omega);simp only [arF,arG,Int.reduceEq,if_true,if_false] at f1 ⊢;split
     . exact Fv (OJ _)
     . split
       . rw [zS (by decide)];exact kV (r64 (uW h (d 14 (.inl rfl)))) (by omega) (by omega)
       . rw [zS (by omega)];exact kV (r64 (uW h (d f.toNat (.inr (by omega))))) (by omega) (by omega)
   . obtain ⟨a,b,c,d⟩:=Cq i.toNat (by omega);simp only [arF,arG,Int.reduceEq,if_true,if_false] at f1 ⊢;rw [zS (by decide)] at f1;rw [iw (by decide)];exact kV (r64 ((xR h a).2 _ _ _ (by omega) (by simp only [arB] at f1;rw [show 41+15*i.toNat+7+1=41+15*i.toNat+8 by omega];omega) (at2 (by omega)))) (by omega) (by omega)
   . obtain ⟨a,b,c,d⟩:=Cq i.toNat (by omega);simp only [arF,arG,Int.reduceEq,if_true,if_false] at f1 ⊢;rw [zS (by decide)] at f1;rw [iw (by decide)];exact kV (r64 ((xR h b).2 _ _ _ (by omega) (by simp only [arB] at f1;rw [show 41+15*i.toNat+10+1=41+15*i.toNat+11 by omega];omega) (at2 (by omega)))) (by omega) (by omega)
   . obtain ⟨a,b,c,d⟩:=Cq i.toNat (by omega);simp only [arF,arG,Int.reduceEq,if_true,if_false] at f1 ⊢;rw [zS (by decide)] at f1;rw [iw (by decide)];exact kV (r64 ((xR h c).2 _ _ _ (by omega) (by simp only [arB] at f1;rw [show 41+15*i.toNat+12+1=41+15*i.toNat+13 by omega];omega) (at2 (by omega)))) (by omega) (by omega)
   . have e:f.toNat<14:=by omega
     refine kV (r64 ?_) (by omega) (by omega);generalize f.toNat=c at e;have:c=0\/c=1\/c=2\/c=3\/c=4\/c=5\/c=6\/c=7\/c=8\/c=9\/c=10\/c=11\/c=12\/c=13:=by omega
     rcases this with rfl | rfl | rfl | rfl | rfl | rfl | rfl | rfl | rfl | rfl | rfl | rfl | rfl | rfl <;> exact uW h rfl
end Go.Sp
end
noncomputable section
namespace Go.Sp
open Go Go.Sx Go.Proofs Go.ChangeShapes Go.WideShapes
theorem qqP:(match flat Tryz.prog 20 63 with
   | some l=>mI (lyB Tryz.prog) l ni
   | none=>false)=true:=by kernel_rfl
theorem UU:(match Tryz.prog.underlying 63 with
   | some (.struct _)=>true
   | _=>false)=true:=by kernel_rfl
theorem qqD:(match flat Tryz.prog 20 65 with
   | some l=>mI (lyB Tryz.prog) l [.c i64,.c i64,.c i64,.c i64]
   | none=>false)=true:=by kernel_rfl
theorem qqN:(match Tryz.prog.underlying 65 with
   | some (.struct _)=>true
   | _=>false)=true:=by kernel_rfl
section
variable {P:Program} {H:Type} {enc:TypeId × Value->H} {W:World} {base:Nat} {held:Bool} {r:Reach} {b0:Nat} {v:Value} {d:DataW H} {p:List MemPlace}
theorem Xd {t:TypeId} {ly:List Ly} (hu:(match P.underlying t with
   | some (.struct _)=>true
   | _=>false)=true) (hl:(match flat P 20 t with
   | some l=>mI (lyB P) l ly
   | none=>false)=true) (hv:Value.okWide P W r b0 t v) (h:DataW.Trod enc P W base (fun _=>true) held t v d p):∃cs ds,v=.agg cs/\fM W ly cs.toList ds:=by
 split at hu
 . rename_i fs ht;obtain ⟨cs,rfl,hsz⟩:=okWide_struct ht hv;obtain ⟨fuel,hf⟩:=h;split at hl
   . rename_i l h1;obtain ⟨ds,hd⟩:=Mv hl (lF 20 h1 hf);exact ⟨cs,ds,rfl,hd⟩
   . cases hl
 . cases hu
end
theorem Xr {w:World} {k:CK} {l:List Ly} {cs:List Value} {ds:List D} (h:fM w (.c k::l) cs ds):∃c cs' n ds',cs=c::cs'/\ds=.i n::ds'/\k.rel (gW w) n c/\XH k n/\fM w l cs' ds':=by
 match cs,ds,h with
 | c::cs,.i n::ds,h=>exact ⟨c,cs,n,ds,rfl,rfl,h⟩
 | [],_,h=>exact h.elim
 | _::_,[],h=>exact h.elim
 | _::_,.t _::_,h=>exact h.elim
theorem SX {w:World} {cs:List Value} {ds:List D} (h:fM w [] cs ds):cs=[]:=by
 match cs,ds,h with
 | [],_,_=>rfl
 | _::_,_,h=>exact h.elim
theorem Fg {W:World} {cs:Array Value} {ds:List D} (h:fM W [.c i64,.c i64,.c i64,.c i64] cs.toList ds):∃a b c e:Int,cs=#[.int .i64 a,.int .i64 b,.int .i64 c,.int .i64 e]/\R64 a/\R64 b/\R64 c/\R64 e:=by
 obtain ⟨l⟩:=cs;obtain ⟨x,l1,a,d1,e1,_,h1,f1,h⟩:=Xr h;obtain ⟨y,l2,b,d2,e2,_,h2,f2,h⟩:=Xr h;obtain ⟨z,l3,c,d3,e3,_,h3,f3,h⟩:=Xr h;obtain ⟨u,l4,e,d4,e4,_,h4,f4,h⟩:=Xr h;have e5:=SX h;obtain rfl:x=.int .i64 a:=h1;obtain rfl:y=.int .i64 b:=h2;obtain rfl:z=.int .i64 c:=h3;obtain rfl:u=.int .i64 e:=h4;subst e5 e4 e3 e2;have e1:l=_:=e1;subst e1;exact ⟨a,b,c,e,rfl,r64 f1,r64 f2,r64 f3,r64 f4⟩
theorem qqC {n:Int} (h:R64 n):IntKind.i64.min<=n/\n<=IntKind.i64.max:=⟨h.1,h.2⟩
theorem cK:∀{a b:List Bool} {x y:List D},Sorts a x->Sorts b y->Sorts (a++b) (x++y)
 | [],_,[],_,_,h=>h
 | true::a,b,.t _::x,y,h,h'=>cK (a:=a) (x:=x) h h'
 | false::a,b,.i _::x,y,h,h'=>cK (a:=a) (x:=x) h h'
 | [],_,_::_,_,h,_=>h.elim
 | true::_,_,[],_,h,_=>h.elim
 | false::_,_,[],_,h,_=>h.elim
 | true::_,_,.i _::_,_,h,_=>h.elim
 | false::_,_,.t _::_,_,h,_=>h.elim
end Go.Sp
