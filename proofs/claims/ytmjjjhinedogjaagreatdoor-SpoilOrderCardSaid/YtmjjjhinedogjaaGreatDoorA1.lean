/-
  A small symbolic executor for the walk, proved sound in the texts that follow: what it computes is a formula (a Tree); if the formula holds, the code behaves as the contract says. Conditions: none; nothing here speaks of a program.
-/
import Derived.RangeFuncRecord
import Derived.LoopNIn
import Derived.OrdersIn
import Derived.Laws.World
import Derived.Laws.Cells
noncomputable section
namespace Go.Sx
open Go
inductive D where
 | i (n:Int)
 | t (f:Int→Nat→Int)
inductive BO where
 | add | sub | mul | tdiv | tmod | lt | le | eq | ne | and | or | max | min
 | bits (o:Nat) (k:IntKind)
 deriving DecidableEq
inductive BT where
 | nil
 | node (v:List Int) (l r:BT)
 deriving DecidableEq
def BT.get:BT→Nat→Nat→Int
 | .nil,_,_=>0
 | .node v l r,i,c=>match i with
   | 0=>v.getD c 0
   | i+1=>match Nat.beq (i % 2) 0 with
     | true=>l.get (i / 2) c
     | false=>r.get (i / 2) c
def BT.put:List Int→Nat→Int→List Int
 | [],0,x=>[x]
 | [],c+1,x=>0::BT.put [] c x
 | _::l,0,x=>x::l
 | a::l,c+1,x=>a::BT.put l c x
def BT.row:BT→List Int
 | .nil=>[]
 | .node v _ _=>v
def BT.left:BT→BT
 | .nil=>.nil
 | .node _ l _=>l
def BT.right:BT→BT
 | .nil=>.nil
 | .node _ _ r=>r
def BT.set:Nat→BT→Nat→Nat→Int→Option BT
 | 0,_,_,_,_=>none
 | f+1,b,i,c,x=>match i with
   | 0=>some (.node (BT.put b.row c x) b.left b.right)
   | i+1=>match Nat.beq (i % 2) 0 with
     | true=>match BT.set f b.left (i / 2) c x with
       | some l=>some (.node b.row l b.right)
       | none=>none
     | false=>match BT.set f b.right (i / 2) c x with
       | some r=>some (.node b.row b.left r)
       | none=>none
def BT.tab (b:BT) (r:Int) (c:Nat):Int:=match r with
 | .ofNat n=>b.get n c
 | _=>0
inductive E where
 | lit (n:Int)
 | var (i:Nat)
 | bin (o:BO) (a b:E)
 | wrap (k:IntKind) (a:E)
 | zt
 | kt (row:List Int)
 | sel (t r:E) (c:Nat)
 | upd (t r:E) (c:Nat) (v:E)
 | cat (t n u:E)
 /-- A table from row n on. -/
 | sh (t n:E)
 /-- Are two strings (table, length) equal? -/
 | teq (t n u m:E)
 | fn (j:Nat) (a b c d:E)
 /-- A table written out as a tree. -/
 | bt (b:BT)
 deriving DecidableEq
structure Itp where
 fn:Nat→D→D→D→D→Option D
 pr:Nat→List D→Prop
def DK:Nat→Nat→List UInt8
 | 0,_=>[]
 | f+1,n=>if n=0 then [] else UInt8.ofNat ((n - 1) % 256)::DK f ((n - 1) / 256)
def aL:List UInt8→Nat
 | []=>0
 | b::l=>b.toNat+1+256*aL l
def pQ:Int→Nat
 | .ofNat m=>2*m
 | .negSucc m=>2*m+1
def zig (n:Nat):Int:=if n % 2=0 then .ofNat (n / 2) else .negSucc (n / 2)
def zW (n:Int):List UInt8:=DK (pQ n) (pQ n)
def KJ (l:List UInt8):Int:=zig (aL l)
def kW (f:Int→Nat→Int) (g:Int→Nat→Int) (w:Nat):Nat→Nat→Int
 | 0,_=>-1
 | n+1,i=>if (List.range w).all (fun c=>f i c == g 0 c) then i else kW f g w n (i+1)
def D.int:D→Int
 | .i n=>n
 | .t _=>0
def D.tab:D→Int→Nat→Int
 | .t f=>f
 | .i _=>fun _ _=>0
def uw (a:Int):Int:=((zW a).length:Nat)
def Ez (a b:Int):Int:=KJ (zW a++zW b)
def A8 (a i j:Int):Int:=KJ (((zW a).drop i.toNat).take (j.toNat - i.toNat))
def Pg (a i:Int):Int:=((((zW a)[i.toNat]?).getD 0).toNat:Nat)
def Iw (a:Int):Int→Nat→Int:=fun i _=>((((zW a)[i.toNat]?).getD 0).toNat:Nat)
def LH (f:Int→Nat→Int) (n:Int):Int:=KJ ((List.range n.toNat).map fun i:Nat=>UInt8.ofNat (f i 0).toNat)
def Ve (f:Int→Nat→Int) (n:Int) (g:Int→Nat→Int) (w:Nat):Int→Nat→Int:=
 if 0≤kW f g w n.toNat 0 then (fun r c=>if r=kW f g w n.toNat 0∧c=w then g 0 w else f r c) else fun r c=>if r=n∧c≤w then g 0 c else f r c
def Pj (a i:Int):Int:=((Utf8.decode ⟨(zW a).toArray⟩ i.toNat).1:Nat)
def Bp (a i:Int):Int:=((Utf8.decode ⟨(zW a).toArray⟩ i.toNat).2:Nat)
def RU (f:Int→Nat→Int) (k:Int):Int→Nat→Int:=fun r _=>f k (r.toNat+1)
def Xo (f:Int→Nat→Int) (k:Int) (t:Int→Nat→Int) (n:Int):Int→Nat→Int:=fun r c=>if r=k then (if c=0 then n else t ((c - 1:Nat):Int) 0) else f r c
def bB:List Int→Nat
 | []=>0
 | x::l=>2 ^ pQ x*(2*bB l+1)
def Cb (l:List Int):Int:=(bB l:Nat)
def Qc:Nat→Nat→List Int
 | 0,_=>[]
 | f+1,n=>if n=0 then [] else if n % 2=1 then zig 0::Qc f (n / 2) else match Qc f (n / 2) with
   | []=>[]
   | x::l=>zig (pQ x+1)::l
def vP (n:Int):List Int:=Qc n.toNat n.toNat
def llen (a w:Int):Int:=((vP a).length / w.toNat:Nat)
def fF (a i w k:Int):Int:=(vP a).getD (i.toNat*w.toNat+k.toNat) 0
def xu (t:Int→Nat→Int) (n w:Int):Int:=Cb ((List.range (n.toNat*w.toNat)).map fun q=>t ((q / w.toNat:Nat):Int) (q % w.toNat))
def bW (a w:Int):Int→Nat→Int:=fun r c=>(vP a).getD (r.toNat*w.toNat+c) 0
def MF:Int→Nat→Int:=fun r c=>if c<2 then r+1 else 0
def bi:Nat→D→D→D→D→D
 | 0,c,a,b,_=>.i (if c.int≠0 then a.int else b.int)
 | 1,a,_,_,_=>.i (uw a.int)
 | 2,a,b,_,_=>.i (Ez a.int b.int)
 | 3,a,b,c,_=>.i (A8 a.int b.int c.int)
 | 4,a,b,_,_=>.i (Pg a.int b.int)
 | 5,a,b,_,_=>.i (LH a.tab b.int)
 | 6,a,_,_,_=>.t (Iw a.int)
 | 7,c,a,b,_=>.t (if c.int≠0 then a.tab else b.tab)
 | 8,a,b,c,d=>.i (kW a.tab c.tab d.int.toNat b.int.toNat 0)
 | 9,a,b,c,d=>.t (Ve a.tab b.int c.tab d.int.toNat)
 | 10,a,b,_,_=>.i (Pj a.int b.int)
 | 11,a,b,_,_=>.i (Bp a.int b.int)
 | 12,a,b,_,_=>.t (RU a.tab b.int)
 | 13,a,b,c,d=>.t (Xo a.tab b.int c.tab d.int)
 | 14,a,w,_,_=>.i (llen a.int w.int)
 | 15,a,i,w,k=>.i (fF a.int i.int w.int k.int)
 | 16,t,n,w,_=>.i (xu t.tab n.int w.int)
 | 17,a,w,_,_=>.t (bW a.int w.int)
 | 18,_,_,_,_=>.t MF
 | _,_,_,_,_=>.i 0
def Mk (j:Nat):Bool:=j == 6 || j == 7 || j == 9 || j == 12 || j == 13 || j == 17 || j == 18
def Itp.ap (I:Itp) (j:Nat) (a b c d:D):Option D:=if 1000≤j then some (bi (j - 1000) a b c d) else I.fn j a b c d
def wX (o:Nat) (k:IntKind) (x y:Int):Int:=
 match o with
 | 0=>k.wrap (BitVec.ofInt k.bits x &&& BitVec.ofInt k.bits y).toNat
 | 1=>k.wrap (BitVec.ofInt k.bits x ||| BitVec.ofInt k.bits y).toNat
 | 2=>k.wrap (BitVec.ofInt k.bits x ^^^ BitVec.ofInt k.bits y).toNat
 | 3=>k.wrap (BitVec.ofInt k.bits x &&& ~~~BitVec.ofInt k.bits y).toNat
 | 4=>k.wrap (x*2 ^ min y.toNat k.bits)
 | 5=>x.fdiv (2 ^ min y.toNat k.bits)
 | _=>k.wrap (x.tdiv y)
def BO.ev:BO→Int→Int→Int
 | .add,a,b=>a+b
 | .sub,a,b=>a - b
 | .mul,a,b=>a*b
 | .tdiv,a,b=>a.tdiv b
 | .tmod,a,b=>a.tmod b
 | .lt,a,b=>if a<b then 1 else 0
 | .le,a,b=>if a≤b then 1 else 0
 | .eq,a,b=>if a=b then 1 else 0
 | .ne,a,b=>if a=b then 0 else 1
 | .and,a,b=>if a≠0∧b≠0 then 1 else 0
 | .or,a,b=>if a≠0∨b≠0 then 1 else 0
 | .max,a,b=>if b > a then b else a
 | .min,a,b=>if b<a then b else a
 | .bits o k,a,b=>wX o k a b
def qd (f:Int→Nat→Int) (r:Int) (c:Nat) (v:Int):Int→Nat→Int:=fun x d=>if x=r∧d=c then v else f x d
def Bd (f:Int→Nat→Int) (n:Int) (g:Int→Nat→Int):Int→Nat→Int:=fun x d=>if x<n then f x d else g (x - n) d
def strEq (f:Int→Nat→Int) (n:Int) (g:Int→Nat→Int) (m:Int):Int:=if n=m∧((List.range n.toNat).all fun i=>f i 0 == g i 0)=true then 1 else 0
def E.den (I:Itp) (env:List D):E→Option D
 | .lit n=>some (.i n)
 | .var i=>env[i]?
 | .bin o a b=>match a.den I env,b.den I env with
   | some (.i x),some (.i y)=>some (.i (o.ev x y))
   | _,_=>none
 | .wrap k a=>match a.den I env with
   | some (.i x)=>some (.i (k.wrap x))
   | _=>none
 | .zt=>some (.t fun _ _=>0)
 | .kt row=>some (.t fun _ c=>row.getD c 0)
 | .bt b=>some (.t b.tab)
 | .sel t r c=>match t.den I env,r.den I env with
   | some (.t f),some (.i x)=>some (.i (f x c))
   | _,_=>none
 | .upd t r c v=>match t.den I env,r.den I env,v.den I env with
   | some (.t f),some (.i x),some (.i y)=>some (.t (qd f x c y))
   | _,_,_=>none
 | .cat t n u=>match t.den I env,n.den I env,u.den I env with
   | some (.t f),some (.i x),some (.t g)=>some (.t (Bd f x g))
   | _,_,_=>none
 | .sh t n=>match t.den I env,n.den I env with
   | some (.t f),some (.i x)=>some (.t fun r c=>f (r+x) c)
   | _,_=>none
 | .teq t n u m=>match t.den I env,n.den I env,u.den I env,m.den I env with
   | some (.t f),some (.i x),some (.t g),some (.i y)=>some (.i (strEq f x g y))
   | _,_,_,_=>none
 | .fn j a b c d=>match a.den I env,b.den I env,c.den I env,d.den I env with
   | some a,some b,some c,some d=>I.ap j a b c d
   | _,_,_,_=>none
noncomputable def tl {α:Type} (l:List α):List α:=List.rec (motive:=fun _=>List α) [] (fun _ t _=>t) l
noncomputable def nQ {α:Type} (l:List α):List α:=
 List.rec (motive:=fun _=>List α) [] (fun _ t _=>tl (tl (tl (tl (tl (tl (tl (tl (tl (tl (tl (tl (tl (tl (tl t)))))))))))))))  l
noncomputable def Rt {α:Type} (l:List α) (q:Nat):List α:=Nat.rec (motive:=fun _=>List α) l (fun _ t=>nQ t) q
noncomputable def Y9 {α:Type} (l:List α) (r:Nat):Option α:=
 List.rec (motive:=fun _=>Option α) none (fun a _ _=>some a) (Nat.rec (motive:=fun _=>List α) l (fun _ t=>tl t) r)
noncomputable def qqv {α:Type} (l:List α) (i:Nat):Option α:=
 Nat.rec (motive:=fun _=>Option α) (Y9 l (Nat.mod i 16)) (fun q _=>Y9 (nQ (Rt l q)) (Nat.mod i 16)) (Nat.div i 16)
noncomputable def Rh {α:Type} (l:List α) (i:Nat):Option α:=qqv l i
theorem LX {α:Type} (l:List α):tl l=l.drop 1:=by cases l <;> rfl
theorem Nb {α:Type} (l:List α):nQ l=l.drop 16:=by
 cases l with
 | nil=>rfl
 | cons a t=>
   show tl (tl (tl (tl (tl (tl (tl (tl (tl (tl (tl (tl (tl (tl (tl t))))))))))))))=_
   simp only [LX,List.drop_drop,List.drop_succ_cons]
theorem tX {α:Type} (l:List α) (i:Nat):Rh l i=l[i]?:=by
 have h1:∀k,(Nat.rec (motive:=fun _=>List α) l (fun _ t=>nQ t) k)=l.drop (16*k):=by
   intro k
   induction k with
   | zero=>rfl
   | succ k ih=>
     show nQ _=_
     rw [ih,Nb,List.drop_drop];congr 1
 have h2:∀(m:List α) k,(Nat.rec (motive:=fun _=>List α) m (fun _ t=>tl t) k)=m.drop k:=by
   intro m k
   induction k with
   | zero=>rfl
   | succ k ih=>
     show tl _=_
     rw [ih,LX,List.drop_drop]
 have h3:∀m:List α,(List.rec (motive:=fun _=>Option α) none (fun a _ _=>some a) m)=m[0]?:=by
   intro m;cases m <;> rfl
 have h4:∀(m:List α) r,Y9 m r=m[r]?:=by
   intro m r
   show List.rec (motive:=fun _=>Option α) none (fun a _ _=>some a) (Nat.rec (motive:=fun _=>List α) m (fun _ t=>tl t) r)=_
   rw [h3,h2,List.getElem?_drop,Nat.add_zero]
 show Nat.rec (motive:=fun _=>Option α) (Y9 l (i % 16)) (fun q _=>Y9 (nQ (Rt l q)) (i % 16)) (i / 16)=_
 have h5:∀n,n=i / 16→Nat.rec (motive:=fun _=>Option α) (Y9 l (i % 16)) (fun q _=>Y9 (nQ (Rt l q)) (i % 16)) n=l[i]?:=by
   intro n hn
   cases n with
   | zero=>
     show Y9 l (i % 16)=_
     rw [h4];congr 1;omega
   | succ q=>
     show Y9 (nQ (Rt l q)) (i % 16)=_
     have:nQ (Rt l q)=l.drop (16*(q+1)):=h1 (q+1)
     rw [h4,this,List.getElem?_drop];congr 1;omega
 exact h5 _ rfl
def E.subst (n:Nat) (σ:List E):E→E
 | .lit x=>.lit x
 | .var i=>bif Nat.ble n i then (Rh σ (Nat.sub i n)).getD (.sel (.lit 0) (.lit 0) 0) else .var i
 | .bin o a b=>.bin o (a.subst n σ) (b.subst n σ)
 | .wrap k a=>.wrap k (a.subst n σ)
 | .zt=>.zt
 | .kt row=>.kt row
 | .bt b=>.bt b
 | .sel t r c=>.sel (t.subst n σ) (r.subst n σ) c
 | .upd t r c v=>.upd (t.subst n σ) (r.subst n σ) c (v.subst n σ)
 | .cat t x u=>.cat (t.subst n σ) (x.subst n σ) (u.subst n σ)
 | .sh t x=>.sh (t.subst n σ) (x.subst n σ)
 | .teq t x u y=>.teq (t.subst n σ) (x.subst n σ) (u.subst n σ) (y.subst n σ)
 | .fn j a b c d=>.fn j (a.subst n σ) (b.subst n σ) (c.subst n σ) (d.subst n σ)
theorem E.oC {n:Nat} {σ:List E} {i:Nat}:(E.var i).subst n σ=if i<n then .var i else σ[i - n]?.getD (.sel (.lit 0) (.lit 0) 0):=by
 simp only [E.subst,tX]
 rcases Nat.lt_or_ge i n with hi | hi
 · have hb:Nat.ble n i=false:=by
     cases hb:Nat.ble n i
     · rfl
     · have:=Nat.le_of_ble_eq_true hb;omega
   rw [hb,if_pos hi,cond_false]
 · rw [Nat.ble_eq_true_of_le hi,if_neg (by omega),cond_true];rfl
def mkBin (o:BO) (a b:E):E:=
 match a,b with
 | .lit x,.lit y=>.lit (o.ev x y)
 | a,b=>.bin o a b
def mkAdd (a b:E):E:=
 match a,b with
 | .lit x,.lit y=>.lit (x+y)
 | .lit 0,b=>b
 | a,.lit 0=>a
 | .bin .add a (.lit x),.lit y=>if x+y=0 then a else .bin .add a (.lit (x+y))
 | a,b=>.bin .add a b
def mkSub (a b:E):E:=
 match a,b with
 | .lit x,.lit y=>.lit (x - y)
 | a,.lit 0=>a
 | .bin .add a (.lit x),.lit y=>if x - y=0 then a else .bin .add a (.lit (x - y))
 | .bin .add a (.lit x),.bin .add b (.lit y)=>if a=b then .lit (x - y) else if a=.bin .add b (.lit y) then .lit x else .bin .sub (.bin .add a (.lit x)) (.bin .add b (.lit y))
 | .bin .add a (.lit x),b=>if a=b then .lit x else .bin .sub (.bin .add a (.lit x)) b
 | a,b=>if a=b then .lit 0 else .bin .sub a b
def mkWrap (k:IntKind) (a:E):E:=
 match a with
 | .lit x=>.lit (k.wrap x)
 | a=>.wrap k a
def j5:E→E→Nat→E
 | .zt,_,_=>.lit 0
 | .kt row,_,d=>.lit (row.getD d 0)
 | .bt b,q,d=>match q with
   | .lit q=>.lit (b.tab q d)
   | q=>.sel (.bt b) q d
 | .upd t r c v,q,d=>
   if c≠d then j5 t q d else if r=q then v else
     match r,q with
     | .lit _,.lit _=>j5 t q d
     | _,_=>.sel (.upd t r c v) q d
 | .sh t n,q,d=>j5 t (mkAdd q n) d
 | .fn j a b c d,r,k=>if j=1018 then (if k<2 then mkAdd r (.lit 1) else .lit 0) else .sel (.fn j a b c d) r k
 | t,r,c=>.sel t r c
def isLit:E→Option Int
 | .lit n=>some n
 | _=>none
inductive SK where
 | int (k:IntKind)
 | bool
 | str
 deriving DecidableEq
structure Clo where
 f:FuncId
 b:Nat
 s:Nat
 k:Nat
 deriving DecidableEq
inductive CK where
 | int (k:IntKind)
 | bool
 | str
 /-- Lists that are not written any more, of such rows. -/
 | lst (ks:List SK)
 /-- Closures: 0 is none; else less one: which of these, and the row. -/
 | clo (cs:List Clo)
 deriving DecidableEq
inductive AV where
 | any
 | undef
 | bool (e:E)
 | int (k:IntKind) (e:E)
 | wY
 | ptr (b:Nat) (r:E) (s k:Nat)
 | qQ
 | slice (b:Nat) (lo len:E) (s:Nat) (nl:Bool)
 | func (fn:FuncId) (cap:List AV)
 | yld (b:Nat)
 | jW
 | agg (l:List AV)
 | tup (l:List AV)
 /-- An aggregate with a table in it: n rows. -/
 | big (pre:List AV) (ks:List CK) (t:E) (n:Nat) (post:List AV)
 /-- A slice without elements and without room. -/
 | cap0
 /-- A slice without elements. -/
 | empty
 /-- A slice of cells in a block, from number k on. -/
 | asl (b k n s:Nat)
 | yV (fn:FuncId) (first cap:List AV)
 /-- A pointer into a package-level variable. -/
 | gD (g k:Nat)
 /-- A string of known bytes. -/
 | str (l:List UInt8)
 /-- A string: its bytes as a table, its length. -/
 | wN (t n:E)
 /-- A slice without elements and without room, or nil. -/
 | mg
 /-- A map; the nil map. -/
 | mref (b:Nat)
 | vO
 /-- A nil interface. -/
 | yI
 /-- The string that a number stands for. -/
 | sat (e:E)
 /-- An interface: nil where the number is 0. -/
 | ifo (e:E)
 /-- A list that is not written any more, by its number. -/
 | lst (ks:List SK) (e:E)
 /-- A pointer to a box that is not written any more, with what is in it. -/
 | vT (a:AV)
 /-- A closure, by its number. -/
 | fco (cs:List Clo) (e:E)
 /-- A pointer into a list that is not written any more: to a cell of a row. -/
 | xg (ks:List SK) (e i:E) (k:Nat)
def SK.val:SK→Int→Value
 | .int k,n=>.int k n
 | .bool,n=>.bool (n≠0)
 | .str,n=>.string ⟨(zW n).toArray⟩
def SK.ck:SK→CK
 | .int k=>.int k
 | .bool=>.bool
 | .str=>.str
def CK.plain:CK→Bool
 | .lst _=>false
 | .clo _=>false
 | _=>true
def CK.val:CK→Int→Value
 | .int k,n=>.int k n
 | .bool,n=>.bool (n≠0)
 | .str,n=>.string ⟨(zW n).toArray⟩
 | .lst _,_=>.slice none 0 0
 | .clo _,_=>.nilFunc
def mkStr:E→AV
 | .lit n=>.str (zW n)
 | e=>.sat e
def CK.av:CK→E→AV
 | .int k,e=>.int k e
 | .bool,e=>.bool e
 | .str,e=>mkStr e
 | .lst ks,e=>.lst ks e
 | .clo cs,e=>match e with
   | .lit 0=>.jW
   | e=>.fco cs e
def mkS (j:Nat) (a b c:E):E:=
 match a,b,c with
 | .lit x,.lit y,.lit z=>(match bi j (.i x) (.i y) (.i z) (.i 0) with
   | .i n=>.lit n
   | .t _=>.fn (1000+j) a b c (.lit 0))
 | a,b,c=>.fn (1000+j) a b c (.lit 0)
def dQ (a:E):E:=mkS 1 a (.lit 0) (.lit 0)
def AV.code:AV→Option E
 | .sat e=>some e
 | .str l=>some (.lit (KJ l))
 | .wN t n=>some (.fn 1005 t n (.lit 0) (.lit 0))
 | _=>none
inductive Jump where
 | ret
 | exit (id:Nat)
 | goto (l:Nat)
 deriving DecidableEq
def Jump.code:Jump→Code
 | .ret=>.ret
 | .exit id=>.exit id
 | .goto l=>.goto l
inductive Blk where
 | cells (l:List AV) (wr:Bool)
 | rows (ks:List CK) (t len:E) (wr nl:Bool)
 | big (pre:List AV) (ks:List CK) (t:E) (n:Nat) (post:List AV) (wr:Bool)
 | loop (st:LoopState) (pend:Option Jump) (fn ix nt:Nat) (tmps:List (Nat × AV)) (dfr:Nat)
 | dfr (sh:Bool)
 /-- A map's keys and values, in the order of their coming. -/
 | mp (l m:List AV)
 /-- A map of n entries: a row's first w cells are its key (one: a single one, no struct), the next one its value. -/
 | smp (w:Nat) (one:Bool) (ks:List CK) (t n:E)
 /-- A string that is gone through, so far; 1: there is more, 2: there is no more, 0: not known. -/
 | iter (e q:E) (k:Nat)
 /-- A strings.Builder of type t, its text, the block of its bytes. -/
 | bld (t:TypeId) (e:E) (d:Nat)
 /-- A Builder's bytes. -/
 | byt (t:TypeId) (e:E)
 /-- A map from strings to lists, as a table of lists: a row is the key's number; one of them may be a block of its own for now. -/
 | fam (ck:CK) (t:E) (op:Option E)
 /-- Rows of which row h holds these cells. -/
 | ovr (ks:List CK) (t len h:E) (l:List AV) (wr nl:Bool)
def Blk.wr:Blk→Bool
 | .cells _ w=>w
 | .rows _ _ _ w _=>w
 | .big _ _ _ _ _ w=>w
 | .loop ..=>true
 | .dfr _=>true
 | .mp _ _=>true
 | .smp ..=>true
 | .iter ..=>true
 | .bld ..=>true
 | .byt ..=>true
 | .fam ..=>true
 | .ovr _ _ _ _ _ w _=>w
def Blk.wZ:Blk→Bool
 | .fam ..=>true
 | _=>false
abbrev Mem:=List (Nat × Blk)
abbrev qL:=List (Nat × AV)
noncomputable def get {α:Type} (l:List (Nat × α)) (t:Nat):Option α:=
 List.rec (motive:=fun _=>Option α) none (fun x _ r=>Bool.rec (motive:=fun _=>Option α) r (some x.2) (Nat.beq x.1 t)) l
theorem get_nil {α:Type} {t:Nat}:get ([]:List (Nat × α)) t=none:=rfl
theorem ql {α:Type} {k:Nat} {v:α} {l:List (Nat × α)} {t:Nat}:get ((k,v)::l) t=if k=t then some v else get l t:=by
 show Bool.rec (motive:=fun _=>Option α) (get l t) (some v) (Nat.beq k t)=_
 cases h:Nat.beq k t with
 | true=>rw [if_pos (Nat.eq_of_beq_eq_true h)]
 | false=>rw [if_neg (Nat.ne_of_beq_eq_false h)]
noncomputable def del {α:Type} (t:Nat) (l:List (Nat × α)):List (Nat × α):=
 List.rec (motive:=fun _=>List (Nat × α)) [] (fun x _ r=>Bool.rec (motive:=fun _=>List (Nat × α)) (x::r) r (Nat.beq x.1 t)) l
theorem Lj {α:Type} {t:Nat}:del t ([]:List (Nat × α))=[]:=rfl
theorem R8 {α:Type} {k:Nat} {v:α} {l:List (Nat × α)} {t:Nat}:del t ((k,v)::l)=if k=t then del t l else (k,v)::del t l:=by
 show Bool.rec (motive:=fun _=>List (Nat × α)) ((k,v)::del t l) (del t l) (Nat.beq k t)=_
 cases h:Nat.beq k t with
 | true=>rw [if_pos (Nat.eq_of_beq_eq_true h)]
 | false=>rw [if_neg (Nat.ne_of_beq_eq_false h)]
noncomputable def R9 {α:Type} (t:Nat) (l:List (Nat × α)):List (Nat × α):=
 List.rec (motive:=fun _=>List (Nat × α)) [] (fun x l r=>Bool.rec (motive:=fun _=>List (Nat × α)) (x::r) l (Nat.beq x.1 t)) l
theorem Nh {α:Type} {k:Nat} {v:α} {l:List (Nat × α)} {t:Nat}:R9 t ((k,v)::l)=if k=t then l else (k,v)::R9 t l:=by
 show Bool.rec (motive:=fun _=>List (Nat × α)) ((k,v)::R9 t l) l (Nat.beq k t)=_
 cases h:Nat.beq k t with
 | true=>rw [if_pos (Nat.eq_of_beq_eq_true h)]
 | false=>rw [if_neg (Nat.ne_of_beq_eq_false h)]
def put {α:Type} (t:Nat) (v:α) (l:List (Nat × α)):List (Nat × α):=(t,v)::R9 t l
def nI {α:Type} (t:Nat) (v:α) (l:List (Nat × α)):List (Nat × α):=(t,v)::l
def iH {α:Type}:List (Nat × α)→List (Nat × α)→List (Nat × α)
 | [],_=>[]
 | (t,_)::l,m=>match get m t with
   | some v=>(t,v)::iH l m
   | none=>iH l m
inductive DV where
 | blk (b:Nat)
 | fn (f:FuncId) (first cap:List AV)
structure St where
 tmps:qL
 nt:Nat
 defers:List DV
 mem:Mem
 nv:Nat
 nb:Nat
inductive PE where
 | tt (e:E)
 | ff (e:E)
 | rng (k:IntKind) (e:E)
 | same (a b:E)
 | pr (j:Nat) (l:List E)
 | sort (tab:Bool) (e:E)
 /-- The first n rows of a table are bytes. -/
 | byt (t n:E)
 /-- A column's numbers lie so. -/
 | col (t:E) (c:Nat) (lo hi:Int)
 /-- The first n rows of two tables are equal, in w columns. -/
 | agr (t u n:E) (w:Nat)
 deriving DecidableEq
def qh (I:Itp) (env:List D):List E→Option (List D)
 | []=>some []
 | e::l=>match e.den I env,qh I env l with
   | some d,some ds=>some (d::ds)
   | _,_=>none
def PE.den (I:Itp) (env:List D):PE→Prop
 | .tt e=>∃n,e.den I env=some (.i n)∧n≠0
 | .ff e=>e.den I env=some (.i 0)
 | .rng k e=>∃n,e.den I env=some (.i n)∧k.min≤n∧n≤k.max
 | .same a b=>∃d,a.den I env=some d∧b.den I env=some d
 | .pr j l=>∃ds,qh I env l=some ds∧I.pr j ds
 | .sort true e=>∃f,e.den I env=some (.t f)
 | .sort false e=>∃n,e.den I env=some (.i n)
 | .agr t u n w=>∃f g k,t.den I env=some (.t f)∧u.den I env=some (.t g)∧n.den I env=some (.i k)∧∀(r:Int) (c:Nat),0≤r→r<k→c<w→f r c=g r c
 | .col t c lo hi=>∃f,t.den I env=some (.t f)∧∀r:Int,lo≤f r c∧f r c≤hi
 | .byt t n=>∃f k,t.den I env=some (.t f)∧n.den I env=some (.i k)∧∀i:Nat,(i:Int)<k→0≤f i 0∧f i 0≤255
def pW (n:Nat) (σ:List E):Nat→List E→List E→List E
 | _,_,[]=>[]
 | c,r,.var i::l=>bif Nat.ble n i then (match (bif Nat.beq c (i - n) then r else σ.drop (i - n)) with
   | x::r'=>x::pW n σ (i - n+1) r' l
   | []=>.sel (.lit 0) (.lit 0) 0::pW n σ (i - n+1) [] l) else .var i::pW n σ c r l
 | c,r,e::l=>e.subst n σ::pW n σ c r l
theorem gM {n:Nat} {σ:List E}:∀{l:List E} {c:Nat} {r:List E},r=σ.drop c→pW n σ c r l=l.map (E.subst n σ)
 | [],_,_,_=>rfl
 | e::l,c,r,h=>by
   cases e
   case var i=>
     simp only [pW,List.map_cons,E.oC]
     rcases Nat.lt_or_ge i n with hi | hi
     · have hb:Nat.ble n i=false:=by
         cases hb:Nat.ble n i
         · rfl
         · have:=Nat.le_of_ble_eq_true hb;omega
       rw [hb,if_pos hi,cond_false,gM h]
     · rw [Nat.ble_eq_true_of_le hi,if_neg (by omega),cond_true]
       have hq:(bif Nat.beq c (i - n) then r else σ.drop (i - n))=σ.drop (i - n):=by
         cases hb:Nat.beq c (i - n)
         · rfl
         · have:=Nat.eq_of_beq_eq_true hb
           rw [cond_true,h,this]
       rw [hq]
       generalize i - n=j
       cases hd:σ.drop j with
       | nil=>
         have hj:=List.drop_eq_nil_iff.1 hd
         simp only [List.getElem?_eq_none hj,Option.getD_none,gM (List.drop_eq_nil_of_le (show σ.length≤j+1 by omega)).symm]
       | cons x r'=>
         have hj:j<σ.length:=by
           rcases Nat.lt_or_ge j σ.length with h1 | h1
           · exact h1
           · rw [List.drop_eq_nil_of_le h1] at hd;cases hd
         rw [List.drop_eq_getElem_cons hj] at hd
         have h1:σ[j]=x:=by cases hd;rfl
         have h2:r'=σ.drop (j+1):=by cases hd;rfl
         simp only [List.getElem?_eq_getElem hj,h1,Option.getD_some,gM h2]
   all_goals simp only [pW,List.map_cons,gM h]
def PE.subst (n:Nat) (σ:List E):PE→PE
 | .tt e=>.tt (e.subst n σ)
 | .ff e=>.ff (e.subst n σ)
 | .rng k e=>.rng k (e.subst n σ)
 | .same a b=>.same (a.subst n σ) (b.subst n σ)
 | .pr j l=>.pr j (pW n σ 0 σ l)
 | .sort b e=>.sort b (e.subst n σ)
 | .byt t m=>.byt (t.subst n σ) (m.subst n σ)
 | .col t c lo hi=>.col (t.subst n σ) c lo hi
 | .agr t u m w=>.agr (t.subst n σ) (u.subst n σ) (m.subst n σ) w
inductive Tree where
 | ok
 | fail (why:Nat)
 | assert (p:PE) (t:Tree)
 | assume (p:PE) (t:Tree)
 | branch (e:E) (t f:Tree)
 | both (a b:Tree)
 | qo (tab:Bool) (t:Tree)
def Tree.vc (I:Itp):Tree→List D→Prop
 | .ok,_=>True
 | .fail _,_=>False
 | .assert p t,env=>p.den I env∧t.vc I env
 | .assume p t,env=>p.den I env→t.vc I env
 | .branch e t f,env=>(∀n,e.den I env=some (.i n)→n≠0→t.vc I env)∧(e.den I env=some (.i 0)→f.vc I env)
 | .both a b,env=>a.vc I env∧b.vc I env
 | .qo true t,env=>∀f,t.vc I (env++[.t f])
 | .qo false t,env=>∀n,t.vc I (env++[.i n])
def assumes:List PE→Tree→Tree
 | [],t=>t
 | p::l,t=>.assume p (assumes l t)
def rO:List Bool→Tree→Tree
 | [],t=>t
 | b::l,t=>.qo b (rO l t)
def E.ow (c:Nat) (lo hi:Int):E→Bool
 | .zt=>decide (lo≤0) && decide (0≤hi)
 | .kt row=>decide (lo≤row.getD c 0) && decide (row.getD c 0≤hi)
 | .upd t (.lit _) d (.lit n)=>(d != c || (decide (lo≤n) && decide (n≤hi))) && t.ow c lo hi
 | _=>false
def Jh (p:PE) (t:Tree):Tree:=
 match p with
 | .tt (.lit n)=>if n=0 then .fail 1 else t
 | .ff (.lit n)=>if n=0 then t else .fail 2
 | .rng k (.lit n)=>if k.min≤n∧n≤k.max then t else .fail 3
 | .sort false (.lit _)=>t
 | .sort true .zt=>t
 | .col e c lo hi=>if e.ow c lo hi then t else .assert (.col e c lo hi) t
 | p=>.assert p t
def qR:List PE→Tree→Tree
 | [],t=>t
 | p::l,t=>Jh p (qR l t)
def qp (P:Program) (t:TypeId):Option Nat:=(P.info? t).map (·.size)
def wM (P:Program) (t:TypeId):Option Bool:=
 match P.underlying t with
 | some (.struct _) | some (.array _ _)=>some true
 | some _=>some false
 | none=>none
def field? (P:Program) (t:TypeId) (f:Nat):Option Field:=
 match P.underlying t with
 | some (.struct fs)=>fs[f]?
 | _=>none
def ofValue:Value→Option AV
 | .bool b=>some (.bool (.lit (if b then 1 else 0)))
 | .int k n=>some (.int k (.lit n))
 | .pointer none=>some .wY
 | .slice none 0 0=>some .qQ
 | .nilFunc=>some .jW
 | .map none=>some .vO
 | .nilIface=>some .yI
 | .string s=>some (.str s.data.toList)
 | _=>none
def ofValues:List Value→Option (List AV)
 | []=>some []
 | v::l=>match ofValue v,ofValues l with
   | some a,some as=>some (a::as)
   | _,_=>none
def AV.cells:AV→List AV
 | .agg l=>l
 | v=>[v]
def zQ (P:Program) (t:TypeId):Option AV:=
 match (P.info? t).bind (·.zero) with
 | some (.agg cs)=>(ofValues cs.toList).map .agg
 | some v=>ofValue v
 | none=>none
def AV.fT:AV→Bool
 | .big ..=>true
 | _=>false
def AV.isAny:AV→Bool
 | .any=>true
 | _=>false
def evalOp (ts:qL):Operand→Option AV
 | .tmp t=>match get ts t with
   | some v=>if v.isAny then none else some v
   | none=>none
 | .const v=>ofValue v
 | .func f=>some (.func f [])
 | .global g=>some (.gD g 0)
def kindOf:AV→Option CK
 | .int k _=>some (.int k)
 | .bool _=>some .bool
 | .str _=>some .str
 | .wN _ _=>some .str
 | .sat _=>some .str
 | .lst ks _=>some (.lst ks)
 | .fco cs _=>some (.clo cs)
 | _=>none
def jk:List AV→Option (List CK)
 | []=>some []
 | v::l=>match kindOf v,jk l with
   | some k,some ks=>some (k::ks)
   | _,_=>none
def ZM:AV→Option E
 | .int _ e=>some e
 | .bool e=>some e
 | .lst _ e=>some e
 | .fco _ e=>some e
 | v=>v.code
def jR (ks:List CK) (t r:E) (k:Nat):Nat→Option (List AV)
 | 0=>some []
 | n+1=>match ks[k]?,jR ks t r (k+1) n with
   | some c,some l=>some (c.av (j5 t r k)::l)
   | _,_=>none
def j6 (r len:E):List PE:=[.tt (mkBin .le (.lit 0) r),.tt (mkBin .lt r len)]
def kZ (ks:List SK) (e:E):E:=.fn 1014 e (.lit ks.length) (.lit 0) (.lit 0)
def bX (ks:List SK) (e i:E) (k:Nat):Nat→Option (List AV)
 | 0=>some []
 | n+1=>match ks[k]?,bX ks e i (k+1) n with
   | some c,some l=>some (c.ck.av (.fn 1015 e i (.lit ks.length) (.lit k))::l)
   | _,_=>none
inductive Loc where
 | cell (post:Bool) (i:Nat)
 | row (r:E) (c:Nat)
def XM (np w n:Nat) (r:E) (s k:Nat):Option Loc:=
 if w=0 then none else
 match isLit r with
 | some x=>
   if x<0 then none else
   let a:=x.toNat*s+k
   if a<np then some (.cell false a)
   else if a<np+n*w then some (.row (.lit (((a - np) / w:Nat):Int)) ((a - np) % w))
   else some (.cell true (a - np - n*w))
 | none=>if s=w∧np≤k then some (.row (mkAdd r (.lit (((k - np) / w:Nat):Int))) ((k - np) % w)) else none
def jl (l:List AV) (i n:Nat) (ag:Bool):Option AV:=
 if ag then (if i+n≤l.length then some (.agg ((l.drop i).take n)) else none) else l[i]?
def Nr (l:List AV) (s k:Nat) (c:CK):Nat→Option E
 | 0=>some .zt
 | n+1=>match Nr l s k c n,l[n*s+k]? with
   | some t,some v=>match kindOf v,ZM v with
     | some c',some (.lit x)=>if c'=c then some (.upd t (.lit n) 0 (.lit x)) else none
     | _,_=>none
   | _,_=>none
def Bj (q:E) (c n m w:Nat):Bool:=match q with
 | .lit x=>x == 0 && c == 0 && n == m*w && decide (1<m)
 | _=>false
def loadAt (M:Mem) (b:Nat) (r:E) (s k n:Nat) (ag:Bool):Option (AV × List PE):=
 match get M b with
 | some (.cells l _)=>
   match isLit r with
   | some x=>
     if x<0 then none else
     let i:=x.toNat*s+k
     if ag then (if i+n≤l.length then some (.agg ((l.drop i).take n),[]) else none)
     else (l[i]?).map fun v=>(v,[])
   | none=>if ag || s == 0 then none else match (l[k]?).bind kindOf with
     | some c=>(Nr l s k c (l.length / s)).map fun t=>(c.av (j5 t r 0),j6 r (.lit (l.length / s:Nat)))
     | none=>none
 | some (.rows ks t len _ _)=>
   if s=ks.length then
     if ag then (jR ks t r k n).map fun l=>(.agg l,j6 r len)
     else (ks[k]?).map fun c=>(c.av (j5 t r k),j6 r len)
   else none
 | some (.big pre ks t m post _)=>match XM pre.length ks.length m r s k with
   | some (.cell false i)=>(jl pre i n ag).map fun v=>(v,[])
   | some (.cell true i)=>(jl post i n ag).map fun v=>(v,[])
   | some (.row q c)=>if ag then (if Bj q c n m ks.length then some (.big [] ks t m [],[]) else (jR ks t q c n).map fun l=>(.agg l,j6 q (.lit m))) else (ks[c]?).map fun x=>(x.av (j5 t q c),j6 q (.lit m))
   | none=>none
 | some (.ovr ks t len h l _ _)=>if s=ks.length∧l.length=ks.length∧k<ks.length then
     if r=h then (jl l k n ag).map fun v=>(v,j6 r len)
     else if ag then (jR ks t r k n).map fun l=>(.agg l,.tt (mkBin .ne r h)::j6 r len)
     else (ks[k]?).map fun c=>(c.av (j5 t r k),.tt (mkBin .ne r h)::j6 r len)
   else none
 | _=>none
def yB:E→Int→Nat→E→Option E
 | .upd t (.lit y) c w,x,k,v=>if y=x∧c=k then some (.upd t (.lit y) c v) else (yB t x k v).map fun t'=>.upd t' (.lit y) c w
 | .bt b,x,k,v=>match x,v with
   | .ofNat x,.lit y=>(BT.set 64 b x k y).map .bt
   | _,_=>none
 | _,_,_,_=>none
def FL (t r:E) (k:Nat) (v:E):E:=
 match r with
 | .lit x=>match j5 t (.lit x) k with
   | .lit a=>match v with
     | .lit b=>if a=b then t else (yB t x k v).getD (.upd t (.lit x) k v)
     | v=>(yB t x k v).getD (.upd t (.lit x) k v)
   | _=>(yB t x k v).getD (.upd t (.lit x) k v)
 | r=>.upd t r k v
def yP (ks:List CK) (t r:E) (k:Nat):List AV→Option E
 | []=>some t
 | v::l=>match ks[k]?,kindOf v,ZM v with
   | some c,some c',some e=>if c=c' then yP ks (FL t r k e) r (k+1) l else none
   | _,_,_=>none
def AV.isZero:AV→Bool
 | .int _ (.lit n)=>n == 0
 | .bool (.lit n)=>n == 0
 | .str l=>l.isEmpty
 | _=>false
def ovl {α:Type}:List α→List α→List α
 | [],_=>[]
 | a::l,[]=>a::l
 | _::l,v::vs=>v::ovl l vs
def yu {α:Type}:List α→Nat→List α→List α
 | [],_,_=>[]
 | a::l,0,vs=>ovl (a::l) vs
 | a::l,i+1,vs=>a::yu l i vs
theorem wP {α:Type}:∀{l:List α} {i:Nat},yu l i []=l
 | [],_=>rfl
 | _::_,0=>rfl
 | a::l,i+1=>by show a::yu l i []=_;rw [wP]
theorem yC {α:Type} {v:α} {vs:List α}:∀{l:List α} {i:Nat},yu l i (v::vs)=yu (l.set i v) (i+1) vs
 | [],_=>rfl
 | a::l,0=>by
   show v::ovl l vs=v::yu l 0 vs
   cases l <;> rfl
 | a::l,i+1=>by
   show a::yu l i (v::vs)=a::yu (l.set i v) (i+1) vs
   rw [yC]
def AV.one:AV→Bool
 | .agg _ | .tup _ | .undef | .any | .big ..=>false
 | _=>true
def storeAt (M:Mem) (b:Nat) (r:E) (s k:Nat) (vs:List AV):Option (Mem × List PE):=
 if !vs.all AV.one then none else
 match get M b with
 | some (.cells l true)=>
   match isLit r with
   | some x=>
     if x<0 then none else
     let i:=x.toNat*s+k
     if i+vs.length≤l.length then some (put b (.cells (yu l i vs) true) M,[]) else none
   | none=>none
 | some (.rows ks t len true nl)=>
   if s=ks.length then (yP ks t r k vs).map fun t'=>(put b (.rows ks t' len true nl) M,j6 r len)
   else none
 | some (.big pre ks t m post true)=>match XM pre.length ks.length m r s k with
   | some (.cell false i)=>if i+vs.length≤pre.length then some (put b (.big (yu pre i vs) ks t m post true) M,[]) else none
   | some (.cell true i)=>if i+vs.length≤post.length then some (put b (.big pre ks t m (yu post i vs) true) M,[]) else none
   | some (.row q c)=>(yP ks t q c vs).map fun t'=>(put b (.big pre ks t' m post true) M,j6 q (.lit m))
   | none=>none
 | some (.ovr ks t len h l true nl)=>if s=ks.length∧l.length=ks.length∧k+vs.length≤ks.length then
     if r=h then some (put b (.ovr ks t len h (yu l k vs) true nl) M,j6 r len)
     else (yP ks t r k vs).map fun t'=>(put b (.ovr ks t' len h l true nl) M,.tt (mkBin .ne r h)::j6 r len)
   else none
 | _=>none
def ZW (i:Nat) (t:E):List UInt8→E
 | []=>t
 | b::l=>ZW (i+1) (.upd t (.lit i) 0 (.lit b.toNat)) l
def Yd (l:List UInt8):E:=ZW 0 .zt l
def AV.oK:AV→Option (E × E)
 | .str l=>some (Yd l,.lit l.length)
 | .wN t n=>some (t,n)
 | _=>none
def ZJ (t u:E):Nat→E
 | 0=>.lit 1
 | k+1=>mkBin .and (ZJ t u k) (mkBin .eq (j5 t (.lit k) 0) (j5 u (.lit k) 0))
def VZ (t n u m:E):E:=
 match n,m with
 | .lit a,.lit b=>if a≠b then .lit 0 else if 0≤a∧a≤16 then ZJ t u a.toNat else .teq t (.lit a) u (.lit b)
 | n,m=>.teq t n u m
def Cv (t n:E):E:=
 match n with
 | .lit 0=>t
 | n=>.sh t n
def rP (t:E):Nat→Option (List UInt8)
 | 0=>some []
 | k+1=>match rP t k,j5 t (.lit k) 0 with
   | some l,.lit x=>if 0≤x∧x≤255 then some (l++[UInt8.ofNat x.toNat]) else none
   | _,_=>none
def toStr (t n:E):AV × List PE:=
 match n with
 | .lit k=>if 0≤k∧k≤64 then match rP t k.toNat with
     | some l=>(.str l,[])
     | none=>(.wN t (.lit k),[.byt t (.lit k)])
   else (.wN t (.lit k),[.byt t (.lit k)])
 | n=>(.wN t n,[.byt t n])
def AV.GR:AV→Option (E × E)
 | .sat e=>some (.fn 1006 e (.lit 0) (.lit 0) (.lit 0),dQ e)
 | v=>v.oK
def ou (M:Mem) (v:AV):Option (AV × List PE):=
 match v with
 | .qQ | .cap0 | .mg | .empty=>some (.str [],[])
 | .slice b lo n s _=>match get M b with
   | some (.rows ks t len _ _)=>if ks=[.int .u8]∧s=1 then some ((toStr (Cv t lo) n).1,.tt (mkBin .le (mkAdd lo n) len)::(toStr (Cv t lo) n).2) else none
   | _=>none
 | _=>none
def Yf (o:BinOp) (x y:AV):Option (AV × List PE):=
 match x,y with
 | .str l,.str m=>match o with
   | .eql=>some (.bool (.lit (if l=m then 1 else 0)),[])
   | .neq=>some (.bool (.lit (if l=m then 0 else 1)),[])
   | .add=>if l.length+m.length≤1000000 then some (.str (l++m),[]) else none
   | _=>none
 | x,y=>match x.oK,y.oK with
   | some (t,n),some (u,m)=>match o with
     | .eql=>some (.bool (VZ t n u m),[])
     | .neq=>some (.bool (mkBin .eq (VZ t n u m) (.lit 0)),[])
     | .add=>some (.wN (.cat t n u) (mkAdd n m),[.tt (mkBin .le (mkAdd n m) (.lit 1000000))])
     | _=>none
   | _,_=>none
def WL (e:E):E:=mkBin .ne e (.lit 0)
def notE (e:E):E:=mkBin .eq e (.lit 0)
def arith (k:IntKind) (e:E):AV × List PE:=
 match e with
 | .lit n=>(.int k (.lit (k.wrap n)),[])
 | e=>if k.signed=true then (.int k e,[.rng k e]) else (.int k (.wrap k e),[])
def bitsOf:BinOp→Option Nat
 | .and=>some 0
 | .or=>some 1
 | .xor=>some 2
 | .andNot=>some 3
 | .shl=>some 4
 | .shr=>some 5
 | .quo=>some 6
 | _=>none
def uX:Option TypeDesc→Bool
 | some (.int _)=>true
 | _=>false
def ny:Option TypeDesc→Bool
 | some .bool=>true
 | _=>false
def dV (P:Program):Nat→List Field→List AV→List AV→Option E
 | _,[],[],[]=>some (.lit 1)
 | o,f::fs,.int k a::l,.int k' b::m=>
   if k=k'∧(f.name == "_")=false∧f.offset=o∧uX (P.underlying f.type)=true then (dV P (o+1) fs l m).map fun e=>mkBin .and (mkBin .eq a b) e else none
 | o,f::fs,.bool a::l,.bool b::m=>
   if (f.name == "_")=false∧f.offset=o∧ny (P.underlying f.type)=true then (dV P (o+1) fs l m).map fun e=>mkBin .and (mkBin .eq (WL a) (WL b)) e else none
 | _,_,_,_=>none
def WK (P:Program) (t:TypeId) (x y:AV):Option E:=
 match x,y with
 | .int k a,.int k' b=>if k=k' then some (mkBin .eq a b) else none
 | .bool a,.bool b=>match P.underlying t with
   | some .bool=>some (mkBin .eq (WL a) (WL b))
   | _=>none
 | .wY,.wY=>match P.underlying t with
   | some (.pointer _)=>some (.lit 1)
   | _=>none
 | .ptr ..,.wY=>match P.underlying t with
   | some (.pointer _)=>some (.lit 0)
   | _=>none
 | .wY,.ptr ..=>match P.underlying t with
   | some (.pointer _)=>some (.lit 0)
   | _=>none
 | .yV ..,.jW=>match P.underlying t with
   | some (.func ..)=>some (.lit 0)
   | _=>none
 | .func ..,.jW=>match P.underlying t with
   | some (.func ..)=>some (.lit 0)
   | _=>none
 | .jW,.jW=>match P.underlying t with
   | some (.func ..)=>some (.lit 1)
   | _=>none
 | .fco _ e,.jW=>match P.underlying t with
   | some (.func ..)=>some (mkBin .eq e (.lit 0))
   | _=>none
 | .slice _ _ n _ nl,.qQ=>match P.underlying t with
   | some (.slice _)=>if nl=false then some (.lit 0) else match n with
     | .lit m=>if 0<m then some (.lit 0) else none
     | _=>none
   | _=>none
 | .cap0,.qQ | .empty,.qQ | .asl ..,.qQ=>match P.underlying t with
   | some (.slice _)=>some (.lit 0)
   | _=>none
 | .qQ,.qQ=>match P.underlying t with
   | some (.slice _)=>some (.lit 1)
   | _=>none
 | .agg l,.agg m=>match P.underlying t with
   | some (.struct fs)=>
     if P.stoodInHeld t=false∧P.eqGuardType P.depth t=false then dV P 0 fs.toList l m else none
   | _=>none
 | _,_=>none
def Mw (P:Program) (o:BinOp) (t:TypeId) (x y:AV):Option (AV × List PE):=
 match o,x,y with
 | .eql,x,y=>(WK P t x y).map fun e=>(.bool e,[])
 | .neq,x,y=>(WK P t x y).map fun e=>(.bool (notE e),[])
 | .add,.int k a,.int k' b=>if k=k' then some (arith k (mkAdd a b)) else none
 | .sub,.int k a,.int k' b=>if k=k' then some (arith k (mkSub a b)) else none
 | .mul,.int k a,.int k' b=>if k=k' then some (arith k (mkBin .mul a b)) else none
 | .rem,.int k a,.int k' (.lit n)=>if k=k'∧n≠0 then some (.int k (mkBin .tmod a (.lit n)),[]) else none
 | .rem,.int k a,.int k' b=>if k=k' then some (.int k (mkBin .tmod a b),[.tt (mkBin .ne b (.lit 0))]) else none
 | .lss,.int k a,.int k' b=>if k=k' then some (.bool (mkBin .lt a b),[]) else none
 | .leq,.int k a,.int k' b=>if k=k' then some (.bool (mkBin .le a b),[]) else none
 | .gtr,.int k a,.int k' b=>if k=k' then some (.bool (mkBin .lt b a),[]) else none
 | .geq,.int k a,.int k' b=>if k=k' then some (.bool (mkBin .le b a),[]) else none
 | o,.int k a,.int k' b=>match bitsOf o with
   | some j=>
     if j<4 then (if k=k' then some (.int k (mkBin (.bits j k) a b),[]) else none)
     else if j<6 then some (.int k (mkBin (.bits j k) a b),[.tt (mkBin .le (.lit 0) b)])
     else if k=k' then some (.int k (mkBin (.bits j k) a b),[.tt (mkBin .ne b (.lit 0))]) else none
   | none=>none
 | _,_,_=>none
def wU (place:Nat→Option (Nat × Nat)) (cells:List AV):List (Nat × AV)→Option (List AV)
 | []=>some cells
 | (i,v)::rest=>
   match place i with
   | none=>none
   | some (off,size)=>
     if v.cells.length≠size∨off+v.cells.length > cells.length then none
     else wU place (yu cells off v.cells) rest
def kM (P:Program):List Field→Option (List (Nat × Nat))
 | []=>some []
 | f::fs=>match qp P f.type,kM P fs with
   | some s,some l=>some ((f.offset,s)::l)
   | _,_=>none
def jO (ts:qL):List (Nat × Operand)→Option (List (Nat × AV))
 | []=>some []
 | (i,x)::l=>match evalOp ts x,jO ts l with
   | some v,some vs=>if v.fT then none else some ((i,v)::vs)
   | _,_=>none
def vX (ts:qL):List Operand→Option (List AV)
 | []=>some []
 | x::l=>match evalOp ts x,vX ts l with
   | some v,some vs=>some (v::vs)
   | _,_=>none
structure Big where
 t:TypeId
 np:Nat
 ks:List CK
 n:Nat
def zq:List CK→List Value→Option (List Value)
 | [],l=>some l
 | .int k::ks,.int k' n::l=>if k=k'∧n=0 then zq ks l else none
 | .bool::ks,.bool b::l=>match b with
   | false=>zq ks l
   | true=>none
 | _::_,_=>none
def nO (ks:List CK):Nat→List Value→Option (List Value)
 | 0,l=>some l
 | n+1,l=>match zq ks l with
   | some l=>nO ks n l
   | none=>none
def fQ:Nat→List Value→List Value→Option (List Value × List Value)
 | 0,acc,l=>some (acc.reverse,l)
 | n+1,acc,v::l=>fQ n (v::acc) l
 | _+1,_,[]=>none
def oZ (bg:List Big) (t:TypeId):Option Big:=bg.find? fun b=>b.t == t
def yG (P:Program) (b:Big):Option (List AV × List AV):=
 match (P.info? b.t).bind (·.zero) with
 | some (.agg cs)=>match fQ b.np [] cs.toList with
   | some (l,m)=>match nO b.ks b.n m with
     | some q=>match ofValues l,ofValues q with
       | some l,some q=>some (l,q)
       | _,_=>none
     | none=>none
   | none=>none
 | _=>none
def dX (place:Nat→Option (Nat × Nat)) (m:Nat) (pre post:List AV):List (Nat × AV)→Option (List AV × List AV)
 | []=>some (pre,post)
 | (i,v)::rest=>
   match place i with
   | none=>none
   | some (off,size)=>
     if v.cells.length≠size then none
     else if off+size≤pre.length then dX place m (yu pre off v.cells) post rest
     else if pre.length+m≤off∧off - (pre.length+m)+size≤post.length then dX place m pre (yu post (off - (pre.length+m)) v.cells) rest
     else none
def bG (ts:qL):Option Operand→Option (Option Int)
 | none=>some none
 | some x=>match evalOp ts x with
   | some (.int _ (.lit n))=>some (some n)
   | _=>none
def Q8 (P:Program) (el:TypeId) (x:AV) (lo hi mx:Option Int):Option (AV × List PE):=
 match qp P el with
 | none=>none
 | some sz=>match x with
   | .slice b l len s nl=>
     if s≠sz then none else
     let a:=lo.getD 0
     match hi,mx with
     | none,none=>match len with
       | .lit n=>if 0≤a∧a≤n then (if a=0 then some (x,[]) else if a=n then (if nl then none else some (.empty,[])) else some (.slice b (mkAdd l (.lit a)) (.lit (n - a)) s nl,[])) else none
       | _=>if a=0 then some (x,[]) else none
     | some h,none=>
       if 0≤a∧a≤h then
         if a=h∧a≠0 then if nl then none else some (.empty,[.tt (mkBin .le (.lit h) len)])
         else some (.slice b (mkAdd l (.lit a)) (.lit (h - a)) s nl,[.tt (mkBin .le (.lit h) len)])
       else none
     | some h,some m=>
       if 0≤a∧a≤h∧h≤m then
         if m=a then if nl then (if a=0 then some (.mg,[.tt (mkBin .le (.lit m) len)]) else none) else some (.cap0,[.tt (mkBin .le (.lit m) len)])
         else if a=h∧a≠0 then if nl then none else some (.empty,[.tt (mkBin .le (.lit m) len)])
         else some (.slice b (mkAdd l (.lit a)) (.lit (h - a)) s nl,[.tt (mkBin .le (.lit m) len)])
       else none
     | none,some _=>none
   | .qQ=>if lo.getD 0=0∧hi.getD 0=0∧mx.getD 0=0∧(mx.isNone || hi.isSome)=true then some (.qQ,[]) else none
   | .cap0=>if lo.getD 0=0∧hi.getD 0=0∧mx.getD 0=0∧(mx.isNone || hi.isSome)=true then some (.cap0,[]) else none
   | .lst _ _=>if lo.getD 0=0∧hi=some 0∧mx=some 0 then some (.mg,[]) else none
   | .empty=>if lo.getD 0=0∧hi=some 0∧mx=some 0 then some (.cap0,[]) else if lo.getD 0=0∧hi.getD 0=0∧mx=none then some (.empty,[]) else none
   | _=>none
def iq (P:Program) (el:TypeId) (n:Nat) (x:AV) (lo hi mx:Option Int):Option (AV × List PE):=
 match qp P el,x,mx with
 | some sz,.ptr b (.lit 0) _ k,none=>
   let a:=lo.getD 0
   let h:=hi.getD n
   if 0≤a∧a<h∧h≤n then some (.asl b (k+a.toNat*sz) (h - a).toNat sz,[]) else none
 | _,_,_=>none
structure Glob where
 g:Nat
 k:CK
 l:List Int
 /-- An interface, nil or not. -/
 ifc:Bool:=false
 /-- The list is all of it. -/
 full:Bool:=false
 /-- Some number. -/
 ity:Bool:=false
def Xu (gl:List Glob) (g k:Nat):Option AV:=
 match gl.find? fun x=>x.g == g with
 | some x=>(x.l[k]?).map fun n=>x.k.av (.lit n)
 | none=>none
def Zg (gl:List Glob) (g k n:Nat):Option (List AV):=
 match gl.find? fun x=>x.g == g with
 | some x=>if k+n≤x.l.length then some (((x.l.drop k).take n).map fun m=>x.k.av (.lit m)) else none
 | none=>none
structure Kn where
 Q5:List Big:=[]
 globs:List Glob:=[]
 /-- Sums wrap: nothing is asked of them. -/
 wrp:Bool:=false
 /-- Slices of cells whose columns are read as tables. -/
 tab:List TypeId:=[]
 /-- strings.Builder, and bytes. -/
 bld:TypeId × TypeId:=(0,0)
 /-- Structs of a strings.Builder alone. -/
 qwS:List TypeId:=[]
 /-- Arrays of which an unknown element is looked for one by one. -/
 arr:List (TypeId × Nat):=[]
def Kn.RQ (kn:Kn) (t:TypeId):Bool:=t == kn.bld.1 || kn.qwS.contains t
def Kn.skips (kn:Kn):Op→Bool
 | .indexAddr t _ _=>kn.tab.contains t
 | _=>false
def jw (P:Program) (kn:Kn) (ts:qL) (M:Mem) (o:Op):Option (AV × List PE):=
 match o with
 | .move x | .assign x=>(evalOp ts x).map fun v=>(v,[])
 | .pick c a b=>match evalOp ts c with
   | some (.bool (.lit n))=>(if n=0 then evalOp ts b else evalOp ts a).map fun v=>(v,[])
   | _=>none
 | .load t a=>match evalOp ts a,wM P t,qp P t with
   | some (.ptr b r s k),some ag,some n=>loadAt M b r s k n ag
   | some (.gD g k),some false,some _=>(Xu kn.globs g k).map fun v=>(v,[])
   | some (.gD g k),some true,some n=>(Zg kn.globs g k n).map fun l=>(.agg l,[])
   | some (.vT a),some false,some _=>some (a,[])
   | some (.xg ks e i k),some true,some n=>(bX ks e i k n).map fun l=>(.agg l,[])
   | some (.xg ks e i k),some false,some _=>(ks[k]?).map fun c=>(c.ck.av (.fn 1015 e i (.lit ks.length) (.lit k)),[])
   | _,_,_=>none
 | .nilCheck x=>match evalOp ts x with
   | some (.ptr b r s k)=>some (.ptr b r s k,[])
   | some (.gD g k)=>some (.gD g k,[])
   | some (.xg ks e i k)=>some (.xg ks e i k,[])
   | _=>none
 | .binOp o t x y _=>match evalOp ts x,evalOp ts y with
   | some v,some u=>Mw P o t v u
   | _,_=>none
 | .unOp .not _ x=>match evalOp ts x with
   | some (.bool e)=>some (.bool (notE e),[])
   | _=>none
 | .unOp .xor _ x=>match evalOp ts x with
   | some (.int k e)=>some (.int k (mkBin (.bits 2 k) (.lit (if k.signed then -1 else k.max)) e),[])
   | _=>none
 | .unOp .neg _ x=>match evalOp ts x with
   | some (.int k e)=>some (arith k (mkBin .sub (.lit 0) e))
   | _=>none
 | .convert src dst x=>match evalOp ts x,P.underlying dst,P.underlying src with
   | some (.int _ e),some (.int k),some _=>some (.int k (mkWrap k e),[])
   | _,_,_=>none
 | .makeFunc (.func f) first cap=>match vX ts first.toList,vX ts cap.toList with
   | some [],some l=>some (.func f l,[])
   | some m,some l=>some (.yV f m l,[])
   | _,_=>none
 | .fieldAddr t x f=>match evalOp ts x,field? P t f with
   | some (.ptr b r s k),some fd=>match qp P fd.type with
     | some (_+1)=>some (.ptr b r s (k+fd.offset),[])
     | _=>none
   | some (.xg ks e i k),some fd=>match qp P fd.type with
     | some (_+1)=>some (.xg ks e i (k+fd.offset),[])
     | _=>none
   | _,_=>none
 | .field t x f=>match evalOp ts x,field? P t f with
   | some (.agg l),some fd=>match wM P fd.type,qp P fd.type with
     | some true,some n=>if fd.offset+n≤l.length then some (.agg ((l.drop fd.offset).take n),[]) else none
     | some false,some _=>(l[fd.offset]?).map fun v=>(v,[])
     | _,_=>none
   | _,_=>none
 | .indexAddr t x i=>match evalOp ts x,evalOp ts i,P.underlying t with
   | some (.slice b lo len s _),some (.int _ e),some (.slice el)=>
     if qp P el=some s then some (.ptr b (mkAdd lo e) s 0,j6 e len) else none
   | some (.ptr b r s k),some (.int _ (.lit x)),some (.array n el)=>match qp P el with
     | some z=>if 0≤x∧x<n then some (.ptr b r s (k+x.toNat*z),[]) else none
     | none=>none
   | some (.ptr b (.lit 0) _ k),some (.int _ e),some (.array n el)=>match qp P el with
     | some z=>some (.ptr b e z k,j6 e (.lit n))
     | none=>none
   | some (.gD g k),some (.int _ (.lit x)),some (.array n el)=>match qp P el with
     | some z=>if 0≤x∧x<n then some (.gD g (k+x.toNat*z),[]) else none
     | none=>none
   | some (.asl b k n s),some (.int _ (.lit x)),some (.slice el)=>
     if qp P el=some s∧0≤x∧x<n then some (.ptr b (.lit 0) 0 (k+x.toNat*s),[]) else none
   | some (.lst ks q),some (.int _ e),some (.slice el)=>
     if qp P el=some ks.length then some (.xg ks q e 0,j6 e (kZ ks q)) else none
   | _,_,_=>none
 | .index t x i=>match evalOp ts x,evalOp ts i,P.underlying t with
   | some (.str l),some (.int _ (.lit j)),some .string=>if 0≤j then (l[j.toNat]?).map fun b=>(.int .u8 (.lit b.toNat),[]) else none
   | some (.agg l),some (.int _ (.lit j)),some (.array n el)=>match wM P el,qp P el with
     | some ag,some z=>if 0≤j∧j<n then (jl l (j.toNat*z) z ag).map fun v=>(v,[]) else none
     | _,_=>none
   | some (.big [] ks t' m []),some (.int _ e),some (.array n el)=>match wM P el,qp P el with
     | some true,some z=>if z=ks.length∧n=m then (jR ks t' e 0 z).map fun l=>(.agg l,j6 e (.lit m)) else none
     | _,_=>none
   | _,_,_=>none
 | .extract x i=>match evalOp ts x with
   | some (.tup l)=>(l[i]?).map fun v=>(v,[])
   | _=>none
 | .slice t x lo hi mx=>match evalOp ts x,P.underlying t with
   | some v,some (.slice el)=>match v,lo,hi,mx with
     | .slice b l len s nl,none,some h,none=>match evalOp ts h,qp P el with
       | some (.int _ e),some _=>some (.slice b l e s nl,[.tt (mkBin .le (.lit 0) e),.tt (mkBin .le e len)])
       | _,_=>none
     | v,lo,hi,mx=>match bG ts lo,bG ts hi,bG ts mx with
       | some a,some h,some m=>Q8 P el v a h m
       | _,_,_=>none
   | some v,some (.array n el)=>match bG ts lo,bG ts hi,bG ts mx with
     | some a,some h,some m=>iq P el n v a h m
     | _,_,_=>none
   | _,_=>none
 | .build t parts=>if (oZ kn.Q5 t).isSome then
     match oZ kn.Q5 t,jO ts parts.toList,P.underlying t with
     | some b,some ps,some (.struct fs)=>match yG P b,kM P fs.toList with
       | some (pre,post),some pl=>(dX (fun i=>pl[i]?) (b.n*b.ks.length) pre post ps).map fun (l,m)=>(.big l b.ks .zt b.n m,[])
       | _,_=>none
     | some b,some [],some (.array _ el)=>if (qp P el).isSome then (yG P b).map fun (l,m)=>(.big l b.ks .zt b.n m,[]) else none
     | _,_,_=>none
   else match zQ P t,jO ts parts.toList,P.underlying t with
   | some z,some ps,some (.struct fs)=>match kM P fs.toList with
     | some pl=>(wU (fun i=>pl[i]?) z.cells ps).map fun l=>(.agg l,[])
     | none=>none
   | some z,some ps,some (.array _ el)=>match qp P el with
     | some sz=>(wU (fun i=>some (i*sz,sz)) z.cells ps).map fun l=>(.agg l,[])
     | none=>none
   | _,_,_=>none
 | .call { callee:=.builtin .len,args,argTypes }=>match args.toList,argTypes.toList with
   | [x],[t]=>match evalOp ts x,P.underlying t with
     | some (.slice _ _ len _ _),some (.slice _)=>some (.int .i64 len,[])
     | some .qQ,some (.slice _)=>some (.int .i64 (.lit 0),[])
     | some .cap0,some (.slice _)=>some (.int .i64 (.lit 0),[])
     | some .empty,some (.slice _)=>some (.int .i64 (.lit 0),[])
     | some (.asl _ _ n _),some (.slice _)=>some (.int .i64 (.lit n),[])
     | some (.lst ks q),some (.slice el)=>if qp P el=some ks.length∧ks≠[] then some (.int .i64 (kZ ks q),[]) else none
     | some (.str l),some .string=>some (.int .i64 (.lit l.length),[])
     | _,_=>none
   | _,_=>none
 | .call { callee:=.builtin .cap,args,argTypes }=>match args.toList,argTypes.toList with
   | [x],[t]=>match evalOp ts x,P.underlying t with
     | some .qQ,some (.slice _)=>some (.int .i64 (.lit 0),[])
     | some .cap0,some (.slice _)=>some (.int .i64 (.lit 0),[])
     | _,_=>none
   | _,_=>none
 | .call { callee:=.builtin .min,args,argTypes:=_ }=>match args.toList with
   | [x,y]=>match evalOp ts x,evalOp ts y with
     | some (.int k a),some (.int k' b)=>if k=k' then some (.int k (mkBin .min a b),[]) else none
     | _,_=>none
   | _=>none
 | .call { callee:=.builtin .max,args,argTypes:=_ }=>match args.toList with
   | [x,y]=>match evalOp ts x,evalOp ts y with
     | some (.int k a),some (.int k' b)=>if k=k' then some (.int k (mkBin .max a b),[]) else none
     | _,_=>none
   | _=>none
 | _=>none
def rU (ts:qL):Option Operand→Option (Option E)
 | none=>some none
 | some x=>match evalOp ts x with
   | some (.int _ e)=>some (some e)
   | _=>none
def u6 (x:AV) (lo hi:Option E):Option (AV × List PE):=
 match x with
 | .slice b l len s _=>
   let a:=lo.getD (.lit 0)
   let h:=hi.getD len
   some (.slice b (mkAdd l a) (mkSub h a) s true,[.tt (mkBin .le (.lit 0) a),.tt (mkBin .le a h),.tt (mkBin .le h len)])
 | _=>none
def Gm (P:Program) (eq:TypeId→AV→AV→Option E) (l m:List AV):List Field→Option E
 | []=>some (.lit 1)
 | f::fs=>if f.name = "_" then none else match wM P f.type,qp P f.type with
   | some ag,some n=>match jl l f.offset n ag,jl m f.offset n ag with
     | some v,some u=>match eq f.type v u,Gm P eq l m fs with
       | some e,some e'=>some (mkBin .and e e')
       | _,_=>none
     | _,_=>none
   | _,_=>none
def Gn (eq:AV→AV→Option E) (l m:List AV) (n:Nat) (ag:Bool):Nat→Nat→Option E
 | _,0=>some (.lit 1)
 | i,k+1=>match jl l (i*n) n ag,jl m (i*n) n ag with
   | some v,some u=>match eq v u,Gn eq l m n ag (i+1) k with
     | some e,some e'=>some (mkBin .and e e')
     | _,_=>none
   | _,_=>none
def lQ (P:Program):Nat→TypeId→AV→AV→Option E
 | 0,_,_,_=>none
 | d+1,t,v,u=>match P.underlying t with
   | some (.int _)=>match v,u with
     | .int k a,.int k' b=>if k=k' then some (mkBin .eq a b) else none
     | _,_=>none
   | some .bool=>match v,u with
     | .bool a,.bool b=>some (mkBin .eq (WL a) (WL b))
     | _,_=>none
   | some .string=>match v,u with
     | .str l,.str m=>some (.lit (if l=m then 1 else 0))
     | v,u=>match v.oK,u.oK with
       | some (t,n),some (u,m)=>some (VZ t n u m)
       | _,_=>match v.code,u.code with
         | some a,some b=>some (mkBin .eq a b)
         | _,_=>none
   | some (.struct fs)=>match v,u with
     | .agg l,.agg m=>if P.stoodInHeld t=false then Gm P (lQ P d) l m fs.toList else none
     | _,_=>none
   | some (.array len el)=>match v,u with
     | .agg l,.agg m=>match wM P el,qp P el with
       | some ag,some n=>Gn (lQ P d el) l m n ag 0 len
       | _,_=>none
     | _,_=>none
   | _=>none
def XT (P:Program) (o:BinOp) (t:TypeId) (v u:AV):Option (AV × List PE):=
 match v,u with
 | .agg l,.agg m=>if P.eqGuardType P.depth t=false then match o,lQ P 20 t (.agg l) (.agg m) with
     | .eql,some e=>some (.bool e,[])
     | .neq,some e=>some (.bool (notE e),[])
     | _,_=>none
   else none
 | _,_=>none
def AV.flat:AV→Bool
 | .str _=>true
 | .int _ (.lit _)=>true
 | _=>false
def fA (P:Program) (l:List AV) (f:Field):Bool:=
 f.name != "_" && (match P.underlying f.type with
   | some .string=>true
   | some (.int _)=>true
   | _=>false) && wM P f.type == some false && qp P f.type == some 1 && decide (f.offset<l.length)
def fP (P:Program) (t:TypeId) (v:AV):Bool:=
 match P.underlying t,v with
 | some .string,.str _=>true
 | some (.int _),.int _ (.lit _)=>true
 | some (.struct fs),.agg l=>l.all AV.flat && fs.toList.all (fA P l)
 | _,_=>false
def AV.Fv:AV→AV→Bool
 | .str l,.str m=>l == m
 | .int k (.lit n),.int k' (.lit n')=>k == k' && n == n'
 | _,_=>false
def oU:List AV→List AV→Bool
 | [],[]=>true
 | v::l,u::m=>v.Fv u && oU l m
 | _,_=>false
def AV.Pf:AV→AV→Bool
 | .agg l,.agg m=>oU l m
 | v,u=>v.Fv u
def kU (P:Program) (t:TypeId) (k:AV):List AV→Nat→Option (Option Nat)
 | [],_=>some none
 | x::l,i=>match lQ P 20 t k x with
   | some (.lit n)=>if n=0 then kU P t k l (i+1) else some (some i)
   | _=>none
def mapOf (M:Mem):AV→Option (List AV × List AV)
 | .vO=>some ([],[])
 | .mref b=>match get M b with
   | some (.mp l m)=>some (l,m)
   | _=>none
 | _=>none
def xM (P:Program) (t:TypeId) (k:CK):Bool:=
 match P.underlying t,k with
 | some .string,.str=>true
 | some (.int j),.int j'=>j == j'
 | _,_=>false
def nC (P:Program):Nat→List Field→List CK→Bool
 | _,[],[]=>true
 | o,f::fs,k::ks=>f.name != "_" && xM P f.type k && wM P f.type == some false && qp P f.type == some 1 && f.offset == o && nC P (o+1) fs ks
 | _,_,_=>false
def Xd (P:Program) (t:TypeId) (w:Nat) (one:Bool) (ks:List CK):Bool:=
 decide (ks.length=w+1) && (if one then w == 1 && (match ks with
   | k::_=>xM P t k
   | []=>false) else match P.underlying t with
   | some (.struct fs)=>P.stoodInHeld t == false && nC P 0 fs.toList (ks.take w)
   | _=>false)
def Xf (w:Nat) (one:Bool) (ks:List CK) (k:AV):Option E:=
 match one,k with
 | true,.agg _=>none
 | true,v=>if w=1 then yP ks .zt (.lit 0) 0 [v] else none
 | false,.agg l=>if l.length=w then yP ks .zt (.lit 0) 0 l else none
 | false,_=>none
def G7 (P:Program) (t:TypeId) (c:CK):Bool:=
 match zQ P t with
 | some z=>kindOf z == some c && z.isZero
 | none=>false
def Y2 (t n u:E) (w:Nat):E:=.fn 1008 t n u (.lit w)
def Zx (P:Program) (kt et:TypeId) (w:Nat) (one:Bool) (ks:List CK) (t n:E) (k:AV) (ok:Bool):Option (AV × List PE):=
 if Xd P kt w one ks then match Xf w one ks k,ks[w]? with
   | some u,some c=>if G7 P et c then
       let i:=Y2 t n u w
       let is:=mkBin .le (.lit 0) i
       let y:=c.av (mkS 0 is (j5 t i w) (.lit 0))
       some (if ok then .tup [y,.bool is] else y,[])
     else none
   | _,_=>none
 else none
def sU (P:Program) (s:St) (kt:TypeId) (b w:Nat) (one:Bool) (ks:List CK) (t n:E) (k v:AV):Option (AV × St × List PE):=
 if Xd P kt w one ks then match Xf w one ks k,ks[w]?,kindOf v,ZM v with
   | some u,some c,some c',some e=>if c=c' then
       let i:=Y2 t n u w
       some (.undef,{ s with mem:=put b (.smp w one ks (.fn 1009 t n (FL u (.lit 0) w e) (.lit w)) (mkS 0 (mkBin .le (.lit 0) i) n (mkAdd n (.lit 1)))) s.mem },[])
     else none
   | _,_,_,_=>none
 else none
def bV (P:Program) (M:Mem) (kt et:TypeId) (v k:AV) (ok:Bool):Option (AV × List PE):=
 if fP P kt k then match mapOf M v with
   | some (l,m)=>match kU P kt k l 0 with
     | some (some j)=>(m[j]?).map fun y=>(if ok then .tup [y,.bool (.lit 1)] else y,[])
     | some none=>(zQ P et).map fun z=>(if ok then .tup [z,.bool (.lit 0)] else z,[])
     | none=>none
   | none=>none
 else none
def dA (P:Program) (s:St) (kt:TypeId) (b:Nat) (k v:AV):Option (AV × St × List PE):=
 if fP P kt k then match get s.mem b with
   | some (.mp l m)=>match kU P kt k l 0 with
     | some (some j)=>match l[j]? with
       | some k'=>if k'.Pf k then some (.undef,{ s with mem:=put b (.mp l (m.set j v)) s.mem },[]) else none
       | none=>none
     | some none=>some (.undef,{ s with mem:=put b (.mp (l++[k]) (m++[v])) s.mem },[])
     | none=>none
   | _=>none
 else none
def FR (P:Program) (s:St) (kt et:TypeId) (b:Nat) (ck:CK) (t:E) (k:AV):Option (AV × St × List PE):=
 match P.underlying kt,zQ P et,k.code with
 | some .string,some .qQ,some c=>
   some (.slice s.nb (.lit 0) (j5 t c 0) 1 true,{ s with mem:=(s.nb,.rows [ck] (.fn 1012 t c (.lit 0) (.lit 0)) (j5 t c 0) true true)::put b (.fam ck t (some c)) s.mem,nb:=s.nb+1 },[])
 | _,_,_=>none
def XV (P:Program) (s:St) (kt:TypeId) (b:Nat) (ck:CK) (t c:E) (k v:AV):Option (AV × St × List PE):=
 match P.underlying kt,k.code,v with
 | some .string,some c',.slice d (.lit 0) n 1 _=>match get s.mem d with
   | some (.rows [ck'] u m true _)=>if ck'=ck∧c'=c then some (.undef,{ s with mem:=put b (.fam ck (.fn 1013 t c u n) none) (del d s.mem) },[.tt (mkBin .le n m)]) else none
   | _=>none
 | _,_,_=>none
def F9 (P:Program) (o:BinOp) (t:TypeId) (y:Operand) (v u:AV):Option (AV × List PE):=
 match v,u,y,P.underlying t with
 | .ifo e,.yI,.const _,some (.interface _)=>match o with
   | .eql=>some (.bool (mkBin .eq e (.lit 0)),[])
   | .neq=>some (.bool (mkBin .ne e (.lit 0)),[])
   | _=>none
 | .yI,.yI,.const _,some (.interface _)=>match o with
   | .eql=>some (.bool (.lit 1),[])
   | .neq=>some (.bool (.lit 0),[])
   | _=>none
 | _,_,_,_=>none
def xU (P:Program) (ts:qL) (M:Mem) (o:Op):Option (AV × List PE):=
 match o with
 | .lookup t x i ok=>match evalOp ts x,evalOp ts i,P.underlying t with
   | some v,some k,some (.map kt et)=>match v with
     | .mref b=>match get M b with
       | some (.smp w one ks t n)=>Zx P kt et w one ks t n k ok
       | _=>bV P M kt et v k ok
     | v=>bV P M kt et v k ok
   | _,_,_=>none
 | .binOp o t x y _=>match evalOp ts x,evalOp ts y with
   | some v,some u=>match Yf o v u with
     | some r=>some r
     | none=>match XT P o t v u with
       | some r=>some r
       | none=>F9 P o t y v u
   | _,_=>none
 | .convert src dst x=>match evalOp ts x,P.underlying dst,P.underlying src with
   | some v,some .string,some (.slice el)=>match P.underlying el with
     | some (.int .u8)=>ou M v
     | _=>none
   | _,_,_=>none
 | .index t x i=>match evalOp ts x,evalOp ts i,P.underlying t with
   | some (.wN t n),some (.int _ e),some .string=>some (.int .u8 (j5 t e 0),j6 e n)
   | _,_,_=>none
 | .slice t x lo hi none=>match evalOp ts x,P.underlying t,rU ts lo,rU ts hi with
   | some v,some (.slice el),some a,some h=>match v with
     | .slice _ _ _ s _=>if qp P el=some s then u6 v a h else none
     | _=>none
   | _,_,_,_=>none
 | .call { callee:=.builtin .len,args,argTypes }=>match args.toList,argTypes.toList with
   | [x],[t]=>match evalOp ts x,P.underlying t with
     | some (.wN _ n),some .string=>some (.int .i64 n,[])
     | some .mg,some (.slice _)=>some (.int .i64 (.lit 0),[])
     | _,_=>none
   | _,_=>none
 | _=>none
def u7 (v:AV) (lo hi:Option E):Option (AV × List PE):=
 match v.code with
 | some c=>
   let a:=lo.getD (.lit 0)
   let h:=hi.getD (dQ c)
   some (mkStr (mkS 3 c a h),[.tt (mkBin .le (.lit 0) a),.tt (mkBin .le a h),.tt (mkBin .le h (dQ c))])
 | none=>none
def bQ (P:Program) (ts:qL) (o:Op):Option (AV × List PE):=
 match o with
 | .binOp o _ x y _=>match (evalOp ts x).bind AV.code,(evalOp ts y).bind AV.code with
   | some a,some b=>match o with
     | .eql=>some (.bool (mkBin .eq a b),[])
     | .neq=>some (.bool (mkBin .ne a b),[])
     | .add=>some (mkStr (mkS 2 a b (.lit 0)),[.tt (mkBin .le (mkAdd (dQ a) (dQ b)) (.lit 1000000))])
     | _=>none
   | _,_=>none
 | .index t x i=>match (evalOp ts x).bind AV.code,evalOp ts i,P.underlying t with
   | some c,some (.int _ e),some .string=>some (.int .u8 (mkS 4 c e (.lit 0)),j6 e (dQ c))
   | _,_,_=>none
 | .slice t x lo hi none=>match evalOp ts x,P.underlying t,rU ts lo,rU ts hi with
   | some v,some .string,some a,some h=>u7 v a h
   | _,_,_,_=>none
 | .call { callee:=.builtin .len,args,argTypes }=>match args.toList,argTypes.toList with
   | [x],[t]=>match (evalOp ts x).bind AV.code,P.underlying t with
     | some c,some .string=>some (.int .i64 (dQ c),[])
     | _,_=>none
   | _,_=>none
 | _=>none
def Vn (_P:Program) (_kn:Kn) (ts:qL) (_M:Mem) (x:Operand):Option (AV × List PE):=
 (evalOp ts x).map fun v=>(v,[])
def KG (_P:Program) (_kn:Kn) (ts:qL) (_M:Mem) (x:Operand):Option (AV × List PE):=
 (evalOp ts x).map fun v=>(v,[])
def Vm (_P:Program) (_kn:Kn) (ts:qL) (_M:Mem) (c:Operand) (a:Operand) (b:Operand):Option (AV × List PE):=
 match evalOp ts c with
   | some (.bool (.lit n))=>(if n=0 then evalOp ts b else evalOp ts a).map fun v=>(v,[])
   | _=>none
def Vp (P:Program) (kn:Kn) (ts:qL) (M:Mem) (t:TypeId) (a:Operand):Option (AV × List PE):=
 match evalOp ts a,wM P t,qp P t with
   | some (.ptr b r s k),some ag,some n=>loadAt M b r s k n ag
   | some (.gD g k),some false,some _=>(Xu kn.globs g k).map fun v=>(v,[])
   | some (.gD g k),some true,some n=>(Zg kn.globs g k n).map fun l=>(.agg l,[])
   | some (.vT a),some false,some _=>some (a,[])
   | some (.xg ks e i k),some true,some n=>(bX ks e i k n).map fun l=>(.agg l,[])
   | some (.xg ks e i k),some false,some _=>(ks[k]?).map fun c=>(c.ck.av (.fn 1015 e i (.lit ks.length) (.lit k)),[])
   | _,_,_=>none
def QM (_P:Program) (_kn:Kn) (ts:qL) (_M:Mem) (x:Operand):Option (AV × List PE):=
 match evalOp ts x with
   | some (.ptr b r s k)=>some (.ptr b r s k,[])
   | some (.gD g k)=>some (.gD g k,[])
   | some (.xg ks e i k)=>some (.xg ks e i k,[])
   | _=>none
def YC (P:Program) (_kn:Kn) (ts:qL) (_M:Mem) (o:BinOp) (t:TypeId) (x:Operand) (y:Operand) (_x4:TypeId):Option (AV × List PE):=
 match evalOp ts x,evalOp ts y with
   | some v,some u=>Mw P o t v u
   | _,_=>none
def Vh (_P:Program) (_kn:Kn) (ts:qL) (_M:Mem) (a0:UnOp) (a1:TypeId) (a2:Operand):Option (AV × List PE):=
 match a0,a1,a2 with
 | .not,_,x=>match evalOp ts x with
   | some (.bool e)=>some (.bool (notE e),[])
   | _=>none
 | .xor,_,x=>match evalOp ts x with
   | some (.int k e)=>some (.int k (mkBin (.bits 2 k) (.lit (if k.signed then -1 else k.max)) e),[])
   | _=>none
 | .neg,_,x=>match evalOp ts x with
   | some (.int k e)=>some (arith k (mkBin .sub (.lit 0) e))
   | _=>none
 | _,_,_=>none
def Z7 (P:Program) (_kn:Kn) (ts:qL) (_M:Mem) (src:TypeId) (dst:TypeId) (x:Operand):Option (AV × List PE):=
 match evalOp ts x,P.underlying dst,P.underlying src with
   | some (.int _ e),some (.int k),some _=>some (.int k (mkWrap k e),[])
   | _,_,_=>none
def QN (_P:Program) (_kn:Kn) (ts:qL) (_M:Mem) (a0:Fn) (a1:Array Operand) (a2:Array Operand):Option (AV × List PE):=
 match a0,a1,a2 with
 | (.func f),first,cap=>match vX ts first.toList,vX ts cap.toList with
   | some [],some l=>some (.func f l,[])
   | some m,some l=>some (.yV f m l,[])
   | _,_=>none
 | _,_,_=>none
def ak (P:Program) (_kn:Kn) (ts:qL) (_M:Mem) (t:TypeId) (x:Operand) (f:Nat):Option (AV × List PE):=
 match evalOp ts x,field? P t f with
   | some (.ptr b r s k),some fd=>match qp P fd.type with
     | some (_+1)=>some (.ptr b r s (k+fd.offset),[])
     | _=>none
   | some (.xg ks e i k),some fd=>match qp P fd.type with
     | some (_+1)=>some (.xg ks e i (k+fd.offset),[])
     | _=>none
   | _,_=>none
def YS (P:Program) (_kn:Kn) (ts:qL) (_M:Mem) (t:TypeId) (x:Operand) (f:Nat):Option (AV × List PE):=
 match evalOp ts x,field? P t f with
   | some (.agg l),some fd=>match wM P fd.type,qp P fd.type with
     | some true,some n=>if fd.offset+n≤l.length then some (.agg ((l.drop fd.offset).take n),[]) else none
     | some false,some _=>(l[fd.offset]?).map fun v=>(v,[])
     | _,_=>none
   | _,_=>none
def aj (P:Program) (_kn:Kn) (ts:qL) (_M:Mem) (t:TypeId) (x:Operand) (i:Operand):Option (AV × List PE):=
 match evalOp ts x,evalOp ts i,P.underlying t with
   | some (.slice b lo len s _),some (.int _ e),some (.slice el)=>
     if qp P el=some s then some (.ptr b (mkAdd lo e) s 0,j6 e len) else none
   | some (.ptr b r s k),some (.int _ (.lit x)),some (.array n el)=>match qp P el with
     | some z=>if 0≤x∧x<n then some (.ptr b r s (k+x.toNat*z),[]) else none
     | none=>none
   | some (.ptr b (.lit 0) _ k),some (.int _ e),some (.array n el)=>match qp P el with
     | some z=>some (.ptr b e z k,j6 e (.lit n))
     | none=>none
   | some (.gD g k),some (.int _ (.lit x)),some (.array n el)=>match qp P el with
     | some z=>if 0≤x∧x<n then some (.gD g (k+x.toNat*z),[]) else none
     | none=>none
   | some (.asl b k n s),some (.int _ (.lit x)),some (.slice el)=>
     if qp P el=some s∧0≤x∧x<n then some (.ptr b (.lit 0) 0 (k+x.toNat*s),[]) else none
   | some (.lst ks q),some (.int _ e),some (.slice el)=>
     if qp P el=some ks.length then some (.xg ks q e 0,j6 e (kZ ks q)) else none
   | _,_,_=>none
def YR (P:Program) (_kn:Kn) (ts:qL) (_M:Mem) (t:TypeId) (x:Operand) (i:Operand):Option (AV × List PE):=
 match evalOp ts x,evalOp ts i,P.underlying t with
   | some (.str l),some (.int _ (.lit j)),some .string=>if 0≤j then (l[j.toNat]?).map fun b=>(.int .u8 (.lit b.toNat),[]) else none
   | some (.agg l),some (.int _ (.lit j)),some (.array n el)=>match wM P el,qp P el with
     | some ag,some z=>if 0≤j∧j<n then (jl l (j.toNat*z) z ag).map fun v=>(v,[]) else none
     | _,_=>none
   | some (.big [] ks t' m []),some (.int _ e),some (.array n el)=>match wM P el,qp P el with
     | some true,some z=>if z=ks.length∧n=m then (jR ks t' e 0 z).map fun l=>(.agg l,j6 e (.lit m)) else none
     | _,_=>none
   | _,_,_=>none
def Z6 (_P:Program) (_kn:Kn) (ts:qL) (_M:Mem) (x:Operand) (i:Nat):Option (AV × List PE):=
 match evalOp ts x with
   | some (.tup l)=>(l[i]?).map fun v=>(v,[])
   | _=>none
def YP (P:Program) (_kn:Kn) (ts:qL) (_M:Mem) (t:TypeId) (x:Operand) (lo:Option Operand) (hi:Option Operand) (mx:Option Operand):Option (AV × List PE):=
 match evalOp ts x,P.underlying t with
   | some v,some (.slice el)=>match v,lo,hi,mx with
     | .slice b l len s nl,none,some h,none=>match evalOp ts h,qp P el with
       | some (.int _ e),some _=>some (.slice b l e s nl,[.tt (mkBin .le (.lit 0) e),.tt (mkBin .le e len)])
       | _,_=>none
     | v,lo,hi,mx=>match bG ts lo,bG ts hi,bG ts mx with
       | some a,some h,some m=>Q8 P el v a h m
       | _,_,_=>none
   | some v,some (.array n el)=>match bG ts lo,bG ts hi,bG ts mx with
     | some a,some h,some m=>iq P el n v a h m
     | _,_,_=>none
   | _,_=>none
def YT (P:Program) (kn:Kn) (ts:qL) (_M:Mem) (t:TypeId) (parts:Array (Nat × Operand)):Option (AV × List PE):=
 if (oZ kn.Q5 t).isSome then
     match oZ kn.Q5 t,jO ts parts.toList,P.underlying t with
     | some b,some ps,some (.struct fs)=>match yG P b,kM P fs.toList with
       | some (pre,post),some pl=>(dX (fun i=>pl[i]?) (b.n*b.ks.length) pre post ps).map fun (l,m)=>(.big l b.ks .zt b.n m,[])
       | _,_=>none
     | some b,some [],some (.array _ el)=>if (qp P el).isSome then (yG P b).map fun (l,m)=>(.big l b.ks .zt b.n m,[]) else none
     | _,_,_=>none
   else match zQ P t,jO ts parts.toList,P.underlying t with
   | some z,some ps,some (.struct fs)=>match kM P fs.toList with
     | some pl=>(wU (fun i=>pl[i]?) z.cells ps).map fun l=>(.agg l,[])
     | none=>none
   | some z,some ps,some (.array _ el)=>match qp P el with
     | some sz=>(wU (fun i=>some (i*sz,sz)) z.cells ps).map fun l=>(.agg l,[])
     | none=>none
   | _,_,_=>none
def Vr (P:Program) (_kn:Kn) (ts:qL) (_M:Mem) (a0:Call):Option (AV × List PE):=
 match a0 with
 | { callee:=.builtin .len,args,argTypes }=>match args.toList,argTypes.toList with
   | [x],[t]=>match evalOp ts x,P.underlying t with
     | some (.slice _ _ len _ _),some (.slice _)=>some (.int .i64 len,[])
     | some .qQ,some (.slice _)=>some (.int .i64 (.lit 0),[])
     | some .cap0,some (.slice _)=>some (.int .i64 (.lit 0),[])
     | some .empty,some (.slice _)=>some (.int .i64 (.lit 0),[])
     | some (.asl _ _ n _),some (.slice _)=>some (.int .i64 (.lit n),[])
     | some (.lst ks q),some (.slice el)=>if qp P el=some ks.length∧ks≠[] then some (.int .i64 (kZ ks q),[]) else none
     | some (.str l),some .string=>some (.int .i64 (.lit l.length),[])
     | _,_=>none
   | _,_=>none
 | { callee:=.builtin .cap,args,argTypes }=>match args.toList,argTypes.toList with
   | [x],[t]=>match evalOp ts x,P.underlying t with
     | some .qQ,some (.slice _)=>some (.int .i64 (.lit 0),[])
     | some .cap0,some (.slice _)=>some (.int .i64 (.lit 0),[])
     | _,_=>none
   | _,_=>none
 | { callee:=.builtin .min,args,argTypes:=_ }=>match args.toList with
   | [x,y]=>match evalOp ts x,evalOp ts y with
     | some (.int k a),some (.int k' b)=>if k=k' then some (.int k (mkBin .min a b),[]) else none
     | _,_=>none
   | _=>none
 | { callee:=.builtin .max,args,argTypes:=_ }=>match args.toList with
   | [x,y]=>match evalOp ts x,evalOp ts y with
     | some (.int k a),some (.int k' b)=>if k=k' then some (.int k (mkBin .max a b),[]) else none
     | _,_=>none
   | _=>none
 | _=>none
def FK (P:Program) (kn:Kn) (ts:qL) (M:Mem) (o:Op):Option (AV × List PE):=
 match o with
 | .move x=>Vn P kn ts M x
 | .assign x=>KG P kn ts M x
 | .pick c a b=>Vm P kn ts M c a b
 | .load t a=>Vp P kn ts M t a
 | .nilCheck x=>QM P kn ts M x
 | .binOp o t x y x4=>YC P kn ts M o t x y x4
 | .unOp a0 a1 a2=>Vh P kn ts M a0 a1 a2
 | .convert src dst x=>Z7 P kn ts M src dst x
 | .makeFunc a0 a1 a2=>QN P kn ts M a0 a1 a2
 | .fieldAddr t x f=>ak P kn ts M t x f
 | .field t x f=>YS P kn ts M t x f
 | .indexAddr t x i=>aj P kn ts M t x i
 | .index t x i=>YR P kn ts M t x i
 | .extract x i=>Z6 P kn ts M x i
 | .slice t x lo hi mx=>YP P kn ts M t x lo hi mx
 | .build t parts=>YT P kn ts M t parts
 | .call a0=>Vr P kn ts M a0
 | _=>none
theorem Z8 (P:Program) (kn:Kn) (ts:qL) (M:Mem) (o:Op):FK P kn ts M o=jw P kn ts M o:=by
 cases o with
 | move=>rfl
 | assign=>rfl
 | pick=>rfl
 | load=>rfl
 | nilCheck=>rfl
 | binOp=>rfl
 | unOp o t x=>cases o <;> rfl
 | convert=>rfl
 | makeFunc f a b=>cases f <;> rfl
 | fieldAddr=>rfl
 | field=>rfl
 | indexAddr=>rfl
 | index=>rfl
 | extract=>rfl
 | slice=>rfl
 | build=>rfl
 | call c=>
   obtain ⟨f,l,m⟩:=c
   cases f with
   | builtin b=>cases b <;> rfl
   | _=>rfl
 | _=>rfl
def KV (P:Program) (ts:qL) (M:Mem) (t:TypeId) (x:Operand) (i:Operand) (ok:Bool):Option (AV × List PE):=
 match evalOp ts x,evalOp ts i,P.underlying t with
   | some v,some k,some (.map kt et)=>match v with
     | .mref b=>match get M b with
       | some (.smp w one ks t n)=>Zx P kt et w one ks t n k ok
       | _=>bV P M kt et v k ok
     | v=>bV P M kt et v k ok
   | _,_,_=>none
def YM (P:Program) (ts:qL) (_M:Mem) (o:BinOp) (t:TypeId) (x:Operand) (y:Operand) (_x4:TypeId):Option (AV × List PE):=
 match evalOp ts x,evalOp ts y with
   | some v,some u=>match Yf o v u with
     | some r=>some r
     | none=>match XT P o t v u with
       | some r=>some r
       | none=>F9 P o t y v u
   | _,_=>none
def Z4 (P:Program) (ts:qL) (M:Mem) (src:TypeId) (dst:TypeId) (x:Operand):Option (AV × List PE):=
 match evalOp ts x,P.underlying dst,P.underlying src with
   | some v,some .string,some (.slice el)=>match P.underlying el with
     | some (.int .u8)=>ou M v
     | _=>none
   | _,_,_=>none
def YH (P:Program) (ts:qL) (_M:Mem) (t:TypeId) (x:Operand) (i:Operand):Option (AV × List PE):=
 match evalOp ts x,evalOp ts i,P.underlying t with
   | some (.wN t n),some (.int _ e),some .string=>some (.int .u8 (j5 t e 0),j6 e n)
   | _,_,_=>none
def YF (P:Program) (ts:qL) (_M:Mem) (a0:TypeId) (a1:Operand) (a2:Option Operand) (a3:Option Operand) (a4:Option Operand):Option (AV × List PE):=
 match a0,a1,a2,a3,a4 with
 | t,x,lo,hi,none=>match evalOp ts x,P.underlying t,rU ts lo,rU ts hi with
   | some v,some (.slice el),some a,some h=>match v with
     | .slice _ _ _ s _=>if qp P el=some s then u6 v a h else none
     | _=>none
   | _,_,_,_=>none
 | _,_,_,_,_=>none
def Vf (P:Program) (ts:qL) (_M:Mem) (a0:Call):Option (AV × List PE):=
 match a0 with
 | { callee:=.builtin .len,args,argTypes }=>match args.toList,argTypes.toList with
   | [x],[t]=>match evalOp ts x,P.underlying t with
     | some (.wN _ n),some .string=>some (.int .i64 n,[])
     | some .mg,some (.slice _)=>some (.int .i64 (.lit 0),[])
     | _,_=>none
   | _,_=>none
 | _=>none
def FJ (P:Program) (ts:qL) (M:Mem) (o:Op):Option (AV × List PE):=
 match o with
 | .lookup t x i ok=>KV P ts M t x i ok
 | .binOp o t x y x4=>YM P ts M o t x y x4
 | .convert src dst x=>Z4 P ts M src dst x
 | .index t x i=>YH P ts M t x i
 | .slice a0 a1 a2 a3 a4=>YF P ts M a0 a1 a2 a3 a4
 | .call a0=>Vf P ts M a0
 | _=>none
theorem Z5 (P:Program) (ts:qL) (M:Mem) (o:Op):FJ P ts M o=xU P ts M o:=by
 cases o with
 | lookup=>rfl
 | binOp=>rfl
 | convert=>rfl
 | index=>rfl
 | slice t x a b m=>cases m <;> rfl
 | call c=>
   obtain ⟨f,l,m⟩:=c
   cases f with
   | builtin b=>cases b <;> rfl
   | _=>rfl
 | _=>rfl
def YB (_P:Program) (ts:qL) (o:BinOp) (_x1:TypeId) (x:Operand) (y:Operand) (_x4:TypeId):Option (AV × List PE):=
 match (evalOp ts x).bind AV.code,(evalOp ts y).bind AV.code with
   | some a,some b=>match o with
     | .eql=>some (.bool (mkBin .eq a b),[])
     | .neq=>some (.bool (mkBin .ne a b),[])
     | .add=>some (mkStr (mkS 2 a b (.lit 0)),[.tt (mkBin .le (mkAdd (dQ a) (dQ b)) (.lit 1000000))])
     | _=>none
   | _,_=>none
def YG (P:Program) (ts:qL) (t:TypeId) (x:Operand) (i:Operand):Option (AV × List PE):=
 match (evalOp ts x).bind AV.code,evalOp ts i,P.underlying t with
   | some c,some (.int _ e),some .string=>some (.int .u8 (mkS 4 c e (.lit 0)),j6 e (dQ c))
   | _,_,_=>none
def YV (P:Program) (ts:qL) (a0:TypeId) (a1:Operand) (a2:Option Operand) (a3:Option Operand) (a4:Option Operand):Option (AV × List PE):=
 match a0,a1,a2,a3,a4 with
 | t,x,lo,hi,none=>match evalOp ts x,P.underlying t,rU ts lo,rU ts hi with
   | some v,some .string,some a,some h=>u7 v a h
   | _,_,_,_=>none
 | _,_,_,_,_=>none
def Vd (P:Program) (ts:qL) (a0:Call):Option (AV × List PE):=
 match a0 with
 | { callee:=.builtin .len,args,argTypes }=>match args.toList,argTypes.toList with
   | [x],[t]=>match (evalOp ts x).bind AV.code,P.underlying t with
     | some c,some .string=>some (.int .i64 (dQ c),[])
     | _,_=>none
   | _,_=>none
 | _=>none
def FZ (P:Program) (ts:qL) (o:Op):Option (AV × List PE):=
 match o with
 | .binOp o x1 x y x4=>YB P ts o x1 x y x4
 | .index t x i=>YG P ts t x i
 | .slice a0 a1 a2 a3 a4=>YV P ts a0 a1 a2 a3 a4
 | .call a0=>Vd P ts a0
 | _=>none
theorem Z0 (P:Program) (ts:qL) (o:Op):FZ P ts o=bQ P ts o:=by
 cases o with
 | binOp=>rfl
 | index=>rfl
 | slice t x a b m=>cases m <;> rfl
 | call c=>
   obtain ⟨f,l,m⟩:=c
   cases f with
   | builtin b=>cases b <;> rfl
   | _=>rfl
 | _=>rfl
def rJ (ts:qL) (o:Op):Option (AV × List PE):=
 match o with
 | .binOp .add _ x y _=>match evalOp ts x,evalOp ts y with
   | some (.int k a),some (.int k' b)=>if k=k' then some (.int k (mkWrap k (mkAdd a b)),[]) else none
   | _,_=>none
 | .binOp .sub _ x y _=>match evalOp ts x,evalOp ts y with
   | some (.int k a),some (.int k' b)=>if k=k' then some (.int k (mkWrap k (mkSub a b)),[]) else none
   | _,_=>none
 | .binOp .mul _ x y _=>match evalOp ts x,evalOp ts y with
   | some (.int k a),some (.int k' b)=>if k=k' then some (.int k (mkWrap k (mkBin .mul a b)),[]) else none
   | _,_=>none
 | _=>none
def quiet (P:Program) (kn:Kn) (ts:qL) (M:Mem) (o:Op):Option (AV × List PE):=
 match (if kn.wrp then rJ ts o else none) with
 | some r=>some r
 | none=>match FK P kn ts M o with
 | some r=>some r
 | none=>match FJ P ts M o with
   | some r=>some r
   | none=>FZ P ts o
def rowsOf (ks:List CK) (n:Nat) (vs:List AV):Option E:=
 match n with
 | 0=>if vs.isEmpty then some .zt else none
 | m+1=>match rowsOf ks m (vs.take (m*ks.length)) with
   | some t=>yP ks t (.lit m) 0 (vs.drop (m*ks.length))
   | none=>none
def zf (s:St) (b:Blk):St:={ s with mem:=(s.nb,b)::s.mem,nb:=s.nb+1 }
def vD (zs:List AV) (n:Nat) (vs:List AV):Blk:=
 match jk zs with
 | some ks=>if ks.isEmpty then .cells vs true else match rowsOf ks n vs with
   | some t=>.rows ks t (.lit n) true false
   | none=>.cells vs true
 | none=>.cells vs true
def rz (n:Nat) (zs:List AV):List AV:=
 match n with
 | 0=>[]
 | n+1=>zs++rz n zs
def E.Ma:E→Option BT
 | .zt=>some .nil
 | .upd t (.lit (.ofNat x)) c (.lit y)=>match t.Ma with
   | some b=>BT.set 64 b x c y
   | none=>none
 | _=>none
def NT (t r:E):E:=match r with
 | .lit (.ofNat 16)=>match t.Ma with
   | some b=>.bt b
   | none=>t
 | _=>t
def cK (ks:List CK) (t n u:E) (lo:Int):Nat→Nat→Option E
 | _,0=>some t
 | i,m+1=>match jR ks u (.lit (lo+i)) 0 ks.length with
   | some vs=>match yP ks (NT t (mkAdd n (.lit i))) (mkAdd n (.lit i)) 0 vs with
     | some t'=>cK ks t' n u lo (i+1) m
     | none=>none
   | none=>none
def Q6 (M:Mem) (sz:Nat) (ks:List CK) (y:AV):Option (E × Int × E × List PE):=
 match y with
 | .qQ | .cap0 | .mg | .empty=>some (.zt,0,.lit 0,[])
 | .lst ks2 e=>if ks=ks2.map SK.ck∧sz=ks2.length∧ks2≠[] then some (.fn 1017 e (.lit ks2.length) (.lit 0) (.lit 0),0,kZ ks2 e,[]) else none
 | .slice b (.lit lo) m s2 _=>match get M b with
   | some (.rows ks2 u m2 _ _)=>
     if ks=ks2∧s2=sz then (if lo=0 then some (u,0,m,if m=m2 then [] else [.tt (mkBin .le m m2)])
       else match m with
         | .lit mm=>if 0≤lo∧0≤mm then some (u,lo,m,[.tt (mkBin .le (.lit (lo+mm)) m2)]) else none
         | m=>some (.sh u (.lit lo),0,m,[.tt (mkBin .le (mkAdd (.lit lo) m) m2)])) else none
   | _=>none
 | .slice b lo m s2 _=>match get M b with
   | some (.rows ks2 u m2 _ _)=>if ks=ks2∧s2=sz then some (.sh u lo,0,m,[.tt (mkBin .le (mkAdd lo m) m2)]) else none
   | _=>none
 | _=>none
def AV.other (b:Nat):AV→Bool
 | .slice b2 _ _ _ _=>b != b2
 | .asl b2 _ _ _=>b != b2
 | _=>true
def XJ (M:Mem) (sz:Nat) (ks:List CK) (x y:AV):Option (Option Nat × E × E × Bool × List PE):=
 match x with
 | .qQ | .cap0 | .mg=>some (none,.zt,.lit 0,true,[])
 | .slice b (.lit 0) n s1 nl=>match get M b with
   | some (.rows ks1 t n1 true _)=>
     if ks=ks1∧s1=sz∧y.other b=true then some (some b,t,n,nl,if n=n1 then [] else [.tt (mkBin .le n n1)]) else none
   | _=>none
 | _=>none
def JD (ks:List CK) (t n u:E) (lo:Int) (m:E):Option E:=
 match n,m with
 | .lit 0,.lit mm=>if lo=0 then some u else if 0≤mm∧mm≤100 then cK ks .zt (.lit 0) u lo 0 mm.toNat else none
 | .lit 0,_=>if lo=0 then some u else none
 | n,.lit mm=>if 0≤mm∧mm≤8 then cK ks t n u lo 0 mm.toNat else none
 | n,_=>if lo=0 then some (.cat t n u) else none
def jG (nl:Bool):E→Bool
 | .lit mm=>nl && decide (mm≤0)
 | _=>nl
def wD (b:Option Nat) (M:Mem):Mem:=
 match b with
 | some b=>del b M
 | none=>M
def Pm (M:Mem):AV→Option (List CK)
 | .slice b _ _ _ _=>match get M b with
   | some (.rows ks _ _ _ _)=>some ks
   | _=>none
 | _=>none
def qzx (M:Mem) (zs:List AV) (x y:AV):Option (List CK):=
 match jk zs with
 | some ks=>some ks
 | none=>match Pm M y with
   | some ks=>some ks
   | none=>Pm M x
def mQ (P:Program) (s:St) (el:TypeId) (x y:AV):Option (AV × St × List PE):=
 match zQ P el,qp P el,(P.info? el).map (·.bytes) with
 | some z,some sz,some bytes=>match qzx s.mem z.cells x y with
   | some ks=>
     if sz=ks.length∧ks.length≠0∧bytes≤1000∧bytes≠0∧z.cells.length=sz then
       match Q6 s.mem sz ks y,XJ s.mem sz ks x y with
       | some (u,lo,m,p1),some (b,t,n,nl,p2)=>match JD ks t n u lo m with
         | some t'=>
           let nl':=jG nl m
           some (.slice s.nb (.lit 0) (mkAdd n m) sz nl',
             { s with mem:=(s.nb,.rows ks t' (mkAdd n m) true nl')::wD b s.mem,nb:=s.nb+1 },
             p1++p2++[.tt (mkBin .le (mkAdd n m) (.lit 1000000))])
         | none=>none
       | _,_=>none
     else none
   | none=>none
 | _,_,_=>none
def ZX (M:Mem) (sz:Nat) (y:AV):Option (List AV):=
 match y with
 | .qQ | .cap0 | .empty=>some []
 | .slice b (.lit lo) (.lit m) s _=>match get M b with
   | some (.cells l _)=>if s=sz∧0≤lo∧0≤m∧(lo+m).toNat*sz≤l.length then some ((l.drop (lo.toNat*sz)).take (m.toNat*sz)) else none
   | _=>none
 | .asl b k n s=>match get M b with
   | some (.cells l _)=>if s=sz∧k+n*sz≤l.length then some ((l.drop k).take (n*sz)) else none
   | _=>none
 | _=>none
def J9 (M:Mem) (sz:Nat) (x y:AV):Option (Option Nat × List AV × Nat):=
 match x with
 | .qQ | .cap0=>some (none,[],0)
 | .slice b (.lit 0) (.lit n) s _=>match get M b with
   | some (.cells l true)=>if s=sz∧0≤n∧n.toNat*sz≤l.length∧y.other b=true then some (some b,l.take (n.toNat*sz),n.toNat) else none
   | _=>none
 | _=>none
def dN (P:Program) (s:St) (el:TypeId) (x y:AV):Option (AV × St × List PE):=
 match zQ P el,qp P el,(P.info? el).map (·.bytes) with
 | some z,some sz,some bytes=>
   if bytes≤10000∧bytes≠0∧sz≠0∧z.cells.length=sz then match ZX s.mem sz y,J9 s.mem sz x y with
     | some u,some (b,l,n)=>
       if u.isEmpty then some (x,s,[])
       else if n+u.length / sz≤1000∧u.all AV.one=true then
         some (.slice s.nb (.lit 0) (.lit ((n+u.length / sz:Nat):Int)) sz false,{ s with mem:=(s.nb,.cells (l++u) true)::wD b s.mem,nb:=s.nb+1 },[])
       else none
     | _,_=>none
   else none
 | _,_,_=>none
def vC (P:Program) (s:St) (el:TypeId) (x:AV) (e:E):Option (AV × St × List PE):=
 match x with
 | .qQ | .cap0=>match zQ P el,qp P el,(P.info? el).map (·.bytes) with
   | some z,some sz,some bytes=>match jk z.cells with
     | some ks=>
       if sz=ks.length∧ks.length≠0∧bytes≤1000∧bytes≠0∧z.cells.all AV.isZero then
         some (.slice s.nb (.lit 0) e sz (jG true e),{ s with mem:=(s.nb,.rows ks .zt e true (jG true e))::s.mem,nb:=s.nb+1 },
           [.tt (mkBin .le (.lit 0) e),.tt (mkBin .le e (.lit 1000000))])
       else none
     | none=>none
   | _,_,_=>none
 | _=>none
def yN (P:Program) (s:St) (el:TypeId) (x:AV) (e:E):Option (AV × St × List PE):=
 match x,e with
 | .qQ,.lit k=>match zQ P el,qp P el,(P.info? el).map (·.bytes) with
   | some z,some sz,some bytes=>
     if 1≤k∧k≤100∧sz≠0∧z.cells.length=sz∧bytes≤1000∧bytes≠0 then
       some (.slice s.nb (.lit 0) (.lit k) sz false,{ s with mem:=(s.nb,.cells (rz k.toNat z.cells) true)::s.mem,nb:=s.nb+1 },[])
     else none
   | _,_,_=>none
 | _,_=>none
def aX (P:Program) (s:St) (t:TypeId) (v:Option AV):Option (AV × St × List PE):=
 match v,P.underlying t with
 | some (.slice b lo n 1 false),some (.slice el)=>match P.underlying el,get s.mem b with
   | some (.int .u8),some (.rows [.int .u8] t len true false)=>some (.slice b lo n 1 false,{ s with mem:=put b (.rows [.int .u8] t len true false) s.mem },[])
   | _,_=>none
 | _,_=>none
def dD (M:Mem) (b k s:Nat) (zs:List AV):Nat→Option (Mem × List PE)
 | 0=>some (M,[])
 | n+1=>match dD M b k s zs n with
   | some (M,ps)=>(storeAt M b (.lit 0) 0 (k+n*s) zs).map fun (M',qs)=>(M',ps++qs)
   | none=>none
def bR (M:Mem) (b:Nat) (lo:Nat) (ks:List CK) (u:E) (l0:Int):Nat→Option (Mem × List PE)
 | 0=>some (M,[])
 | n+1=>match bR M b lo ks u l0 n,jR ks u (.lit (l0+n)) 0 ks.length with
   | some (M1,ps),some vs=>(storeAt M1 b (.lit ((lo+n:Nat):Int)) ks.length 0 vs).map fun (M2,qs)=>(M2,ps++qs)
   | _,_=>none
def Kw (M:Mem) (sz:Nat) (ks:List CK) (x y:AV):Option (Nat × Mem × List PE):=
 match x with
 | .slice b (.lit lo) (.lit n) z _=>match Q6 M sz ks y with
   | some (u,l0,.lit m,ps)=>if z=sz∧0≤lo∧0≤m∧m≤n∧m≤1000 then
       (bR M b lo.toNat ks u l0 m.toNat).map fun (M',qs)=>(m.toNat,M',ps++qs)
     else none
   | _=>none
 | _=>none
def tY (P:Program) (s:St) (el:TypeId) (e e':E):Option (AV × St × List PE):=
 match zQ P el,qp P el,(P.info? el).map (·.bytes) with
 | some z,some sz,some bytes=>match jk z.cells with
   | some ks=>if e=e'∧bytes≤1000∧z.cells.length=sz∧z.cells.all AV.isZero=true then
       some (.slice s.nb (.lit 0) e sz false,zf s (.rows ks .zt e true false),[.tt (mkBin .le (.lit 0) e),.tt (mkBin .le e (.lit 70000))])
     else none
   | none=>none
 | _,_,_=>none
def loud (P:Program) (kn:Kn) (s:St) (o:Op):Option (AV × St × List PE):=
 match o with
 | .makeMap _ none=>some (.mref s.nb,zf s (.mp [] []),[])
 | .mapUpdate t x i y=>match evalOp s.tmps x,evalOp s.tmps i,evalOp s.tmps y,P.underlying t with
   | some (.mref b),some k,some v,some (.map kt _)=>match get s.mem b with
     | some (.smp w one ks t n)=>sU P s kt b w one ks t n k v
     | some (.fam ck t (some c))=>XV P s kt b ck t c k v
     | _=>dA P s kt b k v
   | _,_,_,_=>none
 | .lookup t x i false=>match evalOp s.tmps x,evalOp s.tmps i,P.underlying t with
   | some (.mref b),some k,some (.map kt et)=>match get s.mem b with
     | some (.fam ck t none)=>FR P s kt et b ck t k
     | _=>none
   | _,_,_=>none
 | .insert t x i y=>match evalOp s.tmps x,evalOp s.tmps i,evalOp s.tmps y,P.underlying t with
   | some (.mref b),some k,some v,some (.map kt _)=>match get s.mem b with
     | some (.smp w one ks t n)=>sU P s kt b w one ks t n k v
     | _=>dA P s kt b k v
   | _,_,_,_=>none
 | .range t x=>match (evalOp s.tmps x).bind AV.code,P.underlying t with
   | some c,some .string=>some (.ptr s.nb (.lit 0) 0 0,zf s (.iter c (.lit 0) 0),[])
   | _,_=>none
 | .next x true=>match evalOp s.tmps x with
   | some (.ptr b (.lit 0) 0 0)=>match get s.mem b with
     | some (.iter e q 1)=>some (.tup [.bool (.lit 1),.int .i64 q,.int .i32 (mkS 10 e q (.lit 0))],{ s with mem:=put b (.iter e (mkAdd q (mkS 11 e q (.lit 0))) 0) s.mem },[])
     | some (.iter _ _ 2)=>some (.tup [.bool (.lit 0)],s,[])
     | _=>none
   | _=>none
 | .alloc t=>if (oZ kn.Q5 t).isSome then (match oZ kn.Q5 t with
     | some b=>match yG P b with
       | some (l,m)=>some (.ptr s.nb (.lit 0) 0 0,zf s (.big l b.ks .zt b.n m true),[])
       | none=>none
     | none=>none)
   else if kn.RQ t then match zQ P t with
   | some (.agg [.wY,.qQ])=>some (.ptr (s.nb+1) (.lit 0) 0 0,{ s with mem:=(s.nb+1,.bld t (.lit 0) s.nb)::(s.nb,.byt kn.bld.2 (.lit 0))::s.mem,nb:=s.nb+2 },[])
   | _=>none
   else match zQ P t with
   | some z=>some (.ptr s.nb (.lit 0) 0 0,zf s (.cells z.cells true),[])
   | none=>none
 | .box _ x=>match evalOp s.tmps x with
   | some (.big l ks t n m)=>if l.all AV.one∧m.all AV.one then some (.ptr s.nb (.lit 0) 0 0,zf s (.big l ks t n m true),[]) else none
   | some v=>if v.cells.all AV.one then some (.ptr s.nb (.lit 0) 0 0,zf s (.cells v.cells true),[]) else none
   | none=>none
 | .store t a x=>match evalOp s.tmps a,evalOp s.tmps x,qp P t with
   | some (.ptr b r z k),some v,some n=>if v.cells.length=n then
       (storeAt s.mem b r z k v.cells).map fun (M,ps)=>(.undef,{ s with mem:=M },ps)
     else none
   | _,_,_=>none
 | .buildSlice t n parts=>match P.underlying t with
   | some (.slice el)=>match zQ P el,qp P el,jO s.tmps parts.toList with
     | some z,some sz,some ps=>
       if z.cells.length=sz∧n*sz≤1000 then
         match wU (fun i=>some (i*sz,sz)) (rz n z.cells) ps with
         | some vs=>if vs.all AV.one then some (if n=0∧(jk z.cells).isNone then .cap0 else .slice s.nb (.lit 0) (.lit n) sz false,zf s (vD z.cells n vs),[]) else none
         | none=>none
       else none
     | _,_,_=>none
   | _=>none
 | .makeSlice t l c=>match P.underlying t,evalOp s.tmps l,evalOp s.tmps c with
   | some (.slice el),some (.int _ (.lit a)),some (.int _ (.lit b))=>match zQ P el,qp P el,(P.info? el).map (·.bytes) with
     | some z,some sz,some bytes=>
       if 0≤a∧a=b∧a≤70000∧bytes≤1000∧z.cells.length=sz then match jk z.cells with
         | some ks=>if z.cells.all AV.isZero then some (.slice s.nb (.lit 0) (.lit a) sz false,zf s (.rows ks .zt (.lit a) true false),[]) else none
         | none=>if a≤100 then some (.slice s.nb (.lit 0) (.lit a) sz false,zf s (.cells (rz a.toNat z.cells) true),[]) else none
       else none
     | _,_,_=>none
   | some (.slice el),some (.int _ e),some (.int _ e')=>tY P s el e e'
   | _,_,_=>none
 | .convert src dst x=>if src=dst then aX P s dst (evalOp s.tmps x) else match (evalOp s.tmps x).bind AV.GR,P.underlying dst,P.underlying src with
   | some (t,n),some (.slice el),some .string=>match P.underlying el,qp P el with
     | some (.int .u8),some 1=>some (.slice s.nb (.lit 0) n 1 false,zf s (.rows [.int .u8] t n true false),[.tt (mkBin .le n (.lit 1000000))])
     | _,_=>none
   | _,_,_=>none
 | .call { callee:=.builtin .clear,args,argTypes }=>match args.toList,argTypes.toList with
   | [x],[t]=>match evalOp s.tmps x,P.underlying t with
     | some (.asl b k n z),some (.slice el)=>match zQ P el,qp P el with
       | some zv,some sz=>if sz=z∧zv.cells.length=sz then (dD s.mem b k z zv.cells n).map fun (M,ps)=>(.tup [],{ s with mem:=M },ps) else none
       | _,_=>none
     | _,_=>none
   | _,_=>none
 | .call { callee:=.builtin .copy,args,argTypes }=>match args.toList,argTypes.toList with
   | [x,y],[t,_]=>match evalOp s.tmps x,evalOp s.tmps y,P.underlying t with
     | some xv,some yv,some (.slice el)=>match zQ P el,qp P el with
       | some zv,some sz=>match jk zv.cells with
         | some ks=>if sz=ks.length then (Kw s.mem sz ks xv yv).map fun (n,M,ps)=>(.int .i64 (.lit n),{ s with mem:=M },ps) else none
         | none=>none
       | _,_=>none
     | _,_,_=>none
   | _,_=>none
 | .call { callee:=.builtin .append,args,argTypes }=>match args.toList,argTypes.toList with
   | [x,y],[t,u]=>match evalOp s.tmps x,evalOp s.tmps y,P.underlying t,P.underlying u with
     | some v,some (.int _ e),some (.slice el),some (.int _)=>match vC P s el v e with
       | some r=>some r
       | none=>yN P s el v e
     | some v,some w,some (.slice el),some (.slice _)=>match zQ P el with
       | some z=>match jk z.cells with
         | some _=>mQ P s el v w
         | none=>match mQ P s el v w with
           | some r=>some r
           | none=>dN P s el v w
       | none=>none
     | _,_,_,_=>none
   | _,_=>none
 | _=>none
def Xq (_P:Program) (_kn:Kn) (s:St) (a0:TypeId) (a1:Option Operand):Option (AV × St × List PE):=
 match a0,a1 with
 | _,none=>some (.mref s.nb,zf s (.mp [] []),[])
 | _,_=>none
def Jl (P:Program) (_kn:Kn) (s:St) (t:TypeId) (x:Operand) (i:Operand) (y:Operand):Option (AV × St × List PE):=
 match evalOp s.tmps x,evalOp s.tmps i,evalOp s.tmps y,P.underlying t with
   | some (.mref b),some k,some v,some (.map kt _)=>match get s.mem b with
     | some (.smp w one ks t n)=>sU P s kt b w one ks t n k v
     | some (.fam ck t (some c))=>XV P s kt b ck t c k v
     | _=>dA P s kt b k v
   | _,_,_,_=>none
def VG (P:Program) (_kn:Kn) (s:St) (t:TypeId) (x:Operand) (i:Operand) (y:Operand):Option (AV × St × List PE):=
 match evalOp s.tmps x,evalOp s.tmps i,evalOp s.tmps y,P.underlying t with
   | some (.mref b),some k,some v,some (.map kt _)=>match get s.mem b with
     | some (.smp w one ks t n)=>sU P s kt b w one ks t n k v
     | _=>dA P s kt b k v
   | _,_,_,_=>none
def VX (P:Program) (_kn:Kn) (s:St) (t:TypeId) (x i:Operand) (ok:Bool):Option (AV × St × List PE):=
 match ok with
 | false=>match evalOp s.tmps x,evalOp s.tmps i,P.underlying t with
   | some (.mref b),some k,some (.map kt et)=>match get s.mem b with
     | some (.fam ck t none)=>FR P s kt et b ck t k
     | _=>none
   | _,_,_=>none
 | true=>none
def BS (P:Program) (_kn:Kn) (s:St) (t:TypeId) (x:Operand):Option (AV × St × List PE):=
 match (evalOp s.tmps x).bind AV.code,P.underlying t with
   | some c,some .string=>some (.ptr s.nb (.lit 0) 0 0,zf s (.iter c (.lit 0) 0),[])
   | _,_=>none
def MI (_P:Program) (_kn:Kn) (s:St) (a0:Operand) (a1:Bool):Option (AV × St × List PE):=
 match a0,a1 with
 | x,true=>match evalOp s.tmps x with
   | some (.ptr b (.lit 0) 0 0)=>match get s.mem b with
     | some (.iter e q 1)=>some (.tup [.bool (.lit 1),.int .i64 q,.int .i32 (mkS 10 e q (.lit 0))],{ s with mem:=put b (.iter e (mkAdd q (mkS 11 e q (.lit 0))) 0) s.mem },[])
     | some (.iter _ _ 2)=>some (.tup [.bool (.lit 0)],s,[])
     | _=>none
   | _=>none
 | _,_=>none
def BL (P:Program) (kn:Kn) (s:St) (t:TypeId):Option (AV × St × List PE):=
 if (oZ kn.Q5 t).isSome then (match oZ kn.Q5 t with
     | some b=>match yG P b with
       | some (l,m)=>some (.ptr s.nb (.lit 0) 0 0,zf s (.big l b.ks .zt b.n m true),[])
       | none=>none
     | none=>none)
   else if kn.RQ t then match zQ P t with
   | some (.agg [.wY,.qQ])=>some (.ptr (s.nb+1) (.lit 0) 0 0,{ s with mem:=(s.nb+1,.bld t (.lit 0) s.nb)::(s.nb,.byt kn.bld.2 (.lit 0))::s.mem,nb:=s.nb+2 },[])
   | _=>none
   else match zQ P t with
   | some z=>some (.ptr s.nb (.lit 0) 0 0,zf s (.cells z.cells true),[])
   | none=>none
def Ry (_P:Program) (_kn:Kn) (s:St) (_x0:TypeId) (x:Operand):Option (AV × St × List PE):=
 match evalOp s.tmps x with
   | some (.big l ks t n m)=>if l.all AV.one∧m.all AV.one then some (.ptr s.nb (.lit 0) 0 0,zf s (.big l ks t n m true),[]) else none
   | some v=>if v.cells.all AV.one then some (.ptr s.nb (.lit 0) 0 0,zf s (.cells v.cells true),[]) else none
   | none=>none
def BP (P:Program) (_kn:Kn) (s:St) (t:TypeId) (a:Operand) (x:Operand):Option (AV × St × List PE):=
 match evalOp s.tmps a,evalOp s.tmps x,qp P t with
   | some (.ptr b r z k),some v,some n=>if v.cells.length=n then
       (storeAt s.mem b r z k v.cells).map fun (M,ps)=>(.undef,{ s with mem:=M },ps)
     else none
   | _,_,_=>none
def QT (P:Program) (_kn:Kn) (s:St) (t:TypeId) (n:Nat) (parts:Array (Nat × Operand)):Option (AV × St × List PE):=
 match P.underlying t with
   | some (.slice el)=>match zQ P el,qp P el,jO s.tmps parts.toList with
     | some z,some sz,some ps=>
       if z.cells.length=sz∧n*sz≤1000 then
         match wU (fun i=>some (i*sz,sz)) (rz n z.cells) ps with
         | some vs=>if vs.all AV.one then some (if n=0∧(jk z.cells).isNone then .cap0 else .slice s.nb (.lit 0) (.lit n) sz false,zf s (vD z.cells n vs),[]) else none
         | none=>none
       else none
     | _,_,_=>none
   | _=>none
def Ju (P:Program) (_kn:Kn) (s:St) (t:TypeId) (l:Operand) (c:Operand):Option (AV × St × List PE):=
 match P.underlying t,evalOp s.tmps l,evalOp s.tmps c with
   | some (.slice el),some (.int _ (.lit a)),some (.int _ (.lit b))=>match zQ P el,qp P el,(P.info? el).map (·.bytes) with
     | some z,some sz,some bytes=>
       if 0≤a∧a=b∧a≤70000∧bytes≤1000∧z.cells.length=sz then match jk z.cells with
         | some ks=>if z.cells.all AV.isZero then some (.slice s.nb (.lit 0) (.lit a) sz false,zf s (.rows ks .zt (.lit a) true false),[]) else none
         | none=>if a≤100 then some (.slice s.nb (.lit 0) (.lit a) sz false,zf s (.cells (rz a.toNat z.cells) true),[]) else none
       else none
     | _,_,_=>none
   | some (.slice el),some (.int _ e),some (.int _ e')=>tY P s el e e'
   | _,_,_=>none
def Xz (P:Program) (_kn:Kn) (s:St) (src:TypeId) (dst:TypeId) (x:Operand):Option (AV × St × List PE):=
 if src=dst then aX P s dst (evalOp s.tmps x) else match (evalOp s.tmps x).bind AV.GR,P.underlying dst,P.underlying src with
   | some (t,n),some (.slice el),some .string=>match P.underlying el,qp P el with
     | some (.int .u8),some 1=>some (.slice s.nb (.lit 0) n 1 false,zf s (.rows [.int .u8] t n true false),[.tt (mkBin .le n (.lit 1000000))])
     | _,_=>none
   | _,_,_=>none
def MO (P:Program) (_kn:Kn) (s:St) (a0:Call):Option (AV × St × List PE):=
 match a0 with
 | { callee:=.builtin .clear,args,argTypes }=>match args.toList,argTypes.toList with
   | [x],[t]=>match evalOp s.tmps x,P.underlying t with
     | some (.asl b k n z),some (.slice el)=>match zQ P el,qp P el with
       | some zv,some sz=>if sz=z∧zv.cells.length=sz then (dD s.mem b k z zv.cells n).map fun (M,ps)=>(.tup [],{ s with mem:=M },ps) else none
       | _,_=>none
     | _,_=>none
   | _,_=>none
 | { callee:=.builtin .copy,args,argTypes }=>match args.toList,argTypes.toList with
   | [x,y],[t,_]=>match evalOp s.tmps x,evalOp s.tmps y,P.underlying t with
     | some xv,some yv,some (.slice el)=>match zQ P el,qp P el with
       | some zv,some sz=>match jk zv.cells with
         | some ks=>if sz=ks.length then (Kw s.mem sz ks xv yv).map fun (n,M,ps)=>(.int .i64 (.lit n),{ s with mem:=M },ps) else none
         | none=>none
       | _,_=>none
     | _,_,_=>none
   | _,_=>none
 | { callee:=.builtin .append,args,argTypes }=>match args.toList,argTypes.toList with
   | [x,y],[t,u]=>match evalOp s.tmps x,evalOp s.tmps y,P.underlying t,P.underlying u with
     | some v,some (.int _ e),some (.slice el),some (.int _)=>match vC P s el v e with
       | some r=>some r
       | none=>yN P s el v e
     | some v,some w,some (.slice el),some (.slice _)=>match zQ P el with
       | some z=>match jk z.cells with
         | some _=>mQ P s el v w
         | none=>match mQ P s el v w with
           | some r=>some r
           | none=>dN P s el v w
       | none=>none
     | _,_,_,_=>none
   | _,_=>none
 | _=>none
def F3 (P:Program) (kn:Kn) (s:St) (o:Op):Option (AV × St × List PE):=
 match o with
 | .makeMap a0 a1=>Xq P kn s a0 a1
 | .mapUpdate t x i y=>Jl P kn s t x i y
 | .insert t x i y=>VG P kn s t x i y
 | .lookup t x i ok=>VX P kn s t x i ok
 | .range t x=>BS P kn s t x
 | .next a0 a1=>MI P kn s a0 a1
 | .alloc t=>BL P kn s t
 | .box x0 x=>Ry P kn s x0 x
 | .store t a x=>BP P kn s t a x
 | .buildSlice t n parts=>QT P kn s t n parts
 | .makeSlice t l c=>Ju P kn s t l c
 | .convert src dst x=>Xz P kn s src dst x
 | .call a0=>MO P kn s a0
 | _=>none
theorem jS (P:Program) (kn:Kn) (s:St) (o:Op):F3 P kn s o=loud P kn s o:=by
 cases o with
 | makeMap t r=>cases r <;> rfl
 | mapUpdate=>rfl
 | insert=>rfl
 | lookup t x i ok=>cases ok <;> rfl
 | range=>rfl
 | next x b=>cases b <;> rfl
 | alloc=>rfl
 | box=>rfl
 | store=>rfl
 | buildSlice=>rfl
 | makeSlice=>rfl
 | convert=>rfl
 | call c=>
   obtain ⟨f,l,m⟩:=c
   cases f with
   | builtin b=>cases b <;> rfl
   | _=>rfl
 | _=>rfl
end Go.Sx
end
noncomputable section
namespace Go.Sx
open Go
inductive VT where
 | nil
 | node (v:Option E) (l r:VT)
noncomputable def VT.get (t:VT):Nat→Option E:=
 VT.rec (motive:=fun _=>Nat→Option E) (fun _=>none)
   (fun v _ _ gl gr i=>Bool.rec (motive:=fun _=>Option E) (Bool.rec (motive:=fun _=>Option E) (gr (Nat.sub (Nat.div i 2) 1)) (gl (Nat.div i 2)) (Nat.beq (Nat.mod i 2) 1)) v (Nat.beq i 0)) t
noncomputable def VT.put (e:E) (f:Nat):VT→Nat→VT:=
 Nat.rec (motive:=fun _=>VT→Nat→VT) (fun t _=>t)
   (fun _ ih t i=>VT.rec (motive:=fun _=>VT)
     (Bool.rec (motive:=fun _=>VT) (Bool.rec (motive:=fun _=>VT) (.node none .nil (ih .nil (Nat.sub (Nat.div i 2) 1))) (.node none (ih .nil (Nat.div i 2)) .nil) (Nat.beq (Nat.mod i 2) 1)) (.node (some e) .nil .nil) (Nat.beq i 0))
     (fun v l r _ _=>Bool.rec (motive:=fun _=>VT) (Bool.rec (motive:=fun _=>VT) (.node v l (ih r (Nat.sub (Nat.div i 2) 1))) (.node v (ih l (Nat.div i 2)) r) (Nat.beq (Nat.mod i 2) 1)) (.node (some e) l r) (Nat.beq i 0)) t) f
structure Sub where
 nv:Nat
 nb:Nat
 vs:VT
 ct:Nat
 bs:List (Nat × Option Nat)
def Sub.zO (u:Sub) (p e:E):Sub:=
 match p with
 | .var i=>match u with
   | ⟨nv,nb,vs,ct,bs⟩=>bif Nat.ble nv i then (match vs.get (Nat.sub i nv) with
     | some _=>⟨nv,nb,vs,ct,bs⟩
     | none=>⟨nv,nb,vs.put e 24 (Nat.sub i nv),Nat.succ ct,bs⟩) else ⟨nv,nb,vs,ct,bs⟩
 | _=>u
def Sub.sH (u:Sub) (b:Nat) (c:Option Nat):Sub:=
 if b<u.nb then u else match get u.bs b with
   | some _=>u
   | none=>{ u with bs:=(b,c)::u.bs }
def Sub.force (u:Sub) (f:Sub→Sub):Sub:=match u with
 | ⟨nv,nb,vs,ct,bs⟩=>f ⟨nv,nb,vs,ct,bs⟩
def Sub.Av (u:Sub):List Clo→List Clo→Sub
 | c::l,d::m=>(u.sH c.b (some d.b)).force fun u=>u.Av l m
 | _,_=>u
def Sub.cks (u:Sub):List CK→List CK→Sub
 | .clo l::ks,.clo m::ks'=>(u.Av l m).force fun u=>u.cks ks ks'
 | _::ks,_::ks'=>u.cks ks ks'
 | _,_=>u
mutual
def Sub.av (u:Sub):AV→AV→Sub
 | .bool e,.bool f=>u.zO e f
 | .int _ e,.int _ f=>u.zO e f
 | .ptr b r _ _,.ptr c q _ _=>(u.sH b (some c)).zO r q
 | .slice b lo n _ _,.slice c lo' n' _ _=>((u.sH b (some c)).zO lo lo').zO n n'
 | .slice b _ n _ _,.qQ=>(u.sH b none).zO n (.lit 0)
 | .slice b _ n _ _,.cap0=>(u.sH b none).zO n (.lit 0)
 | .slice b _ n _ _,.mg=>(u.sH b none).zO n (.lit 0)
 | .wN t n,.wN t' n'=>(u.zO t t').zO n n'
 | .wN t n,.str l=>(u.zO t (Yd l)).zO n (.lit l.length)
 | .sat e,v=>match v.code with
   | some f=>u.zO e f
   | none=>u
 | .ifo e,.ifo f=>u.zO e f
 | .lst _ e,.lst _ f=>u.zO e f
 | .fco l e,.fco m f=>(u.Av l m).zO e f
 | .fco _ e,.jW=>u.zO e (.lit 0)
 | .xg _ e i _,.xg _ f j _=>(u.zO e f).zO i j
 | .vT a,.vT b=>u.av a b
 | .ifo e,.yI=>u.zO e (.lit 0)
 | .asl b _ _ _,.asl c _ _ _=>u.sH b (some c)
 | .yV _ l m,.yV _ l' m'=>(u.avs l l').avs m m'
 | .big l _ t _ m,.big l' _ t' _ m'=>((u.avs l l').zO t t').avs m m'
 | .func _ l,.func _ m=>u.avs l m
 | .yld b,.yld c=>u.sH b (some c)
 | .mref b,.mref c=>u.sH b (some c)
 | .agg l,.agg m=>u.avs l m
 | .tup l,.tup m=>u.avs l m
 | _,_=>u
def Sub.avs (u:Sub):List AV→List AV→Sub
 | a::l,b::m=>(u.av a b).force fun u=>u.avs l m
 | _,_=>u
end
def Sub.tmps (u:Sub):qL→qL→Sub
 | [],_=>u
 | (t,v)::l,m=>match get m t with
   | some w=>(u.av v w).force fun u=>u.tmps l m
   | none=>u.tmps l m
def Sub.blk (u:Sub):Blk→Blk→Sub
 | .cells l _,.cells m _=>u.avs l m
 | .rows ks t n _ _,.rows ks' t' n' _ _=>((u.cks ks ks').zO t t').zO n n'
 | .ovr _ t n h l _ _,.ovr _ t' n' h' l' _ _=>(((u.zO t t').zO n n').zO h h').avs l l'
 | .rows _ t n _ _,.ovr _ t' n' _ _ _ _=>(u.zO t t').zO n n'
 | .big l _ t _ m _,.big l' _ t' _ m' _=>((u.avs l l').zO t t').avs m m'
 | .loop _ _ _ _ _ ts d,.loop _ _ _ _ _ ts' d'=>(u.sH d (some d')).tmps ts ts'
 | .mp l m,.mp l' m'=>(u.avs l l').avs m m'
 | .smp _ _ _ t n,.smp _ _ _ t' n'=>(u.zO t t').zO n n'
 | .smp _ _ _ t n,.mp [] []=>(u.zO t .zt).zO n (.lit 0)
 | .iter e q _,.iter e' q' _=>(u.zO e e').zO q q'
 | .bld _ e d,.bld _ e' d'=>(u.sH d (some d')).zO e e'
 | .byt _ e,.byt _ e'=>u.zO e e'
 | .fam _ t (some e),.fam _ t' (some e')=>(u.zO t t').zO e e'
 | .fam _ t none,.fam _ t' none=>u.zO t t'
 | .fam _ t none,.mp [] []=>u.zO t .zt
 | _,_=>u
def Sub.img (u:Sub) (b:Nat):Option Nat:=if b<u.nb then some b else (get u.bs b).join
def Sub.mem (u:Sub) (last:Bool):Mem→Mem→Sub
 | [],_=>u
 | (b,x)::l,M=>match u.img b with
   | some c=>match get M c with
     | some y=>(u.blk x y).force fun u=>u.mem last l M
     | none=>u.mem last l M
   | none=>match last,x with
     | true,.rows _ t n _ _=>((u.zO t .zt).zO n (.lit 0)).mem last l M
     | _,_=>u.mem last l M
def Sub.Ub (vs:VT):Nat→Nat→List E
 | 0,_=>[]
 | n+1,k=>(vs.get k).getD .zt::Sub.Ub vs n (Nat.succ k)
def Sub.list (u:Sub) (n:Nat):List E:=match u with
 | ⟨_,_,vs,_,_⟩=>Sub.Ub vs n 0
structure Fix where
 nv:Nat
 nb:Nat
 kb:Nat
 σ:List E
 ρ:List (Nat × Option Nat)
def Fix.img (u:Fix) (b:Nat):Option Nat:=if b<u.nb then some b else if b<u.kb then (get u.ρ b).join else none
def Fix.e (u:Fix) (p:E):E:=p.subst u.nv u.σ
def Fix.clo (u:Fix) (c:Clo):Clo:={ c with b:=(u.img c.b).getD 0 }
def Fix.ck (u:Fix):CK→CK
 | .clo cs=>.clo (cs.map u.clo)
 | k=>k
def Fix.Sw (u:Fix) (cs:List Clo):Bool:=cs.all fun c=>(u.img c.b).isSome
def Fix.Sg (u:Fix):CK→Bool
 | .clo cs=>u.Sw cs
 | _=>true
def CK.Rj:CK→Bool
 | .clo _=>false
 | _=>true
mutual
def Fix.le (u:Fix):AV→AV→Bool
 | .any,_=>true
 | .undef,.undef=>true
 | .bool e,.bool f=>u.e e == f
 | .int k e,.int k' f=>k == k' && u.e e == f
 | .wY,.wY=>true
 | .ptr b r s k,.ptr c q s' k'=>u.img b == some c && u.e r == q && s == s' && k == k'
 | .qQ,.qQ=>true
 | .slice b lo n s nl,.slice c lo' n' s' nl'=>u.img b == some c && u.e lo == lo' && u.e n == n' && s == s' && (nl || !nl')
 | .slice _ lo n _ nl,.qQ=>nl && u.e n == .lit 0 && u.e lo == .lit 0
 | .slice _ lo n _ nl,.cap0=>nl && u.e n == .lit 0 && u.e lo == .lit 0
 | .slice _ lo n _ nl,.mg=>nl && u.e n == .lit 0 && u.e lo == .lit 0
 | .mg,.mg=>true
 | .wN t n,.wN t' n'=>u.e t == t' && u.e n == n'
 | .wN t n,.str l=>u.e t == Yd l && u.e n == .lit l.length
 | .sat e,v=>match v.code with
   | some f=>u.e e == f
   | none=>false
 | .ifo e,.ifo f=>u.e e == f
 | .lst ks e,.lst ks' f=>ks == ks' && u.e e == f
 | .fco l e,.fco m f=>l.map u.clo == m && u.e e == f && u.Sw l
 | .fco _ e,.jW=>u.e e == .lit 0
 | .xg ks e i k,.xg ks' f j k'=>ks == ks' && u.e e == f && u.e i == j && k == k'
 | .vT a,.vT b=>u.le a b
 | .ifo e,.yI=>u.e e == .lit 0
 | .cap0,.cap0=>true
 | .gD g k,.gD g' k'=>g == g' && k == k'
 | .str l,.str m=>l == m
 | .empty,.empty=>true
 | .empty,.cap0=>true
 | .asl b k n s,.asl c k' n' s'=>u.img b == some c && k == k' && n == n' && s == s'
 | .yV f l m,.yV g l' m'=>f == g && u.les l l' && u.les m m'
 | .big l ks t n m,.big l' ks' t' n' m'=>u.les l l' && ks == ks' && u.e t == t' && n == n' && u.les m m' && ks.all CK.Rj
 | .func f l,.func g m=>f == g && u.les l m
 | .yld b,.yld c=>u.img b == some c
 | .mref b,.mref c=>u.img b == some c
 | .vO,.vO=>true
 | .yI,.yI=>true
 | .jW,.jW=>true
 | .agg l,.agg m=>u.les l m
 | .tup l,.tup m=>u.les l m
 | _,_=>false
def Fix.les (u:Fix):List AV→List AV→Bool
 | [],[]=>true
 | a::l,b::m=>u.le a b && u.les l m
 | _,_=>false
end
def Fix.M6 (u:Fix):List AV→List AV→Bool
 | [],_=>true
 | a::l,b::m=>u.le a b && u.M6 l m
 | _::_,[]=>false
def Fix.leT (u:Fix):qL→qL→Bool
 | [],_=>true
 | (t,v)::l,m=>(match get m t with
   | some w=>u.le v w
   | none=>false) && u.leT l m
def Fix.leB (u:Fix):Blk→Blk→Bool
 | .cells l w,.cells m w'=>(!w || w') && u.M6 l m
 | .rows ks t n w nl,.rows ks' t' n' w' nl'=>ks.map u.ck == ks' && u.e t == t' && u.e n == n' && (!w || w') && (nl || !nl') && ks.all u.Sg
 | .rows ks t n w nl,.ovr ks' t' n' _ _ w' nl'=>ks.map u.ck == ks' && u.e t == t' && u.e n == n' && !w && !w' && (nl || !nl') && ks.all u.Sg
 | .ovr ks t n h l w nl,.ovr ks' t' n' h' l' w' nl'=>ks.map u.ck == ks' && u.e t == t' && u.e n == n' && u.e h == h' && u.les l l' && w == w' && (nl || !nl') && ks.all u.Sg
 | .big l ks t n m w,.big l' ks' t' n' m' w'=>u.les l l' && ks == ks' && u.e t == t' && n == n' && u.M6 m m' && (!w || w') && ks.all CK.Rj
 | .loop st p f ix nt ts d,.loop st' p' f' ix' nt' ts' d'=>st == st' && p == p' && f == f' && ix == ix' && nt == nt' && u.leT ts ts' && u.img d == some d'
 | .dfr a,.dfr b=>a == b
 | .mp l m,.mp l' m'=>u.les l l' && u.les m m'
 | .smp w one ks t n,.smp w' one' ks' t' n'=>w == w' && one == one' && ks == ks' && u.e t == t' && u.e n == n'
 | .smp _ _ ks t n,.mp [] []=>u.e t == .zt && u.e n == .lit 0 && ks.all CK.plain
 | .iter e q k,.iter e' q' k'=>u.e e == e' && u.e q == q' && (k == 0 || k == k')
 | .bld t e d,.bld t' e' d'=>t == t' && u.e e == e' && u.img d == some d'
 | .byt t e,.byt t' e'=>t == t' && u.e e == e'
 | .fam ck t (some e),.fam ck' t' (some e')=>ck == ck' && u.e t == t' && u.e e == e'
 | .fam ck t none,.fam ck' t' none=>ck == ck' && u.e t == t'
 | .fam ck t none,.mp [] []=>u.e t == .zt && ck.plain
 | _,_=>false
def Fix.leM (u:Fix):Mem→Mem→Bool
 | [],_=>true
 | (b,x)::l,M=>(match u.img b with
   | some c=>match get M c with
     | some y=>u.leB x y
     | none=>false
   | none=>match x with
     | .rows _ t n _ nl=>nl && u.e n == .lit 0 && u.e t == .zt && decide (b<u.kb)
     | _=>false) && u.leM l M
def Fix.Dj (u:Fix):Mem→List Nat
 | []=>[]
 | (b,_)::l=>match u.img b with
   | some c=>c::u.Dj l
   | none=>u.Dj l
def nodup:List Nat→Bool
 | []=>true
 | x::l=>!l.contains x && nodup l
def keys {α:Type} (l:List (Nat × α)):List Nat:=l.map (·.1)
def nodupB:List Nat→Nat→Bool
 | [],_=>true
 | x::l,m=>bif Nat.beq (Nat.land (Nat.shiftRight m x) 1) 1 then false else nodupB l (Nat.lor m (Nat.shiftLeft 1 x))
theorem Wx:∀{l:List Nat} {m:Nat},nodupB l m=(nodup l && l.all fun x=>!Nat.testBit m x)
 | [],_=>rfl
 | x::l,m=>by
   have hb:Nat.beq (Nat.land (Nat.shiftRight m x) 1) 1=Nat.testBit m x:=by
     show Nat.beq ((m >>> x) &&& 1) 1=_
     rw [Nat.and_one_is_mod,Nat.testBit_eq_decide_div_mod_eq,Nat.shiftRight_eq_div_pow,Bool.eq_iff_iff,decide_eq_true_eq]
     exact Nat.beq_eq ▸ Iff.rfl
   simp only [nodupB,hb,nodup,List.all_cons]
   cases hx:Nat.testBit m x with
   | true=>simp
   | false=>
     rw [cond_false,Wx]
     have e:∀y,Nat.testBit (Nat.lor m (Nat.shiftLeft 1 x)) y=(Nat.testBit m y || decide (x=y)):=fun y=>by
       show Nat.testBit (m ||| (1 <<< x)) y=_
       rw [Nat.testBit_or,Nat.one_shiftLeft,Nat.testBit_two_pow]
     have c:(l.all fun y=>!Nat.testBit (Nat.lor m (Nat.shiftLeft 1 x)) y)=(!l.contains x && l.all fun y=>!Nat.testBit m y):=by
       rw [Bool.eq_iff_iff]
       simp only [List.all_eq_true,Bool.and_eq_true,Bool.not_eq_true',e,Bool.or_eq_false_iff,decide_eq_false_iff_not,←Bool.not_eq_true,List.contains_iff_mem]
       constructor
       · intro h
         exact ⟨fun hm=>h x hm (by simp),fun y hy c=>h y hy (by simp [c])⟩
       · rintro ⟨h1,h2⟩ y hy c
         simp only [Bool.or_eq_true,decide_eq_true_eq] at c
         rcases c with c | c
         · exact h2 y hy c
         · exact h1 (c ▸ hy)
     rw [c]
     cases nodup l <;> cases l.contains x <;> simp
theorem Vo {l:List Nat}:nodupB l 0=nodup l:=by
 rw [Wx];simp
def Fix.ok (u:Fix) (M:Mem):Bool:=nodupB (keys M) 0 && nodupB (u.Dj M) 0
def Fix.leD (u:Fix):List DV→List DV→Bool
 | [],[]=>true
 | .blk a::l,.blk b::m=>u.img a == some b && u.leD l m
 | .fn f l1 l2::l,.fn g m1 m2::m=>f == g && u.les l1 m1 && u.les l2 m2 && u.leD l m
 | _,_=>false
def Fix.leS (u:Fix) (h s:St):Bool:=
 decide (u.nb≤u.kb) && h.nt == s.nt && u.leD h.defers s.defers && u.leT h.tmps s.tmps && u.leM h.mem s.mem && u.ok h.mem
def vW (nv nb m k:Nat) (h s:St):Fix:=
 let u:Sub:={ nv,nb,vs:=.nil,ct:=0,bs:=[] }
 let go (last:Bool) (u:Sub):Sub:=u.force fun u=>match Nat.beq u.ct m,Nat.beq u.bs.length k with
   | true,true=>u
   | _,_=>u.mem last h.mem s.mem
 let more (u v:Sub):Sub:=match Nat.beq u.ct v.ct,Nat.beq u.bs.length v.bs.length with
   | true,true=>v
   | _,_=>go false v
 let u0:=u.tmps h.tmps s.tmps
 let u1:=go false u0
 let u2:=more u0 u1
 let u:=go true (more u1 u2)
 { nv,nb,kb:=nb+k,σ:=u.list m,ρ:=u.bs }
structure Contract where
 fn:FuncId
 sorts:List Bool
 args:List AV
 mem:Mem
 nb:Nat
 pre:List PE
 outs:List Bool
 res:AV
 mods:Mem
 fresh:Mem
 post:List PE
structure Ann where
 fn:FuncId
 bid:Nat
 keep:List Nat
 tmps:qL
 drop:List Nat
 mem:Mem
 sorts:List Bool
 nbl:Nat
 inv:List PE
 meas:E
 /-- Numbers that a round begins with: where what is said of the head is said first. -/
 on:List (Nat × Int):=[]
 /-- What holds no literal number there. -/
 off:List Nat:=[]
 /-- A round in which a number is this one (and others are these) is told apart; there the row of that number is kept out of a block. -/
 split:Option (Nat × E × Nat × List (E × Int)):=none
 /-- A round may end in a state that is spoken of otherwise. -/
 leave:Bool:=false
structure Cx where
 P:Program
 cs:List Contract
 bO:List Ann
 kn:Kn:={}
 /-- Loops ahead of which the row that a pointer names is kept out of its block. -/
 pins:List (FuncId × Nat × Nat):=[]
 /-- Loops ahead of which a slice's cells become rows, lists and closures as numbers. -/
 RY:List (FuncId × Nat × Nat × List CK):=[]
 /-- Loops that are not gone through where nothing that is said of their heads fits. -/
 stops:List (FuncId × Nat):=[]
inductive Ex where
 | normal
 | ret
 | exit (id:Nat)
 | goto (l:Nat)
 deriving DecidableEq
def Ro (ks:List Nat):qL→qL
 | []=>[]
 | (t,v)::l=>if ks.contains t then (t,v)::Ro (ks.filter fun k=>!Nat.beq k t) l else Ro ks l
def Gi {α:Type}:List Nat→List (Nat × α)→List (Nat × α)
 | [],M=>M
 | b::l,M=>Gi l (del b M)
def puts {α:Type}:List (Nat × α)→List (Nat × α)→List (Nat × α)
 | [],M=>M
 | (b,x)::l,M=>put b x (puts l M)
def vU:List Bool→List E→List PE
 | b::l,e::m=>.sort b e::vU l m
 | _,_=>[]
def Ann.head (a:Ann) (s:St):St:=
 { s with tmps:=puts a.tmps (Ro a.keep s.tmps),mem:=puts a.mem (Gi a.drop s.mem),nv:=s.nv+a.sorts.length,nb:=s.nb+a.nbl }
def Ann.fits (a:Ann) (s:St):Bool:=
 let h:=a.head s
 let u:=vW s.nv s.nb a.sorts.length a.nbl h s
 u.leS h s && decide (u.σ.length=a.sorts.length) && (a.on.all fun x=>match get s.tmps x.1 with
   | some (.int _ (.lit n))=>n == x.2
   | _=>false) && a.off.all fun t=>match get s.tmps t with
   | some (.int _ (.lit _))=>false
   | _=>true
def CP (l:List Ann) (fn:FuncId) (bid:Nat) (s:St):Option Ann:=l.find? fun a=>a.fn == fn && a.bid == bid && a.fits s
structure RF where
 params:List Nat
 assign:Code
 body:Code
def rfs:Code→List RF
 | .seq a b=>rfs a++rfs b
 | .cond _ a b=>rfs a++rfs b
 | .block _ b=>rfs b
 | .loop b=>rfs b
 | .scope b=>rfs b
 | .rangeFunc _ ps a b=>{ params:=ps.toList,assign:=a,body:=b } :: (rfs a++rfs b)
 | _=>[]
def ZT (P:Program) (fn ix:Nat):Option RF:=
 match P.funcs[fn]? with
 | some f=>match f.body with
   | some c=>(rfs c)[ix]?
   | none=>none
 | none=>none
mutual
def Fix.inst (u:Fix):AV→AV
 | .bool e=>.bool (u.e e)
 | .int k e=>.int k (u.e e)
 | .ptr b r s k=>.ptr ((u.img b).getD 0) (u.e r) s k
 | .slice b lo n s nl=>.slice ((u.img b).getD 0) (u.e lo) (u.e n) s nl
 | .func f l=>.func f (u.insts l)
 | .yld b=>.yld ((u.img b).getD 0)
 | .mref b=>.mref ((u.img b).getD 0)
 | .agg l=>.agg (u.insts l)
 | .tup l=>.tup (u.insts l)
 | .big l ks t n m=>.big (u.insts l) (ks.map u.ck) (u.e t) n (u.insts m)
 | .asl b k n s=>.asl ((u.img b).getD 0) k n s
 | .wN t n=>.wN (u.e t) (u.e n)
 | .sat e=>.sat (u.e e)
 | .ifo e=>.ifo (u.e e)
 | .lst ks e=>.lst ks (u.e e)
 | .vT a=>.vT (u.inst a)
 | .fco cs e=>.fco (cs.map u.clo) (u.e e)
 | .xg ks e i k=>.xg ks (u.e e) (u.e i) k
 | .yV f l m=>.yV f (u.insts l) (u.insts m)
 | v=>v
def Fix.insts (u:Fix):List AV→List AV
 | []=>[]
 | v::l=>u.inst v::u.insts l
end
def Fix.Ql (u:Fix):qL→qL
 | []=>[]
 | (t,v)::l=>(t,u.inst v)::u.Ql l
def Fix.V5 (u:Fix):Blk→Blk
 | .cells l w=>.cells (u.insts l) w
 | .rows ks t n w nl=>.rows (ks.map u.ck) (u.e t) (u.e n) w nl
 | .ovr ks t n h l w nl=>.ovr (ks.map u.ck) (u.e t) (u.e n) (u.e h) (u.insts l) w nl
 | .big l ks t n m w=>.big (u.insts l) (ks.map u.ck) (u.e t) n (u.insts m) w
 | .loop st p f ix nt ts d=>.loop st p f ix nt (u.Ql ts) ((u.img d).getD 0)
 | .dfr b=>.dfr b
 | .mp l m=>.mp (u.insts l) (u.insts m)
 | .smp w one ks t n=>.smp w one ks (u.e t) (u.e n)
 | .iter e q k=>.iter (u.e e) (u.e q) k
 | .bld t e d=>.bld t (u.e e) ((u.img d).getD 0)
 | .byt t e=>.byt t (u.e e)
 | .fam ck t op=>.fam ck (u.e t) (op.map u.e)
def Fix.dK (u:Fix):Mem→Mem
 | []=>[]
 | (b,x)::l=>((u.img b).getD 0,u.V5 x)::u.dK l
def nU:Mem→List Nat
 | []=>[]
 | (b,x)::l=>if x.wr then b::nU l else nU l
def Fix.aM (u:Fix):List Nat→List Nat
 | []=>[]
 | b::l=>match u.img b with
   | some c=>c::u.aM l
   | none=>u.aM l
def Qq:Nat→Nat→List E
 | 0,_=>[]
 | k+1,n=>.var n::Qq k (Nat.succ n)
def ji (n k:Nat):List E:=Qq k n
theorem Zc:∀k n,Qq (k+1) n=Qq k n++[.var (n+k)]
 | 0,_=>rfl
 | k+1,n=>by
   show E.var n::Qq (k+1) (n+1)=(E.var n::Qq k (n+1))++[.var (n+(k+1))]
   rw [Zc k (n+1),List.cons_append]
   congr 4;omega
theorem lK (n k:Nat):ji n (k+1)=ji n k++[.var (n+k)]:=Zc k n
def tH (n m:Nat):Nat→List (Nat × Option Nat)
 | 0=>[]
 | k+1=>(n+k,some (m+k))::tH n m k
def Contract.form (c:Contract):Bool:=
 (keys c.fresh).all (fun b=>decide (c.nb≤b) && decide (b<c.nb+c.fresh.length)) && (keys c.mods).all (fun b=>(nU c.mem).contains b) &&
 (c.mods++c.fresh).all (fun x=>x.2.wr) && (c.mem++(c.mods++c.fresh)).all (fun x=>!x.2.wZ)
def DT (c:Contract) (args:List AV) (s:St) (k:AV→St→Tree):Tree:=
 let h:St:={ tmps:=[(0,.agg c.args)],nt:=0,defers:=[],mem:=c.mem,nv:=0,nb:=0 }
 let t:St:={ tmps:=[(0,.agg args)],nt:=0,defers:=[],mem:=s.mem,nv:=0,nb:=0 }
 let u:=vW 0 0 c.sorts.length c.nb h t
 if !(u.leS h t) || !(decide (u.σ.length=c.sorts.length)) || !c.form || !((nU c.mem).all fun b=>(u.img b).isSome) then .fail 10 else
 let u2:Fix:={ nv:=0,nb:=0,kb:=c.nb+c.fresh.length,σ:=u.σ++ji s.nv c.outs.length,ρ:=tH c.nb s.nb c.fresh.length++u.ρ }
 let s2:St:={ s with
   mem:=u2.dK c.fresh++(u2.dK c.mods++Gi (u.aM (nU c.mem)) s.mem)
   nv:=s.nv+c.outs.length,nb:=s.nb+c.fresh.length }
 qR (vU c.sorts u.σ++c.pre.map (PE.subst 0 u.σ)) (rO c.outs (assumes (c.post.map (PE.subst 0 u2.σ)) (k (u2.inst c.res) s2)))
def PE.maybe:PE→Bool
 | .ff (.sel t r c)=>match j5 t r c with
   | .lit n=>n == 0
   | _=>true
 | .tt (.sel t r c)=>match j5 t r c with
   | .lit n=>n != 0
   | _=>true
 | _=>true
def fits (c:Contract) (args:List AV) (s:St):Bool:=
 let h:St:={ tmps:=[(0,.agg c.args)],nt:=0,defers:=[],mem:=c.mem,nv:=0,nb:=0 }
 let t:St:={ tmps:=[(0,.agg args)],nt:=0,defers:=[],mem:=s.mem,nv:=0,nb:=0 }
 let u:=vW 0 0 c.sorts.length c.nb h t
 u.leS h t && decide (u.σ.length=c.sorts.length) && (c.pre.all fun p=>(p.subst 0 u.σ).maybe)
def RA (l:List Contract) (fn:FuncId) (args:List AV) (s:St):Option Contract:=l.find? fun c=>c.fn == fn && fits c args s
structure Eng where
 exec:FuncId→Option Nat→Nat→Nat→Code→St→(Ex→St→Tree)→Tree
 loop:FuncId→Option Nat→Nat→Nat→Code→St→(Ex→St→Tree)→Tree
 sD:AV→List AV→St→(AV→St→Tree)→Tree
def nu {α:Type} (n:Nat) (f:Nat→α):α:=match n with
 | 0=>f 0
 | m+1=>f (m+1)
theorem Wo {α:Type} {n:Nat} {f:Nat→α}:nu n f=f n:=by cases n <;> rfl
def yc (s:St) (dst:Option Tmp) (v:AV):Option St:=match s with
 | ⟨tmps,nt,ds,mem,nv,nb⟩=>nu nt fun nt=>nu nb fun nb=>nu nv fun nv=>match dst with
   | some d=>if d<nt then some ⟨nI d v tmps,nt,ds,mem,nv,nb⟩ else none
   | none=>some ⟨tmps,nt,ds,mem,nv,nb⟩
theorem Fy {s:St} {dst:Option Tmp} {v:AV}:Sx.yc s dst v=match dst with
   | some d=>if d<s.nt then some { s with tmps:=nI d v s.tmps } else none
   | none=>some s:=by
 cases s;cases dst <;> simp [Sx.yc,Wo]
def uP (ops:Array Oper) (s:St) (o:Oper):Option (Bool ⊕ (Nat × E)):=
 match o.guard with
 | none=>some (.inl true)
 | some (j,want)=>match (ops[j]?).bind (·.dst) with
   | some t=>match get s.tmps t with
     | some (.bool (.lit n))=>some (.inl ((n != 0) == want))
     | some (.bool e)=>some (.inr (t,e))
     | some .undef=>some (.inl false)
     | _=>none
   | none=>none
def FD (s:St) (o:Oper):Option (Nat × E):=
 match o.op with
 | .pick (.tmp t) _ _=>match get s.tmps t with
   | some (.bool (.lit _))=>none
   | some (.bool e)=>some (t,e)
   | _=>none
 | _=>none
def setBool (s:St) (t:Nat) (b:Bool):St:={ s with tmps:=nI t (.bool (.lit (if b then 1 else 0))) s.tmps }
def Kr (ts:qL) (o:Op):Option (AV × List AV):=
 match o with
 | .call { callee:=.value f,args,argTypes:=_ }=>match evalOp ts f,vX ts args.toList with
   | some v,some l=>some (v,l)
   | _,_=>none
 | _=>none
def gV:Op→Bool
 | .defer _=>true
 | _=>false
def XW (ts:qL) (o:Op):Option DV:=
 match o with
 | .defer { callee:=.value f,args,argTypes:=_ }=>if args.size=0 then match evalOp ts f with
     | some (.func g l)=>some (.fn g [] l)
     | some (.yV g m l)=>some (.fn g m l)
     | _=>none
   else none
 | _=>none
def nT (cx:Cx) (e:Eng) (s:St) (o:Oper) (k:St→Tree):Tree:=
 match quiet cx.P cx.kn s.tmps s.mem o.op with
 | some (v,ps)=>match yc s o.dst v with
   | some s'=>qR ps (k s')
   | none=>.fail 21
 | none=>match F3 cx.P cx.kn s o.op with
   | some (v,s1,ps)=>match yc s1 o.dst v with
     | some s'=>qR ps (k s')
     | none=>.fail 22
   | none=>match Kr s.tmps o.op with
     | some (f,l)=>e.sD f l s fun v s1=>match yc s1 o.dst v with
       | some s'=>k s'
       | none=>.fail 23
     | none=>match XW s.tmps o.op with
       | some d=>match o.dst with
         | none=>k { s with defers:=d::s.defers }
         | some _=>.fail 27
       | none=>.fail 20
def Dq:List AV→Nat
 | []=>1
 | .int _ (.lit n)::l=>max (n.toNat+1) (Dq l)
 | _::l=>Dq l
def Yp (s:St) (o:Op):Option (Nat × IntKind × E × Nat):=
 match o with
 | .indexAddr _ x (.tmp i)=>match evalOp s.tmps x,get s.tmps i with
   | some (.ptr b (.lit 0) _ _),some (.int k e)=>match isLit e,get s.mem b with
     | none,some (.cells l _)=>if l.length≤16 then some (i,k,e,l.length) else none
     | _,_=>none
   | some (.slice b (.lit 0) (.lit n) _ _),some (.int k e)=>match isLit e,get s.mem b with
     | none,some (.cells _ _)=>if 0≤n∧n≤64 then some (i,k,e,n.toNat) else none
     | _,_=>none
   | _,_=>none
 | .lookup _ x (.tmp i) _=>match evalOp s.tmps x,get s.tmps i with
   | some (.mref b),some (.int k e)=>match isLit e,get s.mem b with
     | none,some (.mp ks _)=>if ks.length≤8 then some (i,k,e,Dq ks) else none
     | _,_=>none
   | _,_=>none
 | _=>none
def ZV (kn:Kn) (s:St) (o:Op):Option (Nat × IntKind × E × Nat):=
 match o with
 | .indexAddr t x (.tmp i)=>match evalOp s.tmps x,get s.tmps i,kn.arr.find? fun y=>y.1 == t with
   | some (.ptr ..),some (.int k e),some y=>match isLit e with
     | none=>some (i,k,e,y.2)
     | some _=>none
   | some (.slice b (.lit 0) (.lit n) _ _),some (.int k e),some y=>match isLit e,get s.mem b with
     | none,some (.cells _ _)=>if 0≤n∧n≤y.2 then some (i,k,e,n.toNat) else none
     | none,none=>if 0≤n∧n≤y.2 then some (i,k,e,n.toNat) else none
     | _,_=>none
   | _,_,_=>none
 | _=>none
def Yr (kn:Kn) (s:St) (o:Op):Option (Nat × IntKind × E × Nat):=if kn.skips o then none else match ZV kn s o with
 | some r=>some r
 | none=>Yp s o
def Pw (kn:Kn) (s:St) (o:Oper):Option (Nat × IntKind × E × Nat):=Yr kn s o.op
def AV.Xk (e:E) (n:Int):AV→AV
 | .int k f=>if f=e then .int k (.lit n) else .int k f
 | v=>v
def BA (e:E) (n:Int):qL→qL
 | []=>[]
 | (t,v)::l=>(t,v.Xk e n)::BA e n l
def VR (e:E) (n:Int):Mem→Mem
 | []=>[]
 | (b,.cells l w)::M=>(b,.cells (l.map (AV.Xk e n)) w)::VR e n M
 | x::M=>x::VR e n M
def setInt (s:St) (i:Nat) (k:IntKind) (e:E) (j:Nat):St:={ s with tmps:=nI i (.int k (.lit j)) (BA e j s.tmps) }
def Fx (s:St) (i:Nat) (k:IntKind) (j:Nat):St:={ s with tmps:=nI i (.int k (.lit j)) s.tmps }
def Ya:List (E × Int)→St→St
 | [],s=>s
 | (e,n)::l,s=>Ya l { s with tmps:=BA e n s.tmps,mem:=VR e n s.mem }
def VN:List (E × Int)→E→E
 | [],c=>c
 | (e,n)::l,c=>mkBin .and (mkBin .eq e (.lit n)) (VN l c)
def Bl (e:E) (f:Nat→Tree):Nat→Tree
 | 0=>.fail 29
 | n+1=>.branch (mkBin .eq e (.lit n)) (f n) (Bl e f n)
def splitN (s:St) (o:Oper):Option (Nat × E × E):=
 match o.op with
 | .next x true=>match evalOp s.tmps x with
   | some (.ptr b (.lit 0) 0 0)=>match get s.mem b with
     | some (.iter e q 0)=>some (b,e,q)
     | _=>none
   | _=>none
 | _=>none
def setIter (s:St) (b:Nat) (e q:E) (k:Nat):St:={ s with mem:=put b (.iter e q k) s.mem }
def oo (c:E) (t f:Tree):Tree:=
 match c with
 | .lit n=>if n=0 then f else t
 | c=>.branch c t f
def Rb (ks:List SK) (e:E):Blk:=.rows (ks.map SK.ck) (.fn 1017 e (.lit ks.length) (.lit 0) (.lit 0)) (.fn 1014 e (.lit ks.length) (.lit 0) (.lit 0)) false true
def F4 (b:Nat) (ks:List SK) (e:E):AV:=.slice b (.lit 0) (.fn 1014 e (.lit ks.length) (.lit 0) (.lit 0)) ks.length true
def Rv (s:St):Operand→Option St
 | .tmp t=>match get s.tmps t with
   | some (.lst (k::ks) e)=>some { s with tmps:=nI t (F4 s.nb (k::ks) e) s.tmps,mem:=(s.nb,Rb (k::ks) e)::s.mem,nb:=s.nb+1 }
   | _=>none
 | _=>none
def lookO (s:St) (o:Op):Option St:=
 match o with
 | .slice _ x _ _ none=>Rv s x
 | _=>none
def qqQ (ks:List SK) (t n:E):AV:=.lst ks (.fn 1016 t n (.lit ks.length) (.lit 0))
def Kh (f:FuncId) (b s k:Nat):Nat→List Clo→Option Nat
 | _,[]=>none
 | i,c::cs=>if c.f=f∧c.b=b∧c.s=s∧c.k=k then some i else Kh f b s k (i+1) cs
def Ld (n:Nat) (r:E) (i:Nat):E:=mkAdd (if n=1 then r else mkBin .mul r (.lit n)) (.lit (i+1))
def jB (M:Mem) (σ:List (Nat × AV)):List AV→Mem × List AV
 | []=>(M,[])
 | .func f [.ptr b (.lit 0) z 0]::l=>match get σ b with
   | some a=>((jB M σ l).1,.func f [.vT a]::(jB M σ l).2)
   | none=>match get M b with
     | some (.cells [a] true)=>((jB (del b M) ((b,a)::σ) l).1,.func f [.vT a]::(jB (del b M) ((b,a)::σ) l).2)
     | _=>((jB M σ l).1,.func f [.ptr b (.lit 0) z 0]::(jB M σ l).2)
 | v::l=>((jB M σ l).1,v::(jB M σ l).2)
def kI (s:St) (c:CK) (v:AV):St × AV × List PE:=
 match c,v with
 | .lst ks,.slice b (.lit 0) len z nl2=>match get s.mem b with
   | some (.rows ks' t n true nl)=>if ks'=ks.map SK.ck∧z=ks.length then
       ({ s with mem:=put b (.rows ks' t n false nl) s.mem },qqQ ks t len,[.tt (mkBin .le len n)])
     else (s,v,[])
   | _=>(s,v,[])
 | .lst ks,.qQ=>(s,.lst ks (.lit 0),[])
 | .clo cs,.jW=>(s,.fco cs (.lit 0),[])
 | .clo cs,.func f [.vT (.ptr c r z k)]=>match Kh f c z k 0 cs with
   | some i=>(s,.fco cs (Ld cs.length r i),[])
   | none=>(s,v,[])
 | _,v=>(s,v,[])
def jg:St→List CK→List AV→St × List AV × List PE
 | s,c::ks,v::l=>((jg (kI s c v).1 ks l).1,(kI s c v).2.1::(jg (kI s c v).1 ks l).2.1,(kI s c v).2.2++(jg (kI s c v).1 ks l).2.2)
 | s,[],l=>(s,l,[])
 | s,_::_,[]=>(s,[],[])
def gG (ks:List CK):Nat→St→List AV→St × List AV × List PE
 | 0,s,_=>(s,[],[])
 | n+1,s,l=>
   let a:=jg s ks (l.take ks.length)
   let b:=gG ks n a.1 (l.drop ks.length)
   (b.1,a.2.1++b.2.1,a.2.2++b.2.2)
def Co (s:St) (ks:List CK) (c:Nat) (m:Int) (l:List AV):Option (St × List PE):=
 let x:=jB s.mem [] l
 let r:=gG ks m.toNat { s with mem:=x.1 } x.2
 match rowsOf ks m.toNat r.2.1,get r.1.mem c with
 | some t,some (.cells _ true)=>some ({ r.1 with mem:=put c (.rows ks t (.lit m) true false) r.1.mem },r.2.2)
 | _,_=>none
def qqZ (M:Mem) (b:Nat) (q:E):Option (List CK):=
 match get M b with
 | some (.rows ks _ _ _ _)=>some ks
 | some (.ovr ks _ _ h _ _ _)=>if q=h then none else some ks
 | _=>none
def Ci (s:St) (o:Op):Option (St × List PE):=
 match o with
 | .call { callee:=.builtin .append,args,.. }=>match args.toList with
   | [x,y]=>match evalOp s.tmps x,evalOp s.tmps y with
     | some (.slice b _ _ z _),some (.slice c (.lit 0) (.lit m) z' _)=>match get s.mem b,get s.mem c with
       | some (.rows ks _ _ _ _),some (.cells l true)=>if ks.all CK.plain || z != z' || z != ks.length || !decide (0≤m) || l.length != m.toNat*z || m == 0 then none else Co s ks c m l
       | _,_=>none
     | _,_=>none
   | _=>none
 | .store _ y (.tmp t)=>match evalOp s.tmps y,get s.tmps t with
   | some (.ptr b q _ k),some v=>match qqZ s.mem b q with
     | some ks=>if ks.all CK.plain then none else match v with
       | .agg l=>some ({ (jg s (ks.drop k) l).1 with tmps:=nI t (.agg (jg s (ks.drop k) l).2.1) (jg s (ks.drop k) l).1.tmps },(jg s (ks.drop k) l).2.2)
       | v=>match ks[k]? with
         | some c=>some ({ (kI s c v).1 with tmps:=nI t (kI s c v).2.1 (kI s c v).1.tmps },(kI s c v).2.2)
         | none=>none
     | _=>none
   | _,_=>none
 | _=>none
def xq (nb:Nat) (M:Mem):List AV→Nat × Mem × List AV
 | []=>(nb,M,[])
 | .lst (k::ks) e::l=>
   let r:=xq (nb+1) ((nb,Rb (k::ks) e)::M) l
   (r.1,r.2.1,F4 nb (k::ks) e::r.2.2)
 | v::l=>
   let r:=xq nb M l
   (r.1,r.2.1,v::r.2.2)
def FV (s:St) (b:Nat) (r:E):Option (St × List PE):=
 match get s.mem b with
 | some (.rows ks t n wr nl)=>match jR ks t r 0 ks.length with
   | some l=>
     let x:=xq s.nb s.mem l
     some ({ s with mem:=put b (.ovr ks t n r x.2.2 wr nl) x.2.1,nb:=x.1 },j6 r n)
   | none=>none
 | _=>none
def Io (cx:Cx) (fn:FuncId) (bid:Nat) (s:St):Option (St × List PE):=
 match cx.pins.find? fun p=>p.1 == fn && p.2.1 == bid with
 | some p=>match get s.tmps p.2.2 with
   | some (.ptr b r _ 0)=>FV s b r
   | _=>none
 | none=>none
def Xr (s:St) (fn bid:Nat):List (FuncId × Nat × Nat × List CK)→Option (St × List PE)
 | []=>none
 | (f,b,t,ks)::l=>if f=fn∧b=bid then match get s.tmps t with
     | some (.slice c (.lit 0) (.lit m) z _)=>match get s.mem c with
       | some (.cells cs true)=>if z != ks.length || !decide (0≤m) || cs.length != m.toNat*z || m == 0 then Xr s fn bid l else match Co s ks c m cs with
         | some r=>some r
         | none=>Xr s fn bid l
       | _=>Xr s fn bid l
     | _=>Xr s fn bid l
   else Xr s fn bid l
def NW (s:St) (b:Nat):Option (St × List PE):=
 match get s.mem b with
 | some (.ovr ks t n h l true nl)=>
   let r:=jg s ks l
   match yP ks t h 0 r.2.1,get r.1.mem b with
   | some t',some (.ovr _ _ _ _ _ true _)=>if l.length=ks.length then some ({ r.1 with mem:=put b (.rows ks t' n true nl) r.1.mem },j6 h n++r.2.2) else none
   | _,_=>none
 | _=>none
def pJ:List Nat→St→St × List PE
 | [],s=>(s,[])
 | b::l,s=>match NW s b with
   | some (s1,ps)=>((pJ l s1).1,ps++(pJ l s1).2)
   | none=>pJ l s
def Ag (e:E) (n:Nat) (f:Clo→Tree):Nat→List Clo→Tree
 | _,[]=>.fail 51
 | i,c::cs=>oo (mkBin .eq (if n=1 then .lit 0 else mkBin .tmod (mkSub e (.lit 1)) (.lit n)) (.lit i)) (f c) (Ag e n f (i+1) cs)
def eY (M:Mem) (c:Clo) (r:E):AV × List PE:=
 match get M c.b with
 | some (.ovr _ _ _ h _ _ _)=>(.ptr c.b h c.s c.k,[.tt (mkBin .eq r h)])
 | _=>(.ptr c.b r c.s c.k,[])
def Kv (e:E) (n:Nat):E:=if n=1 then mkSub e (.lit 1) else mkBin .tdiv (mkSub e (.lit 1)) (.lit n)
def I8 (P:Program) (s:St) (o:Op):Option (E × Bool):=
 match o with
 | .binOp q t x y _=>match evalOp s.tmps x,evalOp s.tmps y,P.underlying t with
   | some v,some .qQ,some (.slice _)=>match v,q with
     | .slice _ _ n _ true,.eql=>some (n,true)
     | .slice _ _ n _ true,.neq=>some (n,false)
     | .lst ks e,.eql=>some (kZ ks e,true)
     | .lst ks e,.neq=>some (kZ ks e,false)
     | _,_=>none
   | _,_,_=>none
 | _=>none
def I7 (s:St) (o:Oper) (n:E) (b:Bool) (k:St→Tree):Tree:=
 match yc s o.dst (.bool (.lit (if b then 1 else 0))),yc s o.dst (.bool (.lit (if b then 0 else 1))) with
 | some s1,some s2=>.both (oo (mkBin .eq n (.lit 0)) (k s1) .ok) (k s2)
 | _,_=>.fail 52
def FP (cx:Cx) (e:Eng) (s:St) (o:Oper) (k:St→Tree):Tree:=
 match I8 cx.P s o.op with
 | some (n,b)=>I7 s o n b k
 | none=>
 match splitN s o with
 | some (b,x,q)=>oo (mkBin .lt q (dQ x)) (nT cx e (setIter s b x q 1) o k) (nT cx e (setIter s b x q 2) o k)
 | none=>match Pw cx.kn s o with
 | some (i,kd,x,n)=>Bl x (fun j=>nT cx e (setInt s i kd x j) o k) n
 | none=>match lookO s o.op with
 | some s1=>nT cx e s1 o k
 | none=>match Ci s o.op with
 | some (s1,ps)=>qR ps (nT cx e s1 o k)
 | none=>nT cx e s o k
def oper (cx:Cx) (e:Eng) (ops:Array Oper) (s:St) (o:Oper) (k:St→Tree):Tree:=
 let go (s:St) (w:Bool):Tree:=
   if w then match FD s o with
     | some (t,c)=>.branch c (nT cx e (setBool s t true) o k) (nT cx e (setBool s t false) o k)
     | none=>FP cx e s o k
   else match yc s o.dst .undef with
     | some s'=>k s'
     | none=>.fail 24
 match uP ops s o with
 | some (.inl w)=>go s w
 | some (.inr (t,c))=>match o.guard with
   | some (_,want)=>.branch c (go (setBool s t true) (true == want)) (go (setBool s t false) (false == want))
   | none=>.fail 25
 | none=>.fail 26
def o7 (cx:Cx) (e:Eng) (ops:Array Oper):List Nat→St→(St→Tree)→Tree
 | [],s,k=>k s
 | i::l,s,k=>match ops[i]? with
   | some o=>oper cx e ops s o fun s'=>o7 cx e ops l s' k
   | none=>o7 cx e ops l s k
def p9 (P:Program) (s:St):List ResultVar→Option (List AV)
 | []=>some []
 | .tmp t::l=>match get s.tmps t,p9 P s l with
   | some v,some vs=>some (v::vs)
   | _,_=>none
 | .cell a t::l=>match get s.tmps a,wM P t,qp P t,p9 P s l with
   | some (.ptr b r z k),some ag,some n,some vs=>match loadAt s.mem b r z k n ag with
     | some (v,[])=>some (v::vs)
     | _=>none
   | _,_,_,_=>none
def single:List AV→AV
 | [v]=>v
 | l=>.tup l
def number:Nat→List AV→qL
 | _,[]=>[]
 | n,v::l=>(n,v)::number (n+1) l
def YJ:Code→Option (Option Tmp × Code)
 | .seq (.region _ ops false) c=>match ops.toList with
   | [o]=>match o.op,o.guard with
     | .call ⟨.builtin .recover,_,_⟩,none=>some (o.dst,c)
     | _,_=>none
   | _=>none
 | _=>none
def DJ (cx:Cx) (fn:Func) (s:St) (k:St→Tree) (x:Ex) (s':St):Tree:=
 match x with
 | .normal | .ret=>if s'.defers.isEmpty then match p9 cx.P s' fn.results.toList with
     | some _=>k { s with mem:=s'.mem,nv:=s'.nv,nb:=s'.nb }
     | none=>.fail 30
   else .fail 37
 | _=>.fail 32
def Sz (cx:Cx) (e:Eng) (f:FuncId) (args:List AV) (s:St) (k:St→Tree):Tree:=
 match cx.P.funcs[f]? with
 | some fn=>match fn.body with
   | some c=>
     if fn.name == "runtime.NumGoroutine" then .fail 36 else
     if args.length≤fn.ntmps then match YJ c with
       | some (d,c2)=>match yc { s with tmps:=number 0 args,nt:=fn.ntmps,defers:=[] } d .yI with
         | some s1=>e.exec f none 0 0 c2 s1 (DJ cx fn s k)
         | none=>.fail 38
       | none=>e.exec f none 0 0 c { s with tmps:=number 0 args,nt:=fn.ntmps,defers:=[] } (DJ cx fn s k)
     else .fail 33
   | none=>.fail 34
 | none=>.fail 35
def shut (cx:Cx) (e:Eng):List DV→St→(St→Tree)→Tree
 | [],s,k=>k s
 | .blk b::l,s,k=>match get s.mem b with
   | some (.dfr true)=>shut cx e l { s with mem:=put b (.dfr false) s.mem } k
   | _=>.fail 31
 | .fn f m cap::l,s,k=>Sz cx e f (m++cap) s fun s'=>shut cx e l s' k
def AV.LC (f:List AV→List Nat→List Nat) (nb:Nat) (v:AV) (acc:List Nat):List Nat:=
 let one (b:Nat):List Nat:=match Nat.ble nb b with
   | true=>b::acc
   | false=>acc
 match v with
 | .ptr b _ _ _=>one b
 | .slice b _ _ _ _=>one b
 | .asl b _ _ _=>one b
 | .yld b=>one b
 | .mref b=>one b
 | .vT a=>f [a] acc
 | .fco cs _=>cs.foldl (fun acc c=>match Nat.ble nb c.b with
   | true=>c.b::acc
   | false=>acc) acc
 | .func _ l=>f l acc
 | .yV _ l m=>f l (f m acc)
 | .agg l=>f l acc
 | .tup l=>f l acc
 | .big l _ _ _ m=>f l (f m acc)
 | _=>acc
def LP (f:List AV→List Nat→List Nat) (nb:Nat):List AV→List Nat→List Nat
 | [],acc=>acc
 | v::l,acc=>LP f nb l (v.LC f nb acc)
def PW:Nat→Nat→List AV→List Nat→List Nat
 | 0,_=>fun _ acc=>acc
 | d+1,nb=>LP (PW d nb) nb
def Qh (nb:Nat) (l:List AV) (acc:List Nat):List Nat:=PW 8 nb l acc
def AV.refs (nb:Nat) (v:AV) (acc:List Nat):List Nat:=v.LC (PW 8 nb) nb acc
def Fe (nb:Nat):qL→List Nat→List Nat
 | [],acc=>acc
 | (_,v)::l,acc=>Fe nb l (v.refs nb acc)
def Xv (nb:Nat):List CK→List Nat→List Nat
 | [],acc=>acc
 | .clo cs::l,acc=>Xv nb l (cs.foldl (fun acc c=>if nb≤c.b then c.b::acc else acc) acc)
 | _::l,acc=>Xv nb l acc
def Blk.refs (nb:Nat):Blk→List Nat→List Nat
 | .cells l _,acc=>Qh nb l acc
 | .big l _ _ _ m _,acc=>Qh nb l (Qh nb m acc)
 | .loop _ _ _ _ _ ts d,acc=>Fe nb ts (if nb≤d then d::acc else acc)
 | .mp l m,acc=>Qh nb l (Qh nb m acc)
 | .bld _ _ d,acc=>if nb≤d then d::acc else acc
 | .rows ks _ _ _ _,acc=>Xv nb ks acc
 | .ovr ks _ _ _ l _ _,acc=>Xv nb ks (Qh nb l acc)
 | _,acc=>acc
def tu (nb:Nat):Mem→List Nat→List Nat
 | [],acc=>acc
 | (b,x)::l,acc=>if b<nb then tu nb l (x.refs nb acc) else tu nb l acc
def GN (m x:Nat):Bool:=Nat.beq (Nat.land (Nat.shiftRight m x) 1) 1
def mark (nb:Nat) (M:Mem):Nat→List Nat→Nat→Nat
 | 0,_,seen=>seen
 | _+1,[],seen=>seen
 | n+1,b::l,seen=>bif GN seen b then mark nb M n l seen else match get M b with
   | some x=>mark nb M n (x.refs nb l) (Nat.lor seen (Nat.shiftLeft 1 b))
   | none=>mark nb M n l (Nat.lor seen (Nat.shiftLeft 1 b))
def gc (nb nb':Nat) (v:AV) (M:Mem):Mem:=
 if nb'<nb+30 then M else
   let seen:=mark nb M 2000 (tu nb M (v.refs nb [])) 0
   M.filter fun x=>decide (x.1<nb) || GN seen x.1
def FQ (nb:Nat):List DV→List Nat→List Nat
 | [],acc=>acc
 | .blk b::l,acc=>FQ nb l (if nb≤b then b::acc else acc)
 | .fn _ m c::l,acc=>FQ nb l (Qh nb c (Qh nb m acc))
def gcR (nb:Nat) (s:St):Mem:=
 if s.nb<nb+12 then s.mem else
   let seen:=mark nb s.mem 2000 (tu nb s.mem (Fe nb s.tmps (FQ nb s.defers []))) 0
   s.mem.filter fun x=>decide (x.1<nb) || GN seen x.1
def WT (cx:Cx) (e:Eng) (f:FuncId) (args:List AV) (s:St) (k:AV→St→Tree):Tree:=
 match cx.P.funcs[f]? with
 | some fn=>match fn.body with
   | some c=>
     if fn.name == "runtime.NumGoroutine" then .fail 36 else
     match RA cx.cs f args s with
     | some c=>DT c args s k
     | none=>
       if args.length≤fn.ntmps then
         e.exec f none 0 0 c { s with tmps:=number 0 args,nt:=fn.ntmps,defers:=[] } fun x s'=>
           match x with
           | .normal | .ret=>shut cx e s'.defers s' fun s''=>match p9 cx.P s'' fn.results.toList with
               | some vs=>k (single vs) { s with mem:=gc s.nb s''.nb (single vs) s''.mem,nv:=s''.nv,nb:=s''.nb }
               | none=>.fail 30
           | _=>.fail 32
       else .fail 33
   | none=>.fail 34
 | none=>.fail 35
def xC:List Nat→List AV→qL→qL
 | t::ps,v::vs,ts=>xC ps vs (nI t v ts)
 | _,_,ts=>ts
def yield (cx:Cx) (e:Eng) (b:Nat) (args:List AV) (s:St) (k:AV→St→Tree):Tree:=
 match get s.mem b with
 | some (.loop .ready _ fn ix nt ts _)=>match ZT cx.P fn ix with
   | some rf=>
     if args.length=rf.params.length∧rf.params.all (·<nt) then
       e.exec fn (some b) 0 (ix+1) rf.assign { s with tmps:=xC rf.params args ts,nt:=nt,defers:=[] } fun x s1=>
         match x,get s1.mem b with
         | .normal,some (.loop .ready FH fn1 ix1 nt1 ts1 d1)=>
           if fn1=fn∧ix1=ix then
           e.exec fn (some b) 0 (ix+1+(rfs rf.assign).length) rf.body { s1 with mem:=put b (.loop .busy FH fn1 ix1 nt1 ts1 d1) s1.mem } fun y s2=>
             match get s2.mem b with
             | some (.loop _ _ fn2 ix2 nt2 ts2 d2)=>
               let j:Option Jump:=match y with
                 | .normal=>none
                 | .ret=>some .ret
                 | .exit id=>some (.exit id)
                 | .goto l=>some (.goto l)
               k (.bool (.lit (if j.isNone then 1 else 0)))
                 { s with mem:=put b (.loop (if j.isNone then .ready else .done) j fn2 ix2 nt2 ts2 d2) s2.mem,nv:=s2.nv,nb:=s2.nb }
             | _=>.fail 43
           else .fail 45
         | _,_=>.fail 42
     else .fail 41
   | none=>.fail 40
 | _=>.fail 44
def eD (cx:Cx) (e:Eng) (f:AV) (args:List AV) (s:St) (k:AV→St→Tree):Tree:=
 match f with
 | .func g cap=>WT cx e g (args++cap) s k
 | .yV g m cap=>WT cx e g (m++args++cap) s k
 | .yld b=>yield cx e b args s k
 | .fco cs x=>qR [.tt (mkBin .lt (.lit 0) x)] (Ag x cs.length (fun c=>qR (eY s.mem c (Kv x cs.length)).2 (WT cx e c.f (args++[.vT (eY s.mem c (Kv x cs.length)).1]) s k)) 0 cs)
 | _=>.fail 50
def Ns:=Nat
def Ns.has (m:Ns) (i:Nat):Bool:=Nat.beq (Nat.land (Nat.shiftRight m i) 1) 1
instance:Membership Nat Ns:=⟨fun m i=>m.has i=true⟩
def Ns.none:Ns:=(0:Nat)
def Ns.add (m:Ns) (i:Nat):Ns:=Nat.lor m (Nat.shiftLeft 1 i)
theorem Ad (m i:Nat):Nat.beq (Nat.land (Nat.shiftRight m i) 1) 1=Nat.testBit m i:=by
 show Nat.beq ((m >>> i) &&& 1) 1=_
 rw [Nat.and_one_is_mod,Nat.testBit_eq_decide_div_mod_eq,Nat.shiftRight_eq_div_pow,Bool.eq_iff_iff,decide_eq_true_eq]
 exact Nat.beq_eq ▸ Iff.rfl
theorem Ns.has_eq {m:Ns} {i:Nat}:m.has i=Nat.testBit m i:=Ad m i
theorem Ns.mem_iff {m:Ns} {i:Nat}:i∈m↔m.has i=true:=Iff.rfl
theorem Ns.iW {i:Nat}:i ∉ Ns.none:=fun h=>by
 rw [Ns.mem_iff,Ns.has_eq] at h
 exact absurd h (by simp [Ns.none])
theorem Ns.zH {m:Ns} {i k:Nat}:k∈m.add i↔k=i∨k∈m:=by
 rw [Ns.mem_iff,Ns.mem_iff,Ns.has_eq,Ns.has_eq]
 have e:(m.add i:Nat)=(show Nat from m) ||| (1 <<< i):=rfl
 rw [e,Nat.testBit_or,Nat.one_shiftLeft,Nat.testBit_two_pow,Bool.or_eq_true,decide_eq_true_eq]
 constructor
 · rintro (h | h)
   · exact .inr h
   · exact .inl h.symm
 · rintro (h | h)
   · exact .inr h.symm
   · exact .inl h
structure Dr where
 s:St
 done:Ns
 qs:List Nat
 dec:List (E × Bool)
 /-- Blocks made ahead of the machine: operation, number, what is in them. -/
 fl:List (Nat × Nat × Blk):=[]
noncomputable def ZL (m:Ns) (l:List Nat):List Nat:=
 List.rec (motive:=fun _=>List Nat) [] (fun i _ r=>Bool.rec (motive:=fun _=>List Nat) (i::r) r (m.has i)) l
theorem ZC {m:Ns}:∀{l:List Nat},ZL m l=l.filter fun i=>!m.has i
 | []=>rfl
 | i::l=>by
   show Bool.rec (motive:=fun _=>List Nat) (i::ZL m l) (ZL m l) (m.has i)=_
   rw [ZC (l:=l)]
   cases h:m.has i <;> simp [List.filter,h]
def bK:List Edge→Nat
 | []=>0
 | e::l=>if Region.binds .any e then Nat.lor (bK l) (Nat.shiftLeft 1 e.on) else bK l
def Zp (done:Ns) (l:List Edge):Bool:=Nat.beq (Nat.land (bK l) done) (bK l)
def mH (o:Oper) (done:Ns):Bool:=Zp done o.after.toList
def uJ (acc:List Nat):List Edge→Nat
 | []=>0
 | e::l=>if Region.binds .any e then (1 <<< e.on) ||| ((acc[e.on]?).getD 0 ||| uJ acc l) else uJ acc l
def masks:List Oper→List Nat→List Nat
 | [],acc=>acc
 | o::l,acc=>masks l (acc++[uJ acc o.after.toList])
def before (ops:Array Oper) (i:Nat):Nat:=((masks ops.toList [])[i]?).getD 0
def vI:List Operand→List Nat
 | []=>[]
 | .tmp t::l=>t::vI l
 | _::l=>vI l
def aP (ops:Array Oper) (o:Oper):List Nat:=
 match o.guard with
 | none=>[]
 | some (j,_)=>match (ops[j]?).bind (·.dst) with
   | some t=>[t]
   | none=>[]
def readsOf (ops:Array Oper) (o:Oper):List Nat:=aP ops o++vI o.op.operands.toList
def QE:List Oper→List Nat
 | []=>[]
 | o::l=>match o.dst with
   | some d=>d::QE l
   | none=>QE l
def DZ (ops:Array Oper):Bool:=
 nodup (QE ops.toList) &&
 (List.range ops.size).all fun i=>match ops[i]? with
   | none=>true
   | some o=>(o.after.all fun e=>!(Region.binds .any e) || decide (e.on<i)) && (match o.op with | .select ..=>false | _=>true) &&
     (List.range ops.size).all fun j=>match (ops[j]?).bind (·.dst) with
       | none=>true
       | some d=>!(readsOf ops o).contains d || (before ops i).testBit j || i == j || (before ops j).testBit i
def iM (ops:Array Oper) (j:Nat):Bool:=
 match (ops[j]?).bind (·.dst) with
 | none=>false
 | some d=>(List.range ops.size).any fun i=>match ops[i]? with
   | none=>false
   | some o=>(readsOf ops o).contains d && !(before ops i).testBit j
inductive Out where
 | skip
 | val (v:AV) (ps:List PE)
 | dec (c:E)
inductive Want where
 | yes
 | no
 | dec (c:E)
def Dp (c:E):List (E × Bool)→Option Bool
 | []=>none
 | (c',b)::l=>if c'=c then some b else Dp c l
def bA (ops:Array Oper) (d:Dr) (o:Oper):Option Want:=
 match o.guard with
 | none=>some .yes
 | some (j,want)=>match (ops[j]?).bind (·.dst) with
   | some t=>match get d.s.tmps t with
     | some (.bool e)=>match e with
       | .lit n=>some (if (n != 0) == want then .yes else .no)
       | e=>match Dp e d.dec with
         | some b=>some (if b == want then .yes else .no)
         | none=>some (.dec e)
     | some .undef=>some .no
     | _=>none
   | none=>none
def Jz (e:E) (dec:List (E × Bool)):Nat→Option (Nat ⊕ Nat)
 | 0=>none
 | n+1=>match Dp (mkBin .eq e (.lit n)) dec with
   | some true=>some (.inl n)
   | some false=>Jz e dec n
   | none=>some (.inr n)
def ZE (P:Program) (kn:Kn) (d:Dr) (o:Op):Option Out:=
 match o with
 | .pick (.tmp t) a b=>match get d.s.tmps t with
   | some (.bool (.lit n))=>(if n=0 then evalOp d.s.tmps b else evalOp d.s.tmps a).map fun v=>.val v []
   | some (.bool e)=>match Dp e d.dec with
     | some x=>(if x then evalOp d.s.tmps a else evalOp d.s.tmps b).map fun v=>.val v []
     | none=>some (.dec e)
   | _=>none
 | o=>match Yr kn d.s o with
   | some (i,k,e,n)=>match Jz e d.dec n with
     | some (.inl j)=>(quiet P kn (Fx d.s i k j).tmps d.s.mem o).map fun (v,ps)=>.val v ps
     | some (.inr j)=>some (.dec (mkBin .eq e (.lit j)))
     | none=>none
   | none=>(quiet P kn d.s.tmps d.s.mem o).map fun (v,ps)=>.val v ps
def KD (P:Program) (kn:Kn) (ops:Array Oper) (d:Dr) (o:Oper):Option Out:=
 match bA ops d o with
 | some .yes=>ZE P kn d o.op
 | some .no=>some .skip
 | some (.dec c)=>some (.dec c)
 | none=>none
def uD (P:Program) (kn:Kn) (ops:Array Oper) (d:Dr):List Nat→Option (Nat × Oper × Out)
 | []=>none
 | i::l=>match ops[i]? with
   | some o=>if mH o d.done && !iM ops i then match KD P kn ops d o with
       | some x=>some (i,o,x)
       | none=>uD P kn ops d l
     else uD P kn ops d l
   | none=>uD P kn ops d l
def recheck (P:Program) (kn:Kn) (ops:Array Oper) (d:Dr) (bf:Nat):List Nat→Option (List PE)
 | []=>some []
 | q::l=>if bf.testBit q then recheck P kn ops d bf l else match ops[q]? with
   | some o=>match KD P kn ops d o,recheck P kn ops d bf l with
     | some .skip,some ps=>match o.dst with
       | none=>some ps
       | some t=>match get d.s.tmps t with
         | some .undef=>if t<d.s.nt then some ps else none
         | _=>none
     | some (.val v p),some ps=>match o.dst with
       | none=>some (p++ps)
       | some t=>match get d.s.tmps t with
         | some w=>if t<d.s.nt∧Fix.le { nv:=d.s.nv,nb:=d.s.nb,kb:=d.s.nb,σ:=[],ρ:=[] } w v=true then some (p++ps) else none
         | none=>none
     | _,_=>none
   | none=>none
def aH:Option Want→Bool
 | some .yes=>true
 | _=>false
def mF (ops:Array Oper) (done:Ns):List Nat→List Nat
 | []=>[]
 | i::l=>match ops[i]? with
   | some o=>if mH o done then i::mF ops done l else mF ops done l
   | none=>mF ops done l
def SY (f:Nat→Tree):List Nat→Tree
 | []=>.ok
 | [i]=>f i
 | i::l=>.both (f i) (SY f l)
def Jy (cx:Cx) (e:Eng) (s:St) (o:Oper) (k:St→Tree):Tree:=
 match F3 cx.P cx.kn s o.op with
 | some (v,s1,ps)=>match yc s1 o.dst v with
   | some s'=>qR ps (k s')
   | none=>.fail 72
 | none=>match Kr s.tmps o.op with
   | some (f,l)=>e.sD f l s fun v s1=>match yc s1 o.dst v with
     | some s'=>k s'
     | none=>.fail 73
   | none=>match quiet cx.P cx.kn s.tmps s.mem o.op with
     | some (v,ps)=>match yc s o.dst v with
       | some s'=>qR ps (k s')
       | none=>.fail 74
     | none=>.fail 70
def P6 (cx:Cx) (e:Eng) (s:St) (o:Oper) (k:St→Tree):Tree:=
 match Ci s o.op with
 | some (s1,ps)=>qR ps (Jy cx e s1 o k)
 | none=>match lookO s o.op with
   | some s1=>Jy cx e s1 o k
   | none=>Jy cx e s o k
def jY (P:Program) (kn:Kn) (s:St) (o:Op):Option (AV × Blk):=
 match o with
 | .alloc _ | .box _ _ | .makeSlice .. | .buildSlice .. | .makeMap ..=>match F3 P kn { s with mem:=[] } o with
   | some (v,s1,[])=>match s1.mem with
     | [(_,x)]=>some (v,x)
     | _=>none
   | _=>none
 | _=>none
def uF (P:Program) (kn:Kn) (ops:Array Oper) (d:Dr):List Nat→Option (Nat × Oper × AV × Blk)
 | []=>none
 | i::l=>match ops[i]? with
   | some o=>if aH (bA ops d o) && !iM ops i then match jY P kn d.s o.op with
       | some (v,x)=>some (i,o,v,x)
       | none=>uF P kn ops d l
     else uF P kn ops d l
   | none=>uF P kn ops d l
def wC (bf:Nat):List (Nat × Nat × Blk)→Mem
 | []=>[]
 | (i,b,x)::l=>if bf.testBit i then (b,x)::wC bf l else wC bf l
def wz (bf:Nat):List (Nat × Nat × Blk)→List (Nat × Nat × Blk)
 | []=>[]
 | y::l=>if bf.testBit y.1 then wz bf l else y::wz bf l
def Gb:List (Nat × Nat × Blk)→Mem
 | []=>[]
 | (_,b,x)::l=>(b,x)::Gb l
def behind:Nat→Nat→Mem→Option Mem
 | 0,_,_=>none
 | _+1,_,[]=>none
 | n+1,b,x::M=>match Nat.beq x.1 b with
   | true=>some M
   | false=>behind n b M
/- Old blocks were there,new ones may be written. (Both lists are gone through side by side: they are alike but for their beginnings.) -/
def bid (b:Bool):Bool:=b
noncomputable def vE (nb:Nat) (M0 M':Mem):Mem→Bool:=
 List.rec (motive:=fun _=>Mem→Bool) (fun _=>true)
   (fun x _ r M=>Bool.rec (motive:=fun _=>Bool)
     (let slow:Bool:=match behind 4 x.1 M with
       | some M1=>r M1
       | none=>(get M0 x.1).isSome && r M
      List.rec (motive:=fun _=>Bool) slow (fun y M1 _=>Bool.rec (motive:=fun _=>Bool) slow (bid (r M1)) (Nat.beq y.1 x.1)) M)
     (x.2.wr && r M) (Nat.ble nb x.1)) M'
theorem V3 {nb:Nat} {M0 M l:Mem} {x:Nat × Blk}:vE nb M0 (x::l) M=match Nat.ble nb x.1 with
   | true=>x.2.wr && vE nb M0 l M
   | false=>match behind 4 x.1 M with
     | some M1=>vE nb M0 l M1
     | none=>(get M0 x.1).isSome && vE nb M0 l M:=by
 show Bool.rec (motive:=fun _=>Bool) (List.rec (motive:=fun _=>Bool) (match behind 4 x.1 M with
       | some M1=>vE nb M0 l M1
       | none=>(get M0 x.1).isSome && vE nb M0 l M) (fun y M1 _=>Bool.rec (motive:=fun _=>Bool) (match behind 4 x.1 M with
       | some M1=>vE nb M0 l M1
       | none=>(get M0 x.1).isSome && vE nb M0 l M) (vE nb M0 l M1) (Nat.beq y.1 x.1)) M) (x.2.wr && vE nb M0 l M) (Nat.ble nb x.1)=_
 cases Nat.ble nb x.1 with
 | true=>rfl
 | false=>
   cases M with
   | nil=>rfl
   | cons y M1=>
     simp only [behind]
     cases Nat.beq y.1 x.1 <;> rfl
def Xg (nb:Nat) (M M':Mem):Bool:=vE nb M M' M
theorem QD {b:Nat}:∀{n:Nat} {M M1:Mem},behind n b M=some M1→(get M b).isSome=true∧∀c,(get M1 c).isSome=true→(get M c).isSome=true
 | 0,_,_,h=>by simp [behind] at h
 | _+1,[],_,h=>by simp [behind] at h
 | n+1,(k,x)::M,M1,h=>by
   simp only [behind] at h
   have up:∀c,(get M c).isSome=true→(get ((k,x)::M) c).isSome=true:=fun c hc=>by
     rw [ql];split
     · rfl
     · exact hc
   split at h
   · rename_i hk
     cases h
     have hk:=Nat.eq_of_beq_eq_true hk
     exact ⟨by rw [ql,if_pos hk];rfl,up⟩
   · obtain ⟨h1,h2⟩:=QD h
     exact ⟨up _ h1,fun c hc=>up c (h2 c hc)⟩
theorem nk {nb:Nat} {M0:Mem}:∀{M' M:Mem},(∀c,(get M c).isSome=true→(get M0 c).isSome=true)→vE nb M0 M' M=true→(M'.all fun x=>if x.1<nb then (get M0 x.1).isSome else x.2.wr)=true
 | [],_,_,_=>rfl
 | x::l,M,hM,h=>by
   rw [V3] at h
   rw [List.all_cons,Bool.and_eq_true]
   split at h
   · rename_i hb
     have hb:=Nat.le_of_ble_eq_true hb
     rw [Bool.and_eq_true] at h
     refine ⟨?_,nk hM h.2⟩
     rw [if_neg (by omega)];exact h.1
   · rename_i hb
     have hb:x.1<nb:=Nat.not_le.1 (Nat.not_le_of_not_ble_eq_true (by rw [hb];simp))
     rw [if_pos hb]
     split at h
     · rename_i M1 h1
       obtain ⟨h2,h3⟩:=QD h1
       exact ⟨hM _ h2,nk (fun c hc=>hM c (h3 c hc)) h⟩
     · rw [Bool.and_eq_true] at h
       exact ⟨h.1,nk hM h.2⟩
theorem JX {nb:Nat} {M M':Mem} (h:Xg nb M M'=true):(M'.all fun x=>if x.1<nb then (get M x.1).isSome else x.2.wr)=true:=nk (fun _ h=>h) h
def frameT (old:qL) (dst:Option Tmp) (new:qL):Option qL:=
 match dst with
 | none=>some old
 | some d=>match get new d with
   | some v=>some (nI d v old)
   | none=>none
def bP (cx:Cx) (e:Eng) (ops:Array Oper):Nat→Dr→(St→Tree)→Tree
 | 0,_,_=>.fail 79
 | n+1,d,k=>
   match ZL d.done (List.range ops.size) with
   | []=>k { d.s with mem:=Gb d.fl++d.s.mem }
   | l=>match uD cx.P cx.kn ops d l with
     | some (i,o,x)=>match x with
       | .skip=>match yc d.s o.dst .undef with
         | some s'=>nu (d.done.add i) fun dn=>bP cx e ops n { d with s:=s',done:=dn,qs:=i::d.qs } k
         | none=>.fail 74
       | .val v ps=>match yc d.s o.dst v with
         | some s'=>qR ps (nu (d.done.add i) fun dn=>bP cx e ops n { d with s:=s',done:=dn,qs:=i::d.qs } k)
         | none=>.fail 75
       | .dec c=>qR [.sort false c] <| .branch c (bP cx e ops n { d with dec:=(c,true)::d.dec } k) (bP cx e ops n { d with dec:=(c,false)::d.dec } k)
     | none=>match mF ops d.done l with
       | []=>.fail 76
       | r=>match uF cx.P cx.kn ops d r with
         | some (i,o,v,x)=>match yc { d.s with nb:=d.s.nb+1 } o.dst v with
           | some s'=>nu (d.done.add i) fun dn=>bP cx e ops n { d with s:=s',done:=dn,fl:=(i,d.s.nb,x)::d.fl } k
           | none=>.fail 64
         | none=>SY (fun i=>match ops[i]? with
         | some o=>if aH (bA ops d o) then
             let M:=wC (before ops i) d.fl++d.s.mem
             P6 cx e { d.s with mem:=M } o fun s1=>
             if !Xg d.s.nb M s1.mem then .fail 65 else
             match frameT d.s.tmps o.dst s1.tmps with
             | none=>.fail 66
             | some ts=>
             let s':={ s1 with tmps:=ts }
             match recheck cx.P cx.kn ops { d with s:=s' } (before ops i) d.qs with
             | some ps=>qR ps (nu (d.done.add i) fun dn=>bP cx e ops n { d with s:=s',done:=dn,fl:=wz (before ops i) d.fl } k)
             | none=>.fail 77
           else .fail 78
         | none=>.fail 71) r
def Pk (h:St) (b:Nat) (x:E):E:=match get h.mem b with
 | some (.rows _ _ n _ _)=>mkBin .and (mkBin .le (.lit 0) x) (mkBin .lt x n)
 | _=>.lit 0
def Jo (_cx:Cx) (e:Eng) (a:Ann) (fn:FuncId) (rnd:Option Nat) (bid o:Nat) (c:Code) (s:St) (k:Ex→St→Tree):Tree:=
 let h:=a.head s
 let u:=vW s.nv s.nb a.sorts.length a.nbl h s
 if !(u.leS h s) || !(decide (u.σ.length=a.sorts.length)) then .fail 60 else
 let body:Ex→St→Tree:=fun x s1=>
     match x with
     | .normal=>
       let u1:=vW s.nv s.nb a.sorts.length a.nbl h s1
       if !(u1.leS h s1) || !(decide (u1.σ.length=a.sorts.length)) then (if a.leave then e.loop fn rnd bid o c s1 k else .fail 61) else
       qR (vU a.sorts u1.σ++a.inv.map (PE.subst s.nv u1.σ)) <|
         qR [.tt (mkBin .le (.lit 0) (a.meas.subst s.nv u1.σ)),.tt (mkBin .lt (a.meas.subst s.nv u1.σ) a.meas)] .ok
     | x=>k x s1
 qR (vU a.sorts u.σ++a.inv.map (PE.subst s.nv u.σ)) <| rO a.sorts <| assumes a.inv <| qR [.sort false a.meas] <|
   match a.split with
   | none=>e.exec fn rnd bid o c h body
   | some (t,x,b,l)=>match get h.tmps t with
     | some (.int kd y)=>match FV (Ya l { h with tmps:=nI t (.int kd x) h.tmps }) b x with
       | some (h',ps)=>qR [.sort false (VN l (mkBin .and (mkBin .eq y x) (Pk h b x)))] <| .branch (VN l (mkBin .and (mkBin .eq y x) (Pk h b x))) (qR ps (e.exec fn rnd bid o c h' body)) (e.exec fn rnd bid o c h body)
       | none=>.fail 62
     | _=>.fail 63
def Ji (cx:Cx) (e:Eng) (fn:FuncId) (rnd:Option Nat) (bid o:Nat) (c:Code) (s:St) (k:Ex→St→Tree):Tree:=
 match Io cx fn bid s with
 | some (s',ps)=>qR ps (e.loop fn rnd bid o c s' k)
 | none=>match Xr s fn bid cx.RY with
 | some (s',ps)=>qR ps (e.loop fn rnd bid o c s' k)
 | none=>match CP cx.bO fn bid s with
 | some a=>Jo cx e a fn rnd bid o c s k
 | none=>if cx.stops.contains (fn,bid) then .fail 53 else e.exec fn rnd bid o c s fun x s1=>match x with
   | .normal=>let s2:St:={ s1 with tmps:=iH s.tmps s1.tmps }
     e.loop fn rnd bid o c { s2 with mem:=gcR s.nb s2 } k
   | x=>k x s1
def ZO (l:Nat) (k:Ex→St→Tree) (s3:St):Tree:=
 match get s3.mem l with
 | some (.loop st j fn' ix' nt' ts' d')=>
   if st=.busy then .fail 82 else
   let s4:={ s3 with mem:=Sx.put l (.loop .exhausted j fn' ix' nt' ts' d') s3.mem }
   match j with
   | none=>k .normal s4
   | some .ret=>k .ret s4
   | some (.exit id)=>k (.exit id) s4
   | some (.goto _)=>.fail 83
 | _=>.fail 84
def Zj (e:Eng) (fn:FuncId) (o:Nat) (gf:FuncId) (cap:List AV) (d:Nat) (s1:St) (k:Ex→St→Tree):Tree:=
 e.sD (.func gf cap) [.yld s1.nb] (zf s1 (.loop .ready none fn o s1.nt s1.tmps d)) fun _ s3=>ZO s1.nb k s3
def yX (cx:Cx) (e:Eng) (fn:FuncId) (rnd:Option Nat) (bid o:Nat) (c:Code) (s:St) (k:Ex→St→Tree):Tree:=
 match c with
 | .skip=>k .normal s
 | .label _=>k .normal s
 | .ret=>k .ret s
 | .exit id=>k (.exit id) s
 | .seq a b=>e.exec fn rnd bid o a s fun x s1=>match x with
   | .normal=>e.exec fn rnd bid (o+(rfs a).length) b s1 k
   | x=>k x s1
 | .block id b=>e.exec fn rnd id o b s fun x s1=>match x with
   | .exit id'=>if id'=id then k .normal s1 else k (.exit id') s1
   | x=>k x s1
 | .scope b=>e.exec fn rnd bid o b s fun x s1=>match x with
   | .goto _=>.fail 88
   | x=>k x s1
 | .cond c a b=>match evalOp s.tmps c with
   | some (.bool (.lit n))=>if n=0 then e.exec fn rnd bid (o+(rfs a).length) b s k else e.exec fn rnd bid o a s k
   | some (.bool x)=>.branch x (e.exec fn rnd bid o a s k) (e.exec fn rnd bid (o+(rfs a).length) b s k)
   | _=>.fail 80
 | .loop b=>e.loop fn rnd bid o b s k
 | .region _ ops false=>if rnd.isSome && ops.any (fun o=>gV o.op) then .fail 28 else o7 cx e ops (List.range ops.size) s fun s'=>k .normal s'
 | .region _ ops true=>if DZ ops && cx.P.follows .mixedOrders then
     bP cx e ops (ops.size*4+80) { s,done:=Ns.none,qs:=[],dec:=[] } fun s'=>k .normal s'
   else .fail 81
 | .rangeFunc f _ _ _=>match evalOp s.tmps f with
   | some (.func gf cap)=>match rnd with
     | none=>Zj e fn o gf cap s.nb (let s1:=zf s (.dfr true);{ s1 with defers:=.blk s.nb::s1.defers }) k
     | some l0=>match get s.mem l0 with
       | some (.loop _ _ _ _ _ _ d)=>Zj e fn o gf cap d s k
       | _=>.fail 85
   | _=>.fail 86
 | _=>.fail 89
def CO (cx:Cx) (e:Eng):Eng where
 exec:=yX cx e
 loop:=Ji cx e
 sD:=eD cx e
def eng (cx:Cx):Nat→Eng
 | 0=>{ exec:=fun _ _ _ _ _ _ _=>.fail 90,loop:=fun _ _ _ _ _ _ _=>.fail 91,sD:=fun _ _ _ _=>.fail 92 }
 | n+1=>CO cx (eng cx n)
def LY (u:Fix) (x:Nat × Blk) (M:Mem):Option (Nat × Blk × List PE):=
 match x with
 | (b,.rows _ tp n _ _)=>match u.img b with
   | some c=>match get M c with
     | some (.rows ks t n' w nl)=>if u.e n == n' then (if u.e tp == t then none else match tp with
         | .kt _=>some (c,.rows ks (u.e tp) n' w nl,[.agr (u.e tp) t n' ks.length])
         | _=>none) else some (c,.rows ks t (u.e n) w nl,[.tt (mkBin .le (.lit 0) (u.e n)),.tt (mkBin .le (u.e n) n')])
     | _=>none
   | none=>none
 | (b,.big _ _ tp _ _ _)=>match u.img b with
   | some c=>match get M c with
     | some (.big l ks t n m w)=>if u.e tp == t then none else match tp with
         | .var _=>none
         | _=>some (c,.big l ks (u.e tp) n m w,[.agr (u.e tp) t (.lit n) ks.length])
     | _=>none
   | none=>none
 | _=>none
def KC (u:Fix):Mem→Mem→Mem × List PE
 | [],M=>(M,[])
 | x::l,M=>match LY u x M with
   | some (c,y,ps)=>let r:=KC u l (put c y M);(r.1,ps++r.2)
   | none=>KC u l M
def Zd (c:Contract) (v:AV) (s:St):Tree:=
 let n:=c.sorts.length
 let h:St:={ tmps:=[(0,c.res)],nt:=0,defers:=[],mem:=c.mods++c.fresh,nv:=n,nb:=c.nb }
 let t:St:={ tmps:=[(0,v)],nt:=0,defers:=[],mem:=s.mem,nv:=n,nb:=c.nb }
 let u:=vW n c.nb c.outs.length c.fresh.length h t
 if !(u.leS h t) || !(decide (u.σ.length=c.outs.length)) then .fail 100 else
 qR (vU c.outs u.σ++c.post.map (PE.subst n u.σ)) .ok
def TW:Mem→List Nat
 | []=>[]
 | (b,.ovr _ _ _ _ _ true _)::l=>b::TW l
 | _::l=>TW l
def finish (c:Contract) (v:AV) (s:St):Tree:=
 let n:=c.sorts.length
 let h:St:={ tmps:=[(0,c.res)],nt:=0,defers:=[],mem:=c.mods++c.fresh,nv:=n,nb:=c.nb }
 let t:St:={ tmps:=[(0,v)],nt:=0,defers:=[],mem:=s.mem,nv:=n,nb:=c.nb }
 match KC (vW n c.nb c.outs.length c.fresh.length h t) (c.mods++c.fresh) s.mem with
 | (_,[])=>Zd c v s
 | (M,p::ps)=>qR (p::ps) (Zd c v { s with mem:=M })
def CF (c:Contract) (v:AV) (s:St):Tree:=
 qR (pJ (TW s.mem) s).2 (finish c v (pJ (TW s.mem) s).1)
def verify (cx:Cx) (fuel:Nat) (c:Contract):Tree:=
 match cx.P.funcs[c.fn]? with
 | some fn=>match fn.body with
   | some _=>
     assumes c.pre <|
       WT { cx with cs:=[] } (eng cx fuel) c.fn c.args { tmps:=[],nt:=0,defers:=[],mem:=c.mem,nv:=c.sorts.length,nb:=c.nb } fun v s=>CF c v s
   | none=>.fail 101
 | none=>.fail 102
end Go.Sx
noncomputable section
namespace Go.Sx
open Go
structure PB where
 blk:Nat
 base:Nat
 tot:Nat
structure G where
 env:List D
 φ:Nat→Option PB
 nb:Nat
 /-- Blocks that are not written any more: their cells. -/
 fz:Nat→Option (Array Value):=fun _=>none
def G.wf (g:G):Prop:=∀b,g.nb≤b→g.φ b=none
structure G.Le (g g':G):Prop where
 env:∃xs,g'.env=g.env++xs
 nb:g.nb≤g'.nb
 φ:∀b,b<g.nb→g'.φ b=g.φ b
 fz:∀o c,g.fz o=some c→g'.fz o=some c
theorem G.Le.refl (g:G):g.Le g:=⟨⟨[],by simp⟩,Nat.le_refl _,fun _ _=>rfl,fun _ _ h=>h⟩
theorem G.Le.trans {g h k:G} (a:g.Le h) (b:h.Le k):g.Le k:=by
 obtain ⟨⟨xs,hx⟩,h1,h2,z1⟩:=a
 obtain ⟨⟨ys,hy⟩,h3,h4,z2⟩:=b
 exact ⟨⟨xs++ys,by rw [hy,hx,List.append_assoc]⟩,Nat.le_trans h1 h3,fun b hb=>by rw [h4 b (Nat.lt_of_lt_of_le hb h1),h2 b hb],fun o c h=>z2 o c (z1 o c h)⟩
theorem G.wf.lt {g:G} (h:g.wf) {b:Nat} {p:PB} (hb:g.φ b=some p):b<g.nb:=by
 rcases Nat.lt_or_ge b g.nb with h1 | h1
 · exact h1
 · rw [h b h1] at hb;cases hb
theorem G.Le.some {g g':G} (h:g.Le g') (hw:g.wf) {b:Nat} {p:PB} (hb:g.φ b=some p):g'.φ b=some p:=by
 rw [h.φ b (hw.lt hb)];exact hb
theorem E.zR {I:Itp} {env xs:List D}:∀{e:E} {d:D},e.den I env=some d→e.den I (env++xs)=some d:=by
 intro e
 induction e with
 | lit n=>intro d h;exact h
 | zt=>intro d h;exact h
 | kt row=>intro d h;exact h
 | bt b=>intro d h;exact h
 | var i=>
   intro d h
   simp only [E.den] at h ⊢
   obtain ⟨hl,_⟩:=List.getElem?_eq_some_iff.1 h
   rw [List.getElem?_append_left hl];exact h
 | bin o a b iha ihb=>
   intro d h
   simp only [E.den] at h ⊢
   split at h
   · rename_i x y h1 h2;rw [iha h1,ihb h2];exact h
   · cases h
 | wrap k a ih=>
   intro d h
   simp only [E.den] at h ⊢
   split at h
   · rename_i x h1;rw [ih h1];exact h
   · cases h
 | sel t r c iht ihr=>
   intro d h
   simp only [E.den] at h ⊢
   split at h
   · rename_i x y h1 h2;rw [iht h1,ihr h2];exact h
   · cases h
 | upd t r c v iht ihr ihv=>
   intro d h
   simp only [E.den] at h ⊢
   split at h
   · rename_i x y z h1 h2 h3;rw [iht h1,ihr h2,ihv h3];exact h
   · cases h
 | cat t n u iht ihn ihu=>
   intro d h
   simp only [E.den] at h ⊢
   split at h
   · rename_i x y z h1 h2 h3;rw [iht h1,ihn h2,ihu h3];exact h
   · cases h
 | sh t n iht ihn=>
   intro d h
   simp only [E.den] at h ⊢
   split at h
   · rename_i x y h1 h2;rw [iht h1,ihn h2];exact h
   · cases h
 | teq t n u m iht ihn ihu ihm=>
   intro d h
   simp only [E.den] at h ⊢
   split at h
   · rename_i x y z v h1 h2 h3 h4;rw [iht h1,ihn h2,ihu h3,ihm h4];exact h
   · cases h
 | fn j a b c d iha ihb ihc ihd=>
   intro x h
   simp only [E.den] at h ⊢
   split at h
   · rename_i x1 x2 x3 x4 h1 h2 h3 h4;rw [iha h1,ihb h2,ihc h3,ihd h4];exact h
   · cases h
theorem E.qU {I:Itp} {g g':G} (h:g.Le g') {e:E} {d:D} (he:e.den I g.env=some d):e.den I g'.env=some d:=by
 obtain ⟨⟨xs,hx⟩,_,_⟩:=h
 rw [hx];exact E.zR he
def LV (fz:Nat→Option (Array Value)) (ks:List SK) (n:Int) (x:Value):Prop:=
 ((∃a:Option Addr,x=.slice a 0 0)∧vP n=[])∨∃(o off len cap:Nat) (cs:Array Value),x=.slice (some ⟨o,off,none⟩) len cap∧fz o=some cs∧len≤cap∧
   (vP n).length=len*ks.length∧∀(r j:Nat) (k:SK),r<len→ks[j]?=some k→cs[off+r*ks.length+j]?=some (k.val ((vP n).getD (r*ks.length+j) 0))
def oF (g:G) (cs:List Clo) (n:Int) (x:Value):Prop:=
 (n=0∧x=.nilFunc)∨(0<n∧∃(c:Clo) (p:PB) (o q:Nat) (z:Array Value),cs[((n - 1) % cs.length).toNat]?=some c∧g.φ c.b=some p∧x=.func (.func c.f) #[] #[.pointer (some ⟨o,q,none⟩)]∧
   g.fz o=some z∧z[q]?=some (.pointer (some ⟨p.blk,p.base+((n - 1) / cs.length).toNat*c.s+c.k,none⟩)))
def Lu (fz:Nat→Option (Array Value)) (ks:List SK) (n j:Int) (k:Nat) (x:Value):Prop:=
 ∃(o off len:Nat) (cs:Array Value),x=.pointer (some ⟨o,off+j.toNat*ks.length+k,none⟩)∧fz o=some cs∧j<len∧
   (vP n).length=len*ks.length∧∀(r q:Nat) (c:SK),r<len→ks[q]?=some c→cs[off+r*ks.length+q]?=some (c.val ((vP n).getD (r*ks.length+q) 0))
def CK.rel (g:G):CK→Int→Value→Prop
 | .lst ks,n,x=>LV g.fz ks n x
 | .clo cs,n,x=>oF g cs n x
 | k,n,x=>x=k.val n
theorem CK.w9 {g:G} {k:CK} {n:Int} {x:Value} (hk:k.plain=true):k.rel g n x↔x=k.val n:=by
 cases k with
 | lst ks=>cases hk
 | clo cs=>cases hk
 | _=>exact Iff.rfl
def CK.at (g:G) (k:CK) (n:Int) (x:Option Value):Prop:=∃y,x=some y∧k.rel g n y
theorem CK.Kc {g:G} {k:CK} {n:Int} {x:Option Value} (hk:k.plain=true):k.at g n x↔x=some (k.val n):=
 ⟨fun ⟨y,h,h'⟩=>by rw [h,(CK.w9 hk).1 h'],fun h=>⟨_,h,(CK.w9 hk).2 rfl⟩⟩
theorem CK.qjh {g:G}:∀k:CK,k.rel g 0 (k.val 0)
 | .lst _=>.inl ⟨⟨none,rfl⟩,rfl⟩
 | .clo _=>.inl ⟨rfl,rfl⟩
 | .int _=>rfl
 | .bool=>rfl
 | .str=>rfl
theorem CK.at0 {g:G} {k:CK} {x:Option Value} (h:x=some (k.val 0)):k.at g 0 x:=⟨_,h,CK.qjh k⟩
theorem LV.le {fz fz':Nat→Option (Array Value)} (h:∀o c,fz o=some c→fz' o=some c) {ks:List SK} {n:Int} {x:Value} (hx:LV fz ks n x):LV fz' ks n x:=by
 rcases hx with hx | ⟨o,off,len,cap,cs,h1,h2,h3⟩
 · exact .inl hx
 · exact .inr ⟨o,off,len,cap,cs,h1,h o cs h2,h3⟩
theorem Lu.le {fz fz':Nat→Option (Array Value)} (h:∀o c,fz o=some c→fz' o=some c) {ks:List SK} {n j:Int} {k:Nat} {x:Value} (hx:Lu fz ks n j k x):Lu fz' ks n j k x:=by
 obtain ⟨o,off,len,cs,h1,h2,h3⟩:=hx
 exact ⟨o,off,len,cs,h1,h o cs h2,h3⟩
theorem oF.mono {g g':G} (hφ:∀b p,g.φ b=some p→g'.φ b=some p) (h:∀o c,g.fz o=some c→g'.fz o=some c) {cs:List Clo} {n:Int} {x:Value} (hx:oF g cs n x):oF g' cs n x:=by
 rcases hx with hx | ⟨h1,c,p,o,q,z,h2,h3,h4,h5,h6⟩
 · exact .inl hx
 · exact .inr ⟨h1,c,p,o,q,z,h2,hφ _ _ h3,h4,h o z h5,h6⟩
theorem CK.iZ {g g':G} (hφ:∀b p,g.φ b=some p→g'.φ b=some p) (h:∀o c,g.fz o=some c→g'.fz o=some c):∀{k:CK} {n:Int} {x:Value},k.rel g n x→k.rel g' n x
 | .lst _,_,_,hx=>LV.le h hx
 | .clo _,_,_,hx=>oF.mono hφ h hx
 | .int _,_,_,hx=>hx
 | .bool,_,_,hx=>hx
 | .str,_,_,hx=>hx
theorem CK.PZ {g g':G} (h:g.Le g') (hw:g.wf) {k:CK} {n:Int} {x:Value}:k.rel g n x→k.rel g' n x:=CK.iZ (fun _ _ hb=>h.some hw hb) h.fz
theorem CK.QF {g g':G} (h:g.Le g') (hw:g.wf) {k:CK} {n:Int} {x:Option Value}:k.at g n x→k.at g' n x:=fun ⟨y,a,b⟩=>⟨y,a,CK.PZ h hw b⟩
mutual
def Rel (I:Itp) (g:G):AV→Value→Prop
 | .any,_=>True
 | .undef,x=>x=Go.undef
 | .bool e,x=>∃n:Int,e.den I g.env=some (.i n)∧x=.bool (decide (n≠0))
 | .int k e,x=>∃n:Int,e.den I g.env=some (.i n)∧x=.int k n
 | .wY,x=>x=.pointer none
 | .ptr b r s k,x=>∃(n:Int) (p:PB),r.den I g.env=some (.i n)∧0≤n∧g.φ b=some p∧x=.pointer (some ⟨p.blk,p.base+n.toNat*s+k,none⟩)
 | .qQ,x=>x=.slice none 0 0
 | .slice b lo len s nl,x=>∃l n:Int,lo.den I g.env=some (.i l)∧len.den I g.env=some (.i n)∧0≤l∧0≤n∧
     ((∃(p:PB) (cap:Nat),g.φ b=some p∧x=.slice (some ⟨p.blk,p.base+l.toNat*s,none⟩) n.toNat cap∧n.toNat≤cap∧(l.toNat+cap)*s≤p.tot)∨
      (nl=true∧n=0∧∃a,x=.slice a 0 0))
 | .func f cap,x=>∃cs:Array Value,x=.func (.func f) #[] cs∧qj I g cap cs.toList
 | .yld b,x=>∃p:PB,g.φ b=some p∧x=.func (.yield p.blk) #[] #[]
 | .jW,x=>x=.nilFunc
 | .agg l,x=>∃cs:Array Value,x=.agg cs∧qj I g l cs.toList
 | .tup l,x=>∃cs:Array Value,x=.tuple cs∧qj I g l cs.toList
 | .big l ks t n m,x=>∃(f:Int→Nat→Int) (xs ys zs:List Value),t.den I g.env=some (.t f)∧x=.agg (xs++ys++zs).toArray∧qj I g l xs∧qj I g m zs∧
     ys.length=n*ks.length∧∀(r j:Nat) (k:CK),r<n→ks[j]?=some k→k.at g (f r j) ys[r*ks.length+j]?
 | .cap0,x=>∃a:Addr,x=.slice (some a) 0 0
 | .empty,x=>∃(a:Addr) (c:Nat),x=.slice (some a) 0 c
 | .asl b k n _,x=>∃(p:PB) (cap:Nat),g.φ b=some p∧n≤cap∧x=.slice (some ⟨p.blk,p.base+k,none⟩) n cap
 | .yV f m cap,x=>∃ms cs:Array Value,x=.func (.func f) ms cs∧qj I g m ms.toList∧qj I g cap cs.toList
 | .gD v k,x=>x=.pointer (some ⟨v,k,none⟩)
 | .str l,x=>∃s:ByteArray,x=.string s∧s.data.toList=l
 | .wN t n,x=>∃(f:Int→Nat→Int) (k:Int) (s:ByteArray),t.den I g.env=some (.t f)∧n.den I g.env=some (.i k)∧x=.string s∧k=s.data.toList.length∧
     ∀(i:Nat) (b:UInt8),s.data.toList[i]?=some b→f i 0=b.toNat
 | .mg,x=>∃a:Option Addr,x=.slice a 0 0
 | .mref b,x=>∃p:PB,g.φ b=some p∧x=.map (some p.blk)
 | .vO,x=>x=.map none
 | .yI,x=>x=.nilIface
 | .sat e,x=>∃n:Int,e.den I g.env=some (.i n)∧x=.string ⟨(zW n).toArray⟩
 | .lst ks e,x=>∃n:Int,e.den I g.env=some (.i n)∧LV g.fz ks n x
 | .vT a,x=>∃(o q:Nat) (z:Array Value) (y:Value),x=.pointer (some ⟨o,q,none⟩)∧g.fz o=some z∧z[q]?=some y∧Rel I g a y
 | .fco cs e,x=>∃n:Int,e.den I g.env=some (.i n)∧oF g cs n x
 | .xg ks e i k,x=>∃n j:Int,e.den I g.env=some (.i n)∧i.den I g.env=some (.i j)∧0≤j∧Lu g.fz ks n j k x
 | .ifo e,x=>∃n:Int,e.den I g.env=some (.i n)∧((n=0∧x=.nilIface)∨(n≠0∧∃t p,x=.iface t p))
def qj (I:Itp) (g:G):List AV→List Value→Prop
 | [],[]=>True
 | a::l,x::xs=>Rel I g a x∧qj I g l xs
 | _,_=>False
end
mutual
theorem Rel.le {I:Itp} {g g':G} (h:g.Le g') (hw:g.wf):∀{v:AV} {x:Value},Rel I g v x→Rel I g' v x:=by
 intro v x hv
 match v with
 | .any=>trivial
 | .undef=>simpa [Rel] using hv
 | .bool e=>simp only [Rel] at hv ⊢;obtain ⟨n,h1,h2⟩:=hv;exact ⟨n,E.qU h h1,h2⟩
 | .int k e=>simp only [Rel] at hv ⊢;obtain ⟨n,h1,h2⟩:=hv;exact ⟨n,E.qU h h1,h2⟩
 | .wY=>simpa [Rel] using hv
 | .ptr b r s k=>
   simp only [Rel] at hv ⊢
   obtain ⟨n,p,h1,h2,h3,h4⟩:=hv
   exact ⟨n,p,E.qU h h1,h2,h.some hw h3,h4⟩
 | .qQ=>simpa [Rel] using hv
 | .slice b lo len s nl=>
   simp only [Rel] at hv ⊢
   obtain ⟨l,n,h1,h2,h3,h4,h5⟩:=hv
   refine ⟨l,n,E.qU h h1,E.qU h h2,h3,h4,?_⟩
   rcases h5 with ⟨p,cap,h5,h6⟩ | h5
   · exact .inl ⟨p,cap,h.some hw h5,h6⟩
   · exact .inr h5
 | .func f cap=>simp only [Rel] at hv ⊢;obtain ⟨cs,h1,h2⟩:=hv;exact ⟨cs,h1,qj.le h hw h2⟩
 | .yld b=>simp only [Rel] at hv ⊢;obtain ⟨p,h1,h2⟩:=hv;exact ⟨p,h.some hw h1,h2⟩
 | .jW=>simpa [Rel] using hv
 | .agg l=>simp only [Rel] at hv ⊢;obtain ⟨cs,h1,h2⟩:=hv;exact ⟨cs,h1,qj.le h hw h2⟩
 | .tup l=>simp only [Rel] at hv ⊢;obtain ⟨cs,h1,h2⟩:=hv;exact ⟨cs,h1,qj.le h hw h2⟩
 | .big l ks t n m=>
   simp only [Rel] at hv ⊢
   obtain ⟨f,xs,ys,zs,h1,h2,h3,h4,h5⟩:=hv
   exact ⟨f,xs,ys,zs,E.qU h h1,h2,qj.le h hw h3,qj.le h hw h4,h5.1,fun r j k a b=>CK.QF h hw (h5.2 r j k a b)⟩
 | .cap0=>simpa [Rel] using hv
 | .empty=>simpa [Rel] using hv
 | .asl b k n s=>simp only [Rel] at hv ⊢;obtain ⟨p,cap,h1,h2⟩:=hv;exact ⟨p,cap,h.some hw h1,h2⟩
 | .yV f m cap=>simp only [Rel] at hv ⊢;obtain ⟨ms,cs,h1,h2,h3⟩:=hv;exact ⟨ms,cs,h1,qj.le h hw h2,qj.le h hw h3⟩
 | .gD v k=>simpa [Rel] using hv
 | .str l=>simpa [Rel] using hv
 | .wN t n=>simp only [Rel] at hv ⊢;obtain ⟨f,k,s,h1,h2,h3⟩:=hv;exact ⟨f,k,s,E.qU h h1,E.qU h h2,h3⟩
 | .mg=>simpa [Rel] using hv
 | .mref b=>simp only [Rel] at hv ⊢;obtain ⟨p,h1,h2⟩:=hv;exact ⟨p,h.some hw h1,h2⟩
 | .vO=>simpa [Rel] using hv
 | .yI=>simpa [Rel] using hv
 | .sat e=>simp only [Rel] at hv ⊢;obtain ⟨n,h1,h2⟩:=hv;exact ⟨n,E.qU h h1,h2⟩
 | .lst ks e=>simp only [Rel] at hv ⊢;obtain ⟨n,h1,h2⟩:=hv;exact ⟨n,E.qU h h1,h2.le h.fz⟩
 | .vT a=>simp only [Rel] at hv ⊢;obtain ⟨o,q,z,y,h1,h2,h3,h4⟩:=hv;exact ⟨o,q,z,y,h1,h.fz _ _ h2,h3,Rel.le h hw h4⟩
 | .fco cs e=>simp only [Rel] at hv ⊢;obtain ⟨n,h1,h2⟩:=hv;exact ⟨n,E.qU h h1,h2.mono (fun _ _ hb=>h.some hw hb) h.fz⟩
 | .xg ks e i k=>simp only [Rel] at hv ⊢;obtain ⟨n,j,h1,h2,h3,h4⟩:=hv;exact ⟨n,j,E.qU h h1,E.qU h h2,h3,h4.le h.fz⟩
 | .ifo e=>simp only [Rel] at hv ⊢;obtain ⟨n,h1,h2⟩:=hv;exact ⟨n,E.qU h h1,h2⟩
theorem qj.le {I:Itp} {g g':G} (h:g.Le g') (hw:g.wf):∀{l:List AV} {xs:List Value},qj I g l xs→qj I g' l xs:=by
 intro l xs hl
 match l,xs with
 | [],[]=>trivial
 | a::l,x::xs=>simp only [qj] at hl ⊢;exact ⟨Rel.le h hw hl.1,qj.le h hw hl.2⟩
 | [],_::_=>simp [qj] at hl
 | _::_,[]=>simp [qj] at hl
end
theorem qj.length {I:Itp} {g:G}:∀{l:List AV} {xs:List Value},qj I g l xs→l.length=xs.length
 | [],[],_=>rfl
 | _::l,_::xs,h=>by simp only [qj] at h;simp [qj.length h.2]
 | [],_::_,h=>by simp [qj] at h
 | _::_,[],h=>by simp [qj] at h
theorem qj.get {I:Itp} {g:G}:∀{l:List AV} {xs:List Value},qj I g l xs→∀{i:Nat} {v:AV},l[i]?=some v→∃x,xs[i]?=some x∧Rel I g v x
 | [],[],_,i,v,h=>by simp at h
 | a::l,x::xs,hr,i,v,h=>by
   simp only [qj] at hr
   cases i with
   | zero=>simp at h;subst h;exact ⟨x,rfl,hr.1⟩
   | succ i=>simp at h;obtain ⟨y,h1,h2⟩:=qj.get hr.2 h;exact ⟨y,by simpa using h1,h2⟩
 | [],_::_,h,_,_,_=>by simp [qj] at h
 | _::_,[],h,_,_,_=>by simp [qj] at h
theorem qj.mk {I:Itp} {g:G}:∀{l:List AV} {xs:List Value},l.length=xs.length→(∀(i:Nat) (v:AV) (x:Value),l[i]?=some v→xs[i]?=some x→Rel I g v x)→qj I g l xs
 | [],[],_,_=>trivial
 | a::l,x::xs,hl,h=>by
   refine ⟨h 0 a x rfl rfl,qj.mk (by simpa using hl) fun i v y h1 h2=>h (i+1) v y (by simpa using h1) (by simpa using h2)⟩
 | [],_::_,h,_=>by simp at h
 | _::_,[],h,_=>by simp at h
theorem qj.append {I:Itp} {g:G}:∀{l m:List AV} {xs ys:List Value},qj I g l xs→qj I g m ys→qj I g (l++m) (xs++ys)
 | [],_,[],_,_,h=>h
 | a::l,_,x::xs,_,h,h'=>⟨h.1,qj.append h.2 h'⟩
 | [],_,_::_,_,h,_=>by simp [qj] at h
 | _::_,_,[],_,h,_=>by simp [qj] at h
theorem qj.drop {I:Itp} {g:G}:∀(k:Nat) {l:List AV} {xs:List Value},qj I g l xs→qj I g (l.drop k) (xs.drop k)
 | 0,_,_,h=>h
 | k+1,[],[],_=>trivial
 | k+1,a::l,x::xs,h=>by simpa using qj.drop k h.2
 | _+1,[],_::_,h=>by simp [qj] at h
 | _+1,_::_,[],h=>by simp [qj] at h
theorem qj.take {I:Itp} {g:G}:∀(k:Nat) {l:List AV} {xs:List Value},qj I g l xs→qj I g (l.take k) (xs.take k)
 | 0,_,_,_=>by simp [qj]
 | k+1,[],[],_=>trivial
 | k+1,a::l,x::xs,h=>by simp only [List.take_succ_cons];exact ⟨h.1,qj.take k h.2⟩
 | _+1,[],_::_,h=>by simp [qj] at h
 | _+1,_::_,[],h=>by simp [qj] at h
theorem get_put {α:Type} (t u:Nat) (v:α) (l:List (Nat × α)):get (put t v l) u=if t=u then some v else get l u:=by
 have hd:∀l:List (Nat × α),t≠u→get (R9 t l) u=get l u:=by
   intro l h
   induction l with
   | nil=>rfl
   | cons x l ih=>
     obtain ⟨k,w⟩:=x
     simp only [Nh]
     by_cases hk:k=t
     · rw [if_pos hk];simp only [ql];rw [if_neg (by omega)]
     · rw [if_neg hk];simp only [ql];rw [ih]
 simp only [put,ql]
 by_cases h:t=u
 · simp [h]
 · rw [if_neg h,if_neg h,hd l h]
theorem xZ {α:Type} (t u:Nat) (v:α) (l:List (Nat × α)):get (nI t v l) u=if t=u then some v else get l u:=ql
theorem aR {α:Type} {t:Nat} {v:α}:∀{l m:List (Nat × α)},get (iH l m) t=some v→get m t=some v
 | [],m,h=>by simp [iH,get_nil] at h
 | (k,w)::l,m,h=>by
   simp only [iH] at h
   split at h
   · rename_i u hu
     simp only [ql] at h
     split at h
     · rename_i e;subst e;rw [hu];exact h
     · exact aR h
   · exact aR h
theorem yF {α:Type} (t u:Nat):∀(l:List (Nat × α)),get (del t l) u=if t=u then none else get l u
 | []=>by simp [Lj,get_nil]
 | (k,w)::l=>by
   simp only [R8]
   by_cases hk:k=t
   · rw [if_pos hk,yF t u l];simp only [ql]
     by_cases h:t=u
     · simp [h]
     · rw [if_neg h,if_neg h,if_neg (by omega)]
   · rw [if_neg hk];simp only [ql]
     by_cases h:t=u
     · rw [if_pos h,if_neg (by omega),yF t u l,if_pos h]
     · rw [if_neg h,yF t u l,if_neg h]
theorem Gy {α:Type} (u:Nat):∀(bs:List Nat) (l:List (Nat × α)) {x:α},get (Gi bs l) u=some x→get l u=some x∧u ∉ bs
 | [],l,x,h=>⟨h,by simp⟩
 | b::bs,l,x,h=>by
   obtain ⟨h1,h2⟩:=Gy u bs _ h
   rw [yF] at h1
   split at h1
   · cases h1
   · exact ⟨h1,by simp;exact ⟨by omega,h2⟩⟩
def wm (I:Itp) (g:G) (X:Nat→Prop) (ts:qL) (a:Array Value):Prop:=
 ∀t v,get ts t=some v→¬X t→∃x,a[t]?=some x∧Rel I g v x
theorem wm.le {I:Itp} {g g':G} {X:Nat→Prop} (h:g.Le g') (hw:g.wf) {ts:qL} {a:Array Value} (ht:wm I g X ts a):wm I g' X ts a:=
 fun t v h1 h2=>let ⟨x,h3,h4⟩:=ht t v h1 h2;⟨x,h3,h4.le h hw⟩
def kC (f:Nat→Int):Nat→List CK→List Value
 | _,[]=>[]
 | c,k::ks=>k.val (f c)::kC f (c+1) ks
def dS (w:Nat) (one:Bool) (ks:List CK) (f:Nat→Int):Value:=
 match one,ks with
 | true,k::_=>k.val (f 0)
 | true,[]=>.nilIface
 | false,ks=>.agg (kC f 0 (ks.take w)).toArray
def Free (fr:Nat × Nat) (n:Nat):Prop:=fr=(0,0)∨n≤fr.1
open Classical in
def kV:List MapEntry→Int→Option Value
 | [],_=>none
 | e::l,κ=>if e.key=.string ⟨(zW κ).toArray⟩ then some e.val else kV l κ
def XL (H:Nat→Option Obj) (ck:CK) (row:Nat→Int) (v:Value):Prop:=
 ((∃a,v=.slice a 0 0)∧row 0=0)∨∃(o off n cap:Nat) (c:Array Value) (T:TypeId) (fr:Nat × Nat),v=.slice (some ⟨o,off,none⟩) n cap∧0<cap∧n≤cap∧row 0=n∧
   H o=some (.cells c T fr)∧Free fr c.size∧off+cap≤c.size∧∀j,j<n→c[off+j]?=some (ck.val (row (j+1)))
def l6 (es:List MapEntry) (k:Option Int) (κ:Int) (o:Nat):Prop:=k≠some κ∧∃off n cap:Nat,kV es κ=some (.slice (some ⟨o,off,none⟩) n cap)∧0<cap
def jL (I:Itp) (g:G):Option E→Option Int→Prop
 | none,none=>True
 | some e,some n=>e.den I g.env=some (.i n)
 | _,_=>False
theorem jL.fn {I:Itp} {g:G}:∀{op:Option E} {k k':Option Int},jL I g op k→jL I g op k'→k=k'
 | none,none,none,_,_=>rfl
 | some e,some n,some m,h,h'=>by simp only [jL] at h h';rw [h] at h';cases h';rfl
 | none,some _,_,h,_=>h.elim
 | none,none,some _,_,h=>h.elim
 | some _,none,_,h,_=>h.elim
 | some _,some _,none,_,h=>h.elim
theorem jL.le {I:Itp} {g g':G} (h:∀{e:E} {n:Int},e.den I g.env=some (.i n)→e.den I g'.env=some (.i n)):∀{op:Option E} {k:Option Int},jL I g op k→jL I g' op k
 | none,none,_=>trivial
 | some _,some _,hk=>h hk
 | none,some _,hk=>hk.elim
 | some _,none,hk=>hk.elim
structure Mr (H:Nat→Option Obj) (ck:CK) (f:Int→Nat→Int) (k:Option Int) (es:List MapEntry):Prop where
 pl:ck.plain=true
 key:∀e∈es,∃κ:Int,e.key=.string ⟨(zW κ).toArray⟩
 mem:∀κ,k≠some κ→match kV es κ with
   | none=>f κ 0=0
   | some v=>XL H ck (f κ) v
 apart:∀κ κ' o,l6 es k κ o→l6 es k κ' o→κ=κ'
def jF (I:Itp) (P:Program) (g:G) (b:Nat) (H:Nat→Option Obj):Blk→Prop
 | .cells l wr=>∃(p:PB) (c:Array Value) (T:TypeId) (fr:Nat × Nat),g.φ b=some p∧H p.blk=some (.cells c T fr)∧
     (∀i v,l[i]?=some v→∃x,c[p.base+i]?=some x∧Rel I g v x)∧(wr=true→fr=(0,0)∧p.base+p.tot≤c.size)
 | .rows ks t len wr nl=>∃(f:Int→Nat→Int) (n:Int),t.den I g.env=some (.t f)∧len.den I g.env=some (.i n)∧0≤n∧
     ((∃(p:PB) (c:Array Value) (T:TypeId) (fr:Nat × Nat),g.φ b=some p∧H p.blk=some (.cells c T fr)∧
       (∀(r j:Nat) (k:CK),r<n.toNat→ks[j]?=some k→k.at g (f r j) c[p.base+r*ks.length+j]?)∧
       (wr=true→Free fr c.size∧p.base+p.tot≤c.size∧n.toNat*ks.length≤p.tot))∨
      (nl=true∧n=0∧g.φ b=none))
 | .big l ks t n m wr=>∃(p:PB) (c:Array Value) (T:TypeId) (fr:Nat × Nat) (f:Int→Nat→Int),g.φ b=some p∧H p.blk=some (.cells c T fr)∧t.den I g.env=some (.t f)∧
     (∀i v,l[i]?=some v→∃x,c[p.base+i]?=some x∧Rel I g v x)∧
     (∀(r j:Nat) (k:CK),r<n→ks[j]?=some k→k.at g (f r j) c[p.base+(l.length+(r*ks.length+j))]?)∧
     (∀i v,m[i]?=some v→∃x,c[p.base+(l.length+n*ks.length+i)]?=some x∧Rel I g v x)∧(wr=true→fr=(0,0))
 | .loop st pend fn ix nt ts d=>∃(p q:PB) (r:Loop) (rf:RF),g.φ b=some p∧g.φ d=some q∧H p.blk=some (.loop r)∧ZT P fn ix=some rf∧
     r.state=st∧r.pending=pend.map Jump.code∧r.params.toList=rf.params∧r.assign=rf.assign∧r.body=rf.body∧r.defers=q.blk∧
     r.tmps.size=nt∧wm I g (fun _=>False) ts r.tmps
 | .dfr sh=>∃p:PB,g.φ b=some p∧H p.blk=some (.deferred (if sh then some [] else none))
 | .mp l m=>∃(p:PB) (es:Array MapEntry) (c:Nat),g.φ b=some p∧H p.blk=some (.map es c)∧qj I g l (es.toList.map (·.key))∧qj I g m (es.toList.map (·.val))
 | .smp w one ks t n=>∃(p:PB) (es:Array MapEntry) (c:Nat) (f:Int→Nat→Int),g.φ b=some p∧H p.blk=some (.map es c)∧t.den I g.env=some (.t f)∧n.den I g.env=some (.i (es.size:Nat))∧
     (∀k∈ks,k.plain=true)∧∀(i:Nat) (e:MapEntry),es[i]?=some e→e.key=dS w one ks (f i)∧∃k,ks[w]?=some k∧e.val=k.val (f i w)
 | .iter e q k=>∃(p:PB) (n:Int) (m:Nat),g.φ b=some p∧p.base=0∧e.den I g.env=some (.i n)∧q.den I g.env=some (.i (m:Nat))∧H p.blk=some (.stringIter ⟨(zW n).toArray⟩ m)∧
     (k=1→m<(zW n).length)∧(k=2→¬m<(zW n).length)
 | .bld T e d=>∃(p:PB) (n:Int) (x y:Value),g.φ b=some p∧p.base=0∧H p.blk=some (.cells #[x,y] T (0,0))∧e.den I g.env=some (.i n)∧
     (x=.pointer none∨x=.pointer (some ⟨p.blk,0,none⟩))∧((y=.slice none 0 0∧zW n=[])∨∃q:PB,g.φ d=some q∧q.base=0∧y=.slice (some ⟨q.blk,0,none⟩) (zW n).length q.tot)
 | .byt T e=>∃n:Int,e.den I g.env=some (.i n)∧((g.φ b=none∧zW n=[])∨∃(q:PB) (cur:Array Value),g.φ b=some q∧q.base=0∧H q.blk=some (.cells cur T (0,0))∧
     cur.size=q.tot∧(zW n).length≤q.tot∧q.tot≤9223372036854775807∧cur.toList.take (zW n).length=(zW n).map fun c=>Value.int .u8 c.toNat)
 | .ovr ks t len h l wr nl=>∃(f:Int→Nat→Int) (n m:Int),t.den I g.env=some (.t f)∧len.den I g.env=some (.i n)∧h.den I g.env=some (.i m)∧0≤n∧
     ((∃(p:PB) (c:Array Value) (T:TypeId) (fr:Nat × Nat),g.φ b=some p∧H p.blk=some (.cells c T fr)∧
       (∀(r j:Nat) (k:CK),r<n.toNat→(wr=true→(r:Int)≠m)→ks[j]?=some k→k.at g (f r j) c[p.base+r*ks.length+j]?)∧
       (0≤m→m<n→∀(j:Nat) (v:AV),l[j]?=some v→∃x,c[p.base+m.toNat*ks.length+j]?=some x∧Rel I g v x)∧
       (wr=true→Free fr c.size∧p.base+p.tot≤c.size∧n.toNat*ks.length≤p.tot))∨
      (nl=true∧n=0∧g.φ b=none))
 | .fam ck t op=>∃(p:PB) (es:Array MapEntry) (c:Nat) (f:Int→Nat→Int) (k:Option Int),g.φ b=some p∧H p.blk=some (.map es c)∧t.den I g.env=some (.t f)∧jL I g op k∧Mr H ck f k es.toList
def zX (H:Nat→Option Obj) (I:Itp) (g:G) (b:Nat):Blk→Nat→Prop
 | .fam _ _ op,o=>∃(p:PB) (es:Array MapEntry) (c:Nat) (k:Option Int) (κ:Int),g.φ b=some p∧H p.blk=some (.map es c)∧jL I g op k∧l6 es.toList k κ o
 | _,_=>False
theorem zX.fam {H:Nat→Option Obj} {I:Itp} {g:G} {b o:Nat} {x:Blk} (h:zX H I g b x o):x.wZ=true:=by
 cases x <;> first | rfl | exact h.elim
theorem zX.turn {H H':Nat→Option Obj} {I:Itp} {P:Program} {g g':G} {b b' o:Nat} {ck ck':CK} {t t':E} {op op':Option E} (hB:jF I P g b H (.fam ck t op)) (hφ:∀p,g'.φ b'=some p→g.φ b=some p)
   (hH:∀p,g'.φ b'=some p→H' p.blk=H p.blk) (hop:∀{k},jL I g op k→jL I g' op' k) (h:zX H' I g' b' (.fam ck' t' op') o):zX H I g b (.fam ck t op) o:=by
 obtain ⟨p,es,c,k,κ,h1,h2,h3,h4⟩:=h
 obtain ⟨_,_,_,_,k',_,_,_,h5,_⟩:=hB
 have:=jL.fn h3 (hop h5)
 subst this
 exact ⟨p,es,c,k,κ,hφ p h1,by rw [←hH p h1];exact h2,h5,h4⟩
theorem jF.le {I:Itp} {P:Program} {g g':G} {b:Nat} {H:Nat→Option Obj} (h:g.Le g') (hw:g.wf) (hb:b<g.nb):∀{x:Blk},jF I P g b H x→jF I P g' b H x
 | .cells l wr,hx=>by
   obtain ⟨p,c,T,fr,h1,h2,h3,h4⟩:=hx
   exact ⟨p,c,T,fr,h.some hw h1,h2,fun i v hv=>let ⟨x,a,b⟩:=h3 i v hv;⟨x,a,b.le h hw⟩,h4⟩
 | .rows ks t len wr nl,hx=>by
   obtain ⟨f,n,h1,h2,h3,h4⟩:=hx
   refine ⟨f,n,E.qU h h1,E.qU h h2,h3,?_⟩
   rcases h4 with ⟨p,c,T,fr,h5,h6,h7,h8⟩ | ⟨h5,h6,h7⟩
   · exact .inl ⟨p,c,T,fr,h.some hw h5,h6,fun r j k a b=>CK.QF h hw (h7 r j k a b),h8⟩
   · exact .inr ⟨h5,h6,by rw [h.φ b hb];exact h7⟩
 | .big l ks t n m wr,hx=>by
   obtain ⟨p,c,T,fr,f,h1,h2,h3,h4,h5,h6,h7⟩:=hx
   exact ⟨p,c,T,fr,f,h.some hw h1,h2,E.qU h h3,fun i v hv=>let ⟨x,a,b⟩:=h4 i v hv;⟨x,a,b.le h hw⟩,fun r j k a b=>CK.QF h hw (h5 r j k a b),fun i v hv=>let ⟨x,a,b⟩:=h6 i v hv;⟨x,a,b.le h hw⟩,h7⟩
 | .loop st pend fn ix nt ts d,hx=>by
   obtain ⟨p,q,r,rf,h1,h2,h3,h4,h5,h6,h8,h9,h10,h11,h12,h13⟩:=hx
   exact ⟨p,q,r,rf,h.some hw h1,h.some hw h2,h3,h4,h5,h6,h8,h9,h10,h11,h12,h13.le h hw⟩
 | .dfr sh,hx=>by
   obtain ⟨p,h1,h2⟩:=hx
   exact ⟨p,h.some hw h1,h2⟩
 | .mp l m,hx=>by
   obtain ⟨p,es,c,h1,h2,h3,h4⟩:=hx
   exact ⟨p,es,c,h.some hw h1,h2,h3.le h hw,h4.le h hw⟩
 | .smp w one ks t n,hx=>by
   obtain ⟨p,es,c,f,h1,h2,h3,h4,h5⟩:=hx
   exact ⟨p,es,c,f,h.some hw h1,h2,E.qU h h3,E.qU h h4,h5⟩
 | .iter e q k,hx=>by
   obtain ⟨p,n,m,h1,h2,h3,h4,h5⟩:=hx
   exact ⟨p,n,m,h.some hw h1,h2,E.qU h h3,E.qU h h4,h5⟩
 | .bld T e d,⟨p,n,x,y,h1,h2,h3,h4,h5,h6⟩=>⟨p,n,x,y,h.some hw h1,h2,h3,E.qU h h4,h5,h6.imp id fun ⟨q,a,b⟩=>⟨q,h.some hw a,b⟩⟩
 | .byt T e,⟨n,h1,h2⟩=>⟨n,E.qU h h1,h2.imp (fun ⟨a,c⟩=>⟨by rw [h.φ b hb];exact a,c⟩) fun ⟨q,cur,a,c⟩=>⟨q,cur,h.some hw a,c⟩⟩
 | .fam ck t op,⟨p,es,c,f,k,h1,h2,h3,h4,h5⟩=>⟨p,es,c,f,k,h.some hw h1,h2,E.qU h h3,jL.le (E.qU h) h4,h5⟩
 | .ovr ks t len e l wr nl,hx=>by
   obtain ⟨f,n,m,h1,h2,h3,h4,h5⟩:=hx
   refine ⟨f,n,m,E.qU h h1,E.qU h h2,E.qU h h3,h4,?_⟩
   rcases h5 with ⟨p,c,T,fr,h5,h6,h7,h8,h9⟩ | ⟨h5,h6,h7⟩
   · exact .inl ⟨p,c,T,fr,h.some hw h5,h6,fun r j k a b d=>CK.QF h hw (h7 r j k a b d),fun a b j v hv=>let ⟨x,y,z⟩:=h8 a b j v hv;⟨x,y,z.le h hw⟩,h9⟩
   · exact .inr ⟨h5,h6,by rw [h.φ b hb];exact h7⟩
theorem zX.le {I:Itp} {P:Program} {g g':G} {b o:Nat} {H H':Nat→Option Obj} (h:g.Le g') (hb:b<g.nb) {x:Blk} (hB:jF I P g b H x) (hH:∀p,g.φ b=some p→H' p.blk=H p.blk) (hr:zX H' I g' b x o):zX H I g b x o:=by
 cases x with
 | fam ck t op=>exact zX.turn hB (fun p hp=>by rw [←h.φ b hb];exact hp) (fun p hp=>hH p (by rw [←h.φ b hb];exact hp)) (jL.le (E.qU h)) hr
 | _=>exact hr.elim
theorem XL.heap {H H':Nat→Option Obj} {ck:CK} {row:Nat→Int} {v:Value} (hH:∀o off n cap,v=.slice (some ⟨o,off,none⟩) n cap→0<cap→H' o=H o) (h:XL H ck row v):XL H' ck row v:=by
 rcases h with h | ⟨o,off,n,cap,c,T,fr,h1,h2,h3,h4,h5,h6⟩
 · exact .inl h
 · exact .inr ⟨o,off,n,cap,c,T,fr,h1,h2,h3,h4,by rw [hH o off n cap h1 h2];exact h5,h6⟩
theorem Mr.heap {H H':Nat→Option Obj} {ck:CK} {f:Int→Nat→Int} {k:Option Int} {es:List MapEntry} (hH:∀κ o,l6 es k κ o→H' o=H o) (h:Mr H ck f k es):Mr H' ck f k es:=by
 refine ⟨h.pl,h.key,fun κ hκ=>?_,h.apart⟩
 have:=h.mem κ hκ
 split at this
 · exact this
 · rename_i v e
   exact this.heap fun o off n cap h1 h2=>hH κ o ⟨hκ,off,n,cap,by rw [e,h1],h2⟩
theorem jF.heap {I:Itp} {P:Program} {g:G} {b:Nat} {H H':Nat→Option Obj} {x:Blk} (h:jF I P g b H x) (hH:∀p,g.φ b=some p→H' p.blk=H p.blk) (hR:∀o,zX H I g b x o→H' o=H o):jF I P g b H' x:=match x,hR,h with
 | .fam ck t op,hR,⟨p,es,c,f,k,h1,h2,h3,h4,h5⟩=>⟨p,es,c,f,k,h1,by rw [hH p h1];exact h2,h3,h4,h5.heap fun κ o ho=>hR o ⟨p,es,c,k,κ,h1,h2,h4,ho⟩⟩
 | .cells l wr,_,⟨p,c,T,fr,h1,h2,h3⟩=>⟨p,c,T,fr,h1,by rw [hH p h1];exact h2,h3⟩
 | .rows ks t len wr nl,_,⟨f,n,h1,h2,h3,h4⟩=>by
   refine ⟨f,n,h1,h2,h3,?_⟩
   rcases h4 with ⟨p,c,T,fr,h5,h6,h7⟩ | h4
   · exact .inl ⟨p,c,T,fr,h5,by rw [hH p h5];exact h6,h7⟩
   · exact .inr h4
 | .big l ks t n m wr,_,⟨p,c,T,fr,f,h1,h2,h3⟩=>⟨p,c,T,fr,f,h1,by rw [hH p h1];exact h2,h3⟩
 | .ovr ks t len e l wr nl,_,⟨f,n,m,h1,h2,h3,h4,h5⟩=>by
   refine ⟨f,n,m,h1,h2,h3,h4,?_⟩
   rcases h5 with ⟨p,c,T,fr,h5,h6,h7⟩ | h5
   · exact .inl ⟨p,c,T,fr,h5,by rw [hH p h5];exact h6,h7⟩
   · exact .inr h5
 | .loop st pend fn ix nt ts d,_,⟨p,q,r,rf,h1,h2,h3,h4⟩=>⟨p,q,r,rf,h1,h2,by rw [hH p h1];exact h3,h4⟩
 | .dfr sh,_,⟨p,h1,h2⟩=>⟨p,h1,by rw [hH p h1];exact h2⟩
 | .mp l m,_,⟨p,es,c,h1,h2,h3⟩=>⟨p,es,c,h1,by rw [hH p h1];exact h2,h3⟩
 | .smp w one ks t n,_,⟨p,es,c,f,h1,h2,h3⟩=>⟨p,es,c,f,h1,by rw [hH p h1];exact h2,h3⟩
 | .iter e q k,_,⟨p,n,m,h1,h2,h3,h4,h5,h6⟩=>⟨p,n,m,h1,h2,h3,h4,by rw [hH p h1];exact h5,h6⟩
 | .bld T e d,_,⟨p,n,x,y,h1,h2,h3,h4⟩=>⟨p,n,x,y,h1,h2,by rw [hH p h1];exact h3,h4⟩
 | .byt T e,_,⟨n,h1,h2⟩=>⟨n,h1,h2.imp id fun ⟨q,cur,a,c,d,e⟩=>⟨q,cur,a,c,by rw [hH q a];exact d,e⟩⟩
structure Amb where
 w0:World
 X:Nat→Prop
 /-- What was not written any more when the call began. -/
 fz:Nat→Option (Array Value):=fun _=>none
def GOk (gl:List Glob) (A:Amb):Prop:=∀x∈gl,x.k.plain=true∧x.g<A.w0.heap.size∧¬A.X x.g∧∃(c:Array Value) (T:TypeId) (fr:Nat × Nat),A.w0.heap[x.g]?=some (.cells c T fr)∧
 (∀(k:Nat) (n:Int),x.l[k]?=some n→c[k]?=some (x.k.val n))∧(x.ifc=true→∃v,c[0]?=some v∧(v=.nilIface∨∃t p,v=.iface t p))∧
 (x.full=true→c=(x.l.map x.k.val).toArray)∧(x.ity=true→∃m,c[0]?=some (.int .i64 m))
structure qW (A:Amb) (I:Itp) (P:Program) (g:G) (M:Mem) (w:World):Prop where
 wf:g.wf
 blk:∀b x,get M b=some x→jF I P g b (fun i=>w.heap[i]?) x
 lt:∀b x,get M b=some x→b<g.nb
 /-- What may be written, nothing else speaks of. -/
 inj:∀b c x y p q,get M b=some x→get M c=some y→x.wr=true→g.φ b=some p→g.φ c=some q→p.blk=q.blk→b=c
 bnd:∀b p,g.φ b=some p→p.blk<w.heap.size
 own:∀b x p,get M b=some x→x.wr=true→g.φ b=some p→A.X p.blk∨A.w0.heap.size≤p.blk
 size:A.w0.heap.size≤w.heap.size
 keep:∀i,i<A.w0.heap.size→¬A.X i→w.heap[i]?=A.w0.heap[i]?
 same:w.os=A.w0.os∧w.output=A.w0.output
 /-- What a map of lists speaks of, no block speaks of, and no other one. -/
 fam:∀b x o,get M b=some x→zX (fun i=>w.heap[i]?) I g b x o→(A.X o∨A.w0.heap.size≤o)∧o<w.heap.size∧(∀c y q,get M c=some y→g.φ c=some q→q.blk≠o)∧
   ∀c y,get M c=some y→zX (fun i=>w.heap[i]?) I g c y o→c=b
 /-- What is not written any more: nothing that may be written speaks of it. -/
 frz:∀o c,g.fz o=some c→(A.fz o=some c∨A.X o∨A.w0.heap.size≤o)∧o<w.heap.size∧(∃T fr,w.heap[o]?=some (.cells c T fr))∧
   (∀b x q,get M b=some x→x.wr=true→g.φ b=some q→q.blk≠o)∧∀b x,get M b=some x→¬zX (fun i=>w.heap[i]?) I g b x o
def oD (I:Itp) (g:G):DV→Deferred→Prop
 | .blk b,x=>∃p,g.φ b=some p∧x={ target:=.collected p.blk,args:=#[] }
 | .fn f m cap,x=>∃ms cs:Array Value,x={ target:=.fn (.func f) cs,args:=ms }∧qj I g m ms.toList∧qj I g cap cs.toList
theorem oD.le {I:Itp} {g g':G} (h:g.Le g') (hw:g.wf):∀{d:DV} {x:Deferred},oD I g d x→oD I g' d x
 | .blk _,_,⟨p,h1,h2⟩=>⟨p,h.some hw h1,h2⟩
 | .fn _ _ _,_,⟨ms,cs,h1,h2,h3⟩=>⟨ms,cs,h1,h2.le h hw,h3.le h hw⟩
def gQ (I:Itp) (g:G):List DV→List Deferred→Prop
 | [],[]=>True
 | d::l,x::xs=>oD I g d x∧gQ I g l xs
 | _,_=>False
theorem gQ.le {I:Itp} {g g':G} (h:g.Le g') (hw:g.wf):∀{l:List DV} {xs:List Deferred},gQ I g l xs→gQ I g' l xs
 | [],[],_=>trivial
 | _::_,_::_,⟨h1,h3⟩=>⟨h1.le h hw,gQ.le h hw h3⟩
 | [],_::_,h=>by simp [gQ] at h
 | _::_,[],h=>by simp [gQ] at h
structure qJ (A:Amb) (I:Itp) (P:Program) (X:Nat→Prop) (g:G) (s:St) (a:Act) (w:World):Prop where
 m:qW A I P g s.mem w
 t:wm I g X s.tmps a.tmps
 nt:a.tmps.size=s.nt
 d:gQ I g s.defers a.defers
 nv:g.env.length=s.nv
 nb:g.nb=s.nb
end Go.Sx
noncomputable section
namespace Go.Sx
open Go
theorem WM:∀(l:List UInt8) (f:Nat),aL l≤f→DK f (aL l)=l
 | [],f,_=>by cases f <;> simp [DK,aL]
 | b::l,f,h=>by
   cases f with
   | zero=>simp [aL] at h
   | succ f=>
     have hb:b.toNat<256:=b.toNat_lt
     simp only [aL] at h ⊢
     simp only [DK]
     rw [if_neg (by omega)]
     have h1:(b.toNat+1+256*aL l - 1) % 256=b.toNat:=by omega
     have h2:(b.toNat+1+256*aL l - 1) / 256=aL l:=by omega
     rw [h1,h2,WM l f (by omega)]
     simp
theorem WX:∀(f n:Nat),n≤f→aL (DK f n)=n
 | 0, n, h => by have:n=0:=by omega
                 subst this;rfl
 | f+1,n,h=>by
   simp only [DK]
   by_cases h0:n=0
   · rw [if_pos h0];simp [aL,h0]
   · rw [if_neg h0]
     simp only [aL]
     rw [WX f ((n - 1) / 256) (by omega)]
     have:(UInt8.ofNat ((n - 1) % 256)).toNat=(n - 1) % 256:=by
       simp
     rw [this];omega
theorem sI (n:Nat):pQ (zig n)=n:=by
 unfold zig
 split
 · simp only [pQ];omega
 · simp only [pQ];omega
theorem oM (z:Int):zig (pQ z)=z:=by
 cases z with
 | ofNat m=>
   show zig (2*m)=_
   unfold zig
   rw [if_pos (by omega)];congr 1;omega
 | negSucc m=>
   show zig (2*m+1)=_
   unfold zig
   rw [if_neg (by omega)];congr 1;omega
theorem rT:∀(f:Nat) (l:List Int),bB l≤f→Qc f (bB l)=l
 | 0,l,h=>by
   cases l with
   | nil=>rfl
   | cons x l=>
     simp only [bB] at h
     have:0<2 ^ pQ x:=Nat.pow_pos (by decide)
     have:0<2 ^ pQ x*(2*bB l+1):=Nat.mul_pos this (by omega)
     omega
 | f+1,[],_=>by simp [bB,Qc]
 | f+1,x::l,h=>by
   simp only [bB] at h ⊢
   cases hu:pQ x with
   | zero=>
     rw [hu] at h
     simp only [Nat.pow_zero,Nat.one_mul] at h ⊢
     simp only [Qc]
     rw [if_neg (by omega),if_pos (by omega),show (2*bB l+1) / 2=bB l by omega,rT f l (by omega)]
     rw [←hu,oM]
   | succ v=>
     rw [hu] at h
     have h0:0<2 ^ v:=Nat.pow_pos (by decide)
     have hp:0<2 ^ v*(2*bB l+1):=Nat.mul_pos h0 (by omega)
     have e:2 ^ (v+1)*(2*bB l+1)=2*(2 ^ v*(2*bB l+1)):=by rw [Nat.pow_succ,Nat.mul_comm (2 ^ v) 2,Nat.mul_assoc]
     have ih:=rT f (zig v::l) (by simp only [bB,sI];omega)
     simp only [bB,sI] at ih
     rw [e] at h ⊢
     simp only [Qc]
     rw [if_neg (by omega),if_neg (by omega),Nat.mul_div_cancel_left _ (by decide),ih]
     simp only [sI]
     rw [←hu,oM]
theorem yO (l:List Int):vP (Cb l)=l:=by
 unfold vP Cb
 exact rT _ l (by simp)
theorem MK (l:List UInt8):zW (KJ l)=l:=by
 unfold zW KJ;rw [sI];exact WM l _ (Nat.le_refl _)
theorem K5 (n:Int):KJ (zW n)=n:=by
 unfold zW KJ;rw [WX _ _ (Nat.le_refl _),oM]
theorem fZ {n m:Int} (h:zW n=zW m):n=m:=by rw [←K5 n,h,K5]
def kR (n:Int):Value:=.string ⟨(zW n).toArray⟩
theorem fq {s:ByteArray} {l:List UInt8} (h:s.data.toList=l):Value.string s=kR (KJ l):=by
 subst h
 unfold kR;rw [MK]
variable {I:Itp} {env:List D} {g:G}
theorem vk {j:Nat} {a b c d:E} {x y z u:D} (ha:a.den I env=some x) (hb:b.den I env=some y) (hc:c.den I env=some z) (hd:d.den I env=some u) :
   (E.fn (1000+j) a b c d).den I env=some (bi j x y z u):=by
 simp only [E.den,ha,hb,hc,hd]
 show (if 1000≤1000+j then some (bi (1000+j - 1000) x y z u) else I.fn (1000+j) x y z u)=_
 rw [if_pos (Nat.le_add_right _ _),Nat.add_sub_cancel_left]
theorem dG {j:Nat} {a b c:E} {x y z n:Int} (ha:a.den I env=some (.i x)) (hb:b.den I env=some (.i y)) (hc:c.den I env=some (.i z)) (hn:bi j (.i x) (.i y) (.i z) (.i 0)=.i n) :
   (mkS j a b c).den I env=some (.i n):=by
 unfold mkS
 split
 · simp only [E.den,Option.some.injEq,D.i.injEq] at ha hb hc
   subst ha;subst hb;subst hc
   split
   · rename_i m hm
     rw [hm] at hn;simp only [D.i.injEq] at hn;subst hn;rfl
   · rename_i m hm
     rw [hm] at hn;cases hn
 · rw [vk ha hb hc (show (E.lit 0).den I env=some (.i 0) from rfl),hn]
theorem x9 {a:E} {x:Int} (ha:a.den I env=some (.i x)):(dQ a).den I env=some (.i (uw x)):=
 dG (n:=uw x) ha (show (E.lit 0).den I env=some (.i 0) from rfl) (show (E.lit 0).den I env=some (.i 0) from rfl) rfl
theorem aQ {e:E} {x:Value} {n:Int} (h:e.den I g.env=some (.i n)) (hx:x=kR n):Rel I g (mkStr e) x:=by
 unfold mkStr
 split
 · rename_i m
   simp only [E.den,Option.some.injEq,D.i.injEq] at h
   subst h
   exact ⟨_,hx,by simp⟩
 · exact ⟨n,h,hx⟩
theorem xX {v:AV} {x:Value} {e:E} (h:v.code=some e) (hv:Rel I g v x):∃n,e.den I g.env=some (.i n)∧x=kR n:=by
 cases v with
 | sat e'=>simp only [AV.code,Option.some.injEq] at h;subst h;exact hv
 | str l=>
   simp only [AV.code,Option.some.injEq] at h;subst h
   obtain ⟨s,rfl,h2⟩:=hv
   exact ⟨KJ l,rfl,fq h2⟩
 | wN t n=>
   simp only [AV.code,Option.some.injEq] at h;subst h
   obtain ⟨f,k,s,h1,h2,rfl,h4,h5⟩:=hv
   refine ⟨LH f k,vk (j:=5) h1 h2 (show (E.lit 0).den I g.env=some (.i 0) from rfl) (show (E.lit 0).den I g.env=some (.i 0) from rfl),?_⟩
   refine fq ?_
   refine List.ext_getElem? fun i=>?_
   rw [h4]
   simp only [Int.toNat_natCast,List.getElem?_map]
   by_cases hi:i<s.data.toList.length
   · rw [List.getElem?_range hi,List.getElem?_eq_getElem hi]
     simp only [Option.map_some]
     rw [h5 i _ (List.getElem?_eq_getElem hi)]
     simp
   · have h1:s.data.toList[i]?=none:=List.getElem?_eq_none (by omega)
     have h2:(List.range s.data.toList.length)[i]?=none:=List.getElem?_eq_none (by rw [List.length_range];omega)
     rw [h1,h2];rfl
 | _=>simp [AV.code] at h
theorem wh {c:CK} {e:E} {n:Int} {x:Value} (h:e.den I g.env=some (.i n)) (hx:c.rel g n x):Rel I g (c.av e) x:=by
 cases c with
 | int k=>exact ⟨n,h,hx⟩
 | bool=>exact ⟨n,h,hx⟩
 | str=>exact aQ h hx
 | lst ks=>exact ⟨n,h,hx⟩
 | clo cs=>
   simp only [CK.av]
   split
   · simp only [E.den,Option.some.injEq,D.i.injEq] at h
     subst h
     rcases hx with ⟨_,hx⟩ | ⟨h1,_⟩
     · exact hx
     · omega
   · exact ⟨n,h,hx⟩
end Go.Sx
end
