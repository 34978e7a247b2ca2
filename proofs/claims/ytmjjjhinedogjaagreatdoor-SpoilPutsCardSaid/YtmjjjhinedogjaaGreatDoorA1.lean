/-
  A small symbolic executor for the walk, proved sound in the texts that follow: what it computes is a formula (a Tree); if the formula holds, the code behaves as the contract says. Conditions: none; nothing here speaks of a program.
-/
import Derived.RangeFuncRecord
import Derived.LoopNIn
import Derived.OrdersIn
import Derived.Laws.World
import Derived.Laws.Cells
noncomputable section
namespace Go.Sx
open Go
inductive D where
 | i (n:Int)
 | t (f:Int->Nat->Int)
inductive BO where
 | add | sub | mul | tdiv | tmod | lt | le | eq | ne | and | or | max | min
 | bits (o:Nat) (k:IntKind)
 deriving DecidableEq
inductive BT where
 | nil
 | node (v:List Int) (l r:BT)
 deriving DecidableEq
def BT.get:BT->Nat->Nat->Int
 | .nil,_,_=>0
 | .node v l r,i,c=>match i with
   | 0=>v.getD c 0
   | i+1=>match Nat.beq (i % 2) 0 with
     | true=>l.get (i / 2) c
     | false=>r.get (i / 2) c
def BT.put:List Int->Nat->Int->List Int
 | [],0,x=>[x]
 | [],c+1,x=>0::BT.put [] c x
 | _::l,0,x=>x::l
 | a::l,c+1,x=>a::BT.put l c x
def BT.row:BT->List Int
 | .nil=>[]
 | .node v _ _=>v
def BT.left:BT->BT
 | .nil=>.nil
 | .node _ l _=>l
def BT.right:BT->BT
 | .nil=>.nil
 | .node _ _ r=>r
def BT.set:Nat->BT->Nat->Nat->Int->Option BT
 | 0,_,_,_,_=>none
 | f+1,b,i,c,x=>match i with
   | 0=>some (.node (BT.put b.row c x) b.left b.right)
   | i+1=>match Nat.beq (i % 2) 0 with
     | true=>match BT.set f b.left (i / 2) c x with
       | some l=>some (.node b.row l b.right)
       | none=>none
     | false=>match BT.set f b.right (i / 2) c x with
       | some r=>some (.node b.row b.left r)
       | none=>none
def BT.tab (b:BT) (r:Int) (c:Nat):Int:=match r with
 | .ofNat n=>b.get n c
 | _=>0
inductive E where
 | lit (n:Int)
 | var (i:Nat)
 | bin (o:BO) (a b:E)
 | wrap (k:IntKind) (a:E)
 | zt
 | kt (row:List Int)
 | sel (t r:E) (c:Nat)
 | upd (t r:E) (c:Nat) (v:E)
 | cat (t n u:E)
 /-- A table from row n on. -/
 | sh (t n:E)
 /-- Are two strings (table, length) equal? -/
 | teq (t n u m:E)
 | fn (j:Nat) (a b c d:E)
 /-- A table written out as a tree. -/
 | bt (b:BT)
 deriving DecidableEq
structure Itp where
 fn:Nat->D->D->D->D->Option D
 pr:Nat->List D->Prop
def Fu:Nat->Nat->List UInt8
 | 0,_=>[]
 | f+1,n=>if n=0 then [] else UInt8.ofNat ((n - 1) % 256)::Fu f ((n - 1) / 256)
def Qb:List UInt8->Nat
 | []=>0
 | b::l=>b.toNat+1+256*Qb l
def rJ:Int->Nat
 | .ofNat m=>2*m
 | .negSucc m=>2*m+1
def zig (n:Nat):Int:=if n % 2=0 then .ofNat (n / 2) else .negSucc (n / 2)
def zX (n:Int):List UInt8:=Fu (rJ n) (rJ n)
def K3 (l:List UInt8):Int:=zig (Qb l)
def kG (f:Int->Nat->Int) (g:Int->Nat->Int) (w:Nat):Nat->Nat->Int
 | 0,_=>-1
 | n+1,i=>if (List.range w).all (fun c=>f i c == g 0 c) then i else kG f g w n (i+1)
def D.int:D->Int
 | .i n=>n
 | .t _=>0
def D.tab:D->Int->Nat->Int
 | .t f=>f
 | .i _=>fun _ _=>0
def uF (a:Int):Int:=((zX a).length:Nat)
def qqT (a b:Int):Int:=K3 (zX a++zX b)
def qqR (a i j:Int):Int:=K3 (((zX a).drop i.toNat).take (j.toNat - i.toNat))
def Ru (a i:Int):Int:=((((zX a)[i.toNat]?).getD 0).toNat:Nat)
def OC (a:Int):Int->Nat->Int:=fun i _=>((((zX a)[i.toNat]?).getD 0).toNat:Nat)
def U4 (f:Int->Nat->Int) (n:Int):Int:=K3 ((List.range n.toNat).map fun i:Nat=>UInt8.ofNat (f i 0).toNat)
def VA (f:Int->Nat->Int) (n:Int) (g:Int->Nat->Int) (w:Nat):Int->Nat->Int:=
 if 0<=kG f g w n.toNat 0 then (fun r c=>if r=kG f g w n.toNat 0/\c=w then g 0 w else f r c) else fun r c=>if r=n/\c<=w then g 0 c else f r c
def Rh (a i:Int):Int:=((Utf8.decode ⟨(zX a).toArray⟩ i.toNat).1:Nat)
def Dq (a i:Int):Int:=((Utf8.decode ⟨(zX a).toArray⟩ i.toNat).2:Nat)
def Tf (f:Int->Nat->Int) (k:Int):Int->Nat->Int:=fun r _=>f k (r.toNat+1)
def XD (f:Int->Nat->Int) (k:Int) (t:Int->Nat->Int) (n:Int):Int->Nat->Int:=fun r c=>if r=k then (if c=0 then n else t ((c - 1:Nat):Int) 0) else f r c
def bI:List Int->Nat
 | []=>0
 | x::l=>2 ^ rJ x*(2*bI l+1)
def LY (l:List Int):Int:=(bI l:Nat)
def QU:Nat->Nat->List Int
 | 0,_=>[]
 | f+1,n=>if n=0 then [] else if n % 2=1 then zig 0::QU f (n / 2) else match QU f (n / 2) with
   | []=>[]
   | x::l=>zig (rJ x+1)::l
def gy (n:Int):List Int:=QU n.toNat n.toNat
def llen (a w:Int):Int:=((gy a).length / w.toNat:Nat)
def dY (a i w k:Int):Int:=(gy a).getD (i.toNat*w.toNat+k.toNat) 0
def xG (t:Int->Nat->Int) (n w:Int):Int:=LY ((List.range (n.toNat*w.toNat)).map fun q=>t ((q / w.toNat:Nat):Int) (q % w.toNat))
def gG (a w:Int):Int->Nat->Int:=fun r c=>(gy a).getD (r.toNat*w.toNat+c) 0
def Nc:Int->Nat->Int:=fun r c=>if c<2 then r+1 else 0
def bi:Nat->D->D->D->D->D
 | 0,c,a,b,_=>.i (if c.int≠0 then a.int else b.int)
 | 1,a,_,_,_=>.i (uF a.int)
 | 2,a,b,_,_=>.i (qqT a.int b.int)
 | 3,a,b,c,_=>.i (qqR a.int b.int c.int)
 | 4,a,b,_,_=>.i (Ru a.int b.int)
 | 5,a,b,_,_=>.i (U4 a.tab b.int)
 | 6,a,_,_,_=>.t (OC a.int)
 | 7,c,a,b,_=>.t (if c.int≠0 then a.tab else b.tab)
 | 8,a,b,c,d=>.i (kG a.tab c.tab d.int.toNat b.int.toNat 0)
 | 9,a,b,c,d=>.t (VA a.tab b.int c.tab d.int.toNat)
 | 10,a,b,_,_=>.i (Rh a.int b.int)
 | 11,a,b,_,_=>.i (Dq a.int b.int)
 | 12,a,b,_,_=>.t (Tf a.tab b.int)
 | 13,a,b,c,d=>.t (XD a.tab b.int c.tab d.int)
 | 14,a,w,_,_=>.i (llen a.int w.int)
 | 15,a,i,w,k=>.i (dY a.int i.int w.int k.int)
 | 16,t,n,w,_=>.i (xG t.tab n.int w.int)
 | 17,a,w,_,_=>.t (gG a.int w.int)
 | 18,_,_,_,_=>.t Nc
 | _,_,_,_,_=>.i 0
def MS (j:Nat):Bool:=j == 6 || j == 7 || j == 9 || j == 12 || j == 13 || j == 17 || j == 18
def Itp.ap (I:Itp) (j:Nat) (a b c d:D):Option D:=if 1000<=j then some (bi (j - 1000) a b c d) else I.fn j a b c d
def wR (o:Nat) (k:IntKind) (x y:Int):Int:=
 match o with
 | 0=>k.wrap (BitVec.ofInt k.bits x &&& BitVec.ofInt k.bits y).toNat
 | 1=>k.wrap (BitVec.ofInt k.bits x ||| BitVec.ofInt k.bits y).toNat
 | 2=>k.wrap (BitVec.ofInt k.bits x ^^^ BitVec.ofInt k.bits y).toNat
 | 3=>k.wrap (BitVec.ofInt k.bits x &&& ~~~BitVec.ofInt k.bits y).toNat
 | 4=>k.wrap (x*2 ^ min y.toNat k.bits)
 | 5=>x.fdiv (2 ^ min y.toNat k.bits)
 | _=>k.wrap (x.tdiv y)
def BO.ev:BO->Int->Int->Int
 | .add,a,b=>a+b
 | .sub,a,b=>a - b
 | .mul,a,b=>a*b
 | .tdiv,a,b=>a.tdiv b
 | .tmod,a,b=>a.tmod b
 | .lt,a,b=>if a<b then 1 else 0
 | .le,a,b=>if a<=b then 1 else 0
 | .eq,a,b=>if a=b then 1 else 0
 | .ne,a,b=>if a=b then 0 else 1
 | .and,a,b=>if a≠0/\b≠0 then 1 else 0
 | .or,a,b=>if a≠0\/b≠0 then 1 else 0
 | .max,a,b=>if b > a then b else a
 | .min,a,b=>if b<a then b else a
 | .bits o k,a,b=>wR o k a b
def qd (f:Int->Nat->Int) (r:Int) (c:Nat) (v:Int):Int->Nat->Int:=fun x d=>if x=r/\d=c then v else f x d
def BS (f:Int->Nat->Int) (n:Int) (g:Int->Nat->Int):Int->Nat->Int:=fun x d=>if x<n then f x d else g (x - n) d
def strEq (f:Int->Nat->Int) (n:Int) (g:Int->Nat->Int) (m:Int):Int:=if n=m/\((List.range n.toNat).all fun i=>f i 0 == g i 0)=true then 1 else 0
def E.den (I:Itp) (env:List D):E->Option D
 | .lit n=>some (.i n)
 | .var i=>env[i]?
 | .bin o a b=>match a.den I env,b.den I env with
   | some (.i x),some (.i y)=>some (.i (o.ev x y))
   | _,_=>none
 | .wrap k a=>match a.den I env with
   | some (.i x)=>some (.i (k.wrap x))
   | _=>none
 | .zt=>some (.t fun _ _=>0)
 | .kt row=>some (.t fun _ c=>row.getD c 0)
 | .bt b=>some (.t b.tab)
 | .sel t r c=>match t.den I env,r.den I env with
   | some (.t f),some (.i x)=>some (.i (f x c))
   | _,_=>none
 | .upd t r c v=>match t.den I env,r.den I env,v.den I env with
   | some (.t f),some (.i x),some (.i y)=>some (.t (qd f x c y))
   | _,_,_=>none
 | .cat t n u=>match t.den I env,n.den I env,u.den I env with
   | some (.t f),some (.i x),some (.t g)=>some (.t (BS f x g))
   | _,_,_=>none
 | .sh t n=>match t.den I env,n.den I env with
   | some (.t f),some (.i x)=>some (.t fun r c=>f (r+x) c)
   | _,_=>none
 | .teq t n u m=>match t.den I env,n.den I env,u.den I env,m.den I env with
   | some (.t f),some (.i x),some (.t g),some (.i y)=>some (.i (strEq f x g y))
   | _,_,_,_=>none
 | .fn j a b c d=>match a.den I env,b.den I env,c.den I env,d.den I env with
   | some a,some b,some c,some d=>I.ap j a b c d
   | _,_,_,_=>none
noncomputable def tl {α:Type} (l:List α):List α:=List.rec (motive:=fun _=>List α) [] (fun _ t _=>t) l
noncomputable def nL {α:Type} (l:List α):List α:=
 List.rec (motive:=fun _=>List α) [] (fun _ t _=>tl (tl (tl (tl (tl (tl (tl (tl (tl (tl (tl (tl (tl (tl (tl t)))))))))))))))  l
noncomputable def SG {α:Type} (l:List α) (q:Nat):List α:=Nat.rec (motive:=fun _=>List α) l (fun _ t=>nL t) q
noncomputable def Xf {α:Type} (l:List α) (r:Nat):Option α:=
 List.rec (motive:=fun _=>Option α) none (fun a _ _=>some a) (Nat.rec (motive:=fun _=>List α) l (fun _ t=>tl t) r)
noncomputable def qzV {α:Type} (l:List α) (i:Nat):Option α:=
 Nat.rec (motive:=fun _=>Option α) (Xf l (Nat.mod i 16)) (fun q _=>Xf (nL (SG l q)) (Nat.mod i 16)) (Nat.div i 16)
noncomputable def Si {α:Type} (l:List α) (i:Nat):Option α:=qzV l i
theorem UA {α:Type} (l:List α):tl l=l.drop 1:=by cases l <;> rfl
theorem Px {α:Type} (l:List α):nL l=l.drop 16:=by
 cases l with
 | nil=>rfl
 | cons a t=>
   show tl (tl (tl (tl (tl (tl (tl (tl (tl (tl (tl (tl (tl (tl (tl t))))))))))))))=_;simp only [UA,List.drop_drop,List.drop_succ_cons]
theorem lW {α:Type} (l:List α) (i:Nat):Si l i=l[i]?:=by
 have h1:∀k,(Nat.rec (motive:=fun _=>List α) l (fun _ t=>nL t) k)=l.drop (16*k):=by
   intro k
   induction k with
   | zero=>rfl
   | succ k ih=>
     show nL _=_;rw [ih,Px,List.drop_drop];congr 1
 have h2:∀(m:List α) k,(Nat.rec (motive:=fun _=>List α) m (fun _ t=>tl t) k)=m.drop k:=by
   intro m k
   induction k with
   | zero=>rfl
   | succ k ih=>
     show tl _=_;rw [ih,UA,List.drop_drop]
 have h3:∀m:List α,(List.rec (motive:=fun _=>Option α) none (fun a _ _=>some a) m)=m[0]?:=by
   intro m;cases m <;> rfl
 have h4:∀(m:List α) r,Xf m r=m[r]?:=by
   intro m r;show List.rec (motive:=fun _=>Option α) none (fun a _ _=>some a) (Nat.rec (motive:=fun _=>List α) m (fun _ t=>tl t) r)=_;rw [h3,h2,List.getElem?_drop,Nat.add_zero]
 show Nat.rec (motive:=fun _=>Option α) (Xf l (i % 16)) (fun q _=>Xf (nL (SG l q)) (i % 16)) (i / 16)=_
 have h5:∀n,n=i / 16->Nat.rec (motive:=fun _=>Option α) (Xf l (i % 16)) (fun q _=>Xf (nL (SG l q)) (i % 16)) n=l[i]?:=by
   intro n hn;cases n with
   | zero=>
     show Xf l (i % 16)=_;rw [h4];congr 1;omega
   | succ q=>
     show Xf (nL (SG l q)) (i % 16)=_;have:nL (SG l q)=l.drop (16*(q+1)):=h1 (q+1);rw [h4,this,List.getElem?_drop];congr 1;omega
 exact h5 _ rfl
def E.subst (n:Nat) (σ:List E):E->E
 | .lit x=>.lit x
 | .var i=>bif Nat.ble n i then (Si σ (Nat.sub i n)).getD (.sel (.lit 0) (.lit 0) 0) else .var i
 | .bin o a b=>.bin o (a.subst n σ) (b.subst n σ)
 | .wrap k a=>.wrap k (a.subst n σ)
 | .zt=>.zt
 | .kt row=>.kt row
 | .bt b=>.bt b
 | .sel t r c=>.sel (t.subst n σ) (r.subst n σ) c
 | .upd t r c v=>.upd (t.subst n σ) (r.subst n σ) c (v.subst n σ)
 | .cat t x u=>.cat (t.subst n σ) (x.subst n σ) (u.subst n σ)
 | .sh t x=>.sh (t.subst n σ) (x.subst n σ)
 | .teq t x u y=>.teq (t.subst n σ) (x.subst n σ) (u.subst n σ) (y.subst n σ)
 | .fn j a b c d=>.fn j (a.subst n σ) (b.subst n σ) (c.subst n σ) (d.subst n σ)
theorem E.aN {n:Nat} {σ:List E} {i:Nat}:(E.var i).subst n σ=if i<n then .var i else σ[i - n]?.getD (.sel (.lit 0) (.lit 0) 0):=by
 simp only [E.subst,lW];rcases Nat.lt_or_ge i n with hi | hi
 . have hb:Nat.ble n i=false:=by
     cases hb:Nat.ble n i
     . rfl
     . have:=Nat.le_of_ble_eq_true hb;omega
   rw [hb,if_pos hi,cond_false]
 . rw [Nat.ble_eq_true_of_le hi,if_neg (by omega),cond_true];rfl
def mkBin (o:BO) (a b:E):E:=
 match a,b with
 | .lit x,.lit y=>.lit (o.ev x y)
 | a,b=>.bin o a b
def mkAdd (a b:E):E:=
 match a,b with
 | .lit x,.lit y=>.lit (x+y)
 | .lit 0,b=>b
 | a,.lit 0=>a
 | .bin .add a (.lit x),.lit y=>if x+y=0 then a else .bin .add a (.lit (x+y))
 | a,b=>.bin .add a b
def mkSub (a b:E):E:=
 match a,b with
 | .lit x,.lit y=>.lit (x - y)
 | a,.lit 0=>a
 | .bin .add a (.lit x),.lit y=>if x - y=0 then a else .bin .add a (.lit (x - y))
 | .bin .add a (.lit x),.bin .add b (.lit y)=>if a=b then .lit (x - y) else if a=.bin .add b (.lit y) then .lit x else .bin .sub (.bin .add a (.lit x)) (.bin .add b (.lit y))
 | .bin .add a (.lit x),b=>if a=b then .lit x else .bin .sub (.bin .add a (.lit x)) b
 | a,b=>if a=b then .lit 0 else .bin .sub a b
def mkWrap (k:IntKind) (a:E):E:=
 match a with
 | .lit x=>.lit (k.wrap x)
 | a=>.wrap k a
def kJ:E->E->Nat->E
 | .zt,_,_=>.lit 0
 | .kt row,_,d=>.lit (row.getD d 0)
 | .bt b,q,d=>match q with
   | .lit q=>.lit (b.tab q d)
   | q=>.sel (.bt b) q d
 | .upd t r c v,q,d=>
   if c≠d then kJ t q d else if r=q then v else
     match r,q with
     | .lit _,.lit _=>kJ t q d
     | _,_=>.sel (.upd t r c v) q d
 | .sh t n,q,d=>kJ t (mkAdd q n) d
 | .fn j a b c d,r,k=>if j=1018 then (if k<2 then mkAdd r (.lit 1) else .lit 0) else .sel (.fn j a b c d) r k
 | t,r,c=>.sel t r c
def isLit:E->Option Int
 | .lit n=>some n
 | _=>none
inductive SK where
 | int (k:IntKind)
 | bool
 | str
 deriving DecidableEq
structure Clo where
 f:FuncId
 b:Nat
 s:Nat
 k:Nat
 deriving DecidableEq
inductive CK where
 | int (k:IntKind)
 | bool
 | str
 /-- Lists that are not written any more, of such rows. -/
 | lst (ks:List SK)
 /-- Closures: 0 is none; else less one: which of these, and the row. -/
 | clo (cs:List Clo)
 deriving DecidableEq
inductive AV where
 | any
 | undef
 | bool (e:E)
 | int (k:IntKind) (e:E)
 | wP
 | ptr (b:Nat) (r:E) (s k:Nat)
 | qJ
 | slice (b:Nat) (lo len:E) (s:Nat) (nl:Bool)
 | func (fn:FuncId) (cap:List AV)
 | yld (b:Nat)
 | jY
 | agg (l:List AV)
 | tup (l:List AV)
 /-- An aggregate with a table in it: n rows. -/
 | big (pre:List AV) (ks:List CK) (t:E) (n:Nat) (post:List AV)
 /-- A slice without elements and without room. -/
 | cap0
 /-- A slice without elements. -/
 | empty
 /-- A slice of cells in a block, from number k on. -/
 | asl (b k n s:Nat)
 | yN (fn:FuncId) (first cap:List AV)
 /-- A pointer into a package-level variable. -/
 | bK (g k:Nat)
 /-- A string of known bytes. -/
 | str (l:List UInt8)
 /-- A string: its bytes as a table, its length. -/
 | wE (t n:E)
 /-- A slice without elements and without room, or nil. -/
 | mM
 /-- A map; the nil map. -/
 | mref (b:Nat)
 | gV
 /-- A nil interface. -/
 | xk
 /-- The string that a number stands for. -/
 | sat (e:E)
 /-- An interface: nil where the number is 0. -/
 | ifo (e:E)
 /-- A list that is not written any more, by its number. -/
 | lst (ks:List SK) (e:E)
 /-- A pointer to a box that is not written any more, with what is in it. -/
 | gZ (a:AV)
 /-- A closure, by its number. -/
 | fco (cs:List Clo) (e:E)
 /-- A pointer into a list that is not written any more: to a cell of a row. -/
 | xV (ks:List SK) (e i:E) (k:Nat)
def SK.val:SK->Int->Value
 | .int k,n=>.int k n
 | .bool,n=>.bool (n≠0)
 | .str,n=>.string ⟨(zX n).toArray⟩
def SK.ck:SK->CK
 | .int k=>.int k
 | .bool=>.bool
 | .str=>.str
def CK.plain:CK->Bool
 | .lst _=>false
 | .clo _=>false
 | _=>true
def CK.val:CK->Int->Value
 | .int k,n=>.int k n
 | .bool,n=>.bool (n≠0)
 | .str,n=>.string ⟨(zX n).toArray⟩
 | .lst _,_=>.slice none 0 0
 | .clo _,_=>.nilFunc
def mkStr:E->AV
 | .lit n=>.str (zX n)
 | e=>.sat e
def CK.av:CK->E->AV
 | .int k,e=>.int k e
 | .bool,e=>.bool e
 | .str,e=>mkStr e
 | .lst ks,e=>.lst ks e
 | .clo cs,e=>match e with
   | .lit 0=>.jY
   | e=>.fco cs e
def mkS (j:Nat) (a b c:E):E:=
 match a,b,c with
 | .lit x,.lit y,.lit z=>(match bi j (.i x) (.i y) (.i z) (.i 0) with
   | .i n=>.lit n
   | .t _=>.fn (1000+j) a b c (.lit 0))
 | a,b,c=>.fn (1000+j) a b c (.lit 0)
def dR (a:E):E:=mkS 1 a (.lit 0) (.lit 0)
def AV.code:AV->Option E
 | .sat e=>some e
 | .str l=>some (.lit (K3 l))
 | .wE t n=>some (.fn 1005 t n (.lit 0) (.lit 0))
 | _=>none
inductive Jump where
 | ret
 | exit (id:Nat)
 | goto (l:Nat)
 deriving DecidableEq
def Jump.code:Jump->Code
 | .ret=>.ret
 | .exit id=>.exit id
 | .goto l=>.goto l
inductive Blk where
 | cells (l:List AV) (wr:Bool)
 | rows (ks:List CK) (t len:E) (wr nl:Bool)
 | big (pre:List AV) (ks:List CK) (t:E) (n:Nat) (post:List AV) (wr:Bool)
 | loop (st:LoopState) (pend:Option Jump) (fn ix nt:Nat) (tmps:List (Nat × AV)) (dfr:Nat)
 | dfr (sh:Bool)
 /-- A map's keys and values, in the order of their coming. -/
 | mp (l m:List AV)
 /-- A map of n entries: a row's first w cells are its key (one: a single one, no struct), the next one its value. -/
 | smp (w:Nat) (one:Bool) (ks:List CK) (t n:E)
 /-- A string that is gone through, so far; 1: there is more, 2: there is no more, 0: not known. -/
 | iter (e q:E) (k:Nat)
 /-- A strings.Builder of type t, its text, the block of its bytes. -/
 | bld (t:TypeId) (e:E) (d:Nat)
 /-- A Builder's bytes. -/
 | byt (t:TypeId) (e:E)
 /-- A map from strings to lists, as a table of lists: a row is the key's number; one of them may be a block of its own for now. -/
 | fam (ck:CK) (t:E) (op:Option E)
 /-- Rows of which row h holds these cells. -/
 | ovr (ks:List CK) (t len h:E) (l:List AV) (wr nl:Bool)
def Blk.wr:Blk->Bool
 | .cells _ w=>w
 | .rows _ _ _ w _=>w
 | .big _ _ _ _ _ w=>w
 | .loop ..=>true
 | .dfr _=>true
 | .mp _ _=>true
 | .smp ..=>true
 | .iter ..=>true
 | .bld ..=>true
 | .byt ..=>true
 | .fam ..=>true
 | .ovr _ _ _ _ _ w _=>w
def Blk.wF:Blk->Bool
 | .fam ..=>true
 | _=>false
abbrev Mem:=List (Nat × Blk)
abbrev qO:=List (Nat × AV)
noncomputable def get {α:Type} (l:List (Nat × α)) (t:Nat):Option α:=
 List.rec (motive:=fun _=>Option α) none (fun x _ r=>Bool.rec (motive:=fun _=>Option α) r (some x.2) (Nat.beq x.1 t)) l
theorem get_nil {α:Type} {t:Nat}:get ([]:List (Nat × α)) t=none:=rfl
theorem qQ {α:Type} {k:Nat} {v:α} {l:List (Nat × α)} {t:Nat}:get ((k,v)::l) t=if k=t then some v else get l t:=by
 show Bool.rec (motive:=fun _=>Option α) (get l t) (some v) (Nat.beq k t)=_;cases h:Nat.beq k t with
 | true=>rw [if_pos (Nat.eq_of_beq_eq_true h)]
 | false=>rw [if_neg (Nat.ne_of_beq_eq_false h)]
noncomputable def del {α:Type} (t:Nat) (l:List (Nat × α)):List (Nat × α):=
 List.rec (motive:=fun _=>List (Nat × α)) [] (fun x _ r=>Bool.rec (motive:=fun _=>List (Nat × α)) (x::r) r (Nat.beq x.1 t)) l
theorem Ur {α:Type} {t:Nat}:del t ([]:List (Nat × α))=[]:=rfl
theorem Ta {α:Type} {k:Nat} {v:α} {l:List (Nat × α)} {t:Nat}:del t ((k,v)::l)=if k=t then del t l else (k,v)::del t l:=by
 show Bool.rec (motive:=fun _=>List (Nat × α)) ((k,v)::del t l) (del t l) (Nat.beq k t)=_;cases h:Nat.beq k t with
 | true=>rw [if_pos (Nat.eq_of_beq_eq_true h)]
 | false=>rw [if_neg (Nat.ne_of_beq_eq_false h)]
noncomputable def Te {α:Type} (t:Nat) (l:List (Nat × α)):List (Nat × α):=
 List.rec (motive:=fun _=>List (Nat × α)) [] (fun x l r=>Bool.rec (motive:=fun _=>List (Nat × α)) (x::r) l (Nat.beq x.1 t)) l
theorem Pg {α:Type} {k:Nat} {v:α} {l:List (Nat × α)} {t:Nat}:Te t ((k,v)::l)=if k=t then l else (k,v)::Te t l:=by
 show Bool.rec (motive:=fun _=>List (Nat × α)) ((k,v)::Te t l) l (Nat.beq k t)=_;cases h:Nat.beq k t with
 | true=>rw [if_pos (Nat.eq_of_beq_eq_true h)]
 | false=>rw [if_neg (Nat.ne_of_beq_eq_false h)]
def put {α:Type} (t:Nat) (v:α) (l:List (Nat × α)):List (Nat × α):=(t,v)::Te t l
def vU {α:Type} (t:Nat) (v:α) (l:List (Nat × α)):List (Nat × α):=(t,v)::l
def oZ {α:Type}:List (Nat × α)->List (Nat × α)->List (Nat × α)
 | [],_=>[]
 | (t,_)::l,m=>match get m t with
   | some v=>(t,v)::oZ l m
   | none=>oZ l m
inductive DV where
 | blk (b:Nat)
 | fn (f:FuncId) (first cap:List AV)
structure St where
 tmps:qO
 nt:Nat
 defers:List DV
 mem:Mem
 nv:Nat
 nb:Nat
inductive PE where
 | tt (e:E)
 | ff (e:E)
 | rng (k:IntKind) (e:E)
 | same (a b:E)
 | pr (j:Nat) (l:List E)
 | sort (tab:Bool) (e:E)
 /-- The first n rows of a table are bytes. -/
 | byt (t n:E)
 /-- A column's numbers lie so. -/
 | col (t:E) (c:Nat) (lo hi:Int)
 /-- The first n rows of two tables are equal, in w columns. -/
 | agr (t u n:E) (w:Nat)
 deriving DecidableEq
def qg (I:Itp) (env:List D):List E->Option (List D)
 | []=>some []
 | e::l=>match e.den I env,qg I env l with
   | some d,some ds=>some (d::ds)
   | _,_=>none
def PE.den (I:Itp) (env:List D):PE->Prop
 | .tt e=>∃n,e.den I env=some (.i n)/\n≠0
 | .ff e=>e.den I env=some (.i 0)
 | .rng k e=>∃n,e.den I env=some (.i n)/\k.min<=n/\n<=k.max
 | .same a b=>∃d,a.den I env=some d/\b.den I env=some d
 | .pr j l=>∃ds,qg I env l=some ds/\I.pr j ds
 | .sort true e=>∃f,e.den I env=some (.t f)
 | .sort false e=>∃n,e.den I env=some (.i n)
 | .agr t u n w=>∃f g k,t.den I env=some (.t f)/\u.den I env=some (.t g)/\n.den I env=some (.i k)/\∀(r:Int) (c:Nat),0<=r->r<k->c<w->f r c=g r c
 | .col t c lo hi=>∃f,t.den I env=some (.t f)/\∀r:Int,lo<=f r c/\f r c<=hi
 | .byt t n=>∃f k,t.den I env=some (.t f)/\n.den I env=some (.i k)/\∀i:Nat,(i:Int)<k->0<=f i 0/\f i 0<=255
def rX (n:Nat) (σ:List E):Nat->List E->List E->List E
 | _,_,[]=>[]
 | c,r,.var i::l=>bif Nat.ble n i then (match (bif Nat.beq c (i - n) then r else σ.drop (i - n)) with
   | x::r'=>x::rX n σ (i - n+1) r' l
   | []=>.sel (.lit 0) (.lit 0) 0::rX n σ (i - n+1) [] l) else .var i::rX n σ c r l
 | c,r,e::l=>e.subst n σ::rX n σ c r l
theorem bX {n:Nat} {σ:List E}:∀{l:List E} {c:Nat} {r:List E},r=σ.drop c->rX n σ c r l=l.map (E.subst n σ)
 | [],_,_,_=>rfl
 | e::l,c,r,h=>by
   cases e
   case var i=>
     simp only [rX,List.map_cons,E.aN];rcases Nat.lt_or_ge i n with hi | hi
     . have hb:Nat.ble n i=false:=by
         cases hb:Nat.ble n i
         . rfl
         . have:=Nat.le_of_ble_eq_true hb;omega
       rw [hb,if_pos hi,cond_false,bX h]
     . rw [Nat.ble_eq_true_of_le hi,if_neg (by omega),cond_true]
       have hq:(bif Nat.beq c (i - n) then r else σ.drop (i - n))=σ.drop (i - n):=by
         cases hb:Nat.beq c (i - n)
         . rfl
         . have:=Nat.eq_of_beq_eq_true hb;rw [cond_true,h,this]
       rw [hq];generalize i - n=j;cases hd:σ.drop j with
       | nil=>
         have hj:=List.drop_eq_nil_iff.1 hd;simp only [List.getElem?_eq_none hj,Option.getD_none,bX (List.drop_eq_nil_of_le (show σ.length<=j+1 by omega)).symm]
       | cons x r'=>
         have hj:j<σ.length:=by
           rcases Nat.lt_or_ge j σ.length with h1 | h1
           . exact h1
           . rw [List.drop_eq_nil_of_le h1] at hd;cases hd
         rw [List.drop_eq_getElem_cons hj] at hd;have h1:σ[j]=x:=by cases hd;rfl
         have h2:r'=σ.drop (j+1):=by cases hd;rfl
         simp only [List.getElem?_eq_getElem hj,h1,Option.getD_some,bX h2]
   all_goals simp only [rX,List.map_cons,bX h]
def PE.subst (n:Nat) (σ:List E):PE->PE
 | .tt e=>.tt (e.subst n σ)
 | .ff e=>.ff (e.subst n σ)
 | .rng k e=>.rng k (e.subst n σ)
 | .same a b=>.same (a.subst n σ) (b.subst n σ)
 | .pr j l=>.pr j (rX n σ 0 σ l)
 | .sort b e=>.sort b (e.subst n σ)
 | .byt t m=>.byt (t.subst n σ) (m.subst n σ)
 | .col t c lo hi=>.col (t.subst n σ) c lo hi
 | .agr t u m w=>.agr (t.subst n σ) (u.subst n σ) (m.subst n σ) w
inductive Tree where
 | ok
 | fail (why:Nat)
 | assert (p:PE) (t:Tree)
 | assume (p:PE) (t:Tree)
 | branch (e:E) (t f:Tree)
 | both (a b:Tree)
 | qp (tab:Bool) (t:Tree)
def Tree.vc (I:Itp):Tree->List D->Prop
 | .ok,_=>True
 | .fail _,_=>False
 | .assert p t,env=>p.den I env/\t.vc I env
 | .assume p t,env=>p.den I env->t.vc I env
 | .branch e t f,env=>(∀n,e.den I env=some (.i n)->n≠0->t.vc I env)/\(e.den I env=some (.i 0)->f.vc I env)
 | .both a b,env=>a.vc I env/\b.vc I env
 | .qp true t,env=>∀f,t.vc I (env++[.t f])
 | .qp false t,env=>∀n,t.vc I (env++[.i n])
def assumes:List PE->Tree->Tree
 | [],t=>t
 | p::l,t=>.assume p (assumes l t)
def sN:List Bool->Tree->Tree
 | [],t=>t
 | b::l,t=>.qp b (sN l t)
def E.oL (c:Nat) (lo hi:Int):E->Bool
 | .zt=>decide (lo<=0) && decide (0<=hi)
 | .kt row=>decide (lo<=row.getD c 0) && decide (row.getD c 0<=hi)
 | .upd t (.lit _) d (.lit n)=>(d != c || (decide (lo<=n) && decide (n<=hi))) && t.oL c lo hi
 | _=>false
def JV (p:PE) (t:Tree):Tree:=
 match p with
 | .tt (.lit n)=>if n=0 then .fail 1 else t
 | .ff (.lit n)=>if n=0 then t else .fail 2
 | .rng k (.lit n)=>if k.min<=n/\n<=k.max then t else .fail 3
 | .sort false (.lit _)=>t
 | .sort true .zt=>t
 | .col e c lo hi=>if e.oL c lo hi then t else .assert (.col e c lo hi) t
 | p=>.assert p t
def qI:List PE->Tree->Tree
 | [],t=>t
 | p::l,t=>JV p (qI l t)
def qo (P:Program) (t:TypeId):Option Nat:=(P.info? t).map (·.size)
def wI (P:Program) (t:TypeId):Option Bool:=
 match P.underlying t with
 | some (.struct _) | some (.array _ _)=>some true
 | some _=>some false
 | none=>none
def field? (P:Program) (t:TypeId) (f:Nat):Option Field:=
 match P.underlying t with
 | some (.struct fs)=>fs[f]?
 | _=>none
def ofValue:Value->Option AV
 | .bool b=>some (.bool (.lit (if b then 1 else 0)))
 | .int k n=>some (.int k (.lit n))
 | .pointer none=>some .wP
 | .slice none 0 0=>some .qJ
 | .nilFunc=>some .jY
 | .map none=>some .gV
 | .nilIface=>some .xk
 | .string s=>some (.str s.data.toList)
 | _=>none
def ofValues:List Value->Option (List AV)
 | []=>some []
 | v::l=>match ofValue v,ofValues l with
   | some a,some as=>some (a::as)
   | _,_=>none
def AV.cells:AV->List AV
 | .agg l=>l
 | v=>[v]
def zJ (P:Program) (t:TypeId):Option AV:=
 match (P.info? t).bind (·.zero) with
 | some (.agg cs)=>(ofValues cs.toList).map .agg
 | some v=>ofValue v
 | none=>none
def AV.mW:AV->Bool
 | .big ..=>true
 | _=>false
def AV.isAny:AV->Bool
 | .any=>true
 | _=>false
def evalOp (ts:qO):Operand->Option AV
 | .tmp t=>match get ts t with
   | some v=>if v.isAny then none else some v
   | none=>none
 | .const v=>ofValue v
 | .func f=>some (.func f [])
 | .global g=>some (.bK g 0)
def kindOf:AV->Option CK
 | .int k _=>some (.int k)
 | .bool _=>some .bool
 | .str _=>some .str
 | .wE _ _=>some .str
 | .sat _=>some .str
 | .lst ks _=>some (.lst ks)
 | .fco cs _=>some (.clo cs)
 | _=>none
def jw:List AV->Option (List CK)
 | []=>some []
 | v::l=>match kindOf v,jw l with
   | some k,some ks=>some (k::ks)
   | _,_=>none
def Jq:AV->Option E
 | .int _ e=>some e
 | .bool e=>some e
 | .lst _ e=>some e
 | .fco _ e=>some e
 | v=>v.code
def jS (ks:List CK) (t r:E) (k:Nat):Nat->Option (List AV)
 | 0=>some []
 | n+1=>match ks[k]?,jS ks t r (k+1) n with
   | some c,some l=>some (c.av (kJ t r k)::l)
   | _,_=>none
def kK (r len:E):List PE:=[.tt (mkBin .le (.lit 0) r),.tt (mkBin .lt r len)]
def j5 (ks:List SK) (e:E):E:=.fn 1014 e (.lit ks.length) (.lit 0) (.lit 0)
def bC (ks:List SK) (e i:E) (k:Nat):Nat->Option (List AV)
 | 0=>some []
 | n+1=>match ks[k]?,bC ks e i (k+1) n with
   | some c,some l=>some (c.ck.av (.fn 1015 e i (.lit ks.length) (.lit k))::l)
   | _,_=>none
inductive Loc where
 | cell (post:Bool) (i:Nat)
 | row (r:E) (c:Nat)
def X4 (np w n:Nat) (r:E) (s k:Nat):Option Loc:=
 if w=0 then none else
 match isLit r with
 | some x=>
   if x<0 then none else
   let a:=x.toNat*s+k
   if a<np then some (.cell false a)
   else if a<np+n*w then some (.row (.lit (((a - np) / w:Nat):Int)) ((a - np) % w))
   else some (.cell true (a - np - n*w))
 | none=>if s=w/\np<=k then some (.row (mkAdd r (.lit (((k - np) / w:Nat):Int))) ((k - np) % w)) else none
def jl (l:List AV) (i n:Nat) (ag:Bool):Option AV:=
 if ag then (if i+n<=l.length then some (.agg ((l.drop i).take n)) else none) else l[i]?
def Ph (l:List AV) (s k:Nat) (c:CK):Nat->Option E
 | 0=>some .zt
 | n+1=>match Ph l s k c n,l[n*s+k]? with
   | some t,some v=>match kindOf v,Jq v with
     | some c',some (.lit x)=>if c'=c then some (.upd t (.lit n) 0 (.lit x)) else none
     | _,_=>none
   | _,_=>none
def BH (q:E) (c n m w:Nat):Bool:=match q with
 | .lit x=>x == 0 && c == 0 && n == m*w && decide (1<m)
 | _=>false
def loadAt (M:Mem) (b:Nat) (r:E) (s k n:Nat) (ag:Bool):Option (AV × List PE):=
 match get M b with
 | some (.cells l _)=>
   match isLit r with
   | some x=>
     if x<0 then none else
     let i:=x.toNat*s+k
     if ag then (if i+n<=l.length then some (.agg ((l.drop i).take n),[]) else none)
     else (l[i]?).map fun v=>(v,[])
   | none=>if ag || s == 0 then none else match (l[k]?).bind kindOf with
     | some c=>(Ph l s k c (l.length / s)).map fun t=>(c.av (kJ t r 0),kK r (.lit (l.length / s:Nat)))
     | none=>none
 | some (.rows ks t len _ _)=>
   if s=ks.length then
     if ag then (jS ks t r k n).map fun l=>(.agg l,kK r len)
     else (ks[k]?).map fun c=>(c.av (kJ t r k),kK r len)
   else none
 | some (.big pre ks t m post _)=>match X4 pre.length ks.length m r s k with
   | some (.cell false i)=>(jl pre i n ag).map fun v=>(v,[])
   | some (.cell true i)=>(jl post i n ag).map fun v=>(v,[])
   | some (.row q c)=>if ag then (if BH q c n m ks.length then some (.big [] ks t m [],[]) else (jS ks t q c n).map fun l=>(.agg l,kK q (.lit m))) else (ks[c]?).map fun x=>(x.av (kJ t q c),kK q (.lit m))
   | none=>none
 | some (.ovr ks t len h l _ _)=>if s=ks.length/\l.length=ks.length/\k<ks.length then
     if r=h then (jl l k n ag).map fun v=>(v,kK r len)
     else if ag then (jS ks t r k n).map fun l=>(.agg l,.tt (mkBin .ne r h)::kK r len)
     else (ks[k]?).map fun c=>(c.av (kJ t r k),.tt (mkBin .ne r h)::kK r len)
   else none
 | _=>none
def yR:E->Int->Nat->E->Option E
 | .upd t (.lit y) c w,x,k,v=>if y=x/\c=k then some (.upd t (.lit y) c v) else (yR t x k v).map fun t'=>.upd t' (.lit y) c w
 | .bt b,x,k,v=>match x,v with
   | .ofNat x,.lit y=>(BT.set 64 b x k y).map .bt
   | _,_=>none
 | _,_,_,_=>none
def H9 (t r:E) (k:Nat) (v:E):E:=
 match r with
 | .lit x=>match kJ t (.lit x) k with
   | .lit a=>match v with
     | .lit b=>if a=b then t else (yR t x k v).getD (.upd t (.lit x) k v)
     | v=>(yR t x k v).getD (.upd t (.lit x) k v)
   | _=>(yR t x k v).getD (.upd t (.lit x) k v)
 | r=>.upd t r k v
def yO (ks:List CK) (t r:E) (k:Nat):List AV->Option E
 | []=>some t
 | v::l=>match ks[k]?,kindOf v,Jq v with
   | some c,some c',some e=>if c=c' then yO ks (H9 t r k e) r (k+1) l else none
   | _,_,_=>none
def AV.isZero:AV->Bool
 | .int _ (.lit n)=>n == 0
 | .bool (.lit n)=>n == 0
 | .str l=>l.isEmpty
 | _=>false
def ovl {α:Type}:List α->List α->List α
 | [],_=>[]
 | a::l,[]=>a::l
 | _::l,v::vs=>v::ovl l vs
def yV {α:Type}:List α->Nat->List α->List α
 | [],_,_=>[]
 | a::l,0,vs=>ovl (a::l) vs
 | a::l,i+1,vs=>a::yV l i vs
theorem w9 {α:Type}:∀{l:List α} {i:Nat},yV l i []=l
 | [],_=>rfl
 | _::_,0=>rfl
 | a::l,i+1=>by show a::yV l i []=_;rw [w9]
theorem y8 {α:Type} {v:α} {vs:List α}:∀{l:List α} {i:Nat},yV l i (v::vs)=yV (l.set i v) (i+1) vs
 | [],_=>rfl
 | a::l,0=>by
   show v::ovl l vs=v::yV l 0 vs;cases l <;> rfl
 | a::l,i+1=>by
   show a::yV l i (v::vs)=a::yV (l.set i v) (i+1) vs;rw [y8]
def AV.one:AV->Bool
 | .agg _ | .tup _ | .undef | .any | .big ..=>false
 | _=>true
def storeAt (M:Mem) (b:Nat) (r:E) (s k:Nat) (vs:List AV):Option (Mem × List PE):=
 if !vs.all AV.one then none else
 match get M b with
 | some (.cells l true)=>
   match isLit r with
   | some x=>
     if x<0 then none else
     let i:=x.toNat*s+k
     if i+vs.length<=l.length then some (put b (.cells (yV l i vs) true) M,[]) else none
   | none=>none
 | some (.rows ks t len true nl)=>
   if s=ks.length then (yO ks t r k vs).map fun t'=>(put b (.rows ks t' len true nl) M,kK r len)
   else none
 | some (.big pre ks t m post true)=>match X4 pre.length ks.length m r s k with
   | some (.cell false i)=>if i+vs.length<=pre.length then some (put b (.big (yV pre i vs) ks t m post true) M,[]) else none
   | some (.cell true i)=>if i+vs.length<=post.length then some (put b (.big pre ks t m (yV post i vs) true) M,[]) else none
   | some (.row q c)=>(yO ks t q c vs).map fun t'=>(put b (.big pre ks t' m post true) M,kK q (.lit m))
   | none=>none
 | some (.ovr ks t len h l true nl)=>if s=ks.length/\l.length=ks.length/\k+vs.length<=ks.length then
     if r=h then some (put b (.ovr ks t len h (yV l k vs) true nl) M,kK r len)
     else (yO ks t r k vs).map fun t'=>(put b (.ovr ks t' len h l true nl) M,.tt (mkBin .ne r h)::kK r len)
   else none
 | _=>none
def ZA (i:Nat) (t:E):List UInt8->E
 | []=>t
 | b::l=>ZA (i+1) (.upd t (.lit i) 0 (.lit b.toNat)) l
def YJ (l:List UInt8):E:=ZA 0 .zt l
def AV.au:AV->Option (E × E)
 | .str l=>some (YJ l,.lit l.length)
 | .wE t n=>some (t,n)
 | _=>none
def ZI (t u:E):Nat->E
 | 0=>.lit 1
 | k+1=>mkBin .and (ZI t u k) (mkBin .eq (kJ t (.lit k) 0) (kJ u (.lit k) 0))
def V3 (t n u m:E):E:=
 match n,m with
 | .lit a,.lit b=>if a≠b then .lit 0 else if 0<=a/\a<=16 then ZI t u a.toNat else .teq t (.lit a) u (.lit b)
 | n,m=>.teq t n u m
def LK (t n:E):E:=
 match n with
 | .lit 0=>t
 | n=>.sh t n
def sV (t:E):Nat->Option (List UInt8)
 | 0=>some []
 | k+1=>match sV t k,kJ t (.lit k) 0 with
   | some l,.lit x=>if 0<=x/\x<=255 then some (l++[UInt8.ofNat x.toNat]) else none
   | _,_=>none
def toStr (t n:E):AV × List PE:=
 match n with
 | .lit k=>if 0<=k/\k<=64 then match sV t k.toNat with
     | some l=>(.str l,[])
     | none=>(.wE t (.lit k),[.byt t (.lit k)])
   else (.wE t (.lit k),[.byt t (.lit k)])
 | n=>(.wE t n,[.byt t n])
def AV.Bc:AV->Option (E × E)
 | .sat e=>some (.fn 1006 e (.lit 0) (.lit 0) (.lit 0),dR e)
 | v=>v.au
def o8 (M:Mem) (v:AV):Option (AV × List PE):=
 match v with
 | .qJ | .cap0 | .mM | .empty=>some (.str [],[])
 | .slice b lo n s _=>match get M b with
   | some (.rows ks t len _ _)=>if ks=[.int .u8]/\s=1 then some ((toStr (LK t lo) n).1,.tt (mkBin .le (mkAdd lo n) len)::(toStr (LK t lo) n).2) else none
   | _=>none
 | _=>none
def YK (o:BinOp) (x y:AV):Option (AV × List PE):=
 match x,y with
 | .str l,.str m=>match o with
   | .eql=>some (.bool (.lit (if l=m then 1 else 0)),[])
   | .neq=>some (.bool (.lit (if l=m then 0 else 1)),[])
   | .add=>if l.length+m.length<=1000000 then some (.str (l++m),[]) else none
   | _=>none
 | x,y=>match x.au,y.au with
   | some (t,n),some (u,m)=>match o with
     | .eql=>some (.bool (V3 t n u m),[])
     | .neq=>some (.bool (mkBin .eq (V3 t n u m) (.lit 0)),[])
     | .add=>some (.wE (.cat t n u) (mkAdd n m),[.tt (mkBin .le (mkAdd n m) (.lit 1000000))])
     | _=>none
   | _,_=>none
def Ym (e:E):E:=mkBin .ne e (.lit 0)
def notE (e:E):E:=mkBin .eq e (.lit 0)
def arith (k:IntKind) (e:E):AV × List PE:=
 match e with
 | .lit n=>(.int k (.lit (k.wrap n)),[])
 | e=>if k.signed=true then (.int k e,[.rng k e]) else (.int k (.wrap k e),[])
def bitsOf:BinOp->Option Nat
 | .and=>some 0
 | .or=>some 1
 | .xor=>some 2
 | .andNot=>some 3
 | .shl=>some 4
 | .shr=>some 5
 | .quo=>some 6
 | _=>none
def iq:Option TypeDesc->Bool
 | some (.int _)=>true
 | _=>false
def nR:Option TypeDesc->Bool
 | some .bool=>true
 | _=>false
def dA (P:Program):Nat->List Field->List AV->List AV->Option E
 | _,[],[],[]=>some (.lit 1)
 | o,f::fs,.int k a::l,.int k' b::m=>
   if k=k'/\(f.name == "_")=false/\f.offset=o/\iq (P.underlying f.type)=true then (dA P (o+1) fs l m).map fun e=>mkBin .and (mkBin .eq a b) e else none
 | o,f::fs,.bool a::l,.bool b::m=>
   if (f.name == "_")=false/\f.offset=o/\nR (P.underlying f.type)=true then (dA P (o+1) fs l m).map fun e=>mkBin .and (mkBin .eq (Ym a) (Ym b)) e else none
 | _,_,_,_=>none
def Yz (P:Program) (t:TypeId) (x y:AV):Option E:=
 match x,y with
 | .int k a,.int k' b=>if k=k' then some (mkBin .eq a b) else none
 | .bool a,.bool b=>match P.underlying t with
   | some .bool=>some (mkBin .eq (Ym a) (Ym b))
   | _=>none
 | .wP,.wP=>match P.underlying t with
   | some (.pointer _)=>some (.lit 1)
   | _=>none
 | .ptr ..,.wP=>match P.underlying t with
   | some (.pointer _)=>some (.lit 0)
   | _=>none
 | .wP,.ptr ..=>match P.underlying t with
   | some (.pointer _)=>some (.lit 0)
   | _=>none
 | .yN ..,.jY=>match P.underlying t with
   | some (.func ..)=>some (.lit 0)
   | _=>none
 | .func ..,.jY=>match P.underlying t with
   | some (.func ..)=>some (.lit 0)
   | _=>none
 | .jY,.jY=>match P.underlying t with
   | some (.func ..)=>some (.lit 1)
   | _=>none
 | .fco _ e,.jY=>match P.underlying t with
   | some (.func ..)=>some (mkBin .eq e (.lit 0))
   | _=>none
 | .slice _ _ n _ nl,.qJ=>match P.underlying t with
   | some (.slice _)=>if nl=false then some (.lit 0) else match n with
     | .lit m=>if 0<m then some (.lit 0) else none
     | _=>none
   | _=>none
 | .cap0,.qJ | .empty,.qJ | .asl ..,.qJ=>match P.underlying t with
   | some (.slice _)=>some (.lit 0)
   | _=>none
 | .qJ,.qJ=>match P.underlying t with
   | some (.slice _)=>some (.lit 1)
   | _=>none
 | .agg l,.agg m=>match P.underlying t with
   | some (.struct fs)=>
     if P.stoodInHeld t=false/\P.eqGuardType P.depth t=false then dA P 0 fs.toList l m else none
   | _=>none
 | _,_=>none
def ML (P:Program) (o:BinOp) (t:TypeId) (x y:AV):Option (AV × List PE):=
 match o,x,y with
 | .eql,x,y=>(Yz P t x y).map fun e=>(.bool e,[])
 | .neq,x,y=>(Yz P t x y).map fun e=>(.bool (notE e),[])
 | .add,.int k a,.int k' b=>if k=k' then some (arith k (mkAdd a b)) else none
 | .sub,.int k a,.int k' b=>if k=k' then some (arith k (mkSub a b)) else none
 | .mul,.int k a,.int k' b=>if k=k' then some (arith k (mkBin .mul a b)) else none
 | .rem,.int k a,.int k' (.lit n)=>if k=k'/\n≠0 then some (.int k (mkBin .tmod a (.lit n)),[]) else none
 | .rem,.int k a,.int k' b=>if k=k' then some (.int k (mkBin .tmod a b),[.tt (mkBin .ne b (.lit 0))]) else none
 | .lss,.int k a,.int k' b=>if k=k' then some (.bool (mkBin .lt a b),[]) else none
 | .leq,.int k a,.int k' b=>if k=k' then some (.bool (mkBin .le a b),[]) else none
 | .gtr,.int k a,.int k' b=>if k=k' then some (.bool (mkBin .lt b a),[]) else none
 | .geq,.int k a,.int k' b=>if k=k' then some (.bool (mkBin .le b a),[]) else none
 | o,.int k a,.int k' b=>match bitsOf o with
   | some j=>
     if j<4 then (if k=k' then some (.int k (mkBin (.bits j k) a b),[]) else none)
     else if j<6 then some (.int k (mkBin (.bits j k) a b),[.tt (mkBin .le (.lit 0) b)])
     else if k=k' then some (.int k (mkBin (.bits j k) a b),[.tt (mkBin .ne b (.lit 0))]) else none
   | none=>none
 | _,_,_=>none
def yg (place:Nat->Option (Nat × Nat)) (cells:List AV):List (Nat × AV)->Option (List AV)
 | []=>some cells
 | (i,v)::rest=>
   match place i with
   | none=>none
   | some (off,size)=>
     if v.cells.length≠size\/off+v.cells.length > cells.length then none
     else yg place (yV cells off v.cells) rest
def kC (P:Program):List Field->Option (List (Nat × Nat))
 | []=>some []
 | f::fs=>match qo P f.type,kC P fs with
   | some s,some l=>some ((f.offset,s)::l)
   | _,_=>none
def kr (ts:qO):List (Nat × Operand)->Option (List (Nat × AV))
 | []=>some []
 | (i,x)::l=>match evalOp ts x,kr ts l with
   | some v,some vs=>if v.mW then none else some ((i,v)::vs)
   | _,_=>none
def vP (ts:qO):List Operand->Option (List AV)
 | []=>some []
 | x::l=>match evalOp ts x,vP ts l with
   | some v,some vs=>some (v::vs)
   | _,_=>none
structure Big where
 t:TypeId
 np:Nat
 ks:List CK
 n:Nat
def zw:List CK->List Value->Option (List Value)
 | [],l=>some l
 | .int k::ks,.int k' n::l=>if k=k'/\n=0 then zw ks l else none
 | .bool::ks,.bool b::l=>match b with
   | false=>zw ks l
   | true=>none
 | _::_,_=>none
def rQ (ks:List CK):Nat->List Value->Option (List Value)
 | 0,l=>some l
 | n+1,l=>match zw ks l with
   | some l=>rQ ks n l
   | none=>none
def fI:Nat->List Value->List Value->Option (List Value × List Value)
 | 0,acc,l=>some (acc.reverse,l)
 | n+1,acc,v::l=>fI n (v::acc) l
 | _+1,_,[]=>none
def ak (bg:List Big) (t:TypeId):Option Big:=bg.find? fun b=>b.t == t
def yP (P:Program) (b:Big):Option (List AV × List AV):=
 match (P.info? b.t).bind (·.zero) with
 | some (.agg cs)=>match fI b.np [] cs.toList with
   | some (l,m)=>match rQ b.ks b.n m with
     | some q=>match ofValues l,ofValues q with
       | some l,some q=>some (l,q)
       | _,_=>none
     | none=>none
   | none=>none
 | _=>none
def dO (place:Nat->Option (Nat × Nat)) (m:Nat) (pre post:List AV):List (Nat × AV)->Option (List AV × List AV)
 | []=>some (pre,post)
 | (i,v)::rest=>
   match place i with
   | none=>none
   | some (off,size)=>
     if v.cells.length≠size then none
     else if off+size<=pre.length then dO place m (yV pre off v.cells) post rest
     else if pre.length+m<=off/\off - (pre.length+m)+size<=post.length then dO place m pre (yV post (off - (pre.length+m)) v.cells) rest
     else none
def bU (ts:qO):Option Operand->Option (Option Int)
 | none=>some none
 | some x=>match evalOp ts x with
   | some (.int _ (.lit n))=>some (some n)
   | _=>none
def Zu (P:Program) (el:TypeId) (x:AV) (lo hi mx:Option Int):Option (AV × List PE):=
 match qo P el with
 | none=>none
 | some sz=>match x with
   | .slice b l len s nl=>
     if s≠sz then none else
     let a:=lo.getD 0
     match hi,mx with
     | none,none=>match len with
       | .lit n=>if 0<=a/\a<=n then (if a=0 then some (x,[]) else if a=n then (if nl then none else some (.empty,[])) else some (.slice b (mkAdd l (.lit a)) (.lit (n - a)) s nl,[])) else none
       | _=>if a=0 then some (x,[]) else none
     | some h,none=>
       if 0<=a/\a<=h then
         if a=h/\a≠0 then if nl then none else some (.empty,[.tt (mkBin .le (.lit h) len)])
         else some (.slice b (mkAdd l (.lit a)) (.lit (h - a)) s nl,[.tt (mkBin .le (.lit h) len)])
       else none
     | some h,some m=>
       if 0<=a/\a<=h/\h<=m then
         if m=a then if nl then (if a=0 then some (.mM,[.tt (mkBin .le (.lit m) len)]) else none) else some (.cap0,[.tt (mkBin .le (.lit m) len)])
         else if a=h/\a≠0 then if nl then none else some (.empty,[.tt (mkBin .le (.lit m) len)])
         else some (.slice b (mkAdd l (.lit a)) (.lit (h - a)) s nl,[.tt (mkBin .le (.lit m) len)])
       else none
     | none,some _=>none
   | .qJ=>if lo.getD 0=0/\hi.getD 0=0/\mx.getD 0=0/\(mx.isNone || hi.isSome)=true then some (.qJ,[]) else none
   | .cap0=>if lo.getD 0=0/\hi.getD 0=0/\mx.getD 0=0/\(mx.isNone || hi.isSome)=true then some (.cap0,[]) else none
   | .lst _ _=>if lo.getD 0=0/\hi=some 0/\mx=some 0 then some (.mM,[]) else none
   | .empty=>if lo.getD 0=0/\hi=some 0/\mx=some 0 then some (.cap0,[]) else if lo.getD 0=0/\hi.getD 0=0/\mx=none then some (.empty,[]) else none
   | _=>none
def iR (P:Program) (el:TypeId) (n:Nat) (x:AV) (lo hi mx:Option Int):Option (AV × List PE):=
 match qo P el,x,mx with
 | some sz,.ptr b (.lit 0) _ k,none=>
   let a:=lo.getD 0;let h:=hi.getD n
   if 0<=a/\a<h/\h<=n then some (.asl b (k+a.toNat*sz) (h - a).toNat sz,[]) else none
 | _,_,_=>none
structure Glob where
 g:Nat
 k:CK
 l:List Int
 /-- An interface, nil or not. -/
 ifc:Bool:=false
 /-- The list is all of it. -/
 full:Bool:=false
 /-- Some number. -/
 ity:Bool:=false
def XG (gl:List Glob) (g k:Nat):Option AV:=
 match gl.find? fun x=>x.g == g with
 | some x=>(x.l[k]?).map fun n=>x.k.av (.lit n)
 | none=>none
def ZW (gl:List Glob) (g k n:Nat):Option (List AV):=
 match gl.find? fun x=>x.g == g with
 | some x=>if k+n<=x.l.length then some (((x.l.drop k).take n).map fun m=>x.k.av (.lit m)) else none
 | none=>none
structure Kn where
 p9:List Big:=[]
 globs:List Glob:=[]
 /-- Sums wrap: nothing is asked of them. -/
 wrp:Bool:=false
 /-- Slices of cells whose columns are read as tables. -/
 tab:List TypeId:=[]
 /-- strings.Builder, and bytes. -/
 bld:TypeId × TypeId:=(0,0)
 /-- Structs of a strings.Builder alone. -/
 qxI:List TypeId:=[]
 /-- Arrays of which an unknown element is looked for one by one. -/
 arr:List (TypeId × Nat):=[]
def Kn.SL (kn:Kn) (t:TypeId):Bool:=t == kn.bld.1 || kn.qxI.contains t
def Kn.skips (kn:Kn):Op->Bool
 | .indexAddr t _ _=>kn.tab.contains t
 | _=>false
def jy (P:Program) (kn:Kn) (ts:qO) (M:Mem) (o:Op):Option (AV × List PE):=
 match o with
 | .move x | .assign x=>(evalOp ts x).map fun v=>(v,[])
 | .pick c a b=>match evalOp ts c with
   | some (.bool (.lit n))=>(if n=0 then evalOp ts b else evalOp ts a).map fun v=>(v,[])
   | _=>none
 | .load t a=>match evalOp ts a,wI P t,qo P t with
   | some (.ptr b r s k),some ag,some n=>loadAt M b r s k n ag
   | some (.bK g k),some false,some _=>(XG kn.globs g k).map fun v=>(v,[])
   | some (.bK g k),some true,some n=>(ZW kn.globs g k n).map fun l=>(.agg l,[])
   | some (.gZ a),some false,some _=>some (a,[])
   | some (.xV ks e i k),some true,some n=>(bC ks e i k n).map fun l=>(.agg l,[])
   | some (.xV ks e i k),some false,some _=>(ks[k]?).map fun c=>(c.ck.av (.fn 1015 e i (.lit ks.length) (.lit k)),[])
   | _,_,_=>none
 | .nilCheck x=>match evalOp ts x with
   | some (.ptr b r s k)=>some (.ptr b r s k,[])
   | some (.bK g k)=>some (.bK g k,[])
   | some (.xV ks e i k)=>some (.xV ks e i k,[])
   | _=>none
 | .binOp o t x y _=>match evalOp ts x,evalOp ts y with
   | some v,some u=>ML P o t v u
   | _,_=>none
 | .unOp .not _ x=>match evalOp ts x with
   | some (.bool e)=>some (.bool (notE e),[])
   | _=>none
 | .unOp .xor _ x=>match evalOp ts x with
   | some (.int k e)=>some (.int k (mkBin (.bits 2 k) (.lit (if k.signed then -1 else k.max)) e),[])
   | _=>none
 | .unOp .neg _ x=>match evalOp ts x with
   | some (.int k e)=>some (arith k (mkBin .sub (.lit 0) e))
   | _=>none
 | .convert src dst x=>match evalOp ts x,P.underlying dst,P.underlying src with
   | some (.int _ e),some (.int k),some _=>some (.int k (mkWrap k e),[])
   | _,_,_=>none
 | .makeFunc (.func f) first cap=>match vP ts first.toList,vP ts cap.toList with
   | some [],some l=>some (.func f l,[])
   | some m,some l=>some (.yN f m l,[])
   | _,_=>none
 | .fieldAddr t x f=>match evalOp ts x,field? P t f with
   | some (.ptr b r s k),some fd=>match qo P fd.type with
     | some (_+1)=>some (.ptr b r s (k+fd.offset),[])
     | _=>none
   | some (.xV ks e i k),some fd=>match qo P fd.type with
     | some (_+1)=>some (.xV ks e i (k+fd.offset),[])
     | _=>none
   | _,_=>none
 | .field t x f=>match evalOp ts x,field? P t f with
   | some (.agg l),some fd=>match wI P fd.type,qo P fd.type with
     | some true,some n=>if fd.offset+n<=l.length then some (.agg ((l.drop fd.offset).take n),[]) else none
     | some false,some _=>(l[fd.offset]?).map fun v=>(v,[])
     | _,_=>none
   | _,_=>none
 | .indexAddr t x i=>match evalOp ts x,evalOp ts i,P.underlying t with
   | some (.slice b lo len s _),some (.int _ e),some (.slice el)=>
     if qo P el=some s then some (.ptr b (mkAdd lo e) s 0,kK e len) else none
   | some (.ptr b r s k),some (.int _ (.lit x)),some (.array n el)=>match qo P el with
     | some z=>if 0<=x/\x<n then some (.ptr b r s (k+x.toNat*z),[]) else none
     | none=>none
   | some (.ptr b (.lit 0) _ k),some (.int _ e),some (.array n el)=>match qo P el with
     | some z=>some (.ptr b e z k,kK e (.lit n))
     | none=>none
   | some (.bK g k),some (.int _ (.lit x)),some (.array n el)=>match qo P el with
     | some z=>if 0<=x/\x<n then some (.bK g (k+x.toNat*z),[]) else none
     | none=>none
   | some (.asl b k n s),some (.int _ (.lit x)),some (.slice el)=>
     if qo P el=some s/\0<=x/\x<n then some (.ptr b (.lit 0) 0 (k+x.toNat*s),[]) else none
   | some (.lst ks q),some (.int _ e),some (.slice el)=>
     if qo P el=some ks.length then some (.xV ks q e 0,kK e (j5 ks q)) else none
   | _,_,_=>none
 | .index t x i=>match evalOp ts x,evalOp ts i,P.underlying t with
   | some (.str l),some (.int _ (.lit j)),some .string=>if 0<=j then (l[j.toNat]?).map fun b=>(.int .u8 (.lit b.toNat),[]) else none
   | some (.agg l),some (.int _ (.lit j)),some (.array n el)=>match wI P el,qo P el with
     | some ag,some z=>if 0<=j/\j<n then (jl l (j.toNat*z) z ag).map fun v=>(v,[]) else none
     | _,_=>none
   | some (.big [] ks t' m []),some (.int _ e),some (.array n el)=>match wI P el,qo P el with
     | some true,some z=>if z=ks.length/\n=m then (jS ks t' e 0 z).map fun l=>(.agg l,kK e (.lit m)) else none
     | _,_=>none
   | _,_,_=>none
 | .extract x i=>match evalOp ts x with
   | some (.tup l)=>(l[i]?).map fun v=>(v,[])
   | _=>none
 | .slice t x lo hi mx=>match evalOp ts x,P.underlying t with
   | some v,some (.slice el)=>match v,lo,hi,mx with
     | .slice b l len s nl,none,some h,none=>match evalOp ts h,qo P el with
       | some (.int _ e),some _=>some (.slice b l e s nl,[.tt (mkBin .le (.lit 0) e),.tt (mkBin .le e len)])
       | _,_=>none
     | v,lo,hi,mx=>match bU ts lo,bU ts hi,bU ts mx with
       | some a,some h,some m=>Zu P el v a h m
       | _,_,_=>none
   | some v,some (.array n el)=>match bU ts lo,bU ts hi,bU ts mx with
     | some a,some h,some m=>iR P el n v a h m
     | _,_,_=>none
   | _,_=>none
 | .build t parts=>if (ak kn.p9 t).isSome then
     match ak kn.p9 t,kr ts parts.toList,P.underlying t with
     | some b,some ps,some (.struct fs)=>match yP P b,kC P fs.toList with
       | some (pre,post),some pl=>(dO (fun i=>pl[i]?) (b.n*b.ks.length) pre post ps).map fun (l,m)=>(.big l b.ks .zt b.n m,[])
       | _,_=>none
     | some b,some [],some (.array _ el)=>if (qo P el).isSome then (yP P b).map fun (l,m)=>(.big l b.ks .zt b.n m,[]) else none
     | _,_,_=>none
   else match zJ P t,kr ts parts.toList,P.underlying t with
   | some z,some ps,some (.struct fs)=>match kC P fs.toList with
     | some pl=>(yg (fun i=>pl[i]?) z.cells ps).map fun l=>(.agg l,[])
     | none=>none
   | some z,some ps,some (.array _ el)=>match qo P el with
     | some sz=>(yg (fun i=>some (i*sz,sz)) z.cells ps).map fun l=>(.agg l,[])
     | none=>none
   | _,_,_=>none
 | .call { callee:=.builtin .len,args,argTypes }=>match args.toList,argTypes.toList with
   | [x],[t]=>match evalOp ts x,P.underlying t with
     | some (.slice _ _ len _ _),some (.slice _)=>some (.int .i64 len,[])
     | some .qJ,some (.slice _)=>some (.int .i64 (.lit 0),[])
     | some .cap0,some (.slice _)=>some (.int .i64 (.lit 0),[])
     | some .empty,some (.slice _)=>some (.int .i64 (.lit 0),[])
     | some (.asl _ _ n _),some (.slice _)=>some (.int .i64 (.lit n),[])
     | some (.lst ks q),some (.slice el)=>if qo P el=some ks.length/\ks≠[] then some (.int .i64 (j5 ks q),[]) else none
     | some (.str l),some .string=>some (.int .i64 (.lit l.length),[])
     | _,_=>none
   | _,_=>none
 | .call { callee:=.builtin .cap,args,argTypes }=>match args.toList,argTypes.toList with
   | [x],[t]=>match evalOp ts x,P.underlying t with
     | some .qJ,some (.slice _)=>some (.int .i64 (.lit 0),[])
     | some .cap0,some (.slice _)=>some (.int .i64 (.lit 0),[])
     | _,_=>none
   | _,_=>none
 | .call { callee:=.builtin .min,args,argTypes:=_ }=>match args.toList with
   | [x,y]=>match evalOp ts x,evalOp ts y with
     | some (.int k a),some (.int k' b)=>if k=k' then some (.int k (mkBin .min a b),[]) else none
     | _,_=>none
   | _=>none
 | .call { callee:=.builtin .max,args,argTypes:=_ }=>match args.toList with
   | [x,y]=>match evalOp ts x,evalOp ts y with
     | some (.int k a),some (.int k' b)=>if k=k' then some (.int k (mkBin .max a b),[]) else none
     | _,_=>none
   | _=>none
 | _=>none
def sM (ts:qO):Option Operand->Option (Option E)
 | none=>some none
 | some x=>match evalOp ts x with
   | some (.int _ e)=>some (some e)
   | _=>none
def iM (x:AV) (lo hi:Option E):Option (AV × List PE):=
 match x with
 | .slice b l len s _=>
   let a:=lo.getD (.lit 0);let h:=hi.getD len
   some (.slice b (mkAdd l a) (mkSub h a) s true,[.tt (mkBin .le (.lit 0) a),.tt (mkBin .le a h),.tt (mkBin .le h len)])
 | _=>none
def GN (P:Program) (eq:TypeId->AV->AV->Option E) (l m:List AV):List Field->Option E
 | []=>some (.lit 1)
 | f::fs=>if f.name = "_" then none else match wI P f.type,qo P f.type with
   | some ag,some n=>match jl l f.offset n ag,jl m f.offset n ag with
     | some v,some u=>match eq f.type v u,GN P eq l m fs with
       | some e,some e'=>some (mkBin .and e e')
       | _,_=>none
     | _,_=>none
   | _,_=>none
def GR (eq:AV->AV->Option E) (l m:List AV) (n:Nat) (ag:Bool):Nat->Nat->Option E
 | _,0=>some (.lit 1)
 | i,k+1=>match jl l (i*n) n ag,jl m (i*n) n ag with
   | some v,some u=>match eq v u,GR eq l m n ag (i+1) k with
     | some e,some e'=>some (mkBin .and e e')
     | _,_=>none
   | _,_=>none
def l8 (P:Program):Nat->TypeId->AV->AV->Option E
 | 0,_,_,_=>none
 | d+1,t,v,u=>match P.underlying t with
   | some (.int _)=>match v,u with
     | .int k a,.int k' b=>if k=k' then some (mkBin .eq a b) else none
     | _,_=>none
   | some .bool=>match v,u with
     | .bool a,.bool b=>some (mkBin .eq (Ym a) (Ym b))
     | _,_=>none
   | some .string=>match v,u with
     | .str l,.str m=>some (.lit (if l=m then 1 else 0))
     | v,u=>match v.au,u.au with
       | some (t,n),some (u,m)=>some (V3 t n u m)
       | _,_=>match v.code,u.code with
         | some a,some b=>some (mkBin .eq a b)
         | _,_=>none
   | some (.struct fs)=>match v,u with
     | .agg l,.agg m=>if P.stoodInHeld t=false then GN P (l8 P d) l m fs.toList else none
     | _,_=>none
   | some (.array len el)=>match v,u with
     | .agg l,.agg m=>match wI P el,qo P el with
       | some ag,some n=>GR (l8 P d el) l m n ag 0 len
       | _,_=>none
     | _,_=>none
   | _=>none
def X7 (P:Program) (o:BinOp) (t:TypeId) (v u:AV):Option (AV × List PE):=
 match v,u with
 | .agg l,.agg m=>if P.eqGuardType P.depth t=false then match o,l8 P 20 t (.agg l) (.agg m) with
     | .eql,some e=>some (.bool e,[])
     | .neq,some e=>some (.bool (notE e),[])
     | _,_=>none
   else none
 | _,_=>none
def AV.flat:AV->Bool
 | .str _=>true
 | .int _ (.lit _)=>true
 | _=>false
def mD (P:Program) (l:List AV) (f:Field):Bool:=
 f.name != "_" && (match P.underlying f.type with
   | some .string=>true
   | some (.int _)=>true
   | _=>false) && wI P f.type == some false && qo P f.type == some 1 && decide (f.offset<l.length)
def mK (P:Program) (t:TypeId) (v:AV):Bool:=
 match P.underlying t,v with
 | some .string,.str _=>true
 | some (.int _),.int _ (.lit _)=>true
 | some (.struct fs),.agg l=>l.all AV.flat && fs.toList.all (mD P l)
 | _,_=>false
def AV.FI:AV->AV->Bool
 | .str l,.str m=>l == m
 | .int k (.lit n),.int k' (.lit n')=>k == k' && n == n'
 | _,_=>false
def aR:List AV->List AV->Bool
 | [],[]=>true
 | v::l,u::m=>v.FI u && aR l m
 | _,_=>false
def AV.Ri:AV->AV->Bool
 | .agg l,.agg m=>aR l m
 | v,u=>v.FI u
def wJ (P:Program) (t:TypeId) (k:AV):List AV->Nat->Option (Option Nat)
 | [],_=>some none
 | x::l,i=>match l8 P 20 t k x with
   | some (.lit n)=>if n=0 then wJ P t k l (i+1) else some (some i)
   | _=>none
def mapOf (M:Mem):AV->Option (List AV × List AV)
 | .gV=>some ([],[])
 | .mref b=>match get M b with
   | some (.mp l m)=>some (l,m)
   | _=>none
 | _=>none
def xA (P:Program) (t:TypeId) (k:CK):Bool:=
 match P.underlying t,k with
 | some .string,.str=>true
 | some (.int j),.int j'=>j == j'
 | _,_=>false
def pO (P:Program):Nat->List Field->List CK->Bool
 | _,[],[]=>true
 | o,f::fs,k::ks=>f.name != "_" && xA P f.type k && wI P f.type == some false && qo P f.type == some 1 && f.offset == o && pO P (o+1) fs ks
 | _,_,_=>false
def Xo (P:Program) (t:TypeId) (w:Nat) (one:Bool) (ks:List CK):Bool:=
 decide (ks.length=w+1) && (if one then w == 1 && (match ks with
   | k::_=>xA P t k
   | []=>false) else match P.underlying t with
   | some (.struct fs)=>P.stoodInHeld t == false && pO P 0 fs.toList (ks.take w)
   | _=>false)
def Xa (w:Nat) (one:Bool) (ks:List CK) (k:AV):Option E:=
 match one,k with
 | true,.agg _=>none
 | true,v=>if w=1 then yO ks .zt (.lit 0) 0 [v] else none
 | false,.agg l=>if l.length=w then yO ks .zt (.lit 0) 0 l else none
 | false,_=>none
def BK (P:Program) (t:TypeId) (c:CK):Bool:=
 match zJ P t with
 | some z=>kindOf z == some c && z.isZero
 | none=>false
def Xx (t n u:E) (w:Nat):E:=.fn 1008 t n u (.lit w)
def ZJ (P:Program) (kt et:TypeId) (w:Nat) (one:Bool) (ks:List CK) (t n:E) (k:AV) (ok:Bool):Option (AV × List PE):=
 if Xo P kt w one ks then match Xa w one ks k,ks[w]? with
   | some u,some c=>if BK P et c then
       let i:=Xx t n u w;let is:=mkBin .le (.lit 0) i;let y:=c.av (mkS 0 is (kJ t i w) (.lit 0))
       some (if ok then .tup [y,.bool is] else y,[])
     else none
   | _,_=>none
 else none
def cu (P:Program) (s:St) (kt:TypeId) (b w:Nat) (one:Bool) (ks:List CK) (t n:E) (k v:AV):Option (AV × St × List PE):=
 if Xo P kt w one ks then match Xa w one ks k,ks[w]?,kindOf v,Jq v with
   | some u,some c,some c',some e=>if c=c' then
       let i:=Xx t n u w
       some (.undef,{ s with mem:=put b (.smp w one ks (.fn 1009 t n (H9 u (.lit 0) w e) (.lit w)) (mkS 0 (mkBin .le (.lit 0) i) n (mkAdd n (.lit 1)))) s.mem },[])
     else none
   | _,_,_,_=>none
 else none
def bL (P:Program) (M:Mem) (kt et:TypeId) (v k:AV) (ok:Bool):Option (AV × List PE):=
 if mK P kt k then match mapOf M v with
   | some (l,m)=>match wJ P kt k l 0 with
     | some (some j)=>(m[j]?).map fun y=>(if ok then .tup [y,.bool (.lit 1)] else y,[])
     | some none=>(zJ P et).map fun z=>(if ok then .tup [z,.bool (.lit 0)] else z,[])
     | none=>none
   | none=>none
 else none
def fP (P:Program) (s:St) (kt:TypeId) (b:Nat) (k v:AV):Option (AV × St × List PE):=
 if mK P kt k then match get s.mem b with
   | some (.mp l m)=>match wJ P kt k l 0 with
     | some (some j)=>match l[j]? with
       | some k'=>if k'.Ri k then some (.undef,{ s with mem:=put b (.mp l (m.set j v)) s.mem },[]) else none
       | none=>none
     | some none=>some (.undef,{ s with mem:=put b (.mp (l++[k]) (m++[v])) s.mem },[])
     | none=>none
   | _=>none
 else none
def HV (P:Program) (s:St) (kt et:TypeId) (b:Nat) (ck:CK) (t:E) (k:AV):Option (AV × St × List PE):=
 match P.underlying kt,zJ P et,k.code with
 | some .string,some .qJ,some c=>
   some (.slice s.nb (.lit 0) (kJ t c 0) 1 true,{ s with mem:=(s.nb,.rows [ck] (.fn 1012 t c (.lit 0) (.lit 0)) (kJ t c 0) true true)::put b (.fam ck t (some c)) s.mem,nb:=s.nb+1 },[])
 | _,_,_=>none
def XU (P:Program) (s:St) (kt:TypeId) (b:Nat) (ck:CK) (t c:E) (k v:AV):Option (AV × St × List PE):=
 match P.underlying kt,k.code,v with
 | some .string,some c',.slice d (.lit 0) n 1 _=>match get s.mem d with
   | some (.rows [ck'] u m true _)=>if ck'=ck/\c'=c then some (.undef,{ s with mem:=put b (.fam ck (.fn 1013 t c u n) none) (del d s.mem) },[.tt (mkBin .le n m)]) else none
   | _=>none
 | _,_,_=>none
def Mh (P:Program) (o:BinOp) (t:TypeId) (y:Operand) (v u:AV):Option (AV × List PE):=
 match v,u,y,P.underlying t with
 | .ifo e,.xk,.const _,some (.interface _)=>match o with
   | .eql=>some (.bool (mkBin .eq e (.lit 0)),[])
   | .neq=>some (.bool (mkBin .ne e (.lit 0)),[])
   | _=>none
 | .xk,.xk,.const _,some (.interface _)=>match o with
   | .eql=>some (.bool (.lit 1),[])
   | .neq=>some (.bool (.lit 0),[])
   | _=>none
 | _,_,_,_=>none
def vQ (P:Program) (ts:qO) (M:Mem) (o:Op):Option (AV × List PE):=
 match o with
 | .lookup t x i ok=>match evalOp ts x,evalOp ts i,P.underlying t with
   | some v,some k,some (.map kt et)=>match v with
     | .mref b=>match get M b with
       | some (.smp w one ks t n)=>ZJ P kt et w one ks t n k ok
       | _=>bL P M kt et v k ok
     | v=>bL P M kt et v k ok
   | _,_,_=>none
 | .binOp o t x y _=>match evalOp ts x,evalOp ts y with
   | some v,some u=>match YK o v u with
     | some r=>some r
     | none=>match X7 P o t v u with
       | some r=>some r
       | none=>Mh P o t y v u
   | _,_=>none
 | .convert src dst x=>match evalOp ts x,P.underlying dst,P.underlying src with
   | some v,some .string,some (.slice el)=>match P.underlying el with
     | some (.int .u8)=>o8 M v
     | _=>none
   | _,_,_=>none
 | .index t x i=>match evalOp ts x,evalOp ts i,P.underlying t with
   | some (.wE t n),some (.int _ e),some .string=>some (.int .u8 (kJ t e 0),kK e n)
   | _,_,_=>none
 | .slice t x lo hi none=>match evalOp ts x,P.underlying t,sM ts lo,sM ts hi with
   | some v,some (.slice el),some a,some h=>match v with
     | .slice _ _ _ s _=>if qo P el=some s then iM v a h else none
     | _=>none
   | _,_,_,_=>none
 | .call { callee:=.builtin .len,args,argTypes }=>match args.toList,argTypes.toList with
   | [x],[t]=>match evalOp ts x,P.underlying t with
     | some (.wE _ n),some .string=>some (.int .i64 n,[])
     | some .mM,some (.slice _)=>some (.int .i64 (.lit 0),[])
     | _,_=>none
   | _,_=>none
 | _=>none
def iP (v:AV) (lo hi:Option E):Option (AV × List PE):=
 match v.code with
 | some c=>
   let a:=lo.getD (.lit 0);let h:=hi.getD (dR c)
   some (mkStr (mkS 3 c a h),[.tt (mkBin .le (.lit 0) a),.tt (mkBin .le a h),.tt (mkBin .le h (dR c))])
 | none=>none
def bM (P:Program) (ts:qO) (o:Op):Option (AV × List PE):=
 match o with
 | .binOp o _ x y _=>match (evalOp ts x).bind AV.code,(evalOp ts y).bind AV.code with
   | some a,some b=>match o with
     | .eql=>some (.bool (mkBin .eq a b),[])
     | .neq=>some (.bool (mkBin .ne a b),[])
     | .add=>some (mkStr (mkS 2 a b (.lit 0)),[.tt (mkBin .le (mkAdd (dR a) (dR b)) (.lit 1000000))])
     | _=>none
   | _,_=>none
 | .index t x i=>match (evalOp ts x).bind AV.code,evalOp ts i,P.underlying t with
   | some c,some (.int _ e),some .string=>some (.int .u8 (mkS 4 c e (.lit 0)),kK e (dR c))
   | _,_,_=>none
 | .slice t x lo hi none=>match evalOp ts x,P.underlying t,sM ts lo,sM ts hi with
   | some v,some .string,some a,some h=>iP v a h
   | _,_,_,_=>none
 | .call { callee:=.builtin .len,args,argTypes }=>match args.toList,argTypes.toList with
   | [x],[t]=>match (evalOp ts x).bind AV.code,P.underlying t with
     | some c,some .string=>some (.int .i64 (dR c),[])
     | _,_=>none
   | _,_=>none
 | _=>none
def VG (_P:Program) (_kn:Kn) (ts:qO) (_M:Mem) (x:Operand):Option (AV × List PE):=
 (evalOp ts x).map fun v=>(v,[])
def K8 (_P:Program) (_kn:Kn) (ts:qO) (_M:Mem) (x:Operand):Option (AV × List PE):=
 (evalOp ts x).map fun v=>(v,[])
def VX (_P:Program) (_kn:Kn) (ts:qO) (_M:Mem) (c:Operand) (a:Operand) (b:Operand):Option (AV × List PE):=
 match evalOp ts c with
   | some (.bool (.lit n))=>(if n=0 then evalOp ts b else evalOp ts a).map fun v=>(v,[])
   | _=>none
def VB (P:Program) (kn:Kn) (ts:qO) (M:Mem) (t:TypeId) (a:Operand):Option (AV × List PE):=
 match evalOp ts a,wI P t,qo P t with
   | some (.ptr b r s k),some ag,some n=>loadAt M b r s k n ag
   | some (.bK g k),some false,some _=>(XG kn.globs g k).map fun v=>(v,[])
   | some (.bK g k),some true,some n=>(ZW kn.globs g k n).map fun l=>(.agg l,[])
   | some (.gZ a),some false,some _=>some (a,[])
   | some (.xV ks e i k),some true,some n=>(bC ks e i k n).map fun l=>(.agg l,[])
   | some (.xV ks e i k),some false,some _=>(ks[k]?).map fun c=>(c.ck.av (.fn 1015 e i (.lit ks.length) (.lit k)),[])
   | _,_,_=>none
def Zx (_P:Program) (_kn:Kn) (ts:qO) (_M:Mem) (x:Operand):Option (AV × List PE):=
 match evalOp ts x with
   | some (.ptr b r s k)=>some (.ptr b r s k,[])
   | some (.bK g k)=>some (.bK g k,[])
   | some (.xV ks e i k)=>some (.xV ks e i k,[])
   | _=>none
def Xq (P:Program) (_kn:Kn) (ts:qO) (_M:Mem) (o:BinOp) (t:TypeId) (x:Operand) (y:Operand) (_x4:TypeId):Option (AV × List PE):=
 match evalOp ts x,evalOp ts y with
   | some v,some u=>ML P o t v u
   | _,_=>none
def VY (_P:Program) (_kn:Kn) (ts:qO) (_M:Mem) (a0:UnOp) (a1:TypeId) (a2:Operand):Option (AV × List PE):=
 match a0,a1,a2 with
 | .not,_,x=>match evalOp ts x with
   | some (.bool e)=>some (.bool (notE e),[])
   | _=>none
 | .xor,_,x=>match evalOp ts x with
   | some (.int k e)=>some (.int k (mkBin (.bits 2 k) (.lit (if k.signed then -1 else k.max)) e),[])
   | _=>none
 | .neg,_,x=>match evalOp ts x with
   | some (.int k e)=>some (arith k (mkBin .sub (.lit 0) e))
   | _=>none
 | _,_,_=>none
def Jt (P:Program) (_kn:Kn) (ts:qO) (_M:Mem) (src:TypeId) (dst:TypeId) (x:Operand):Option (AV × List PE):=
 match evalOp ts x,P.underlying dst,P.underlying src with
   | some (.int _ e),some (.int k),some _=>some (.int k (mkWrap k e),[])
   | _,_,_=>none
def Zv (_P:Program) (_kn:Kn) (ts:qO) (_M:Mem) (a0:Fn) (a1:Array Operand) (a2:Array Operand):Option (AV × List PE):=
 match a0,a1,a2 with
 | (.func f),first,cap=>match vP ts first.toList,vP ts cap.toList with
   | some [],some l=>some (.func f l,[])
   | some m,some l=>some (.yN f m l,[])
   | _,_=>none
 | _,_,_=>none
def eY (P:Program) (_kn:Kn) (ts:qO) (_M:Mem) (t:TypeId) (x:Operand) (f:Nat):Option (AV × List PE):=
 match evalOp ts x,field? P t f with
   | some (.ptr b r s k),some fd=>match qo P fd.type with
     | some (_+1)=>some (.ptr b r s (k+fd.offset),[])
     | _=>none
   | some (.xV ks e i k),some fd=>match qo P fd.type with
     | some (_+1)=>some (.xV ks e i (k+fd.offset),[])
     | _=>none
   | _,_=>none
def Y8 (P:Program) (_kn:Kn) (ts:qO) (_M:Mem) (t:TypeId) (x:Operand) (f:Nat):Option (AV × List PE):=
 match evalOp ts x,field? P t f with
   | some (.agg l),some fd=>match wI P fd.type,qo P fd.type with
     | some true,some n=>if fd.offset+n<=l.length then some (.agg ((l.drop fd.offset).take n),[]) else none
     | some false,some _=>(l[fd.offset]?).map fun v=>(v,[])
     | _,_=>none
   | _,_=>none
def eZ (P:Program) (_kn:Kn) (ts:qO) (_M:Mem) (t:TypeId) (x:Operand) (i:Operand):Option (AV × List PE):=
 match evalOp ts x,evalOp ts i,P.underlying t with
   | some (.slice b lo len s _),some (.int _ e),some (.slice el)=>
     if qo P el=some s then some (.ptr b (mkAdd lo e) s 0,kK e len) else none
   | some (.ptr b r s k),some (.int _ (.lit x)),some (.array n el)=>match qo P el with
     | some z=>if 0<=x/\x<n then some (.ptr b r s (k+x.toNat*z),[]) else none
     | none=>none
   | some (.ptr b (.lit 0) _ k),some (.int _ e),some (.array n el)=>match qo P el with
     | some z=>some (.ptr b e z k,kK e (.lit n))
     | none=>none
   | some (.bK g k),some (.int _ (.lit x)),some (.array n el)=>match qo P el with
     | some z=>if 0<=x/\x<n then some (.bK g (k+x.toNat*z),[]) else none
     | none=>none
   | some (.asl b k n s),some (.int _ (.lit x)),some (.slice el)=>
     if qo P el=some s/\0<=x/\x<n then some (.ptr b (.lit 0) 0 (k+x.toNat*s),[]) else none
   | some (.lst ks q),some (.int _ e),some (.slice el)=>
     if qo P el=some ks.length then some (.xV ks q e 0,kK e (j5 ks q)) else none
   | _,_,_=>none
def Y7 (P:Program) (_kn:Kn) (ts:qO) (_M:Mem) (t:TypeId) (x:Operand) (i:Operand):Option (AV × List PE):=
 match evalOp ts x,evalOp ts i,P.underlying t with
   | some (.str l),some (.int _ (.lit j)),some .string=>if 0<=j then (l[j.toNat]?).map fun b=>(.int .u8 (.lit b.toNat),[]) else none
   | some (.agg l),some (.int _ (.lit j)),some (.array n el)=>match wI P el,qo P el with
     | some ag,some z=>if 0<=j/\j<n then (jl l (j.toNat*z) z ag).map fun v=>(v,[]) else none
     | _,_=>none
   | some (.big [] ks t' m []),some (.int _ e),some (.array n el)=>match wI P el,qo P el with
     | some true,some z=>if z=ks.length/\n=m then (jS ks t' e 0 z).map fun l=>(.agg l,kK e (.lit m)) else none
     | _,_=>none
   | _,_,_=>none
def Js (_P:Program) (_kn:Kn) (ts:qO) (_M:Mem) (x:Operand) (i:Nat):Option (AV × List PE):=
 match evalOp ts x with
   | some (.tup l)=>(l[i]?).map fun v=>(v,[])
   | _=>none
def Y6 (P:Program) (_kn:Kn) (ts:qO) (_M:Mem) (t:TypeId) (x:Operand) (lo:Option Operand) (hi:Option Operand) (mx:Option Operand):Option (AV × List PE):=
 match evalOp ts x,P.underlying t with
   | some v,some (.slice el)=>match v,lo,hi,mx with
     | .slice b l len s nl,none,some h,none=>match evalOp ts h,qo P el with
       | some (.int _ e),some _=>some (.slice b l e s nl,[.tt (mkBin .le (.lit 0) e),.tt (mkBin .le e len)])
       | _,_=>none
     | v,lo,hi,mx=>match bU ts lo,bU ts hi,bU ts mx with
       | some a,some h,some m=>Zu P el v a h m
       | _,_,_=>none
   | some v,some (.array n el)=>match bU ts lo,bU ts hi,bU ts mx with
     | some a,some h,some m=>iR P el n v a h m
     | _,_,_=>none
   | _,_=>none
def Y9 (P:Program) (kn:Kn) (ts:qO) (_M:Mem) (t:TypeId) (parts:Array (Nat × Operand)):Option (AV × List PE):=
 if (ak kn.p9 t).isSome then
     match ak kn.p9 t,kr ts parts.toList,P.underlying t with
     | some b,some ps,some (.struct fs)=>match yP P b,kC P fs.toList with
       | some (pre,post),some pl=>(dO (fun i=>pl[i]?) (b.n*b.ks.length) pre post ps).map fun (l,m)=>(.big l b.ks .zt b.n m,[])
       | _,_=>none
     | some b,some [],some (.array _ el)=>if (qo P el).isSome then (yP P b).map fun (l,m)=>(.big l b.ks .zt b.n m,[]) else none
     | _,_,_=>none
   else match zJ P t,kr ts parts.toList,P.underlying t with
   | some z,some ps,some (.struct fs)=>match kC P fs.toList with
     | some pl=>(yg (fun i=>pl[i]?) z.cells ps).map fun l=>(.agg l,[])
     | none=>none
   | some z,some ps,some (.array _ el)=>match qo P el with
     | some sz=>(yg (fun i=>some (i*sz,sz)) z.cells ps).map fun l=>(.agg l,[])
     | none=>none
   | _,_,_=>none
def VD (P:Program) (_kn:Kn) (ts:qO) (_M:Mem) (a0:Call):Option (AV × List PE):=
 match a0 with
 | { callee:=.builtin .len,args,argTypes }=>match args.toList,argTypes.toList with
   | [x],[t]=>match evalOp ts x,P.underlying t with
     | some (.slice _ _ len _ _),some (.slice _)=>some (.int .i64 len,[])
     | some .qJ,some (.slice _)=>some (.int .i64 (.lit 0),[])
     | some .cap0,some (.slice _)=>some (.int .i64 (.lit 0),[])
     | some .empty,some (.slice _)=>some (.int .i64 (.lit 0),[])
     | some (.asl _ _ n _),some (.slice _)=>some (.int .i64 (.lit n),[])
     | some (.lst ks q),some (.slice el)=>if qo P el=some ks.length/\ks≠[] then some (.int .i64 (j5 ks q),[]) else none
     | some (.str l),some .string=>some (.int .i64 (.lit l.length),[])
     | _,_=>none
   | _,_=>none
 | { callee:=.builtin .cap,args,argTypes }=>match args.toList,argTypes.toList with
   | [x],[t]=>match evalOp ts x,P.underlying t with
     | some .qJ,some (.slice _)=>some (.int .i64 (.lit 0),[])
     | some .cap0,some (.slice _)=>some (.int .i64 (.lit 0),[])
     | _,_=>none
   | _,_=>none
 | { callee:=.builtin .min,args,argTypes:=_ }=>match args.toList with
   | [x,y]=>match evalOp ts x,evalOp ts y with
     | some (.int k a),some (.int k' b)=>if k=k' then some (.int k (mkBin .min a b),[]) else none
     | _,_=>none
   | _=>none
 | { callee:=.builtin .max,args,argTypes:=_ }=>match args.toList with
   | [x,y]=>match evalOp ts x,evalOp ts y with
     | some (.int k a),some (.int k' b)=>if k=k' then some (.int k (mkBin .max a b),[]) else none
     | _,_=>none
   | _=>none
 | _=>none
def Hz (P:Program) (kn:Kn) (ts:qO) (M:Mem) (o:Op):Option (AV × List PE):=
 match o with
 | .move x=>VG P kn ts M x
 | .assign x=>K8 P kn ts M x
 | .pick c a b=>VX P kn ts M c a b
 | .load t a=>VB P kn ts M t a
 | .nilCheck x=>Zx P kn ts M x
 | .binOp o t x y x4=>Xq P kn ts M o t x y x4
 | .unOp a0 a1 a2=>VY P kn ts M a0 a1 a2
 | .convert src dst x=>Jt P kn ts M src dst x
 | .makeFunc a0 a1 a2=>Zv P kn ts M a0 a1 a2
 | .fieldAddr t x f=>eY P kn ts M t x f
 | .field t x f=>Y8 P kn ts M t x f
 | .indexAddr t x i=>eZ P kn ts M t x i
 | .index t x i=>Y7 P kn ts M t x i
 | .extract x i=>Js P kn ts M x i
 | .slice t x lo hi mx=>Y6 P kn ts M t x lo hi mx
 | .build t parts=>Y9 P kn ts M t parts
 | .call a0=>VD P kn ts M a0
 | _=>none
theorem Jc (P:Program) (kn:Kn) (ts:qO) (M:Mem) (o:Op):Hz P kn ts M o=jy P kn ts M o:=by
 cases o with
 | move=>rfl
 | assign=>rfl
 | pick=>rfl
 | load=>rfl
 | nilCheck=>rfl
 | binOp=>rfl
 | unOp o t x=>cases o <;> rfl
 | convert=>rfl
 | makeFunc f a b=>cases f <;> rfl
 | fieldAddr=>rfl
 | field=>rfl
 | indexAddr=>rfl
 | index=>rfl
 | extract=>rfl
 | slice=>rfl
 | build=>rfl
 | call c=>
   obtain ⟨f,l,m⟩:=c;cases f with
   | builtin b=>cases b <;> rfl
   | _=>rfl
 | _=>rfl
def K7 (P:Program) (ts:qO) (M:Mem) (t:TypeId) (x:Operand) (i:Operand) (ok:Bool):Option (AV × List PE):=
 match evalOp ts x,evalOp ts i,P.underlying t with
   | some v,some k,some (.map kt et)=>match v with
     | .mref b=>match get M b with
       | some (.smp w one ks t n)=>ZJ P kt et w one ks t n k ok
       | _=>bL P M kt et v k ok
     | v=>bL P M kt et v k ok
   | _,_,_=>none
def Y4 (P:Program) (ts:qO) (_M:Mem) (o:BinOp) (t:TypeId) (x:Operand) (y:Operand) (_x4:TypeId):Option (AV × List PE):=
 match evalOp ts x,evalOp ts y with
   | some v,some u=>match YK o v u with
     | some r=>some r
     | none=>match X7 P o t v u with
       | some r=>some r
       | none=>Mh P o t y v u
   | _,_=>none
def Jp (P:Program) (ts:qO) (M:Mem) (src:TypeId) (dst:TypeId) (x:Operand):Option (AV × List PE):=
 match evalOp ts x,P.underlying dst,P.underlying src with
   | some v,some .string,some (.slice el)=>match P.underlying el with
     | some (.int .u8)=>o8 M v
     | _=>none
   | _,_,_=>none
def Y3 (P:Program) (ts:qO) (_M:Mem) (t:TypeId) (x:Operand) (i:Operand):Option (AV × List PE):=
 match evalOp ts x,evalOp ts i,P.underlying t with
   | some (.wE t n),some (.int _ e),some .string=>some (.int .u8 (kJ t e 0),kK e n)
   | _,_,_=>none
def Y2 (P:Program) (ts:qO) (_M:Mem) (a0:TypeId) (a1:Operand) (a2:Option Operand) (a3:Option Operand) (a4:Option Operand):Option (AV × List PE):=
 match a0,a1,a2,a3,a4 with
 | t,x,lo,hi,none=>match evalOp ts x,P.underlying t,sM ts lo,sM ts hi with
   | some v,some (.slice el),some a,some h=>match v with
     | .slice _ _ _ s _=>if qo P el=some s then iM v a h else none
     | _=>none
   | _,_,_,_=>none
 | _,_,_,_,_=>none
def VW (P:Program) (ts:qO) (_M:Mem) (a0:Call):Option (AV × List PE):=
 match a0 with
 | { callee:=.builtin .len,args,argTypes }=>match args.toList,argTypes.toList with
   | [x],[t]=>match evalOp ts x,P.underlying t with
     | some (.wE _ n),some .string=>some (.int .i64 n,[])
     | some .mM,some (.slice _)=>some (.int .i64 (.lit 0),[])
     | _,_=>none
   | _,_=>none
 | _=>none
def Hq (P:Program) (ts:qO) (M:Mem) (o:Op):Option (AV × List PE):=
 match o with
 | .lookup t x i ok=>K7 P ts M t x i ok
 | .binOp o t x y x4=>Y4 P ts M o t x y x4
 | .convert src dst x=>Jp P ts M src dst x
 | .index t x i=>Y3 P ts M t x i
 | .slice a0 a1 a2 a3 a4=>Y2 P ts M a0 a1 a2 a3 a4
 | .call a0=>VW P ts M a0
 | _=>none
theorem Jr (P:Program) (ts:qO) (M:Mem) (o:Op):Hq P ts M o=vQ P ts M o:=by
 cases o with
 | lookup=>rfl
 | binOp=>rfl
 | convert=>rfl
 | index=>rfl
 | slice t x a b m=>cases m <;> rfl
 | call c=>
   obtain ⟨f,l,m⟩:=c;cases f with
   | builtin b=>cases b <;> rfl
   | _=>rfl
 | _=>rfl
def Y0 (_P:Program) (ts:qO) (o:BinOp) (_x1:TypeId) (x:Operand) (y:Operand) (_x4:TypeId):Option (AV × List PE):=
 match (evalOp ts x).bind AV.code,(evalOp ts y).bind AV.code with
   | some a,some b=>match o with
     | .eql=>some (.bool (mkBin .eq a b),[])
     | .neq=>some (.bool (mkBin .ne a b),[])
     | .add=>some (mkStr (mkS 2 a b (.lit 0)),[.tt (mkBin .le (mkAdd (dR a) (dR b)) (.lit 1000000))])
     | _=>none
   | _,_=>none
def YE (P:Program) (ts:qO) (t:TypeId) (x:Operand) (i:Operand):Option (AV × List PE):=
 match (evalOp ts x).bind AV.code,evalOp ts i,P.underlying t with
   | some c,some (.int _ e),some .string=>some (.int .u8 (mkS 4 c e (.lit 0)),kK e (dR c))
   | _,_,_=>none
def YA (P:Program) (ts:qO) (a0:TypeId) (a1:Operand) (a2:Option Operand) (a3:Option Operand) (a4:Option Operand):Option (AV × List PE):=
 match a0,a1,a2,a3,a4 with
 | t,x,lo,hi,none=>match evalOp ts x,P.underlying t,sM ts lo,sM ts hi with
   | some v,some .string,some a,some h=>iP v a h
   | _,_,_,_=>none
 | _,_,_,_,_=>none
def VK (P:Program) (ts:qO) (a0:Call):Option (AV × List PE):=
 match a0 with
 | { callee:=.builtin .len,args,argTypes }=>match args.toList,argTypes.toList with
   | [x],[t]=>match (evalOp ts x).bind AV.code,P.underlying t with
     | some c,some .string=>some (.int .i64 (dR c),[])
     | _,_=>none
   | _,_=>none
 | _=>none
def F9 (P:Program) (ts:qO) (o:Op):Option (AV × List PE):=
 match o with
 | .binOp o x1 x y x4=>Y0 P ts o x1 x y x4
 | .index t x i=>YE P ts t x i
 | .slice a0 a1 a2 a3 a4=>YA P ts a0 a1 a2 a3 a4
 | .call a0=>VK P ts a0
 | _=>none
theorem Jm (P:Program) (ts:qO) (o:Op):F9 P ts o=bM P ts o:=by
 cases o with
 | binOp=>rfl
 | index=>rfl
 | slice t x a b m=>cases m <;> rfl
 | call c=>
   obtain ⟨f,l,m⟩:=c;cases f with
   | builtin b=>cases b <;> rfl
   | _=>rfl
 | _=>rfl
def sw (ts:qO) (o:Op):Option (AV × List PE):=
 match o with
 | .binOp .add _ x y _=>match evalOp ts x,evalOp ts y with
   | some (.int k a),some (.int k' b)=>if k=k' then some (.int k (mkWrap k (mkAdd a b)),[]) else none
   | _,_=>none
 | .binOp .sub _ x y _=>match evalOp ts x,evalOp ts y with
   | some (.int k a),some (.int k' b)=>if k=k' then some (.int k (mkWrap k (mkSub a b)),[]) else none
   | _,_=>none
 | .binOp .mul _ x y _=>match evalOp ts x,evalOp ts y with
   | some (.int k a),some (.int k' b)=>if k=k' then some (.int k (mkWrap k (mkBin .mul a b)),[]) else none
   | _,_=>none
 | _=>none
def quiet (P:Program) (kn:Kn) (ts:qO) (M:Mem) (o:Op):Option (AV × List PE):=
 match (if kn.wrp then sw ts o else none) with
 | some r=>some r
 | none=>match Hz P kn ts M o with
 | some r=>some r
 | none=>match Hq P ts M o with
   | some r=>some r
   | none=>F9 P ts o
def rowsOf (ks:List CK) (n:Nat) (vs:List AV):Option E:=
 match n with
 | 0=>if vs.isEmpty then some .zt else none
 | m+1=>match rowsOf ks m (vs.take (m*ks.length)) with
   | some t=>yO ks t (.lit m) 0 (vs.drop (m*ks.length))
   | none=>none
def zm (s:St) (b:Blk):St:={ s with mem:=(s.nb,b)::s.mem,nb:=s.nb+1 }
def vC (zs:List AV) (n:Nat) (vs:List AV):Blk:=
 match jw zs with
 | some ks=>if ks.isEmpty then .cells vs true else match rowsOf ks n vs with
   | some t=>.rows ks t (.lit n) true false
   | none=>.cells vs true
 | none=>.cells vs true
def rA (n:Nat) (zs:List AV):List AV:=
 match n with
 | 0=>[]
 | n+1=>zs++rA n zs
def E.Nw:E->Option BT
 | .zt=>some .nil
 | .upd t (.lit (.ofNat x)) c (.lit y)=>match t.Nw with
   | some b=>BT.set 64 b x c y
   | none=>none
 | _=>none
def Rq (t r:E):E:=match r with
 | .lit (.ofNat 16)=>match t.Nw with
   | some b=>.bt b
   | none=>t
 | _=>t
def lU (ks:List CK) (t n u:E) (lo:Int):Nat->Nat->Option E
 | _,0=>some t
 | i,m+1=>match jS ks u (.lit (lo+i)) 0 ks.length with
   | some vs=>match yO ks (Rq t (mkAdd n (.lit i))) (mkAdd n (.lit i)) 0 vs with
     | some t'=>lU ks t' n u lo (i+1) m
     | none=>none
   | none=>none
def Zt (M:Mem) (sz:Nat) (ks:List CK) (y:AV):Option (E × Int × E × List PE):=
 match y with
 | .qJ | .cap0 | .mM | .empty=>some (.zt,0,.lit 0,[])
 | .lst ks2 e=>if ks=ks2.map SK.ck/\sz=ks2.length/\ks2≠[] then some (.fn 1017 e (.lit ks2.length) (.lit 0) (.lit 0),0,j5 ks2 e,[]) else none
 | .slice b (.lit lo) m s2 _=>match get M b with
   | some (.rows ks2 u m2 _ _)=>
     if ks=ks2/\s2=sz then (if lo=0 then some (u,0,m,if m=m2 then [] else [.tt (mkBin .le m m2)])
       else match m with
         | .lit mm=>if 0<=lo/\0<=mm then some (u,lo,m,[.tt (mkBin .le (.lit (lo+mm)) m2)]) else none
         | m=>some (.sh u (.lit lo),0,m,[.tt (mkBin .le (mkAdd (.lit lo) m) m2)])) else none
   | _=>none
 | .slice b lo m s2 _=>match get M b with
   | some (.rows ks2 u m2 _ _)=>if ks=ks2/\s2=sz then some (.sh u lo,0,m,[.tt (mkBin .le (mkAdd lo m) m2)]) else none
   | _=>none
 | _=>none
def AV.other (b:Nat):AV->Bool
 | .slice b2 _ _ _ _=>b != b2
 | .asl b2 _ _ _=>b != b2
 | _=>true
def XR (M:Mem) (sz:Nat) (ks:List CK) (x y:AV):Option (Option Nat × E × E × Bool × List PE):=
 match x with
 | .qJ | .cap0 | .mM=>some (none,.zt,.lit 0,true,[])
 | .slice b (.lit 0) n s1 nl=>match get M b with
   | some (.rows ks1 t n1 true _)=>
     if ks=ks1/\s1=sz/\y.other b=true then some (some b,t,n,nl,if n=n1 then [] else [.tt (mkBin .le n n1)]) else none
   | _=>none
 | _=>none
def Kz (ks:List CK) (t n u:E) (lo:Int) (m:E):Option E:=
 match n,m with
 | .lit 0,.lit mm=>if lo=0 then some u else if 0<=mm/\mm<=100 then lU ks .zt (.lit 0) u lo 0 mm.toNat else none
 | .lit 0,_=>if lo=0 then some u else none
 | n,.lit mm=>if 0<=mm/\mm<=8 then lU ks t n u lo 0 mm.toNat else none
 | n,_=>if lo=0 then some (.cat t n u) else none
def jD (nl:Bool):E->Bool
 | .lit mm=>nl && decide (mm<=0)
 | _=>nl
def wL (b:Option Nat) (M:Mem):Mem:=
 match b with
 | some b=>del b M
 | none=>M
def RQ (M:Mem):AV->Option (List CK)
 | .slice b _ _ _ _=>match get M b with
   | some (.rows ks _ _ _ _)=>some ks
   | _=>none
 | _=>none
def qjP (M:Mem) (zs:List AV) (x y:AV):Option (List CK):=
 match jw zs with
 | some ks=>some ks
 | none=>match RQ M y with
   | some ks=>some ks
   | none=>RQ M x
def mU (P:Program) (s:St) (el:TypeId) (x y:AV):Option (AV × St × List PE):=
 match zJ P el,qo P el,(P.info? el).map (·.bytes) with
 | some z,some sz,some bytes=>match qjP s.mem z.cells x y with
   | some ks=>
     if sz=ks.length/\ks.length≠0/\bytes<=1000/\bytes≠0/\z.cells.length=sz then
       match Zt s.mem sz ks y,XR s.mem sz ks x y with
       | some (u,lo,m,p1),some (b,t,n,nl,p2)=>match Kz ks t n u lo m with
         | some t'=>
           let nl':=jD nl m
           some (.slice s.nb (.lit 0) (mkAdd n m) sz nl',
             { s with mem:=(s.nb,.rows ks t' (mkAdd n m) true nl')::wL b s.mem,nb:=s.nb+1 },
             p1++p2++[.tt (mkBin .le (mkAdd n m) (.lit 1000000))])
         | none=>none
       | _,_=>none
     else none
   | none=>none
 | _,_,_=>none
def Z0 (M:Mem) (sz:Nat) (y:AV):Option (List AV):=
 match y with
 | .qJ | .cap0 | .empty=>some []
 | .slice b (.lit lo) (.lit m) s _=>match get M b with
   | some (.cells l _)=>if s=sz/\0<=lo/\0<=m/\(lo+m).toNat*sz<=l.length then some ((l.drop (lo.toNat*sz)).take (m.toNat*sz)) else none
   | _=>none
 | .asl b k n s=>match get M b with
   | some (.cells l _)=>if s=sz/\k+n*sz<=l.length then some ((l.drop k).take (n*sz)) else none
   | _=>none
 | _=>none
def KZ (M:Mem) (sz:Nat) (x y:AV):Option (Option Nat × List AV × Nat):=
 match x with
 | .qJ | .cap0=>some (none,[],0)
 | .slice b (.lit 0) (.lit n) s _=>match get M b with
   | some (.cells l true)=>if s=sz/\0<=n/\n.toNat*sz<=l.length/\y.other b=true then some (some b,l.take (n.toNat*sz),n.toNat) else none
   | _=>none
 | _=>none
def fK (P:Program) (s:St) (el:TypeId) (x y:AV):Option (AV × St × List PE):=
 match zJ P el,qo P el,(P.info? el).map (·.bytes) with
 | some z,some sz,some bytes=>
   if bytes<=10000/\bytes≠0/\sz≠0/\z.cells.length=sz then match Z0 s.mem sz y,KZ s.mem sz x y with
     | some u,some (b,l,n)=>
       if u.isEmpty then some (x,s,[])
       else if n+u.length / sz<=1000/\u.all AV.one=true then
         some (.slice s.nb (.lit 0) (.lit ((n+u.length / sz:Nat):Int)) sz false,{ s with mem:=(s.nb,.cells (l++u) true)::wL b s.mem,nb:=s.nb+1 },[])
       else none
     | _,_=>none
   else none
 | _,_,_=>none
def gJ (P:Program) (s:St) (el:TypeId) (x:AV) (e:E):Option (AV × St × List PE):=
 match x with
 | .qJ | .cap0=>match zJ P el,qo P el,(P.info? el).map (·.bytes) with
   | some z,some sz,some bytes=>match jw z.cells with
     | some ks=>
       if sz=ks.length/\ks.length≠0/\bytes<=1000/\bytes≠0/\z.cells.all AV.isZero then
         some (.slice s.nb (.lit 0) e sz (jD true e),{ s with mem:=(s.nb,.rows ks .zt e true (jD true e))::s.mem,nb:=s.nb+1 },
           [.tt (mkBin .le (.lit 0) e),.tt (mkBin .le e (.lit 1000000))])
       else none
     | none=>none
   | _,_,_=>none
 | _=>none
def yU (P:Program) (s:St) (el:TypeId) (x:AV) (e:E):Option (AV × St × List PE):=
 match x,e with
 | .qJ,.lit k=>match zJ P el,qo P el,(P.info? el).map (·.bytes) with
   | some z,some sz,some bytes=>
     if 1<=k/\k<=100/\sz≠0/\z.cells.length=sz/\bytes<=1000/\bytes≠0 then
       some (.slice s.nb (.lit 0) (.lit k) sz false,{ s with mem:=(s.nb,.cells (rA k.toNat z.cells) true)::s.mem,nb:=s.nb+1 },[])
     else none
   | _,_,_=>none
 | _,_=>none
def eT (P:Program) (s:St) (t:TypeId) (v:Option AV):Option (AV × St × List PE):=
 match v,P.underlying t with
 | some (.slice b lo n 1 false),some (.slice el)=>match P.underlying el,get s.mem b with
   | some (.int .u8),some (.rows [.int .u8] t len true false)=>some (.slice b lo n 1 false,{ s with mem:=put b (.rows [.int .u8] t len true false) s.mem },[])
   | _,_=>none
 | _,_=>none
def fQ (M:Mem) (b k s:Nat) (zs:List AV):Nat->Option (Mem × List PE)
 | 0=>some (M,[])
 | n+1=>match fQ M b k s zs n with
   | some (M,ps)=>(storeAt M b (.lit 0) 0 (k+n*s) zs).map fun (M',qs)=>(M',ps++qs)
   | none=>none
def dh (M:Mem) (b:Nat) (lo:Nat) (ks:List CK) (u:E) (l0:Int):Nat->Option (Mem × List PE)
 | 0=>some (M,[])
 | n+1=>match dh M b lo ks u l0 n,jS ks u (.lit (l0+n)) 0 ks.length with
   | some (M1,ps),some vs=>(storeAt M1 b (.lit ((lo+n:Nat):Int)) ks.length 0 vs).map fun (M2,qs)=>(M2,ps++qs)
   | _,_=>none
def KV (M:Mem) (sz:Nat) (ks:List CK) (x y:AV):Option (Nat × Mem × List PE):=
 match x with
 | .slice b (.lit lo) (.lit n) z _=>match Zt M sz ks y with
   | some (u,l0,.lit m,ps)=>if z=sz/\0<=lo/\0<=m/\m<=n/\m<=1000 then
       (dh M b lo.toNat ks u l0 m.toNat).map fun (M',qs)=>(m.toNat,M',ps++qs)
     else none
   | _=>none
 | _=>none
def lK (P:Program) (s:St) (el:TypeId) (e e':E):Option (AV × St × List PE):=
 match zJ P el,qo P el,(P.info? el).map (·.bytes) with
 | some z,some sz,some bytes=>match jw z.cells with
   | some ks=>if e=e'/\bytes<=1000/\z.cells.length=sz/\z.cells.all AV.isZero=true then
       some (.slice s.nb (.lit 0) e sz false,zm s (.rows ks .zt e true false),[.tt (mkBin .le (.lit 0) e),.tt (mkBin .le e (.lit 70000))])
     else none
   | none=>none
 | _,_,_=>none
def loud (P:Program) (kn:Kn) (s:St) (o:Op):Option (AV × St × List PE):=
 match o with
 | .makeMap _ none=>some (.mref s.nb,zm s (.mp [] []),[])
 | .mapUpdate t x i y=>match evalOp s.tmps x,evalOp s.tmps i,evalOp s.tmps y,P.underlying t with
   | some (.mref b),some k,some v,some (.map kt _)=>match get s.mem b with
     | some (.smp w one ks t n)=>cu P s kt b w one ks t n k v
     | some (.fam ck t (some c))=>XU P s kt b ck t c k v
     | _=>fP P s kt b k v
   | _,_,_,_=>none
 | .lookup t x i false=>match evalOp s.tmps x,evalOp s.tmps i,P.underlying t with
   | some (.mref b),some k,some (.map kt et)=>match get s.mem b with
     | some (.fam ck t none)=>HV P s kt et b ck t k
     | _=>none
   | _,_,_=>none
 | .insert t x i y=>match evalOp s.tmps x,evalOp s.tmps i,evalOp s.tmps y,P.underlying t with
   | some (.mref b),some k,some v,some (.map kt _)=>match get s.mem b with
     | some (.smp w one ks t n)=>cu P s kt b w one ks t n k v
     | _=>fP P s kt b k v
   | _,_,_,_=>none
 | .range t x=>match (evalOp s.tmps x).bind AV.code,P.underlying t with
   | some c,some .string=>some (.ptr s.nb (.lit 0) 0 0,zm s (.iter c (.lit 0) 0),[])
   | _,_=>none
 | .next x true=>match evalOp s.tmps x with
   | some (.ptr b (.lit 0) 0 0)=>match get s.mem b with
     | some (.iter e q 1)=>some (.tup [.bool (.lit 1),.int .i64 q,.int .i32 (mkS 10 e q (.lit 0))],{ s with mem:=put b (.iter e (mkAdd q (mkS 11 e q (.lit 0))) 0) s.mem },[])
     | some (.iter _ _ 2)=>some (.tup [.bool (.lit 0)],s,[])
     | _=>none
   | _=>none
 | .alloc t=>if (ak kn.p9 t).isSome then (match ak kn.p9 t with
     | some b=>match yP P b with
       | some (l,m)=>some (.ptr s.nb (.lit 0) 0 0,zm s (.big l b.ks .zt b.n m true),[])
       | none=>none
     | none=>none)
   else if kn.SL t then match zJ P t with
   | some (.agg [.wP,.qJ])=>some (.ptr (s.nb+1) (.lit 0) 0 0,{ s with mem:=(s.nb+1,.bld t (.lit 0) s.nb)::(s.nb,.byt kn.bld.2 (.lit 0))::s.mem,nb:=s.nb+2 },[])
   | _=>none
   else match zJ P t with
   | some z=>some (.ptr s.nb (.lit 0) 0 0,zm s (.cells z.cells true),[])
   | none=>none
 | .box _ x=>match evalOp s.tmps x with
   | some (.big l ks t n m)=>if l.all AV.one/\m.all AV.one then some (.ptr s.nb (.lit 0) 0 0,zm s (.big l ks t n m true),[]) else none
   | some v=>if v.cells.all AV.one then some (.ptr s.nb (.lit 0) 0 0,zm s (.cells v.cells true),[]) else none
   | none=>none
 | .store t a x=>match evalOp s.tmps a,evalOp s.tmps x,qo P t with
   | some (.ptr b r z k),some v,some n=>if v.cells.length=n then
       (storeAt s.mem b r z k v.cells).map fun (M,ps)=>(.undef,{ s with mem:=M },ps)
     else none
   | _,_,_=>none
 | .buildSlice t n parts=>match P.underlying t with
   | some (.slice el)=>match zJ P el,qo P el,kr s.tmps parts.toList with
     | some z,some sz,some ps=>
       if z.cells.length=sz/\n*sz<=1000 then
         match yg (fun i=>some (i*sz,sz)) (rA n z.cells) ps with
         | some vs=>if vs.all AV.one then some (if n=0/\(jw z.cells).isNone then .cap0 else .slice s.nb (.lit 0) (.lit n) sz false,zm s (vC z.cells n vs),[]) else none
         | none=>none
       else none
     | _,_,_=>none
   | _=>none
 | .makeSlice t l c=>match P.underlying t,evalOp s.tmps l,evalOp s.tmps c with
   | some (.slice el),some (.int _ (.lit a)),some (.int _ (.lit b))=>match zJ P el,qo P el,(P.info? el).map (·.bytes) with
     | some z,some sz,some bytes=>
       if 0<=a/\a=b/\a<=70000/\bytes<=1000/\z.cells.length=sz then match jw z.cells with
         | some ks=>if z.cells.all AV.isZero then some (.slice s.nb (.lit 0) (.lit a) sz false,zm s (.rows ks .zt (.lit a) true false),[]) else none
         | none=>if a<=100 then some (.slice s.nb (.lit 0) (.lit a) sz false,zm s (.cells (rA a.toNat z.cells) true),[]) else none
       else none
     | _,_,_=>none
   | some (.slice el),some (.int _ e),some (.int _ e')=>lK P s el e e'
   | _,_,_=>none
 | .convert src dst x=>if src=dst then eT P s dst (evalOp s.tmps x) else match (evalOp s.tmps x).bind AV.Bc,P.underlying dst,P.underlying src with
   | some (t,n),some (.slice el),some .string=>match P.underlying el,qo P el with
     | some (.int .u8),some 1=>some (.slice s.nb (.lit 0) n 1 false,zm s (.rows [.int .u8] t n true false),[.tt (mkBin .le n (.lit 1000000))])
     | _,_=>none
   | _,_,_=>none
 | .call { callee:=.builtin .clear,args,argTypes }=>match args.toList,argTypes.toList with
   | [x],[t]=>match evalOp s.tmps x,P.underlying t with
     | some (.asl b k n z),some (.slice el)=>match zJ P el,qo P el with
       | some zv,some sz=>if sz=z/\zv.cells.length=sz then (fQ s.mem b k z zv.cells n).map fun (M,ps)=>(.tup [],{ s with mem:=M },ps) else none
       | _,_=>none
     | _,_=>none
   | _,_=>none
 | .call { callee:=.builtin .copy,args,argTypes }=>match args.toList,argTypes.toList with
   | [x,y],[t,_]=>match evalOp s.tmps x,evalOp s.tmps y,P.underlying t with
     | some xv,some yv,some (.slice el)=>match zJ P el,qo P el with
       | some zv,some sz=>match jw zv.cells with
         | some ks=>if sz=ks.length then (KV s.mem sz ks xv yv).map fun (n,M,ps)=>(.int .i64 (.lit n),{ s with mem:=M },ps) else none
         | none=>none
       | _,_=>none
     | _,_,_=>none
   | _,_=>none
 | .call { callee:=.builtin .append,args,argTypes }=>match args.toList,argTypes.toList with
   | [x,y],[t,u]=>match evalOp s.tmps x,evalOp s.tmps y,P.underlying t,P.underlying u with
     | some v,some (.int _ e),some (.slice el),some (.int _)=>match gJ P s el v e with
       | some r=>some r
       | none=>yU P s el v e
     | some v,some w,some (.slice el),some (.slice _)=>match zJ P el with
       | some z=>match jw z.cells with
         | some _=>mU P s el v w
         | none=>match mU P s el v w with
           | some r=>some r
           | none=>fK P s el v w
       | none=>none
     | _,_,_,_=>none
   | _,_=>none
 | _=>none
def Xh (_P:Program) (_kn:Kn) (s:St) (a0:TypeId) (a1:Option Operand):Option (AV × St × List PE):=
 match a0,a1 with
 | _,none=>some (.mref s.nb,zm s (.mp [] []),[])
 | _,_=>none
def JR (P:Program) (_kn:Kn) (s:St) (t:TypeId) (x:Operand) (i:Operand) (y:Operand):Option (AV × St × List PE):=
 match evalOp s.tmps x,evalOp s.tmps i,evalOp s.tmps y,P.underlying t with
   | some (.mref b),some k,some v,some (.map kt _)=>match get s.mem b with
     | some (.smp w one ks t n)=>cu P s kt b w one ks t n k v
     | some (.fam ck t (some c))=>XU P s kt b ck t c k v
     | _=>fP P s kt b k v
   | _,_,_,_=>none
def V9 (P:Program) (_kn:Kn) (s:St) (t:TypeId) (x:Operand) (i:Operand) (y:Operand):Option (AV × St × List PE):=
 match evalOp s.tmps x,evalOp s.tmps i,evalOp s.tmps y,P.underlying t with
   | some (.mref b),some k,some v,some (.map kt _)=>match get s.mem b with
     | some (.smp w one ks t n)=>cu P s kt b w one ks t n k v
     | _=>fP P s kt b k v
   | _,_,_,_=>none
def V8 (P:Program) (_kn:Kn) (s:St) (t:TypeId) (x i:Operand) (ok:Bool):Option (AV × St × List PE):=
 match ok with
 | false=>match evalOp s.tmps x,evalOp s.tmps i,P.underlying t with
   | some (.mref b),some k,some (.map kt et)=>match get s.mem b with
     | some (.fam ck t none)=>HV P s kt et b ck t k
     | _=>none
   | _,_,_=>none
 | true=>none
def DY (P:Program) (_kn:Kn) (s:St) (t:TypeId) (x:Operand):Option (AV × St × List PE):=
 match (evalOp s.tmps x).bind AV.code,P.underlying t with
   | some c,some .string=>some (.ptr s.nb (.lit 0) 0 0,zm s (.iter c (.lit 0) 0),[])
   | _,_=>none
def NY (_P:Program) (_kn:Kn) (s:St) (a0:Operand) (a1:Bool):Option (AV × St × List PE):=
 match a0,a1 with
 | x,true=>match evalOp s.tmps x with
   | some (.ptr b (.lit 0) 0 0)=>match get s.mem b with
     | some (.iter e q 1)=>some (.tup [.bool (.lit 1),.int .i64 q,.int .i32 (mkS 10 e q (.lit 0))],{ s with mem:=put b (.iter e (mkAdd q (mkS 11 e q (.lit 0))) 0) s.mem },[])
     | some (.iter _ _ 2)=>some (.tup [.bool (.lit 0)],s,[])
     | _=>none
   | _=>none
 | _,_=>none
def DX (P:Program) (kn:Kn) (s:St) (t:TypeId):Option (AV × St × List PE):=
 if (ak kn.p9 t).isSome then (match ak kn.p9 t with
     | some b=>match yP P b with
       | some (l,m)=>some (.ptr s.nb (.lit 0) 0 0,zm s (.big l b.ks .zt b.n m true),[])
       | none=>none
     | none=>none)
   else if kn.SL t then match zJ P t with
   | some (.agg [.wP,.qJ])=>some (.ptr (s.nb+1) (.lit 0) 0 0,{ s with mem:=(s.nb+1,.bld t (.lit 0) s.nb)::(s.nb,.byt kn.bld.2 (.lit 0))::s.mem,nb:=s.nb+2 },[])
   | _=>none
   else match zJ P t with
   | some z=>some (.ptr s.nb (.lit 0) 0 0,zm s (.cells z.cells true),[])
   | none=>none
def Sd (_P:Program) (_kn:Kn) (s:St) (_x0:TypeId) (x:Operand):Option (AV × St × List PE):=
 match evalOp s.tmps x with
   | some (.big l ks t n m)=>if l.all AV.one/\m.all AV.one then some (.ptr s.nb (.lit 0) 0 0,zm s (.big l ks t n m true),[]) else none
   | some v=>if v.cells.all AV.one then some (.ptr s.nb (.lit 0) 0 0,zm s (.cells v.cells true),[]) else none
   | none=>none
def DK (P:Program) (_kn:Kn) (s:St) (t:TypeId) (a:Operand) (x:Operand):Option (AV × St × List PE):=
 match evalOp s.tmps a,evalOp s.tmps x,qo P t with
   | some (.ptr b r z k),some v,some n=>if v.cells.length=n then
       (storeAt s.mem b r z k v.cells).map fun (M,ps)=>(.undef,{ s with mem:=M },ps)
     else none
   | _,_,_=>none
def Zb (P:Program) (_kn:Kn) (s:St) (t:TypeId) (n:Nat) (parts:Array (Nat × Operand)):Option (AV × St × List PE):=
 match P.underlying t with
   | some (.slice el)=>match zJ P el,qo P el,kr s.tmps parts.toList with
     | some z,some sz,some ps=>
       if z.cells.length=sz/\n*sz<=1000 then
         match yg (fun i=>some (i*sz,sz)) (rA n z.cells) ps with
         | some vs=>if vs.all AV.one then some (if n=0/\(jw z.cells).isNone then .cap0 else .slice s.nb (.lit 0) (.lit n) sz false,zm s (vC z.cells n vs),[]) else none
         | none=>none
       else none
     | _,_,_=>none
   | _=>none
def JC (P:Program) (_kn:Kn) (s:St) (t:TypeId) (l:Operand) (c:Operand):Option (AV × St × List PE):=
 match P.underlying t,evalOp s.tmps l,evalOp s.tmps c with
   | some (.slice el),some (.int _ (.lit a)),some (.int _ (.lit b))=>match zJ P el,qo P el,(P.info? el).map (·.bytes) with
     | some z,some sz,some bytes=>
       if 0<=a/\a=b/\a<=70000/\bytes<=1000/\z.cells.length=sz then match jw z.cells with
         | some ks=>if z.cells.all AV.isZero then some (.slice s.nb (.lit 0) (.lit a) sz false,zm s (.rows ks .zt (.lit a) true false),[]) else none
         | none=>if a<=100 then some (.slice s.nb (.lit 0) (.lit a) sz false,zm s (.cells (rA a.toNat z.cells) true),[]) else none
       else none
     | _,_,_=>none
   | some (.slice el),some (.int _ e),some (.int _ e')=>lK P s el e e'
   | _,_,_=>none
def Xm (P:Program) (_kn:Kn) (s:St) (src:TypeId) (dst:TypeId) (x:Operand):Option (AV × St × List PE):=
 if src=dst then eT P s dst (evalOp s.tmps x) else match (evalOp s.tmps x).bind AV.Bc,P.underlying dst,P.underlying src with
   | some (t,n),some (.slice el),some .string=>match P.underlying el,qo P el with
     | some (.int .u8),some 1=>some (.slice s.nb (.lit 0) n 1 false,zm s (.rows [.int .u8] t n true false),[.tt (mkBin .le n (.lit 1000000))])
     | _,_=>none
   | _,_,_=>none
def NG (P:Program) (_kn:Kn) (s:St) (a0:Call):Option (AV × St × List PE):=
 match a0 with
 | { callee:=.builtin .clear,args,argTypes }=>match args.toList,argTypes.toList with
   | [x],[t]=>match evalOp s.tmps x,P.underlying t with
     | some (.asl b k n z),some (.slice el)=>match zJ P el,qo P el with
       | some zv,some sz=>if sz=z/\zv.cells.length=sz then (fQ s.mem b k z zv.cells n).map fun (M,ps)=>(.tup [],{ s with mem:=M },ps) else none
       | _,_=>none
     | _,_=>none
   | _,_=>none
 | { callee:=.builtin .copy,args,argTypes }=>match args.toList,argTypes.toList with
   | [x,y],[t,_]=>match evalOp s.tmps x,evalOp s.tmps y,P.underlying t with
     | some xv,some yv,some (.slice el)=>match zJ P el,qo P el with
       | some zv,some sz=>match jw zv.cells with
         | some ks=>if sz=ks.length then (KV s.mem sz ks xv yv).map fun (n,M,ps)=>(.int .i64 (.lit n),{ s with mem:=M },ps) else none
         | none=>none
       | _,_=>none
     | _,_,_=>none
   | _,_=>none
 | { callee:=.builtin .append,args,argTypes }=>match args.toList,argTypes.toList with
   | [x,y],[t,u]=>match evalOp s.tmps x,evalOp s.tmps y,P.underlying t,P.underlying u with
     | some v,some (.int _ e),some (.slice el),some (.int _)=>match gJ P s el v e with
       | some r=>some r
       | none=>yU P s el v e
     | some v,some w,some (.slice el),some (.slice _)=>match zJ P el with
       | some z=>match jw z.cells with
         | some _=>mU P s el v w
         | none=>match mU P s el v w with
           | some r=>some r
           | none=>fK P s el v w
       | none=>none
     | _,_,_,_=>none
   | _,_=>none
 | _=>none
def Mk (P:Program) (kn:Kn) (s:St) (o:Op):Option (AV × St × List PE):=
 match o with
 | .makeMap a0 a1=>Xh P kn s a0 a1
 | .mapUpdate t x i y=>JR P kn s t x i y
 | .insert t x i y=>V9 P kn s t x i y
 | .lookup t x i ok=>V8 P kn s t x i ok
 | .range t x=>DY P kn s t x
 | .next a0 a1=>NY P kn s a0 a1
 | .alloc t=>DX P kn s t
 | .box x0 x=>Sd P kn s x0 x
 | .store t a x=>DK P kn s t a x
 | .buildSlice t n parts=>Zb P kn s t n parts
 | .makeSlice t l c=>JC P kn s t l c
 | .convert src dst x=>Xm P kn s src dst x
 | .call a0=>NG P kn s a0
 | _=>none
theorem jT (P:Program) (kn:Kn) (s:St) (o:Op):Mk P kn s o=loud P kn s o:=by
 cases o with
 | makeMap t r=>cases r <;> rfl
 | mapUpdate=>rfl
 | insert=>rfl
 | lookup t x i ok=>cases ok <;> rfl
 | range=>rfl
 | next x b=>cases b <;> rfl
 | alloc=>rfl
 | box=>rfl
 | store=>rfl
 | buildSlice=>rfl
 | makeSlice=>rfl
 | convert=>rfl
 | call c=>
   obtain ⟨f,l,m⟩:=c;cases f with
   | builtin b=>cases b <;> rfl
   | _=>rfl
 | _=>rfl
end Go.Sx
end
noncomputable section
namespace Go.Sx
open Go
inductive VT where
 | nil
 | node (v:Option E) (l r:VT)
noncomputable def VT.get (t:VT):Nat->Option E:=
 VT.rec (motive:=fun _=>Nat->Option E) (fun _=>none)
   (fun v _ _ gl gr i=>Bool.rec (motive:=fun _=>Option E) (Bool.rec (motive:=fun _=>Option E) (gr (Nat.sub (Nat.div i 2) 1)) (gl (Nat.div i 2)) (Nat.beq (Nat.mod i 2) 1)) v (Nat.beq i 0)) t
noncomputable def VT.put (e:E) (f:Nat):VT->Nat->VT:=
 Nat.rec (motive:=fun _=>VT->Nat->VT) (fun t _=>t)
   (fun _ ih t i=>VT.rec (motive:=fun _=>VT)
     (Bool.rec (motive:=fun _=>VT) (Bool.rec (motive:=fun _=>VT) (.node none .nil (ih .nil (Nat.sub (Nat.div i 2) 1))) (.node none (ih .nil (Nat.div i 2)) .nil) (Nat.beq (Nat.mod i 2) 1)) (.node (some e) .nil .nil) (Nat.beq i 0))
     (fun v l r _ _=>Bool.rec (motive:=fun _=>VT) (Bool.rec (motive:=fun _=>VT) (.node v l (ih r (Nat.sub (Nat.div i 2) 1))) (.node v (ih l (Nat.div i 2)) r) (Nat.beq (Nat.mod i 2) 1)) (.node (some e) l r) (Nat.beq i 0)) t) f
structure Sub where
 nv:Nat
 nb:Nat
 vs:VT
 ct:Nat
 bs:List (Nat × Option Nat)
def Sub.zA (u:Sub) (p e:E):Sub:=
 match p with
 | .var i=>match u with
   | ⟨nv,nb,vs,ct,bs⟩=>bif Nat.ble nv i then (match vs.get (Nat.sub i nv) with
     | some _=>⟨nv,nb,vs,ct,bs⟩
     | none=>⟨nv,nb,vs.put e 24 (Nat.sub i nv),Nat.succ ct,bs⟩) else ⟨nv,nb,vs,ct,bs⟩
 | _=>u
def Sub.tT (u:Sub) (b:Nat) (c:Option Nat):Sub:=
 if b<u.nb then u else match get u.bs b with
   | some _=>u
   | none=>{ u with bs:=(b,c)::u.bs }
def Sub.force (u:Sub) (f:Sub->Sub):Sub:=match u with
 | ⟨nv,nb,vs,ct,bs⟩=>f ⟨nv,nb,vs,ct,bs⟩
def Sub.qqz (u:Sub):List Clo->List Clo->Sub
 | c::l,d::m=>(u.tT c.b (some d.b)).force fun u=>u.qqz l m
 | _,_=>u
def Sub.cks (u:Sub):List CK->List CK->Sub
 | .clo l::ks,.clo m::ks'=>(u.qqz l m).force fun u=>u.cks ks ks'
 | _::ks,_::ks'=>u.cks ks ks'
 | _,_=>u
mutual
def Sub.av (u:Sub):AV->AV->Sub
 | .bool e,.bool f=>u.zA e f
 | .int _ e,.int _ f=>u.zA e f
 | .ptr b r _ _,.ptr c q _ _=>(u.tT b (some c)).zA r q
 | .slice b lo n _ _,.slice c lo' n' _ _=>((u.tT b (some c)).zA lo lo').zA n n'
 | .slice b _ n _ _,.qJ=>(u.tT b none).zA n (.lit 0)
 | .slice b _ n _ _,.cap0=>(u.tT b none).zA n (.lit 0)
 | .slice b _ n _ _,.mM=>(u.tT b none).zA n (.lit 0)
 | .wE t n,.wE t' n'=>(u.zA t t').zA n n'
 | .wE t n,.str l=>(u.zA t (YJ l)).zA n (.lit l.length)
 | .sat e,v=>match v.code with
   | some f=>u.zA e f
   | none=>u
 | .ifo e,.ifo f=>u.zA e f
 | .lst _ e,.lst _ f=>u.zA e f
 | .fco l e,.fco m f=>(u.qqz l m).zA e f
 | .fco _ e,.jY=>u.zA e (.lit 0)
 | .xV _ e i _,.xV _ f j _=>(u.zA e f).zA i j
 | .gZ a,.gZ b=>u.av a b
 | .ifo e,.xk=>u.zA e (.lit 0)
 | .asl b _ _ _,.asl c _ _ _=>u.tT b (some c)
 | .yN _ l m,.yN _ l' m'=>(u.avs l l').avs m m'
 | .big l _ t _ m,.big l' _ t' _ m'=>((u.avs l l').zA t t').avs m m'
 | .func _ l,.func _ m=>u.avs l m
 | .yld b,.yld c=>u.tT b (some c)
 | .mref b,.mref c=>u.tT b (some c)
 | .agg l,.agg m=>u.avs l m
 | .tup l,.tup m=>u.avs l m
 | _,_=>u
def Sub.avs (u:Sub):List AV->List AV->Sub
 | a::l,b::m=>(u.av a b).force fun u=>u.avs l m
 | _,_=>u
end
def Sub.tmps (u:Sub):qO->qO->Sub
 | [],_=>u
 | (t,v)::l,m=>match get m t with
   | some w=>(u.av v w).force fun u=>u.tmps l m
   | none=>u.tmps l m
def Sub.blk (u:Sub):Blk->Blk->Sub
 | .cells l _,.cells m _=>u.avs l m
 | .rows ks t n _ _,.rows ks' t' n' _ _=>((u.cks ks ks').zA t t').zA n n'
 | .ovr _ t n h l _ _,.ovr _ t' n' h' l' _ _=>(((u.zA t t').zA n n').zA h h').avs l l'
 | .rows _ t n _ _,.ovr _ t' n' _ _ _ _=>(u.zA t t').zA n n'
 | .big l _ t _ m _,.big l' _ t' _ m' _=>((u.avs l l').zA t t').avs m m'
 | .loop _ _ _ _ _ ts d,.loop _ _ _ _ _ ts' d'=>(u.tT d (some d')).tmps ts ts'
 | .mp l m,.mp l' m'=>(u.avs l l').avs m m'
 | .smp _ _ _ t n,.smp _ _ _ t' n'=>(u.zA t t').zA n n'
 | .smp _ _ _ t n,.mp [] []=>(u.zA t .zt).zA n (.lit 0)
 | .iter e q _,.iter e' q' _=>(u.zA e e').zA q q'
 | .bld _ e d,.bld _ e' d'=>(u.tT d (some d')).zA e e'
 | .byt _ e,.byt _ e'=>u.zA e e'
 | .fam _ t (some e),.fam _ t' (some e')=>(u.zA t t').zA e e'
 | .fam _ t none,.fam _ t' none=>u.zA t t'
 | .fam _ t none,.mp [] []=>u.zA t .zt
 | _,_=>u
def Sub.img (u:Sub) (b:Nat):Option Nat:=if b<u.nb then some b else (get u.bs b).join
def Sub.mem (u:Sub) (last:Bool):Mem->Mem->Sub
 | [],_=>u
 | (b,x)::l,M=>match u.img b with
   | some c=>match get M c with
     | some y=>(u.blk x y).force fun u=>u.mem last l M
     | none=>u.mem last l M
   | none=>match last,x with
     | true,.rows _ t n _ _=>((u.zA t .zt).zA n (.lit 0)).mem last l M
     | _,_=>u.mem last l M
def Sub.IQ (vs:VT):Nat->Nat->List E
 | 0,_=>[]
 | n+1,k=>(vs.get k).getD .zt::Sub.IQ vs n (Nat.succ k)
def Sub.list (u:Sub) (n:Nat):List E:=match u with
 | ⟨_,_,vs,_,_⟩=>Sub.IQ vs n 0
structure Fix where
 nv:Nat
 nb:Nat
 kb:Nat
 σ:List E
 ρ:List (Nat × Option Nat)
def Fix.img (u:Fix) (b:Nat):Option Nat:=if b<u.nb then some b else if b<u.kb then (get u.ρ b).join else none
def Fix.e (u:Fix) (p:E):E:=p.subst u.nv u.σ
def Fix.clo (u:Fix) (c:Clo):Clo:={ c with b:=(u.img c.b).getD 0 }
def Fix.ck (u:Fix):CK->CK
 | .clo cs=>.clo (cs.map u.clo)
 | k=>k
def Fix.TY (u:Fix) (cs:List Clo):Bool:=cs.all fun c=>(u.img c.b).isSome
def Fix.TB (u:Fix):CK->Bool
 | .clo cs=>u.TY cs
 | _=>true
def CK.Sv:CK->Bool
 | .clo _=>false
 | _=>true
mutual
def Fix.le (u:Fix):AV->AV->Bool
 | .any,_=>true
 | .undef,.undef=>true
 | .bool e,.bool f=>u.e e == f
 | .int k e,.int k' f=>k == k' && u.e e == f
 | .wP,.wP=>true
 | .ptr b r s k,.ptr c q s' k'=>u.img b == some c && u.e r == q && s == s' && k == k'
 | .qJ,.qJ=>true
 | .slice b lo n s nl,.slice c lo' n' s' nl'=>u.img b == some c && u.e lo == lo' && u.e n == n' && s == s' && (nl || !nl')
 | .slice _ lo n _ nl,.qJ=>nl && u.e n == .lit 0 && u.e lo == .lit 0
 | .slice _ lo n _ nl,.cap0=>nl && u.e n == .lit 0 && u.e lo == .lit 0
 | .slice _ lo n _ nl,.mM=>nl && u.e n == .lit 0 && u.e lo == .lit 0
 | .mM,.mM=>true
 | .wE t n,.wE t' n'=>u.e t == t' && u.e n == n'
 | .wE t n,.str l=>u.e t == YJ l && u.e n == .lit l.length
 | .sat e,v=>match v.code with
   | some f=>u.e e == f
   | none=>false
 | .ifo e,.ifo f=>u.e e == f
 | .lst ks e,.lst ks' f=>ks == ks' && u.e e == f
 | .fco l e,.fco m f=>l.map u.clo == m && u.e e == f && u.TY l
 | .fco _ e,.jY=>u.e e == .lit 0
 | .xV ks e i k,.xV ks' f j k'=>ks == ks' && u.e e == f && u.e i == j && k == k'
 | .gZ a,.gZ b=>u.le a b
 | .ifo e,.xk=>u.e e == .lit 0
 | .cap0,.cap0=>true
 | .bK g k,.bK g' k'=>g == g' && k == k'
 | .str l,.str m=>l == m
 | .empty,.empty=>true
 | .empty,.cap0=>true
 | .asl b k n s,.asl c k' n' s'=>u.img b == some c && k == k' && n == n' && s == s'
 | .yN f l m,.yN g l' m'=>f == g && u.les l l' && u.les m m'
 | .big l ks t n m,.big l' ks' t' n' m'=>u.les l l' && ks == ks' && u.e t == t' && n == n' && u.les m m' && ks.all CK.Sv
 | .func f l,.func g m=>f == g && u.les l m
 | .yld b,.yld c=>u.img b == some c
 | .mref b,.mref c=>u.img b == some c
 | .gV,.gV=>true
 | .xk,.xk=>true
 | .jY,.jY=>true
 | .agg l,.agg m=>u.les l m
 | .tup l,.tup m=>u.les l m
 | _,_=>false
def Fix.les (u:Fix):List AV->List AV->Bool
 | [],[]=>true
 | a::l,b::m=>u.le a b && u.les l m
 | _,_=>false
end
def Fix.NP (u:Fix):List AV->List AV->Bool
 | [],_=>true
 | a::l,b::m=>u.le a b && u.NP l m
 | _::_,[]=>false
def Fix.leT (u:Fix):qO->qO->Bool
 | [],_=>true
 | (t,v)::l,m=>(match get m t with
   | some w=>u.le v w
   | none=>false) && u.leT l m
def Fix.leB (u:Fix):Blk->Blk->Bool
 | .cells l w,.cells m w'=>(!w || w') && u.NP l m
 | .rows ks t n w nl,.rows ks' t' n' w' nl'=>ks.map u.ck == ks' && u.e t == t' && u.e n == n' && (!w || w') && (nl || !nl') && ks.all u.TB
 | .rows ks t n w nl,.ovr ks' t' n' _ _ w' nl'=>ks.map u.ck == ks' && u.e t == t' && u.e n == n' && !w && !w' && (nl || !nl') && ks.all u.TB
 | .ovr ks t n h l w nl,.ovr ks' t' n' h' l' w' nl'=>ks.map u.ck == ks' && u.e t == t' && u.e n == n' && u.e h == h' && u.les l l' && w == w' && (nl || !nl') && ks.all u.TB
 | .big l ks t n m w,.big l' ks' t' n' m' w'=>u.les l l' && ks == ks' && u.e t == t' && n == n' && u.NP m m' && (!w || w') && ks.all CK.Sv
 | .loop st p f ix nt ts d,.loop st' p' f' ix' nt' ts' d'=>st == st' && p == p' && f == f' && ix == ix' && nt == nt' && u.leT ts ts' && u.img d == some d'
 | .dfr a,.dfr b=>a == b
 | .mp l m,.mp l' m'=>u.les l l' && u.les m m'
 | .smp w one ks t n,.smp w' one' ks' t' n'=>w == w' && one == one' && ks == ks' && u.e t == t' && u.e n == n'
 | .smp _ _ ks t n,.mp [] []=>u.e t == .zt && u.e n == .lit 0 && ks.all CK.plain
 | .iter e q k,.iter e' q' k'=>u.e e == e' && u.e q == q' && (k == 0 || k == k')
 | .bld t e d,.bld t' e' d'=>t == t' && u.e e == e' && u.img d == some d'
 | .byt t e,.byt t' e'=>t == t' && u.e e == e'
 | .fam ck t (some e),.fam ck' t' (some e')=>ck == ck' && u.e t == t' && u.e e == e'
 | .fam ck t none,.fam ck' t' none=>ck == ck' && u.e t == t'
 | .fam ck t none,.mp [] []=>u.e t == .zt && ck.plain
 | _,_=>false
def Fix.leM (u:Fix):Mem->Mem->Bool
 | [],_=>true
 | (b,x)::l,M=>(match u.img b with
   | some c=>match get M c with
     | some y=>u.leB x y
     | none=>false
   | none=>match x with
     | .rows _ t n _ nl=>nl && u.e n == .lit 0 && u.e t == .zt && decide (b<u.kb)
     | _=>false) && u.leM l M
def Fix.DL (u:Fix):Mem->List Nat
 | []=>[]
 | (b,_)::l=>match u.img b with
   | some c=>c::u.DL l
   | none=>u.DL l
def nodup:List Nat->Bool
 | []=>true
 | x::l=>!l.contains x && nodup l
def keys {α:Type} (l:List (Nat × α)):List Nat:=l.map (·.1)
def nodupB:List Nat->Nat->Bool
 | [],_=>true
 | x::l,m=>bif Nat.beq (Nat.land (Nat.shiftRight m x) 1) 1 then false else nodupB l (Nat.lor m (Nat.shiftLeft 1 x))
theorem WV:∀{l:List Nat} {m:Nat},nodupB l m=(nodup l && l.all fun x=>!Nat.testBit m x)
 | [],_=>rfl
 | x::l,m=>by
   have hb:Nat.beq (Nat.land (Nat.shiftRight m x) 1) 1=Nat.testBit m x:=by
     show Nat.beq ((m >>> x) &&& 1) 1=_;rw [Nat.and_one_is_mod,Nat.testBit_eq_decide_div_mod_eq,Nat.shiftRight_eq_div_pow,Bool.eq_iff_iff,decide_eq_true_eq];exact Nat.beq_eq ▸ Iff.rfl
   simp only [nodupB,hb,nodup,List.all_cons];cases hx:Nat.testBit m x with
   | true=>simp
   | false=>
     rw [cond_false,WV]
     have e:∀y,Nat.testBit (Nat.lor m (Nat.shiftLeft 1 x)) y=(Nat.testBit m y || decide (x=y)):=fun y=>by
       show Nat.testBit (m ||| (1 <<< x)) y=_;rw [Nat.testBit_or,Nat.one_shiftLeft,Nat.testBit_two_pow]
     have c:(l.all fun y=>!Nat.testBit (Nat.lor m (Nat.shiftLeft 1 x)) y)=(!l.contains x && l.all fun y=>!Nat.testBit m y):=by
       rw [Bool.eq_iff_iff];simp only [List.all_eq_true,Bool.and_eq_true,Bool.not_eq_true',e,<-Bool.not_eq_true,List.contains_iff_mem];constructor
       . intro h;exact ⟨fun hm=>h x hm (by simp),fun y hy c=>h y hy (by simp [c])⟩
       . rintro ⟨h1,h2⟩ y hy c;simp only [Bool.or_eq_true,decide_eq_true_eq] at c;rcases c with c | c
         . exact h2 y hy c
         . exact h1 (c ▸ hy)
     rw [c];cases nodup l <;> cases l.contains x <;> simp
theorem VI {l:List Nat}:nodupB l 0=nodup l:=by
 rw [WV];simp
def Fix.ok (u:Fix) (M:Mem):Bool:=nodupB (keys M) 0 && nodupB (u.DL M) 0
def Fix.leD (u:Fix):List DV->List DV->Bool
 | [],[]=>true
 | .blk a::l,.blk b::m=>u.img a == some b && u.leD l m
 | .fn f l1 l2::l,.fn g m1 m2::m=>f == g && u.les l1 m1 && u.les l2 m2 && u.leD l m
 | _,_=>false
def Fix.leS (u:Fix) (h s:St):Bool:=
 decide (u.nb<=u.kb) && h.nt == s.nt && u.leD h.defers s.defers && u.leT h.tmps s.tmps && u.leM h.mem s.mem && u.ok h.mem
def vM (nv nb m k:Nat) (h s:St):Fix:=
 let u:Sub:={ nv,nb,vs:=.nil,ct:=0,bs:=[] }
 let go (last:Bool) (u:Sub):Sub:=u.force fun u=>match Nat.beq u.ct m,Nat.beq u.bs.length k with
   | true,true=>u
   | _,_=>u.mem last h.mem s.mem
 let more (u v:Sub):Sub:=match Nat.beq u.ct v.ct,Nat.beq u.bs.length v.bs.length with
   | true,true=>v
   | _,_=>go false v
 let u0:=u.tmps h.tmps s.tmps;let u1:=go false u0;let u2:=more u0 u1;let u:=go true (more u1 u2)
 { nv,nb,kb:=nb+k,σ:=u.list m,ρ:=u.bs }
structure Contract where
 fn:FuncId
 sorts:List Bool
 args:List AV
 mem:Mem
 nb:Nat
 pre:List PE
 outs:List Bool
 res:AV
 mods:Mem
 fresh:Mem
 post:List PE
structure Ann where
 fn:FuncId
 bid:Nat
 keep:List Nat
 tmps:qO
 drop:List Nat
 mem:Mem
 sorts:List Bool
 nbl:Nat
 inv:List PE
 meas:E
 /-- Numbers that a round begins with: where what is said of the head is said first. -/
 on:List (Nat × Int):=[]
 /-- What holds no literal number there. -/
 off:List Nat:=[]
 /-- A round in which a number is this one (and others are these) is told apart; there the row of that number is kept out of a block. -/
 split:Option (Nat × E × Nat × List (E × Int)):=none
 /-- A round may end in a state that is spoken of otherwise. -/
 leave:Bool:=false
structure Cx where
 P:Program
 cs:List Contract
 dJ:List Ann
 kn:Kn:={}
 /-- Loops ahead of which the row that a pointer names is kept out of its block. -/
 pins:List (FuncId × Nat × Nat):=[]
 /-- Loops ahead of which a slice's cells become rows, lists and closures as numbers. -/
 SE:List (FuncId × Nat × Nat × List CK):=[]
 /-- Loops that are not gone through where nothing that is said of their heads fits. -/
 stops:List (FuncId × Nat):=[]
inductive Ex where
 | normal
 | ret
 | exit (id:Nat)
 | goto (l:Nat)
 deriving DecidableEq
def SS (ks:List Nat):qO->qO
 | []=>[]
 | (t,v)::l=>if ks.contains t then (t,v)::SS (ks.filter fun k=>!Nat.beq k t) l else SS ks l
def G8 {α:Type}:List Nat->List (Nat × α)->List (Nat × α)
 | [],M=>M
 | b::l,M=>G8 l (del b M)
def puts {α:Type}:List (Nat × α)->List (Nat × α)->List (Nat × α)
 | [],M=>M
 | (b,x)::l,M=>put b x (puts l M)
def gY:List Bool->List E->List PE
 | b::l,e::m=>.sort b e::gY l m
 | _,_=>[]
def Ann.head (a:Ann) (s:St):St:=
 { s with tmps:=puts a.tmps (SS a.keep s.tmps),mem:=puts a.mem (G8 a.drop s.mem),nv:=s.nv+a.sorts.length,nb:=s.nb+a.nbl }
def Ann.fits (a:Ann) (s:St):Bool:=
 let h:=a.head s;let u:=vM s.nv s.nb a.sorts.length a.nbl h s
 u.leS h s && decide (u.σ.length=a.sorts.length) && (a.on.all fun x=>match get s.tmps x.1 with
   | some (.int _ (.lit n))=>n == x.2
   | _=>false) && a.off.all fun t=>match get s.tmps t with
   | some (.int _ (.lit _))=>false
   | _=>true
def Ud (l:List Ann) (fn:FuncId) (bid:Nat) (s:St):Option Ann:=l.find? fun a=>a.fn == fn && a.bid == bid && a.fits s
structure RF where
 params:List Nat
 assign:Code
 body:Code
def rfs:Code->List RF
 | .seq a b=>rfs a++rfs b
 | .cond _ a b=>rfs a++rfs b
 | .block _ b=>rfs b
 | .loop b=>rfs b
 | .scope b=>rfs b
 | .rangeFunc _ ps a b=>{ params:=ps.toList,assign:=a,body:=b } :: (rfs a++rfs b)
 | _=>[]
def Jw (P:Program) (fn ix:Nat):Option RF:=
 match P.funcs[fn]? with
 | some f=>match f.body with
   | some c=>(rfs c)[ix]?
   | none=>none
 | none=>none
mutual
def Fix.inst (u:Fix):AV->AV
 | .bool e=>.bool (u.e e)
 | .int k e=>.int k (u.e e)
 | .ptr b r s k=>.ptr ((u.img b).getD 0) (u.e r) s k
 | .slice b lo n s nl=>.slice ((u.img b).getD 0) (u.e lo) (u.e n) s nl
 | .func f l=>.func f (u.insts l)
 | .yld b=>.yld ((u.img b).getD 0)
 | .mref b=>.mref ((u.img b).getD 0)
 | .agg l=>.agg (u.insts l)
 | .tup l=>.tup (u.insts l)
 | .big l ks t n m=>.big (u.insts l) (ks.map u.ck) (u.e t) n (u.insts m)
 | .asl b k n s=>.asl ((u.img b).getD 0) k n s
 | .wE t n=>.wE (u.e t) (u.e n)
 | .sat e=>.sat (u.e e)
 | .ifo e=>.ifo (u.e e)
 | .lst ks e=>.lst ks (u.e e)
 | .gZ a=>.gZ (u.inst a)
 | .fco cs e=>.fco (cs.map u.clo) (u.e e)
 | .xV ks e i k=>.xV ks (u.e e) (u.e i) k
 | .yN f l m=>.yN f (u.insts l) (u.insts m)
 | v=>v
def Fix.insts (u:Fix):List AV->List AV
 | []=>[]
 | v::l=>u.inst v::u.insts l
end
def Fix.QI (u:Fix):qO->qO
 | []=>[]
 | (t,v)::l=>(t,u.inst v)::u.QI l
def Fix.Gr (u:Fix):Blk->Blk
 | .cells l w=>.cells (u.insts l) w
 | .rows ks t n w nl=>.rows (ks.map u.ck) (u.e t) (u.e n) w nl
 | .ovr ks t n h l w nl=>.ovr (ks.map u.ck) (u.e t) (u.e n) (u.e h) (u.insts l) w nl
 | .big l ks t n m w=>.big (u.insts l) (ks.map u.ck) (u.e t) n (u.insts m) w
 | .loop st p f ix nt ts d=>.loop st p f ix nt (u.QI ts) ((u.img d).getD 0)
 | .dfr b=>.dfr b
 | .mp l m=>.mp (u.insts l) (u.insts m)
 | .smp w one ks t n=>.smp w one ks (u.e t) (u.e n)
 | .iter e q k=>.iter (u.e e) (u.e q) k
 | .bld t e d=>.bld t (u.e e) ((u.img d).getD 0)
 | .byt t e=>.byt t (u.e e)
 | .fam ck t op=>.fam ck (u.e t) (op.map u.e)
def Fix.dS (u:Fix):Mem->Mem
 | []=>[]
 | (b,x)::l=>((u.img b).getD 0,u.Gr x)::u.dS l
def p8:Mem->List Nat
 | []=>[]
 | (b,x)::l=>if x.wr then b::p8 l else p8 l
def Fix.Qk (u:Fix):List Nat->List Nat
 | []=>[]
 | b::l=>match u.img b with
   | some c=>c::u.Qk l
   | none=>u.Qk l
def Qa:Nat->Nat->List E
 | 0,_=>[]
 | k+1,n=>.var n::Qa k (Nat.succ n)
def ji (n k:Nat):List E:=Qa k n
theorem ZN:∀k n,Qa (k+1) n=Qa k n++[.var (n+k)]
 | 0,_=>rfl
 | k+1,n=>by
   show E.var n::Qa (k+1) (n+1)=(E.var n::Qa k (n+1))++[.var (n+(k+1))];rw [ZN k (n+1),List.cons_append]
   congr 4;omega
theorem uq (n k:Nat):ji n (k+1)=ji n k++[.var (n+k)]:=ZN k n
def lV (n m:Nat):Nat->List (Nat × Option Nat)
 | 0=>[]
 | k+1=>(n+k,some (m+k))::lV n m k
def Contract.form (c:Contract):Bool:=
 (keys c.fresh).all (fun b=>decide (c.nb<=b) && decide (b<c.nb+c.fresh.length)) && (keys c.mods).all (fun b=>(p8 c.mem).contains b) &&
 (c.mods++c.fresh).all (fun x=>x.2.wr) && (c.mem++(c.mods++c.fresh)).all (fun x=>!x.2.wF)
def FK (c:Contract) (args:List AV) (s:St) (k:AV->St->Tree):Tree:=
 let h:St:={ tmps:=[(0,.agg c.args)],nt:=0,defers:=[],mem:=c.mem,nv:=0,nb:=0 };let t:St:={ tmps:=[(0,.agg args)],nt:=0,defers:=[],mem:=s.mem,nv:=0,nb:=0 };let u:=vM 0 0 c.sorts.length c.nb h t
 if !(u.leS h t) || !(decide (u.σ.length=c.sorts.length)) || !c.form || !((p8 c.mem).all fun b=>(u.img b).isSome) then .fail 10 else
 let u2:Fix:={ nv:=0,nb:=0,kb:=c.nb+c.fresh.length,σ:=u.σ++ji s.nv c.outs.length,ρ:=lV c.nb s.nb c.fresh.length++u.ρ }
 let s2:St:={ s with
   mem:=u2.dS c.fresh++(u2.dS c.mods++G8 (u.Qk (p8 c.mem)) s.mem)
   nv:=s.nv+c.outs.length,nb:=s.nb+c.fresh.length }
 qI (gY c.sorts u.σ++c.pre.map (PE.subst 0 u.σ)) (sN c.outs (assumes (c.post.map (PE.subst 0 u2.σ)) (k (u2.inst c.res) s2)))
def PE.maybe:PE->Bool
 | .ff (.sel t r c)=>match kJ t r c with
   | .lit n=>n == 0
   | _=>true
 | .tt (.sel t r c)=>match kJ t r c with
   | .lit n=>n != 0
   | _=>true
 | _=>true
def fits (c:Contract) (args:List AV) (s:St):Bool:=
 let h:St:={ tmps:=[(0,.agg c.args)],nt:=0,defers:=[],mem:=c.mem,nv:=0,nb:=0 };let t:St:={ tmps:=[(0,.agg args)],nt:=0,defers:=[],mem:=s.mem,nv:=0,nb:=0 };let u:=vM 0 0 c.sorts.length c.nb h t
 u.leS h t && decide (u.σ.length=c.sorts.length) && (c.pre.all fun p=>(p.subst 0 u.σ).maybe)
def Tn (l:List Contract) (fn:FuncId) (args:List AV) (s:St):Option Contract:=l.find? fun c=>c.fn == fn && fits c args s
structure Eng where
 exec:FuncId->Option Nat->Nat->Nat->Code->St->(Ex->St->Tree)->Tree
 loop:FuncId->Option Nat->Nat->Nat->Code->St->(Ex->St->Tree)->Tree
 tH:AV->List AV->St->(AV->St->Tree)->Tree
def nT {α:Type} (n:Nat) (f:Nat->α):α:=match n with
 | 0=>f 0
 | m+1=>f (m+1)
theorem WA {α:Type} {n:Nat} {f:Nat->α}:nT n f=f n:=by cases n <;> rfl
def yX (s:St) (dst:Option Tmp) (v:AV):Option St:=match s with
 | ⟨tmps,nt,ds,mem,nv,nb⟩=>nT nt fun nt=>nT nb fun nb=>nT nv fun nv=>match dst with
   | some d=>if d<nt then some ⟨vU d v tmps,nt,ds,mem,nv,nb⟩ else none
   | none=>some ⟨tmps,nt,ds,mem,nv,nb⟩
theorem FL {s:St} {dst:Option Tmp} {v:AV}:Sx.yX s dst v=match dst with
   | some d=>if d<s.nt then some { s with tmps:=vU d v s.tmps } else none
   | none=>some s:=by
 cases s;cases dst <;> simp [Sx.yX,WA]
def iX (ops:Array Oper) (s:St) (o:Oper):Option (Bool ⊕ (Nat × E)):=
 match o.guard with
 | none=>some (.inl true)
 | some (j,want)=>match (ops[j]?).bind (·.dst) with
   | some t=>match get s.tmps t with
     | some (.bool (.lit n))=>some (.inl ((n != 0) == want))
     | some (.bool e)=>some (.inr (t,e))
     | some .undef=>some (.inl false)
     | _=>none
   | none=>none
def Hu (s:St) (o:Oper):Option (Nat × E):=
 match o.op with
 | .pick (.tmp t) _ _=>match get s.tmps t with
   | some (.bool (.lit _))=>none
   | some (.bool e)=>some (t,e)
   | _=>none
 | _=>none
def setBool (s:St) (t:Nat) (b:Bool):St:={ s with tmps:=vU t (.bool (.lit (if b then 1 else 0))) s.tmps }
def KM (ts:qO) (o:Op):Option (AV × List AV):=
 match o with
 | .call { callee:=.value f,args,argTypes:=_ }=>match evalOp ts f,vP ts args.toList with
   | some v,some l=>some (v,l)
   | _,_=>none
 | _=>none
def bQ:Op->Bool
 | .defer _=>true
 | _=>false
def XC (ts:qO) (o:Op):Option DV:=
 match o with
 | .defer { callee:=.value f,args,argTypes:=_ }=>if args.size=0 then match evalOp ts f with
     | some (.func g l)=>some (.fn g [] l)
     | some (.yN g m l)=>some (.fn g m l)
     | _=>none
   else none
 | _=>none
def pI (cx:Cx) (e:Eng) (s:St) (o:Oper) (k:St->Tree):Tree:=
 match quiet cx.P cx.kn s.tmps s.mem o.op with
 | some (v,ps)=>match yX s o.dst v with
   | some s'=>qI ps (k s')
   | none=>.fail 21
 | none=>match Mk cx.P cx.kn s o.op with
   | some (v,s1,ps)=>match yX s1 o.dst v with
     | some s'=>qI ps (k s')
     | none=>.fail 22
   | none=>match KM s.tmps o.op with
     | some (f,l)=>e.tH f l s fun v s1=>match yX s1 o.dst v with
       | some s'=>k s'
       | none=>.fail 23
     | none=>match XC s.tmps o.op with
       | some d=>match o.dst with
         | none=>k { s with defers:=d::s.defers }
         | some _=>.fail 27
       | none=>.fail 20
def DT:List AV->Nat
 | []=>1
 | .int _ (.lit n)::l=>max (n.toNat+1) (DT l)
 | _::l=>DT l
def YG (s:St) (o:Op):Option (Nat × IntKind × E × Nat):=
 match o with
 | .indexAddr _ x (.tmp i)=>match evalOp s.tmps x,get s.tmps i with
   | some (.ptr b (.lit 0) _ _),some (.int k e)=>match isLit e,get s.mem b with
     | none,some (.cells l _)=>if l.length<=16 then some (i,k,e,l.length) else none
     | _,_=>none
   | some (.slice b (.lit 0) (.lit n) _ _),some (.int k e)=>match isLit e,get s.mem b with
     | none,some (.cells _ _)=>if 0<=n/\n<=64 then some (i,k,e,n.toNat) else none
     | _,_=>none
   | _,_=>none
 | .lookup _ x (.tmp i) _=>match evalOp s.tmps x,get s.tmps i with
   | some (.mref b),some (.int k e)=>match isLit e,get s.mem b with
     | none,some (.mp ks _)=>if ks.length<=8 then some (i,k,e,DT ks) else none
     | _,_=>none
   | _,_=>none
 | _=>none
def Z4 (kn:Kn) (s:St) (o:Op):Option (Nat × IntKind × E × Nat):=
 match o with
 | .indexAddr t x (.tmp i)=>match evalOp s.tmps x,get s.tmps i,kn.arr.find? fun y=>y.1 == t with
   | some (.ptr ..),some (.int k e),some y=>match isLit e with
     | none=>some (i,k,e,y.2)
     | some _=>none
   | some (.slice b (.lit 0) (.lit n) _ _),some (.int k e),some y=>match isLit e,get s.mem b with
     | none,some (.cells _ _)=>if 0<=n/\n<=y.2 then some (i,k,e,n.toNat) else none
     | none,none=>if 0<=n/\n<=y.2 then some (i,k,e,n.toNat) else none
     | _,_=>none
   | _,_,_=>none
 | _=>none
def YB (kn:Kn) (s:St) (o:Op):Option (Nat × IntKind × E × Nat):=if kn.skips o then none else match Z4 kn s o with
 | some r=>some r
 | none=>YG s o
def Rn (kn:Kn) (s:St) (o:Oper):Option (Nat × IntKind × E × Nat):=YB kn s o.op
def AV.Xp (e:E) (n:Int):AV->AV
 | .int k f=>if f=e then .int k (.lit n) else .int k f
 | v=>v
def DR (e:E) (n:Int):qO->qO
 | []=>[]
 | (t,v)::l=>(t,v.Xp e n)::DR e n l
def Gv (e:E) (n:Int):Mem->Mem
 | []=>[]
 | (b,.cells l w)::M=>(b,.cells (l.map (AV.Xp e n)) w)::Gv e n M
 | x::M=>x::Gv e n M
def setInt (s:St) (i:Nat) (k:IntKind) (e:E) (j:Nat):St:={ s with tmps:=vU i (.int k (.lit j)) (DR e j s.tmps) }
def FU (s:St) (i:Nat) (k:IntKind) (j:Nat):St:={ s with tmps:=vU i (.int k (.lit j)) s.tmps }
def YR:List (E × Int)->St->St
 | [],s=>s
 | (e,n)::l,s=>YR l { s with tmps:=DR e n s.tmps,mem:=Gv e n s.mem }
def Gy:List (E × Int)->E->E
 | [],c=>c
 | (e,n)::l,c=>mkBin .and (mkBin .eq e (.lit n)) (Gy l c)
def Dw (e:E) (f:Nat->Tree):Nat->Tree
 | 0=>.fail 29
 | n+1=>.branch (mkBin .eq e (.lit n)) (f n) (Dw e f n)
def splitN (s:St) (o:Oper):Option (Nat × E × E):=
 match o.op with
 | .next x true=>match evalOp s.tmps x with
   | some (.ptr b (.lit 0) 0 0)=>match get s.mem b with
     | some (.iter e q 0)=>some (b,e,q)
     | _=>none
   | _=>none
 | _=>none
def setIter (s:St) (b:Nat) (e q:E) (k:Nat):St:={ s with mem:=put b (.iter e q k) s.mem }
def o9 (c:E) (t f:Tree):Tree:=
 match c with
 | .lit n=>if n=0 then f else t
 | c=>.branch c t f
def Sr (ks:List SK) (e:E):Blk:=.rows (ks.map SK.ck) (.fn 1017 e (.lit ks.length) (.lit 0) (.lit 0)) (.fn 1014 e (.lit ks.length) (.lit 0) (.lit 0)) false true
def Mw (b:Nat) (ks:List SK) (e:E):AV:=.slice b (.lit 0) (.fn 1014 e (.lit ks.length) (.lit 0) (.lit 0)) ks.length true
def Sn (s:St):Operand->Option St
 | .tmp t=>match get s.tmps t with
   | some (.lst (k::ks) e)=>some { s with tmps:=vU t (Mw s.nb (k::ks) e) s.tmps,mem:=(s.nb,Sr (k::ks) e)::s.mem,nb:=s.nb+1 }
   | _=>none
 | _=>none
def lookO (s:St) (o:Op):Option St:=
 match o with
 | .slice _ x _ _ none=>Sn s x
 | _=>none
def qz5 (ks:List SK) (t n:E):AV:=.lst ks (.fn 1016 t n (.lit ks.length) (.lit 0))
def KH (f:FuncId) (b s k:Nat):Nat->List Clo->Option Nat
 | _,[]=>none
 | i,c::cs=>if c.f=f/\c.b=b/\c.s=s/\c.k=k then some i else KH f b s k (i+1) cs
def Ui (n:Nat) (r:E) (i:Nat):E:=mkAdd (if n=1 then r else mkBin .mul r (.lit n)) (.lit (i+1))
def jH (M:Mem) (σ:List (Nat × AV)):List AV->Mem × List AV
 | []=>(M,[])
 | .func f [.ptr b (.lit 0) z 0]::l=>match get σ b with
   | some a=>((jH M σ l).1,.func f [.gZ a]::(jH M σ l).2)
   | none=>match get M b with
     | some (.cells [a] true)=>((jH (del b M) ((b,a)::σ) l).1,.func f [.gZ a]::(jH (del b M) ((b,a)::σ) l).2)
     | _=>((jH M σ l).1,.func f [.ptr b (.lit 0) z 0]::(jH M σ l).2)
 | v::l=>((jH M σ l).1,v::(jH M σ l).2)
def wK (s:St) (c:CK) (v:AV):St × AV × List PE:=
 match c,v with
 | .lst ks,.slice b (.lit 0) len z _=>match get s.mem b with
   | some (.rows ks' t n true nl)=>if ks'=ks.map SK.ck/\z=ks.length then
       ({ s with mem:=put b (.rows ks' t n false nl) s.mem },qz5 ks t len,[.tt (mkBin .le len n)])
     else (s,v,[])
   | _=>(s,v,[])
 | .lst ks,.qJ=>(s,.lst ks (.lit 0),[])
 | .clo cs,.jY=>(s,.fco cs (.lit 0),[])
 | .clo cs,.func f [.gZ (.ptr c r z k)]=>match KH f c z k 0 cs with
   | some i=>(s,.fco cs (Ui cs.length r i),[])
   | none=>(s,v,[])
 | _,v=>(s,v,[])
def jg:St->List CK->List AV->St × List AV × List PE
 | s,c::ks,v::l=>((jg (wK s c v).1 ks l).1,(wK s c v).2.1::(jg (wK s c v).1 ks l).2.1,(wK s c v).2.2++(jg (wK s c v).1 ks l).2.2)
 | s,[],l=>(s,l,[])
 | s,_::_,[]=>(s,[],[])
def bZ (ks:List CK):Nat->St->List AV->St × List AV × List PE
 | 0,s,_=>(s,[],[])
 | n+1,s,l=>
   let a:=jg s ks (l.take ks.length);let b:=bZ ks n a.1 (l.drop ks.length)
   (b.1,a.2.1++b.2.1,a.2.2++b.2.2)
def LU (s:St) (ks:List CK) (c:Nat) (m:Int) (l:List AV):Option (St × List PE):=
 let x:=jH s.mem [] l;let r:=bZ ks m.toNat { s with mem:=x.1 } x.2
 match rowsOf ks m.toNat r.2.1,get r.1.mem c with
 | some t,some (.cells _ true)=>some ({ r.1 with mem:=put c (.rows ks t (.lit m) true false) r.1.mem },r.2.2)
 | _,_=>none
def qz6 (M:Mem) (b:Nat) (q:E):Option (List CK):=
 match get M b with
 | some (.rows ks _ _ _ _)=>some ks
 | some (.ovr ks _ _ h _ _ _)=>if q=h then none else some ks
 | _=>none
def LC (s:St) (o:Op):Option (St × List PE):=
 match o with
 | .call { callee:=.builtin .append,args,.. }=>match args.toList with
   | [x,y]=>match evalOp s.tmps x,evalOp s.tmps y with
     | some (.slice b _ _ z _),some (.slice c (.lit 0) (.lit m) z' _)=>match get s.mem b,get s.mem c with
       | some (.rows ks _ _ _ _),some (.cells l true)=>if ks.all CK.plain || z != z' || z != ks.length || !decide (0<=m) || l.length != m.toNat*z || m == 0 then none else LU s ks c m l
       | _,_=>none
     | _,_=>none
   | _=>none
 | .store _ y (.tmp t)=>match evalOp s.tmps y,get s.tmps t with
   | some (.ptr b q _ k),some v=>match qz6 s.mem b q with
     | some ks=>if ks.all CK.plain then none else match v with
       | .agg l=>some ({ (jg s (ks.drop k) l).1 with tmps:=vU t (.agg (jg s (ks.drop k) l).2.1) (jg s (ks.drop k) l).1.tmps },(jg s (ks.drop k) l).2.2)
       | v=>match ks[k]? with
         | some c=>some ({ (wK s c v).1 with tmps:=vU t (wK s c v).2.1 (wK s c v).1.tmps },(wK s c v).2.2)
         | none=>none
     | _=>none
   | _,_=>none
 | _=>none
def xW (nb:Nat) (M:Mem):List AV->Nat × Mem × List AV
 | []=>(nb,M,[])
 | .lst (k::ks) e::l=>
   let r:=xW (nb+1) ((nb,Sr (k::ks) e)::M) l
   (r.1,r.2.1,Mw nb (k::ks) e::r.2.2)
 | v::l=>
   let r:=xW nb M l
   (r.1,r.2.1,v::r.2.2)
def Hl (s:St) (b:Nat) (r:E):Option (St × List PE):=
 match get s.mem b with
 | some (.rows ks t n wr nl)=>match jS ks t r 0 ks.length with
   | some l=>
     let x:=xW s.nb s.mem l
     some ({ s with mem:=put b (.ovr ks t n r x.2.2 wr nl) x.2.1,nb:=x.1 },kK r n)
   | none=>none
 | _=>none
def O5 (cx:Cx) (fn:FuncId) (bid:Nat) (s:St):Option (St × List PE):=
 match cx.pins.find? fun p=>p.1 == fn && p.2.1 == bid with
 | some p=>match get s.tmps p.2.2 with
   | some (.ptr b r _ 0)=>Hl s b r
   | _=>none
 | none=>none
def XK (s:St) (fn bid:Nat):List (FuncId × Nat × Nat × List CK)->Option (St × List PE)
 | []=>none
 | (f,b,t,ks)::l=>if f=fn/\b=bid then match get s.tmps t with
     | some (.slice c (.lit 0) (.lit m) z _)=>match get s.mem c with
       | some (.cells cs true)=>if z != ks.length || !decide (0<=m) || cs.length != m.toNat*z || m == 0 then XK s fn bid l else match LU s ks c m cs with
         | some r=>some r
         | none=>XK s fn bid l
       | _=>XK s fn bid l
     | _=>XK s fn bid l
   else XK s fn bid l
def PL (s:St) (b:Nat):Option (St × List PE):=
 match get s.mem b with
 | some (.ovr ks t n h l true nl)=>
   let r:=jg s ks l
   match yO ks t h 0 r.2.1,get r.1.mem b with
   | some t',some (.ovr _ _ _ _ _ true _)=>if l.length=ks.length then some ({ r.1 with mem:=put b (.rows ks t' n true nl) r.1.mem },kK h n++r.2.2) else none
   | _,_=>none
 | _=>none
def rW:List Nat->St->St × List PE
 | [],s=>(s,[])
 | b::l,s=>match PL s b with
   | some (s1,ps)=>((rW l s1).1,ps++(rW l s1).2)
   | none=>rW l s
def qqj (e:E) (n:Nat) (f:Clo->Tree):Nat->List Clo->Tree
 | _,[]=>.fail 51
 | i,c::cs=>o9 (mkBin .eq (if n=1 then .lit 0 else mkBin .tmod (mkSub e (.lit 1)) (.lit n)) (.lit i)) (f c) (qqj e n f (i+1) cs)
def Qn (M:Mem) (c:Clo) (r:E):AV × List PE:=
 match get M c.b with
 | some (.ovr _ _ _ h _ _ _)=>(.ptr c.b h c.s c.k,[.tt (mkBin .eq r h)])
 | _=>(.ptr c.b r c.s c.k,[])
def KD (e:E) (n:Nat):E:=if n=1 then mkSub e (.lit 1) else mkBin .tdiv (mkSub e (.lit 1)) (.lit n)
def Aa (P:Program) (s:St) (o:Op):Option (E × Bool):=
 match o with
 | .binOp q t x y _=>match evalOp s.tmps x,evalOp s.tmps y,P.underlying t with
   | some v,some .qJ,some (.slice _)=>match v,q with
     | .slice _ _ n _ true,.eql=>some (n,true)
     | .slice _ _ n _ true,.neq=>some (n,false)
     | .lst ks e,.eql=>some (j5 ks e,true)
     | .lst ks e,.neq=>some (j5 ks e,false)
     | _,_=>none
   | _,_,_=>none
 | _=>none
def Ao (s:St) (o:Oper) (n:E) (b:Bool) (k:St->Tree):Tree:=
 match yX s o.dst (.bool (.lit (if b then 1 else 0))),yX s o.dst (.bool (.lit (if b then 0 else 1))) with
 | some s1,some s2=>.both (o9 (mkBin .eq n (.lit 0)) (k s1) .ok) (k s2)
 | _,_=>.fail 52
def HY (cx:Cx) (e:Eng) (s:St) (o:Oper) (k:St->Tree):Tree:=
 match Aa cx.P s o.op with
 | some (n,b)=>Ao s o n b k
 | none=>
 match splitN s o with
 | some (b,x,q)=>o9 (mkBin .lt q (dR x)) (pI cx e (setIter s b x q 1) o k) (pI cx e (setIter s b x q 2) o k)
 | none=>match Rn cx.kn s o with
 | some (i,kd,x,n)=>Dw x (fun j=>pI cx e (setInt s i kd x j) o k) n
 | none=>match lookO s o.op with
 | some s1=>pI cx e s1 o k
 | none=>match LC s o.op with
 | some (s1,ps)=>qI ps (pI cx e s1 o k)
 | none=>pI cx e s o k
def oper (cx:Cx) (e:Eng) (ops:Array Oper) (s:St) (o:Oper) (k:St->Tree):Tree:=
 let go (s:St) (w:Bool):Tree:=
   if w then match Hu s o with
     | some (t,c)=>.branch c (pI cx e (setBool s t true) o k) (pI cx e (setBool s t false) o k)
     | none=>HY cx e s o k
   else match yX s o.dst .undef with
     | some s'=>k s'
     | none=>.fail 24
 match iX ops s o with
 | some (.inl w)=>go s w
 | some (.inr (t,c))=>match o.guard with
   | some (_,want)=>.branch c (go (setBool s t true) (true == want)) (go (setBool s t false) (false == want))
   | none=>.fail 25
 | none=>.fail 26
def aI (cx:Cx) (e:Eng) (ops:Array Oper):List Nat->St->(St->Tree)->Tree
 | [],s,k=>k s
 | i::l,s,k=>match ops[i]? with
   | some o=>oper cx e ops s o fun s'=>aI cx e ops l s' k
   | none=>aI cx e ops l s k
def rO (P:Program) (s:St):List ResultVar->Option (List AV)
 | []=>some []
 | .tmp t::l=>match get s.tmps t,rO P s l with
   | some v,some vs=>some (v::vs)
   | _,_=>none
 | .cell a t::l=>match get s.tmps a,wI P t,qo P t,rO P s l with
   | some (.ptr b r z k),some ag,some n,some vs=>match loadAt s.mem b r z k n ag with
     | some (v,[])=>some (v::vs)
     | _=>none
   | _,_,_,_=>none
def single:List AV->AV
 | [v]=>v
 | l=>.tup l
def number:Nat->List AV->qO
 | _,[]=>[]
 | n,v::l=>(n,v)::number (n+1) l
def YL:Code->Option (Option Tmp × Code)
 | .seq (.region _ ops false) c=>match ops.toList with
   | [o]=>match o.op,o.guard with
     | .call ⟨.builtin .recover,_,_⟩,none=>some (o.dst,c)
     | _,_=>none
   | _=>none
 | _=>none
def Fp (cx:Cx) (fn:Func) (s:St) (k:St->Tree) (x:Ex) (s':St):Tree:=
 match x with
 | .normal | .ret=>if s'.defers.isEmpty then match rO cx.P s' fn.results.toList with
     | some _=>k { s with mem:=s'.mem,nv:=s'.nv,nb:=s'.nb }
     | none=>.fail 30
   else .fail 37
 | _=>.fail 32
def TJ (cx:Cx) (e:Eng) (f:FuncId) (args:List AV) (s:St) (k:St->Tree):Tree:=
 match cx.P.funcs[f]? with
 | some fn=>match fn.body with
   | some c=>
     if fn.name == "runtime.NumGoroutine" then .fail 36 else
     if args.length<=fn.ntmps then match YL c with
       | some (d,c2)=>match yX { s with tmps:=number 0 args,nt:=fn.ntmps,defers:=[] } d .xk with
         | some s1=>e.exec f none 0 0 c2 s1 (Fp cx fn s k)
         | none=>.fail 38
       | none=>e.exec f none 0 0 c { s with tmps:=number 0 args,nt:=fn.ntmps,defers:=[] } (Fp cx fn s k)
     else .fail 33
   | none=>.fail 34
 | none=>.fail 35
def shut (cx:Cx) (e:Eng):List DV->St->(St->Tree)->Tree
 | [],s,k=>k s
 | .blk b::l,s,k=>match get s.mem b with
   | some (.dfr true)=>shut cx e l { s with mem:=put b (.dfr false) s.mem } k
   | _=>.fail 31
 | .fn f m cap::l,s,k=>TJ cx e f (m++cap) s fun s'=>shut cx e l s' k
def AV.U7 (f:List AV->List Nat->List Nat) (nb:Nat) (v:AV) (acc:List Nat):List Nat:=
 let one (b:Nat):List Nat:=match Nat.ble nb b with
   | true=>b::acc
   | false=>acc
 match v with
 | .ptr b _ _ _=>one b
 | .slice b _ _ _ _=>one b
 | .asl b _ _ _=>one b
 | .yld b=>one b
 | .mref b=>one b
 | .gZ a=>f [a] acc
 | .fco cs _=>cs.foldl (fun acc c=>match Nat.ble nb c.b with
   | true=>c.b::acc
   | false=>acc) acc
 | .func _ l=>f l acc
 | .yN _ l m=>f l (f m acc)
 | .agg l=>f l acc
 | .tup l=>f l acc
 | .big l _ _ _ m=>f l (f m acc)
 | _=>acc
def U6 (f:List AV->List Nat->List Nat) (nb:Nat):List AV->List Nat->List Nat
 | [],acc=>acc
 | v::l,acc=>U6 f nb l (v.U7 f nb acc)
def RV:Nat->Nat->List AV->List Nat->List Nat
 | 0,_=>fun _ acc=>acc
 | d+1,nb=>U6 (RV d nb) nb
def QH (nb:Nat) (l:List AV) (acc:List Nat):List Nat:=RV 8 nb l acc
def AV.refs (nb:Nat) (v:AV) (acc:List Nat):List Nat:=v.U7 (RV 8 nb) nb acc
def F7 (nb:Nat):qO->List Nat->List Nat
 | [],acc=>acc
 | (_,v)::l,acc=>F7 nb l (v.refs nb acc)
def Xl (nb:Nat):List CK->List Nat->List Nat
 | [],acc=>acc
 | .clo cs::l,acc=>Xl nb l (cs.foldl (fun acc c=>if nb<=c.b then c.b::acc else acc) acc)
 | _::l,acc=>Xl nb l acc
def Blk.refs (nb:Nat):Blk->List Nat->List Nat
 | .cells l _,acc=>QH nb l acc
 | .big l _ _ _ m _,acc=>QH nb l (QH nb m acc)
 | .loop _ _ _ _ _ ts d,acc=>F7 nb ts (if nb<=d then d::acc else acc)
 | .mp l m,acc=>QH nb l (QH nb m acc)
 | .bld _ _ d,acc=>if nb<=d then d::acc else acc
 | .rows ks _ _ _ _,acc=>Xl nb ks acc
 | .ovr ks _ _ _ l _ _,acc=>Xl nb ks (QH nb l acc)
 | _,acc=>acc
def lq (nb:Nat):Mem->List Nat->List Nat
 | [],acc=>acc
 | (b,x)::l,acc=>if b<nb then lq nb l (x.refs nb acc) else lq nb l acc
def Bt (m x:Nat):Bool:=Nat.beq (Nat.land (Nat.shiftRight m x) 1) 1
def mark (nb:Nat) (M:Mem):Nat->List Nat->Nat->Nat
 | 0,_,seen=>seen
 | _+1,[],seen=>seen
 | n+1,b::l,seen=>bif Bt seen b then mark nb M n l seen else match get M b with
   | some x=>mark nb M n (x.refs nb l) (Nat.lor seen (Nat.shiftLeft 1 b))
   | none=>mark nb M n l (Nat.lor seen (Nat.shiftLeft 1 b))
def gc (nb nb':Nat) (v:AV) (M:Mem):Mem:=
 if nb'<nb+30 then M else
   let seen:=mark nb M 2000 (lq nb M (v.refs nb [])) 0
   M.filter fun x=>decide (x.1<nb) || Bt seen x.1
def F8 (nb:Nat):List DV->List Nat->List Nat
 | [],acc=>acc
 | .blk b::l,acc=>F8 nb l (if nb<=b then b::acc else acc)
 | .fn _ m c::l,acc=>F8 nb l (QH nb c (QH nb m acc))
def gcR (nb:Nat) (s:St):Mem:=
 if s.nb<nb+12 then s.mem else
   let seen:=mark nb s.mem 2000 (lq nb s.mem (F7 nb s.tmps (F8 nb s.defers []))) 0
   s.mem.filter fun x=>decide (x.1<nb) || Bt seen x.1
def Yh (cx:Cx) (e:Eng) (f:FuncId) (args:List AV) (s:St) (k:AV->St->Tree):Tree:=
 match cx.P.funcs[f]? with
 | some fn=>match fn.body with
   | some c=>
     if fn.name == "runtime.NumGoroutine" then .fail 36 else
     match Tn cx.cs f args s with
     | some c=>FK c args s k
     | none=>
       if args.length<=fn.ntmps then
         e.exec f none 0 0 c { s with tmps:=number 0 args,nt:=fn.ntmps,defers:=[] } fun x s'=>
           match x with
           | .normal | .ret=>shut cx e s'.defers s' fun s''=>match rO cx.P s'' fn.results.toList with
               | some vs=>k (single vs) { s with mem:=gc s.nb s''.nb (single vs) s''.mem,nv:=s''.nv,nb:=s''.nb }
               | none=>.fail 30
           | _=>.fail 32
       else .fail 33
   | none=>.fail 34
 | none=>.fail 35
def vg:List Nat->List AV->qO->qO
 | t::ps,v::vs,ts=>vg ps vs (vU t v ts)
 | _,_,ts=>ts
def yield (cx:Cx) (e:Eng) (b:Nat) (args:List AV) (s:St) (k:AV->St->Tree):Tree:=
 match get s.mem b with
 | some (.loop .ready _ fn ix nt ts _)=>match Jw cx.P fn ix with
   | some rf=>
     if args.length=rf.params.length/\rf.params.all (·<nt) then
       e.exec fn (some b) 0 (ix+1) rf.assign { s with tmps:=vg rf.params args ts,nt:=nt,defers:=[] } fun x s1=>
         match x,get s1.mem b with
         | .normal,some (.loop .ready Ho fn1 ix1 nt1 ts1 d1)=>
           if fn1=fn/\ix1=ix then
           e.exec fn (some b) 0 (ix+1+(rfs rf.assign).length) rf.body { s1 with mem:=put b (.loop .busy Ho fn1 ix1 nt1 ts1 d1) s1.mem } fun y s2=>
             match get s2.mem b with
             | some (.loop _ _ fn2 ix2 nt2 ts2 d2)=>
               let j:Option Jump:=match y with
                 | .normal=>none
                 | .ret=>some .ret
                 | .exit id=>some (.exit id)
                 | .goto l=>some (.goto l)
               k (.bool (.lit (if j.isNone then 1 else 0)))
                 { s with mem:=put b (.loop (if j.isNone then .ready else .done) j fn2 ix2 nt2 ts2 d2) s2.mem,nv:=s2.nv,nb:=s2.nb }
             | _=>.fail 43
           else .fail 45
         | _,_=>.fail 42
     else .fail 41
   | none=>.fail 40
 | _=>.fail 44
def Qs (cx:Cx) (e:Eng) (f:AV) (args:List AV) (s:St) (k:AV->St->Tree):Tree:=
 match f with
 | .func g cap=>Yh cx e g (args++cap) s k
 | .yN g m cap=>Yh cx e g (m++args++cap) s k
 | .yld b=>yield cx e b args s k
 | .fco cs x=>qI [.tt (mkBin .lt (.lit 0) x)] (qqj x cs.length (fun c=>qI (Qn s.mem c (KD x cs.length)).2 (Yh cx e c.f (args++[.gZ (Qn s.mem c (KD x cs.length)).1]) s k)) 0 cs)
 | _=>.fail 50
def Ns:=Nat
def Ns.has (m:Ns) (i:Nat):Bool:=Nat.beq (Nat.land (Nat.shiftRight m i) 1) 1
instance:Membership Nat Ns:=⟨fun m i=>m.has i=true⟩
def Ns.none:Ns:=(0:Nat)
def Ns.add (m:Ns) (i:Nat):Ns:=Nat.lor m (Nat.shiftLeft 1 i)
theorem qqy (m i:Nat):Nat.beq (Nat.land (Nat.shiftRight m i) 1) 1=Nat.testBit m i:=by
 show Nat.beq ((m >>> i) &&& 1) 1=_;rw [Nat.and_one_is_mod,Nat.testBit_eq_decide_div_mod_eq,Nat.shiftRight_eq_div_pow,Bool.eq_iff_iff,decide_eq_true_eq];exact Nat.beq_eq ▸ Iff.rfl
theorem Ns.has_eq {m:Ns} {i:Nat}:m.has i=Nat.testBit m i:=qqy m i
theorem Ns.mem_iff {m:Ns} {i:Nat}:i∈m↔m.has i=true:=Iff.rfl
theorem Ns.oq {i:Nat}:i ∉ Ns.none:=fun h=>by
 rw [Ns.mem_iff,Ns.has_eq] at h;exact absurd h (by simp [Ns.none])
theorem Ns.zN {m:Ns} {i k:Nat}:k∈m.add i↔k=i\/k∈m:=by
 rw [Ns.mem_iff,Ns.mem_iff,Ns.has_eq,Ns.has_eq];have e:(m.add i:Nat)=(show Nat from m) ||| (1 <<< i):=rfl
 rw [e,Nat.testBit_or,Nat.one_shiftLeft,Nat.testBit_two_pow,Bool.or_eq_true,decide_eq_true_eq];constructor
 . rintro (h | h)
   . exact .inr h
   . exact .inl h.symm
 . rintro (h | h)
   . exact .inr h.symm
   . exact .inl h
structure Dr where
 s:St
 done:Ns
 qs:List Nat
 dec:List (E × Bool)
 /-- Blocks made ahead of the machine: operation, number, what is in them. -/
 fl:List (Nat × Nat × Blk):=[]
noncomputable def Jv (m:Ns) (l:List Nat):List Nat:=
 List.rec (motive:=fun _=>List Nat) [] (fun i _ r=>Bool.rec (motive:=fun _=>List Nat) (i::r) r (m.has i)) l
theorem Jy {m:Ns}:∀{l:List Nat},Jv m l=l.filter fun i=>!m.has i
 | []=>rfl
 | i::l=>by
   show Bool.rec (motive:=fun _=>List Nat) (i::Jv m l) (Jv m l) (m.has i)=_;rw [Jy (l:=l)];cases h:m.has i <;> simp [List.filter,h]
def bR:List Edge->Nat
 | []=>0
 | e::l=>if Region.binds .any e then Nat.lor (bR l) (Nat.shiftLeft 1 e.on) else bR l
def ZH (done:Ns) (l:List Edge):Bool:=Nat.beq (Nat.land (bR l) done) (bR l)
def nY (o:Oper) (done:Ns):Bool:=ZH done o.after.toList
def uO (acc:List Nat):List Edge->Nat
 | []=>0
 | e::l=>if Region.binds .any e then (1 <<< e.on) ||| ((acc[e.on]?).getD 0 ||| uO acc l) else uO acc l
def masks:List Oper->List Nat->List Nat
 | [],acc=>acc
 | o::l,acc=>masks l (acc++[uO acc o.after.toList])
def before (ops:Array Oper) (i:Nat):Nat:=((masks ops.toList [])[i]?).getD 0
def gX:List Operand->List Nat
 | []=>[]
 | .tmp t::l=>t::gX l
 | _::l=>gX l
def Qy (ops:Array Oper) (o:Oper):List Nat:=
 match o.guard with
 | none=>[]
 | some (j,_)=>match (ops[j]?).bind (·.dst) with
   | some t=>[t]
   | none=>[]
def readsOf (ops:Array Oper) (o:Oper):List Nat:=Qy ops o++gX o.op.operands.toList
def Zh:List Oper->List Nat
 | []=>[]
 | o::l=>match o.dst with
   | some d=>d::Zh l
   | none=>Zh l
def Fh (ops:Array Oper):Bool:=
 nodup (Zh ops.toList) &&
 (List.range ops.size).all fun i=>match ops[i]? with
   | none=>true
   | some o=>(o.after.all fun e=>!(Region.binds .any e) || decide (e.on<i)) && (match o.op with | .select ..=>false | _=>true) &&
     (List.range ops.size).all fun j=>match (ops[j]?).bind (·.dst) with
       | none=>true
       | some d=>!(readsOf ops o).contains d || (before ops i).testBit j || i == j || (before ops j).testBit i
def oJ (ops:Array Oper) (j:Nat):Bool:=
 match (ops[j]?).bind (·.dst) with
 | none=>false
 | some d=>(List.range ops.size).any fun i=>match ops[i]? with
   | none=>false
   | some o=>(readsOf ops o).contains d && !(before ops i).testBit j
inductive Out where
 | skip
 | val (v:AV) (ps:List PE)
 | dec (c:E)
inductive Want where
 | yes
 | no
 | dec (c:E)
def Fj (c:E):List (E × Bool)->Option Bool
 | []=>none
 | (c',b)::l=>if c'=c then some b else Fj c l
def dG (ops:Array Oper) (d:Dr) (o:Oper):Option Want:=
 match o.guard with
 | none=>some .yes
 | some (j,want)=>match (ops[j]?).bind (·.dst) with
   | some t=>match get d.s.tmps t with
     | some (.bool e)=>match e with
       | .lit n=>some (if (n != 0) == want then .yes else .no)
       | e=>match Fj e d.dec with
         | some b=>some (if b == want then .yes else .no)
         | none=>some (.dec e)
     | some .undef=>some .no
     | _=>none
   | none=>none
def Jo (e:E) (dec:List (E × Bool)):Nat->Option (Nat ⊕ Nat)
 | 0=>none
 | n+1=>match Fj (mkBin .eq e (.lit n)) dec with
   | some true=>some (.inl n)
   | some false=>Jo e dec n
   | none=>some (.inr n)
def Jh (P:Program) (kn:Kn) (d:Dr) (o:Op):Option Out:=
 match o with
 | .pick (.tmp t) a b=>match get d.s.tmps t with
   | some (.bool (.lit n))=>(if n=0 then evalOp d.s.tmps b else evalOp d.s.tmps a).map fun v=>.val v []
   | some (.bool e)=>match Fj e d.dec with
     | some x=>(if x then evalOp d.s.tmps a else evalOp d.s.tmps b).map fun v=>.val v []
     | none=>some (.dec e)
   | _=>none
 | o=>match YB kn d.s o with
   | some (i,k,e,n)=>match Jo e d.dec n with
     | some (.inl j)=>(quiet P kn (FU d.s i k j).tmps d.s.mem o).map fun (v,ps)=>.val v ps
     | some (.inr j)=>some (.dec (mkBin .eq e (.lit j)))
     | none=>none
   | none=>(quiet P kn d.s.tmps d.s.mem o).map fun (v,ps)=>.val v ps
def K9 (P:Program) (kn:Kn) (ops:Array Oper) (d:Dr) (o:Oper):Option Out:=
 match dG ops d o with
 | some .yes=>Jh P kn d o.op
 | some .no=>some .skip
 | some (.dec c)=>some (.dec c)
 | none=>none
def ig (P:Program) (kn:Kn) (ops:Array Oper) (d:Dr):List Nat->Option (Nat × Oper × Out)
 | []=>none
 | i::l=>match ops[i]? with
   | some o=>if nY o d.done && !oJ ops i then match K9 P kn ops d o with
       | some x=>some (i,o,x)
       | none=>ig P kn ops d l
     else ig P kn ops d l
   | none=>ig P kn ops d l
def recheck (P:Program) (kn:Kn) (ops:Array Oper) (d:Dr) (bf:Nat):List Nat->Option (List PE)
 | []=>some []
 | q::l=>if bf.testBit q then recheck P kn ops d bf l else match ops[q]? with
   | some o=>match K9 P kn ops d o,recheck P kn ops d bf l with
     | some .skip,some ps=>match o.dst with
       | none=>some ps
       | some t=>match get d.s.tmps t with
         | some .undef=>if t<d.s.nt then some ps else none
         | _=>none
     | some (.val v p),some ps=>match o.dst with
       | none=>some (p++ps)
       | some t=>match get d.s.tmps t with
         | some w=>if t<d.s.nt/\Fix.le { nv:=d.s.nv,nb:=d.s.nb,kb:=d.s.nb,σ:=[],ρ:=[] } w v=true then some (p++ps) else none
         | none=>none
     | _,_=>none
   | none=>none
def Qj:Option Want->Bool
 | some .yes=>true
 | _=>false
def nW (ops:Array Oper) (done:Ns):List Nat->List Nat
 | []=>[]
 | i::l=>match ops[i]? with
   | some o=>if nY o done then i::nW ops done l else nW ops done l
   | none=>nW ops done l
def TT (f:Nat->Tree):List Nat->Tree
 | []=>.ok
 | [i]=>f i
 | i::l=>.both (f i) (TT f l)
def JQ (cx:Cx) (e:Eng) (s:St) (o:Oper) (k:St->Tree):Tree:=
 match Mk cx.P cx.kn s o.op with
 | some (v,s1,ps)=>match yX s1 o.dst v with
   | some s'=>qI ps (k s')
   | none=>.fail 72
 | none=>match KM s.tmps o.op with
   | some (f,l)=>e.tH f l s fun v s1=>match yX s1 o.dst v with
     | some s'=>k s'
     | none=>.fail 73
   | none=>match quiet cx.P cx.kn s.tmps s.mem o.op with
     | some (v,ps)=>match yX s o.dst v with
       | some s'=>qI ps (k s')
       | none=>.fail 74
     | none=>.fail 70
def R7 (cx:Cx) (e:Eng) (s:St) (o:Oper) (k:St->Tree):Tree:=
 match LC s o.op with
 | some (s1,ps)=>qI ps (JQ cx e s1 o k)
 | none=>match lookO s o.op with
   | some s1=>JQ cx e s1 o k
   | none=>JQ cx e s o k
def jX (P:Program) (kn:Kn) (s:St) (o:Op):Option (AV × Blk):=
 match o with
 | .alloc _ | .box _ _ | .makeSlice .. | .buildSlice .. | .makeMap ..=>match Mk P kn { s with mem:=[] } o with
   | some (v,s1,[])=>match s1.mem with
     | [(_,x)]=>some (v,x)
     | _=>none
   | _=>none
 | _=>none
def iQ (P:Program) (kn:Kn) (ops:Array Oper) (d:Dr):List Nat->Option (Nat × Oper × AV × Blk)
 | []=>none
 | i::l=>match ops[i]? with
   | some o=>if Qj (dG ops d o) && !oJ ops i then match jX P kn d.s o.op with
       | some (v,x)=>some (i,o,v,x)
       | none=>iQ P kn ops d l
     else iQ P kn ops d l
   | none=>iQ P kn ops d l
def yw (bf:Nat):List (Nat × Nat × Blk)->Mem
 | []=>[]
 | (i,b,x)::l=>if bf.testBit i then (b,x)::yw bf l else yw bf l
def wW (bf:Nat):List (Nat × Nat × Blk)->List (Nat × Nat × Blk)
 | []=>[]
 | y::l=>if bf.testBit y.1 then wW bf l else y::wW bf l
def GX:List (Nat × Nat × Blk)->Mem
 | []=>[]
 | (_,b,x)::l=>(b,x)::GX l
def behind:Nat->Nat->Mem->Option Mem
 | 0,_,_=>none
 | _+1,_,[]=>none
 | n+1,b,x::M=>match Nat.beq x.1 b with
   | true=>some M
   | false=>behind n b M
/- Old blocks were there,new ones may be written. (Both lists are gone through side by side: they are alike but for their beginnings.) -/
def bid (b:Bool):Bool:=b
noncomputable def gB (nb:Nat) (M0 M':Mem):Mem->Bool:=
 List.rec (motive:=fun _=>Mem->Bool) (fun _=>true)
   (fun x _ r M=>Bool.rec (motive:=fun _=>Bool)
     (let slow:Bool:=match behind 4 x.1 M with
       | some M1=>r M1
       | none=>(get M0 x.1).isSome && r M
      List.rec (motive:=fun _=>Bool) slow (fun y M1 _=>Bool.rec (motive:=fun _=>Bool) slow (bid (r M1)) (Nat.beq y.1 x.1)) M)
     (x.2.wr && r M) (Nat.ble nb x.1)) M'
theorem Gn {nb:Nat} {M0 M l:Mem} {x:Nat × Blk}:gB nb M0 (x::l) M=match Nat.ble nb x.1 with
   | true=>x.2.wr && gB nb M0 l M
   | false=>match behind 4 x.1 M with
     | some M1=>gB nb M0 l M1
     | none=>(get M0 x.1).isSome && gB nb M0 l M:=by
 show Bool.rec (motive:=fun _=>Bool) (List.rec (motive:=fun _=>Bool) (match behind 4 x.1 M with
       | some M1=>gB nb M0 l M1
       | none=>(get M0 x.1).isSome && gB nb M0 l M) (fun y M1 _=>Bool.rec (motive:=fun _=>Bool) (match behind 4 x.1 M with
       | some M1=>gB nb M0 l M1
       | none=>(get M0 x.1).isSome && gB nb M0 l M) (gB nb M0 l M1) (Nat.beq y.1 x.1)) M) (x.2.wr && gB nb M0 l M) (Nat.ble nb x.1)=_
 cases Nat.ble nb x.1 with
 | true=>rfl
 | false=>
   cases M with
   | nil=>rfl
   | cons y M1=>
     simp only [behind];cases Nat.beq y.1 x.1 <;> rfl
def Xu (nb:Nat) (M M':Mem):Bool:=gB nb M M' M
theorem Zk {b:Nat}:∀{n:Nat} {M M1:Mem},behind n b M=some M1->(get M b).isSome=true/\∀c,(get M1 c).isSome=true->(get M c).isSome=true
 | 0,_,_,h=>by simp [behind] at h
 | _+1,[],_,h=>by simp [behind] at h
 | n+1,(k,x)::M,M1,h=>by
   simp only [behind] at h
   have up:∀c,(get M c).isSome=true->(get ((k,x)::M) c).isSome=true:=fun c hc=>by
     rw [qQ];split
     . rfl
     . exact hc
   split at h
   . rename_i hk;cases h;have hk:=Nat.eq_of_beq_eq_true hk;exact ⟨by rw [qQ,if_pos hk];rfl,up⟩
   . obtain ⟨h1,h2⟩:=Zk h;exact ⟨up _ h1,fun c hc=>up c (h2 c hc)⟩
theorem nP {nb:Nat} {M0:Mem}:∀{M' M:Mem},(∀c,(get M c).isSome=true->(get M0 c).isSome=true)->gB nb M0 M' M=true->(M'.all fun x=>if x.1<nb then (get M0 x.1).isSome else x.2.wr)=true
 | [],_,_,_=>rfl
 | x::l,M,hM,h=>by
   rw [Gn] at h;rw [List.all_cons,Bool.and_eq_true];split at h
   . rename_i hb;have hb:=Nat.le_of_ble_eq_true hb;rw [Bool.and_eq_true] at h;refine ⟨?_,nP hM h.2⟩;rw [if_neg (by omega)];exact h.1
   . rename_i hb;have hb:x.1<nb:=Nat.not_le.1 (Nat.not_le_of_not_ble_eq_true (by rw [hb];simp));rw [if_pos hb];split at h
     . rename_i M1 h1;obtain ⟨h2,h3⟩:=Zk h1;exact ⟨hM _ h2,nP (fun c hc=>hM c (h3 c hc)) h⟩
     . rw [Bool.and_eq_true] at h;exact ⟨h.1,nP hM h.2⟩
theorem J8 {nb:Nat} {M M':Mem} (h:Xu nb M M'=true):(M'.all fun x=>if x.1<nb then (get M x.1).isSome else x.2.wr)=true:=nP (fun _ h=>h) h
def frameT (old:qO) (dst:Option Tmp) (new:qO):Option qO:=
 match dst with
 | none=>some old
 | some d=>match get new d with
   | some v=>some (vU d v old)
   | none=>none
def dx (cx:Cx) (e:Eng) (ops:Array Oper):Nat->Dr->(St->Tree)->Tree
 | 0,_,_=>.fail 79
 | n+1,d,k=>
   match Jv d.done (List.range ops.size) with
   | []=>k { d.s with mem:=GX d.fl++d.s.mem }
   | l=>match ig cx.P cx.kn ops d l with
     | some (i,o,x)=>match x with
       | .skip=>match yX d.s o.dst .undef with
         | some s'=>nT (d.done.add i) fun dn=>dx cx e ops n { d with s:=s',done:=dn,qs:=i::d.qs } k
         | none=>.fail 74
       | .val v ps=>match yX d.s o.dst v with
         | some s'=>qI ps (nT (d.done.add i) fun dn=>dx cx e ops n { d with s:=s',done:=dn,qs:=i::d.qs } k)
         | none=>.fail 75
       | .dec c=>qI [.sort false c] <| .branch c (dx cx e ops n { d with dec:=(c,true)::d.dec } k) (dx cx e ops n { d with dec:=(c,false)::d.dec } k)
     | none=>match nW ops d.done l with
       | []=>.fail 76
       | r=>match iQ cx.P cx.kn ops d r with
         | some (i,o,v,x)=>match yX { d.s with nb:=d.s.nb+1 } o.dst v with
           | some s'=>nT (d.done.add i) fun dn=>dx cx e ops n { d with s:=s',done:=dn,fl:=(i,d.s.nb,x)::d.fl } k
           | none=>.fail 64
         | none=>TT (fun i=>match ops[i]? with
         | some o=>if Qj (dG ops d o) then
             let M:=yw (before ops i) d.fl++d.s.mem
             R7 cx e { d.s with mem:=M } o fun s1=>
             if !Xu d.s.nb M s1.mem then .fail 65 else
             match frameT d.s.tmps o.dst s1.tmps with
             | none=>.fail 66
             | some ts=>
             let s':={ s1 with tmps:=ts }
             match recheck cx.P cx.kn ops { d with s:=s' } (before ops i) d.qs with
             | some ps=>qI ps (nT (d.done.add i) fun dn=>dx cx e ops n { d with s:=s',done:=dn,fl:=wW (before ops i) d.fl } k)
             | none=>.fail 77
           else .fail 78
         | none=>.fail 71) r
def Rm (h:St) (b:Nat) (x:E):E:=match get h.mem b with
 | some (.rows _ _ n _ _)=>mkBin .and (mkBin .le (.lit 0) x) (mkBin .lt x n)
 | _=>.lit 0
def JU (_cx:Cx) (e:Eng) (a:Ann) (fn:FuncId) (rnd:Option Nat) (bid o:Nat) (c:Code) (s:St) (k:Ex->St->Tree):Tree:=
 let h:=a.head s;let u:=vM s.nv s.nb a.sorts.length a.nbl h s
 if !(u.leS h s) || !(decide (u.σ.length=a.sorts.length)) then .fail 60 else
 let body:Ex->St->Tree:=fun x s1=>
     match x with
     | .normal=>
       let u1:=vM s.nv s.nb a.sorts.length a.nbl h s1
       if !(u1.leS h s1) || !(decide (u1.σ.length=a.sorts.length)) then (if a.leave then e.loop fn rnd bid o c s1 k else .fail 61) else
       qI (gY a.sorts u1.σ++a.inv.map (PE.subst s.nv u1.σ)) <|
         qI [.tt (mkBin .le (.lit 0) (a.meas.subst s.nv u1.σ)),.tt (mkBin .lt (a.meas.subst s.nv u1.σ) a.meas)] .ok
     | x=>k x s1
 qI (gY a.sorts u.σ++a.inv.map (PE.subst s.nv u.σ)) <| sN a.sorts <| assumes a.inv <| qI [.sort false a.meas] <|
   match a.split with
   | none=>e.exec fn rnd bid o c h body
   | some (t,x,b,l)=>match get h.tmps t with
     | some (.int kd y)=>match Hl (YR l { h with tmps:=vU t (.int kd x) h.tmps }) b x with
       | some (h',ps)=>qI [.sort false (Gy l (mkBin .and (mkBin .eq y x) (Rm h b x)))] <| .branch (Gy l (mkBin .and (mkBin .eq y x) (Rm h b x))) (qI ps (e.exec fn rnd bid o c h' body)) (e.exec fn rnd bid o c h body)
       | none=>.fail 62
     | _=>.fail 63
def JL (cx:Cx) (e:Eng) (fn:FuncId) (rnd:Option Nat) (bid o:Nat) (c:Code) (s:St) (k:Ex->St->Tree):Tree:=
 match O5 cx fn bid s with
 | some (s',ps)=>qI ps (e.loop fn rnd bid o c s' k)
 | none=>match XK s fn bid cx.SE with
 | some (s',ps)=>qI ps (e.loop fn rnd bid o c s' k)
 | none=>match Ud cx.dJ fn bid s with
 | some a=>JU cx e a fn rnd bid o c s k
 | none=>if cx.stops.contains (fn,bid) then .fail 53 else e.exec fn rnd bid o c s fun x s1=>match x with
   | .normal=>let s2:St:={ s1 with tmps:=oZ s.tmps s1.tmps }
     e.loop fn rnd bid o c { s2 with mem:=gcR s.nb s2 } k
   | x=>k x s1
def Jd (l:Nat) (k:Ex->St->Tree) (s3:St):Tree:=
 match get s3.mem l with
 | some (.loop st j fn' ix' nt' ts' d')=>
   if st=.busy then .fail 82 else
   let s4:={ s3 with mem:=Sx.put l (.loop .exhausted j fn' ix' nt' ts' d') s3.mem }
   match j with
   | none=>k .normal s4
   | some .ret=>k .ret s4
   | some (.exit id)=>k (.exit id) s4
   | some (.goto _)=>.fail 83
 | _=>.fail 84
def Za (e:Eng) (fn:FuncId) (o:Nat) (gf:FuncId) (cap:List AV) (d:Nat) (s1:St) (k:Ex->St->Tree):Tree:=
 e.tH (.func gf cap) [.yld s1.nb] (zm s1 (.loop .ready none fn o s1.nt s1.tmps d)) fun _ s3=>Jd s1.nb k s3
def yM (cx:Cx) (e:Eng) (fn:FuncId) (rnd:Option Nat) (bid o:Nat) (c:Code) (s:St) (k:Ex->St->Tree):Tree:=
 match c with
 | .skip=>k .normal s
 | .label _=>k .normal s
 | .ret=>k .ret s
 | .exit id=>k (.exit id) s
 | .seq a b=>e.exec fn rnd bid o a s fun x s1=>match x with
   | .normal=>e.exec fn rnd bid (o+(rfs a).length) b s1 k
   | x=>k x s1
 | .block id b=>e.exec fn rnd id o b s fun x s1=>match x with
   | .exit id'=>if id'=id then k .normal s1 else k (.exit id') s1
   | x=>k x s1
 | .scope b=>e.exec fn rnd bid o b s fun x s1=>match x with
   | .goto _=>.fail 88
   | x=>k x s1
 | .cond c a b=>match evalOp s.tmps c with
   | some (.bool (.lit n))=>if n=0 then e.exec fn rnd bid (o+(rfs a).length) b s k else e.exec fn rnd bid o a s k
   | some (.bool x)=>.branch x (e.exec fn rnd bid o a s k) (e.exec fn rnd bid (o+(rfs a).length) b s k)
   | _=>.fail 80
 | .loop b=>e.loop fn rnd bid o b s k
 | .region _ ops false=>if rnd.isSome && ops.any (fun o=>bQ o.op) then .fail 28 else aI cx e ops (List.range ops.size) s fun s'=>k .normal s'
 | .region _ ops true=>if Fh ops && cx.P.follows .mixedOrders then
     dx cx e ops (ops.size*4+80) { s,done:=Ns.none,qs:=[],dec:=[] } fun s'=>k .normal s'
   else .fail 81
 | .rangeFunc f _ _ _=>match evalOp s.tmps f with
   | some (.func gf cap)=>match rnd with
     | none=>Za e fn o gf cap s.nb (let s1:=zm s (.dfr true);{ s1 with defers:=.blk s.nb::s1.defers }) k
     | some l0=>match get s.mem l0 with
       | some (.loop _ _ _ _ _ _ d)=>Za e fn o gf cap d s k
       | _=>.fail 85
   | _=>.fail 86
 | _=>.fail 89
def Uh (cx:Cx) (e:Eng):Eng where
 exec:=yM cx e
 loop:=JL cx e
 tH:=Qs cx e
def eng (cx:Cx):Nat->Eng
 | 0=>{ exec:=fun _ _ _ _ _ _ _=>.fail 90,loop:=fun _ _ _ _ _ _ _=>.fail 91,tH:=fun _ _ _ _=>.fail 92 }
 | n+1=>Uh cx (eng cx n)
def UO (u:Fix) (x:Nat × Blk) (M:Mem):Option (Nat × Blk × List PE):=
 match x with
 | (b,.rows _ tp n _ _)=>match u.img b with
   | some c=>match get M c with
     | some (.rows ks t n' w nl)=>if u.e n == n' then (if u.e tp == t then none else match tp with
         | .kt _=>some (c,.rows ks (u.e tp) n' w nl,[.agr (u.e tp) t n' ks.length])
         | _=>none) else some (c,.rows ks t (u.e n) w nl,[.tt (mkBin .le (.lit 0) (u.e n)),.tt (mkBin .le (u.e n) n')])
     | _=>none
   | none=>none
 | (b,.big _ _ tp _ _ _)=>match u.img b with
   | some c=>match get M c with
     | some (.big l ks t n m w)=>if u.e tp == t then none else match tp with
         | .var _=>none
         | _=>some (c,.big l ks (u.e tp) n m w,[.agr (u.e tp) t (.lit n) ks.length])
     | _=>none
   | none=>none
 | _=>none
def Wd (u:Fix):Mem->Mem->Mem × List PE
 | [],M=>(M,[])
 | x::l,M=>match UO u x M with
   | some (c,y,ps)=>let r:=Wd u l (put c y M);(r.1,ps++r.2)
   | none=>Wd u l M
def ZX (c:Contract) (v:AV) (s:St):Tree:=
 let n:=c.sorts.length;let h:St:={ tmps:=[(0,c.res)],nt:=0,defers:=[],mem:=c.mods++c.fresh,nv:=n,nb:=c.nb };let t:St:={ tmps:=[(0,v)],nt:=0,defers:=[],mem:=s.mem,nv:=n,nb:=c.nb };let u:=vM n c.nb c.outs.length c.fresh.length h t
 if !(u.leS h t) || !(decide (u.σ.length=c.outs.length)) then .fail 100 else
 qI (gY c.outs u.σ++c.post.map (PE.subst n u.σ)) .ok
def CU:Mem->List Nat
 | []=>[]
 | (b,.ovr _ _ _ _ _ true _)::l=>b::CU l
 | _::l=>CU l
def finish (c:Contract) (v:AV) (s:St):Tree:=
 let n:=c.sorts.length;let h:St:={ tmps:=[(0,c.res)],nt:=0,defers:=[],mem:=c.mods++c.fresh,nv:=n,nb:=c.nb };let t:St:={ tmps:=[(0,v)],nt:=0,defers:=[],mem:=s.mem,nv:=n,nb:=c.nb }
 match Wd (vM n c.nb c.outs.length c.fresh.length h t) (c.mods++c.fresh) s.mem with
 | (_,[])=>ZX c v s
 | (M,p::ps)=>qI (p::ps) (ZX c v { s with mem:=M })
def Ub (c:Contract) (v:AV) (s:St):Tree:=
 qI (rW (CU s.mem) s).2 (finish c v (rW (CU s.mem) s).1)
def verify (cx:Cx) (fuel:Nat) (c:Contract):Tree:=
 match cx.P.funcs[c.fn]? with
 | some fn=>match fn.body with
   | some _=>
     assumes c.pre <|
       Yh { cx with cs:=[] } (eng cx fuel) c.fn c.args { tmps:=[],nt:=0,defers:=[],mem:=c.mem,nv:=c.sorts.length,nb:=c.nb } fun v s=>Ub c v s
   | none=>.fail 101
 | none=>.fail 102
end Go.Sx
noncomputable section
namespace Go.Sx
open Go
structure PB where
 blk:Nat
 base:Nat
 tot:Nat
structure G where
 env:List D
 φ:Nat->Option PB
 nb:Nat
 /-- Blocks that are not written any more: their cells. -/
 fz:Nat->Option (Array Value):=fun _=>none
def G.wf (g:G):Prop:=∀b,g.nb<=b->g.φ b=none
structure G.Le (g g':G):Prop where
 env:∃xs,g'.env=g.env++xs
 nb:g.nb<=g'.nb
 φ:∀b,b<g.nb->g'.φ b=g.φ b
 fz:∀o c,g.fz o=some c->g'.fz o=some c
theorem G.Le.refl (g:G):g.Le g:=⟨⟨[],by simp⟩,Nat.le_refl _,fun _ _=>rfl,fun _ _ h=>h⟩
theorem G.Le.trans {g h k:G} (a:g.Le h) (b:h.Le k):g.Le k:=by
 obtain ⟨⟨xs,hx⟩,h1,h2,z1⟩:=a;obtain ⟨⟨ys,hy⟩,h3,h4,z2⟩:=b;exact ⟨⟨xs++ys,by rw [hy,hx,List.append_assoc]⟩,Nat.le_trans h1 h3,fun b hb=>by rw [h4 b (Nat.lt_of_lt_of_le hb h1),h2 b hb],fun o c h=>z2 o c (z1 o c h)⟩
theorem G.wf.lt {g:G} (h:g.wf) {b:Nat} {p:PB} (hb:g.φ b=some p):b<g.nb:=by
 rcases Nat.lt_or_ge b g.nb with h1 | h1
 . exact h1
 . rw [h b h1] at hb;cases hb
theorem G.Le.some {g g':G} (h:g.Le g') (hw:g.wf) {b:Nat} {p:PB} (hb:g.φ b=some p):g'.φ b=some p:=by
 rw [h.φ b (hw.lt hb)];exact hb
theorem E.zT {I:Itp} {env xs:List D}:∀{e:E} {d:D},e.den I env=some d->e.den I (env++xs)=some d:=by
 intro e
 induction e with
 | lit n=>intro d h;exact h
 | zt=>intro d h;exact h
 | kt row=>intro d h;exact h
 | bt b=>intro d h;exact h
 | var i=>
   intro d h;simp only [E.den] at h ⊢;obtain ⟨hl,_⟩:=List.getElem?_eq_some_iff.1 h;rw [List.getElem?_append_left hl];exact h
 | bin o a b iha ihb=>
   intro d h;simp only [E.den] at h ⊢;split at h
   . rename_i x y h1 h2;rw [iha h1,ihb h2];exact h
   . cases h
 | wrap k a ih=>
   intro d h;simp only [E.den] at h ⊢;split at h
   . rename_i x h1;rw [ih h1];exact h
   . cases h
 | sel t r c iht ihr=>
   intro d h;simp only [E.den] at h ⊢;split at h
   . rename_i x y h1 h2;rw [iht h1,ihr h2];exact h
   . cases h
 | upd t r c v iht ihr ihv=>
   intro d h;simp only [E.den] at h ⊢;split at h
   . rename_i x y z h1 h2 h3;rw [iht h1,ihr h2,ihv h3];exact h
   . cases h
 | cat t n u iht ihn ihu=>
   intro d h;simp only [E.den] at h ⊢;split at h
   . rename_i x y z h1 h2 h3;rw [iht h1,ihn h2,ihu h3];exact h
   . cases h
 | sh t n iht ihn=>
   intro d h;simp only [E.den] at h ⊢;split at h
   . rename_i x y h1 h2;rw [iht h1,ihn h2];exact h
   . cases h
 | teq t n u m iht ihn ihu ihm=>
   intro d h;simp only [E.den] at h ⊢;split at h
   . rename_i x y z v h1 h2 h3 h4;rw [iht h1,ihn h2,ihu h3,ihm h4];exact h
   . cases h
 | fn j a b c d iha ihb ihc ihd=>
   intro x h;simp only [E.den] at h ⊢;split at h
   . rename_i x1 x2 x3 x4 h1 h2 h3 h4;rw [iha h1,ihb h2,ihc h3,ihd h4];exact h
   . cases h
theorem E.qE {I:Itp} {g g':G} (h:g.Le g') {e:E} {d:D} (he:e.den I g.env=some d):e.den I g'.env=some d:=by
 obtain ⟨⟨xs,hx⟩,_,_⟩:=h;rw [hx];exact E.zT he
def LV (fz:Nat->Option (Array Value)) (ks:List SK) (n:Int) (x:Value):Prop:=
 ((∃a:Option Addr,x=.slice a 0 0)/\gy n=[])\/∃(o off len cap:Nat) (cs:Array Value),x=.slice (some ⟨o,off,none⟩) len cap/\fz o=some cs/\len<=cap/\
   (gy n).length=len*ks.length/\∀(r j:Nat) (k:SK),r<len->ks[j]?=some k->cs[off+r*ks.length+j]?=some (k.val ((gy n).getD (r*ks.length+j) 0))
def aW (g:G) (cs:List Clo) (n:Int) (x:Value):Prop:=
 (n=0/\x=.nilFunc)\/(0<n/\∃(c:Clo) (p:PB) (o q:Nat) (z:Array Value),cs[((n - 1) % cs.length).toNat]?=some c/\g.φ c.b=some p/\x=.func (.func c.f) #[] #[.pointer (some ⟨o,q,none⟩)]/\
   g.fz o=some z/\z[q]?=some (.pointer (some ⟨p.blk,p.base+((n - 1) / cs.length).toNat*c.s+c.k,none⟩)))
def UD (fz:Nat->Option (Array Value)) (ks:List SK) (n j:Int) (k:Nat) (x:Value):Prop:=
 ∃(o off len:Nat) (cs:Array Value),x=.pointer (some ⟨o,off+j.toNat*ks.length+k,none⟩)/\fz o=some cs/\j<len/\
   (gy n).length=len*ks.length/\∀(r q:Nat) (c:SK),r<len->ks[q]?=some c->cs[off+r*ks.length+q]?=some (c.val ((gy n).getD (r*ks.length+q) 0))
def CK.rel (g:G):CK->Int->Value->Prop
 | .lst ks,n,x=>LV g.fz ks n x
 | .clo cs,n,x=>aW g cs n x
 | k,n,x=>x=k.val n
theorem CK.yu {g:G} {k:CK} {n:Int} {x:Value} (hk:k.plain=true):k.rel g n x↔x=k.val n:=by
 cases k with
 | lst ks=>cases hk
 | clo cs=>cases hk
 | _=>exact Iff.rfl
def CK.at (g:G) (k:CK) (n:Int) (x:Option Value):Prop:=∃y,x=some y/\k.rel g n y
theorem CK.KS {g:G} {k:CK} {n:Int} {x:Option Value} (hk:k.plain=true):k.at g n x↔x=some (k.val n):=
 ⟨fun ⟨y,h,h'⟩=>by rw [h,(CK.yu hk).1 h'],fun h=>⟨_,h,(CK.yu hk).2 rfl⟩⟩
theorem CK.qwq {g:G}:∀k:CK,k.rel g 0 (k.val 0)
 | .lst _=>.inl ⟨⟨none,rfl⟩,rfl⟩
 | .clo _=>.inl ⟨rfl,rfl⟩
 | .int _=>rfl
 | .bool=>rfl
 | .str=>rfl
theorem CK.at0 {g:G} {k:CK} {x:Option Value} (h:x=some (k.val 0)):k.at g 0 x:=⟨_,h,CK.qwq k⟩
theorem LV.le {fz fz':Nat->Option (Array Value)} (h:∀o c,fz o=some c->fz' o=some c) {ks:List SK} {n:Int} {x:Value} (hx:LV fz ks n x):LV fz' ks n x:=by
 rcases hx with hx | ⟨o,off,len,cap,cs,h1,h2,h3⟩
 . exact .inl hx
 . exact .inr ⟨o,off,len,cap,cs,h1,h o cs h2,h3⟩
theorem UD.le {fz fz':Nat->Option (Array Value)} (h:∀o c,fz o=some c->fz' o=some c) {ks:List SK} {n j:Int} {k:Nat} {x:Value} (hx:UD fz ks n j k x):UD fz' ks n j k x:=by
 obtain ⟨o,off,len,cs,h1,h2,h3⟩:=hx;exact ⟨o,off,len,cs,h1,h o cs h2,h3⟩
theorem aW.mono {g g':G} (hφ:∀b p,g.φ b=some p->g'.φ b=some p) (h:∀o c,g.fz o=some c->g'.fz o=some c) {cs:List Clo} {n:Int} {x:Value} (hx:aW g cs n x):aW g' cs n x:=by
 rcases hx with hx | ⟨h1,c,p,o,q,z,h2,h3,h4,h5,h6⟩
 . exact .inl hx
 . exact .inr ⟨h1,c,p,o,q,z,h2,hφ _ _ h3,h4,h o z h5,h6⟩
theorem CK.iA {g g':G} (hφ:∀b p,g.φ b=some p->g'.φ b=some p) (h:∀o c,g.fz o=some c->g'.fz o=some c):∀{k:CK} {n:Int} {x:Value},k.rel g n x->k.rel g' n x
 | .lst _,_,_,hx=>LV.le h hx
 | .clo _,_,_,hx=>aW.mono hφ h hx
 | .int _,_,_,hx=>hx
 | .bool,_,_,hx=>hx
 | .str,_,_,hx=>hx
theorem CK.RY {g g':G} (h:g.Le g') (hw:g.wf) {k:CK} {n:Int} {x:Value}:k.rel g n x->k.rel g' n x:=CK.iA (fun _ _ hb=>h.some hw hb) h.fz
theorem CK.Zw {g g':G} (h:g.Le g') (hw:g.wf) {k:CK} {n:Int} {x:Option Value}:k.at g n x->k.at g' n x:=fun ⟨y,a,b⟩=>⟨y,a,CK.RY h hw b⟩
mutual
def Rel (I:Itp) (g:G):AV->Value->Prop
 | .any,_=>True
 | .undef,x=>x=Go.undef
 | .bool e,x=>∃n:Int,e.den I g.env=some (.i n)/\x=.bool (decide (n≠0))
 | .int k e,x=>∃n:Int,e.den I g.env=some (.i n)/\x=.int k n
 | .wP,x=>x=.pointer none
 | .ptr b r s k,x=>∃(n:Int) (p:PB),r.den I g.env=some (.i n)/\0<=n/\g.φ b=some p/\x=.pointer (some ⟨p.blk,p.base+n.toNat*s+k,none⟩)
 | .qJ,x=>x=.slice none 0 0
 | .slice b lo len s nl,x=>∃l n:Int,lo.den I g.env=some (.i l)/\len.den I g.env=some (.i n)/\0<=l/\0<=n/\
     ((∃(p:PB) (cap:Nat),g.φ b=some p/\x=.slice (some ⟨p.blk,p.base+l.toNat*s,none⟩) n.toNat cap/\n.toNat<=cap/\(l.toNat+cap)*s<=p.tot)\/
      (nl=true/\n=0/\∃a,x=.slice a 0 0))
 | .func f cap,x=>∃cs:Array Value,x=.func (.func f) #[] cs/\qw I g cap cs.toList
 | .yld b,x=>∃p:PB,g.φ b=some p/\x=.func (.yield p.blk) #[] #[]
 | .jY,x=>x=.nilFunc
 | .agg l,x=>∃cs:Array Value,x=.agg cs/\qw I g l cs.toList
 | .tup l,x=>∃cs:Array Value,x=.tuple cs/\qw I g l cs.toList
 | .big l ks t n m,x=>∃(f:Int->Nat->Int) (xs ys zs:List Value),t.den I g.env=some (.t f)/\x=.agg (xs++ys++zs).toArray/\qw I g l xs/\qw I g m zs/\
     ys.length=n*ks.length/\∀(r j:Nat) (k:CK),r<n->ks[j]?=some k->k.at g (f r j) ys[r*ks.length+j]?
 | .cap0,x=>∃a:Addr,x=.slice (some a) 0 0
 | .empty,x=>∃(a:Addr) (c:Nat),x=.slice (some a) 0 c
 | .asl b k n _,x=>∃(p:PB) (cap:Nat),g.φ b=some p/\n<=cap/\x=.slice (some ⟨p.blk,p.base+k,none⟩) n cap
 | .yN f m cap,x=>∃ms cs:Array Value,x=.func (.func f) ms cs/\qw I g m ms.toList/\qw I g cap cs.toList
 | .bK v k,x=>x=.pointer (some ⟨v,k,none⟩)
 | .str l,x=>∃s:ByteArray,x=.string s/\s.data.toList=l
 | .wE t n,x=>∃(f:Int->Nat->Int) (k:Int) (s:ByteArray),t.den I g.env=some (.t f)/\n.den I g.env=some (.i k)/\x=.string s/\k=s.data.toList.length/\
     ∀(i:Nat) (b:UInt8),s.data.toList[i]?=some b->f i 0=b.toNat
 | .mM,x=>∃a:Option Addr,x=.slice a 0 0
 | .mref b,x=>∃p:PB,g.φ b=some p/\x=.map (some p.blk)
 | .gV,x=>x=.map none
 | .xk,x=>x=.nilIface
 | .sat e,x=>∃n:Int,e.den I g.env=some (.i n)/\x=.string ⟨(zX n).toArray⟩
 | .lst ks e,x=>∃n:Int,e.den I g.env=some (.i n)/\LV g.fz ks n x
 | .gZ a,x=>∃(o q:Nat) (z:Array Value) (y:Value),x=.pointer (some ⟨o,q,none⟩)/\g.fz o=some z/\z[q]?=some y/\Rel I g a y
 | .fco cs e,x=>∃n:Int,e.den I g.env=some (.i n)/\aW g cs n x
 | .xV ks e i k,x=>∃n j:Int,e.den I g.env=some (.i n)/\i.den I g.env=some (.i j)/\0<=j/\UD g.fz ks n j k x
 | .ifo e,x=>∃n:Int,e.den I g.env=some (.i n)/\((n=0/\x=.nilIface)\/(n≠0/\∃t p,x=.iface t p))
def qw (I:Itp) (g:G):List AV->List Value->Prop
 | [],[]=>True
 | a::l,x::xs=>Rel I g a x/\qw I g l xs
 | _,_=>False
end
mutual
theorem Rel.le {I:Itp} {g g':G} (h:g.Le g') (hw:g.wf):∀{v:AV} {x:Value},Rel I g v x->Rel I g' v x:=by
 intro v x hv
 match v with
 | .any=>trivial
 | .undef=>simpa [Rel] using hv
 | .bool e=>simp only [Rel] at hv ⊢;obtain ⟨n,h1,h2⟩:=hv;exact ⟨n,E.qE h h1,h2⟩
 | .int k e=>simp only [Rel] at hv ⊢;obtain ⟨n,h1,h2⟩:=hv;exact ⟨n,E.qE h h1,h2⟩
 | .wP=>simpa [Rel] using hv
 | .ptr b r s k=>
   simp only [Rel] at hv ⊢;obtain ⟨n,p,h1,h2,h3,h4⟩:=hv;exact ⟨n,p,E.qE h h1,h2,h.some hw h3,h4⟩
 | .qJ=>simpa [Rel] using hv
 | .slice b lo len s nl=>
   simp only [Rel] at hv ⊢;obtain ⟨l,n,h1,h2,h3,h4,h5⟩:=hv;refine ⟨l,n,E.qE h h1,E.qE h h2,h3,h4,?_⟩;rcases h5 with ⟨p,cap,h5,h6⟩ | h5
   . exact .inl ⟨p,cap,h.some hw h5,h6⟩
   . exact .inr h5
 | .func f cap=>simp only [Rel] at hv ⊢;obtain ⟨cs,h1,h2⟩:=hv;exact ⟨cs,h1,qw.le h hw h2⟩
 | .yld b=>simp only [Rel] at hv ⊢;obtain ⟨p,h1,h2⟩:=hv;exact ⟨p,h.some hw h1,h2⟩
 | .jY=>simpa [Rel] using hv
 | .agg l=>simp only [Rel] at hv ⊢;obtain ⟨cs,h1,h2⟩:=hv;exact ⟨cs,h1,qw.le h hw h2⟩
 | .tup l=>simp only [Rel] at hv ⊢;obtain ⟨cs,h1,h2⟩:=hv;exact ⟨cs,h1,qw.le h hw h2⟩
 | .big l ks t n m=>
   simp only [Rel] at hv ⊢;obtain ⟨f,xs,ys,zs,h1,h2,h3,h4,h5⟩:=hv;exact ⟨f,xs,ys,zs,E.qE h h1,h2,qw.le h hw h3,qw.le h hw h4,h5.1,fun r j k a b=>CK.Zw h hw (h5.2 r j k a b)⟩
 | .cap0=>simpa [Rel] using hv
 | .empty=>simpa [Rel] using hv
 | .asl b k n s=>simp only [Rel] at hv ⊢;obtain ⟨p,cap,h1,h2⟩:=hv;exact ⟨p,cap,h.some hw h1,h2⟩
 | .yN f m cap=>simp only [Rel] at hv ⊢;obtain ⟨ms,cs,h1,h2,h3⟩:=hv;exact ⟨ms,cs,h1,qw.le h hw h2,qw.le h hw h3⟩
 | .bK v k=>simpa [Rel] using hv
 | .str l=>simpa [Rel] using hv
 | .wE t n=>simp only [Rel] at hv ⊢;obtain ⟨f,k,s,h1,h2,h3⟩:=hv;exact ⟨f,k,s,E.qE h h1,E.qE h h2,h3⟩
 | .mM=>simpa [Rel] using hv
 | .mref b=>simp only [Rel] at hv ⊢;obtain ⟨p,h1,h2⟩:=hv;exact ⟨p,h.some hw h1,h2⟩
 | .gV=>simpa [Rel] using hv
 | .xk=>simpa [Rel] using hv
 | .sat e=>simp only [Rel] at hv ⊢;obtain ⟨n,h1,h2⟩:=hv;exact ⟨n,E.qE h h1,h2⟩
 | .lst ks e=>simp only [Rel] at hv ⊢;obtain ⟨n,h1,h2⟩:=hv;exact ⟨n,E.qE h h1,h2.le h.fz⟩
 | .gZ a=>simp only [Rel] at hv ⊢;obtain ⟨o,q,z,y,h1,h2,h3,h4⟩:=hv;exact ⟨o,q,z,y,h1,h.fz _ _ h2,h3,Rel.le h hw h4⟩
 | .fco cs e=>simp only [Rel] at hv ⊢;obtain ⟨n,h1,h2⟩:=hv;exact ⟨n,E.qE h h1,h2.mono (fun _ _ hb=>h.some hw hb) h.fz⟩
 | .xV ks e i k=>simp only [Rel] at hv ⊢;obtain ⟨n,j,h1,h2,h3,h4⟩:=hv;exact ⟨n,j,E.qE h h1,E.qE h h2,h3,h4.le h.fz⟩
 | .ifo e=>simp only [Rel] at hv ⊢;obtain ⟨n,h1,h2⟩:=hv;exact ⟨n,E.qE h h1,h2⟩
theorem qw.le {I:Itp} {g g':G} (h:g.Le g') (hw:g.wf):∀{l:List AV} {xs:List Value},qw I g l xs->qw I g' l xs:=by
 intro l xs hl
 match l,xs with
 | [],[]=>trivial
 | a::l,x::xs=>simp only [qw] at hl ⊢;exact ⟨Rel.le h hw hl.1,qw.le h hw hl.2⟩
 | [],_::_=>simp [qw] at hl
 | _::_,[]=>simp [qw] at hl
end
theorem qw.length {I:Itp} {g:G}:∀{l:List AV} {xs:List Value},qw I g l xs->l.length=xs.length
 | [],[],_=>rfl
 | _::l,_::xs,h=>by simp only [qw] at h;simp [qw.length h.2]
 | [],_::_,h=>by simp [qw] at h
 | _::_,[],h=>by simp [qw] at h
theorem qw.get {I:Itp} {g:G}:∀{l:List AV} {xs:List Value},qw I g l xs->∀{i:Nat} {v:AV},l[i]?=some v->∃x,xs[i]?=some x/\Rel I g v x
 | [],[],_,i,v,h=>by simp at h
 | a::l,x::xs,hr,i,v,h=>by
   simp only [qw] at hr;cases i with
   | zero=>simp at h;subst h;exact ⟨x,rfl,hr.1⟩
   | succ i=>simp at h;obtain ⟨y,h1,h2⟩:=qw.get hr.2 h;exact ⟨y,by simpa using h1,h2⟩
 | [],_::_,h,_,_,_=>by simp [qw] at h
 | _::_,[],h,_,_,_=>by simp [qw] at h
theorem qw.mk {I:Itp} {g:G}:∀{l:List AV} {xs:List Value},l.length=xs.length->(∀(i:Nat) (v:AV) (x:Value),l[i]?=some v->xs[i]?=some x->Rel I g v x)->qw I g l xs
 | [],[],_,_=>trivial
 | a::l,x::xs,hl,h=>by
   refine ⟨h 0 a x rfl rfl,qw.mk (by simpa using hl) fun i v y h1 h2=>h (i+1) v y (by simpa using h1) (by simpa using h2)⟩
 | [],_::_,h,_=>by simp at h
 | _::_,[],h,_=>by simp at h
theorem qw.append {I:Itp} {g:G}:∀{l m:List AV} {xs ys:List Value},qw I g l xs->qw I g m ys->qw I g (l++m) (xs++ys)
 | [],_,[],_,_,h=>h
 | a::l,_,x::xs,_,h,h'=>⟨h.1,qw.append h.2 h'⟩
 | [],_,_::_,_,h,_=>by simp [qw] at h
 | _::_,_,[],_,h,_=>by simp [qw] at h
theorem qw.drop {I:Itp} {g:G}:∀(k:Nat) {l:List AV} {xs:List Value},qw I g l xs->qw I g (l.drop k) (xs.drop k)
 | 0,_,_,h=>h
 | k+1,[],[],_=>trivial
 | k+1,a::l,x::xs,h=>by simpa using qw.drop k h.2
 | _+1,[],_::_,h=>by simp [qw] at h
 | _+1,_::_,[],h=>by simp [qw] at h
theorem qw.take {I:Itp} {g:G}:∀(k:Nat) {l:List AV} {xs:List Value},qw I g l xs->qw I g (l.take k) (xs.take k)
 | 0,_,_,_=>by simp [qw]
 | k+1,[],[],_=>trivial
 | k+1,a::l,x::xs,h=>by simp only [List.take_succ_cons];exact ⟨h.1,qw.take k h.2⟩
 | _+1,[],_::_,h=>by simp [qw] at h
 | _+1,_::_,[],h=>by simp [qw] at h
theorem get_put {α:Type} (t u:Nat) (v:α) (l:List (Nat × α)):get (put t v l) u=if t=u then some v else get l u:=by
 have hd:∀l:List (Nat × α),t≠u->get (Te t l) u=get l u:=by
   intro l h
   induction l with
   | nil=>rfl
   | cons x l ih=>
     obtain ⟨k,w⟩:=x;simp only [Pg];by_cases hk:k=t
     . rw [if_pos hk];simp only [qQ];rw [if_neg (by omega)]
     . rw [if_neg hk];simp only [qQ];rw [ih]
 simp only [put,qQ];by_cases h:t=u
 . simp [h]
 . rw [if_neg h,if_neg h,hd l h]
theorem xH {α:Type} (t u:Nat) (v:α) (l:List (Nat × α)):get (vU t v l) u=if t=u then some v else get l u:=qQ
theorem Qx {α:Type} {t:Nat} {v:α}:∀{l m:List (Nat × α)},get (oZ l m) t=some v->get m t=some v
 | [],m,h=>by simp [oZ,get_nil] at h
 | (k,w)::l,m,h=>by
   simp only [oZ] at h;split at h
   . rename_i u hu;simp only [qQ] at h;split at h
     . rename_i e;subst e;rw [hu];exact h
     . exact Qx h
   . exact Qx h
theorem yT {α:Type} (t u:Nat):∀(l:List (Nat × α)),get (del t l) u=if t=u then none else get l u
 | []=>by simp [Ur,get_nil]
 | (k,w)::l=>by
   simp only [Ta];by_cases hk:k=t
   . rw [if_pos hk,yT t u l];simp only [qQ];by_cases h:t=u
     . simp [h]
     . rw [if_neg h,if_neg h,if_neg (by omega)]
   . rw [if_neg hk];simp only [qQ];by_cases h:t=u
     . rw [if_pos h,if_neg (by omega),yT t u l,if_pos h]
     . rw [if_neg h,yT t u l,if_neg h]
theorem GZ {α:Type} (u:Nat):∀(bs:List Nat) (l:List (Nat × α)) {x:α},get (G8 bs l) u=some x->get l u=some x/\u ∉ bs
 | [],l,x,h=>⟨h,by simp⟩
 | b::bs,l,x,h=>by
   obtain ⟨h1,h2⟩:=GZ u bs _ h;rw [yT] at h1;split at h1
   . cases h1
   . exact ⟨h1,by simp;exact ⟨by omega,h2⟩⟩
def wG (I:Itp) (g:G) (X:Nat->Prop) (ts:qO) (a:Array Value):Prop:=
 ∀t v,get ts t=some v->¬X t->∃x,a[t]?=some x/\Rel I g v x
theorem wG.le {I:Itp} {g g':G} {X:Nat->Prop} (h:g.Le g') (hw:g.wf) {ts:qO} {a:Array Value} (ht:wG I g X ts a):wG I g' X ts a:=
 fun t v h1 h2=>let ⟨x,h3,h4⟩:=ht t v h1 h2;⟨x,h3,h4.le h hw⟩
def wQ (f:Nat->Int):Nat->List CK->List Value
 | _,[]=>[]
 | c,k::ks=>k.val (f c)::wQ f (c+1) ks
def fH (w:Nat) (one:Bool) (ks:List CK) (f:Nat->Int):Value:=
 match one,ks with
 | true,k::_=>k.val (f 0)
 | true,[]=>.nilIface
 | false,ks=>.agg (wQ f 0 (ks.take w)).toArray
def Free (fr:Nat × Nat) (n:Nat):Prop:=fr=(0,0)\/n<=fr.1
open Classical in
def kN:List MapEntry->Int->Option Value
 | [],_=>none
 | e::l,κ=>if e.key=.string ⟨(zX κ).toArray⟩ then some e.val else kN l κ
def X9 (H:Nat->Option Obj) (ck:CK) (row:Nat->Int) (v:Value):Prop:=
 ((∃a,v=.slice a 0 0)/\row 0=0)\/∃(o off n cap:Nat) (c:Array Value) (T:TypeId) (fr:Nat × Nat),v=.slice (some ⟨o,off,none⟩) n cap/\0<cap/\n<=cap/\row 0=n/\
   H o=some (.cells c T fr)/\Free fr c.size/\off+cap<=c.size/\∀j,j<n->c[off+j]?=some (ck.val (row (j+1)))
def uX (es:List MapEntry) (k:Option Int) (κ:Int) (o:Nat):Prop:=k≠some κ/\∃off n cap:Nat,kN es κ=some (.slice (some ⟨o,off,none⟩) n cap)/\0<cap
def jO (I:Itp) (g:G):Option E->Option Int->Prop
 | none,none=>True
 | some e,some n=>e.den I g.env=some (.i n)
 | _,_=>False
theorem jO.fn {I:Itp} {g:G}:∀{op:Option E} {k k':Option Int},jO I g op k->jO I g op k'->k=k'
 | none,none,none,_,_=>rfl
 | some e,some n,some m,h,h'=>by simp only [jO] at h h';rw [h] at h';cases h';rfl
 | none,some _,_,h,_=>h.elim
 | none,none,some _,_,h=>h.elim
 | some _,none,_,h,_=>h.elim
 | some _,some _,none,_,h=>h.elim
theorem jO.le {I:Itp} {g g':G} (h:∀{e:E} {n:Int},e.den I g.env=some (.i n)->e.den I g'.env=some (.i n)):∀{op:Option E} {k:Option Int},jO I g op k->jO I g' op k
 | none,none,_=>trivial
 | some _,some _,hk=>h hk
 | none,some _,hk=>hk.elim
 | some _,none,hk=>hk.elim
structure M8 (H:Nat->Option Obj) (ck:CK) (f:Int->Nat->Int) (k:Option Int) (es:List MapEntry):Prop where
 pl:ck.plain=true
 key:∀e∈es,∃κ:Int,e.key=.string ⟨(zX κ).toArray⟩
 mem:∀κ,k≠some κ->match kN es κ with
   | none=>f κ 0=0
   | some v=>X9 H ck (f κ) v
 apart:∀κ κ' o,uX es k κ o->uX es k κ' o->κ=κ'
def jN (I:Itp) (P:Program) (g:G) (b:Nat) (H:Nat->Option Obj):Blk->Prop
 | .cells l wr=>∃(p:PB) (c:Array Value) (T:TypeId) (fr:Nat × Nat),g.φ b=some p/\H p.blk=some (.cells c T fr)/\
     (∀i v,l[i]?=some v->∃x,c[p.base+i]?=some x/\Rel I g v x)/\(wr=true->fr=(0,0)/\p.base+p.tot<=c.size)
 | .rows ks t len wr nl=>∃(f:Int->Nat->Int) (n:Int),t.den I g.env=some (.t f)/\len.den I g.env=some (.i n)/\0<=n/\
     ((∃(p:PB) (c:Array Value) (T:TypeId) (fr:Nat × Nat),g.φ b=some p/\H p.blk=some (.cells c T fr)/\
       (∀(r j:Nat) (k:CK),r<n.toNat->ks[j]?=some k->k.at g (f r j) c[p.base+r*ks.length+j]?)/\
       (wr=true->Free fr c.size/\p.base+p.tot<=c.size/\n.toNat*ks.length<=p.tot))\/
      (nl=true/\n=0/\g.φ b=none))
 | .big l ks t n m wr=>∃(p:PB) (c:Array Value) (T:TypeId) (fr:Nat × Nat) (f:Int->Nat->Int),g.φ b=some p/\H p.blk=some (.cells c T fr)/\t.den I g.env=some (.t f)/\
     (∀i v,l[i]?=some v->∃x,c[p.base+i]?=some x/\Rel I g v x)/\
     (∀(r j:Nat) (k:CK),r<n->ks[j]?=some k->k.at g (f r j) c[p.base+(l.length+(r*ks.length+j))]?)/\
     (∀i v,m[i]?=some v->∃x,c[p.base+(l.length+n*ks.length+i)]?=some x/\Rel I g v x)/\(wr=true->fr=(0,0))
 | .loop st pend fn ix nt ts d=>∃(p q:PB) (r:Loop) (rf:RF),g.φ b=some p/\g.φ d=some q/\H p.blk=some (.loop r)/\Jw P fn ix=some rf/\
     r.state=st/\r.pending=pend.map Jump.code/\r.params.toList=rf.params/\r.assign=rf.assign/\r.body=rf.body/\r.defers=q.blk/\
     r.tmps.size=nt/\wG I g (fun _=>False) ts r.tmps
 | .dfr sh=>∃p:PB,g.φ b=some p/\H p.blk=some (.deferred (if sh then some [] else none))
 | .mp l m=>∃(p:PB) (es:Array MapEntry) (c:Nat),g.φ b=some p/\H p.blk=some (.map es c)/\qw I g l (es.toList.map (·.key))/\qw I g m (es.toList.map (·.val))
 | .smp w one ks t n=>∃(p:PB) (es:Array MapEntry) (c:Nat) (f:Int->Nat->Int),g.φ b=some p/\H p.blk=some (.map es c)/\t.den I g.env=some (.t f)/\n.den I g.env=some (.i (es.size:Nat))/\
     (∀k∈ks,k.plain=true)/\∀(i:Nat) (e:MapEntry),es[i]?=some e->e.key=fH w one ks (f i)/\∃k,ks[w]?=some k/\e.val=k.val (f i w)
 | .iter e q k=>∃(p:PB) (n:Int) (m:Nat),g.φ b=some p/\p.base=0/\e.den I g.env=some (.i n)/\q.den I g.env=some (.i (m:Nat))/\H p.blk=some (.stringIter ⟨(zX n).toArray⟩ m)/\
     (k=1->m<(zX n).length)/\(k=2->¬m<(zX n).length)
 | .bld T e d=>∃(p:PB) (n:Int) (x y:Value),g.φ b=some p/\p.base=0/\H p.blk=some (.cells #[x,y] T (0,0))/\e.den I g.env=some (.i n)/\
     (x=.pointer none\/x=.pointer (some ⟨p.blk,0,none⟩))/\((y=.slice none 0 0/\zX n=[])\/∃q:PB,g.φ d=some q/\q.base=0/\y=.slice (some ⟨q.blk,0,none⟩) (zX n).length q.tot)
 | .byt T e=>∃n:Int,e.den I g.env=some (.i n)/\((g.φ b=none/\zX n=[])\/∃(q:PB) (cur:Array Value),g.φ b=some q/\q.base=0/\H q.blk=some (.cells cur T (0,0))/\
     cur.size=q.tot/\(zX n).length<=q.tot/\q.tot<=9223372036854775807/\cur.toList.take (zX n).length=(zX n).map fun c=>Value.int .u8 c.toNat)
 | .ovr ks t len h l wr nl=>∃(f:Int->Nat->Int) (n m:Int),t.den I g.env=some (.t f)/\len.den I g.env=some (.i n)/\h.den I g.env=some (.i m)/\0<=n/\
     ((∃(p:PB) (c:Array Value) (T:TypeId) (fr:Nat × Nat),g.φ b=some p/\H p.blk=some (.cells c T fr)/\
       (∀(r j:Nat) (k:CK),r<n.toNat->(wr=true->(r:Int)≠m)->ks[j]?=some k->k.at g (f r j) c[p.base+r*ks.length+j]?)/\
       (0<=m->m<n->∀(j:Nat) (v:AV),l[j]?=some v->∃x,c[p.base+m.toNat*ks.length+j]?=some x/\Rel I g v x)/\
       (wr=true->Free fr c.size/\p.base+p.tot<=c.size/\n.toNat*ks.length<=p.tot))\/
      (nl=true/\n=0/\g.φ b=none))
 | .fam ck t op=>∃(p:PB) (es:Array MapEntry) (c:Nat) (f:Int->Nat->Int) (k:Option Int),g.φ b=some p/\H p.blk=some (.map es c)/\t.den I g.env=some (.t f)/\jO I g op k/\M8 H ck f k es.toList
def zV (H:Nat->Option Obj) (I:Itp) (g:G) (b:Nat):Blk->Nat->Prop
 | .fam _ _ op,o=>∃(p:PB) (es:Array MapEntry) (c:Nat) (k:Option Int) (κ:Int),g.φ b=some p/\H p.blk=some (.map es c)/\jO I g op k/\uX es.toList k κ o
 | _,_=>False
theorem zV.fam {H:Nat->Option Obj} {I:Itp} {g:G} {b o:Nat} {x:Blk} (h:zV H I g b x o):x.wF=true:=by
 cases x <;> first | rfl | exact h.elim
theorem zV.turn {H H':Nat->Option Obj} {I:Itp} {P:Program} {g g':G} {b b' o:Nat} {ck ck':CK} {t t':E} {op op':Option E} (hB:jN I P g b H (.fam ck t op)) (hφ:∀p,g'.φ b'=some p->g.φ b=some p)
   (hH:∀p,g'.φ b'=some p->H' p.blk=H p.blk) (hop:∀{k},jO I g op k->jO I g' op' k) (h:zV H' I g' b' (.fam ck' t' op') o):zV H I g b (.fam ck t op) o:=by
 obtain ⟨p,es,c,k,κ,h1,h2,h3,h4⟩:=h;obtain ⟨_,_,_,_,k',_,_,_,h5,_⟩:=hB;have:=jO.fn h3 (hop h5);subst this;exact ⟨p,es,c,k,κ,hφ p h1,by rw [<-hH p h1];exact h2,h5,h4⟩
theorem jN.le {I:Itp} {P:Program} {g g':G} {b:Nat} {H:Nat->Option Obj} (h:g.Le g') (hw:g.wf) (hb:b<g.nb):∀{x:Blk},jN I P g b H x->jN I P g' b H x
 | .cells l wr,hx=>by
   obtain ⟨p,c,T,fr,h1,h2,h3,h4⟩:=hx;exact ⟨p,c,T,fr,h.some hw h1,h2,fun i v hv=>let ⟨x,a,b⟩:=h3 i v hv;⟨x,a,b.le h hw⟩,h4⟩
 | .rows ks t len wr nl,hx=>by
   obtain ⟨f,n,h1,h2,h3,h4⟩:=hx;refine ⟨f,n,E.qE h h1,E.qE h h2,h3,?_⟩;rcases h4 with ⟨p,c,T,fr,h5,h6,h7,h8⟩ | ⟨h5,h6,h7⟩
   . exact .inl ⟨p,c,T,fr,h.some hw h5,h6,fun r j k a b=>CK.Zw h hw (h7 r j k a b),h8⟩
   . exact .inr ⟨h5,h6,by rw [h.φ b hb];exact h7⟩
 | .big l ks t n m wr,hx=>by
   obtain ⟨p,c,T,fr,f,h1,h2,h3,h4,h5,h6,h7⟩:=hx;exact ⟨p,c,T,fr,f,h.some hw h1,h2,E.qE h h3,fun i v hv=>let ⟨x,a,b⟩:=h4 i v hv;⟨x,a,b.le h hw⟩,fun r j k a b=>CK.Zw h hw (h5 r j k a b),fun i v hv=>let ⟨x,a,b⟩:=h6 i v hv;⟨x,a,b.le h hw⟩,h7⟩
 | .loop st pend fn ix nt ts d,hx=>by
   obtain ⟨p,q,r,rf,h1,h2,h3,h4,h5,h6,h8,h9,h10,h11,h12,h13⟩:=hx;exact ⟨p,q,r,rf,h.some hw h1,h.some hw h2,h3,h4,h5,h6,h8,h9,h10,h11,h12,h13.le h hw⟩
 | .dfr sh,hx=>by
   obtain ⟨p,h1,h2⟩:=hx;exact ⟨p,h.some hw h1,h2⟩
 | .mp l m,hx=>by
   obtain ⟨p,es,c,h1,h2,h3,h4⟩:=hx;exact ⟨p,es,c,h.some hw h1,h2,h3.le h hw,h4.le h hw⟩
 | .smp w one ks t n,hx=>by
   obtain ⟨p,es,c,f,h1,h2,h3,h4,h5⟩:=hx;exact ⟨p,es,c,f,h.some hw h1,h2,E.qE h h3,E.qE h h4,h5⟩
 | .iter e q k,hx=>by
   obtain ⟨p,n,m,h1,h2,h3,h4,h5⟩:=hx;exact ⟨p,n,m,h.some hw h1,h2,E.qE h h3,E.qE h h4,h5⟩
 | .bld T e d,⟨p,n,x,y,h1,h2,h3,h4,h5,h6⟩=>⟨p,n,x,y,h.some hw h1,h2,h3,E.qE h h4,h5,h6.imp id fun ⟨q,a,b⟩=>⟨q,h.some hw a,b⟩⟩
 | .byt T e,⟨n,h1,h2⟩=>⟨n,E.qE h h1,h2.imp (fun ⟨a,c⟩=>⟨by rw [h.φ b hb];exact a,c⟩) fun ⟨q,cur,a,c⟩=>⟨q,cur,h.some hw a,c⟩⟩
 | .fam ck t op,⟨p,es,c,f,k,h1,h2,h3,h4,h5⟩=>⟨p,es,c,f,k,h.some hw h1,h2,E.qE h h3,jO.le (E.qE h) h4,h5⟩
 | .ovr ks t len e l wr nl,hx=>by
   obtain ⟨f,n,m,h1,h2,h3,h4,h5⟩:=hx;refine ⟨f,n,m,E.qE h h1,E.qE h h2,E.qE h h3,h4,?_⟩;rcases h5 with ⟨p,c,T,fr,h5,h6,h7,h8,h9⟩ | ⟨h5,h6,h7⟩
   . exact .inl ⟨p,c,T,fr,h.some hw h5,h6,fun r j k a b d=>CK.Zw h hw (h7 r j k a b d),fun a b j v hv=>let ⟨x,y,z⟩:=h8 a b j v hv;⟨x,y,z.le h hw⟩,h9⟩
   . exact .inr ⟨h5,h6,by rw [h.φ b hb];exact h7⟩
theorem zV.le {I:Itp} {P:Program} {g g':G} {b o:Nat} {H H':Nat->Option Obj} (h:g.Le g') (hb:b<g.nb) {x:Blk} (hB:jN I P g b H x) (hH:∀p,g.φ b=some p->H' p.blk=H p.blk) (hr:zV H' I g' b x o):zV H I g b x o:=by
 cases x with
 | fam ck t op=>exact zV.turn hB (fun p hp=>by rw [<-h.φ b hb];exact hp) (fun p hp=>hH p (by rw [<-h.φ b hb];exact hp)) (jO.le (E.qE h)) hr
 | _=>exact hr.elim
theorem X9.heap {H H':Nat->Option Obj} {ck:CK} {row:Nat->Int} {v:Value} (hH:∀o off n cap,v=.slice (some ⟨o,off,none⟩) n cap->0<cap->H' o=H o) (h:X9 H ck row v):X9 H' ck row v:=by
 rcases h with h | ⟨o,off,n,cap,c,T,fr,h1,h2,h3,h4,h5,h6⟩
 . exact .inl h
 . exact .inr ⟨o,off,n,cap,c,T,fr,h1,h2,h3,h4,by rw [hH o off n cap h1 h2];exact h5,h6⟩
theorem M8.heap {H H':Nat->Option Obj} {ck:CK} {f:Int->Nat->Int} {k:Option Int} {es:List MapEntry} (hH:∀κ o,uX es k κ o->H' o=H o) (h:M8 H ck f k es):M8 H' ck f k es:=by
 refine ⟨h.pl,h.key,fun κ hκ=>?_,h.apart⟩;have:=h.mem κ hκ;split at this
 . exact this
 . rename_i v e;exact this.heap fun o off n cap h1 h2=>hH κ o ⟨hκ,off,n,cap,by rw [e,h1],h2⟩
theorem jN.heap {I:Itp} {P:Program} {g:G} {b:Nat} {H H':Nat->Option Obj} {x:Blk} (h:jN I P g b H x) (hH:∀p,g.φ b=some p->H' p.blk=H p.blk) (hR:∀o,zV H I g b x o->H' o=H o):jN I P g b H' x:=match x,hR,h with
 | .fam ck t op,hR,⟨p,es,c,f,k,h1,h2,h3,h4,h5⟩=>⟨p,es,c,f,k,h1,by rw [hH p h1];exact h2,h3,h4,h5.heap fun κ o ho=>hR o ⟨p,es,c,k,κ,h1,h2,h4,ho⟩⟩
 | .cells l wr,_,⟨p,c,T,fr,h1,h2,h3⟩=>⟨p,c,T,fr,h1,by rw [hH p h1];exact h2,h3⟩
 | .rows ks t len wr nl,_,⟨f,n,h1,h2,h3,h4⟩=>by
   refine ⟨f,n,h1,h2,h3,?_⟩;rcases h4 with ⟨p,c,T,fr,h5,h6,h7⟩ | h4
   . exact .inl ⟨p,c,T,fr,h5,by rw [hH p h5];exact h6,h7⟩
   . exact .inr h4
 | .big l ks t n m wr,_,⟨p,c,T,fr,f,h1,h2,h3⟩=>⟨p,c,T,fr,f,h1,by rw [hH p h1];exact h2,h3⟩
 | .ovr ks t len e l wr nl,_,⟨f,n,m,h1,h2,h3,h4,h5⟩=>by
   refine ⟨f,n,m,h1,h2,h3,h4,?_⟩;rcases h5 with ⟨p,c,T,fr,h5,h6,h7⟩ | h5
   . exact .inl ⟨p,c,T,fr,h5,by rw [hH p h5];exact h6,h7⟩
   . exact .inr h5
 | .loop st pend fn ix nt ts d,_,⟨p,q,r,rf,h1,h2,h3,h4⟩=>⟨p,q,r,rf,h1,h2,by rw [hH p h1];exact h3,h4⟩
 | .dfr sh,_,⟨p,h1,h2⟩=>⟨p,h1,by rw [hH p h1];exact h2⟩
 | .mp l m,_,⟨p,es,c,h1,h2,h3⟩=>⟨p,es,c,h1,by rw [hH p h1];exact h2,h3⟩
 | .smp w one ks t n,_,⟨p,es,c,f,h1,h2,h3⟩=>⟨p,es,c,f,h1,by rw [hH p h1];exact h2,h3⟩
 | .iter e q k,_,⟨p,n,m,h1,h2,h3,h4,h5,h6⟩=>⟨p,n,m,h1,h2,h3,h4,by rw [hH p h1];exact h5,h6⟩
 | .bld T e d,_,⟨p,n,x,y,h1,h2,h3,h4⟩=>⟨p,n,x,y,h1,h2,by rw [hH p h1];exact h3,h4⟩
 | .byt T e,_,⟨n,h1,h2⟩=>⟨n,h1,h2.imp id fun ⟨q,cur,a,c,d,e⟩=>⟨q,cur,a,c,by rw [hH q a];exact d,e⟩⟩
structure Amb where
 w0:World
 X:Nat->Prop
 /-- What was not written any more when the call began. -/
 fz:Nat->Option (Array Value):=fun _=>none
def GOk (gl:List Glob) (A:Amb):Prop:=∀x∈gl,x.k.plain=true/\x.g<A.w0.heap.size/\¬A.X x.g/\∃(c:Array Value) (T:TypeId) (fr:Nat × Nat),A.w0.heap[x.g]?=some (.cells c T fr)/\
 (∀(k:Nat) (n:Int),x.l[k]?=some n->c[k]?=some (x.k.val n))/\(x.ifc=true->∃v,c[0]?=some v/\(v=.nilIface\/∃t p,v=.iface t p))/\
 (x.full=true->c=(x.l.map x.k.val).toArray)/\(x.ity=true->∃m,c[0]?=some (.int .i64 m))
structure qX (A:Amb) (I:Itp) (P:Program) (g:G) (M:Mem) (w:World):Prop where
 wf:g.wf
 blk:∀b x,get M b=some x->jN I P g b (fun i=>w.heap[i]?) x
 lt:∀b x,get M b=some x->b<g.nb
 /-- What may be written, nothing else speaks of. -/
 inj:∀b c x y p q,get M b=some x->get M c=some y->x.wr=true->g.φ b=some p->g.φ c=some q->p.blk=q.blk->b=c
 bnd:∀b p,g.φ b=some p->p.blk<w.heap.size
 own:∀b x p,get M b=some x->x.wr=true->g.φ b=some p->A.X p.blk\/A.w0.heap.size<=p.blk
 size:A.w0.heap.size<=w.heap.size
 keep:∀i,i<A.w0.heap.size->¬A.X i->w.heap[i]?=A.w0.heap[i]?
 same:w.os=A.w0.os/\w.output=A.w0.output
 /-- What a map of lists speaks of, no block speaks of, and no other one. -/
 fam:∀b x o,get M b=some x->zV (fun i=>w.heap[i]?) I g b x o->(A.X o\/A.w0.heap.size<=o)/\o<w.heap.size/\(∀c y q,get M c=some y->g.φ c=some q->q.blk≠o)/\
   ∀c y,get M c=some y->zV (fun i=>w.heap[i]?) I g c y o->c=b
 /-- What is not written any more: nothing that may be written speaks of it. -/
 frz:∀o c,g.fz o=some c->(A.fz o=some c\/A.X o\/A.w0.heap.size<=o)/\o<w.heap.size/\(∃T fr,w.heap[o]?=some (.cells c T fr))/\
   (∀b x q,get M b=some x->x.wr=true->g.φ b=some q->q.blk≠o)/\∀b x,get M b=some x->¬zV (fun i=>w.heap[i]?) I g b x o
def aK (I:Itp) (g:G):DV->Deferred->Prop
 | .blk b,x=>∃p,g.φ b=some p/\x={ target:=.collected p.blk,args:=#[] }
 | .fn f m cap,x=>∃ms cs:Array Value,x={ target:=.fn (.func f) cs,args:=ms }/\qw I g m ms.toList/\qw I g cap cs.toList
theorem aK.le {I:Itp} {g g':G} (h:g.Le g') (hw:g.wf):∀{d:DV} {x:Deferred},aK I g d x->aK I g' d x
 | .blk _,_,⟨p,h1,h2⟩=>⟨p,h.some hw h1,h2⟩
 | .fn _ _ _,_,⟨ms,cs,h1,h2,h3⟩=>⟨ms,cs,h1,h2.le h hw,h3.le h hw⟩
def gM (I:Itp) (g:G):List DV->List Deferred->Prop
 | [],[]=>True
 | d::l,x::xs=>aK I g d x/\gM I g l xs
 | _,_=>False
theorem gM.le {I:Itp} {g g':G} (h:g.Le g') (hw:g.wf):∀{l:List DV} {xs:List Deferred},gM I g l xs->gM I g' l xs
 | [],[],_=>trivial
 | _::_,_::_,⟨h1,h3⟩=>⟨h1.le h hw,gM.le h hw h3⟩
 | [],_::_,h=>by simp [gM] at h
 | _::_,[],h=>by simp [gM] at h
structure qW (A:Amb) (I:Itp) (P:Program) (X:Nat->Prop) (g:G) (s:St) (a:Act) (w:World):Prop where
 m:qX A I P g s.mem w
 t:wG I g X s.tmps a.tmps
 nt:a.tmps.size=s.nt
 d:gM I g s.defers a.defers
 nv:g.env.length=s.nv
 nb:g.nb=s.nb
end Go.Sx
noncomputable section
namespace Go.Sx
open Go
theorem Yb:∀(l:List UInt8) (f:Nat),Qb l<=f->Fu f (Qb l)=l
 | [],f,_=>by cases f <;> simp [Fu,Qb]
 | b::l,f,h=>by
   cases f with
   | zero=>simp [Qb] at h
   | succ f=>
     have hb:b.toNat<256:=b.toNat_lt;simp only [Qb] at h ⊢;simp only [Fu];rw [if_neg (by omega)];have h1:(b.toNat+1+256*Qb l - 1) % 256=b.toNat:=by omega
     have h2:(b.toNat+1+256*Qb l - 1) / 256=Qb l:=by omega
     rw [h1,h2,Yb l f (by omega)];simp
theorem Yw:∀(f n:Nat),n<=f->Qb (Fu f n)=n
 | 0, n, h => by have:n=0:=by omega
                 subst this;rfl
 | f+1,n,h=>by
   simp only [Fu];by_cases h0:n=0
   . rw [if_pos h0];simp [Qb,h0]
   . rw [if_neg h0];simp only [Qb];rw [Yw f ((n - 1) / 256) (by omega)]
     have:(UInt8.ofNat ((n - 1) % 256)).toNat=(n - 1) % 256:=by
       simp
     rw [this];omega
theorem cZ (n:Nat):rJ (zig n)=n:=by
 unfold zig;split
 . simp only [rJ];omega
 . simp only [rJ];omega
theorem aV (z:Int):zig (rJ z)=z:=by
 cases z with
 | ofNat m=>
   show zig (2*m)=_;unfold zig;rw [if_pos (by omega)];congr 1;omega
 | negSucc m=>
   show zig (2*m+1)=_;unfold zig;rw [if_neg (by omega)];congr 1;omega
theorem sF:∀(f:Nat) (l:List Int),bI l<=f->QU f (bI l)=l
 | 0,l,h=>by
   cases l with
   | nil=>rfl
   | cons x l=>
     simp only [bI] at h;have:0<2 ^ rJ x:=Nat.pow_pos (by decide);have:0<2 ^ rJ x*(2*bI l+1):=Nat.mul_pos this (by omega);omega
 | f+1,[],_=>by simp [bI,QU]
 | f+1,x::l,h=>by
   simp only [bI] at h ⊢;cases hu:rJ x with
   | zero=>
     rw [hu] at h;simp only [Nat.pow_zero,Nat.one_mul] at h ⊢;simp only [QU];rw [if_neg (by omega),if_pos (by omega),show (2*bI l+1) / 2=bI l by omega,sF f l (by omega)];rw [<-hu,aV]
   | succ v=>
     rw [hu] at h;have h0:0<2 ^ v:=Nat.pow_pos (by decide);have hp:0<2 ^ v*(2*bI l+1):=Nat.mul_pos h0 (by omega);have e:2 ^ (v+1)*(2*bI l+1)=2*(2 ^ v*(2*bI l+1)):=by rw [Nat.pow_succ,Nat.mul_comm (2 ^ v) 2,Nat.mul_assoc]
     have ih:=sF f (zig v::l) (by simp only [bI,cZ];omega);simp only [bI,cZ] at ih;rw [e] at h ⊢;simp only [QU];rw [if_neg (by omega),if_neg (by omega),Nat.mul_div_cancel_left _ (by decide),ih];simp only [cZ];rw [<-hu,aV]
theorem xw (l:List Int):gy (LY l)=l:=by
 unfold gy LY;exact sF _ l (by simp)
theorem Nf (l:List UInt8):zX (K3 l)=l:=by
 unfold zX K3;rw [cZ];exact Yb l _ (Nat.le_refl _)
theorem Wo (n:Int):K3 (zX n)=n:=by
 unfold zX K3;rw [Yw _ _ (Nat.le_refl _),aV]
theorem fO {n m:Int} (h:zX n=zX m):n=m:=by rw [<-Wo n,h,Wo]
def wh (n:Int):Value:=.string ⟨(zX n).toArray⟩
theorem fU {s:ByteArray} {l:List UInt8} (h:s.data.toList=l):Value.string s=wh (K3 l):=by
 subst h;unfold wh;rw [Nf]
variable {I:Itp} {env:List D} {g:G}
theorem vK {j:Nat} {a b c d:E} {x y z u:D} (ha:a.den I env=some x) (hb:b.den I env=some y) (hc:c.den I env=some z) (hd:d.den I env=some u) :
   (E.fn (1000+j) a b c d).den I env=some (bi j x y z u):=by
 simp only [E.den,ha,hb,hc,hd];show (if 1000<=1000+j then some (bi (1000+j - 1000) x y z u) else I.fn (1000+j) x y z u)=_;rw [if_pos (Nat.le_add_right _ _),Nat.add_sub_cancel_left]
theorem fq {j:Nat} {a b c:E} {x y z n:Int} (ha:a.den I env=some (.i x)) (hb:b.den I env=some (.i y)) (hc:c.den I env=some (.i z)) (hn:bi j (.i x) (.i y) (.i z) (.i 0)=.i n) :
   (mkS j a b c).den I env=some (.i n):=by
 unfold mkS;split
 . simp only [E.den,Option.some.injEq,D.i.injEq] at ha hb hc;subst ha;subst hb;subst hc;split
   . rename_i m hm;rw [hm] at hn;simp only [D.i.injEq] at hn;subst hn;rfl
   . rename_i m hm;rw [hm] at hn;cases hn
 . rw [vK ha hb hc (show (E.lit 0).den I env=some (.i 0) from rfl),hn]
theorem vJ {a:E} {x:Int} (ha:a.den I env=some (.i x)):(dR a).den I env=some (.i (uF x)):=
 fq (n:=uF x) ha (show (E.lit 0).den I env=some (.i 0) from rfl) (show (E.lit 0).den I env=some (.i 0) from rfl) rfl
theorem eD {e:E} {x:Value} {n:Int} (h:e.den I g.env=some (.i n)) (hx:x=wh n):Rel I g (mkStr e) x:=by
 unfold mkStr;split
 . rename_i m;simp only [E.den,Option.some.injEq,D.i.injEq] at h;subst h;exact ⟨_,hx,by simp⟩
 . exact ⟨n,h,hx⟩
theorem xL {v:AV} {x:Value} {e:E} (h:v.code=some e) (hv:Rel I g v x):∃n,e.den I g.env=some (.i n)/\x=wh n:=by
 cases v with
 | sat e'=>simp only [AV.code,Option.some.injEq] at h;subst h;exact hv
 | str l=>
   simp only [AV.code,Option.some.injEq] at h;subst h;obtain ⟨s,rfl,h2⟩:=hv;exact ⟨K3 l,rfl,fU h2⟩
 | wE t n=>
   simp only [AV.code,Option.some.injEq] at h;subst h;obtain ⟨f,k,s,h1,h2,rfl,h4,h5⟩:=hv;refine ⟨U4 f k,vK (j:=5) h1 h2 (show (E.lit 0).den I g.env=some (.i 0) from rfl) (show (E.lit 0).den I g.env=some (.i 0) from rfl),?_⟩;refine fU ?_;refine List.ext_getElem? fun i=>?_;rw [h4];simp only [Int.toNat_natCast,List.getElem?_map];by_cases hi:i<s.data.toList.length
   . rw [List.getElem?_range hi,List.getElem?_eq_getElem hi];simp only [Option.map_some];rw [h5 i _ (List.getElem?_eq_getElem hi)];simp
   . have h1:s.data.toList[i]?=none:=List.getElem?_eq_none (by omega);have h2:(List.range s.data.toList.length)[i]?=none:=List.getElem?_eq_none (by rw [List.length_range];omega);rw [h1,h2];rfl
 | _=>simp [AV.code] at h
theorem wY {c:CK} {e:E} {n:Int} {x:Value} (h:e.den I g.env=some (.i n)) (hx:c.rel g n x):Rel I g (c.av e) x:=by
 cases c with
 | int k=>exact ⟨n,h,hx⟩
 | bool=>exact ⟨n,h,hx⟩
 | str=>exact eD h hx
 | lst ks=>exact ⟨n,h,hx⟩
 | clo cs=>
   simp only [CK.av];split
   . simp only [E.den,Option.some.injEq,D.i.injEq] at h;subst h;rcases hx with ⟨_,hx⟩ | ⟨h1,_⟩
     . exact hx
     . omega
   . exact ⟨n,h,hx⟩
end Go.Sx
end
