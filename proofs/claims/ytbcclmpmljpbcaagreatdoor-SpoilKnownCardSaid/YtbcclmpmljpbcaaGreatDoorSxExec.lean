/-
  The symbolic executor: code, calls, loops, ranges over functions, regions that draw their order. Definitions alone. Conditions: none.
-/
import Derived.Test.YtbcclmpmljpbcaaGreatDoorSxDefs
noncomputable section
namespace Go.Sx
open Go

/-! ### Taking a state as an instance of a pattern -/

structure Sub where
  nv : Nat
  nb : Nat
  vs : List (Nat × E)
  bs : List (Nat × Option Nat)

def Sub.bindE (u : Sub) (p e : E) : Sub :=
  match p with
  | .var i => if i < u.nv then u else match get u.vs i with
    | some _ => u
    | none => { u with vs := (i, e) :: u.vs }
  | _ => u
def Sub.bindB (u : Sub) (b : Nat) (c : Option Nat) : Sub :=
  if b < u.nb then u else match get u.bs b with
    | some _ => u
    | none => { u with bs := (b, c) :: u.bs }

/-- The substitution is reckoned before it is handed on. -/
def Sub.force (u : Sub) (f : Sub → Sub) : Sub := match u with
  | ⟨nv, nb, vs, bs⟩ => f ⟨nv, nb, vs, bs⟩

mutual
def Sub.av (u : Sub) : AV → AV → Sub
  | .bool e, .bool f => u.bindE e f
  | .int _ e, .int _ f => u.bindE e f
  | .ptr b r _ _, .ptr c q _ _ => (u.bindB b (some c)).bindE r q
  | .slice b lo n _ _, .slice c lo' n' _ _ => ((u.bindB b (some c)).bindE lo lo').bindE n n'
  | .slice b _ n _ _, .nilslice => (u.bindB b none).bindE n (.lit 0)
  | .slice b _ n _ _, .cap0 => (u.bindB b none).bindE n (.lit 0)
  | .slice b _ n _ _, .capN => (u.bindB b none).bindE n (.lit 0)
  | .strT t n, .strT t' n' => (u.bindE t t').bindE n n'
  | .strT t n, .str l => (u.bindE t (strTab l)).bindE n (.lit l.length)
  | .sat e, v => match v.code with
    | some f => u.bindE e f
    | none => u
  | .ifo e, .ifo f => u.bindE e f
  | .ifo e, .nilif => u.bindE e (.lit 0)
  | .asl b _ _ _, .asl c _ _ _ => u.bindB b (some c)
  | .bfunc _ l m, .bfunc _ l' m' => (u.avs l l').avs m m'
  | .big l _ t _ m, .big l' _ t' _ m' => ((u.avs l l').bindE t t').avs m m'
  | .func _ l, .func _ m => u.avs l m
  | .yld b, .yld c => u.bindB b (some c)
  | .mref b, .mref c => u.bindB b (some c)
  | .agg l, .agg m => u.avs l m
  | .tup l, .tup m => u.avs l m
  | _, _ => u
def Sub.avs (u : Sub) : List AV → List AV → Sub
  | a :: l, b :: m => (u.av a b).force fun u => u.avs l m
  | _, _ => u
end

def Sub.tmps (u : Sub) : Tmps → Tmps → Sub
  | [], _ => u
  | (t, v) :: l, m => match get m t with
    | some w => (u.av v w).force fun u => u.tmps l m
    | none => u.tmps l m

def Sub.blk (u : Sub) : Blk → Blk → Sub
  | .cells l _, .cells m _ => u.avs l m
  | .rows _ t n _ _, .rows _ t' n' _ _ => (u.bindE t t').bindE n n'
  | .big l _ t _ m _, .big l' _ t' _ m' _ => ((u.avs l l').bindE t t').avs m m'
  | .loop _ _ _ _ _ ts d, .loop _ _ _ _ _ ts' d' => (u.bindB d (some d')).tmps ts ts'
  | .mp l m, .mp l' m' => (u.avs l l').avs m m'
  | _, _ => u

/-- The block that stands for a pattern's block (a slice that is nil has none). -/
def Sub.img (u : Sub) (b : Nat) : Option Nat := if b < u.nb then some b else (get u.bs b).join

def Sub.mem (u : Sub) (last : Bool) : Mem → Mem → Sub
  | [], _ => u
  | (b, x) :: l, M => match u.img b with
    | some c => match get M c with
      | some y => (u.blk x y).force fun u => u.mem last l M
      | none => u.mem last l M
    | none => match last, x with
      | true, .rows _ t n _ _ => ((u.bindE t .zt).bindE n (.lit 0)).mem last l M
      | _, _ => u.mem last l M

def Sub.list (u : Sub) : Nat → List E
  | 0 => []
  | n + 1 => u.list n ++ [(get u.vs (u.nv + n)).getD .zt]

/-- A substitution, fixed: variables from nv on, blocks from nb on. -/
structure Fix where
  nv : Nat
  nb : Nat
  kb : Nat
  σ : List E
  ρ : List (Nat × Option Nat)

def Fix.img (u : Fix) (b : Nat) : Option Nat := if b < u.nb then some b else if b < u.kb then (get u.ρ b).join else none
def Fix.e (u : Fix) (p : E) : E := p.subst u.nv u.σ

mutual
def Fix.le (u : Fix) : AV → AV → Bool
  | .any, _ => true
  | .undef, .undef => true
  | .bool e, .bool f => u.e e == f
  | .int k e, .int k' f => k == k' && u.e e == f
  | .nilptr, .nilptr => true
  | .ptr b r s k, .ptr c q s' k' => u.img b == some c && u.e r == q && s == s' && k == k'
  | .nilslice, .nilslice => true
  | .slice b lo n s nl, .slice c lo' n' s' nl' => u.img b == some c && u.e lo == lo' && u.e n == n' && s == s' && (nl || !nl')
  | .slice _ lo n _ nl, .nilslice => nl && u.e n == .lit 0 && u.e lo == .lit 0
  | .slice _ lo n _ nl, .cap0 => nl && u.e n == .lit 0 && u.e lo == .lit 0
  | .slice _ lo n _ nl, .capN => nl && u.e n == .lit 0 && u.e lo == .lit 0
  | .capN, .capN => true
  | .strT t n, .strT t' n' => u.e t == t' && u.e n == n'
  | .strT t n, .str l => u.e t == strTab l && u.e n == .lit l.length
  | .sat e, v => match v.code with
    | some f => u.e e == f
    | none => false
  | .ifo e, .ifo f => u.e e == f
  | .ifo e, .nilif => u.e e == .lit 0
  | .cap0, .cap0 => true
  | .gptr g k, .gptr g' k' => g == g' && k == k'
  | .str l, .str m => l == m
  | .empty, .empty => true
  | .empty, .cap0 => true
  | .asl b k n s, .asl c k' n' s' => u.img b == some c && k == k' && n == n' && s == s'
  | .bfunc f l m, .bfunc g l' m' => f == g && u.les l l' && u.les m m'
  | .big l ks t n m, .big l' ks' t' n' m' => u.les l l' && ks == ks' && u.e t == t' && n == n' && u.les m m'
  | .func f l, .func g m => f == g && u.les l m
  | .yld b, .yld c => u.img b == some c
  | .mref b, .mref c => u.img b == some c
  | .nilmap, .nilmap => true
  | .nilif, .nilif => true
  | .nilfunc, .nilfunc => true
  | .agg l, .agg m => u.les l m
  | .tup l, .tup m => u.les l m
  | _, _ => false
def Fix.les (u : Fix) : List AV → List AV → Bool
  | [], [] => true
  | a :: l, b :: m => u.le a b && u.les l m
  | _, _ => false
end

/-- Of a list of cells the first ones. -/
def Fix.lesP (u : Fix) : List AV → List AV → Bool
  | [], _ => true
  | a :: l, b :: m => u.le a b && u.lesP l m
  | _ :: _, [] => false

def Fix.leT (u : Fix) : Tmps → Tmps → Bool
  | [], _ => true
  | (t, v) :: l, m => (match get m t with
    | some w => u.le v w
    | none => false) && u.leT l m

def Fix.leB (u : Fix) : Blk → Blk → Bool
  | .cells l w, .cells m w' => (!w || w') && u.lesP l m
  | .rows ks t n w nl, .rows ks' t' n' w' nl' => ks == ks' && u.e t == t' && u.e n == n' && (!w || w') && (nl || !nl')
  | .big l ks t n m w, .big l' ks' t' n' m' w' => u.les l l' && ks == ks' && u.e t == t' && n == n' && u.lesP m m' && (!w || w')
  | .loop st p f ix nt ts d, .loop st' p' f' ix' nt' ts' d' => st == st' && p == p' && f == f' && ix == ix' && nt == nt' && u.leT ts ts' && u.img d == some d'
  | .dfr a, .dfr b => a == b
  | .mp l m, .mp l' m' => u.les l l' && u.les m m'
  | _, _ => false

def Fix.leM (u : Fix) : Mem → Mem → Bool
  | [], _ => true
  | (b, x) :: l, M => (match u.img b with
    | some c => match get M c with
      | some y => u.leB x y
      | none => false
    | none => match x with
      | .rows _ t n _ nl => nl && u.e n == .lit 0 && u.e t == .zt && decide (b < u.kb)
      | _ => false) && u.leM l M

def Fix.imgs (u : Fix) : Mem → List Nat
  | [] => []
  | (b, _) :: l => match u.img b with
    | some c => c :: u.imgs l
    | none => u.imgs l

def nodup : List Nat → Bool
  | [] => true
  | x :: l => !l.contains x && nodup l
def keys {α : Type} (l : List (Nat × α)) : List Nat := l.map (·.1)

/-- All of a pattern's blocks stand for different ones that are there. -/
def Fix.ok (u : Fix) (M : Mem) : Bool := nodup (keys M) && nodup (u.imgs M)

def Fix.leD (u : Fix) : List DV → List DV → Bool
  | [], [] => true
  | .blk a :: l, .blk b :: m => u.img a == some b && u.leD l m
  | .fn f l1 l2 :: l, .fn g m1 m2 :: m => f == g && u.les l1 m1 && u.les l2 m2 && u.leD l m
  | _, _ => false

def Fix.leS (u : Fix) (h s : St) : Bool :=
  decide (u.nb ≤ u.kb) && h.nt == s.nt && u.leD h.defers s.defers && u.leT h.tmps s.tmps && u.leM h.mem s.mem && u.ok h.mem

def matchSt (nv nb m k : Nat) (h s : St) : Fix :=
  let u : Sub := { nv, nb, vs := [], bs := [] }
  let go (last : Bool) (u : Sub) : Sub := u.force fun u => match Nat.beq u.vs.length m, Nat.beq u.bs.length k with
    | true, true => u
    | _, _ => u.mem last h.mem s.mem
  let u := go true (go false (go false (go false (u.tmps h.tmps s.tmps))))
  { nv, nb, kb := nb + k, σ := u.list m, ρ := u.bs }

/-! ### Contracts, loops -/

structure Contract where
  fn : FuncId
  sorts : List Bool
  args : List AV
  mem : Mem
  nb : Nat
  pre : List PE
  outs : List Bool
  res : AV
  mods : Mem
  fresh : Mem
  post : List PE

structure Ann where
  fn : FuncId
  bid : Nat
  keep : List Nat
  tmps : Tmps
  drop : List Nat
  mem : Mem
  sorts : List Bool
  nbl : Nat
  inv : List PE
  meas : E

structure Cx where
  P : Program
  cs : List Contract
  anns : List Ann
  kn : Kn := {}

inductive Ex where
  | normal
  | ret
  | exit (id : Nat)
  | goto (l : Nat)
  deriving DecidableEq

def keepT (ks : List Nat) : Tmps → Tmps
  | [] => []
  | (t, v) :: l => if ks.contains t then (t, v) :: keepT ks l else keepT ks l
def dels {α : Type} : List Nat → List (Nat × α) → List (Nat × α)
  | [], M => M
  | b :: l, M => dels l (del b M)
def puts {α : Type} : List (Nat × α) → List (Nat × α) → List (Nat × α)
  | [], M => M
  | (b, x) :: l, M => put b x (puts l M)

/-- What stands for a pattern's variables is of their sorts. -/
def sortPs : List Bool → List E → List PE
  | b :: l, e :: m => .sort b e :: sortPs l m
  | _, _ => []

/-- The state at a loop's head. -/
def Ann.head (a : Ann) (s : St) : St :=
  { s with tmps := puts a.tmps (keepT a.keep s.tmps), mem := puts a.mem (dels a.drop s.mem), nv := s.nv + a.sorts.length, nb := s.nb + a.nbl }

/-- Does the state fit what is said of the head? -/
def Ann.fits (a : Ann) (s : St) : Bool :=
  let h := a.head s
  let u := matchSt s.nv s.nb a.sorts.length a.nbl h s
  u.leS h s && decide (u.σ.length = a.sorts.length)
/-- The first that fits. -/
def findAnn (l : List Ann) (fn : FuncId) (bid : Nat) (s : St) : Option Ann := l.find? fun a => a.fn == fn && a.bid == bid && a.fits s

/-- A range over a function: its parameters, its assignments, its body. -/
structure RF where
  params : List Nat
  assign : Code
  body : Code

def rfs : Code → List RF
  | .seq a b => rfs a ++ rfs b
  | .cond _ a b => rfs a ++ rfs b
  | .block _ b => rfs b
  | .loop b => rfs b
  | .scope b => rfs b
  | .rangeFunc _ ps a b => { params := ps.toList, assign := a, body := b } :: (rfs a ++ rfs b)
  | _ => []

def rfAt (P : Program) (fn ix : Nat) : Option RF :=
  match P.funcs[fn]? with
  | some f => match f.body with
    | some c => (rfs c)[ix]?
    | none => none
  | none => none

/-! ### Applying a contract -/

mutual
def Fix.inst (u : Fix) : AV → AV
  | .bool e => .bool (u.e e)
  | .int k e => .int k (u.e e)
  | .ptr b r s k => .ptr ((u.img b).getD 0) (u.e r) s k
  | .slice b lo n s nl => .slice ((u.img b).getD 0) (u.e lo) (u.e n) s nl
  | .func f l => .func f (u.insts l)
  | .yld b => .yld ((u.img b).getD 0)
  | .mref b => .mref ((u.img b).getD 0)
  | .agg l => .agg (u.insts l)
  | .tup l => .tup (u.insts l)
  | .big l ks t n m => .big (u.insts l) ks (u.e t) n (u.insts m)
  | .asl b k n s => .asl ((u.img b).getD 0) k n s
  | .strT t n => .strT (u.e t) (u.e n)
  | .sat e => .sat (u.e e)
  | .ifo e => .ifo (u.e e)
  | .bfunc f l m => .bfunc f (u.insts l) (u.insts m)
  | v => v
def Fix.insts (u : Fix) : List AV → List AV
  | [] => []
  | v :: l => u.inst v :: u.insts l
end
def Fix.instT (u : Fix) : Tmps → Tmps
  | [] => []
  | (t, v) :: l => (t, u.inst v) :: u.instT l
def Fix.instB (u : Fix) : Blk → Blk
  | .cells l w => .cells (u.insts l) w
  | .rows ks t n w nl => .rows ks (u.e t) (u.e n) w nl
  | .big l ks t n m w => .big (u.insts l) ks (u.e t) n (u.insts m) w
  | .loop st p f ix nt ts d => .loop st p f ix nt (u.instT ts) ((u.img d).getD 0)
  | .dfr b => .dfr b
  | .mp l m => .mp (u.insts l) (u.insts m)
def Fix.instM (u : Fix) : Mem → Mem
  | [] => []
  | (b, x) :: l => ((u.img b).getD 0, u.instB x) :: u.instM l

/-- The pattern's blocks that may be written, as they are called here. -/
def wrOf : Mem → List Nat
  | [] => []
  | (b, x) :: l => if x.wr then b :: wrOf l else wrOf l
def Fix.imgL (u : Fix) : List Nat → List Nat
  | [] => []
  | b :: l => match u.img b with
    | some c => c :: u.imgL l
    | none => u.imgL l

def varsFrom (n : Nat) : Nat → List E
  | 0 => []
  | k + 1 => varsFrom n k ++ [.var (n + k)]
def idsFrom (n m : Nat) : Nat → List (Nat × Option Nat)
  | 0 => []
  | k + 1 => (n + k, some (m + k)) :: idsFrom n m k

/-- A contract's own form: what it changes it may write, what is new is numbered on. -/
def Contract.form (c : Contract) : Bool :=
  (keys c.fresh).all (fun b => decide (c.nb ≤ b) && decide (b < c.nb + c.fresh.length)) && (keys c.mods).all (fun b => (wrOf c.mem).contains b) &&
  (c.mods ++ c.fresh).all (fun x => x.2.wr)

def applyC (c : Contract) (args : List AV) (s : St) (k : AV → St → Tree) : Tree :=
  let h : St := { tmps := [(0, .agg c.args)], nt := 0, defers := [], mem := c.mem, nv := 0, nb := 0 }
  let t : St := { tmps := [(0, .agg args)], nt := 0, defers := [], mem := s.mem, nv := 0, nb := 0 }
  let u := matchSt 0 0 c.sorts.length c.nb h t
  if !(u.leS h t) || !(decide (u.σ.length = c.sorts.length)) || !c.form || !((wrOf c.mem).all fun b => (u.img b).isSome) then .fail 10 else
  let u2 : Fix := { nv := 0, nb := 0, kb := c.nb + c.fresh.length, σ := u.σ ++ varsFrom s.nv c.outs.length, ρ := idsFrom c.nb s.nb c.fresh.length ++ u.ρ }
  let s2 : St := { s with
    mem := u2.instM c.fresh ++ (u2.instM c.mods ++ dels (u.imgL (wrOf c.mem)) s.mem)
    nv := s.nv + c.outs.length, nb := s.nb + c.fresh.length }
  mkAsserts (sortPs c.sorts u.σ ++ c.pre.map (PE.subst 0 u.σ)) (havocs c.outs (assumes (c.post.map (PE.subst 0 u2.σ)) (k (u2.inst c.res) s2)))

/-- Is a condition not plainly false? -/
def PE.maybe : PE → Bool
  | .ff (.sel t r c) => match mkSel t r c with
    | .lit n => n == 0
    | _ => true
  | .tt (.sel t r c) => match mkSel t r c with
    | .lit n => n != 0
    | _ => true
  | _ => true
/-- Do the arguments and the memory fit? -/
def fits (c : Contract) (args : List AV) (s : St) : Bool :=
  let h : St := { tmps := [(0, .agg c.args)], nt := 0, defers := [], mem := c.mem, nv := 0, nb := 0 }
  let t : St := { tmps := [(0, .agg args)], nt := 0, defers := [], mem := s.mem, nv := 0, nb := 0 }
  let u := matchSt 0 0 c.sorts.length c.nb h t
  u.leS h t && decide (u.σ.length = c.sorts.length) && (c.pre.all fun p => (p.subst 0 u.σ).maybe)

/-- The first contract of a function that fits. -/
def findC (l : List Contract) (fn : FuncId) (args : List AV) (s : St) : Option Contract := l.find? fun c => c.fn == fn && fits c args s

/-! ### The executor -/

structure Eng where
  exec : FuncId → Option Nat → Nat → Nat → Code → St → (Ex → St → Tree) → Tree
  loop : FuncId → Option Nat → Nat → Nat → Code → St → (Ex → St → Tree) → Tree
  callv : AV → List AV → St → (AV → St → Tree) → Tree

/-- A number is reckoned before it is handed on. -/
def forceN {α : Type} (n : Nat) (f : Nat → α) : α := match n with
  | 0 => f 0
  | m + 1 => f (m + 1)
theorem forceN_eq {α : Type} {n : Nat} {f : Nat → α} : forceN n f = f n := by cases n <;> rfl
def setT (s : St) (dst : Option Tmp) (v : AV) : Option St := match s with
  | ⟨tmps, nt, ds, mem, nv, nb⟩ => forceN nt fun nt => forceN nb fun nb => forceN nv fun nv => match dst with
    | some d => if d < nt then some ⟨putT d v tmps, nt, ds, mem, nv, nb⟩ else none
    | none => some ⟨tmps, nt, ds, mem, nv, nb⟩
theorem setT_eq {s : St} {dst : Option Tmp} {v : AV} : Sx.setT s dst v = match dst with
    | some d => if d < s.nt then some { s with tmps := putT d v s.tmps } else none
    | none => some s := by
  cases s; cases dst <;> simp [Sx.setT, forceN_eq]

/-- Is an operation carried out? 'none': it hangs on this temporary, which is no constant. -/
def wantedA (ops : Array Oper) (s : St) (o : Oper) : Option (Bool ⊕ (Nat × E)) :=
  match o.guard with
  | none => some (.inl true)
  | some (j, want) => match (ops[j]?).bind (·.dst) with
    | some t => match get s.tmps t with
      | some (.bool (.lit n)) => some (.inl ((n != 0) == want))
      | some (.bool e) => some (.inr (t, e))
      | some .undef => some (.inl false)
      | _ => none
    | none => none

/-- A pick over a temporary that is no constant. -/
def pickA (s : St) (o : Oper) : Option (Nat × E) :=
  match o.op with
  | .pick (.tmp t) _ _ => match get s.tmps t with
    | some (.bool (.lit _)) => none
    | some (.bool e) => some (t, e)
    | _ => none
  | _ => none

def setBool (s : St) (t : Nat) (b : Bool) : St := { s with tmps := putT t (.bool (.lit (if b then 1 else 0))) s.tmps }

/-- What a call calls. -/
def callOf (ts : Tmps) (o : Op) : Option (AV × List AV) :=
  match o with
  | .call { callee := .value f, args, argTypes := _ } => match evalOp ts f, evalOps ts args.toList with
    | some v, some l => some (v, l)
    | _, _ => none
  | _ => none

def isDefer : Op → Bool
  | .defer _ => true
  | _ => false
/-- A deferred call without arguments. -/
def deferOf (ts : Tmps) (o : Op) : Option DV :=
  match o with
  | .defer { callee := .value f, args, argTypes := _ } => if args.size = 0 then match evalOp ts f with
      | some (.func g l) => some (.fn g [] l)
      | some (.bfunc g m l) => some (.fn g m l)
      | _ => none
    else none
  | _ => none

/-- One operation that is carried out. -/
def oper1 (cx : Cx) (e : Eng) (s : St) (o : Oper) (k : St → Tree) : Tree :=
  match quiet cx.P cx.kn s.tmps s.mem o.op with
  | some (v, ps) => match setT s o.dst v with
    | some s' => mkAsserts ps (k s')
    | none => .fail 21
  | none => match loudF cx.P cx.kn s o.op with
    | some (v, s1, ps) => match setT s1 o.dst v with
      | some s' => mkAsserts ps (k s')
      | none => .fail 22
    | none => match callOf s.tmps o.op with
      | some (f, l) => e.callv f l s fun v s1 => match setT s1 o.dst v with
        | some s' => k s'
        | none => .fail 23
      | none => match deferOf s.tmps o.op with
        | some d => match o.dst with
          | none => k { s with defers := d :: s.defers }
          | some _ => .fail 27
        | none => .fail 20

/-- An index that is no constant, into a few cells. -/
def splitO (s : St) (o : Op) : Option (Nat × IntKind × E × Nat) :=
  match o with
  | .indexAddr _ x (.tmp i) => match evalOp s.tmps x, get s.tmps i with
    | some (.ptr b (.lit 0) _ _), some (.int k e) => match isLit e, get s.mem b with
      | none, some (.cells l _) => if l.length ≤ 16 then some (i, k, e, l.length) else none
      | _, _ => none
    | some (.slice b (.lit 0) (.lit n) _ _), some (.int k e) => match isLit e, get s.mem b with
      | none, some (.cells _ _) => if 0 ≤ n ∧ n ≤ 64 then some (i, k, e, n.toNat) else none
      | _, _ => none
    | _, _ => none
  | _ => none
def splitA (s : St) (o : Oper) : Option (Nat × IntKind × E × Nat) := splitO s o.op
def setInt (s : St) (i : Nat) (k : IntKind) (j : Nat) : St := { s with tmps := putT i (.int k (.lit j)) s.tmps }
def splitT (e : E) (f : Nat → Tree) : Nat → Tree
  | 0 => .fail 29
  | n + 1 => .branch (mkBin .eq e (.lit n)) (f n) (splitT e f n)
def operS (cx : Cx) (e : Eng) (s : St) (o : Oper) (k : St → Tree) : Tree :=
  match splitA s o with
  | some (i, kd, x, n) => splitT x (fun j => oper1 cx e (setInt s i kd j) o k) n
  | none => oper1 cx e s o k

def oper (cx : Cx) (e : Eng) (ops : Array Oper) (s : St) (o : Oper) (k : St → Tree) : Tree :=
  let go (s : St) (w : Bool) : Tree :=
    if w then match pickA s o with
      | some (t, c) => .branch c (oper1 cx e (setBool s t true) o k) (oper1 cx e (setBool s t false) o k)
      | none => operS cx e s o k
    else match setT s o.dst .undef with
      | some s' => k s'
      | none => .fail 24
  match wantedA ops s o with
  | some (.inl w) => go s w
  | some (.inr (t, c)) => match o.guard with
    | some (_, want) => .branch c (go (setBool s t true) (true == want)) (go (setBool s t false) (false == want))
    | none => .fail 25
  | none => .fail 26

def runOps (cx : Cx) (e : Eng) (ops : Array Oper) : List Nat → St → (St → Tree) → Tree
  | [], s, k => k s
  | i :: l, s, k => match ops[i]? with
    | some o => oper cx e ops s o fun s' => runOps cx e ops l s' k
    | none => runOps cx e ops l s k

/-- Results. -/
def resOf (P : Program) (s : St) : List ResultVar → Option (List AV)
  | [] => some []
  | .tmp t :: l => match get s.tmps t, resOf P s l with
    | some v, some vs => some (v :: vs)
    | _, _ => none
  | .cell a t :: l => match get s.tmps a, tyAgg P t, tySize P t, resOf P s l with
    | some (.ptr b r z k), some ag, some n, some vs => match loadAt s.mem b r z k n ag with
      | some (v, []) => some (v :: vs)
      | _ => none
    | _, _, _, _ => none
def single : List AV → AV
  | [v] => v
  | l => .tup l

def number : Nat → List AV → Tmps
  | _, [] => []
  | n, v :: l => (n, v) :: number (n + 1) l

/-- A deferred call, its body carried out. -/
def deferF (cx : Cx) (e : Eng) (f : FuncId) (args : List AV) (s : St) (k : St → Tree) : Tree :=
  match cx.P.funcs[f]? with
  | some fn => match fn.body with
    | some c =>
      if fn.name == "runtime.NumGoroutine" then .fail 36 else
      if args.length ≤ fn.ntmps then
        e.exec f none 0 0 c { s with tmps := number 0 args, nt := fn.ntmps, defers := [] } fun x s' =>
          match x with
          | .normal | .ret => if s'.defers.isEmpty then match resOf cx.P s' fn.results.toList with
              | some _ => k { s with mem := s'.mem, nv := s'.nv, nb := s'.nb }
              | none => .fail 30
            else .fail 37
          | _ => .fail 32
      else .fail 33
    | none => .fail 34
  | none => .fail 35

/-- The deferred calls: blocks of rounds' calls are shut, functions are called. -/
def shut (cx : Cx) (e : Eng) : List DV → St → (St → Tree) → Tree
  | [], s, k => k s
  | .blk b :: l, s, k => match get s.mem b with
    | some (.dfr true) => shut cx e l { s with mem := put b (.dfr false) s.mem } k
    | _ => .fail 31
  | .fn f m cap :: l, s, k => deferF cx e f (m ++ cap) s fun s' => shut cx e l s' k

/-! ### Blocks that nothing leads to are let go -/

/-- The blocks that a value leads to. (Fewer would do no harm.) -/
def AV.refs1 (f : List AV → List Nat → List Nat) (nb : Nat) (v : AV) (acc : List Nat) : List Nat :=
  let one (b : Nat) : List Nat := match Nat.ble nb b with
    | true => b :: acc
    | false => acc
  match v with
  | .ptr b _ _ _ => one b
  | .slice b _ _ _ _ => one b
  | .asl b _ _ _ => one b
  | .yld b => one b
  | .mref b => one b
  | .func _ l => f l acc
  | .bfunc _ l m => f l (f m acc)
  | .agg l => f l acc
  | .tup l => f l acc
  | .big l _ _ _ m => f l (f m acc)
  | _ => acc
def refsG (f : List AV → List Nat → List Nat) (nb : Nat) : List AV → List Nat → List Nat
  | [], acc => acc
  | v :: l, acc => refsG f nb l (v.refs1 f nb acc)
def refsN : Nat → Nat → List AV → List Nat → List Nat
  | 0, _ => fun _ acc => acc
  | d + 1, nb => refsG (refsN d nb) nb
def refsL (nb : Nat) (l : List AV) (acc : List Nat) : List Nat := refsN 8 nb l acc
def AV.refs (nb : Nat) (v : AV) (acc : List Nat) : List Nat := v.refs1 (refsN 8 nb) nb acc
def refsT (nb : Nat) : Tmps → List Nat → List Nat
  | [], acc => acc
  | (_, v) :: l, acc => refsT nb l (v.refs nb acc)
def Blk.refs (nb : Nat) : Blk → List Nat → List Nat
  | .cells l _, acc => refsL nb l acc
  | .big l _ _ _ m _, acc => refsL nb l (refsL nb m acc)
  | .loop _ _ _ _ _ ts d, acc => refsT nb ts (if nb ≤ d then d :: acc else acc)
  | .mp l m, acc => refsL nb l (refsL nb m acc)
  | _, acc => acc
def refsOld (nb : Nat) : Mem → List Nat → List Nat
  | [], acc => acc
  | (b, x) :: l, acc => if b < nb then refsOld nb l (x.refs nb acc) else refsOld nb l acc
def mark (nb : Nat) (M : Mem) : Nat → List Nat → List Nat → List Nat
  | 0, _, seen => seen
  | _ + 1, [], seen => seen
  | n + 1, b :: l, seen => if seen.contains b then mark nb M n l seen else match get M b with
    | some x => mark nb M n (x.refs nb l) (b :: seen)
    | none => mark nb M n l (b :: seen)
/-- Blocks from nb on that neither a result nor an older block leads to are forgotten. -/
def gc (nb nb' : Nat) (v : AV) (M : Mem) : Mem :=
  if nb' < nb + 30 then M else
    let seen := mark nb M 2000 (refsOld nb M (v.refs nb [])) []
    M.filter fun x => decide (x.1 < nb) || seen.contains x.1

def refsD (nb : Nat) : List DV → List Nat → List Nat
  | [], acc => acc
  | .blk b :: l, acc => refsD nb l (if nb ≤ b then b :: acc else acc)
  | .fn _ m c :: l, acc => refsD nb l (refsL nb c (refsL nb m acc))
/-- The same behind a loop's round. -/
def gcR (nb : Nat) (s : St) : Mem :=
  if s.nb < nb + 12 then s.mem else
    let seen := mark nb s.mem 2000 (refsOld nb s.mem (refsT nb s.tmps (refsD nb s.defers []))) []
    s.mem.filter fun x => decide (x.1 < nb) || seen.contains x.1

def callF (cx : Cx) (e : Eng) (f : FuncId) (args : List AV) (s : St) (k : AV → St → Tree) : Tree :=
  match cx.P.funcs[f]? with
  | some fn => match fn.body with
    | some c =>
      if fn.name == "runtime.NumGoroutine" then .fail 36 else
      match findC cx.cs f args s with
      | some c => applyC c args s k
      | none =>
        if args.length ≤ fn.ntmps then
          e.exec f none 0 0 c { s with tmps := number 0 args, nt := fn.ntmps, defers := [] } fun x s' =>
            match x with
            | .normal | .ret => shut cx e s'.defers s' fun s'' => match resOf cx.P s'' fn.results.toList with
                | some vs => k (single vs) { s with mem := gc s.nb s''.nb (single vs) s''.mem, nv := s''.nv, nb := s''.nb }
                | none => .fail 30
            | _ => .fail 32
        else .fail 33
    | none => .fail 34
  | none => .fail 35

def setParams : List Nat → List AV → Tmps → Tmps
  | t :: ps, v :: vs, ts => setParams ps vs (putT t v ts)
  | _, _, ts => ts

def yield (cx : Cx) (e : Eng) (b : Nat) (args : List AV) (s : St) (k : AV → St → Tree) : Tree :=
  match get s.mem b with
  | some (.loop .ready _ fn ix nt ts _) => match rfAt cx.P fn ix with
    | some rf =>
      if args.length = rf.params.length ∧ rf.params.all (· < nt) then
        e.exec fn (some b) 0 (ix + 1) rf.assign { s with tmps := setParams rf.params args ts, nt := nt, defers := [] } fun x s1 =>
          match x, get s1.mem b with
          | .normal, some (.loop .ready pend1 fn1 ix1 nt1 ts1 d1) =>
            if fn1 = fn ∧ ix1 = ix then
            e.exec fn (some b) 0 (ix + 1 + (rfs rf.assign).length) rf.body { s1 with mem := put b (.loop .busy pend1 fn1 ix1 nt1 ts1 d1) s1.mem } fun y s2 =>
              match get s2.mem b with
              | some (.loop _ _ fn2 ix2 nt2 ts2 d2) =>
                let j : Option Jump := match y with
                  | .normal => none
                  | .ret => some .ret
                  | .exit id => some (.exit id)
                  | .goto l => some (.goto l)
                k (.bool (.lit (if j.isNone then 1 else 0)))
                  { s with mem := put b (.loop (if j.isNone then .ready else .done) j fn2 ix2 nt2 ts2 d2) s2.mem, nv := s2.nv, nb := s2.nb }
              | _ => .fail 43
            else .fail 45
          | _, _ => .fail 42
      else .fail 41
    | none => .fail 40
  | _ => .fail 44

def callvStep (cx : Cx) (e : Eng) (f : AV) (args : List AV) (s : St) (k : AV → St → Tree) : Tree :=
  match f with
  | .func g cap => callF cx e g (args ++ cap) s k
  | .bfunc g m cap => callF cx e g (m ++ args ++ cap) s k
  | .yld b => yield cx e b args s k
  | _ => .fail 50

/-! ### A region that draws its order -/

/-- A set of numbers: a bit each. -/
def Ns := Nat
def Ns.has (m : Ns) (i : Nat) : Bool := Nat.beq (Nat.land (Nat.shiftRight m i) 1) 1
instance : Membership Nat Ns := ⟨fun m i => m.has i = true⟩
def Ns.none : Ns := (0 : Nat)
def Ns.add (m : Ns) (i : Nat) : Ns := Nat.lor m (Nat.shiftLeft 1 i)
theorem bit_eq (m i : Nat) : Nat.beq (Nat.land (Nat.shiftRight m i) 1) 1 = Nat.testBit m i := by
  show Nat.beq ((m >>> i) &&& 1) 1 = _
  rw [Nat.and_one_is_mod, Nat.testBit_eq_decide_div_mod_eq, Nat.shiftRight_eq_div_pow, Bool.eq_iff_iff, decide_eq_true_eq]
  exact Nat.beq_eq ▸ Iff.rfl
theorem Ns.has_eq {m : Ns} {i : Nat} : m.has i = Nat.testBit m i := bit_eq m i
theorem Ns.mem_iff {m : Ns} {i : Nat} : i ∈ m ↔ m.has i = true := Iff.rfl
theorem Ns.not_none {i : Nat} : i ∉ Ns.none := fun h => by
  rw [Ns.mem_iff, Ns.has_eq] at h
  exact absurd h (by simp [Ns.none])
theorem Ns.mem_add {m : Ns} {i k : Nat} : k ∈ m.add i ↔ k = i ∨ k ∈ m := by
  rw [Ns.mem_iff, Ns.mem_iff, Ns.has_eq, Ns.has_eq]
  have e : (m.add i : Nat) = (show Nat from m) ||| (1 <<< i) := rfl
  rw [e, Nat.testBit_or, Nat.one_shiftLeft, Nat.testBit_two_pow, Bool.or_eq_true, decide_eq_true_eq]
  constructor
  · rintro (h | h)
    · exact .inr h
    · exact .inl h.symm
  · rintro (h | h)
    · exact .inr h.symm
    · exact .inl h

/-- What has been done of a region: the state; which operations; which of them left memory alone; what has been decided of temporaries that are no constants. -/
structure Dr where
  s : St
  done : Ns
  qs : List Nat
  dec : List (E × Bool)
  /-- Blocks made ahead of the machine: operation, number, what is in them. -/
  fl : List (Nat × Nat × Blk) := []

/-- Those of a list that are not in a set. -/
noncomputable def restL (m : Ns) (l : List Nat) : List Nat :=
  List.rec (motive := fun _ => List Nat) [] (fun i _ r => Bool.rec (motive := fun _ => List Nat) (i :: r) r (m.has i)) l
theorem restL_eq {m : Ns} : ∀ {l : List Nat}, restL m l = l.filter fun i => !m.has i
  | [] => rfl
  | i :: l => by
    show Bool.rec (motive := fun _ => List Nat) (i :: restL m l) (restL m l) (m.has i) = _
    rw [restL_eq (l := l)]
    cases h : m.has i <;> simp [List.filter, h]
def needOf : List Edge → Nat
  | [] => 0
  | e :: l => if Region.binds .any e then Nat.lor (needOf l) (Nat.shiftLeft 1 e.on) else needOf l
def afterOk (done : Ns) (l : List Edge) : Bool := Nat.beq (Nat.land (needOf l) done) (needOf l)
def readyA (o : Oper) (done : Ns) : Bool := afterOk done o.after.toList

/-- All that an operation waits for, itself and theirs: a bit each. -/
def maskOf (acc : List Nat) : List Edge → Nat
  | [] => 0
  | e :: l => if Region.binds .any e then (1 <<< e.on) ||| ((acc[e.on]?).getD 0 ||| maskOf acc l) else maskOf acc l
def masks : List Oper → List Nat → List Nat
  | [], acc => acc
  | o :: l, acc => masks l (acc ++ [maskOf acc o.after.toList])
def before (ops : Array Oper) (i : Nat) : Nat := ((masks ops.toList [])[i]?).getD 0

/-- The temporaries that an operation reads. -/
def readsT : List Operand → List Nat
  | [] => []
  | .tmp t :: l => t :: readsT l
  | _ :: l => readsT l
def guardT (ops : Array Oper) (o : Oper) : List Nat :=
  match o.guard with
  | none => []
  | some (j, _) => match (ops[j]?).bind (·.dst) with
    | some t => [t]
    | none => []
def readsOf (ops : Array Oper) (o : Oper) : List Nat := guardT ops o ++ readsT o.op.operands.toList

def dsts : List Oper → List Nat
  | [] => []
  | o :: l => match o.dst with
    | some d => d :: dsts l
    | none => dsts l

/-- Each temporary is written once; who reads it waits for that; nothing waits for what comes later. -/
def drawOk (ops : Array Oper) : Bool :=
  nodup (dsts ops.toList) &&
  (List.range ops.size).all fun i => match ops[i]? with
    | none => true
    | some o => (o.after.all fun e => !(Region.binds .any e) || decide (e.on < i)) && (match o.op with | .select .. => false | _ => true) &&
      (List.range ops.size).all fun j => match (ops[j]?).bind (·.dst) with
        | none => true
        | some d => !(readsOf ops o).contains d || (before ops i).testBit j || i == j || (before ops j).testBit i

/-- Is what is written read by what comes before? Such an operation is not carried out ahead of the machine. -/
def isBar (ops : Array Oper) (j : Nat) : Bool :=
  match (ops[j]?).bind (·.dst) with
  | none => false
  | some d => (List.range ops.size).any fun i => match ops[i]? with
    | none => false
    | some o => (readsOf ops o).contains d && !(before ops i).testBit j

inductive Out where
  | skip
  | val (v : AV) (ps : List PE)
  | dec (c : E)

inductive Want where
  | yes
  | no
  | dec (c : E)

def getE (c : E) : List (E × Bool) → Option Bool
  | [] => none
  | (c', b) :: l => if c' = c then some b else getE c l

def wantedD (ops : Array Oper) (d : Dr) (o : Oper) : Option Want :=
  match o.guard with
  | none => some .yes
  | some (j, want) => match (ops[j]?).bind (·.dst) with
    | some t => match get d.s.tmps t with
      | some (.bool e) => match e with
        | .lit n => some (if (n != 0) == want then .yes else .no)
        | e => match getE e d.dec with
          | some b => some (if b == want then .yes else .no)
          | none => some (.dec e)
      | some .undef => some .no
      | _ => none
    | none => none

/-- Which element it is, as was decided; or what is to be asked. -/
def pickIx (e : E) (dec : List (E × Bool)) : Nat → Option (Nat ⊕ Nat)
  | 0 => none
  | n + 1 => match getE (mkBin .eq e (.lit n)) dec with
    | some true => some (.inl n)
    | some false => pickIx e dec n
    | none => some (.inr n)
def quietD (P : Program) (kn : Kn) (d : Dr) (o : Op) : Option Out :=
  match o with
  | .pick (.tmp t) a b => match get d.s.tmps t with
    | some (.bool (.lit n)) => (if n = 0 then evalOp d.s.tmps b else evalOp d.s.tmps a).map fun v => .val v []
    | some (.bool e) => match getE e d.dec with
      | some x => (if x then evalOp d.s.tmps a else evalOp d.s.tmps b).map fun v => .val v []
      | none => some (.dec e)
    | _ => none
  | o => match splitO d.s o with
    | some (i, k, e, n) => match pickIx e d.dec n with
      | some (.inl j) => (quiet P kn (setInt d.s i k j).tmps d.s.mem o).map fun (v, ps) => .val v ps
      | some (.inr j) => some (.dec (mkBin .eq e (.lit j)))
      | none => none
    | none => (quiet P kn d.s.tmps d.s.mem o).map fun (v, ps) => .val v ps

def outD (P : Program) (kn : Kn) (ops : Array Oper) (d : Dr) (o : Oper) : Option Out :=
  match wantedD ops d o with
  | some .yes => quietD P kn d o.op
  | some .no => some .skip
  | some (.dec c) => some (.dec c)
  | none => none

def firstQ (P : Program) (kn : Kn) (ops : Array Oper) (d : Dr) : List Nat → Option (Nat × Oper × Out)
  | [] => none
  | i :: l => match ops[i]? with
    | some o => if readyA o d.done && !isBar ops i then match outD P kn ops d o with
        | some x => some (i, o, x)
        | none => firstQ P kn ops d l
      else firstQ P kn ops d l
    | none => firstQ P kn ops d l

/-- Behind an operation that writes: what was read before it may be read behind it, too. -/
def recheck (P : Program) (kn : Kn) (ops : Array Oper) (d : Dr) (bf : Nat) : List Nat → Option (List PE)
  | [] => some []
  | q :: l => if bf.testBit q then recheck P kn ops d bf l else match ops[q]? with
    | some o => match outD P kn ops d o, recheck P kn ops d bf l with
      | some .skip, some ps => match o.dst with
        | none => some ps
        | some t => match get d.s.tmps t with
          | some .undef => if t < d.s.nt then some ps else none
          | _ => none
      | some (.val v p), some ps => match o.dst with
        | none => some (p ++ ps)
        | some t => match get d.s.tmps t with
          | some w => if t < d.s.nt ∧ Fix.le { nv := d.s.nv, nb := d.s.nb, kb := d.s.nb, σ := [], ρ := [] } w v = true then some (p ++ ps) else none
          | none => none
      | _, _ => none
    | none => none

def isWant : Option Want → Bool
  | some .yes => true
  | _ => false

def readyL (ops : Array Oper) (done : Ns) : List Nat → List Nat
  | [] => []
  | i :: l => match ops[i]? with
    | some o => if readyA o done then i :: readyL ops done l else readyL ops done l
    | none => readyL ops done l

def bothL (f : Nat → Tree) : List Nat → Tree
  | [] => .ok
  | [i] => f i
  | i :: l => .both (f i) (bothL f l)

/-- An operation that makes or writes memory, or calls. -/
def operE (cx : Cx) (e : Eng) (s : St) (o : Oper) (k : St → Tree) : Tree :=
  match loudF cx.P cx.kn s o.op with
  | some (v, s1, ps) => match setT s1 o.dst v with
    | some s' => mkAsserts ps (k s')
    | none => .fail 72
  | none => match callOf s.tmps o.op with
    | some (f, l) => e.callv f l s fun v s1 => match setT s1 o.dst v with
      | some s' => k s'
      | none => .fail 73
    | none => match quiet cx.P cx.kn s.tmps s.mem o.op with
      | some (v, ps) => match setT s o.dst v with
        | some s' => mkAsserts ps (k s')
        | none => .fail 74
      | none => .fail 70

/-- An operation that makes a block and looks at no memory. -/
def floatOf (P : Program) (kn : Kn) (s : St) (o : Op) : Option (AV × Blk) :=
  match o with
  | .alloc _ | .box _ _ | .makeSlice .. | .buildSlice .. | .makeMap .. => match loudF P kn { s with mem := [] } o with
    | some (v, s1, []) => match s1.mem with
      | [(_, x)] => some (v, x)
      | _ => none
    | _ => none
  | _ => none
/-- The first ready operation that is such a one. -/
def firstF (P : Program) (kn : Kn) (ops : Array Oper) (d : Dr) : List Nat → Option (Nat × Oper × AV × Blk)
  | [] => none
  | i :: l => match ops[i]? with
    | some o => if isWant (wantedD ops d o) && !isBar ops i then match floatOf P kn d.s o.op with
        | some (v, x) => some (i, o, v, x)
        | none => firstF P kn ops d l
      else firstF P kn ops d l
    | none => firstF P kn ops d l
/-- The floating blocks whose operations come before. -/
def flBefore (bf : Nat) : List (Nat × Nat × Blk) → Mem
  | [] => []
  | (i, b, x) :: l => if bf.testBit i then (b, x) :: flBefore bf l else flBefore bf l
def flAfter (bf : Nat) : List (Nat × Nat × Blk) → List (Nat × Nat × Blk)
  | [] => []
  | y :: l => if bf.testBit y.1 then flAfter bf l else y :: flAfter bf l
def flAll : List (Nat × Nat × Blk) → Mem
  | [] => []
  | (_, b, x) :: l => (b, x) :: flAll l
/-- What is behind a block, not far from the beginning. -/
def behind : Nat → Nat → Mem → Option Mem
  | 0, _, _ => none
  | _ + 1, _, [] => none
  | n + 1, b, x :: M => match Nat.beq x.1 b with
    | true => some M
    | false => behind n b M
/- Old blocks were there, new ones may be written. (Both lists are gone through side by side: they are alike but for their beginnings.) -/
/-- (An unfolding between two steps, so that the kernel does not go deep.) -/
def bid (b : Bool) : Bool := b
noncomputable def keysGo (nb : Nat) (M0 M' : Mem) : Mem → Bool :=
  List.rec (motive := fun _ => Mem → Bool) (fun _ => true)
    (fun x _ r M => Bool.rec (motive := fun _ => Bool)
      (let slow : Bool := match behind 4 x.1 M with
        | some M1 => r M1
        | none => (get M0 x.1).isSome && r M
       List.rec (motive := fun _ => Bool) slow (fun y M1 _ => Bool.rec (motive := fun _ => Bool) slow (bid (r M1)) (Nat.beq y.1 x.1)) M)
      (x.2.wr && r M) (Nat.ble nb x.1)) M'
theorem keysGo_nil {nb : Nat} {M0 M : Mem} : keysGo nb M0 [] M = true := rfl
theorem keysGo_cons {nb : Nat} {M0 M l : Mem} {x : Nat × Blk} : keysGo nb M0 (x :: l) M = match Nat.ble nb x.1 with
    | true => x.2.wr && keysGo nb M0 l M
    | false => match behind 4 x.1 M with
      | some M1 => keysGo nb M0 l M1
      | none => (get M0 x.1).isSome && keysGo nb M0 l M := by
  show Bool.rec (motive := fun _ => Bool) (List.rec (motive := fun _ => Bool) (match behind 4 x.1 M with
        | some M1 => keysGo nb M0 l M1
        | none => (get M0 x.1).isSome && keysGo nb M0 l M) (fun y M1 _ => Bool.rec (motive := fun _ => Bool) (match behind 4 x.1 M with
        | some M1 => keysGo nb M0 l M1
        | none => (get M0 x.1).isSome && keysGo nb M0 l M) (keysGo nb M0 l M1) (Nat.beq y.1 x.1)) M) (x.2.wr && keysGo nb M0 l M) (Nat.ble nb x.1) = _
  cases Nat.ble nb x.1 with
  | true => rfl
  | false =>
    cases M with
    | nil => rfl
    | cons y M1 =>
      simp only [behind]
      cases Nat.beq y.1 x.1 <;> rfl
def keysOk (nb : Nat) (M M' : Mem) : Bool := keysGo nb M M' M
theorem behind_spec {b : Nat} : ∀ {n : Nat} {M M1 : Mem}, behind n b M = some M1 → (get M b).isSome = true ∧ ∀ c, (get M1 c).isSome = true → (get M c).isSome = true
  | 0, _, _, h => by simp [behind] at h
  | _ + 1, [], _, h => by simp [behind] at h
  | n + 1, (k, x) :: M, M1, h => by
    simp only [behind] at h
    have up : ∀ c, (get M c).isSome = true → (get ((k, x) :: M) c).isSome = true := fun c hc => by
      rw [get_cons]; split
      · rfl
      · exact hc
    split at h
    · rename_i hk
      cases h
      have hk := Nat.eq_of_beq_eq_true hk
      exact ⟨by rw [get_cons, if_pos hk]; rfl, up⟩
    · obtain ⟨h1, h2⟩ := behind_spec h
      exact ⟨up _ h1, fun c hc => up c (h2 c hc)⟩
theorem keysGo_all {nb : Nat} {M0 : Mem} : ∀ {M' M : Mem}, (∀ c, (get M c).isSome = true → (get M0 c).isSome = true) → keysGo nb M0 M' M = true → (M'.all fun x => if x.1 < nb then (get M0 x.1).isSome else x.2.wr) = true
  | [], _, _, _ => rfl
  | x :: l, M, hM, h => by
    rw [keysGo_cons] at h
    rw [List.all_cons, Bool.and_eq_true]
    split at h
    · rename_i hb
      have hb := Nat.le_of_ble_eq_true hb
      rw [Bool.and_eq_true] at h
      refine ⟨?_, keysGo_all hM h.2⟩
      rw [if_neg (by omega)]; exact h.1
    · rename_i hb
      have hb : x.1 < nb := Nat.not_le.1 (Nat.not_le_of_not_ble_eq_true (by rw [hb]; simp))
      rw [if_pos hb]
      split at h
      · rename_i M1 h1
        obtain ⟨h2, h3⟩ := behind_spec h1
        exact ⟨hM _ h2, keysGo_all (fun c hc => hM c (h3 c hc)) h⟩
      · rw [Bool.and_eq_true] at h
        exact ⟨h.1, keysGo_all hM h.2⟩
theorem keysOk_all {nb : Nat} {M M' : Mem} (h : keysOk nb M M' = true) : (M'.all fun x => if x.1 < nb then (get M x.1).isSome else x.2.wr) = true := keysGo_all (fun _ h => h) h

/-- An operation writes its own temporary alone. -/
def frameT (old : Tmps) (dst : Option Tmp) (new : Tmps) : Option Tmps :=
  match dst with
  | none => some old
  | some d => match get new d with
    | some v => some (putT d v old)
    | none => none

def drawGo (cx : Cx) (e : Eng) (ops : Array Oper) : Nat → Dr → (St → Tree) → Tree
  | 0, _, _ => .fail 79
  | n + 1, d, k =>
    match restL d.done (List.range ops.size) with
    | [] => k { d.s with mem := flAll d.fl ++ d.s.mem }
    | l => match firstQ cx.P cx.kn ops d l with
      | some (i, o, x) => match x with
        | .skip => match setT d.s o.dst .undef with
          | some s' => forceN (d.done.add i) fun dn => drawGo cx e ops n { d with s := s', done := dn, qs := i :: d.qs } k
          | none => .fail 74
        | .val v ps => match setT d.s o.dst v with
          | some s' => mkAsserts ps (forceN (d.done.add i) fun dn => drawGo cx e ops n { d with s := s', done := dn, qs := i :: d.qs } k)
          | none => .fail 75
        | .dec c => mkAsserts [.sort false c] <| .branch c (drawGo cx e ops n { d with dec := (c, true) :: d.dec } k) (drawGo cx e ops n { d with dec := (c, false) :: d.dec } k)
      | none => match readyL ops d.done l with
        | [] => .fail 76
        | r => match firstF cx.P cx.kn ops d r with
          | some (i, o, v, x) => match setT { d.s with nb := d.s.nb + 1 } o.dst v with
            | some s' => forceN (d.done.add i) fun dn => drawGo cx e ops n { d with s := s', done := dn, fl := (i, d.s.nb, x) :: d.fl } k
            | none => .fail 64
          | none => bothL (fun i => match ops[i]? with
          | some o => if isWant (wantedD ops d o) then
              let M := flBefore (before ops i) d.fl ++ d.s.mem
              operE cx e { d.s with mem := M } o fun s1 =>
              if !keysOk d.s.nb M s1.mem then .fail 65 else
              match frameT d.s.tmps o.dst s1.tmps with
              | none => .fail 66
              | some ts =>
              let s' := { s1 with tmps := ts }
              match recheck cx.P cx.kn ops { d with s := s' } (before ops i) d.qs with
              | some ps => mkAsserts ps (forceN (d.done.add i) fun dn => drawGo cx e ops n { d with s := s', done := dn, fl := flAfter (before ops i) d.fl } k)
              | none => .fail 77
            else .fail 78
          | none => .fail 71) r

def loopHead (_cx : Cx) (e : Eng) (a : Ann) (fn : FuncId) (rnd : Option Nat) (bid o : Nat) (c : Code) (s : St) (k : Ex → St → Tree) : Tree :=
  let h := a.head s
  let u := matchSt s.nv s.nb a.sorts.length a.nbl h s
  if !(u.leS h s) || !(decide (u.σ.length = a.sorts.length)) then .fail 60 else
  mkAsserts (sortPs a.sorts u.σ ++ a.inv.map (PE.subst s.nv u.σ)) <| havocs a.sorts <| assumes a.inv <| mkAsserts [.sort false a.meas] <|
    e.exec fn rnd bid o c h fun x s1 =>
      match x with
      | .normal =>
        let u1 := matchSt s.nv s.nb a.sorts.length a.nbl h s1
        if !(u1.leS h s1) || !(decide (u1.σ.length = a.sorts.length)) then .fail 61 else
        mkAsserts (sortPs a.sorts u1.σ ++ a.inv.map (PE.subst s.nv u1.σ)) <|
          mkAsserts [.tt (mkBin .le (.lit 0) (a.meas.subst s.nv u1.σ)), .tt (mkBin .lt (a.meas.subst s.nv u1.σ) a.meas)] .ok
      | x => k x s1

def loopStep (cx : Cx) (e : Eng) (fn : FuncId) (rnd : Option Nat) (bid o : Nat) (c : Code) (s : St) (k : Ex → St → Tree) : Tree :=
  match findAnn cx.anns fn bid s with
  | some a => loopHead cx e a fn rnd bid o c s k
  | none => e.exec fn rnd bid o c s fun x s1 => match x with
    | .normal => let s2 : St := { s1 with tmps := keepL s.tmps s1.tmps }
      e.loop fn rnd bid o c { s2 with mem := gcR s.nb s2 } k
    | x => k x s1

/-- Behind a range over a function. -/
def rangeEnd (l : Nat) (k : Ex → St → Tree) (s3 : St) : Tree :=
  match get s3.mem l with
  | some (.loop st j fn' ix' nt' ts' d') =>
    if st = .busy then .fail 82 else
    let s4 := { s3 with mem := Sx.put l (.loop .exhausted j fn' ix' nt' ts' d') s3.mem }
    match j with
    | none => k .normal s4
    | some .ret => k .ret s4
    | some (.exit id) => k (.exit id) s4
    | some (.goto _) => .fail 83
  | _ => .fail 84

def rangeGo (e : Eng) (fn : FuncId) (o : Nat) (gf : FuncId) (cap : List AV) (d : Nat) (s1 : St) (k : Ex → St → Tree) : Tree :=
  e.callv (.func gf cap) [.yld s1.nb] (newBlk s1 (.loop .ready none fn o s1.nt s1.tmps d)) fun _ s3 => rangeEnd s1.nb k s3

def execStep (cx : Cx) (e : Eng) (fn : FuncId) (rnd : Option Nat) (bid o : Nat) (c : Code) (s : St) (k : Ex → St → Tree) : Tree :=
  match c with
  | .skip => k .normal s
  | .label _ => k .normal s
  | .ret => k .ret s
  | .exit id => k (.exit id) s
  | .seq a b => e.exec fn rnd bid o a s fun x s1 => match x with
    | .normal => e.exec fn rnd bid (o + (rfs a).length) b s1 k
    | x => k x s1
  | .block id b => e.exec fn rnd id o b s fun x s1 => match x with
    | .exit id' => if id' = id then k .normal s1 else k (.exit id') s1
    | x => k x s1
  | .cond c a b => match evalOp s.tmps c with
    | some (.bool (.lit n)) => if n = 0 then e.exec fn rnd bid (o + (rfs a).length) b s k else e.exec fn rnd bid o a s k
    | some (.bool x) => .branch x (e.exec fn rnd bid o a s k) (e.exec fn rnd bid (o + (rfs a).length) b s k)
    | _ => .fail 80
  | .loop b => e.loop fn rnd bid o b s k
  | .region _ ops false => if rnd.isSome && ops.any (fun o => isDefer o.op) then .fail 28 else runOps cx e ops (List.range ops.size) s fun s' => k .normal s'
  | .region _ ops true => if drawOk ops && cx.P.follows .mixedOrders then
      drawGo cx e ops (ops.size * 4 + 4) { s, done := Ns.none, qs := [], dec := [] } fun s' => k .normal s'
    else .fail 81
  | .rangeFunc f _ _ _ => match evalOp s.tmps f with
    | some (.func gf cap) => match rnd with
      | none => rangeGo e fn o gf cap s.nb (let s1 := newBlk s (.dfr true); { s1 with defers := .blk s.nb :: s1.defers }) k
      | some l0 => match get s.mem l0 with
        | some (.loop _ _ _ _ _ _ d) => rangeGo e fn o gf cap d s k
        | _ => .fail 85
    | _ => .fail 86
  | _ => .fail 89

def engStep (cx : Cx) (e : Eng) : Eng where
  exec := execStep cx e
  loop := loopStep cx e
  callv := callvStep cx e

def eng (cx : Cx) : Nat → Eng
  | 0 => { exec := fun _ _ _ _ _ _ _ => .fail 90, loop := fun _ _ _ _ _ _ _ => .fail 91, callv := fun _ _ _ _ => .fail 92 }
  | n + 1 => engStep cx (eng cx n)

/-! ### A contract's formula -/

def sortsEnv : List Bool → List D → Prop
  | [], [] => True
  | true :: l, .t _ :: m => sortsEnv l m
  | false :: l, .i _ :: m => sortsEnv l m
  | _, _ => False

/-- A table of which fewer rows are spoken of. -/
def trim1 (u : Fix) (x : Nat × Blk) (M : Mem) : Option (Nat × Blk × List PE) :=
  match x with
  | (b, .rows _ tp n _ _) => match u.img b with
    | some c => match get M c with
      | some (.rows ks t n' w nl) => if u.e n == n' then (if u.e tp == t then none else match tp with
          | .kt _ => some (c, .rows ks (u.e tp) n' w nl, [.agr (u.e tp) t n' ks.length])
          | _ => none) else some (c, .rows ks t (u.e n) w nl, [.tt (mkBin .le (.lit 0) (u.e n)), .tt (mkBin .le (u.e n) n')])
      | _ => none
    | none => none
  | _ => none
def trimM (u : Fix) : Mem → Mem → Mem × List PE
  | [], M => (M, [])
  | x :: l, M => match trim1 u x M with
    | some (c, y, ps) => let r := trimM u l (put c y M); (r.1, ps ++ r.2)
    | none => trimM u l M

/-- At a contract's end: the result and what memory holds are an instance of what it says. -/
def finish0 (c : Contract) (v : AV) (s : St) : Tree :=
  let n := c.sorts.length
  let h : St := { tmps := [(0, c.res)], nt := 0, defers := [], mem := c.mods ++ c.fresh, nv := n, nb := c.nb }
  let t : St := { tmps := [(0, v)], nt := 0, defers := [], mem := s.mem, nv := n, nb := c.nb }
  let u := matchSt n c.nb c.outs.length c.fresh.length h t
  if !(u.leS h t) || !(decide (u.σ.length = c.outs.length)) then .fail 100 else
  mkAsserts (sortPs c.outs u.σ ++ c.post.map (PE.subst n u.σ)) .ok

/-- Tables are trimmed first. -/
def finish (c : Contract) (v : AV) (s : St) : Tree :=
  let n := c.sorts.length
  let h : St := { tmps := [(0, c.res)], nt := 0, defers := [], mem := c.mods ++ c.fresh, nv := n, nb := c.nb }
  let t : St := { tmps := [(0, v)], nt := 0, defers := [], mem := s.mem, nv := n, nb := c.nb }
  let r := trimM (matchSt n c.nb c.outs.length c.fresh.length h t) (c.mods ++ c.fresh) s.mem
  mkAsserts r.2 (finish0 c v { s with mem := r.1 })

def verify (cx : Cx) (fuel : Nat) (c : Contract) : Tree :=
  match cx.P.funcs[c.fn]? with
  | some fn => match fn.body with
    | some _ =>
      assumes c.pre <|
        callF { cx with cs := [] } (eng cx fuel) c.fn c.args { tmps := [], nt := 0, defers := [], mem := c.mem, nv := c.sorts.length, nb := c.nb } fun v s => finish c v s
    | none => .fail 101
  | none => .fail 102
end Go.Sx
