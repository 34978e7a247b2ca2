/-
  A small symbolic executor for the walk, proved sound in the texts that follow: what it computes is a formula (a Tree); if the formula holds, the code behaves as the contract says. Conditions: none; nothing here speaks of a program.
-/
import Derived.RangeFuncRecord
import Derived.LoopNIn
import Derived.OrdersIn
namespace Go.Sx
open Go

/-! ### Terms -/

inductive D where
  | i (n : Int)
  | t (f : Int → Nat → Int)

inductive BO where
  | add | sub | mul | tdiv | tmod | lt | le | eq | ne | and | or | max | min
  deriving DecidableEq

inductive E where
  | lit (n : Int)
  | var (i : Nat)
  | bin (o : BO) (a b : E)
  | wrap (k : IntKind) (a : E)
  | zt
  | sel (t r : E) (c : Nat)
  | upd (t r : E) (c : Nat) (v : E)
  | cat (t n u : E)
  | fn (j : Nat) (a b c d : E)
  deriving DecidableEq

structure Itp where
  fn : Nat → D → D → D → D → Option D
  pr : Nat → List D → Prop

def BO.ev : BO → Int → Int → Int
  | .add, a, b => a + b
  | .sub, a, b => a - b
  | .mul, a, b => a * b
  | .tdiv, a, b => a.tdiv b
  | .tmod, a, b => a.tmod b
  | .lt, a, b => if a < b then 1 else 0
  | .le, a, b => if a ≤ b then 1 else 0
  | .eq, a, b => if a = b then 1 else 0
  | .ne, a, b => if a = b then 0 else 1
  | .and, a, b => if a ≠ 0 ∧ b ≠ 0 then 1 else 0
  | .or, a, b => if a ≠ 0 ∨ b ≠ 0 then 1 else 0
  | .max, a, b => if b > a then b else a
  | .min, a, b => if b < a then b else a

def tupd (f : Int → Nat → Int) (r : Int) (c : Nat) (v : Int) : Int → Nat → Int := fun x d => if x = r ∧ d = c then v else f x d
def tcat (f : Int → Nat → Int) (n : Int) (g : Int → Nat → Int) : Int → Nat → Int := fun x d => if x < n then f x d else g (x - n) d

def E.den (I : Itp) (env : List D) : E → Option D
  | .lit n => some (.i n)
  | .var i => env[i]?
  | .bin o a b => match a.den I env, b.den I env with
    | some (.i x), some (.i y) => some (.i (o.ev x y))
    | _, _ => none
  | .wrap k a => match a.den I env with
    | some (.i x) => some (.i (k.wrap x))
    | _ => none
  | .zt => some (.t fun _ _ => 0)
  | .sel t r c => match t.den I env, r.den I env with
    | some (.t f), some (.i x) => some (.i (f x c))
    | _, _ => none
  | .upd t r c v => match t.den I env, r.den I env, v.den I env with
    | some (.t f), some (.i x), some (.i y) => some (.t (tupd f x c y))
    | _, _, _ => none
  | .cat t n u => match t.den I env, n.den I env, u.den I env with
    | some (.t f), some (.i x), some (.t g) => some (.t (tcat f x g))
    | _, _, _ => none
  | .fn j a b c d => match a.den I env, b.den I env, c.den I env, d.den I env with
    | some a, some b, some c, some d => I.fn j a b c d
    | _, _, _, _ => none

def E.subst (n : Nat) (σ : List E) : E → E
  | .lit x => .lit x
  | .var i => if i < n then .var i else σ[i - n]?.getD (.sel (.lit 0) (.lit 0) 0)
  | .bin o a b => .bin o (a.subst n σ) (b.subst n σ)
  | .wrap k a => .wrap k (a.subst n σ)
  | .zt => .zt
  | .sel t r c => .sel (t.subst n σ) (r.subst n σ) c
  | .upd t r c v => .upd (t.subst n σ) (r.subst n σ) c (v.subst n σ)
  | .cat t x u => .cat (t.subst n σ) (x.subst n σ) (u.subst n σ)
  | .fn j a b c d => .fn j (a.subst n σ) (b.subst n σ) (c.subst n σ) (d.subst n σ)

/-- Constants are reckoned at once. -/
def mkBin (o : BO) (a b : E) : E :=
  match a, b with
  | .lit x, .lit y => .lit (o.ev x y)
  | a, b => .bin o a b
def mkAdd (a b : E) : E :=
  match a, b with
  | .lit x, .lit y => .lit (x + y)
  | .lit 0, b => b
  | a, .lit 0 => a
  | a, b => .bin .add a b
def mkWrap (k : IntKind) (a : E) : E :=
  match a with
  | .lit x => .lit (k.wrap x)
  | a => .wrap k a
def mkSel : E → E → Nat → E
  | .zt, _, _ => .lit 0
  | .upd t r c v, q, d =>
    if c ≠ d then mkSel t q d else if r = q then v else
      match r, q with
      | .lit _, .lit _ => mkSel t q d
      | _, _ => .sel (.upd t r c v) q d
  | t, r, c => .sel t r c
def isLit : E → Option Int
  | .lit n => some n
  | _ => none

/-! ### Values -/

inductive AV where
  | any
  | undef
  | bool (e : E)
  | int (k : IntKind) (e : E)
  | nilptr
  | ptr (b : Nat) (r : E) (s k : Nat)
  | nilslice
  | slice (b : Nat) (lo len : E) (s : Nat) (nl : Bool)
  | func (fn : FuncId) (cap : List AV)
  | yld (b : Nat)
  | nilfunc
  | agg (l : List AV)
  | tup (l : List AV)

inductive CK where
  | int (k : IntKind)
  | bool
  deriving DecidableEq

def CK.val : CK → Int → Value
  | .int k, n => .int k n
  | .bool, n => .bool (n ≠ 0)
def CK.av : CK → E → AV
  | .int k, e => .int k e
  | .bool, e => .bool e

inductive Jump where
  | ret
  | exit (id : Nat)
  | goto (l : Nat)
  deriving DecidableEq
def Jump.code : Jump → Code
  | .ret => .ret
  | .exit id => .exit id
  | .goto l => .goto l

inductive Blk where
  | cells (l : List AV) (wr : Bool)
  | rows (ks : List CK) (t len : E) (wr nl : Bool)
  | loop (st : LoopState) (pend : Option Jump) (fn ix nt : Nat) (tmps : List (Nat × AV)) (dfr : Nat)
  | dfr (sh : Bool)

def Blk.wr : Blk → Bool
  | .cells _ w => w
  | .rows _ _ _ w _ => w
  | .loop .. => true
  | .dfr _ => true

abbrev Mem := List (Nat × Blk)
abbrev Tmps := List (Nat × AV)

def get {α : Type} : List (Nat × α) → Nat → Option α
  | [], _ => none
  | (k, v) :: l, t => if k = t then some v else get l t
def del {α : Type} (t : Nat) : List (Nat × α) → List (Nat × α)
  | [] => []
  | (k, v) :: l => if k = t then del t l else (k, v) :: del t l
def put {α : Type} (t : Nat) (v : α) (l : List (Nat × α)) : List (Nat × α) := (t, v) :: del t l

structure St where
  tmps : Tmps
  nt : Nat
  defers : List Nat
  mem : Mem
  nv : Nat
  nb : Nat

/-! ### Formulas -/

inductive PE where
  | tt (e : E)
  | ff (e : E)
  | rng (k : IntKind) (e : E)
  | same (a b : E)
  | pr (j : Nat) (l : List E)
  | sort (tab : Bool) (e : E)
  deriving DecidableEq

def dens (I : Itp) (env : List D) : List E → Option (List D)
  | [] => some []
  | e :: l => match e.den I env, dens I env l with
    | some d, some ds => some (d :: ds)
    | _, _ => none

def PE.den (I : Itp) (env : List D) : PE → Prop
  | .tt e => ∃ n, e.den I env = some (.i n) ∧ n ≠ 0
  | .ff e => e.den I env = some (.i 0)
  | .rng k e => ∃ n, e.den I env = some (.i n) ∧ k.min ≤ n ∧ n ≤ k.max
  | .same a b => ∃ d, a.den I env = some d ∧ b.den I env = some d
  | .pr j l => ∃ ds, dens I env l = some ds ∧ I.pr j ds
  | .sort true e => ∃ f, e.den I env = some (.t f)
  | .sort false e => ∃ n, e.den I env = some (.i n)

def PE.subst (n : Nat) (σ : List E) : PE → PE
  | .tt e => .tt (e.subst n σ)
  | .ff e => .ff (e.subst n σ)
  | .rng k e => .rng k (e.subst n σ)
  | .same a b => .same (a.subst n σ) (b.subst n σ)
  | .pr j l => .pr j (l.map (E.subst n σ))
  | .sort b e => .sort b (e.subst n σ)

inductive Tree where
  | ok
  | fail (why : Nat)
  | assert (p : PE) (t : Tree)
  | assume (p : PE) (t : Tree)
  | branch (e : E) (t f : Tree)
  | both (a b : Tree)
  | havoc (tab : Bool) (t : Tree)

def Tree.vc (I : Itp) : Tree → List D → Prop
  | .ok, _ => True
  | .fail _, _ => False
  | .assert p t, env => p.den I env ∧ t.vc I env
  | .assume p t, env => p.den I env → t.vc I env
  | .branch e t f, env => (∀ n, e.den I env = some (.i n) → n ≠ 0 → t.vc I env) ∧ (e.den I env = some (.i 0) → f.vc I env)
  | .both a b, env => a.vc I env ∧ b.vc I env
  | .havoc true t, env => ∀ f, t.vc I (env ++ [.t f])
  | .havoc false t, env => ∀ n, t.vc I (env ++ [.i n])

def asserts : List PE → Tree → Tree
  | [], t => t
  | p :: l, t => .assert p (asserts l t)
def assumes : List PE → Tree → Tree
  | [], t => t
  | p :: l, t => .assume p (assumes l t)
def havocs : List Bool → Tree → Tree
  | [], t => t
  | b :: l, t => .havoc b (havocs l t)

/-- What is known as a constant is not asked. -/
def mkAssert (p : PE) (t : Tree) : Tree :=
  match p with
  | .tt (.lit n) => if n = 0 then .fail 1 else t
  | .ff (.lit n) => if n = 0 then t else .fail 2
  | .rng k (.lit n) => if k.min ≤ n ∧ n ≤ k.max then t else .fail 3
  | .sort false (.lit _) => t
  | .sort true .zt => t
  | p => .assert p t
def mkAsserts : List PE → Tree → Tree
  | [], t => t
  | p :: l, t => mkAssert p (mkAsserts l t)

/-! ### The program's tables, as the executor asks them -/

def tySize (P : Program) (t : TypeId) : Option Nat := (P.info? t).map (·.size)
def tyAgg (P : Program) (t : TypeId) : Option Bool :=
  match P.underlying t with
  | some (.struct _) | some (.array _ _) => some true
  | some _ => some false
  | none => none
def field? (P : Program) (t : TypeId) (f : Nat) : Option Field :=
  match P.underlying t with
  | some (.struct fs) => fs[f]?
  | _ => none

def ofValue : Value → Option AV
  | .bool b => some (.bool (.lit (if b then 1 else 0)))
  | .int k n => some (.int k (.lit n))
  | .pointer none => some .nilptr
  | .slice none 0 0 => some .nilslice
  | .nilFunc => some .nilfunc
  | _ => none
def ofValues : List Value → Option (List AV)
  | [] => some []
  | v :: l => match ofValue v, ofValues l with
    | some a, some as => some (a :: as)
    | _, _ => none
/-- A value's cells. -/
def AV.cells : AV → List AV
  | .agg l => l
  | v => [v]
def zeroAV (P : Program) (t : TypeId) : Option AV :=
  match (P.info? t).bind (·.zero) with
  | some (.agg cs) => (ofValues cs.toList).map .agg
  | some v => ofValue v
  | none => none

def AV.isAny : AV → Bool
  | .any => true
  | _ => false
def evalOp (ts : Tmps) : Operand → Option AV
  | .tmp t => match get ts t with
    | some v => if v.isAny then none else some v
    | none => none
  | .const v => ofValue v
  | .func f => some (.func f [])
  | .global _ => none

/-- Row kinds of a type, if all its cells are integers or bools. -/
def kindOf : AV → Option CK
  | .int k _ => some (.int k)
  | .bool _ => some .bool
  | _ => none
def kindsOf : List AV → Option (List CK)
  | [] => some []
  | v :: l => match kindOf v, kindsOf l with
    | some k, some ks => some (k :: ks)
    | _, _ => none
def scal : AV → Option E
  | .int _ e => some e
  | .bool e => some e
  | _ => none

/-- A row's cells from number k on, n of them. -/
def rowCells (ks : List CK) (t r : E) (k : Nat) : Nat → Option (List AV)
  | 0 => some []
  | n + 1 => match ks[k]?, rowCells ks t r (k + 1) n with
    | some c, some l => some (c.av (mkSel t r k) :: l)
    | _, _ => none

def inRow (r len : E) : List PE := [.tt (mkBin .le (.lit 0) r), .tt (mkBin .lt r len)]

/-- A load of n cells (agg: as an aggregate). -/
def loadAt (M : Mem) (b : Nat) (r : E) (s k n : Nat) (ag : Bool) : Option (AV × List PE) :=
  match get M b with
  | some (.cells l _) =>
    match isLit r with
    | some x =>
      if x < 0 then none else
      let i := x.toNat * s + k
      if ag then (if i + n ≤ l.length then some (.agg ((l.drop i).take n), []) else none)
      else (l[i]?).map fun v => (v, [])
    | none => none
  | some (.rows ks t len _ _) =>
    if s = ks.length then
      if ag then (rowCells ks t r k n).map fun l => (.agg l, inRow r len)
      else (ks[k]?).map fun c => (c.av (mkSel t r k), inRow r len)
    else none
  | _ => none

def updRow (ks : List CK) (t r : E) (k : Nat) : List AV → Option E
  | [] => some t
  | v :: l => match ks[k]?, kindOf v, scal v with
    | some c, some c', some e => if c = c' then updRow ks (.upd t r k e) r (k + 1) l else none
    | _, _, _ => none

/-- A zero. -/
def AV.isZero : AV → Bool
  | .int _ (.lit n) => n == 0
  | .bool (.lit n) => n == 0
  | _ => false

def setL {α : Type} (l : List α) (i : Nat) : List α → List α
  | [] => l
  | v :: vs => setL (l.set i v) (i + 1) vs

/-- May the value lie in a cell? -/
def AV.one : AV → Bool
  | .agg _ | .tup _ | .undef | .any => false
  | _ => true

def storeAt (M : Mem) (b : Nat) (r : E) (s k : Nat) (vs : List AV) : Option (Mem × List PE) :=
  if !vs.all AV.one then none else
  match get M b with
  | some (.cells l true) =>
    match isLit r with
    | some x =>
      if x < 0 then none else
      let i := x.toNat * s + k
      if i + vs.length ≤ l.length then some (put b (.cells (setL l i vs) true) M, []) else none
    | none => none
  | some (.rows ks t len true nl) =>
    if s = ks.length then (updRow ks t r k vs).map fun t' => (put b (.rows ks t' len true nl) M, inRow r len)
    else none
  | _ => none

/-! ### Operations that leave memory alone -/

def boolE (e : E) : E := mkBin .ne e (.lit 0)
def notE (e : E) : E := mkBin .eq e (.lit 0)

def arith (k : IntKind) (e : E) : AV × List PE := (.int k e, [.rng k e])

def isIntT : Option TypeDesc → Bool
  | some (.int _) => true
  | _ => false
def isBoolT : Option TypeDesc → Bool
  | some .bool => true
  | _ => false

/-- Two structs, compared cell by cell: each field an integer or a bool, none named '_'. -/
def eqCells (P : Program) : Nat → List Field → List AV → List AV → Option E
  | _, [], [], [] => some (.lit 1)
  | o, f :: fs, .int k a :: l, .int k' b :: m =>
    if k = k' ∧ (f.name == "_") = false ∧ f.offset = o ∧ isIntT (P.underlying f.type) = true then (eqCells P (o + 1) fs l m).map fun e => mkBin .and (mkBin .eq a b) e else none
  | o, f :: fs, .bool a :: l, .bool b :: m =>
    if (f.name == "_") = false ∧ f.offset = o ∧ isBoolT (P.underlying f.type) = true then (eqCells P (o + 1) fs l m).map fun e => mkBin .and (mkBin .eq (boolE a) (boolE b)) e else none
  | _, _, _, _ => none

def eqlOp (P : Program) (t : TypeId) (x y : AV) : Option E :=
  match x, y with
  | .int k a, .int k' b => if k = k' then some (mkBin .eq a b) else none
  | .bool a, .bool b => match P.underlying t with
    | some .bool => some (mkBin .eq (boolE a) (boolE b))
    | _ => none
  | .nilptr, .nilptr => match P.underlying t with
    | some (.pointer _) => some (.lit 1)
    | _ => none
  | .ptr .., .nilptr => match P.underlying t with
    | some (.pointer _) => some (.lit 0)
    | _ => none
  | .nilptr, .ptr .. => match P.underlying t with
    | some (.pointer _) => some (.lit 0)
    | _ => none
  | .func .., .nilfunc => match P.underlying t with
    | some (.func ..) => some (.lit 0)
    | _ => none
  | .nilfunc, .nilfunc => match P.underlying t with
    | some (.func ..) => some (.lit 1)
    | _ => none
  | .agg l, .agg m => match P.underlying t with
    | some (.struct fs) =>
      if P.stoodInHeld t = false ∧ P.eqGuardType P.depth t = false then eqCells P 0 fs.toList l m else none
    | _ => none
  | _, _ => none

def binAV (P : Program) (o : BinOp) (t : TypeId) (x y : AV) : Option (AV × List PE) :=
  match o, x, y with
  | .eql, x, y => (eqlOp P t x y).map fun e => (.bool e, [])
  | .neq, x, y => (eqlOp P t x y).map fun e => (.bool (notE e), [])
  | .add, .int k a, .int k' b => if k = k' then some (arith k (mkAdd a b)) else none
  | .sub, .int k a, .int k' b => if k = k' then some (arith k (mkBin .sub a b)) else none
  | .mul, .int k a, .int k' b => if k = k' then some (arith k (mkBin .mul a b)) else none
  | .rem, .int k a, .int k' (.lit n) => if k = k' ∧ n ≠ 0 then some (.int k (mkBin .tmod a (.lit n)), []) else none
  | .lss, .int k a, .int k' b => if k = k' then some (.bool (mkBin .lt a b), []) else none
  | .leq, .int k a, .int k' b => if k = k' then some (.bool (mkBin .le a b), []) else none
  | .gtr, .int k a, .int k' b => if k = k' then some (.bool (mkBin .lt b a), []) else none
  | .geq, .int k a, .int k' b => if k = k' then some (.bool (mkBin .le b a), []) else none
  | _, _, _ => none

def fillAV (place : Nat → Option (Nat × Nat)) (cells : List AV) : List (Nat × AV) → Option (List AV)
  | [] => some cells
  | (i, v) :: rest =>
    match place i with
    | none => none
    | some (off, size) =>
      if v.cells.length ≠ size ∨ off + v.cells.length > cells.length then none
      else fillAV place (setL cells off v.cells) rest

def fieldPlaces (P : Program) : List Field → Option (List (Nat × Nat))
  | [] => some []
  | f :: fs => match tySize P f.type, fieldPlaces P fs with
    | some s, some l => some ((f.offset, s) :: l)
    | _, _ => none

def evalParts (ts : Tmps) : List (Nat × Operand) → Option (List (Nat × AV))
  | [] => some []
  | (i, x) :: l => match evalOp ts x, evalParts ts l with
    | some v, some vs => some ((i, v) :: vs)
    | _, _ => none
def evalOps (ts : Tmps) : List Operand → Option (List AV)
  | [] => some []
  | x :: l => match evalOp ts x, evalOps ts l with
    | some v, some vs => some (v :: vs)
    | _, _ => none

/-- An operation that neither writes nor makes memory nor calls. -/
def quiet (P : Program) (ts : Tmps) (M : Mem) (o : Op) : Option (AV × List PE) :=
  match o with
  | .move x | .assign x => (evalOp ts x).map fun v => (v, [])
  | .pick c a b => match evalOp ts c with
    | some (.bool (.lit n)) => (if n = 0 then evalOp ts b else evalOp ts a).map fun v => (v, [])
    | _ => none
  | .load t a => match evalOp ts a, tyAgg P t, tySize P t with
    | some (.ptr b r s k), some ag, some n => loadAt M b r s k n ag
    | _, _, _ => none
  | .nilCheck x => match evalOp ts x with
    | some (.ptr b r s k) => some (.ptr b r s k, [])
    | _ => none
  | .binOp o t x y _ => match evalOp ts x, evalOp ts y with
    | some v, some u => binAV P o t v u
    | _, _ => none
  | .unOp .not _ x => match evalOp ts x with
    | some (.bool e) => some (.bool (notE e), [])
    | _ => none
  | .unOp .neg _ x => match evalOp ts x with
    | some (.int k e) => some (arith k (mkBin .sub (.lit 0) e))
    | _ => none
  | .convert src dst x => match evalOp ts x, P.underlying dst, P.underlying src with
    | some (.int _ e), some (.int k), some _ => some (.int k (mkWrap k e), [])
    | _, _, _ => none
  | .makeFunc (.func f) first cap => match first.toList, evalOps ts cap.toList with
    | [], some l => some (.func f l, [])
    | _, _ => none
  | .fieldAddr t x f => match evalOp ts x, field? P t f with
    | some (.ptr b r s k), some fd => match tySize P fd.type with
      | some (_ + 1) => some (.ptr b r s (k + fd.offset), [])
      | _ => none
    | _, _ => none
  | .field t x f => match evalOp ts x, field? P t f with
    | some (.agg l), some fd => match tyAgg P fd.type, tySize P fd.type with
      | some true, some n => if fd.offset + n ≤ l.length then some (.agg ((l.drop fd.offset).take n), []) else none
      | some false, some _ => (l[fd.offset]?).map fun v => (v, [])
      | _, _ => none
    | _, _ => none
  | .indexAddr t x i => match evalOp ts x, evalOp ts i, P.underlying t with
    | some (.slice b lo len s _), some (.int _ e), some (.slice el) =>
      if tySize P el = some s then some (.ptr b (mkAdd lo e) s 0, inRow e len) else none
    | some (.ptr b r s k), some (.int _ (.lit x)), some (.array n el) => match tySize P el with
      | some z => if 0 ≤ x ∧ x < n then some (.ptr b r s (k + x.toNat * z), []) else none
      | none => none
    | _, _, _ => none
  | .extract x i => match evalOp ts x with
    | some (.tup l) => (l[i]?).map fun v => (v, [])
    | _ => none
  | .slice t x lo hi mx => match evalOp ts x, P.underlying t, lo, hi, mx with
    | some (.slice b l len s nl), some (.slice el), none, some h, none => match evalOp ts h, tySize P el with
      | some (.int _ e), some _ => some (.slice b l e s nl, [.tt (mkBin .le (.lit 0) e), .tt (mkBin .le e len)])
      | _, _ => none
    | _, _, _, _, _ => none
  | .build t parts => match zeroAV P t, evalParts ts parts.toList, P.underlying t with
    | some z, some ps, some (.struct fs) => match fieldPlaces P fs.toList with
      | some pl => (fillAV (fun i => pl[i]?) z.cells ps).map fun l => (.agg l, [])
      | none => none
    | some z, some ps, some (.array _ el) => match tySize P el with
      | some sz => (fillAV (fun i => some (i * sz, sz)) z.cells ps).map fun l => (.agg l, [])
      | none => none
    | _, _, _ => none
  | .call { callee := .builtin .len, args, argTypes } => match args.toList, argTypes.toList with
    | [x], [t] => match evalOp ts x, P.underlying t with
      | some (.slice _ _ len _ _), some (.slice _) => some (.int .i64 len, [])
      | some .nilslice, some (.slice _) => some (.int .i64 (.lit 0), [])
      | _, _ => none
    | _, _ => none
  | .call { callee := .builtin .max, args, argTypes := _ } => match args.toList with
    | [x, y] => match evalOp ts x, evalOp ts y with
      | some (.int k a), some (.int k' b) => if k = k' then some (.int k (mkBin .max a b), []) else none
      | _, _ => none
    | _ => none
  | _ => none

/-! ### Operations that make or write memory -/

/-- A new block: its cells as rows, if they are all integers and bools, else as they are. -/
def rowsOf (ks : List CK) (n : Nat) (vs : List AV) : Option E :=
  match n with
  | 0 => if vs.isEmpty then some .zt else none
  | m + 1 => match rowsOf ks m (vs.take (m * ks.length)) with
    | some t => updRow ks t (.lit m) 0 (vs.drop (m * ks.length))
    | none => none

def newBlk (s : St) (b : Blk) : St := { s with mem := (s.nb, b) :: s.mem, nb := s.nb + 1 }

def sliceBlk (zs : List AV) (n : Nat) (vs : List AV) : Blk :=
  match kindsOf zs with
  | some ks => if ks.isEmpty then .cells vs true else match rowsOf ks n vs with
    | some t => .rows ks t (.lit n) true false
    | none => .cells vs true
  | none => .cells vs true

def repl (n : Nat) (zs : List AV) : List AV :=
  match n with
  | 0 => []
  | n + 1 => zs ++ repl n zs

/-- The table behind an append of m rows u to n rows t: written out where m is small. -/
def catRows (ks : List CK) (t n u : E) : Nat → Nat → Option E
  | _, 0 => some t
  | i, m + 1 => match rowCells ks u (.lit i) 0 ks.length with
    | some vs => match updRow ks t (mkAdd n (.lit i)) 0 vs with
      | some t' => catRows ks t' n u (i + 1) m
      | none => none
    | none => none

/-- The appended rows: table, number. -/
def srcRows (M : Mem) (sz : Nat) (ks : List CK) (y : AV) : Option (E × E × List PE) :=
  match y with
  | .nilslice => some (.zt, .lit 0, [])
  | .slice b (.lit 0) m s2 _ => match get M b with
    | some (.rows ks2 u m2 _ _) => if ks = ks2 ∧ s2 = sz then some (u, m, if m = m2 then [] else [.tt (mkBin .le m m2)]) else none
    | _ => none
  | _ => none

def AV.other (b : Nat) : AV → Bool
  | .slice b2 _ _ _ _ => b != b2
  | _ => true

/-- The slice that is appended to: its block, table, number of rows; may it be nil? -/
def dstRows (M : Mem) (sz : Nat) (ks : List CK) (x y : AV) : Option (Option Nat × E × E × Bool × List PE) :=
  match x with
  | .nilslice => some (none, .zt, .lit 0, true, [])
  | .slice b (.lit 0) n s1 nl => match get M b with
    | some (.rows ks1 t n1 true _) =>
      if ks = ks1 ∧ s1 = sz ∧ y.other b = true then some (some b, t, n, nl, if n = n1 then [] else [.tt (mkBin .le n n1)]) else none
    | _ => none
  | _ => none

def joinRows (ks : List CK) (t n u m : E) : Option E :=
  match n, m with
  | .lit 0, _ => some u
  | n, .lit mm => if 0 ≤ mm ∧ mm ≤ 8 then catRows ks t n u 0 mm.toNat else none
  | n, _ => some (.cat t n u)

def maybeNil (nl : Bool) : E → Bool
  | .lit mm => nl && decide (mm ≤ 0)
  | _ => nl

def dropBlk (b : Option Nat) (M : Mem) : Mem :=
  match b with
  | some b => del b M
  | none => M

def appendTo (P : Program) (s : St) (el : TypeId) (x y : AV) : Option (AV × St × List PE) :=
  match zeroAV P el, tySize P el, (P.info? el).map (·.bytes) with
  | some z, some sz, some bytes => match kindsOf z.cells with
    | some ks =>
      if sz = ks.length ∧ ks.length ≠ 0 ∧ bytes ≤ 1000 ∧ bytes ≠ 0 then
        match srcRows s.mem sz ks y, dstRows s.mem sz ks x y with
        | some (u, m, p1), some (b, t, n, nl, p2) => match joinRows ks t n u m with
          | some t' =>
            let nl' := maybeNil nl m
            some (.slice s.nb (.lit 0) (mkAdd n m) sz nl',
              { s with mem := (s.nb, .rows ks t' (mkAdd n m) true nl') :: dropBlk b s.mem, nb := s.nb + 1 },
              p1 ++ p2 ++ [.tt (mkBin .le (mkAdd n m) (.lit 1000000))])
          | none => none
        | _, _ => none
      else none
    | none => none
  | _, _, _ => none

def loud (P : Program) (s : St) (o : Op) : Option (AV × St × List PE) :=
  match o with
  | .alloc t => match zeroAV P t with
    | some z => some (.ptr s.nb (.lit 0) 0 0, newBlk s (.cells z.cells true), [])
    | none => none
  | .box _ x => match evalOp s.tmps x with
    | some v => if v.cells.all AV.one then some (.ptr s.nb (.lit 0) 0 0, newBlk s (.cells v.cells true), []) else none
    | none => none
  | .store t a x => match evalOp s.tmps a, evalOp s.tmps x, tySize P t with
    | some (.ptr b r z k), some v, some n => if v.cells.length = n then
        (storeAt s.mem b r z k v.cells).map fun (M, ps) => (.undef, { s with mem := M }, ps)
      else none
    | _, _, _ => none
  | .buildSlice t n parts => match P.underlying t with
    | some (.slice el) => match zeroAV P el, tySize P el, evalParts s.tmps parts.toList with
      | some z, some sz, some ps =>
        if z.cells.length = sz ∧ n * sz ≤ 1000 then
          match fillAV (fun i => some (i * sz, sz)) (repl n z.cells) ps with
          | some vs => if vs.all AV.one then some (.slice s.nb (.lit 0) (.lit n) sz false, newBlk s (sliceBlk z.cells n vs), []) else none
          | none => none
        else none
      | _, _, _ => none
    | _ => none
  | .makeSlice t l c => match P.underlying t, evalOp s.tmps l, evalOp s.tmps c with
    | some (.slice el), some (.int _ (.lit a)), some (.int _ (.lit b)) => match zeroAV P el, tySize P el, (P.info? el).map (·.bytes) with
      | some z, some sz, some bytes =>
        if 0 ≤ a ∧ a = b ∧ a ≤ 1000 ∧ bytes ≤ 1000 ∧ z.cells.length = sz then match kindsOf z.cells with
          | some ks => if z.cells.all AV.isZero then some (.slice s.nb (.lit 0) (.lit a) sz false, newBlk s (.rows ks .zt (.lit a) true false), []) else none
          | none => none
        else none
      | _, _, _ => none
    | _, _, _ => none
  | .call { callee := .builtin .append, args, argTypes } => match args.toList, argTypes.toList with
    | [x, y], [t, u] => match evalOp s.tmps x, evalOp s.tmps y, P.underlying t, P.underlying u with
      | some v, some w, some (.slice el), some (.slice _) => appendTo P s el v w
      | _, _, _, _ => none
    | _, _ => none
  | _ => none
end Go.Sx
