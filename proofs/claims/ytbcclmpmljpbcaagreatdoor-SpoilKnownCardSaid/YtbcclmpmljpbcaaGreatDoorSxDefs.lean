/-
  A small symbolic executor for the walk, proved sound in the texts that follow: what it computes is a formula (a Tree); if the formula holds, the code behaves as the contract says. Conditions: none; nothing here speaks of a program.
-/
import Derived.RangeFuncRecord
import Derived.LoopNIn
import Derived.OrdersIn
noncomputable section
namespace Go.Sx
open Go

/-! ### Terms -/

inductive D where
  | i (n : Int)
  | t (f : Int → Nat → Int)

/-- bits: 0 and, 1 or, 2 xor, 3 and not, 4 shift left, 5 shift right, 6 divided. -/
inductive BO where
  | add | sub | mul | tdiv | tmod | lt | le | eq | ne | and | or | max | min
  | bits (o : Nat) (k : IntKind)
  deriving DecidableEq

/-- Constant rows in a tree: row 0 here, row 2k + 1 as row k on the left, row 2k + 2 as row k on the right. -/
inductive BT where
  | nil
  | node (v : List Int) (l r : BT)
  deriving DecidableEq
def BT.get : BT → Nat → Nat → Int
  | .nil, _, _ => 0
  | .node v l r, i, c => match i with
    | 0 => v.getD c 0
    | i + 1 => match Nat.beq (i % 2) 0 with
      | true => l.get (i / 2) c
      | false => r.get (i / 2) c
def BT.put : List Int → Nat → Int → List Int
  | [], 0, x => [x]
  | [], c + 1, x => 0 :: BT.put [] c x
  | _ :: l, 0, x => x :: l
  | a :: l, c + 1, x => a :: BT.put l c x
def BT.row : BT → List Int
  | .nil => []
  | .node v _ _ => v
def BT.left : BT → BT
  | .nil => .nil
  | .node _ l _ => l
def BT.right : BT → BT
  | .nil => .nil
  | .node _ _ r => r
def BT.set : Nat → BT → Nat → Nat → Int → Option BT
  | 0, _, _, _, _ => none
  | f + 1, b, i, c, x => match i with
    | 0 => some (.node (BT.put b.row c x) b.left b.right)
    | i + 1 => match Nat.beq (i % 2) 0 with
      | true => match BT.set f b.left (i / 2) c x with
        | some l => some (.node b.row l b.right)
        | none => none
      | false => match BT.set f b.right (i / 2) c x with
        | some r => some (.node b.row b.left r)
        | none => none
def BT.tab (b : BT) (r : Int) (c : Nat) : Int := match r with
  | .ofNat n => b.get n c
  | _ => 0

inductive E where
  | lit (n : Int)
  | var (i : Nat)
  | bin (o : BO) (a b : E)
  | wrap (k : IntKind) (a : E)
  | zt
  | kt (row : List Int)
  | sel (t r : E) (c : Nat)
  | upd (t r : E) (c : Nat) (v : E)
  | cat (t n u : E)
  /-- A table from row n on. -/
  | sh (t n : E)
  /-- Are two strings (table, length) equal? -/
  | teq (t n u m : E)
  | fn (j : Nat) (a b c d : E)
  /-- A table written out as a tree. -/
  | bt (b : BT)
  deriving DecidableEq

structure Itp where
  fn : Nat → D → D → D → D → Option D
  pr : Nat → List D → Prop

/-! ### Strings as numbers -/

def decN : Nat → Nat → List UInt8
  | 0, _ => []
  | f + 1, n => if n = 0 then [] else UInt8.ofNat ((n - 1) % 256) :: decN f ((n - 1) / 256)
def encN : List UInt8 → Nat
  | [] => 0
  | b :: l => b.toNat + 1 + 256 * encN l
def unzig : Int → Nat
  | .ofNat m => 2 * m
  | .negSucc m => 2 * m + 1
def zig (n : Nat) : Int := if n % 2 = 0 then .ofNat (n / 2) else .negSucc (n / 2)
/-- Each number is a string, each string a number. -/
def sdec (n : Int) : List UInt8 := decN (unzig n) (unzig n)
def senc (l : List UInt8) : Int := zig (encN l)
/-- The first row of a table that is the row of another one, in w columns; -1: there is none. -/
def tfind (f : Int → Nat → Int) (g : Int → Nat → Int) (w : Nat) : Nat → Nat → Int
  | 0, _ => -1
  | n + 1, i => if (List.range w).all (fun c => f i c == g 0 c) then i else tfind f g w n (i + 1)
def D.int : D → Int
  | .i n => n
  | .t _ => 0
def D.tab : D → Int → Nat → Int
  | .t f => f
  | .i _ => fun _ _ => 0
def slen (a : Int) : Int := ((sdec a).length : Nat)
def scat (a b : Int) : Int := senc (sdec a ++ sdec b)
def ssub (a i j : Int) : Int := senc (((sdec a).drop i.toNat).take (j.toNat - i.toNat))
def sbyte (a i : Int) : Int := ((((sdec a)[i.toNat]?).getD 0).toNat : Nat)
def stab (a : Int) : Int → Nat → Int := fun i _ => ((((sdec a)[i.toNat]?).getD 0).toNat : Nat)
def scode (f : Int → Nat → Int) (n : Int) : Int := senc ((List.range n.toNat).map fun i : Nat => UInt8.ofNat (f i 0).toNat)
/-- Functions that are known: 0 a choice of numbers, 1 a string's length, 2 two strings as one, 3 a part, 4 a byte, 5 the string of a table, 6 a string's table, 7 a choice of tables, 8 a row that is found. -/
def bi : Nat → D → D → D → D → D
  | 0, c, a, b, _ => .i (if c.int ≠ 0 then a.int else b.int)
  | 1, a, _, _, _ => .i (slen a.int)
  | 2, a, b, _, _ => .i (scat a.int b.int)
  | 3, a, b, c, _ => .i (ssub a.int b.int c.int)
  | 4, a, b, _, _ => .i (sbyte a.int b.int)
  | 5, a, b, _, _ => .i (scode a.tab b.int)
  | 6, a, _, _, _ => .t (stab a.int)
  | 7, c, a, b, _ => .t (if c.int ≠ 0 then a.tab else b.tab)
  | 8, a, b, c, d => .i (tfind a.tab c.tab d.int.toNat b.int.toNat 0)
  | _, _, _, _, _ => .i 0
def bsort (j : Nat) : Bool := j == 6 || j == 7
/-- A function's value: from 1000 on those that are known. -/
def Itp.ap (I : Itp) (j : Nat) (a b c d : D) : Option D := if 1000 ≤ j then some (bi (j - 1000) a b c d) else I.fn j a b c d

def bitsEv (o : Nat) (k : IntKind) (x y : Int) : Int :=
  match o with
  | 0 => k.wrap (BitVec.ofInt k.bits x &&& BitVec.ofInt k.bits y).toNat
  | 1 => k.wrap (BitVec.ofInt k.bits x ||| BitVec.ofInt k.bits y).toNat
  | 2 => k.wrap (BitVec.ofInt k.bits x ^^^ BitVec.ofInt k.bits y).toNat
  | 3 => k.wrap (BitVec.ofInt k.bits x &&& ~~~BitVec.ofInt k.bits y).toNat
  | 4 => k.wrap (x * 2 ^ min y.toNat k.bits)
  | 5 => x.fdiv (2 ^ min y.toNat k.bits)
  | _ => k.wrap (x.tdiv y)
def BO.ev : BO → Int → Int → Int
  | .add, a, b => a + b
  | .sub, a, b => a - b
  | .mul, a, b => a * b
  | .tdiv, a, b => a.tdiv b
  | .tmod, a, b => a.tmod b
  | .lt, a, b => if a < b then 1 else 0
  | .le, a, b => if a ≤ b then 1 else 0
  | .eq, a, b => if a = b then 1 else 0
  | .ne, a, b => if a = b then 0 else 1
  | .and, a, b => if a ≠ 0 ∧ b ≠ 0 then 1 else 0
  | .or, a, b => if a ≠ 0 ∨ b ≠ 0 then 1 else 0
  | .max, a, b => if b > a then b else a
  | .min, a, b => if b < a then b else a
  | .bits o k, a, b => bitsEv o k a b

def tupd (f : Int → Nat → Int) (r : Int) (c : Nat) (v : Int) : Int → Nat → Int := fun x d => if x = r ∧ d = c then v else f x d
def tcat (f : Int → Nat → Int) (n : Int) (g : Int → Nat → Int) : Int → Nat → Int := fun x d => if x < n then f x d else g (x - n) d

/-- Two strings as tables and lengths. -/
def strEq (f : Int → Nat → Int) (n : Int) (g : Int → Nat → Int) (m : Int) : Int := if n = m ∧ ((List.range n.toNat).all fun i => f i 0 == g i 0) = true then 1 else 0

def E.den (I : Itp) (env : List D) : E → Option D
  | .lit n => some (.i n)
  | .var i => env[i]?
  | .bin o a b => match a.den I env, b.den I env with
    | some (.i x), some (.i y) => some (.i (o.ev x y))
    | _, _ => none
  | .wrap k a => match a.den I env with
    | some (.i x) => some (.i (k.wrap x))
    | _ => none
  | .zt => some (.t fun _ _ => 0)
  | .kt row => some (.t fun _ c => row.getD c 0)
  | .bt b => some (.t b.tab)
  | .sel t r c => match t.den I env, r.den I env with
    | some (.t f), some (.i x) => some (.i (f x c))
    | _, _ => none
  | .upd t r c v => match t.den I env, r.den I env, v.den I env with
    | some (.t f), some (.i x), some (.i y) => some (.t (tupd f x c y))
    | _, _, _ => none
  | .cat t n u => match t.den I env, n.den I env, u.den I env with
    | some (.t f), some (.i x), some (.t g) => some (.t (tcat f x g))
    | _, _, _ => none
  | .sh t n => match t.den I env, n.den I env with
    | some (.t f), some (.i x) => some (.t fun r c => f (r + x) c)
    | _, _ => none
  | .teq t n u m => match t.den I env, n.den I env, u.den I env, m.den I env with
    | some (.t f), some (.i x), some (.t g), some (.i y) => some (.i (strEq f x g y))
    | _, _, _, _ => none
  | .fn j a b c d => match a.den I env, b.den I env, c.den I env, d.den I env with
    | some a, some b, some c, some d => I.ap j a b c d
    | _, _, _, _ => none

def E.subst (n : Nat) (σ : List E) : E → E
  | .lit x => .lit x
  | .var i => if i < n then .var i else σ[i - n]?.getD (.sel (.lit 0) (.lit 0) 0)
  | .bin o a b => .bin o (a.subst n σ) (b.subst n σ)
  | .wrap k a => .wrap k (a.subst n σ)
  | .zt => .zt
  | .kt row => .kt row
  | .bt b => .bt b
  | .sel t r c => .sel (t.subst n σ) (r.subst n σ) c
  | .upd t r c v => .upd (t.subst n σ) (r.subst n σ) c (v.subst n σ)
  | .cat t x u => .cat (t.subst n σ) (x.subst n σ) (u.subst n σ)
  | .sh t x => .sh (t.subst n σ) (x.subst n σ)
  | .teq t x u y => .teq (t.subst n σ) (x.subst n σ) (u.subst n σ) (y.subst n σ)
  | .fn j a b c d => .fn j (a.subst n σ) (b.subst n σ) (c.subst n σ) (d.subst n σ)

/-- Constants are reckoned at once. -/
def mkBin (o : BO) (a b : E) : E :=
  match a, b with
  | .lit x, .lit y => .lit (o.ev x y)
  | a, b => .bin o a b
def mkAdd (a b : E) : E :=
  match a, b with
  | .lit x, .lit y => .lit (x + y)
  | .lit 0, b => b
  | a, .lit 0 => a
  | .bin .add a (.lit x), .lit y => if x + y = 0 then a else .bin .add a (.lit (x + y))
  | a, b => .bin .add a b
def mkSub (a b : E) : E :=
  match a, b with
  | .lit x, .lit y => .lit (x - y)
  | a, .lit 0 => a
  | .bin .add a (.lit x), .lit y => if x - y = 0 then a else .bin .add a (.lit (x - y))
  | .bin .add a (.lit x), b => if a = b then .lit x else .bin .sub (.bin .add a (.lit x)) b
  | a, b => if a = b then .lit 0 else .bin .sub a b
def mkWrap (k : IntKind) (a : E) : E :=
  match a with
  | .lit x => .lit (k.wrap x)
  | a => .wrap k a
def mkSel : E → E → Nat → E
  | .zt, _, _ => .lit 0
  | .kt row, _, d => .lit (row.getD d 0)
  | .bt b, q, d => match q with
    | .lit q => .lit (b.tab q d)
    | q => .sel (.bt b) q d
  | .upd t r c v, q, d =>
    if c ≠ d then mkSel t q d else if r = q then v else
      match r, q with
      | .lit _, .lit _ => mkSel t q d
      | _, _ => .sel (.upd t r c v) q d
  | .sh t n, q, d => mkSel t (mkAdd q n) d
  | t, r, c => .sel t r c
def isLit : E → Option Int
  | .lit n => some n
  | _ => none

/-! ### Values -/

inductive CK where
  | int (k : IntKind)
  | bool
  | str
  deriving DecidableEq

inductive AV where
  | any
  | undef
  | bool (e : E)
  | int (k : IntKind) (e : E)
  | nilptr
  | ptr (b : Nat) (r : E) (s k : Nat)
  | nilslice
  | slice (b : Nat) (lo len : E) (s : Nat) (nl : Bool)
  | func (fn : FuncId) (cap : List AV)
  | yld (b : Nat)
  | nilfunc
  | agg (l : List AV)
  | tup (l : List AV)
  /-- An aggregate with a table in it: n rows. -/
  | big (pre : List AV) (ks : List CK) (t : E) (n : Nat) (post : List AV)
  /-- A slice without elements and without room. -/
  | cap0
  /-- A slice without elements. -/
  | empty
  /-- A slice of cells in a block, from number k on. -/
  | asl (b k n s : Nat)
  | bfunc (fn : FuncId) (first cap : List AV)
  /-- A pointer into a package-level variable. -/
  | gptr (g k : Nat)
  /-- A string of known bytes. -/
  | str (l : List UInt8)
  /-- A string: its bytes as a table, its length. -/
  | strT (t n : E)
  /-- A slice without elements and without room, or nil. -/
  | capN
  /-- A map; the nil map. -/
  | mref (b : Nat)
  | nilmap
  /-- A nil interface. -/
  | nilif
  /-- The string that a number stands for. -/
  | sat (e : E)
  /-- An interface: nil where the number is 0. -/
  | ifo (e : E)

def CK.val : CK → Int → Value
  | .int k, n => .int k n
  | .bool, n => .bool (n ≠ 0)
  | .str, n => .string ⟨(sdec n).toArray⟩
def mkStr : E → AV
  | .lit n => .str (sdec n)
  | e => .sat e
def CK.av : CK → E → AV
  | .int k, e => .int k e
  | .bool, e => .bool e
  | .str, e => mkStr e
/-- A known function: of numbers at once. -/
def mkS (j : Nat) (a b c : E) : E :=
  match a, b, c with
  | .lit x, .lit y, .lit z => (match bi j (.i x) (.i y) (.i z) (.i 0) with
    | .i n => .lit n
    | .t _ => .fn (1000 + j) a b c (.lit 0))
  | a, b, c => .fn (1000 + j) a b c (.lit 0)
def mkLen (a : E) : E := mkS 1 a (.lit 0) (.lit 0)
/-- A string as a number. -/
def AV.code : AV → Option E
  | .sat e => some e
  | .str l => some (.lit (senc l))
  | .strT t n => some (.fn 1005 t n (.lit 0) (.lit 0))
  | _ => none

inductive Jump where
  | ret
  | exit (id : Nat)
  | goto (l : Nat)
  deriving DecidableEq
def Jump.code : Jump → Code
  | .ret => .ret
  | .exit id => .exit id
  | .goto l => .goto l

inductive Blk where
  | cells (l : List AV) (wr : Bool)
  | rows (ks : List CK) (t len : E) (wr nl : Bool)
  | big (pre : List AV) (ks : List CK) (t : E) (n : Nat) (post : List AV) (wr : Bool)
  | loop (st : LoopState) (pend : Option Jump) (fn ix nt : Nat) (tmps : List (Nat × AV)) (dfr : Nat)
  | dfr (sh : Bool)
  /-- A map's keys and values, in the order of their coming. -/
  | mp (l m : List AV)

def Blk.wr : Blk → Bool
  | .cells _ w => w
  | .rows _ _ _ w _ => w
  | .big _ _ _ _ _ w => w
  | .loop .. => true
  | .dfr _ => true
  | .mp _ _ => true

abbrev Mem := List (Nat × Blk)
abbrev Tmps := List (Nat × AV)

/-- What stands at a place. (By recursors: the kernel needs a quarter of the memory.) -/
noncomputable def get {α : Type} (l : List (Nat × α)) (t : Nat) : Option α :=
  List.rec (motive := fun _ => Option α) none (fun x _ r => Bool.rec (motive := fun _ => Option α) r (some x.2) (Nat.beq x.1 t)) l
theorem get_nil {α : Type} {t : Nat} : get ([] : List (Nat × α)) t = none := rfl
theorem get_cons {α : Type} {k : Nat} {v : α} {l : List (Nat × α)} {t : Nat} : get ((k, v) :: l) t = if k = t then some v else get l t := by
  show Bool.rec (motive := fun _ => Option α) (get l t) (some v) (Nat.beq k t) = _
  cases h : Nat.beq k t with
  | true => rw [if_pos (Nat.eq_of_beq_eq_true h)]
  | false => rw [if_neg (Nat.ne_of_beq_eq_false h)]
noncomputable def del {α : Type} (t : Nat) (l : List (Nat × α)) : List (Nat × α) :=
  List.rec (motive := fun _ => List (Nat × α)) [] (fun x _ r => Bool.rec (motive := fun _ => List (Nat × α)) (x :: r) r (Nat.beq x.1 t)) l
theorem del_nil {α : Type} {t : Nat} : del t ([] : List (Nat × α)) = [] := rfl
theorem del_cons {α : Type} {k : Nat} {v : α} {l : List (Nat × α)} {t : Nat} : del t ((k, v) :: l) = if k = t then del t l else (k, v) :: del t l := by
  show Bool.rec (motive := fun _ => List (Nat × α)) ((k, v) :: del t l) (del t l) (Nat.beq k t) = _
  cases h : Nat.beq k t with
  | true => rw [if_pos (Nat.eq_of_beq_eq_true h)]
  | false => rw [if_neg (Nat.ne_of_beq_eq_false h)]
/-- Without the first one. -/
noncomputable def del1 {α : Type} (t : Nat) (l : List (Nat × α)) : List (Nat × α) :=
  List.rec (motive := fun _ => List (Nat × α)) [] (fun x l r => Bool.rec (motive := fun _ => List (Nat × α)) (x :: r) l (Nat.beq x.1 t)) l
theorem del1_nil {α : Type} {t : Nat} : del1 t ([] : List (Nat × α)) = [] := rfl
theorem del1_cons {α : Type} {k : Nat} {v : α} {l : List (Nat × α)} {t : Nat} : del1 t ((k, v) :: l) = if k = t then l else (k, v) :: del1 t l := by
  show Bool.rec (motive := fun _ => List (Nat × α)) ((k, v) :: del1 t l) l (Nat.beq k t) = _
  cases h : Nat.beq k t with
  | true => rw [if_pos (Nat.eq_of_beq_eq_true h)]
  | false => rw [if_neg (Nat.ne_of_beq_eq_false h)]
def put {α : Type} (t : Nat) (v : α) (l : List (Nat × α)) : List (Nat × α) := (t, v) :: del1 t l

/-- The same, what was there behind it. -/
def putT {α : Type} (t : Nat) (v : α) (l : List (Nat × α)) : List (Nat × α) := (t, v) :: l
/-- The places of a list, as another list has them. -/
def keepL {α : Type} : List (Nat × α) → List (Nat × α) → List (Nat × α)
  | [], _ => []
  | (t, _) :: l, m => match get m t with
    | some v => (t, v) :: keepL l m
    | none => keepL l m

/-- A deferred call: those of a range over a function, or one. -/
inductive DV where
  | blk (b : Nat)
  | fn (f : FuncId) (first cap : List AV)

structure St where
  tmps : Tmps
  nt : Nat
  defers : List DV
  mem : Mem
  nv : Nat
  nb : Nat

/-! ### Formulas -/

inductive PE where
  | tt (e : E)
  | ff (e : E)
  | rng (k : IntKind) (e : E)
  | same (a b : E)
  | pr (j : Nat) (l : List E)
  | sort (tab : Bool) (e : E)
  /-- The first n rows of a table are bytes. -/
  | byt (t n : E)
  /-- A column's numbers lie so. -/
  | col (t : E) (c : Nat) (lo hi : Int)
  /-- The first n rows of two tables are equal, in w columns. -/
  | agr (t u n : E) (w : Nat)
  deriving DecidableEq

def dens (I : Itp) (env : List D) : List E → Option (List D)
  | [] => some []
  | e :: l => match e.den I env, dens I env l with
    | some d, some ds => some (d :: ds)
    | _, _ => none

def PE.den (I : Itp) (env : List D) : PE → Prop
  | .tt e => ∃ n, e.den I env = some (.i n) ∧ n ≠ 0
  | .ff e => e.den I env = some (.i 0)
  | .rng k e => ∃ n, e.den I env = some (.i n) ∧ k.min ≤ n ∧ n ≤ k.max
  | .same a b => ∃ d, a.den I env = some d ∧ b.den I env = some d
  | .pr j l => ∃ ds, dens I env l = some ds ∧ I.pr j ds
  | .sort true e => ∃ f, e.den I env = some (.t f)
  | .sort false e => ∃ n, e.den I env = some (.i n)
  | .agr t u n w => ∃ f g k, t.den I env = some (.t f) ∧ u.den I env = some (.t g) ∧ n.den I env = some (.i k) ∧ ∀ (r : Int) (c : Nat), 0 ≤ r → r < k → c < w → f r c = g r c
  | .col t c lo hi => ∃ f, t.den I env = some (.t f) ∧ ∀ r : Int, lo ≤ f r c ∧ f r c ≤ hi
  | .byt t n => ∃ f k, t.den I env = some (.t f) ∧ n.den I env = some (.i k) ∧ ∀ i : Nat, (i : Int) < k → 0 ≤ f i 0 ∧ f i 0 ≤ 255

def PE.subst (n : Nat) (σ : List E) : PE → PE
  | .tt e => .tt (e.subst n σ)
  | .ff e => .ff (e.subst n σ)
  | .rng k e => .rng k (e.subst n σ)
  | .same a b => .same (a.subst n σ) (b.subst n σ)
  | .pr j l => .pr j (l.map (E.subst n σ))
  | .sort b e => .sort b (e.subst n σ)
  | .byt t m => .byt (t.subst n σ) (m.subst n σ)
  | .col t c lo hi => .col (t.subst n σ) c lo hi
  | .agr t u m w => .agr (t.subst n σ) (u.subst n σ) (m.subst n σ) w

inductive Tree where
  | ok
  | fail (why : Nat)
  | assert (p : PE) (t : Tree)
  | assume (p : PE) (t : Tree)
  | branch (e : E) (t f : Tree)
  | both (a b : Tree)
  | havoc (tab : Bool) (t : Tree)

def Tree.vc (I : Itp) : Tree → List D → Prop
  | .ok, _ => True
  | .fail _, _ => False
  | .assert p t, env => p.den I env ∧ t.vc I env
  | .assume p t, env => p.den I env → t.vc I env
  | .branch e t f, env => (∀ n, e.den I env = some (.i n) → n ≠ 0 → t.vc I env) ∧ (e.den I env = some (.i 0) → f.vc I env)
  | .both a b, env => a.vc I env ∧ b.vc I env
  | .havoc true t, env => ∀ f, t.vc I (env ++ [.t f])
  | .havoc false t, env => ∀ n, t.vc I (env ++ [.i n])

def asserts : List PE → Tree → Tree
  | [], t => t
  | p :: l, t => .assert p (asserts l t)
def assumes : List PE → Tree → Tree
  | [], t => t
  | p :: l, t => .assume p (assumes l t)
def havocs : List Bool → Tree → Tree
  | [], t => t
  | b :: l, t => .havoc b (havocs l t)

/-- A column of a table that is written out. -/
def E.colOk (c : Nat) (lo hi : Int) : E → Bool
  | .zt => decide (lo ≤ 0) && decide (0 ≤ hi)
  | .kt row => decide (lo ≤ row.getD c 0) && decide (row.getD c 0 ≤ hi)
  | .upd t (.lit _) d (.lit n) => (d != c || (decide (lo ≤ n) && decide (n ≤ hi))) && t.colOk c lo hi
  | _ => false
/-- What is known as a constant is not asked. -/
def mkAssert (p : PE) (t : Tree) : Tree :=
  match p with
  | .tt (.lit n) => if n = 0 then .fail 1 else t
  | .ff (.lit n) => if n = 0 then t else .fail 2
  | .rng k (.lit n) => if k.min ≤ n ∧ n ≤ k.max then t else .fail 3
  | .sort false (.lit _) => t
  | .sort true .zt => t
  | .col e c lo hi => if e.colOk c lo hi then t else .assert (.col e c lo hi) t
  | p => .assert p t
def mkAsserts : List PE → Tree → Tree
  | [], t => t
  | p :: l, t => mkAssert p (mkAsserts l t)

/-! ### The program's tables, as the executor asks them -/

def tySize (P : Program) (t : TypeId) : Option Nat := (P.info? t).map (·.size)
def tyAgg (P : Program) (t : TypeId) : Option Bool :=
  match P.underlying t with
  | some (.struct _) | some (.array _ _) => some true
  | some _ => some false
  | none => none
def field? (P : Program) (t : TypeId) (f : Nat) : Option Field :=
  match P.underlying t with
  | some (.struct fs) => fs[f]?
  | _ => none

def ofValue : Value → Option AV
  | .bool b => some (.bool (.lit (if b then 1 else 0)))
  | .int k n => some (.int k (.lit n))
  | .pointer none => some .nilptr
  | .slice none 0 0 => some .nilslice
  | .nilFunc => some .nilfunc
  | .map none => some .nilmap
  | .nilIface => some .nilif
  | .string s => some (.str s.data.toList)
  | _ => none
def ofValues : List Value → Option (List AV)
  | [] => some []
  | v :: l => match ofValue v, ofValues l with
    | some a, some as => some (a :: as)
    | _, _ => none
/-- A value's cells. -/
def AV.cells : AV → List AV
  | .agg l => l
  | v => [v]
def zeroAV (P : Program) (t : TypeId) : Option AV :=
  match (P.info? t).bind (·.zero) with
  | some (.agg cs) => (ofValues cs.toList).map .agg
  | some v => ofValue v
  | none => none

def AV.isBig : AV → Bool
  | .big .. => true
  | _ => false
def AV.isAny : AV → Bool
  | .any => true
  | _ => false
def evalOp (ts : Tmps) : Operand → Option AV
  | .tmp t => match get ts t with
    | some v => if v.isAny then none else some v
    | none => none
  | .const v => ofValue v
  | .func f => some (.func f [])
  | .global g => some (.gptr g 0)

/-- Row kinds of a type, if all its cells are integers or bools. -/
def kindOf : AV → Option CK
  | .int k _ => some (.int k)
  | .bool _ => some .bool
  | .str _ => some .str
  | .strT _ _ => some .str
  | .sat _ => some .str
  | _ => none
def kindsOf : List AV → Option (List CK)
  | [] => some []
  | v :: l => match kindOf v, kindsOf l with
    | some k, some ks => some (k :: ks)
    | _, _ => none
def scal : AV → Option E
  | .int _ e => some e
  | .bool e => some e
  | v => v.code

/-- A row's cells from number k on, n of them. -/
def rowCells (ks : List CK) (t r : E) (k : Nat) : Nat → Option (List AV)
  | 0 => some []
  | n + 1 => match ks[k]?, rowCells ks t r (k + 1) n with
    | some c, some l => some (c.av (mkSel t r k) :: l)
    | _, _ => none

def inRow (r len : E) : List PE := [.tt (mkBin .le (.lit 0) r), .tt (mkBin .lt r len)]

/-- A place in a block with a table in it. -/
inductive Loc where
  | cell (post : Bool) (i : Nat)
  | row (r : E) (c : Nat)
def bigLoc (np w n : Nat) (r : E) (s k : Nat) : Option Loc :=
  if w = 0 then none else
  match isLit r with
  | some x =>
    if x < 0 then none else
    let a := x.toNat * s + k
    if a < np then some (.cell false a)
    else if a < np + n * w then some (.row (.lit (((a - np) / w : Nat) : Int)) ((a - np) % w))
    else some (.cell true (a - np - n * w))
  | none => if s = w ∧ np ≤ k then some (.row (mkAdd r (.lit (((k - np) / w : Nat) : Int))) ((k - np) % w)) else none
/-- Cells of a list, from number i on. -/
def cellsAt (l : List AV) (i n : Nat) (ag : Bool) : Option AV :=
  if ag then (if i + n ≤ l.length then some (.agg ((l.drop i).take n)) else none) else l[i]?

/-- A load of n cells (agg: as an aggregate). -/
def loadAt (M : Mem) (b : Nat) (r : E) (s k n : Nat) (ag : Bool) : Option (AV × List PE) :=
  match get M b with
  | some (.cells l _) =>
    match isLit r with
    | some x =>
      if x < 0 then none else
      let i := x.toNat * s + k
      if ag then (if i + n ≤ l.length then some (.agg ((l.drop i).take n), []) else none)
      else (l[i]?).map fun v => (v, [])
    | none => none
  | some (.rows ks t len _ _) =>
    if s = ks.length then
      if ag then (rowCells ks t r k n).map fun l => (.agg l, inRow r len)
      else (ks[k]?).map fun c => (c.av (mkSel t r k), inRow r len)
    else none
  | some (.big pre ks t m post _) => match bigLoc pre.length ks.length m r s k with
    | some (.cell false i) => (cellsAt pre i n ag).map fun v => (v, [])
    | some (.cell true i) => (cellsAt post i n ag).map fun v => (v, [])
    | some (.row q c) => if ag then (rowCells ks t q c n).map fun l => (.agg l, inRow q (.lit m)) else (ks[c]?).map fun x => (x.av (mkSel t q c), inRow q (.lit m))
    | none => none
  | _ => none

/-- A cell of a table that was written before is written anew. -/
def updFind : E → Int → Nat → E → Option E
  | .upd t (.lit y) c w, x, k, v => if y = x ∧ c = k then some (.upd t (.lit y) c v) else (updFind t x k v).map fun t' => .upd t' (.lit y) c w
  | .bt b, x, k, v => match x, v with
    | .ofNat x, .lit y => (BT.set 64 b x k y).map .bt
    | _, _ => none
  | _, _, _, _ => none
def mkUpd (t r : E) (k : Nat) (v : E) : E :=
  match r with
  | .lit x => match mkSel t (.lit x) k with
    | .lit a => match v with
      | .lit b => if a = b then t else (updFind t x k v).getD (.upd t (.lit x) k v)
      | v => (updFind t x k v).getD (.upd t (.lit x) k v)
    | _ => (updFind t x k v).getD (.upd t (.lit x) k v)
  | r => .upd t r k v

def updRow (ks : List CK) (t r : E) (k : Nat) : List AV → Option E
  | [] => some t
  | v :: l => match ks[k]?, kindOf v, scal v with
    | some c, some c', some e => if c = c' then updRow ks (mkUpd t r k e) r (k + 1) l else none
    | _, _, _ => none

/-- A zero. -/
def AV.isZero : AV → Bool
  | .int _ (.lit n) => n == 0
  | .bool (.lit n) => n == 0
  | .str l => l.isEmpty
  | _ => false

def setL {α : Type} (l : List α) (i : Nat) : List α → List α
  | [] => l
  | v :: vs => setL (l.set i v) (i + 1) vs

/-- May the value lie in a cell? -/
def AV.one : AV → Bool
  | .agg _ | .tup _ | .undef | .any | .big .. => false
  | _ => true

def storeAt (M : Mem) (b : Nat) (r : E) (s k : Nat) (vs : List AV) : Option (Mem × List PE) :=
  if !vs.all AV.one then none else
  match get M b with
  | some (.cells l true) =>
    match isLit r with
    | some x =>
      if x < 0 then none else
      let i := x.toNat * s + k
      if i + vs.length ≤ l.length then some (put b (.cells (setL l i vs) true) M, []) else none
    | none => none
  | some (.rows ks t len true nl) =>
    if s = ks.length then (updRow ks t r k vs).map fun t' => (put b (.rows ks t' len true nl) M, inRow r len)
    else none
  | some (.big pre ks t m post true) => match bigLoc pre.length ks.length m r s k with
    | some (.cell false i) => if i + vs.length ≤ pre.length then some (put b (.big (setL pre i vs) ks t m post true) M, []) else none
    | some (.cell true i) => if i + vs.length ≤ post.length then some (put b (.big pre ks t m (setL post i vs) true) M, []) else none
    | some (.row q c) => (updRow ks t q c vs).map fun t' => (put b (.big pre ks t' m post true) M, inRow q (.lit m))
    | none => none
  | _ => none

/-! ### Strings -/

def strTabGo (i : Nat) (t : E) : List UInt8 → E
  | [] => t
  | b :: l => strTabGo (i + 1) (.upd t (.lit i) 0 (.lit b.toNat)) l
def strTab (l : List UInt8) : E := strTabGo 0 .zt l
def AV.asStr : AV → Option (E × E)
  | .str l => some (strTab l, .lit l.length)
  | .strT t n => some (t, n)
  | _ => none
def teqLit (t u : E) : Nat → E
  | 0 => .lit 1
  | k + 1 => mkBin .and (teqLit t u k) (mkBin .eq (mkSel t (.lit k) 0) (mkSel u (.lit k) 0))
def mkTeq (t n u m : E) : E :=
  match n, m with
  | .lit a, .lit b => if a ≠ b then .lit 0 else if 0 ≤ a ∧ a ≤ 16 then teqLit t u a.toNat else .teq t (.lit a) u (.lit b)
  | n, m => .teq t n u m
def mkSh (t n : E) : E :=
  match n with
  | .lit 0 => t
  | n => .sh t n
def litBytes (t : E) : Nat → Option (List UInt8)
  | 0 => some []
  | k + 1 => match litBytes t k, mkSel t (.lit k) 0 with
    | some l, .lit x => if 0 ≤ x ∧ x ≤ 255 then some (l ++ [UInt8.ofNat x.toNat]) else none
    | _, _ => none
/-- The string of the first n rows. -/
def toStr (t n : E) : AV × List PE :=
  match n with
  | .lit k => if 0 ≤ k ∧ k ≤ 64 then match litBytes t k.toNat with
      | some l => (.str l, [])
      | none => (.strT t (.lit k), [.byt t (.lit k)])
    else (.strT t (.lit k), [.byt t (.lit k)])
  | n => (.strT t n, [.byt t n])
/-- A string's table and length. -/
def AV.asTab : AV → Option (E × E)
  | .sat e => some (.fn 1006 e (.lit 0) (.lit 0) (.lit 0), mkLen e)
  | v => v.asStr
def bytesStr (M : Mem) (v : AV) : Option (AV × List PE) :=
  match v with
  | .nilslice | .cap0 | .capN | .empty => some (.str [], [])
  | .slice b lo n s _ => match get M b with
    | some (.rows ks t len _ _) => if ks = [.int .u8] ∧ s = 1 then some ((toStr (mkSh t lo) n).1, .tt (mkBin .le (mkAdd lo n) len) :: (toStr (mkSh t lo) n).2) else none
    | _ => none
  | _ => none
def strBin (o : BinOp) (x y : AV) : Option (AV × List PE) :=
  match x, y with
  | .str l, .str m => match o with
    | .eql => some (.bool (.lit (if l = m then 1 else 0)), [])
    | .neq => some (.bool (.lit (if l = m then 0 else 1)), [])
    | .add => if l.length + m.length ≤ 1000000 then some (.str (l ++ m), []) else none
    | _ => none
  | x, y => match x.asStr, y.asStr with
    | some (t, n), some (u, m) => match o with
      | .eql => some (.bool (mkTeq t n u m), [])
      | .neq => some (.bool (mkBin .eq (mkTeq t n u m) (.lit 0)), [])
      | .add => some (.strT (.cat t n u) (mkAdd n m), [.tt (mkBin .le (mkAdd n m) (.lit 1000000))])
      | _ => none
    | _, _ => none

/-! ### Operations that leave memory alone -/

def boolE (e : E) : E := mkBin .ne e (.lit 0)
def notE (e : E) : E := mkBin .eq e (.lit 0)

def arith (k : IntKind) (e : E) : AV × List PE :=
  match e with
  | .lit n => (.int k (.lit (k.wrap n)), [])
  | e => if k.signed = true then (.int k e, [.rng k e]) else (.int k (.wrap k e), [])
def bitsOf : BinOp → Option Nat
  | .and => some 0
  | .or => some 1
  | .xor => some 2
  | .andNot => some 3
  | .shl => some 4
  | .shr => some 5
  | .quo => some 6
  | _ => none

def isIntT : Option TypeDesc → Bool
  | some (.int _) => true
  | _ => false
def isBoolT : Option TypeDesc → Bool
  | some .bool => true
  | _ => false

/-- Two structs, compared cell by cell: each field an integer or a bool, none named '_'. -/
def eqCells (P : Program) : Nat → List Field → List AV → List AV → Option E
  | _, [], [], [] => some (.lit 1)
  | o, f :: fs, .int k a :: l, .int k' b :: m =>
    if k = k' ∧ (f.name == "_") = false ∧ f.offset = o ∧ isIntT (P.underlying f.type) = true then (eqCells P (o + 1) fs l m).map fun e => mkBin .and (mkBin .eq a b) e else none
  | o, f :: fs, .bool a :: l, .bool b :: m =>
    if (f.name == "_") = false ∧ f.offset = o ∧ isBoolT (P.underlying f.type) = true then (eqCells P (o + 1) fs l m).map fun e => mkBin .and (mkBin .eq (boolE a) (boolE b)) e else none
  | _, _, _, _ => none

def eqlOp (P : Program) (t : TypeId) (x y : AV) : Option E :=
  match x, y with
  | .int k a, .int k' b => if k = k' then some (mkBin .eq a b) else none
  | .bool a, .bool b => match P.underlying t with
    | some .bool => some (mkBin .eq (boolE a) (boolE b))
    | _ => none
  | .nilptr, .nilptr => match P.underlying t with
    | some (.pointer _) => some (.lit 1)
    | _ => none
  | .ptr .., .nilptr => match P.underlying t with
    | some (.pointer _) => some (.lit 0)
    | _ => none
  | .nilptr, .ptr .. => match P.underlying t with
    | some (.pointer _) => some (.lit 0)
    | _ => none
  | .bfunc .., .nilfunc => match P.underlying t with
    | some (.func ..) => some (.lit 0)
    | _ => none
  | .func .., .nilfunc => match P.underlying t with
    | some (.func ..) => some (.lit 0)
    | _ => none
  | .nilfunc, .nilfunc => match P.underlying t with
    | some (.func ..) => some (.lit 1)
    | _ => none
  | .slice _ _ n _ nl, .nilslice => match P.underlying t with
    | some (.slice _) => if nl = false then some (.lit 0) else match n with
      | .lit m => if 0 < m then some (.lit 0) else none
      | _ => none
    | _ => none
  | .cap0, .nilslice | .empty, .nilslice | .asl .., .nilslice => match P.underlying t with
    | some (.slice _) => some (.lit 0)
    | _ => none
  | .nilslice, .nilslice => match P.underlying t with
    | some (.slice _) => some (.lit 1)
    | _ => none
  | .agg l, .agg m => match P.underlying t with
    | some (.struct fs) =>
      if P.stoodInHeld t = false ∧ P.eqGuardType P.depth t = false then eqCells P 0 fs.toList l m else none
    | _ => none
  | _, _ => none

def binAV (P : Program) (o : BinOp) (t : TypeId) (x y : AV) : Option (AV × List PE) :=
  match o, x, y with
  | .eql, x, y => (eqlOp P t x y).map fun e => (.bool e, [])
  | .neq, x, y => (eqlOp P t x y).map fun e => (.bool (notE e), [])
  | .add, .int k a, .int k' b => if k = k' then some (arith k (mkAdd a b)) else none
  | .sub, .int k a, .int k' b => if k = k' then some (arith k (mkSub a b)) else none
  | .mul, .int k a, .int k' b => if k = k' then some (arith k (mkBin .mul a b)) else none
  | .rem, .int k a, .int k' (.lit n) => if k = k' ∧ n ≠ 0 then some (.int k (mkBin .tmod a (.lit n)), []) else none
  | .rem, .int k a, .int k' b => if k = k' then some (.int k (mkBin .tmod a b), [.tt (mkBin .ne b (.lit 0))]) else none
  | .lss, .int k a, .int k' b => if k = k' then some (.bool (mkBin .lt a b), []) else none
  | .leq, .int k a, .int k' b => if k = k' then some (.bool (mkBin .le a b), []) else none
  | .gtr, .int k a, .int k' b => if k = k' then some (.bool (mkBin .lt b a), []) else none
  | .geq, .int k a, .int k' b => if k = k' then some (.bool (mkBin .le b a), []) else none
  | o, .int k a, .int k' b => match bitsOf o with
    | some j =>
      if j < 4 then (if k = k' then some (.int k (mkBin (.bits j k) a b), []) else none)
      else if j < 6 then some (.int k (mkBin (.bits j k) a b), [.tt (mkBin .le (.lit 0) b)])
      else if k = k' then some (.int k (mkBin (.bits j k) a b), [.tt (mkBin .ne b (.lit 0))]) else none
    | none => none
  | _, _, _ => none

def fillAV (place : Nat → Option (Nat × Nat)) (cells : List AV) : List (Nat × AV) → Option (List AV)
  | [] => some cells
  | (i, v) :: rest =>
    match place i with
    | none => none
    | some (off, size) =>
      if v.cells.length ≠ size ∨ off + v.cells.length > cells.length then none
      else fillAV place (setL cells off v.cells) rest

def fieldPlaces (P : Program) : List Field → Option (List (Nat × Nat))
  | [] => some []
  | f :: fs => match tySize P f.type, fieldPlaces P fs with
    | some s, some l => some ((f.offset, s) :: l)
    | _, _ => none

def evalParts (ts : Tmps) : List (Nat × Operand) → Option (List (Nat × AV))
  | [] => some []
  | (i, x) :: l => match evalOp ts x, evalParts ts l with
    | some v, some vs => if v.isBig then none else some ((i, v) :: vs)
    | _, _ => none
def evalOps (ts : Tmps) : List Operand → Option (List AV)
  | [] => some []
  | x :: l => match evalOp ts x, evalOps ts l with
    | some v, some vs => some (v :: vs)
    | _, _ => none

/-- A type whose values have a table in them: behind np cells, n rows. -/
structure Big where
  t : TypeId
  np : Nat
  ks : List CK
  n : Nat
def zeroRow : List CK → List Value → Option (List Value)
  | [], l => some l
  | .int k :: ks, .int k' n :: l => if k = k' ∧ n = 0 then zeroRow ks l else none
  | .bool :: ks, .bool b :: l => match b with
    | false => zeroRow ks l
    | true => none
  | _ :: _, _ => none
def zeroRows (ks : List CK) : Nat → List Value → Option (List Value)
  | 0, l => some l
  | n + 1, l => match zeroRow ks l with
    | some l => zeroRows ks n l
    | none => none
def splitAt' : Nat → List Value → List Value → Option (List Value × List Value)
  | 0, acc, l => some (acc.reverse, l)
  | n + 1, acc, v :: l => splitAt' n (v :: acc) l
  | _ + 1, _, [] => none
def bigOf (bg : List Big) (t : TypeId) : Option Big := bg.find? fun b => b.t == t
def zeroBig (P : Program) (b : Big) : Option (List AV × List AV) :=
  match (P.info? b.t).bind (·.zero) with
  | some (.agg cs) => match splitAt' b.np [] cs.toList with
    | some (l, m) => match zeroRows b.ks b.n m with
      | some q => match ofValues l, ofValues q with
        | some l, some q => some (l, q)
        | _, _ => none
      | none => none
    | none => none
  | _ => none

/-- Parts laid into what stands before and behind a table. -/
def fillBig (place : Nat → Option (Nat × Nat)) (m : Nat) (pre post : List AV) : List (Nat × AV) → Option (List AV × List AV)
  | [] => some (pre, post)
  | (i, v) :: rest =>
    match place i with
    | none => none
    | some (off, size) =>
      if v.cells.length ≠ size then none
      else if off + size ≤ pre.length then fillBig place m (setL pre off v.cells) post rest
      else if pre.length + m ≤ off ∧ off - (pre.length + m) + size ≤ post.length then fillBig place m pre (setL post (off - (pre.length + m)) v.cells) rest
      else none

/-- A number that is a constant. -/
def litOp (ts : Tmps) : Option Operand → Option (Option Int)
  | none => some none
  | some x => match evalOp ts x with
    | some (.int _ (.lit n)) => some (some n)
    | _ => none

/-- A part of a slice. -/
def sliceAV (P : Program) (el : TypeId) (x : AV) (lo hi mx : Option Int) : Option (AV × List PE) :=
  match tySize P el with
  | none => none
  | some sz => match x with
    | .slice b l len s nl =>
      if s ≠ sz then none else
      let a := lo.getD 0
      match hi, mx with
      | none, none => match len with
        | .lit n => if 0 ≤ a ∧ a ≤ n then (if a = 0 then some (x, []) else if a = n then (if nl then none else some (.empty, [])) else some (.slice b (mkAdd l (.lit a)) (.lit (n - a)) s nl, [])) else none
        | _ => if a = 0 then some (x, []) else none
      | some h, none =>
        if 0 ≤ a ∧ a ≤ h then
          if a = h ∧ a ≠ 0 then if nl then none else some (.empty, [.tt (mkBin .le (.lit h) len)])
          else some (.slice b (mkAdd l (.lit a)) (.lit (h - a)) s nl, [.tt (mkBin .le (.lit h) len)])
        else none
      | some h, some m =>
        if 0 ≤ a ∧ a ≤ h ∧ h ≤ m then
          if m = a then if nl then (if a = 0 then some (.capN, [.tt (mkBin .le (.lit m) len)]) else none) else some (.cap0, [.tt (mkBin .le (.lit m) len)])
          else if a = h ∧ a ≠ 0 then if nl then none else some (.empty, [.tt (mkBin .le (.lit m) len)])
          else some (.slice b (mkAdd l (.lit a)) (.lit (h - a)) s nl, [.tt (mkBin .le (.lit m) len)])
        else none
      | none, some _ => none
    | .nilslice => if lo.getD 0 = 0 ∧ hi.getD 0 = 0 ∧ mx.getD 0 = 0 ∧ (mx.isNone || hi.isSome) = true then some (.nilslice, []) else none
    | .cap0 => if lo.getD 0 = 0 ∧ hi.getD 0 = 0 ∧ mx.getD 0 = 0 ∧ (mx.isNone || hi.isSome) = true then some (.cap0, []) else none
    | .empty => if lo.getD 0 = 0 ∧ hi = some 0 ∧ mx = some 0 then some (.cap0, []) else if lo.getD 0 = 0 ∧ hi.getD 0 = 0 ∧ mx = none then some (.empty, []) else none
    | _ => none
/-- A part of an array. -/
def sliceArr (P : Program) (el : TypeId) (n : Nat) (x : AV) (lo hi mx : Option Int) : Option (AV × List PE) :=
  match tySize P el, x, mx with
  | some sz, .ptr b (.lit 0) _ k, none =>
    let a := lo.getD 0
    let h := hi.getD n
    if 0 ≤ a ∧ a < h ∧ h ≤ n then some (.asl b (k + a.toNat * sz) (h - a).toNat sz, []) else none
  | _, _, _ => none

/-- What package-level variables hold: numbers that stay. -/
structure Glob where
  g : Nat
  k : CK
  l : List Int
  /-- An interface, nil or not. -/
  ifc : Bool := false
  /-- The list is all of it. -/
  full : Bool := false
  /-- Some number. -/
  ity : Bool := false
def globAt (gl : List Glob) (g k : Nat) : Option AV :=
  match gl.find? fun x => x.g == g with
  | some x => (x.l[k]?).map fun n => x.k.av (.lit n)
  | none => none
/-- What the executor knows of types and variables. -/
structure Kn where
  bigs : List Big := []
  globs : List Glob := []
  /-- Sums wrap: nothing is asked of them. -/
  wrp : Bool := false

def quiet1 (P : Program) (kn : Kn) (ts : Tmps) (M : Mem) (o : Op) : Option (AV × List PE) :=
  match o with
  | .move x | .assign x => (evalOp ts x).map fun v => (v, [])
  | .pick c a b => match evalOp ts c with
    | some (.bool (.lit n)) => (if n = 0 then evalOp ts b else evalOp ts a).map fun v => (v, [])
    | _ => none
  | .load t a => match evalOp ts a, tyAgg P t, tySize P t with
    | some (.ptr b r s k), some ag, some n => loadAt M b r s k n ag
    | some (.gptr g k), some false, some _ => (globAt kn.globs g k).map fun v => (v, [])
    | _, _, _ => none
  | .nilCheck x => match evalOp ts x with
    | some (.ptr b r s k) => some (.ptr b r s k, [])
    | some (.gptr g k) => some (.gptr g k, [])
    | _ => none
  | .binOp o t x y _ => match evalOp ts x, evalOp ts y with
    | some v, some u => binAV P o t v u
    | _, _ => none
  | .unOp .not _ x => match evalOp ts x with
    | some (.bool e) => some (.bool (notE e), [])
    | _ => none
  | .unOp .xor _ x => match evalOp ts x with
    | some (.int k e) => some (.int k (mkBin (.bits 2 k) (.lit (if k.signed then -1 else k.max)) e), [])
    | _ => none
  | .unOp .neg _ x => match evalOp ts x with
    | some (.int k e) => some (arith k (mkBin .sub (.lit 0) e))
    | _ => none
  | .convert src dst x => match evalOp ts x, P.underlying dst, P.underlying src with
    | some (.int _ e), some (.int k), some _ => some (.int k (mkWrap k e), [])
    | _, _, _ => none
  | .makeFunc (.func f) first cap => match evalOps ts first.toList, evalOps ts cap.toList with
    | some [], some l => some (.func f l, [])
    | some m, some l => some (.bfunc f m l, [])
    | _, _ => none
  | .fieldAddr t x f => match evalOp ts x, field? P t f with
    | some (.ptr b r s k), some fd => match tySize P fd.type with
      | some (_ + 1) => some (.ptr b r s (k + fd.offset), [])
      | _ => none
    | _, _ => none
  | .field t x f => match evalOp ts x, field? P t f with
    | some (.agg l), some fd => match tyAgg P fd.type, tySize P fd.type with
      | some true, some n => if fd.offset + n ≤ l.length then some (.agg ((l.drop fd.offset).take n), []) else none
      | some false, some _ => (l[fd.offset]?).map fun v => (v, [])
      | _, _ => none
    | _, _ => none
  | .indexAddr t x i => match evalOp ts x, evalOp ts i, P.underlying t with
    | some (.slice b lo len s _), some (.int _ e), some (.slice el) =>
      if tySize P el = some s then some (.ptr b (mkAdd lo e) s 0, inRow e len) else none
    | some (.ptr b r s k), some (.int _ (.lit x)), some (.array n el) => match tySize P el with
      | some z => if 0 ≤ x ∧ x < n then some (.ptr b r s (k + x.toNat * z), []) else none
      | none => none
    | some (.ptr b (.lit 0) _ k), some (.int _ e), some (.array n el) => match tySize P el with
      | some z => some (.ptr b e z k, inRow e (.lit n))
      | none => none
    | some (.gptr g k), some (.int _ (.lit x)), some (.array n el) => match tySize P el with
      | some z => if 0 ≤ x ∧ x < n then some (.gptr g (k + x.toNat * z), []) else none
      | none => none
    | some (.asl b k n s), some (.int _ (.lit x)), some (.slice el) =>
      if tySize P el = some s ∧ 0 ≤ x ∧ x < n then some (.ptr b (.lit 0) 0 (k + x.toNat * s), []) else none
    | _, _, _ => none
  | .index t x i => match evalOp ts x, evalOp ts i, P.underlying t with
    | some (.str l), some (.int _ (.lit j)), some .string => if 0 ≤ j then (l[j.toNat]?).map fun b => (.int .u8 (.lit b.toNat), []) else none
    | some (.agg l), some (.int _ (.lit j)), some (.array n el) => match tyAgg P el, tySize P el with
      | some ag, some z => if 0 ≤ j ∧ j < n then (cellsAt l (j.toNat * z) z ag).map fun v => (v, []) else none
      | _, _ => none
    | _, _, _ => none
  | .extract x i => match evalOp ts x with
    | some (.tup l) => (l[i]?).map fun v => (v, [])
    | _ => none
  | .slice t x lo hi mx => match evalOp ts x, P.underlying t with
    | some v, some (.slice el) => match v, lo, hi, mx with
      | .slice b l len s nl, none, some h, none => match evalOp ts h, tySize P el with
        | some (.int _ e), some _ => some (.slice b l e s nl, [.tt (mkBin .le (.lit 0) e), .tt (mkBin .le e len)])
        | _, _ => none
      | v, lo, hi, mx => match litOp ts lo, litOp ts hi, litOp ts mx with
        | some a, some h, some m => sliceAV P el v a h m
        | _, _, _ => none
    | some v, some (.array n el) => match litOp ts lo, litOp ts hi, litOp ts mx with
      | some a, some h, some m => sliceArr P el n v a h m
      | _, _, _ => none
    | _, _ => none
  | .build t parts => if (bigOf kn.bigs t).isSome then
      match bigOf kn.bigs t, evalParts ts parts.toList, P.underlying t with
      | some b, some ps, some (.struct fs) => match zeroBig P b, fieldPlaces P fs.toList with
        | some (pre, post), some pl => (fillBig (fun i => pl[i]?) (b.n * b.ks.length) pre post ps).map fun (l, m) => (.big l b.ks .zt b.n m, [])
        | _, _ => none
      | some b, some [], some (.array _ el) => if (tySize P el).isSome then (zeroBig P b).map fun (l, m) => (.big l b.ks .zt b.n m, []) else none
      | _, _, _ => none
    else match zeroAV P t, evalParts ts parts.toList, P.underlying t with
    | some z, some ps, some (.struct fs) => match fieldPlaces P fs.toList with
      | some pl => (fillAV (fun i => pl[i]?) z.cells ps).map fun l => (.agg l, [])
      | none => none
    | some z, some ps, some (.array _ el) => match tySize P el with
      | some sz => (fillAV (fun i => some (i * sz, sz)) z.cells ps).map fun l => (.agg l, [])
      | none => none
    | _, _, _ => none
  | .call { callee := .builtin .len, args, argTypes } => match args.toList, argTypes.toList with
    | [x], [t] => match evalOp ts x, P.underlying t with
      | some (.slice _ _ len _ _), some (.slice _) => some (.int .i64 len, [])
      | some .nilslice, some (.slice _) => some (.int .i64 (.lit 0), [])
      | some .cap0, some (.slice _) => some (.int .i64 (.lit 0), [])
      | some .empty, some (.slice _) => some (.int .i64 (.lit 0), [])
      | some (.asl _ _ n _), some (.slice _) => some (.int .i64 (.lit n), [])
      | some (.str l), some .string => some (.int .i64 (.lit l.length), [])
      | _, _ => none
    | _, _ => none
  | .call { callee := .builtin .cap, args, argTypes } => match args.toList, argTypes.toList with
    | [x], [t] => match evalOp ts x, P.underlying t with
      | some .nilslice, some (.slice _) => some (.int .i64 (.lit 0), [])
      | some .cap0, some (.slice _) => some (.int .i64 (.lit 0), [])
      | _, _ => none
    | _, _ => none
  | .call { callee := .builtin .min, args, argTypes := _ } => match args.toList with
    | [x, y] => match evalOp ts x, evalOp ts y with
      | some (.int k a), some (.int k' b) => if k = k' then some (.int k (mkBin .min a b), []) else none
      | _, _ => none
    | _ => none
  | .call { callee := .builtin .max, args, argTypes := _ } => match args.toList with
    | [x, y] => match evalOp ts x, evalOp ts y with
      | some (.int k a), some (.int k' b) => if k = k' then some (.int k (mkBin .max a b), []) else none
      | _, _ => none
    | _ => none
  | _ => none

/-- A number. -/
def intOp (ts : Tmps) : Option Operand → Option (Option E)
  | none => some none
  | some x => match evalOp ts x with
    | some (.int _ e) => some (some e)
    | _ => none
/-- A part of a slice, or of a string, whose bounds are no constants. -/
def sliceSym (x : AV) (lo hi : Option E) : Option (AV × List PE) :=
  match x with
  | .slice b l len s _ =>
    let a := lo.getD (.lit 0)
    let h := hi.getD len
    some (.slice b (mkAdd l a) (mkSub h a) s true, [.tt (mkBin .le (.lit 0) a), .tt (mkBin .le a h), .tt (mkBin .le h len)])
  | _ => none
/-- Structs compared field by field: eq compares two values of a type. -/
def eqFs (P : Program) (eq : TypeId → AV → AV → Option E) (l m : List AV) : List Field → Option E
  | [] => some (.lit 1)
  | f :: fs => if f.name = "_" then none else match tyAgg P f.type, tySize P f.type with
    | some ag, some n => match cellsAt l f.offset n ag, cellsAt m f.offset n ag with
      | some v, some u => match eq f.type v u, eqFs P eq l m fs with
        | some e, some e' => some (mkBin .and e e')
        | _, _ => none
      | _, _ => none
    | _, _ => none
/-- The elements of two arrays, from number i on. -/
def eqEls (eq : AV → AV → Option E) (l m : List AV) (n : Nat) (ag : Bool) : Nat → Nat → Option E
  | _, 0 => some (.lit 1)
  | i, k + 1 => match cellsAt l (i * n) n ag, cellsAt m (i * n) n ag with
    | some v, some u => match eq v u, eqEls eq l m n ag (i + 1) k with
      | some e, some e' => some (mkBin .and e e')
      | _, _ => none
    | _, _ => none
/-- Two values of a type: are they equal? -/
def eqAV (P : Program) : Nat → TypeId → AV → AV → Option E
  | 0, _, _, _ => none
  | d + 1, t, v, u => match P.underlying t with
    | some (.int _) => match v, u with
      | .int k a, .int k' b => if k = k' then some (mkBin .eq a b) else none
      | _, _ => none
    | some .bool => match v, u with
      | .bool a, .bool b => some (mkBin .eq (boolE a) (boolE b))
      | _, _ => none
    | some .string => match v, u with
      | .str l, .str m => some (.lit (if l = m then 1 else 0))
      | v, u => match v.asStr, u.asStr with
        | some (t, n), some (u, m) => some (mkTeq t n u m)
        | _, _ => match v.code, u.code with
          | some a, some b => some (mkBin .eq a b)
          | _, _ => none
    | some (.struct fs) => match v, u with
      | .agg l, .agg m => if P.stoodInHeld t = false then eqFs P (eqAV P d) l m fs.toList else none
      | _, _ => none
    | some (.array len el) => match v, u with
      | .agg l, .agg m => match tyAgg P el, tySize P el with
        | some ag, some n => eqEls (eqAV P d el) l m n ag 0 len
        | _, _ => none
      | _, _ => none
    | _ => none
def aggBin (P : Program) (o : BinOp) (t : TypeId) (v u : AV) : Option (AV × List PE) :=
  match v, u with
  | .agg l, .agg m => if P.eqGuardType P.depth t = false then match o, eqAV P 20 t (.agg l) (.agg m) with
      | .eql, some e => some (.bool e, [])
      | .neq, some e => some (.bool (notE e), [])
      | _, _ => none
    else none
  | _, _ => none
/-! ### Maps -/

/-- A known number or string. -/
def AV.flat : AV → Bool
  | .str _ => true
  | .int _ (.lit _) => true
  | _ => false
def fieldFlat (P : Program) (l : List AV) (f : Field) : Bool :=
  f.name != "_" && (match P.underlying f.type with
    | some .string => true
    | some (.int _) => true
    | _ => false) && tyAgg P f.type == some false && tySize P f.type == some 1 && decide (f.offset < l.length)
/-- A key that is known: a number or a string, or a struct of these. -/
def keyOk (P : Program) (t : TypeId) (v : AV) : Bool :=
  match P.underlying t, v with
  | some .string, .str _ => true
  | some (.int _), .int _ (.lit _) => true
  | some (.struct fs), .agg l => l.all AV.flat && fs.toList.all (fieldFlat P l)
  | _, _ => false
def AV.sameF : AV → AV → Bool
  | .str l, .str m => l == m
  | .int k (.lit n), .int k' (.lit n') => k == k' && n == n'
  | _, _ => false
def sameFs : List AV → List AV → Bool
  | [], [] => true
  | v :: l, u :: m => v.sameF u && sameFs l m
  | _, _ => false
def AV.sameK : AV → AV → Bool
  | .agg l, .agg m => sameFs l m
  | v, u => v.sameF u
/-- The number of a key. -/
def mapFind (P : Program) (t : TypeId) (k : AV) : List AV → Nat → Option (Option Nat)
  | [], _ => some none
  | x :: l, i => match eqAV P 20 t k x with
    | some (.lit n) => if n = 0 then mapFind P t k l (i + 1) else some (some i)
    | _ => none
def mapOf (M : Mem) : AV → Option (List AV × List AV)
  | .nilmap => some ([], [])
  | .mref b => match get M b with
    | some (.mp l m) => some (l, m)
    | _ => none
  | _ => none
def lookupAV (P : Program) (M : Mem) (kt et : TypeId) (v k : AV) (ok : Bool) : Option (AV × List PE) :=
  if keyOk P kt k then match mapOf M v with
    | some (l, m) => match mapFind P kt k l 0 with
      | some (some j) => (m[j]?).map fun y => (if ok then .tup [y, .bool (.lit 1)] else y, [])
      | some none => (zeroAV P et).map fun z => (if ok then .tup [z, .bool (.lit 0)] else z, [])
      | none => none
    | none => none
  else none
def updateAV (P : Program) (s : St) (kt : TypeId) (b : Nat) (k v : AV) : Option (AV × St × List PE) :=
  if keyOk P kt k then match get s.mem b with
    | some (.mp l m) => match mapFind P kt k l 0 with
      | some (some j) => match l[j]? with
        | some k' => if k'.sameK k then some (.undef, { s with mem := put b (.mp l (m.set j v)) s.mem }, []) else none
        | none => none
      | some none => some (.undef, { s with mem := put b (.mp (l ++ [k]) (m ++ [v])) s.mem }, [])
      | none => none
    | _ => none
  else none
def ifBin (P : Program) (o : BinOp) (t : TypeId) (y : Operand) (v u : AV) : Option (AV × List PE) :=
  match v, u, y, P.underlying t with
  | .ifo e, .nilif, .const _, some (.interface _) => match o with
    | .eql => some (.bool (mkBin .eq e (.lit 0)), [])
    | .neq => some (.bool (mkBin .ne e (.lit 0)), [])
    | _ => none
  | .nilif, .nilif, .const _, some (.interface _) => match o with
    | .eql => some (.bool (.lit 1), [])
    | .neq => some (.bool (.lit 0), [])
    | _ => none
  | _, _, _, _ => none
def quiet2 (P : Program) (ts : Tmps) (M : Mem) (o : Op) : Option (AV × List PE) :=
  match o with
  | .lookup t x i ok => match evalOp ts x, evalOp ts i, P.underlying t with
    | some v, some k, some (.map kt et) => lookupAV P M kt et v k ok
    | _, _, _ => none
  | .binOp o t x y _ => match evalOp ts x, evalOp ts y with
    | some v, some u => match strBin o v u with
      | some r => some r
      | none => match aggBin P o t v u with
        | some r => some r
        | none => ifBin P o t y v u
    | _, _ => none
  | .convert src dst x => match evalOp ts x, P.underlying dst, P.underlying src with
    | some v, some .string, some (.slice el) => match P.underlying el with
      | some (.int .u8) => bytesStr M v
      | _ => none
    | _, _, _ => none
  | .index t x i => match evalOp ts x, evalOp ts i, P.underlying t with
    | some (.strT t n), some (.int _ e), some .string => some (.int .u8 (mkSel t e 0), inRow e n)
    | _, _, _ => none
  | .slice t x lo hi none => match evalOp ts x, P.underlying t, intOp ts lo, intOp ts hi with
    | some v, some (.slice el), some a, some h => match v with
      | .slice _ _ _ s _ => if tySize P el = some s then sliceSym v a h else none
      | _ => none
    | _, _, _, _ => none
  | .call { callee := .builtin .len, args, argTypes } => match args.toList, argTypes.toList with
    | [x], [t] => match evalOp ts x, P.underlying t with
      | some (.strT _ n), some .string => some (.int .i64 n, [])
      | some .capN, some (.slice _) => some (.int .i64 (.lit 0), [])
      | _, _ => none
    | _, _ => none
  | _ => none
/-- A part of a string. -/
def sliceStr (v : AV) (lo hi : Option E) : Option (AV × List PE) :=
  match v.code with
  | some c =>
    let a := lo.getD (.lit 0)
    let h := hi.getD (mkLen c)
    some (mkStr (mkS 3 c a h), [.tt (mkBin .le (.lit 0) a), .tt (mkBin .le a h), .tt (mkBin .le h (mkLen c))])
  | none => none
/-- Operations on strings as numbers. -/
def quiet3 (P : Program) (ts : Tmps) (o : Op) : Option (AV × List PE) :=
  match o with
  | .binOp o _ x y _ => match (evalOp ts x).bind AV.code, (evalOp ts y).bind AV.code with
    | some a, some b => match o with
      | .eql => some (.bool (mkBin .eq a b), [])
      | .neq => some (.bool (mkBin .ne a b), [])
      | .add => some (mkStr (mkS 2 a b (.lit 0)), [.tt (mkBin .le (mkAdd (mkLen a) (mkLen b)) (.lit 1000000))])
      | _ => none
    | _, _ => none
  | .index t x i => match (evalOp ts x).bind AV.code, evalOp ts i, P.underlying t with
    | some c, some (.int _ e), some .string => some (.int .u8 (mkS 4 c e (.lit 0)), inRow e (mkLen c))
    | _, _, _ => none
  | .slice t x lo hi none => match evalOp ts x, P.underlying t, intOp ts lo, intOp ts hi with
    | some v, some .string, some a, some h => sliceStr v a h
    | _, _, _, _ => none
  | .call { callee := .builtin .len, args, argTypes } => match args.toList, argTypes.toList with
    | [x], [t] => match (evalOp ts x).bind AV.code, P.underlying t with
      | some c, some .string => some (.int .i64 (mkLen c), [])
      | _, _ => none
    | _, _ => none
  | _ => none
/-! The same, each operation a definition by itself: the kernel copies a definition where it unfolds it. -/

def quiet1_move (_P : Program) (_kn : Kn) (ts : Tmps) (_M : Mem) (x : Operand) : Option (AV × List PE) :=
  (evalOp ts x).map fun v => (v, [])
def quiet1_assign (_P : Program) (_kn : Kn) (ts : Tmps) (_M : Mem) (x : Operand) : Option (AV × List PE) :=
  (evalOp ts x).map fun v => (v, [])
def quiet1_pick (_P : Program) (_kn : Kn) (ts : Tmps) (_M : Mem) (c : Operand) (a : Operand) (b : Operand) : Option (AV × List PE) :=
  match evalOp ts c with
    | some (.bool (.lit n)) => (if n = 0 then evalOp ts b else evalOp ts a).map fun v => (v, [])
    | _ => none
def quiet1_load (P : Program) (kn : Kn) (ts : Tmps) (M : Mem) (t : TypeId) (a : Operand) : Option (AV × List PE) :=
  match evalOp ts a, tyAgg P t, tySize P t with
    | some (.ptr b r s k), some ag, some n => loadAt M b r s k n ag
    | some (.gptr g k), some false, some _ => (globAt kn.globs g k).map fun v => (v, [])
    | _, _, _ => none
def quiet1_nilCheck (_P : Program) (_kn : Kn) (ts : Tmps) (_M : Mem) (x : Operand) : Option (AV × List PE) :=
  match evalOp ts x with
    | some (.ptr b r s k) => some (.ptr b r s k, [])
    | some (.gptr g k) => some (.gptr g k, [])
    | _ => none
def quiet1_binOp (P : Program) (_kn : Kn) (ts : Tmps) (_M : Mem) (o : BinOp) (t : TypeId) (x : Operand) (y : Operand) (_x4 : TypeId) : Option (AV × List PE) :=
  match evalOp ts x, evalOp ts y with
    | some v, some u => binAV P o t v u
    | _, _ => none
def quiet1_unOp (_P : Program) (_kn : Kn) (ts : Tmps) (_M : Mem) (a0 : UnOp) (a1 : TypeId) (a2 : Operand) : Option (AV × List PE) :=
  match a0, a1, a2 with
  | .not, _, x => match evalOp ts x with
    | some (.bool e) => some (.bool (notE e), [])
    | _ => none
  | .xor, _, x => match evalOp ts x with
    | some (.int k e) => some (.int k (mkBin (.bits 2 k) (.lit (if k.signed then -1 else k.max)) e), [])
    | _ => none
  | .neg, _, x => match evalOp ts x with
    | some (.int k e) => some (arith k (mkBin .sub (.lit 0) e))
    | _ => none
  | _, _, _ => none
def quiet1_convert (P : Program) (_kn : Kn) (ts : Tmps) (_M : Mem) (src : TypeId) (dst : TypeId) (x : Operand) : Option (AV × List PE) :=
  match evalOp ts x, P.underlying dst, P.underlying src with
    | some (.int _ e), some (.int k), some _ => some (.int k (mkWrap k e), [])
    | _, _, _ => none
def quiet1_makeFunc (_P : Program) (_kn : Kn) (ts : Tmps) (_M : Mem) (a0 : Fn) (a1 : Array Operand) (a2 : Array Operand) : Option (AV × List PE) :=
  match a0, a1, a2 with
  | (.func f), first, cap => match evalOps ts first.toList, evalOps ts cap.toList with
    | some [], some l => some (.func f l, [])
    | some m, some l => some (.bfunc f m l, [])
    | _, _ => none
  | _, _, _ => none
def quiet1_fieldAddr (P : Program) (_kn : Kn) (ts : Tmps) (_M : Mem) (t : TypeId) (x : Operand) (f : Nat) : Option (AV × List PE) :=
  match evalOp ts x, field? P t f with
    | some (.ptr b r s k), some fd => match tySize P fd.type with
      | some (_ + 1) => some (.ptr b r s (k + fd.offset), [])
      | _ => none
    | _, _ => none
def quiet1_field (P : Program) (_kn : Kn) (ts : Tmps) (_M : Mem) (t : TypeId) (x : Operand) (f : Nat) : Option (AV × List PE) :=
  match evalOp ts x, field? P t f with
    | some (.agg l), some fd => match tyAgg P fd.type, tySize P fd.type with
      | some true, some n => if fd.offset + n ≤ l.length then some (.agg ((l.drop fd.offset).take n), []) else none
      | some false, some _ => (l[fd.offset]?).map fun v => (v, [])
      | _, _ => none
    | _, _ => none
def quiet1_indexAddr (P : Program) (_kn : Kn) (ts : Tmps) (_M : Mem) (t : TypeId) (x : Operand) (i : Operand) : Option (AV × List PE) :=
  match evalOp ts x, evalOp ts i, P.underlying t with
    | some (.slice b lo len s _), some (.int _ e), some (.slice el) =>
      if tySize P el = some s then some (.ptr b (mkAdd lo e) s 0, inRow e len) else none
    | some (.ptr b r s k), some (.int _ (.lit x)), some (.array n el) => match tySize P el with
      | some z => if 0 ≤ x ∧ x < n then some (.ptr b r s (k + x.toNat * z), []) else none
      | none => none
    | some (.ptr b (.lit 0) _ k), some (.int _ e), some (.array n el) => match tySize P el with
      | some z => some (.ptr b e z k, inRow e (.lit n))
      | none => none
    | some (.gptr g k), some (.int _ (.lit x)), some (.array n el) => match tySize P el with
      | some z => if 0 ≤ x ∧ x < n then some (.gptr g (k + x.toNat * z), []) else none
      | none => none
    | some (.asl b k n s), some (.int _ (.lit x)), some (.slice el) =>
      if tySize P el = some s ∧ 0 ≤ x ∧ x < n then some (.ptr b (.lit 0) 0 (k + x.toNat * s), []) else none
    | _, _, _ => none
def quiet1_index (P : Program) (_kn : Kn) (ts : Tmps) (_M : Mem) (t : TypeId) (x : Operand) (i : Operand) : Option (AV × List PE) :=
  match evalOp ts x, evalOp ts i, P.underlying t with
    | some (.str l), some (.int _ (.lit j)), some .string => if 0 ≤ j then (l[j.toNat]?).map fun b => (.int .u8 (.lit b.toNat), []) else none
    | some (.agg l), some (.int _ (.lit j)), some (.array n el) => match tyAgg P el, tySize P el with
      | some ag, some z => if 0 ≤ j ∧ j < n then (cellsAt l (j.toNat * z) z ag).map fun v => (v, []) else none
      | _, _ => none
    | _, _, _ => none
def quiet1_extract (_P : Program) (_kn : Kn) (ts : Tmps) (_M : Mem) (x : Operand) (i : Nat) : Option (AV × List PE) :=
  match evalOp ts x with
    | some (.tup l) => (l[i]?).map fun v => (v, [])
    | _ => none
def quiet1_slice (P : Program) (_kn : Kn) (ts : Tmps) (_M : Mem) (t : TypeId) (x : Operand) (lo : Option Operand) (hi : Option Operand) (mx : Option Operand) : Option (AV × List PE) :=
  match evalOp ts x, P.underlying t with
    | some v, some (.slice el) => match v, lo, hi, mx with
      | .slice b l len s nl, none, some h, none => match evalOp ts h, tySize P el with
        | some (.int _ e), some _ => some (.slice b l e s nl, [.tt (mkBin .le (.lit 0) e), .tt (mkBin .le e len)])
        | _, _ => none
      | v, lo, hi, mx => match litOp ts lo, litOp ts hi, litOp ts mx with
        | some a, some h, some m => sliceAV P el v a h m
        | _, _, _ => none
    | some v, some (.array n el) => match litOp ts lo, litOp ts hi, litOp ts mx with
      | some a, some h, some m => sliceArr P el n v a h m
      | _, _, _ => none
    | _, _ => none
def quiet1_build (P : Program) (kn : Kn) (ts : Tmps) (_M : Mem) (t : TypeId) (parts : Array (Nat × Operand)) : Option (AV × List PE) :=
  if (bigOf kn.bigs t).isSome then
      match bigOf kn.bigs t, evalParts ts parts.toList, P.underlying t with
      | some b, some ps, some (.struct fs) => match zeroBig P b, fieldPlaces P fs.toList with
        | some (pre, post), some pl => (fillBig (fun i => pl[i]?) (b.n * b.ks.length) pre post ps).map fun (l, m) => (.big l b.ks .zt b.n m, [])
        | _, _ => none
      | some b, some [], some (.array _ el) => if (tySize P el).isSome then (zeroBig P b).map fun (l, m) => (.big l b.ks .zt b.n m, []) else none
      | _, _, _ => none
    else match zeroAV P t, evalParts ts parts.toList, P.underlying t with
    | some z, some ps, some (.struct fs) => match fieldPlaces P fs.toList with
      | some pl => (fillAV (fun i => pl[i]?) z.cells ps).map fun l => (.agg l, [])
      | none => none
    | some z, some ps, some (.array _ el) => match tySize P el with
      | some sz => (fillAV (fun i => some (i * sz, sz)) z.cells ps).map fun l => (.agg l, [])
      | none => none
    | _, _, _ => none
def quiet1_call (P : Program) (_kn : Kn) (ts : Tmps) (_M : Mem) (a0 : Call) : Option (AV × List PE) :=
  match a0 with
  | { callee := .builtin .len, args, argTypes } => match args.toList, argTypes.toList with
    | [x], [t] => match evalOp ts x, P.underlying t with
      | some (.slice _ _ len _ _), some (.slice _) => some (.int .i64 len, [])
      | some .nilslice, some (.slice _) => some (.int .i64 (.lit 0), [])
      | some .cap0, some (.slice _) => some (.int .i64 (.lit 0), [])
      | some .empty, some (.slice _) => some (.int .i64 (.lit 0), [])
      | some (.asl _ _ n _), some (.slice _) => some (.int .i64 (.lit n), [])
      | some (.str l), some .string => some (.int .i64 (.lit l.length), [])
      | _, _ => none
    | _, _ => none
  | { callee := .builtin .cap, args, argTypes } => match args.toList, argTypes.toList with
    | [x], [t] => match evalOp ts x, P.underlying t with
      | some .nilslice, some (.slice _) => some (.int .i64 (.lit 0), [])
      | some .cap0, some (.slice _) => some (.int .i64 (.lit 0), [])
      | _, _ => none
    | _, _ => none
  | { callee := .builtin .min, args, argTypes := _ } => match args.toList with
    | [x, y] => match evalOp ts x, evalOp ts y with
      | some (.int k a), some (.int k' b) => if k = k' then some (.int k (mkBin .min a b), []) else none
      | _, _ => none
    | _ => none
  | { callee := .builtin .max, args, argTypes := _ } => match args.toList with
    | [x, y] => match evalOp ts x, evalOp ts y with
      | some (.int k a), some (.int k' b) => if k = k' then some (.int k (mkBin .max a b), []) else none
      | _, _ => none
    | _ => none
  | _ => none
def quiet1F (P : Program) (kn : Kn) (ts : Tmps) (M : Mem) (o : Op) : Option (AV × List PE) :=
  match o with
  | .move x => quiet1_move P kn ts M x
  | .assign x => quiet1_assign P kn ts M x
  | .pick c a b => quiet1_pick P kn ts M c a b
  | .load t a => quiet1_load P kn ts M t a
  | .nilCheck x => quiet1_nilCheck P kn ts M x
  | .binOp o t x y x4 => quiet1_binOp P kn ts M o t x y x4
  | .unOp a0 a1 a2 => quiet1_unOp P kn ts M a0 a1 a2
  | .convert src dst x => quiet1_convert P kn ts M src dst x
  | .makeFunc a0 a1 a2 => quiet1_makeFunc P kn ts M a0 a1 a2
  | .fieldAddr t x f => quiet1_fieldAddr P kn ts M t x f
  | .field t x f => quiet1_field P kn ts M t x f
  | .indexAddr t x i => quiet1_indexAddr P kn ts M t x i
  | .index t x i => quiet1_index P kn ts M t x i
  | .extract x i => quiet1_extract P kn ts M x i
  | .slice t x lo hi mx => quiet1_slice P kn ts M t x lo hi mx
  | .build t parts => quiet1_build P kn ts M t parts
  | .call a0 => quiet1_call P kn ts M a0
  | _ => none
theorem quiet1F_eq (P : Program) (kn : Kn) (ts : Tmps) (M : Mem) (o : Op) : quiet1F P kn ts M o = quiet1 P kn ts M o := by
  cases o with
  | move => rfl
  | assign => rfl
  | pick => rfl
  | load => rfl
  | nilCheck => rfl
  | binOp => rfl
  | unOp o t x => cases o <;> rfl
  | convert => rfl
  | makeFunc f a b => cases f <;> rfl
  | fieldAddr => rfl
  | field => rfl
  | indexAddr => rfl
  | index => rfl
  | extract => rfl
  | slice => rfl
  | build => rfl
  | call c =>
    obtain ⟨f, l, m⟩ := c
    cases f with
    | builtin b => cases b <;> rfl
    | _ => rfl
  | _ => rfl
def quiet2_lookup (P : Program) (ts : Tmps) (M : Mem) (t : TypeId) (x : Operand) (i : Operand) (ok : Bool) : Option (AV × List PE) :=
  match evalOp ts x, evalOp ts i, P.underlying t with
    | some v, some k, some (.map kt et) => lookupAV P M kt et v k ok
    | _, _, _ => none
def quiet2_binOp (P : Program) (ts : Tmps) (_M : Mem) (o : BinOp) (t : TypeId) (x : Operand) (y : Operand) (_x4 : TypeId) : Option (AV × List PE) :=
  match evalOp ts x, evalOp ts y with
    | some v, some u => match strBin o v u with
      | some r => some r
      | none => match aggBin P o t v u with
        | some r => some r
        | none => ifBin P o t y v u
    | _, _ => none
def quiet2_convert (P : Program) (ts : Tmps) (M : Mem) (src : TypeId) (dst : TypeId) (x : Operand) : Option (AV × List PE) :=
  match evalOp ts x, P.underlying dst, P.underlying src with
    | some v, some .string, some (.slice el) => match P.underlying el with
      | some (.int .u8) => bytesStr M v
      | _ => none
    | _, _, _ => none
def quiet2_index (P : Program) (ts : Tmps) (_M : Mem) (t : TypeId) (x : Operand) (i : Operand) : Option (AV × List PE) :=
  match evalOp ts x, evalOp ts i, P.underlying t with
    | some (.strT t n), some (.int _ e), some .string => some (.int .u8 (mkSel t e 0), inRow e n)
    | _, _, _ => none
def quiet2_slice (P : Program) (ts : Tmps) (_M : Mem) (a0 : TypeId) (a1 : Operand) (a2 : Option Operand) (a3 : Option Operand) (a4 : Option Operand) : Option (AV × List PE) :=
  match a0, a1, a2, a3, a4 with
  | t, x, lo, hi, none => match evalOp ts x, P.underlying t, intOp ts lo, intOp ts hi with
    | some v, some (.slice el), some a, some h => match v with
      | .slice _ _ _ s _ => if tySize P el = some s then sliceSym v a h else none
      | _ => none
    | _, _, _, _ => none
  | _, _, _, _, _ => none
def quiet2_call (P : Program) (ts : Tmps) (_M : Mem) (a0 : Call) : Option (AV × List PE) :=
  match a0 with
  | { callee := .builtin .len, args, argTypes } => match args.toList, argTypes.toList with
    | [x], [t] => match evalOp ts x, P.underlying t with
      | some (.strT _ n), some .string => some (.int .i64 n, [])
      | some .capN, some (.slice _) => some (.int .i64 (.lit 0), [])
      | _, _ => none
    | _, _ => none
  | _ => none
def quiet2F (P : Program) (ts : Tmps) (M : Mem) (o : Op) : Option (AV × List PE) :=
  match o with
  | .lookup t x i ok => quiet2_lookup P ts M t x i ok
  | .binOp o t x y x4 => quiet2_binOp P ts M o t x y x4
  | .convert src dst x => quiet2_convert P ts M src dst x
  | .index t x i => quiet2_index P ts M t x i
  | .slice a0 a1 a2 a3 a4 => quiet2_slice P ts M a0 a1 a2 a3 a4
  | .call a0 => quiet2_call P ts M a0
  | _ => none
theorem quiet2F_eq (P : Program) (ts : Tmps) (M : Mem) (o : Op) : quiet2F P ts M o = quiet2 P ts M o := by
  cases o with
  | lookup => rfl
  | binOp => rfl
  | convert => rfl
  | index => rfl
  | slice t x a b m => cases m <;> rfl
  | call c =>
    obtain ⟨f, l, m⟩ := c
    cases f with
    | builtin b => cases b <;> rfl
    | _ => rfl
  | _ => rfl
def quiet3_binOp (_P : Program) (ts : Tmps) (o : BinOp) (_x1 : TypeId) (x : Operand) (y : Operand) (_x4 : TypeId) : Option (AV × List PE) :=
  match (evalOp ts x).bind AV.code, (evalOp ts y).bind AV.code with
    | some a, some b => match o with
      | .eql => some (.bool (mkBin .eq a b), [])
      | .neq => some (.bool (mkBin .ne a b), [])
      | .add => some (mkStr (mkS 2 a b (.lit 0)), [.tt (mkBin .le (mkAdd (mkLen a) (mkLen b)) (.lit 1000000))])
      | _ => none
    | _, _ => none
def quiet3_index (P : Program) (ts : Tmps) (t : TypeId) (x : Operand) (i : Operand) : Option (AV × List PE) :=
  match (evalOp ts x).bind AV.code, evalOp ts i, P.underlying t with
    | some c, some (.int _ e), some .string => some (.int .u8 (mkS 4 c e (.lit 0)), inRow e (mkLen c))
    | _, _, _ => none
def quiet3_slice (P : Program) (ts : Tmps) (a0 : TypeId) (a1 : Operand) (a2 : Option Operand) (a3 : Option Operand) (a4 : Option Operand) : Option (AV × List PE) :=
  match a0, a1, a2, a3, a4 with
  | t, x, lo, hi, none => match evalOp ts x, P.underlying t, intOp ts lo, intOp ts hi with
    | some v, some .string, some a, some h => sliceStr v a h
    | _, _, _, _ => none
  | _, _, _, _, _ => none
def quiet3_call (P : Program) (ts : Tmps) (a0 : Call) : Option (AV × List PE) :=
  match a0 with
  | { callee := .builtin .len, args, argTypes } => match args.toList, argTypes.toList with
    | [x], [t] => match (evalOp ts x).bind AV.code, P.underlying t with
      | some c, some .string => some (.int .i64 (mkLen c), [])
      | _, _ => none
    | _, _ => none
  | _ => none
def quiet3F (P : Program) (ts : Tmps) (o : Op) : Option (AV × List PE) :=
  match o with
  | .binOp o x1 x y x4 => quiet3_binOp P ts o x1 x y x4
  | .index t x i => quiet3_index P ts t x i
  | .slice a0 a1 a2 a3 a4 => quiet3_slice P ts a0 a1 a2 a3 a4
  | .call a0 => quiet3_call P ts a0
  | _ => none
theorem quiet3F_eq (P : Program) (ts : Tmps) (o : Op) : quiet3F P ts o = quiet3 P ts o := by
  cases o with
  | binOp => rfl
  | index => rfl
  | slice t x a b m => cases m <;> rfl
  | call c =>
    obtain ⟨f, l, m⟩ := c
    cases f with
    | builtin b => cases b <;> rfl
    | _ => rfl
  | _ => rfl

/-- Sums that wrap. -/
def quietW (ts : Tmps) (o : Op) : Option (AV × List PE) :=
  match o with
  | .binOp .add _ x y _ => match evalOp ts x, evalOp ts y with
    | some (.int k a), some (.int k' b) => if k = k' then some (.int k (mkWrap k (mkAdd a b)), []) else none
    | _, _ => none
  | .binOp .sub _ x y _ => match evalOp ts x, evalOp ts y with
    | some (.int k a), some (.int k' b) => if k = k' then some (.int k (mkWrap k (mkSub a b)), []) else none
    | _, _ => none
  | .binOp .mul _ x y _ => match evalOp ts x, evalOp ts y with
    | some (.int k a), some (.int k' b) => if k = k' then some (.int k (mkWrap k (mkBin .mul a b)), []) else none
    | _, _ => none
  | _ => none
def quiet (P : Program) (kn : Kn) (ts : Tmps) (M : Mem) (o : Op) : Option (AV × List PE) :=
  match (if kn.wrp then quietW ts o else none) with
  | some r => some r
  | none => match quiet1F P kn ts M o with
  | some r => some r
  | none => match quiet2F P ts M o with
    | some r => some r
    | none => quiet3F P ts o

/-! ### Operations that make or write memory -/

/-- A new block: its cells as rows, if they are all integers and bools, else as they are. -/
def rowsOf (ks : List CK) (n : Nat) (vs : List AV) : Option E :=
  match n with
  | 0 => if vs.isEmpty then some .zt else none
  | m + 1 => match rowsOf ks m (vs.take (m * ks.length)) with
    | some t => updRow ks t (.lit m) 0 (vs.drop (m * ks.length))
    | none => none

def newBlk (s : St) (b : Blk) : St := { s with mem := (s.nb, b) :: s.mem, nb := s.nb + 1 }

def sliceBlk (zs : List AV) (n : Nat) (vs : List AV) : Blk :=
  match kindsOf zs with
  | some ks => if ks.isEmpty then .cells vs true else match rowsOf ks n vs with
    | some t => .rows ks t (.lit n) true false
    | none => .cells vs true
  | none => .cells vs true

def repl (n : Nat) (zs : List AV) : List AV :=
  match n with
  | 0 => []
  | n + 1 => zs ++ repl n zs

def E.toBt : E → Option BT
  | .zt => some .nil
  | .upd t (.lit (.ofNat x)) c (.lit y) => match t.toBt with
    | some b => BT.set 64 b x c y
    | none => none
  | _ => none
/-- At row 16 a table that is written out becomes a tree. -/
def thick (t r : E) : E := match r with
  | .lit (.ofNat 16) => match t.toBt with
    | some b => .bt b
    | none => t
  | _ => t

/-- The table behind an append of m rows u, from row lo on, to n rows t: written out where m is small. -/
def catRows (ks : List CK) (t n u : E) (lo : Int) : Nat → Nat → Option E
  | _, 0 => some t
  | i, m + 1 => match rowCells ks u (.lit (lo + i)) 0 ks.length with
    | some vs => match updRow ks (thick t (mkAdd n (.lit i))) (mkAdd n (.lit i)) 0 vs with
      | some t' => catRows ks t' n u lo (i + 1) m
      | none => none
    | none => none

/-- The appended rows: table, the first, number. -/
def srcRows (M : Mem) (sz : Nat) (ks : List CK) (y : AV) : Option (E × Int × E × List PE) :=
  match y with
  | .nilslice | .cap0 | .capN | .empty => some (.zt, 0, .lit 0, [])
  | .slice b (.lit lo) m s2 _ => match get M b with
    | some (.rows ks2 u m2 _ _) =>
      if ks = ks2 ∧ s2 = sz then (if lo = 0 then some (u, 0, m, if m = m2 then [] else [.tt (mkBin .le m m2)])
        else match m with
          | .lit mm => if 0 ≤ lo ∧ 0 ≤ mm then some (u, lo, m, [.tt (mkBin .le (.lit (lo + mm)) m2)]) else none
          | m => some (.sh u (.lit lo), 0, m, [.tt (mkBin .le (mkAdd (.lit lo) m) m2)])) else none
    | _ => none
  | .slice b lo m s2 _ => match get M b with
    | some (.rows ks2 u m2 _ _) => if ks = ks2 ∧ s2 = sz then some (.sh u lo, 0, m, [.tt (mkBin .le (mkAdd lo m) m2)]) else none
    | _ => none
  | _ => none

def AV.other (b : Nat) : AV → Bool
  | .slice b2 _ _ _ _ => b != b2
  | .asl b2 _ _ _ => b != b2
  | _ => true

/-- The slice that is appended to: its block, table, number of rows; may it be nil? -/
def dstRows (M : Mem) (sz : Nat) (ks : List CK) (x y : AV) : Option (Option Nat × E × E × Bool × List PE) :=
  match x with
  | .nilslice | .cap0 | .capN => some (none, .zt, .lit 0, true, [])
  | .slice b (.lit 0) n s1 nl => match get M b with
    | some (.rows ks1 t n1 true _) =>
      if ks = ks1 ∧ s1 = sz ∧ y.other b = true then some (some b, t, n, nl, if n = n1 then [] else [.tt (mkBin .le n n1)]) else none
    | _ => none
  | _ => none

def joinRows (ks : List CK) (t n u : E) (lo : Int) (m : E) : Option E :=
  match n, m with
  | .lit 0, .lit mm => if lo = 0 then some u else if 0 ≤ mm ∧ mm ≤ 100 then catRows ks .zt (.lit 0) u lo 0 mm.toNat else none
  | .lit 0, _ => if lo = 0 then some u else none
  | n, .lit mm => if 0 ≤ mm ∧ mm ≤ 8 then catRows ks t n u lo 0 mm.toNat else none
  | n, _ => if lo = 0 then some (.cat t n u) else none

def maybeNil (nl : Bool) : E → Bool
  | .lit mm => nl && decide (mm ≤ 0)
  | _ => nl

def dropBlk (b : Option Nat) (M : Mem) : Mem :=
  match b with
  | some b => del b M
  | none => M

def appendTo (P : Program) (s : St) (el : TypeId) (x y : AV) : Option (AV × St × List PE) :=
  match zeroAV P el, tySize P el, (P.info? el).map (·.bytes) with
  | some z, some sz, some bytes => match kindsOf z.cells with
    | some ks =>
      if sz = ks.length ∧ ks.length ≠ 0 ∧ bytes ≤ 1000 ∧ bytes ≠ 0 then
        match srcRows s.mem sz ks y, dstRows s.mem sz ks x y with
        | some (u, lo, m, p1), some (b, t, n, nl, p2) => match joinRows ks t n u lo m with
          | some t' =>
            let nl' := maybeNil nl m
            some (.slice s.nb (.lit 0) (mkAdd n m) sz nl',
              { s with mem := (s.nb, .rows ks t' (mkAdd n m) true nl') :: dropBlk b s.mem, nb := s.nb + 1 },
              p1 ++ p2 ++ [.tt (mkBin .le (mkAdd n m) (.lit 1000000))])
          | none => none
        | _, _ => none
      else none
    | none => none
  | _, _, _ => none

/-- The appended cells, where elements are no rows. -/
def srcCells (M : Mem) (sz : Nat) (y : AV) : Option (List AV) :=
  match y with
  | .nilslice | .cap0 | .empty => some []
  | .slice b (.lit lo) (.lit m) s _ => match get M b with
    | some (.cells l _) => if s = sz ∧ 0 ≤ lo ∧ 0 ≤ m ∧ (lo + m).toNat * sz ≤ l.length then some ((l.drop (lo.toNat * sz)).take (m.toNat * sz)) else none
    | _ => none
  | .asl b k n s => match get M b with
    | some (.cells l _) => if s = sz ∧ k + n * sz ≤ l.length then some ((l.drop k).take (n * sz)) else none
    | _ => none
  | _ => none
def dstCells (M : Mem) (sz : Nat) (x y : AV) : Option (Option Nat × List AV × Nat) :=
  match x with
  | .nilslice | .cap0 => some (none, [], 0)
  | .slice b (.lit 0) (.lit n) s _ => match get M b with
    | some (.cells l true) => if s = sz ∧ 0 ≤ n ∧ n.toNat * sz ≤ l.length ∧ y.other b = true then some (some b, l.take (n.toNat * sz), n.toNat) else none
    | _ => none
  | _ => none
/-- An append of cells as they are. -/
def appendCells (P : Program) (s : St) (el : TypeId) (x y : AV) : Option (AV × St × List PE) :=
  match zeroAV P el, tySize P el, (P.info? el).map (·.bytes) with
  | some z, some sz, some bytes =>
    if bytes ≤ 10000 ∧ bytes ≠ 0 ∧ sz ≠ 0 ∧ z.cells.length = sz then match srcCells s.mem sz y, dstCells s.mem sz x y with
      | some u, some (b, l, n) =>
        if u.isEmpty then some (x, s, [])
        else if n + u.length / sz ≤ 1000 ∧ u.all AV.one = true then
          some (.slice s.nb (.lit 0) (.lit ((n + u.length / sz : Nat) : Int)) sz false, { s with mem := (s.nb, .cells (l ++ u) true) :: dropBlk b s.mem, nb := s.nb + 1 }, [])
        else none
      | _, _ => none
    else none
  | _, _, _ => none
/-- An append of so many zeros to nothing. -/
def appendZeros (P : Program) (s : St) (el : TypeId) (x : AV) (e : E) : Option (AV × St × List PE) :=
  match x with
  | .nilslice | .cap0 => match zeroAV P el, tySize P el, (P.info? el).map (·.bytes) with
    | some z, some sz, some bytes => match kindsOf z.cells with
      | some ks =>
        if sz = ks.length ∧ ks.length ≠ 0 ∧ bytes ≤ 1000 ∧ bytes ≠ 0 ∧ z.cells.all AV.isZero then
          some (.slice s.nb (.lit 0) e sz (maybeNil true e), { s with mem := (s.nb, .rows ks .zt e true (maybeNil true e)) :: s.mem, nb := s.nb + 1 },
            [.tt (mkBin .le (.lit 0) e), .tt (mkBin .le e (.lit 1000000))])
        else none
      | none => none
    | _, _, _ => none
  | _ => none

/-- The same, where elements are no rows. -/
def appendZeroCells (P : Program) (s : St) (el : TypeId) (x : AV) (e : E) : Option (AV × St × List PE) :=
  match x, e with
  | .nilslice, .lit k => match zeroAV P el, tySize P el, (P.info? el).map (·.bytes) with
    | some z, some sz, some bytes =>
      if 1 ≤ k ∧ k ≤ 100 ∧ sz ≠ 0 ∧ z.cells.length = sz ∧ bytes ≤ 1000 ∧ bytes ≠ 0 then
        some (.slice s.nb (.lit 0) (.lit k) sz false, { s with mem := (s.nb, .cells (repl k.toNat z.cells) true) :: s.mem, nb := s.nb + 1 }, [])
      else none
    | _, _, _ => none
  | _, _ => none

/-- A slice of bytes turned to its own type. -/
def markBytes (P : Program) (s : St) (t : TypeId) (v : Option AV) : Option (AV × St × List PE) :=
  match v, P.underlying t with
  | some (.slice b lo n 1 false), some (.slice el) => match P.underlying el, get s.mem b with
    | some (.int .u8), some (.rows [.int .u8] t len true false) => some (.slice b lo n 1 false, { s with mem := put b (.rows [.int .u8] t len true false) s.mem }, [])
    | _, _ => none
  | _, _ => none
/-- Zeros laid over elements of an array. -/
def clearAt (M : Mem) (b k s : Nat) (zs : List AV) : Nat → Option (Mem × List PE)
  | 0 => some (M, [])
  | n + 1 => match clearAt M b k s zs n with
    | some (M, ps) => (storeAt M b (.lit 0) 0 (k + n * s) zs).map fun (M', qs) => (M', ps ++ qs)
    | none => none

def loud (P : Program) (kn : Kn) (s : St) (o : Op) : Option (AV × St × List PE) :=
  match o with
  | .makeMap _ none => some (.mref s.nb, newBlk s (.mp [] []), [])
  | .mapUpdate t x i y => match evalOp s.tmps x, evalOp s.tmps i, evalOp s.tmps y, P.underlying t with
    | some (.mref b), some k, some v, some (.map kt _) => updateAV P s kt b k v
    | _, _, _, _ => none
  | .alloc t => if (bigOf kn.bigs t).isSome then (match bigOf kn.bigs t with
      | some b => match zeroBig P b with
        | some (l, m) => some (.ptr s.nb (.lit 0) 0 0, newBlk s (.big l b.ks .zt b.n m true), [])
        | none => none
      | none => none)
    else match zeroAV P t with
    | some z => some (.ptr s.nb (.lit 0) 0 0, newBlk s (.cells z.cells true), [])
    | none => none
  | .box _ x => match evalOp s.tmps x with
    | some (.big l ks t n m) => if l.all AV.one ∧ m.all AV.one then some (.ptr s.nb (.lit 0) 0 0, newBlk s (.big l ks t n m true), []) else none
    | some v => if v.cells.all AV.one then some (.ptr s.nb (.lit 0) 0 0, newBlk s (.cells v.cells true), []) else none
    | none => none
  | .store t a x => match evalOp s.tmps a, evalOp s.tmps x, tySize P t with
    | some (.ptr b r z k), some v, some n => if v.cells.length = n then
        (storeAt s.mem b r z k v.cells).map fun (M, ps) => (.undef, { s with mem := M }, ps)
      else none
    | _, _, _ => none
  | .buildSlice t n parts => match P.underlying t with
    | some (.slice el) => match zeroAV P el, tySize P el, evalParts s.tmps parts.toList with
      | some z, some sz, some ps =>
        if z.cells.length = sz ∧ n * sz ≤ 1000 then
          match fillAV (fun i => some (i * sz, sz)) (repl n z.cells) ps with
          | some vs => if vs.all AV.one then some (.slice s.nb (.lit 0) (.lit n) sz false, newBlk s (sliceBlk z.cells n vs), []) else none
          | none => none
        else none
      | _, _, _ => none
    | _ => none
  | .makeSlice t l c => match P.underlying t, evalOp s.tmps l, evalOp s.tmps c with
    | some (.slice el), some (.int _ (.lit a)), some (.int _ (.lit b)) => match zeroAV P el, tySize P el, (P.info? el).map (·.bytes) with
      | some z, some sz, some bytes =>
        if 0 ≤ a ∧ a = b ∧ a ≤ 70000 ∧ bytes ≤ 1000 ∧ z.cells.length = sz then match kindsOf z.cells with
          | some ks => if z.cells.all AV.isZero then some (.slice s.nb (.lit 0) (.lit a) sz false, newBlk s (.rows ks .zt (.lit a) true false), []) else none
          | none => if a ≤ 100 then some (.slice s.nb (.lit 0) (.lit a) sz false, newBlk s (.cells (repl a.toNat z.cells) true), []) else none
        else none
      | _, _, _ => none
    | _, _, _ => none
  | .convert src dst x => if src = dst then markBytes P s dst (evalOp s.tmps x) else match (evalOp s.tmps x).bind AV.asTab, P.underlying dst, P.underlying src with
    | some (t, n), some (.slice el), some .string => match P.underlying el, tySize P el with
      | some (.int .u8), some 1 => some (.slice s.nb (.lit 0) n 1 false, newBlk s (.rows [.int .u8] t n true false), [.tt (mkBin .le n (.lit 1000000))])
      | _, _ => none
    | _, _, _ => none
  | .call { callee := .builtin .clear, args, argTypes } => match args.toList, argTypes.toList with
    | [x], [t] => match evalOp s.tmps x, P.underlying t with
      | some (.asl b k n z), some (.slice el) => match zeroAV P el, tySize P el with
        | some zv, some sz => if sz = z ∧ zv.cells.length = sz then (clearAt s.mem b k z zv.cells n).map fun (M, ps) => (.tup [], { s with mem := M }, ps) else none
        | _, _ => none
      | _, _ => none
    | _, _ => none
  | .call { callee := .builtin .append, args, argTypes } => match args.toList, argTypes.toList with
    | [x, y], [t, u] => match evalOp s.tmps x, evalOp s.tmps y, P.underlying t, P.underlying u with
      | some v, some (.int _ e), some (.slice el), some (.int _) => match appendZeros P s el v e with
        | some r => some r
        | none => appendZeroCells P s el v e
      | some v, some w, some (.slice el), some (.slice _) => match zeroAV P el with
        | some z => match kindsOf z.cells with
          | some _ => appendTo P s el v w
          | none => appendCells P s el v w
        | none => none
      | _, _, _, _ => none
    | _, _ => none
  | _ => none
def loud_makeMap (_P : Program) (_kn : Kn) (s : St) (a0 : TypeId) (a1 : Option Operand) : Option (AV × St × List PE) :=
  match a0, a1 with
  | _, none => some (.mref s.nb, newBlk s (.mp [] []), [])
  | _, _ => none
def loud_mapUpdate (P : Program) (_kn : Kn) (s : St) (t : TypeId) (x : Operand) (i : Operand) (y : Operand) : Option (AV × St × List PE) :=
  match evalOp s.tmps x, evalOp s.tmps i, evalOp s.tmps y, P.underlying t with
    | some (.mref b), some k, some v, some (.map kt _) => updateAV P s kt b k v
    | _, _, _, _ => none
def loud_alloc (P : Program) (kn : Kn) (s : St) (t : TypeId) : Option (AV × St × List PE) :=
  if (bigOf kn.bigs t).isSome then (match bigOf kn.bigs t with
      | some b => match zeroBig P b with
        | some (l, m) => some (.ptr s.nb (.lit 0) 0 0, newBlk s (.big l b.ks .zt b.n m true), [])
        | none => none
      | none => none)
    else match zeroAV P t with
    | some z => some (.ptr s.nb (.lit 0) 0 0, newBlk s (.cells z.cells true), [])
    | none => none
def loud_box (_P : Program) (_kn : Kn) (s : St) (_x0 : TypeId) (x : Operand) : Option (AV × St × List PE) :=
  match evalOp s.tmps x with
    | some (.big l ks t n m) => if l.all AV.one ∧ m.all AV.one then some (.ptr s.nb (.lit 0) 0 0, newBlk s (.big l ks t n m true), []) else none
    | some v => if v.cells.all AV.one then some (.ptr s.nb (.lit 0) 0 0, newBlk s (.cells v.cells true), []) else none
    | none => none
def loud_store (P : Program) (_kn : Kn) (s : St) (t : TypeId) (a : Operand) (x : Operand) : Option (AV × St × List PE) :=
  match evalOp s.tmps a, evalOp s.tmps x, tySize P t with
    | some (.ptr b r z k), some v, some n => if v.cells.length = n then
        (storeAt s.mem b r z k v.cells).map fun (M, ps) => (.undef, { s with mem := M }, ps)
      else none
    | _, _, _ => none
def loud_buildSlice (P : Program) (_kn : Kn) (s : St) (t : TypeId) (n : Nat) (parts : Array (Nat × Operand)) : Option (AV × St × List PE) :=
  match P.underlying t with
    | some (.slice el) => match zeroAV P el, tySize P el, evalParts s.tmps parts.toList with
      | some z, some sz, some ps =>
        if z.cells.length = sz ∧ n * sz ≤ 1000 then
          match fillAV (fun i => some (i * sz, sz)) (repl n z.cells) ps with
          | some vs => if vs.all AV.one then some (.slice s.nb (.lit 0) (.lit n) sz false, newBlk s (sliceBlk z.cells n vs), []) else none
          | none => none
        else none
      | _, _, _ => none
    | _ => none
def loud_makeSlice (P : Program) (_kn : Kn) (s : St) (t : TypeId) (l : Operand) (c : Operand) : Option (AV × St × List PE) :=
  match P.underlying t, evalOp s.tmps l, evalOp s.tmps c with
    | some (.slice el), some (.int _ (.lit a)), some (.int _ (.lit b)) => match zeroAV P el, tySize P el, (P.info? el).map (·.bytes) with
      | some z, some sz, some bytes =>
        if 0 ≤ a ∧ a = b ∧ a ≤ 70000 ∧ bytes ≤ 1000 ∧ z.cells.length = sz then match kindsOf z.cells with
          | some ks => if z.cells.all AV.isZero then some (.slice s.nb (.lit 0) (.lit a) sz false, newBlk s (.rows ks .zt (.lit a) true false), []) else none
          | none => if a ≤ 100 then some (.slice s.nb (.lit 0) (.lit a) sz false, newBlk s (.cells (repl a.toNat z.cells) true), []) else none
        else none
      | _, _, _ => none
    | _, _, _ => none
def loud_convert (P : Program) (_kn : Kn) (s : St) (src : TypeId) (dst : TypeId) (x : Operand) : Option (AV × St × List PE) :=
  if src = dst then markBytes P s dst (evalOp s.tmps x) else match (evalOp s.tmps x).bind AV.asTab, P.underlying dst, P.underlying src with
    | some (t, n), some (.slice el), some .string => match P.underlying el, tySize P el with
      | some (.int .u8), some 1 => some (.slice s.nb (.lit 0) n 1 false, newBlk s (.rows [.int .u8] t n true false), [.tt (mkBin .le n (.lit 1000000))])
      | _, _ => none
    | _, _, _ => none
def loud_call (P : Program) (_kn : Kn) (s : St) (a0 : Call) : Option (AV × St × List PE) :=
  match a0 with
  | { callee := .builtin .clear, args, argTypes } => match args.toList, argTypes.toList with
    | [x], [t] => match evalOp s.tmps x, P.underlying t with
      | some (.asl b k n z), some (.slice el) => match zeroAV P el, tySize P el with
        | some zv, some sz => if sz = z ∧ zv.cells.length = sz then (clearAt s.mem b k z zv.cells n).map fun (M, ps) => (.tup [], { s with mem := M }, ps) else none
        | _, _ => none
      | _, _ => none
    | _, _ => none
  | { callee := .builtin .append, args, argTypes } => match args.toList, argTypes.toList with
    | [x, y], [t, u] => match evalOp s.tmps x, evalOp s.tmps y, P.underlying t, P.underlying u with
      | some v, some (.int _ e), some (.slice el), some (.int _) => match appendZeros P s el v e with
        | some r => some r
        | none => appendZeroCells P s el v e
      | some v, some w, some (.slice el), some (.slice _) => match zeroAV P el with
        | some z => match kindsOf z.cells with
          | some _ => appendTo P s el v w
          | none => appendCells P s el v w
        | none => none
      | _, _, _, _ => none
    | _, _ => none
  | _ => none
def loudF (P : Program) (kn : Kn) (s : St) (o : Op) : Option (AV × St × List PE) :=
  match o with
  | .makeMap a0 a1 => loud_makeMap P kn s a0 a1
  | .mapUpdate t x i y => loud_mapUpdate P kn s t x i y
  | .alloc t => loud_alloc P kn s t
  | .box x0 x => loud_box P kn s x0 x
  | .store t a x => loud_store P kn s t a x
  | .buildSlice t n parts => loud_buildSlice P kn s t n parts
  | .makeSlice t l c => loud_makeSlice P kn s t l c
  | .convert src dst x => loud_convert P kn s src dst x
  | .call a0 => loud_call P kn s a0
  | _ => none
theorem loudF_eq (P : Program) (kn : Kn) (s : St) (o : Op) : loudF P kn s o = loud P kn s o := by
  cases o with
  | makeMap t r => cases r <;> rfl
  | mapUpdate => rfl
  | alloc => rfl
  | box => rfl
  | store => rfl
  | buildSlice => rfl
  | makeSlice => rfl
  | convert => rfl
  | call c =>
    obtain ⟨f, l, m⟩ := c
    cases f with
    | builtin b => cases b <;> rfl
    | _ => rfl
  | _ => rfl

end Go.Sx
