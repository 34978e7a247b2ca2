/-
  Contracts of the functions of account, and what is said at their loops. Definitions alone; nothing here speaks of a program.
-/
import Derived.Test.YtafipmoglaepcaaSxTidy
namespace Go.Proofs.Ytafipmoglaepcaa.Ac
open Go Go.Sx

/-! fn 0 open T n i · fn 1 add T n i d · fn 2 tight T n i best · fn 3 measure T n i · 4 err T n i · 5 val T n i c · 6 tight T n i · 7 head T n i · 8 chE 9 chT 10 giE 11 giT 12 slE 13 slT T n i d · 14 cdE 15 cdN 16 cdT 17 cdR T n p l ·
18 clE 19 clN 20 clT T n i · 21 mvE 22 mvT T n x p · 23 doE 24 doN 25 doT 26 doR T n A · 27 fc T n k · 28 the table after k calls, 29 how many rows it has: l L k · 30 saved T n · 31 the path as a table T n i · 32 its length · 33 trimmed T n · 34 Over's table T n k · 35 its length T n k · 36 subP T n i d -/
def fs : Nat → Option Bool
  | 1 | 9 | 11 | 13 | 16 | 20 | 22 | 25 | 28 | 30 | 31 | 34 | 36 | 40 | 42 | 43 | 46 | 48 | 49 | 51 | 53 | 55 | 56 | 57 => some true
  | 0 | 2 | 3 | 4 | 5 | 6 | 7 | 8 | 10 | 12 | 14 | 15 | 17 | 18 | 19 | 21 | 23 | 24 | 26 | 27 | 29 | 32 | 33 | 35 | 37 | 38 | 39 | 41 | 44 | 45 | 47 | 50 | 52 | 54 | 58 => some false
  | _ => none

def v (i : Nat) : E := .var i
def i64 (e : E) : AV := .int .i64 e
def nodeK : List CK := [.int .i64, .int .i64, .int .i64, .int .i64, .bool, .int .i64]
/-- Budgets at block b, its nodes at block c. -/
def budB (c : Nat) (n : E) : Blk := .cells [.bool (.lit 1), .slice c (.lit 0) n 6 false] true
def rowsB (t n : E) : Blk := .rows nodeK t n true false
def budM (t n : E) : Mem := [(0, budB 1 n), (1, rowsB t n)]
def pB : AV := .ptr 0 (.lit 0) 0 0
def opn (t n i : E) : E := .fn 0 t n i (.lit 0)

/-- open: exactly. -/
def cOpen : Contract where
  fn := 49
  sorts := [true, false, false]
  args := [pB, i64 (v 2)]
  mem := budM (v 0) (v 1)
  nb := 2
  pre := []
  outs := [false]
  res := .bool (v 3)
  mods := budM (v 0) (v 1)
  fresh := []
  post := [.same (v 3) (opn (v 0) (v 1) (v 2))]
def xOpen (P : Program) : Cx := { P, cs := [], anns := [] }

/-- The walk up a path: the loop of path$1, in function f at its range number x; b5: the cell of its own number; b4: of the budgets; l: the loop's block; d: the block of its deferred calls; ts: what the body needs. -/
def annPath (b5 l d f x nt : Nat) (ts : Tmps) (mem : Mem) (sorts : List Bool) (q : Nat) (inv : List PE) (meas : E) (nbl : Nat := 0) : Ann where
  fn := 75
  bid := 0
  keep := [0, 1, 2]
  tmps := []
  drop := [b5, l] ++ keys mem
  mem := [(b5, .cells [i64 (v q)] true), (l, .loop .ready none f x nt ts d)] ++ mem
  sorts := sorts
  nbl := nbl
  inv := inv
  meas := meas
def measE (t n i : E) : E := .fn 3 t n i (.lit 0)

def fn3 (j : Nat) (a b c : E) : E := .fn j a b c (.lit 0)

/-- add: its own sum and peaks. -/
def cAdd : Contract where
  fn := 46
  sorts := [true, false, false, false]
  args := [pB, i64 (v 2), i64 (v 3)]
  mem := budM (v 0) (v 1)
  nb := 2
  pre := [.pr 0 [v 0, v 1], .pr 1 [v 0, v 1, v 2, v 3]]
  outs := [true]
  res := .tup []
  mods := budM (v 4) (v 1)
  fresh := []
  post := [.same (v 4) (.fn 1 (v 0) (v 1) (v 2) (v 3))]
def aAdd : Ann := annPath 5 7 6 46 0 40 [(3, .ptr 2 (.lit 0) 0 0), (5, .ptr 3 (.lit 0) 0 0)] [(1, rowsB (v 4) (v 1))] [true, false] 5 [.pr 2 [v 4, v 0, v 1, v 2, v 3, v 5]] (measE (v 0) (v 1) (v 5))
def xAdd (P : Program) : Cx := { P, cs := [cOpen], anns := [aAdd] }

/-- A function of budgets and a number that leaves all as it was: its results. -/
def cAsk (fn : FuncId) (rs : List E) : Contract where
  fn := fn
  sorts := [true, false, false]
  args := [pB, i64 (v 2)]
  mem := budM (v 0) (v 1)
  nb := 2
  pre := [.pr 3 [v 0, v 1]]
  outs := rs.map fun _ => false
  res := .tup ((List.range rs.length).map fun k => i64 (v (3 + k)))
  mods := budM (v 0) (v 1)
  fresh := []
  post := (List.range rs.length).map fun k => .same (v (3 + k)) (rs[k]?.getD .zt)
def cTight : Contract := cAsk 34 [fn3 6 (v 0) (v 1) (v 2), fn3 4 (v 0) (v 1) (v 2)]
def aTight : Ann := annPath 6 8 7 34 0 30 [(2, .ptr 2 (.lit 0) 0 0), (7, .ptr 4 (.lit 0) 0 0)] [(4, .cells [i64 (v 5)] true)] [false, false] 4
  [.same (.fn 2 (v 0) (v 1) (v 4) (v 5)) (.fn 2 (v 0) (v 1) (v 2) (v 2)), .tt (opn (v 0) (v 1) (v 5))] (measE (v 0) (v 1) (v 4))
def xTight (P : Program) : Cx := { P, cs := [cOpen], anns := [aTight] }
def cHead : Contract := cAsk 17 [fn3 7 (v 0) (v 1) (v 2), fn3 4 (v 0) (v 1) (v 2)]
def xHead (P : Program) : Cx := { P, cs := [cTight, cOpen], anns := [] }
def cUsed : Contract := cAsk 14 [.fn 5 (v 0) (v 1) (v 2) (.lit 2), .fn 5 (v 0) (v 1) (v 2) (.lit 5), fn3 4 (v 0) (v 1) (v 2)]
def xOpens (P : Program) : Cx := { P, cs := [cOpen], anns := [] }
def cPeak : Contract := cAsk 15 [.fn 5 (v 0) (v 1) (v 2) (.lit 3), fn3 4 (v 0) (v 1) (v 2)]

/-- A function that turns budgets, by two numbers: the error, the table, how many rows. -/
def cTurn (fn : FuncId) (e t : E) : Contract where
  fn := fn
  sorts := [true, false, false, false]
  args := [pB, i64 (v 2), i64 (v 3)]
  mem := budM (v 0) (v 1)
  nb := 2
  pre := [.pr 3 [v 0, v 1]]
  outs := [true, false]
  res := i64 (v 5)
  mods := budM (v 4) (v 1)
  fresh := []
  post := [.same (v 4) t, .same (v 5) e]
def fn4 (j : Nat) : E := .fn j (v 0) (v 1) (v 2) (v 3)
def cCharge : Contract := cTurn 20 (fn4 8) (fn4 9)
def xCharge (P : Program) : Cx := { P, cs := [cHead, cAdd, cOpen], anns := [] }
def cGive : Contract := cTurn 22 (fn4 10) (fn4 11)
def cLimit : Contract := cTurn 40 (fn4 12) (fn4 13)

/-- slices.IndexFunc, for a closed node. -/
def cIndex : Contract where
  fn := 72
  sorts := [true, false]
  args := [.slice 0 (.lit 0) (v 1) 6 false, .func 73 []]
  mem := [(0, rowsB (v 0) (v 1))]
  nb := 1
  pre := [.pr 3 [v 0, v 1]]
  outs := [false]
  res := i64 (v 2)
  mods := [(0, rowsB (v 0) (v 1))]
  fresh := []
  post := [.same (v 2) (fn3 27 (v 0) (v 1) (.lit 0))]
def eLe (a b : E) : PE := .tt (.bin .le a b)
/-- A loop that counts: its number k in temporary t, up to n. -/
def annCount (fn bid t : Nat) (keep : List Nat) (more : Tmps) (mem : Mem) (sorts : List Bool) (nbl : Nat) (k : Nat) (n : E) (inv : List PE) : Ann where
  fn := fn
  bid := bid
  keep := keep
  tmps := (t, i64 (v k)) :: more
  drop := keys mem
  mem := mem
  sorts := sorts
  nbl := nbl
  inv := eLe (.lit 0) (v k) :: eLe (v k) n :: inv
  meas := .bin .sub n (v k)
def aIndex : Ann := annCount 72 0 8 [7, 6, 4, 0, 1] [] [] [false] 0 2 (v 1) [.same (fn3 27 (v 0) (v 1) (v 2)) (fn3 27 (v 0) (v 1) (.lit 0))]
def xIndex (P : Program) : Cx := { P, cs := [], anns := [aIndex] }
def cChild : Contract where
  fn := 38
  sorts := [true, false, false, false]
  args := [pB, i64 (v 2), i64 (v 3)]
  mem := budM (v 0) (v 1)
  nb := 2
  pre := [.pr 3 [v 0, v 1]]
  outs := [true, false, false, false]
  res := .tup [i64 (v 6), i64 (v 7)]
  mods := [(0, budB 2 (v 5))]
  fresh := [(2, rowsB (v 4) (v 5))]
  post := [.same (v 4) (fn4 16), .same (v 5) (fn4 15), .same (v 6) (fn4 17), .same (v 7) (fn4 14)]
def xChild (P : Program) : Cx := { P, cs := [cIndex, cOpen], anns := [] }

/-- Save: the first five of each row. -/
def stateK : List CK := [.int .i64, .int .i64, .int .i64, .int .i64, .bool]
def rows5 (t n : E) (nl : Bool) : Blk := .rows stateK t n true nl
def cSave : Contract where
  fn := 16
  sorts := [true, false]
  args := [pB]
  mem := budM (v 0) (v 1)
  nb := 2
  pre := [.pr 3 [v 0, v 1]]
  outs := [true, false]
  res := .agg [.slice 2 (.lit 0) (v 3) 5 true]
  mods := budM (v 0) (v 1)
  fresh := [(2, rows5 (v 2) (v 3) true)]
  post := [.same (v 2) (fn3 30 (v 0) (v 1) (.lit 0)), .same (v 3) (v 1)]
def aSave : Ann := annCount 16 0 13 [12, 11, 3, 2, 0] [] [(3, .cells [.slice 4 (.lit 0) (v 3) 5 true] true), (4, rows5 (v 2) (v 3) true)] [true, false] 1 3 (v 1) [.same (v 2) (fn3 30 (v 0) (v 3) (.lit 0))]
def xSave (P : Program) : Cx := { P, cs := [cOpen], anns := [aSave] }
/-- Over: nil where none. -/
def intK : List CK := [.int .i64]
def rows1 (t n : E) (nl : Bool) : Blk := .rows intK t n true nl
def cOver : Contract where
  fn := 25
  sorts := [true, false]
  args := [pB]
  mem := budM (v 0) (v 1)
  nb := 2
  pre := [.pr 3 [v 0, v 1]]
  outs := [true, false]
  res := .tup [.slice 2 (.lit 0) (v 3) 1 true, i64 (.lit 0)]
  mods := budM (v 0) (v 1)
  fresh := [(2, rows1 (v 2) (v 3) true)]
  post := [.same (v 2) (fn3 34 (v 0) (v 1) (v 1)), .same (v 3) (fn3 35 (v 0) (v 1) (v 1))]
def aOver : Ann := annCount 25 0 17 [16, 15, 0] [(5, .slice 2 (.lit 0) (v 3) 1 true)] [(2, rows1 (v 2) (v 3) true)] [true, false, false] 1 4 (v 1)
  [.same (v 2) (fn3 34 (v 0) (v 1) (v 4)), .same (v 3) (fn3 35 (v 0) (v 1) (v 4))]
def xOver (P : Program) : Cx := { P, cs := [cOpen], anns := [aOver] }
/-- slices.Collect of a path. -/
def cCollect : Contract where
  fn := 47
  sorts := [true, false, false]
  args := [.func 75 [.ptr 2 (.lit 0) 0 0, .ptr 3 (.lit 0) 0 0]]
  mem := budM (v 0) (v 1) ++ [(2, .cells [pB] true), (3, .cells [i64 (v 2)] true)]
  nb := 4
  pre := [.pr 3 [v 0, v 1]]
  outs := [true, false, false]
  res := .slice 4 (.lit 0) (v 4) 1 true
  mods := budM (v 0) (v 1) ++ [(2, .cells [pB] true), (3, .cells [i64 (v 5)] true)]
  fresh := [(4, rows1 (v 3) (v 4) true)]
  post := [.same (v 3) (fn3 31 (v 0) (v 1) (v 2)), .same (v 4) (fn3 32 (v 0) (v 1) (v 2))]
def aCollect : Ann := annPath 3 6 5 76 0 13 [(2, .ptr 4 (.lit 0) 0 0)] [(4, .cells [.slice 7 (.lit 0) (v 4) 1 true] true), (7, rows1 (v 3) (v 4) true)] [true, false, false] 5 [.pr 6 [v 3, v 4, v 0, v 1, v 2, v 5]] (measE (v 0) (v 1) (v 5)) 1
def xCollect (P : Program) : Cx := { P, cs := [cOpen], anns := [aCollect] }
/-- slices.Contains of numbers. -/
def cContains : Contract where
  fn := 48
  sorts := [true, false, false]
  args := [.slice 0 (.lit 0) (v 1) 1 true, i64 (v 2)]
  mem := [(0, rows1 (v 0) (v 1) true)]
  nb := 1
  pre := [eLe (.lit 0) (v 1), eLe (v 1) (.lit 1000000)]
  outs := [false]
  res := .bool (v 3)
  mods := [(0, rows1 (v 0) (v 1) true)]
  fresh := []
  post := [.pr 4 [v 0, v 1, v 2, v 3]]
def aContains : Ann := annCount 77 0 8 [7, 6, 0, 1, 4] [] [] [false] 0 3 (v 1) [.pr 7 [v 0, v 3, v 2]]
def xContains (P : Program) : Cx := { P, cs := [], anns := [aContains] }
def cMove : Contract := cTurn 24 (fn4 21) (fn4 22)
def aMove1 : Ann := annPath 8 10 9 24 0 100 [(3, .ptr 2 (.lit 0) 0 0), (4, .ptr 3 (.lit 0) 0 0), (6, .ptr 4 (.lit 0) 0 0), (9, .ptr 6 (.lit 0) 0 0)] [] [false] 6 [.pr 8 [v 0, v 1, v 2, v 3, v 6]] (measE (v 0) (v 1) (v 6))
def parX : E := .sel (v 0) (v 2) 0
def allX : E := .sel (v 0) (v 2) 5
def aMove2 : Ann := annPath 16 18 17 24 1 100 [(3, .ptr 2 (.lit 0) 0 0), (4, .ptr 3 (.lit 0) 0 0), (6, .ptr 4 (.lit 0) 0 0), (9, .ptr 6 (.lit 0) 0 0), (11, .ptr 14 (.lit 0) 0 0)] [] [false] 11 [.pr 9 [v 0, v 1, v 3, parX, allX, v 11]] (measE (v 0) (v 1) (v 11))
def aMove3 : Ann := annPath 20 22 21 24 2 100 [(3, .ptr 2 (.lit 0) 0 0), (4, .ptr 3 (.lit 0) 0 0), (6, .ptr 4 (.lit 0) 0 0), (9, .ptr 6 (.lit 0) 0 0)] [(1, rowsB (v 13) (v 1))] [true, false] 14 [.pr 10 [v 13, v 0, v 1, parX, allX, v 14]] (measE (v 0) (v 1) (v 14))
def xMove (P : Program) : Cx := { P, cs := [cCollect, cContains, cAdd, cOpen], anns := [aMove1, aMove2, aMove3] }
/-- New. -/
def cNew : Contract where
  fn := 27
  sorts := [false]
  args := [i64 (v 0)]
  mem := []
  nb := 0
  pre := [eLe (.lit 0) (v 0), eLe (v 0) (.lit 4096)]
  outs := [true]
  res := .tup [pB, i64 (.lit 0)]
  mods := []
  fresh := budM (v 1) (.lit 1)
  post := [.same (v 1) (fn3 28 (v 0) .zt (.lit 0))]

/-- The walk below a node, in Close: each node is counted. -/
def closeM (c : E) : Mem := budM (v 0) (v 1) ++ [(2, .cells [pB] true), (3, .cells [i64 c] true), (4, .cells [.yld 6] true), (5, .cells [.func 81 [.ptr 4 (.lit 0) 0 0, .ptr 2 (.lit 0) 0 0, .ptr 5 (.lit 0) 0 0]] true),
  (6, .loop .ready none 39 0 71 [(6, .ptr 3 (.lit 0) 0 0)] 7), (7, .dfr true)]
def cWalk (m : Nat) : Contract where
  fn := 81
  sorts := [true, false, false, false]
  args := [i64 (v 2), .ptr 4 (.lit 0) 0 0, .ptr 2 (.lit 0) 0 0, .ptr 5 (.lit 0) 0 0]
  mem := closeM (v 3)
  nb := 8
  pre := [.pr 3 [v 0, v 1], .tt (opn (v 0) (v 1) (v 2)), eLe (.lit 0) (v 3), eLe (.bin .add (v 3) (fn3 37 (v 0) (v 1) (v 2))) (.lit 1000), .pr m [fn3 38 (v 0) (v 1) (v 2)]]
  outs := [false]
  res := .bool (.lit 1)
  mods := closeM (v 4)
  fresh := []
  post := [.same (v 4) (.bin .add (v 3) (fn3 37 (v 0) (v 1) (v 2)))]
def aWalk : Ann := annCount 81 0 16 [15, 14, 0, 1, 2, 3] [] [(3, .cells [i64 (v 4)] true)] [false, false] 0 5 (v 1) [.same (v 4) (.bin .add (v 3) (.fn 39 (v 0) (v 1) (v 2) (v 5)))]
def xWalk (P : Program) : Cx := { P, cs := [cWalk 20, cOpen], anns := [aWalk] }
def cClose : Contract where
  fn := 39
  sorts := [true, false, false]
  args := [pB, i64 (v 2)]
  mem := budM (v 0) (v 1)
  nb := 2
  pre := [.pr 3 [v 0, v 1]]
  outs := [true, false, false]
  res := i64 (v 5)
  mods := [(0, budB 1 (v 4)), (1, rowsB (v 3) (v 4))]
  fresh := []
  post := [.same (v 3) (fn3 20 (v 0) (v 1) (v 2)), .same (v 4) (fn3 19 (v 0) (v 1) (v 2)), .same (v 5) (fn3 18 (v 0) (v 1) (v 2))]
def row6E (t i a b c d e f : E) : E := .upd (.upd (.upd (.upd (.upd (.upd t i 0 a) i 1 b) i 2 c) i 3 d) i 4 e) i 5 f
def shutE : E := row6E (v 0) (v 2) (.lit (-1)) (.lit 0) (.lit 0) (.lit 0) (.lit 1) (.lit 0)
def aClose (k : Nat) : Ann where
  fn := 39
  bid := 2
  keep := [0, 1]
  tmps := []
  drop := [0]
  mem := [(0, budB 1 (v k))]
  sorts := [false]
  nbl := 0
  inv := [eLe (.lit 1) (v k), eLe (v k) (v 1), .same (fn3 33 shutE (v k) (.lit 0)) (fn3 33 shutE (v 1) (.lit 0))]
  meas := v k
def xClose (P : Program) : Cx := { P, cs := [cWalk 20, cOpen], anns := [aClose 5, aClose 6] }

/-- A call of a law: kind, two numbers. -/
def actA (k a b : E) : AV := .agg [.int .u8 k, i64 a, i64 b]
def actE (k a b : E) : E := .upd (.upd (.upd .zt (.lit 0) 0 k) (.lit 0) 1 a) (.lit 0) 2 b
def fnD (j : Nat) : E := .fn j (v 0) (v 1) (actE (v 2) (v 3) (v 4)) (.lit 0)
def cDoes : Contract where
  fn := 13
  sorts := [true, false, false, false, false]
  args := [pB, actA (v 2) (v 3) (v 4)]
  mem := budM (v 0) (v 1)
  nb := 2
  pre := [.pr 3 [v 0, v 1], .rng .u8 (v 2)]
  outs := [true, false, false, false]
  res := .tup [i64 (v 7), i64 (v 8)]
  mods := [(0, budB 2 (v 6))]
  fresh := [(2, rowsB (v 5) (v 6))]
  post := [.same (v 5) (fnD 25), .same (v 6) (fnD 24), .same (v 7) (fnD 26), .same (v 8) (fnD 23)]
def xDoes (P : Program) : Cx := { P, cs := [cChild, cClose, cGive, cLimit, cMove, cCharge], anns := [] }

/-- played: a limit, a list of calls. -/
def actK : List CK := [.int .u8, .int .i64, .int .i64]
def actsB (t n : E) : Blk := .rows actK t n false true
def cPlayed : Contract where
  fn := 12
  sorts := [false, true, false]
  args := [.int .u16 (v 0), .slice 0 (.lit 0) (v 2) 3 true]
  mem := [(0, actsB (v 1) (v 2))]
  nb := 1
  pre := [.rng .u16 (v 0), .pr 5 [v 1, v 2]]
  outs := [true, false]
  res := .ptr 1 (.lit 0) 0 0
  mods := []
  fresh := [(1, budB 2 (v 4)), (2, rowsB (v 3) (v 4))]
  post := [.same (v 3) (fn3 28 (.bin .tmod (.wrap .i64 (v 0)) (.lit 4097)) (v 1) (v 2)), .same (v 4) (fn3 29 (.bin .tmod (.wrap .i64 (v 0)) (.lit 4097)) (v 1) (v 2))]
def limE : E := .bin .tmod (.wrap .i64 (v 0)) (.lit 4097)
def aPlayed : Ann where
  fn := 12
  bid := 0
  keep := [0, 1, 4, 5]
  tmps := [(7, i64 (v 6))]
  drop := [1, 2]
  mem := [(1, budB 3 (v 5)), (3, rowsB (v 4) (v 5))]
  sorts := [true, false, false]
  nbl := 1
  inv := [eLe (.lit 0) (v 6), eLe (v 6) (v 2), .same (v 4) (fn3 28 limE (v 1) (v 6)), .same (v 5) (fn3 29 limE (v 1) (v 6))]
  meas := .bin .sub (v 2) (v 6)
def xPlayed (P : Program) : Cx := { P, cs := [cNew, cDoes], anns := [aPlayed] }
end Go.Proofs.Ytafipmoglaepcaa.Ac
