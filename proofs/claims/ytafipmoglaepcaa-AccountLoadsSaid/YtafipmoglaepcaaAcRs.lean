/-
  Contracts of the reference's functions. Definitions alone; nothing here speaks of a program.
-/
import Derived.Test.YtafipmoglaepcaaAcLs
namespace Go.Proofs.Ytafipmoglaepcaa.Ac
open Go Go.Sx

/-! fn 43 path by number R n i · 44 its length · 45 all R n i · 46 the table with its sums R n · 47 all, up to k R n i k · 48 peaks raised up to k R n k -/
def refB (c : Nat) (n : E) : Blk := .cells [.slice c (.lit 0) n 5 false] true
def refM (t n : E) : Mem := [(0, refB 1 n), (1, rows5 t n false)]
def rPre : List PE := [.pr 18 [v 0, v 1], .pr 23 [v 0, v 1]]
def exE : E := fn3 46 (v 0) (v 1) (.lit 0)
def rWf : PE := .pr 19 [v 0, v 1]

def rOpen : Contract where
  fn := 57
  sorts := [true, false, false]
  args := [pB, i64 (v 2)]
  mem := refM (v 0) (v 1)
  nb := 2
  pre := []
  outs := [false]
  res := .bool (v 3)
  mods := refM (v 0) (v 1)
  fresh := []
  post := [.same (v 3) (opn (v 0) (v 1) (v 2))]
def rPath : Contract where
  fn := 63
  sorts := [true, false, false]
  args := [pB, i64 (v 2)]
  mem := refM (v 0) (v 1)
  nb := 2
  pre := [.pr 18 [v 0, v 1]]
  outs := [true, false]
  res := .slice 2 (.lit 0) (v 4) 1 true
  mods := refM (v 0) (v 1)
  fresh := [(2, rows1 (v 3) (v 4) true)]
  post := [.same (v 3) (fn3 43 (v 0) (v 1) (v 2)), .same (v 4) (fn3 44 (v 0) (v 1) (v 2))]
def aRPath : Ann where
  fn := 63
  bid := 0
  keep := [0]
  tmps := [(1, i64 (v 5)), (5, .slice 2 (.lit 0) (v 4) 1 true)]
  drop := []
  mem := [(2, rows1 (v 3) (v 4) true)]
  sorts := [true, false, false]
  nbl := 1
  inv := [.pr 22 [v 3, v 4, v 0, v 1, v 2, v 5]]
  meas := .bin .sub (.bin .add (v 1) (.lit 1)) (v 4)
def rOn : Contract := { cIn with fn := 78 }
def aOn : Ann := annCount 78 0 5 [0, 1] [] [] [false] 0 3 (v 1) [.pr 7 [v 0, v 3, v 2]]
def rAll : Contract where
  fn := 71
  sorts := [true, false, false]
  args := [pB, i64 (v 2)]
  mem := refM (v 0) (v 1)
  nb := 2
  pre := rPre
  outs := [false]
  res := i64 (v 3)
  mods := refM (v 0) (v 1)
  fresh := []
  post := [.same (v 3) (fn3 45 (v 0) (v 1) (v 2))]
def aRAll : Ann := annCount 71 0 6 [0, 1] [(5, i64 (v 3))] [] [false, false] 0 4 (v 1) [.same (v 3) (.fn 47 (v 0) (v 1) (v 2) (v 4))]
def rPeaks : Contract where
  fn := 79
  sorts := [true, false]
  args := [pB]
  mem := refM (v 0) (v 1)
  nb := 2
  pre := rPre
  outs := [true]
  res := .tup []
  mods := refM (v 2) (v 1)
  fresh := []
  post := [.same (v 2) (fn3 48 (v 0) (v 1) (v 1))]
def aRPeaks : Ann := { annCount 79 0 2 [0] [] [(1, rows5 (v 2) (v 1) false)] [true, false] 0 3 (v 1) [.same (v 2) (fn3 48 (v 0) (v 1) (v 3))] with drop := [1] }
def xR (P : Program) : Cx := { P, cs := [rOpen, rPath, rOn, rAll], anns := [aRPath, aOn, aRAll, aRPeaks] }
def xR0 (P : Program) : Cx := { P, cs := [], anns := [aRPath, aOn] }
def xR1 (P : Program) : Cx := { P, cs := [rOpen], anns := [aRPath] }
def xR2 (P : Program) : Cx := { P, cs := [rOpen, rPath, rOn], anns := [aRAll] }
def xR3 (P : Program) : Cx := { P, cs := [rOpen, rAll], anns := [aRPeaks] }

def rAsk (fn : FuncId) (rs : List E) : Contract where
  fn := fn
  sorts := [true, false, false]
  args := [pB, i64 (v 2)]
  mem := refM (v 0) (v 1)
  nb := 2
  pre := [rWf]
  outs := rs.map fun _ => false
  res := .tup ((List.range rs.length).map fun k => i64 (v (3 + k)))
  mods := refM (v 0) (v 1)
  fresh := []
  post := (List.range rs.length).map fun k => .same (v (3 + k)) (rs[k]?.getD .zt)
def rTight : Contract := rAsk 62 [fn3 6 exE (v 1) (v 2), fn3 4 exE (v 1) (v 2)]
def rHead : Contract := rAsk 60 [fn3 7 exE (v 1) (v 2), fn3 4 exE (v 1) (v 2)]
def rUsed : Contract := rAsk 59 [.fn 5 exE (v 1) (v 2) (.lit 2), .fn 5 exE (v 1) (v 2) (.lit 5), fn3 4 exE (v 1) (v 2)]
def rPeak : Contract := rAsk 61 [.fn 5 exE (v 1) (v 2) (.lit 3), fn3 4 exE (v 1) (v 2)]
/-- What turns the reference: the error is the program's of the table with sums, and so is the table, in what it shows. -/
def rTurn (fn : FuncId) (e t : Nat) : Contract where
  fn := fn
  sorts := [true, false, false, false]
  args := [pB, i64 (v 2), i64 (v 3)]
  mem := refM (v 0) (v 1)
  nb := 2
  pre := [rWf]
  outs := [true, false]
  res := i64 (v 5)
  mods := refM (v 4) (v 1)
  fresh := []
  post := [.same (v 5) (.fn e exE (v 1) (v 2) (v 3)), .pr 24 [v 4, .fn t exE (v 1) (v 2) (v 3), v 1]]
def rCharge : Contract := rTurn 56 8 9
def rGive : Contract := rTurn 53 10 11
def rLimit : Contract := rTurn 54 12 13
def rMove : Contract := rTurn 55 21 22
def rChild : Contract where
  fn := 51
  sorts := [true, false, false, false]
  args := [pB, i64 (v 2), i64 (v 3)]
  mem := refM (v 0) (v 1)
  nb := 2
  pre := [rWf]
  outs := [true, false, false, false]
  res := .tup [i64 (v 6), i64 (v 7)]
  mods := [(0, refB 2 (v 5))]
  fresh := [(2, rows5 (v 4) (v 5) false)]
  post := [.same (v 5) (.fn 15 exE (v 1) (v 2) (v 3)), .same (v 6) (.fn 17 exE (v 1) (v 2) (v 3)), .same (v 7) (.fn 14 exE (v 1) (v 2) (v 3)), .pr 24 [v 4, .fn 16 exE (v 1) (v 2) (v 3), v 5]]
def rClose : Contract where
  fn := 52
  sorts := [true, false, false]
  args := [pB, i64 (v 2)]
  mem := refM (v 0) (v 1)
  nb := 2
  pre := [rWf]
  outs := [true, false, false]
  res := i64 (v 5)
  mods := [(0, refB 1 (v 4)), (1, rows5 (v 3) (v 4) false)]
  fresh := []
  post := [.same (v 4) (fn3 19 exE (v 1) (v 2)), .same (v 5) (fn3 18 exE (v 1) (v 2)), .pr 24 [v 3, fn3 20 exE (v 1) (v 2), v 4]]
def rOver : Contract where
  fn := 31
  sorts := [true, false]
  args := [pB]
  mem := refM (v 0) (v 1)
  nb := 2
  pre := [rWf]
  outs := [true, false]
  res := .slice 2 (.lit 0) (v 3) 1 true
  mods := refM (v 0) (v 1)
  fresh := [(2, rows1 (v 2) (v 3) true)]
  post := [.same (v 2) (fn3 34 exE (v 1) (v 1)), .same (v 3) (fn3 35 exE (v 1) (v 1))]
def rSave : Contract where
  fn := 33
  sorts := [true, false]
  args := [pB]
  mem := refM (v 0) (v 1)
  nb := 2
  pre := [rWf]
  outs := [true, false]
  res := .agg [.slice 2 (.lit 0) (v 3) 5 true]
  mods := refM (v 0) (v 1)
  fresh := [(2, rows5 (v 2) (v 3) true)]
  post := [.same (v 2) (v 0), .same (v 3) (v 1)]
def rNew : Contract where
  fn := 28
  sorts := [false]
  args := [i64 (v 0)]
  mem := []
  nb := 0
  pre := [eLe (.lit 0) (v 0), eLe (v 0) (.lit 4096)]
  outs := [true]
  res := .tup [pB, i64 (.lit 0)]
  mods := []
  fresh := refM (v 1) (.lit 1)
  post := [.pr 24 [v 1, fn3 28 (v 0) .zt (.lit 0), .lit 1]]
def aRTight : Ann := annCount 62 0 8 [0, 6] [(7, i64 (v 6))] [] [false, false] 0 7 (v 5) [.pr 25 [v 0, v 1, v 2, v 6, v 7]]
def aRMove : Ann := annCount 55 0 10 [0, 1, 2, 7, 8, 9] [] [] [false] 0 14 (v 13) [.pr 26 [v 0, v 1, v 2, v 3, v 14]]
def aRChild : Ann := annCount 51 0 8 [0, 1, 2] [] [] [false] 0 5 (v 1) [.pr 27 [v 0, v 5]]
def aRClose : Ann := annCount 52 0 5 [0, 1] [] [] [false] 0 4 (v 1) [.pr 28 [v 0, v 1, v 2, v 4]]
def row5E (t i a b c d e : E) : E := .upd (.upd (.upd (.upd (.upd t i 0 a) i 1 b) i 2 c) i 3 d) i 4 e
def shut5E : E := row5E (v 0) (v 2) (.lit (-1)) (.lit 0) (.lit 0) (.lit 0) (.lit 1)
def aRTrim (k : Nat) : Ann where
  fn := 52
  bid := 2
  keep := [0, 1]
  tmps := []
  drop := [0]
  mem := [(0, refB 1 (v k))]
  sorts := [false]
  nbl := 0
  inv := [eLe (.lit 1) (v k), eLe (v k) (v 1), .same (fn3 33 shut5E (v k) (.lit 0)) (fn3 33 shut5E (v 1) (.lit 0))]
  meas := v k
def aROver : Ann := annCount 31 0 4 [0] [(3, .slice 2 (.lit 0) (v 3) 1 true)] [(2, rows1 (v 2) (v 3) true)] [true, false, false] 1 4 (v 1) [.same (v 2) (fn3 34 exE (v 1) (v 4)), .same (v 3) (fn3 35 exE (v 1) (v 4))]
def rAnns : List Ann := [aRTight, aRMove, aRChild, aRClose, aRTrim 5, aROver]
def rCs : List Contract := [rOpen, rPath, rOn, rAll, rPeaks]
def rCs2 : List Contract := [rOpen, rPath, rOn, rAll, rPeaks, rTight, rHead]
def xRCs (P : Program) : Cx := { P, cs := rCs, anns := rAnns }
def xRCs2 (P : Program) : Cx := { P, cs := rCs2, anns := rAnns }
end Go.Proofs.Ytafipmoglaepcaa.Ac

namespace Go.Proofs.Ytafipmoglaepcaa.Ac
open Go Go.Sx

/-! fn 49 what lies below, children up to k: a table T n i k · 50 its length · 51 what lies below: a table T n i · 52 its length -/
/-- The reference's Below: calls itself. -/
def rBelow (m : Nat) : Contract where
  fn := 64
  sorts := [true, false, false]
  args := [pB, i64 (v 2)]
  mem := refM (v 0) (v 1)
  nb := 2
  pre := [rWf, .pr m [fn3 38 (v 0) (v 1) (v 2)]]
  outs := [true, false]
  res := .slice 2 (.lit 0) (v 4) 1 true
  mods := refM (v 0) (v 1)
  fresh := [(2, rows1 (v 3) (v 4) true)]
  post := [.same (v 3) (fn3 51 (v 0) (v 1) (v 2)), .same (v 4) (fn3 52 (v 0) (v 1) (v 2))]
def aRBelow : Ann := { annCount 64 0 6 [0, 1] [(5, .slice 3 (.lit 0) (v 5) 1 true)] [(3, rows1 (v 4) (v 5) true)] [true, false, false] 1 6 (v 1) [.same (v 4) (.fn 49 (v 0) (v 1) (v 2) (v 6)), .same (v 5) (.fn 50 (v 0) (v 1) (v 2) (v 6))] with drop := [2] }
def xRBelow (P : Program) : Cx := { P, cs := [rOpen, rBelow 20], anns := [aRBelow] }
def rDoes : Contract where
  fn := 29
  sorts := [true, false, false, false, false]
  args := [pB, actA (v 2) (v 3) (v 4)]
  mem := refM (v 0) (v 1)
  nb := 2
  pre := [rWf, .rng .u8 (v 2)]
  outs := [true, false, false, false]
  res := .tup [i64 (v 7), i64 (v 8)]
  mods := [(0, refB 2 (v 6))]
  fresh := [(2, rows5 (v 5) (v 6) false)]
  post := [.same (v 6) (.fn 24 exE (v 1) (actE (v 2) (v 3) (v 4)) (.lit 0)), .same (v 7) (.fn 26 exE (v 1) (actE (v 2) (v 3) (v 4)) (.lit 0)), .same (v 8) (.fn 23 exE (v 1) (actE (v 2) (v 3) (v 4)) (.lit 0)),
    .pr 24 [v 5, .fn 25 exE (v 1) (actE (v 2) (v 3) (v 4)) (.lit 0), v 6]]
def xRDoes (P : Program) : Cx := { P, cs := [rChild, rClose, rGive, rLimit, rMove, rCharge], anns := [] }
/-- Two lists: are they equal? -/
def cInts : Contract where
  fn := 30
  sorts := [true, false, true, false]
  args := [.slice 0 (.lit 0) (v 1) 1 true, .slice 1 (.lit 0) (v 3) 1 true]
  mem := [(0, rows1 (v 0) (v 1) true), (1, rows1 (v 2) (v 3) true)]
  nb := 2
  pre := [eLe (.lit 0) (v 1), eLe (v 1) (.lit 1000), .same (v 3) (v 1), .same (v 2) (v 0)]
  outs := []
  res := .bool (.lit 1)
  mods := [(0, rows1 (v 0) (v 1) true), (1, rows1 (v 2) (v 3) true)]
  fresh := []
  post := []
def aInts : Ann := annCount 30 0 5 [0, 1] [] [] [false] 0 4 (v 1) []
def xInts (P : Program) : Cx := { P, cs := [], anns := [aInts] }
/-- The walk below a node, in Collect of it: each node is appended. -/
def colM : Mem := budM (v 0) (v 1) ++ [(2, .cells [pB] true), (3, .cells [i64 (v 2)] true)]
def cCollectB : Contract where
  fn := 47
  sorts := [true, false, false]
  args := [.func 80 [.ptr 2 (.lit 0) 0 0, .ptr 3 (.lit 0) 0 0]]
  mem := colM
  nb := 4
  pre := [.pr 3 [v 0, v 1], .tt (opn (v 0) (v 1) (v 2))]
  outs := [true, false]
  res := .slice 4 (.lit 0) (v 4) 1 true
  mods := colM
  fresh := [(4, rows1 (v 3) (v 4) true)]
  post := [.same (v 3) (fn3 51 (v 0) (v 1) (v 2)), .same (v 4) (fn3 52 (v 0) (v 1) (v 2))]
/-- The walk below a node, in Collect: each node is appended to a list. -/
def walkM (t m : E) (b : Nat) : Mem := budM (v 0) (v 1) ++ [(2, .cells [pB] true), (3, .cells [.slice b (.lit 0) m 1 true] true), (4, .cells [.yld 6] true), (5, .cells [.func 81 [.ptr 4 (.lit 0) 0 0, .ptr 2 (.lit 0) 0 0, .ptr 5 (.lit 0) 0 0]] true),
  (6, .loop .ready none 76 0 13 [(2, .ptr 3 (.lit 0) 0 0)] 7), (7, .dfr true), (b, rows1 t m true)]
def cWalkC (m : Nat) : Contract where
  fn := 81
  sorts := [true, false, false, true, false]
  args := [i64 (v 2), .ptr 4 (.lit 0) 0 0, .ptr 2 (.lit 0) 0 0, .ptr 5 (.lit 0) 0 0]
  mem := walkM (v 3) (v 4) 8
  nb := 9
  pre := [.pr 3 [v 0, v 1], .tt (opn (v 0) (v 1) (v 2)), .pr 31 [v 3, v 4], eLe (.bin .add (v 4) (fn3 52 (v 0) (v 1) (v 2))) (.lit 1000), .pr m [fn3 38 (v 0) (v 1) (v 2)]]
  outs := [true, false]
  res := .bool (.lit 1)
  mods := (walkM (v 5) (v 6) 9).take 8
  fresh := [(9, rows1 (v 5) (v 6) true)]
  post := [.same (v 5) (.cat (v 3) (v 4) (fn3 51 (v 0) (v 1) (v 2))), .same (v 6) (.bin .add (v 4) (fn3 52 (v 0) (v 1) (v 2)))]
def aWalkC : Ann := { annCount 81 0 16 [15, 14, 0, 1, 2, 3] [] [(3, .cells [.slice 11 (.lit 0) (v 6) 1 true] true), (11, rows1 (v 5) (v 6) true)] [true, false, false] 1 7 (v 1)
  [.same (v 5) (.cat (v 3) (v 4) (.fn 49 (v 0) (v 1) (v 2) (v 7))), .same (v 6) (.bin .add (v 4) (.fn 50 (v 0) (v 1) (v 2) (v 7)))] with drop := [3, 10] }
def xWalkC (P : Program) : Cx := { P, cs := [cOpen, cWalkC 20], anns := [aWalkC] }
/-- .. to an empty list. -/
def cWalkN : Contract where
  fn := 81
  sorts := [true, false, false]
  args := [i64 (v 2), .ptr 4 (.lit 0) 0 0, .ptr 2 (.lit 0) 0 0, .ptr 5 (.lit 0) 0 0]
  mem := put 3 (.cells [.nilslice] true) ((walkM (v 3) (v 4) 8).take 8)
  nb := 8
  pre := [.pr 3 [v 0, v 1], .tt (opn (v 0) (v 1) (v 2))]
  outs := [true, false]
  res := .bool (.lit 1)
  mods := (walkM (v 3) (v 4) 8).take 8
  fresh := [(8, rows1 (v 3) (v 4) true)]
  post := [.same (v 3) (fn3 51 (v 0) (v 1) (v 2)), .same (v 4) (fn3 52 (v 0) (v 1) (v 2))]
def aWalkN : Ann := { annCount 81 0 16 [15, 14, 0, 1, 2, 3] [] [(3, .cells [.slice 10 (.lit 0) (v 4) 1 true] true), (10, rows1 (v 3) (v 4) true)] [true, false, false] 1 5 (v 1)
  [.same (v 3) (.fn 49 (v 0) (v 1) (v 2) (v 5)), .same (v 4) (.fn 50 (v 0) (v 1) (v 2) (v 5))] with drop := [3, 9] }
def xWalkN (P : Program) : Cx := { P, cs := [cOpen, cWalkC 20], anns := [aWalkN] }
def xCollectB (P : Program) : Cx := { P, cs := [cOpen, cWalkN], anns := [] }
/-- list of what lies below, as walked gives it. -/
def wkMB : Mem := budM (v 0) (v 1) ++ [(2, .cells [pB] true), (3, .cells [i64 (v 2)] true), (4, .cells [.func 67 []] true)]
def cListB : Contract := { cList with mem := wkMB, mods := wkMB, post := [.same (v 3) (fn3 51 (v 0) (v 1) (v 2)), .same (v 4) (fn3 52 (v 0) (v 1) (v 2))] }
def aListB : Ann := annCount 74 0 18 [17, 16, 0, 1, 2, 3] [] [(7, .cells [.slice 14 (.lit 0) (v 7) 1 true] true), (14, rows1 (v 6) (v 7) true), (9, .loop .ready none 18 0 18 [(4, .ptr 7 (.lit 0) 0 0), (3, .ptr 6 (.lit 0) 0 0), (2, .ptr 5 (.lit 0) 0 0)] 8)]
  [true, false, false] 1 8 (v 5) [.same (v 7) (v 8), .same (v 6) (fn3 40 (v 4) (v 8) (.lit 0))]
def xListB (P : Program) : Cx := { P, cs := [cCollectB, cOpen], anns := [aListB] }
/-- The lists of the path and of what lies below are the program's: so walks says. -/
def cWalks : Contract where
  fn := 35
  sorts := [true, false, false, true, false, true, false]
  args := [pB, .slice 2 (.lit 0) (v 4) 1 true, .slice 3 (.lit 0) (v 6) 1 true, i64 (v 2)]
  mem := budM (v 0) (v 1) ++ [(2, rows1 (v 3) (v 4) true), (3, rows1 (v 5) (v 6) true)]
  nb := 4
  pre := [.pr 3 [v 0, v 1], .same (v 3) (fn3 31 (v 0) (v 1) (v 2)), .same (v 4) (fn3 32 (v 0) (v 1) (v 2)), .same (v 5) (fn3 51 (v 0) (v 1) (v 2)), .same (v 6) (fn3 52 (v 0) (v 1) (v 2))]
  outs := []
  res := .bool (.lit 1)
  mods := budM (v 0) (v 1) ++ [(2, rows1 (v 3) (v 4) true), (3, rows1 (v 5) (v 6) true)]
  fresh := []
  post := []
def xWalks (P : Program) : Cx := { P, cs := [cList, cListB, cInts, cOpen], anns := [] }
/-- Both sides answer alike of a node. -/
def refM2 (t n : E) : Mem := [(2, refB 3 n), (3, rows5 t n false)]
def cAlike : Contract where
  fn := 32
  sorts := [true, false, true, false, false]
  args := [pB, .ptr 2 (.lit 0) 0 0, i64 (v 4)]
  mem := budM (v 0) (v 1) ++ refM2 (v 2) (v 3)
  nb := 4
  pre := [.same (v 3) (v 1), .pr 3 [v 0, v 1], .pr 24 [v 2, v 0, v 1]]
  outs := []
  res := .bool (.lit 1)
  mods := budM (v 0) (v 1) ++ refM2 (v 2) (v 3)
  fresh := []
  post := []
def xAlike (P : Program) : Cx := { P, cs := [cUsed, cHead, cPeak, cTight, rUsed, rHead, rPeak, rTight, rPath, rBelow 20, cWalks], anns := [] }
/-- AccountPlays. -/
def cPlays : Contract where
  fn := 8
  sorts := [false, true, false]
  args := [i64 (v 0), .slice 0 (.lit 0) (v 2) 3 true]
  mem := [(0, actsB (v 1) (v 2))]
  nb := 1
  pre := [.rng .i64 (v 0), .pr 11 [v 1, v 2]]
  outs := []
  res := .bool (.lit 1)
  mods := []
  fresh := []
  post := []
/-- Before each call: the program's table and the reference's. -/
def aPlays : Ann := { annCount 8 0 9 [0, 1, 5, 7] [] [(2, budB 5 (v 5)), (5, rowsB (v 3) (v 5)), (4, refB 6 (v 6)), (6, rows5 (v 4) (v 6) false)] [true, true, false, false, false] 2 7 (v 2) [.same (v 6) (v 5), .pr 3 [v 3, v 5], .pr 24 [v 4, v 3, v 5]] with drop := [1, 2, 3, 4] }
def xPlays (P : Program) : Cx := { P, cs := [cAwake, cDoes, rDoes, cOver, rOver, cInts, cAlike, cSave, rSave, cSame], anns := [aPlays] }
end Go.Proofs.Ytafipmoglaepcaa.Ac

namespace Go.Proofs.Ytafipmoglaepcaa.Ac
open Go Go.Sx

/-! fn 53 the table in which only nodes that are reached are open: T n · 54 the error of a state of so many rows: n · 55 the walk's table, behind the children up to k: T n i k · 56 the walk's table: T n i · 57 sums up to k: T n k ·
pr 33 a state as it is given R n · 34 it is not right R n · 35 the rows up to k are right by themselves R k -/
def inB (t n : E) : Blk := .rows stateK t n false true
def ldOk (fn : FuncId) (res : AV) (outs : List Bool) (fresh : Mem) (post : List PE) : Contract where
  fn := fn
  sorts := [true, false]
  args := [.agg [.slice 0 (.lit 0) (v 1) 5 true]]
  mem := [(0, inB (v 0) (v 1))]
  nb := 1
  pre := [.pr 33 [v 0, v 1], .pr 19 [v 0, v 1]]
  outs := outs
  res := res
  mods := []
  fresh := fresh
  post := post
def ldBad (fn : FuncId) : Contract where
  fn := fn
  sorts := [true, false]
  args := [.agg [.slice 0 (.lit 0) (v 1) 5 true]]
  mem := [(0, inB (v 0) (v 1))]
  nb := 1
  pre := [.pr 33 [v 0, v 1], .pr 34 [v 0, v 1]]
  outs := [false]
  res := .tup [.nilptr, i64 (v 2)]
  mods := []
  fresh := []
  post := [.same (v 2) (fn3 54 (v 1) (.lit 0) (.lit 0))]
def cLdOk : Contract := ldOk 36 (.tup [.ptr 1 (.lit 0) 0 0, i64 (.lit 0)]) [true, false] [(1, budB 2 (v 3)), (2, rowsB (v 2) (v 3))] [.same (v 3) (v 1), .pr 3 [v 2, v 1], .pr 24 [v 0, v 2, v 1]]
def cLdBad : Contract := ldBad 36
def rLdOk : Contract := ldOk 37 (.tup [.ptr 1 (.lit 0) 0 0, i64 (.lit 0)]) [] [(1, refB 2 (v 1)), (2, rows5 (v 0) (v 1) false)] []
def rLdBad : Contract := ldBad 37
/-- closed, exactly. -/
def cClosed : Contract where
  fn := 66
  sorts := []
  args := []
  mem := []
  nb := 0
  pre := []
  outs := []
  res := .agg [i64 (.lit (-1)), i64 (.lit 0), i64 (.lit 0), i64 (.lit 0), .bool (.lit 1), i64 (.lit 0)]
  mods := []
  fresh := []
  post := []
def xClosed (P : Program) : Cx := { P, cs := [], anns := [] }
/-- The rows up to k are there (one, at least: the first round is walked by itself). -/
def aLd0 : Ann where
  fn := 36
  bid := 0
  keep := [4, 21, 22]
  tmps := [(23, i64 (v 3))]
  drop := [2, 6]
  mem := [(2, budB 7 (v 3)), (7, rowsB (v 2) (v 3))]
  sorts := [true, false]
  nbl := 1
  inv := [eLe (.lit 1) (v 3), eLe (v 3) (v 1), .same (v 2) (fn3 30 (v 0) (v 3) (.lit 0)), .pr 35 [v 0, v 3]]
  meas := .bin .sub (v 1) (v 3)
/-- The walk below a node, in Load: each node is counted, and has its own as its sum. -/
def gdE (t : E) : E := fn3 53 t (v 1) (.lit 0)
def loadM (t c : E) : Mem := budM t (v 1) ++ [(2, .cells [pB] true), (3, .cells [i64 c] true), (4, .cells [.yld 6] true), (5, .cells [.func 81 [.ptr 4 (.lit 0) 0 0, .ptr 2 (.lit 0) 0 0, .ptr 5 (.lit 0) 0 0]] true),
  (6, .loop .ready none 36 0 177 [(4, .ptr 8 (.lit 0) 0 0), (9, .ptr 3 (.lit 0) 0 0)] 7), (7, .dfr true), (8, .cells [pB] true)]
def cWalkL (m : Nat) : Contract where
  fn := 81
  sorts := [true, false, false, false]
  args := [i64 (v 2), .ptr 4 (.lit 0) 0 0, .ptr 2 (.lit 0) 0 0, .ptr 5 (.lit 0) 0 0]
  mem := loadM (v 0) (v 3)
  nb := 9
  pre := [.pr 36 [v 0, v 1], .tt (opn (gdE (v 0)) (v 1) (v 2)), eLe (.lit 0) (v 3), eLe (.bin .add (v 3) (fn3 37 (gdE (v 0)) (v 1) (v 2))) (.lit 1000), .pr m [fn3 38 (gdE (v 0)) (v 1) (v 2)]]
  outs := [true, false]
  res := .bool (.lit 1)
  mods := loadM (v 4) (v 5)
  fresh := []
  post := [.same (v 4) (fn3 56 (v 0) (v 1) (v 2)), .same (v 5) (.bin .add (v 3) (fn3 37 (gdE (v 0)) (v 1) (v 2)))]
def aWalkL : Ann := { annCount 81 0 16 [15, 14, 0, 1, 2, 3] [] [(3, .cells [i64 (v 5)] true), (1, rowsB (v 4) (v 1))] [true, false, false] 0 6 (v 1)
  [.same (v 4) (.fn 55 (v 0) (v 1) (v 2) (v 6)), .same (v 5) (.bin .add (v 3) (.fn 39 (gdE (v 0)) (v 1) (v 2) (v 6)))] with drop := [1, 3] }
def xWalkL (P : Program) : Cx := { P, cs := [cWalkL 20, cOpen], anns := [aWalkL] }
/-- The open ones are counted off. -/
def aLd4 : Ann := annCount 36 4 124 [4, 9, 123] [] [(8, .cells [i64 (v 9)] true)] [false, false] 0 10 (v 3) [.same (v 9) (.bin .sub (v 8) (fn3 58 (v 7) (v 3) (v 10)))]
/-- To each node on their paths, what nodes up to k have. -/
def aLd6 : Ann := annCount 36 6 140 [4, 139] [] [(7, rowsB (v 11) (v 3))] [true, false] 0 12 (v 3) [.same (v 11) (fn3 57 (v 7) (v 3) (v 12))]
def aLd8 : Ann := annPath 17 19 18 36 1 177 [(4, .ptr 3 (.lit 0) 0 0), (12, .ptr 15 (.lit 0) 0 0)] [(7, rowsB (v 13) (v 3))] [true, false] 14 [.pr 37 [v 13, v 11, v 3, v 12, v 14]] (measE (v 11) (v 3) (v 14))
/-- The same where the root is not open: that never comes, but the executor walks it. -/
def aLd4b : Ann := annCount 36 4 124 [4, 9, 123] [] [(8, .cells [i64 (v 7)] true)] [false, false] 0 8 (v 3) []
def aLd6b : Ann := annCount 36 6 140 [4, 139] [] [(7, rowsB (v 9) (v 3))] [true, false] 0 10 (v 3) []
def aLd8b : Ann := annPath 17 19 18 36 1 177 [(4, .ptr 3 (.lit 0) 0 0), (12, .ptr 15 (.lit 0) 0 0)] [(7, rowsB (v 11) (v 3))] [true, false] 12 [] (measE (v 9) (v 3) (v 12))
/-- Is a sum above its peak? -/
def cBig : Contract where
  fn := 68
  sorts := [true, false]
  args := [.slice 0 (.lit 0) (v 1) 6 false, .func 69 []]
  mem := [(0, rowsB (v 0) (v 1))]
  nb := 1
  pre := [eLe (.lit 0) (v 1), eLe (v 1) (.lit 1000)]
  outs := [false]
  res := .bool (v 2)
  mods := [(0, rowsB (v 0) (v 1))]
  fresh := []
  post := [.pr 39 [v 0, v 1, v 2]]
def aBig : Ann := annCount 72 0 8 [7, 6, 4, 0, 1] [] [] [false] 0 2 (v 1) [.pr 38 [v 0, v 2]]
def xBig (P : Program) : Cx := { P, cs := [], anns := [aBig] }
def xLd (P : Program) : Cx := { P, cs := [cClosed, cOpen, cWalkL 20, cBig], anns := [aLd0, aLd4, aLd4b, aLd6, aLd6b, aLd8, aLd8b] }
/-- The reference's. -/
def aRLd0 : Ann := annCount 37 0 5 [4] [] [] [false] 0 2 (v 1) [.pr 35 [v 0, v 2], .pr 40 [v 0, v 1, v 2]]
def aRLd2 : Ann := annCount 37 2 6 [4] [] [] [false] 0 3 (v 1) [.pr 41 [v 0, v 1, v 3]]
def aRLd4 : Ann := annCount 37 4 8 [4] [] [] [false] 0 4 (v 1) [.pr 42 [v 0, v 1, v 4]]
def xRLd (P : Program) : Cx := { P, cs := [rOpen, rPath, rAll], anns := [aRLd0, aRLd2, aRLd4] }
/-- Is what is saved the state that was given? -/
def cSameR : Contract := { cSame with mem := [(0, rows5 (v 0) (v 1) true), (1, inB (v 2) (v 3))], mods := [(0, rows5 (v 0) (v 1) true)] }
/-- AccountLoads. -/
def cLoads (p : PE) : Contract where
  fn := 10
  sorts := [true, false, false, false, false]
  args := [.agg [.slice 0 (.lit 0) (v 1) 5 true], actA (v 2) (v 3) (v 4)]
  mem := [(0, inB (v 0) (v 1))]
  nb := 1
  pre := [.pr 33 [v 0, v 1], p, .rng .u8 (v 2), .rng .i64 (v 3), .rng .i64 (v 4)]
  outs := []
  res := .bool (.lit 1)
  mods := []
  fresh := []
  post := []
def cLoadsOk : Contract := cLoads (.pr 19 [v 0, v 1])
def cLoadsBad : Contract := cLoads (.pr 34 [v 0, v 1])
def xLoadsOk (P : Program) : Cx := { P, cs := [cAwake, cLdOk, rLdOk, cDoes, rDoes, cSave, rSave, cSameR, cSame], anns := [] }
def xLoadsBad (P : Program) : Cx := { P, cs := [cAwake, cLdBad, rLdBad], anns := [] }
end Go.Proofs.Ytafipmoglaepcaa.Ac
