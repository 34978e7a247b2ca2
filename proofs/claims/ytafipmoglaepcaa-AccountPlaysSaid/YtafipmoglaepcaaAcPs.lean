/-
  Contracts for the law AccountPlays. Definitions alone; nothing here speaks of a program.
-/
import Derived.Test.YtafipmoglaepcaaAcRs
namespace Go.Proofs.Ytafipmoglaepcaa.Ac
open Go Go.Sx

/-! fn 49 what lies below, children up to k: a table T n i k · 50 its length · 51 what lies below: a table T n i · 52 its length -/
/-- The reference's Below: calls itself. -/
def rBelow (m : Nat) : Contract where
  fn := 64
  sorts := [true, false, false]
  args := [pB, i64 (v 2)]
  mem := refM (v 0) (v 1)
  nb := 2
  pre := [rWf, .pr m [fn3 38 (v 0) (v 1) (v 2)]]
  outs := [true, false]
  res := .slice 2 (.lit 0) (v 4) 1 true
  mods := refM (v 0) (v 1)
  fresh := [(2, rows1 (v 3) (v 4) true)]
  post := [.same (v 3) (fn3 51 (v 0) (v 1) (v 2)), .same (v 4) (fn3 52 (v 0) (v 1) (v 2))]
def aRBelow : Ann := { annCount 64 0 6 [0, 1] [(5, .slice 3 (.lit 0) (v 5) 1 true)] [(3, rows1 (v 4) (v 5) true)] [true, false, false] 1 6 (v 1) [.same (v 4) (.fn 49 (v 0) (v 1) (v 2) (v 6)), .same (v 5) (.fn 50 (v 0) (v 1) (v 2) (v 6))] with drop := [2] }
def xRBelow (P : Program) : Cx := { P, cs := [rOpen, rBelow 20], anns := [aRBelow] }
def rDoes : Contract where
  fn := 29
  sorts := [true, false, false, false, false]
  args := [pB, actA (v 2) (v 3) (v 4)]
  mem := refM (v 0) (v 1)
  nb := 2
  pre := [rWf, .rng .u8 (v 2)]
  outs := [true, false, false, false]
  res := .tup [i64 (v 7), i64 (v 8)]
  mods := [(0, refB 2 (v 6))]
  fresh := [(2, rows5 (v 5) (v 6) false)]
  post := [.same (v 6) (.fn 24 exE (v 1) (actE (v 2) (v 3) (v 4)) (.lit 0)), .same (v 7) (.fn 26 exE (v 1) (actE (v 2) (v 3) (v 4)) (.lit 0)), .same (v 8) (.fn 23 exE (v 1) (actE (v 2) (v 3) (v 4)) (.lit 0)),
    .pr 24 [v 5, .fn 25 exE (v 1) (actE (v 2) (v 3) (v 4)) (.lit 0), v 6]]
def xRDoes (P : Program) : Cx := { P, cs := [rChild, rClose, rGive, rLimit, rMove, rCharge], anns := [] }
/-- Two lists: are they equal? -/
def cInts : Contract where
  fn := 30
  sorts := [true, false, true, false]
  args := [.slice 0 (.lit 0) (v 1) 1 true, .slice 1 (.lit 0) (v 3) 1 true]
  mem := [(0, rows1 (v 0) (v 1) true), (1, rows1 (v 2) (v 3) true)]
  nb := 2
  pre := [eLe (.lit 0) (v 1), eLe (v 1) (.lit 1000), .same (v 3) (v 1), .same (v 2) (v 0)]
  outs := []
  res := .bool (.lit 1)
  mods := [(0, rows1 (v 0) (v 1) true), (1, rows1 (v 2) (v 3) true)]
  fresh := []
  post := []
def aInts : Ann := annCount 30 0 5 [0, 1] [] [] [false] 0 4 (v 1) []
def xInts (P : Program) : Cx := { P, cs := [], anns := [aInts] }
/-- The walk below a node, in Collect of it: each node is appended. -/
def colM : Mem := budM (v 0) (v 1) ++ [(2, .cells [pB] true), (3, .cells [i64 (v 2)] true)]
def cCollectB : Contract where
  fn := 47
  sorts := [true, false, false]
  args := [.func 80 [.ptr 2 (.lit 0) 0 0, .ptr 3 (.lit 0) 0 0]]
  mem := colM
  nb := 4
  pre := [.pr 3 [v 0, v 1], .tt (opn (v 0) (v 1) (v 2))]
  outs := [true, false]
  res := .slice 4 (.lit 0) (v 4) 1 true
  mods := colM
  fresh := [(4, rows1 (v 3) (v 4) true)]
  post := [.same (v 3) (fn3 51 (v 0) (v 1) (v 2)), .same (v 4) (fn3 52 (v 0) (v 1) (v 2))]
/-- The walk below a node, in Collect: each node is appended to a list. -/
def walkM (t m : E) (b : Nat) : Mem := budM (v 0) (v 1) ++ [(2, .cells [pB] true), (3, .cells [.slice b (.lit 0) m 1 true] true), (4, .cells [.yld 6] true), (5, .cells [.func 81 [.ptr 4 (.lit 0) 0 0, .ptr 2 (.lit 0) 0 0, .ptr 5 (.lit 0) 0 0]] true),
  (6, .loop .ready none 76 0 13 [(2, .ptr 3 (.lit 0) 0 0)] 7), (7, .dfr true), (b, rows1 t m true)]
def cWalkC (m : Nat) : Contract where
  fn := 81
  sorts := [true, false, false, true, false]
  args := [i64 (v 2), .ptr 4 (.lit 0) 0 0, .ptr 2 (.lit 0) 0 0, .ptr 5 (.lit 0) 0 0]
  mem := walkM (v 3) (v 4) 8
  nb := 9
  pre := [.pr 3 [v 0, v 1], .tt (opn (v 0) (v 1) (v 2)), .pr 31 [v 3, v 4], eLe (.bin .add (v 4) (fn3 52 (v 0) (v 1) (v 2))) (.lit 1000), .pr m [fn3 38 (v 0) (v 1) (v 2)]]
  outs := [true, false]
  res := .bool (.lit 1)
  mods := (walkM (v 5) (v 6) 9).take 8
  fresh := [(9, rows1 (v 5) (v 6) true)]
  post := [.same (v 5) (.cat (v 3) (v 4) (fn3 51 (v 0) (v 1) (v 2))), .same (v 6) (.bin .add (v 4) (fn3 52 (v 0) (v 1) (v 2)))]
def aWalkC : Ann := { annCount 81 0 16 [15, 14, 0, 1, 2, 3] [] [(3, .cells [.slice 11 (.lit 0) (v 6) 1 true] true), (11, rows1 (v 5) (v 6) true)] [true, false, false] 1 7 (v 1)
  [.same (v 5) (.cat (v 3) (v 4) (.fn 49 (v 0) (v 1) (v 2) (v 7))), .same (v 6) (.bin .add (v 4) (.fn 50 (v 0) (v 1) (v 2) (v 7)))] with drop := [3, 10] }
def xWalkC (P : Program) : Cx := { P, cs := [cOpen, cWalkC 20], anns := [aWalkC] }
/-- .. to an empty list. -/
def cWalkN : Contract where
  fn := 81
  sorts := [true, false, false]
  args := [i64 (v 2), .ptr 4 (.lit 0) 0 0, .ptr 2 (.lit 0) 0 0, .ptr 5 (.lit 0) 0 0]
  mem := put 3 (.cells [.nilslice] true) ((walkM (v 3) (v 4) 8).take 8)
  nb := 8
  pre := [.pr 3 [v 0, v 1], .tt (opn (v 0) (v 1) (v 2))]
  outs := [true, false]
  res := .bool (.lit 1)
  mods := (walkM (v 3) (v 4) 8).take 8
  fresh := [(8, rows1 (v 3) (v 4) true)]
  post := [.same (v 3) (fn3 51 (v 0) (v 1) (v 2)), .same (v 4) (fn3 52 (v 0) (v 1) (v 2))]
def aWalkN : Ann := { annCount 81 0 16 [15, 14, 0, 1, 2, 3] [] [(3, .cells [.slice 10 (.lit 0) (v 4) 1 true] true), (10, rows1 (v 3) (v 4) true)] [true, false, false] 1 5 (v 1)
  [.same (v 3) (.fn 49 (v 0) (v 1) (v 2) (v 5)), .same (v 4) (.fn 50 (v 0) (v 1) (v 2) (v 5))] with drop := [3, 9] }
def xWalkN (P : Program) : Cx := { P, cs := [cOpen, cWalkC 20], anns := [aWalkN] }
def xCollectB (P : Program) : Cx := { P, cs := [cOpen, cWalkN], anns := [] }
/-- list of what lies below, as walked gives it. -/
def wkMB : Mem := budM (v 0) (v 1) ++ [(2, .cells [pB] true), (3, .cells [i64 (v 2)] true), (4, .cells [.func 67 []] true)]
def cListB : Contract := { cList with mem := wkMB, mods := wkMB, post := [.same (v 3) (fn3 51 (v 0) (v 1) (v 2)), .same (v 4) (fn3 52 (v 0) (v 1) (v 2))] }
def aListB : Ann := annCount 74 0 18 [17, 16, 0, 1, 2, 3] [] [(7, .cells [.slice 14 (.lit 0) (v 7) 1 true] true), (14, rows1 (v 6) (v 7) true), (9, .loop .ready none 18 0 18 [(4, .ptr 7 (.lit 0) 0 0), (3, .ptr 6 (.lit 0) 0 0), (2, .ptr 5 (.lit 0) 0 0)] 8)]
  [true, false, false] 1 8 (v 5) [.same (v 7) (v 8), .same (v 6) (fn3 40 (v 4) (v 8) (.lit 0))]
def xListB (P : Program) : Cx := { P, cs := [cCollectB, cOpen], anns := [aListB] }
/-- The lists of the path and of what lies below are the program's: so walks says. -/
def cWalks : Contract where
  fn := 35
  sorts := [true, false, false, true, false, true, false]
  args := [pB, .slice 2 (.lit 0) (v 4) 1 true, .slice 3 (.lit 0) (v 6) 1 true, i64 (v 2)]
  mem := budM (v 0) (v 1) ++ [(2, rows1 (v 3) (v 4) true), (3, rows1 (v 5) (v 6) true)]
  nb := 4
  pre := [.pr 3 [v 0, v 1], .same (v 3) (fn3 31 (v 0) (v 1) (v 2)), .same (v 4) (fn3 32 (v 0) (v 1) (v 2)), .same (v 5) (fn3 51 (v 0) (v 1) (v 2)), .same (v 6) (fn3 52 (v 0) (v 1) (v 2))]
  outs := []
  res := .bool (.lit 1)
  mods := budM (v 0) (v 1) ++ [(2, rows1 (v 3) (v 4) true), (3, rows1 (v 5) (v 6) true)]
  fresh := []
  post := []
def xWalks (P : Program) : Cx := { P, cs := [cList, cListB, cInts, cOpen], anns := [] }
/-- Both sides answer alike of a node. -/
def refM2 (t n : E) : Mem := [(2, refB 3 n), (3, rows5 t n false)]
def cAlike : Contract where
  fn := 32
  sorts := [true, false, true, false, false]
  args := [pB, .ptr 2 (.lit 0) 0 0, i64 (v 4)]
  mem := budM (v 0) (v 1) ++ refM2 (v 2) (v 3)
  nb := 4
  pre := [.same (v 3) (v 1), .pr 3 [v 0, v 1], .pr 24 [v 2, v 0, v 1]]
  outs := []
  res := .bool (.lit 1)
  mods := budM (v 0) (v 1) ++ refM2 (v 2) (v 3)
  fresh := []
  post := []
def xAlike (P : Program) : Cx := { P, cs := [cUsed, cHead, cPeak, cTight, rUsed, rHead, rPeak, rTight, rPath, rBelow 20, cWalks], anns := [] }
/-- AccountPlays. -/
def cPlays : Contract where
  fn := 8
  sorts := [false, true, false]
  args := [i64 (v 0), .slice 0 (.lit 0) (v 2) 3 true]
  mem := [(0, actsB (v 1) (v 2))]
  nb := 1
  pre := [.rng .i64 (v 0), .pr 11 [v 1, v 2]]
  outs := []
  res := .bool (.lit 1)
  mods := []
  fresh := []
  post := []
/-- Before each call: the program's table and the reference's. -/
def aPlays : Ann := { annCount 8 0 9 [0, 1, 5, 7] [] [(2, budB 5 (v 5)), (5, rowsB (v 3) (v 5)), (4, refB 6 (v 6)), (6, rows5 (v 4) (v 6) false)] [true, true, false, false, false] 2 7 (v 2) [.same (v 6) (v 5), .pr 3 [v 3, v 5], .pr 24 [v 4, v 3, v 5]] with drop := [1, 2, 3, 4] }
def xPlays (P : Program) : Cx := { P, cs := [cAwake, cDoes, rDoes, cOver, rOver, cInts, cAlike, cSave, rSave, cSame], anns := [aPlays] }
end Go.Proofs.Ytafipmoglaepcaa.Ac
