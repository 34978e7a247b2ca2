/-
  Contracts of the reference's functions. Definitions alone; nothing here speaks of a program.
-/
import Derived.Test.YtafipmoglaepcaaAcLs
namespace Go.Proofs.Ytafipmoglaepcaa.Ac
open Go Go.Sx

/-! fn 43 path by number R n i · 44 its length · 45 all R n i · 46 the table with its sums R n · 47 all, up to k R n i k · 48 peaks raised up to k R n k -/
def refB (c : Nat) (n : E) : Blk := .cells [.slice c (.lit 0) n 5 false] true
def refM (t n : E) : Mem := [(0, refB 1 n), (1, rows5 t n false)]
def rPre : List PE := [.pr 18 [v 0, v 1], .pr 23 [v 0, v 1]]
def exE : E := fn3 46 (v 0) (v 1) (.lit 0)
def rWf : PE := .pr 19 [v 0, v 1]

def rOpen : Contract where
  fn := 57
  sorts := [true, false, false]
  args := [pB, i64 (v 2)]
  mem := refM (v 0) (v 1)
  nb := 2
  pre := []
  outs := [false]
  res := .bool (v 3)
  mods := refM (v 0) (v 1)
  fresh := []
  post := [.same (v 3) (opn (v 0) (v 1) (v 2))]
def rPath : Contract where
  fn := 63
  sorts := [true, false, false]
  args := [pB, i64 (v 2)]
  mem := refM (v 0) (v 1)
  nb := 2
  pre := [.pr 18 [v 0, v 1]]
  outs := [true, false]
  res := .slice 2 (.lit 0) (v 4) 1 true
  mods := refM (v 0) (v 1)
  fresh := [(2, rows1 (v 3) (v 4) true)]
  post := [.same (v 3) (fn3 43 (v 0) (v 1) (v 2)), .same (v 4) (fn3 44 (v 0) (v 1) (v 2))]
def aRPath : Ann where
  fn := 63
  bid := 0
  keep := [0]
  tmps := [(1, i64 (v 5)), (5, .slice 2 (.lit 0) (v 4) 1 true)]
  drop := []
  mem := [(2, rows1 (v 3) (v 4) true)]
  sorts := [true, false, false]
  nbl := 1
  inv := [.pr 22 [v 3, v 4, v 0, v 1, v 2, v 5]]
  meas := .bin .sub (.bin .add (v 1) (.lit 1)) (v 4)
def rOn : Contract := { cIn with fn := 78 }
def aOn : Ann := annCount 78 0 5 [0, 1] [] [] [false] 0 3 (v 1) [.pr 7 [v 0, v 3, v 2]]
def rAll : Contract where
  fn := 71
  sorts := [true, false, false]
  args := [pB, i64 (v 2)]
  mem := refM (v 0) (v 1)
  nb := 2
  pre := rPre
  outs := [false]
  res := i64 (v 3)
  mods := refM (v 0) (v 1)
  fresh := []
  post := [.same (v 3) (fn3 45 (v 0) (v 1) (v 2))]
def aRAll : Ann := annCount 71 0 6 [0, 1] [(5, i64 (v 3))] [] [false, false] 0 4 (v 1) [.same (v 3) (.fn 47 (v 0) (v 1) (v 2) (v 4))]
def rPeaks : Contract where
  fn := 79
  sorts := [true, false]
  args := [pB]
  mem := refM (v 0) (v 1)
  nb := 2
  pre := rPre
  outs := [true]
  res := .tup []
  mods := refM (v 2) (v 1)
  fresh := []
  post := [.same (v 2) (fn3 48 (v 0) (v 1) (v 1))]
def aRPeaks : Ann := { annCount 79 0 2 [0] [] [(1, rows5 (v 2) (v 1) false)] [true, false] 0 3 (v 1) [.same (v 2) (fn3 48 (v 0) (v 1) (v 3))] with drop := [1] }
def xR (P : Program) : Cx := { P, cs := [rOpen, rPath, rOn, rAll], anns := [aRPath, aOn, aRAll, aRPeaks] }
def xR0 (P : Program) : Cx := { P, cs := [], anns := [aRPath, aOn] }
def xR1 (P : Program) : Cx := { P, cs := [rOpen], anns := [aRPath] }
def xR2 (P : Program) : Cx := { P, cs := [rOpen, rPath, rOn], anns := [aRAll] }
def xR3 (P : Program) : Cx := { P, cs := [rOpen, rAll], anns := [aRPeaks] }

def rAsk (fn : FuncId) (rs : List E) : Contract where
  fn := fn
  sorts := [true, false, false]
  args := [pB, i64 (v 2)]
  mem := refM (v 0) (v 1)
  nb := 2
  pre := [rWf]
  outs := rs.map fun _ => false
  res := .tup ((List.range rs.length).map fun k => i64 (v (3 + k)))
  mods := refM (v 0) (v 1)
  fresh := []
  post := (List.range rs.length).map fun k => .same (v (3 + k)) (rs[k]?.getD .zt)
def rTight : Contract := rAsk 62 [fn3 6 exE (v 1) (v 2), fn3 4 exE (v 1) (v 2)]
def rHead : Contract := rAsk 60 [fn3 7 exE (v 1) (v 2), fn3 4 exE (v 1) (v 2)]
def rUsed : Contract := rAsk 59 [.fn 5 exE (v 1) (v 2) (.lit 2), .fn 5 exE (v 1) (v 2) (.lit 5), fn3 4 exE (v 1) (v 2)]
def rPeak : Contract := rAsk 61 [.fn 5 exE (v 1) (v 2) (.lit 3), fn3 4 exE (v 1) (v 2)]
/-- What turns the reference: the error is the program's of the table with sums, and so is the table, in what it shows. -/
def rTurn (fn : FuncId) (e t : Nat) : Contract where
  fn := fn
  sorts := [true, false, false, false]
  args := [pB, i64 (v 2), i64 (v 3)]
  mem := refM (v 0) (v 1)
  nb := 2
  pre := [rWf]
  outs := [true, false]
  res := i64 (v 5)
  mods := refM (v 4) (v 1)
  fresh := []
  post := [.same (v 5) (.fn e exE (v 1) (v 2) (v 3)), .pr 24 [v 4, .fn t exE (v 1) (v 2) (v 3), v 1]]
def rCharge : Contract := rTurn 56 8 9
def rGive : Contract := rTurn 53 10 11
def rLimit : Contract := rTurn 54 12 13
def rMove : Contract := rTurn 55 21 22
def rChild : Contract where
  fn := 51
  sorts := [true, false, false, false]
  args := [pB, i64 (v 2), i64 (v 3)]
  mem := refM (v 0) (v 1)
  nb := 2
  pre := [rWf]
  outs := [true, false, false, false]
  res := .tup [i64 (v 6), i64 (v 7)]
  mods := [(0, refB 2 (v 5))]
  fresh := [(2, rows5 (v 4) (v 5) false)]
  post := [.same (v 5) (.fn 15 exE (v 1) (v 2) (v 3)), .same (v 6) (.fn 17 exE (v 1) (v 2) (v 3)), .same (v 7) (.fn 14 exE (v 1) (v 2) (v 3)), .pr 24 [v 4, .fn 16 exE (v 1) (v 2) (v 3), v 5]]
def rClose : Contract where
  fn := 52
  sorts := [true, false, false]
  args := [pB, i64 (v 2)]
  mem := refM (v 0) (v 1)
  nb := 2
  pre := [rWf]
  outs := [true, false, false]
  res := i64 (v 5)
  mods := [(0, refB 1 (v 4)), (1, rows5 (v 3) (v 4) false)]
  fresh := []
  post := [.same (v 4) (fn3 19 exE (v 1) (v 2)), .same (v 5) (fn3 18 exE (v 1) (v 2)), .pr 24 [v 3, fn3 20 exE (v 1) (v 2), v 4]]
def rOver : Contract where
  fn := 31
  sorts := [true, false]
  args := [pB]
  mem := refM (v 0) (v 1)
  nb := 2
  pre := [rWf]
  outs := [true, false]
  res := .slice 2 (.lit 0) (v 3) 1 true
  mods := refM (v 0) (v 1)
  fresh := [(2, rows1 (v 2) (v 3) true)]
  post := [.same (v 2) (fn3 34 exE (v 1) (v 1)), .same (v 3) (fn3 35 exE (v 1) (v 1))]
def rSave : Contract where
  fn := 33
  sorts := [true, false]
  args := [pB]
  mem := refM (v 0) (v 1)
  nb := 2
  pre := [rWf]
  outs := [true, false]
  res := .agg [.slice 2 (.lit 0) (v 3) 5 true]
  mods := refM (v 0) (v 1)
  fresh := [(2, rows5 (v 2) (v 3) true)]
  post := [.same (v 2) (v 0), .same (v 3) (v 1)]
def rNew : Contract where
  fn := 28
  sorts := [false]
  args := [i64 (v 0)]
  mem := []
  nb := 0
  pre := [eLe (.lit 0) (v 0), eLe (v 0) (.lit 4096)]
  outs := [true]
  res := .tup [pB, i64 (.lit 0)]
  mods := []
  fresh := refM (v 1) (.lit 1)
  post := [.pr 24 [v 1, fn3 28 (v 0) .zt (.lit 0), .lit 1]]
def aRTight : Ann := annCount 62 0 8 [0, 6] [(7, i64 (v 6))] [] [false, false] 0 7 (v 5) [.pr 25 [v 0, v 1, v 2, v 6, v 7]]
def aRMove : Ann := annCount 55 0 10 [0, 1, 2, 7, 8, 9] [] [] [false] 0 14 (v 13) [.pr 26 [v 0, v 1, v 2, v 3, v 14]]
def aRChild : Ann := annCount 51 0 8 [0, 1, 2] [] [] [false] 0 5 (v 1) [.pr 27 [v 0, v 5]]
def aRClose : Ann := annCount 52 0 5 [0, 1] [] [] [false] 0 4 (v 1) [.pr 28 [v 0, v 1, v 2, v 4]]
def row5E (t i a b c d e : E) : E := .upd (.upd (.upd (.upd (.upd t i 0 a) i 1 b) i 2 c) i 3 d) i 4 e
def shut5E : E := row5E (v 0) (v 2) (.lit (-1)) (.lit 0) (.lit 0) (.lit 0) (.lit 1)
def aRTrim (k : Nat) : Ann where
  fn := 52
  bid := 2
  keep := [0, 1]
  tmps := []
  drop := [0]
  mem := [(0, refB 1 (v k))]
  sorts := [false]
  nbl := 0
  inv := [eLe (.lit 1) (v k), eLe (v k) (v 1), .same (fn3 33 shut5E (v k) (.lit 0)) (fn3 33 shut5E (v 1) (.lit 0))]
  meas := v k
def aROver : Ann := annCount 31 0 4 [0] [(3, .slice 2 (.lit 0) (v 3) 1 true)] [(2, rows1 (v 2) (v 3) true)] [true, false, false] 1 4 (v 1) [.same (v 2) (fn3 34 exE (v 1) (v 4)), .same (v 3) (fn3 35 exE (v 1) (v 4))]
def rAnns : List Ann := [aRTight, aRMove, aRChild, aRClose, aRTrim 5, aROver]
def rCs : List Contract := [rOpen, rPath, rOn, rAll, rPeaks]
def rCs2 : List Contract := [rOpen, rPath, rOn, rAll, rPeaks, rTight, rHead]
def xRCs (P : Program) : Cx := { P, cs := rCs, anns := rAnns }
def xRCs2 (P : Program) : Cx := { P, cs := rCs2, anns := rAnns }
end Go.Proofs.Ytafipmoglaepcaa.Ac
