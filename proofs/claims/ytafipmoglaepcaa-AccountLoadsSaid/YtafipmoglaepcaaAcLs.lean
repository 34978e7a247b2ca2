/-
  Contracts of the laws of account and of what they call. Definitions alone; nothing here speaks of a program.
-/
import Derived.Test.YtafipmoglaepcaaAcCs
namespace Go.Proofs.Ytafipmoglaepcaa.Ac
open Go Go.Sx

def cAwake : Contract where
  fn := 11
  sorts := []
  args := []
  mem := []
  nb := 0
  pre := []
  outs := []
  res := .bool (.lit 1)
  mods := []
  fresh := []
  post := []
/-- list of a path, as walked gives it. -/
def wkM : Mem := budM (v 0) (v 1) ++ [(2, .cells [pB] true), (3, .cells [i64 (v 2)] true), (4, .cells [.func 44 []] true)]
def cList : Contract where
  fn := 18
  sorts := [true, false, false]
  args := [.func 74 [.ptr 2 (.lit 0) 0 0, .ptr 3 (.lit 0) 0 0, .ptr 4 (.lit 0) 0 0]]
  mem := wkM
  nb := 5
  pre := [.pr 3 [v 0, v 1]]
  outs := [true, false]
  res := .tup [.slice 5 (.lit 0) (v 4) 1 true, .bool (.lit 1)]
  mods := wkM
  fresh := [(5, rows1 (v 3) (v 4) true)]
  post := [.same (v 3) (fn3 31 (v 0) (v 1) (v 2)), .same (v 4) (fn3 32 (v 0) (v 1) (v 2))]
def aList : Ann := annCount 74 0 18 [17, 16, 0, 1, 2, 3] [] [(7, .cells [.slice 14 (.lit 0) (v 8) 1 true] true), (14, rows1 (v 7) (v 8) true), (9, .loop .ready none 18 0 18 [(4, .ptr 7 (.lit 0) 0 0), (3, .ptr 6 (.lit 0) 0 0), (2, .ptr 5 (.lit 0) 0 0)] 8)]
  [true, false, false] 1 9 (v 5) [.same (v 8) (v 9), .same (v 7) (fn3 40 (v 4) (v 9) (.lit 0))]
def xList (P : Program) : Cx := { P, cs := [cCollect, cOpen], anns := [aList] }
/-- Two states: are they equal? -/
def cTwo (fn : FuncId) (p : Nat) : Contract where
  fn := fn
  sorts := [true, false, true, false]
  args := [.agg [.slice 0 (.lit 0) (v 1) 5 true], .agg [.slice 1 (.lit 0) (v 3) 5 true]]
  mem := [(0, rows5 (v 0) (v 1) true), (1, rows5 (v 2) (v 3) true)]
  nb := 2
  pre := [eLe (.lit 0) (v 1), eLe (v 1) (.lit 1000), eLe (.lit 0) (v 3), eLe (v 3) (.lit 1000)]
  outs := [false]
  res := .bool (v 4)
  mods := [(0, rows5 (v 0) (v 1) true), (1, rows5 (v 2) (v 3) true)]
  fresh := []
  post := [.pr p [v 0, v 1, v 2, v 3, v 4]]
def cSame : Contract := cTwo 21 12
def cBut : Contract := cTwo 23 13
def aSame : Ann := annCount 21 0 5 [0, 1, 2, 3] [] [] [false] 0 4 (v 1) [.pr 14 [v 0, v 2, v 4]]
def aBut : Ann := annCount 23 0 5 [0, 1, 2, 3] [] [] [false] 0 4 (v 1) [.pr 15 [v 0, v 2, v 4]]
def aIn : Ann := annCount 26 0 5 [0, 1] [] [] [false] 0 3 (v 1) [.pr 7 [v 0, v 3, v 2]]
def xTwo (P : Program) : Cx := { P, cs := [], anns := [aSame, aBut, aIn] }
/-- Is a number in a list? -/
def cIn : Contract where
  fn := 26
  sorts := [true, false, false]
  args := [.slice 0 (.lit 0) (v 1) 1 true, i64 (v 2)]
  mem := [(0, rows1 (v 0) (v 1) true)]
  nb := 1
  pre := [eLe (.lit 0) (v 1), eLe (v 1) (.lit 1000000)]
  outs := [false]
  res := .bool (v 3)
  mods := [(0, rows1 (v 0) (v 1) true)]
  fresh := []
  post := [.pr 4 [v 0, v 1, v 2, v 3]]
/-- A law of a limit, a list of calls, and perhaps one call more. -/
def cLaw (fn : FuncId) : Contract where
  fn := fn
  sorts := [false, true, false]
  args := [.int .u16 (v 0), .slice 0 (.lit 0) (v 2) 3 true]
  mem := [(0, actsB (v 1) (v 2))]
  nb := 1
  pre := [.rng .u16 (v 0), .pr 11 [v 1, v 2]]
  outs := []
  res := .bool (.lit 1)
  mods := []
  fresh := []
  post := []
def cLawX (fn : FuncId) : Contract where
  fn := fn
  sorts := [false, true, false, false, false, false]
  args := [.int .u16 (v 0), .slice 0 (.lit 0) (v 2) 3 true, actA (v 3) (v 4) (v 5)]
  mem := [(0, actsB (v 1) (v 2))]
  nb := 1
  pre := [.rng .u16 (v 0), .pr 11 [v 1, v 2], .rng .u8 (v 3), .rng .i64 (v 4), .rng .i64 (v 5)]
  outs := []
  res := .bool (.lit 1)
  mods := []
  fresh := []
  post := []
/-- played, what counts of it. -/
def cPlayedW : Contract := { cPlayed with post := [.pr 3 [v 3, v 4]] }
def lawCs : List Contract := [cAwake, cPlayedW, cDoes, cSave, cOver, cUsed, cPeak, cHead, cList, cCharge, cGive, cMove, cSame, cBut, cIn]
def peakCs : List Contract := [cAwake, cPlayed, cDoes, cUsed, cPeak]
def aHead1 : Ann := annCount 4 0 15 [5, 7, 8, 9, 10, 11, 12, 13] [(14, .slice 10 (.lit 0) (v 16) 1 true)] [(10, rows1 (v 14) (v 16) true)] [true, false, false] 1 15 (v 13) [.same (v 16) (v 15), .same (v 14) (.fn 42 (v 6) (v 12) (v 15) (.lit 0))]
def aHead2 (k : Nat) : Ann := annCount 4 2 21 [5, 7, 8, 9, 10, 11, 12, 13, 14, 19, 20] [] [] [false] 0 k (v 13) []
def xHeadL (P : Program) : Cx := { P, cs := lawCs, anns := [aHead1, aHead2 21, aHead2 22] }
def xBackL (P : Program) : Cx := { P, cs := lawCs, anns := [] }
def aSums1 : Ann := annCount 6 0 10 [5, 6, 7] [(9, i64 (v 9))] [] [false, false] 0 10 (v 6) [.same (v 9) (fn3 35 (v 3) (v 4) (v 10))]
def aSums2 : Ann := annCount 6 2 15 [5, 6, 7, 9, 10, 11, 12, 13] [(14, i64 (v 14))] [] [false, false] 0 15 (v 6) [eLe (.lit 1) (v 15), .same (v 14) (.fn 41 (v 3) (v 4) (v 10) (v 15))]
def xSumsL (P : Program) : Cx := { P, cs := lawCs, anns := [aSums1, aSums2] }
def aErrs1 : Ann := { annCount 7 0 6 [0, 1, 5] [] [(1, budB 3 (v 6)), (3, rowsB (v 5) (v 6))] [true, false, false] 1 7 (v 2) [.pr 3 [v 5, v 6]] with drop := [1, 2, 3] }
def aErrs2 (k : Nat) : Ann := annCount 7 2 14 [0, 1, 5, 6, 8, 12] [] [] [false] 0 k (v 17) []
def xErrsL (P : Program) : Cx := { P, cs := lawCs, anns := [aErrs1, aErrs2 21, aErrs2 18] }
def aPeaks1 : Ann := { annCount 3 0 7 [0, 1, 5, 6] [] [(3, rows1 (v 5) (.lit 64) false), (1, budB 4 (v 7)), (4, rowsB (v 6) (v 7))] [true, true, false, false] 1 8 (v 2) [.pr 3 [v 6, v 7], .pr 16 [v 5, v 6, v 7]] with drop := [1, 2, 3, 4] }
def aPeaks2 : Ann := annCount 3 2 10 [0, 1, 5, 6, 7] [] [(3, rows1 (v 13) (.lit 64) false)] [true, false] 0 14 (.lit 64) [.pr 17 [v 13, v 9, v 10, v 14]]
def xPeaksL (P : Program) : Cx := { P, cs := peakCs, anns := [aPeaks1, aPeaks2] }
end Go.Proofs.Ytafipmoglaepcaa.Ac
