/-
  The contract of JournalDiffs. Definitions alone. Conditions: none.
-/
import Derived.Test.YtoeacadacnnoeaaGreatDoorMgJk
namespace Go.Jn
open Go Go.Sx Go.Mg
/-- An entry's seven numbers. -/
def k7 : List CK := [.int .i64, .int .i64, .int .i64, .int .i64, .int .i64, .int .i64, .int .i64]
def logA (b : Nat) (i : Nat) : AV := .agg [i64 (v i), i64 (v (i + 1)), i64 (v (i + 2)), .slice b (.lit 0) (v (i + 4)) 7 true]
def logB (i : Nat) : Blk := .rows k7 (v (i + 3)) (v (i + 4)) false true
/-! pr 0 the rows before i are equal: A B i -/
def cDiffs : Contract := { c0 with fn := 4, sorts := [false, false, false, true, false, false, false, false, true, false], args := [logA 0 0, logA 1 5], mem := [(0, logB 0), (1, logB 5)], nb := 2, pre := [eLe (.lit 0) (v 4), eLe (.lit 0) (v 9)], res := .bool (.lit 1) }
def aDf (fn t i : Nat) (keep : List Nat) : Ann where
  fn := fn
  bid := 0
  keep := keep
  tmps := [(t, i64 (v i))]
  drop := []
  mem := []
  sorts := [false]
  nbl := 0
  inv := [eLe (.lit 0) (v i), eLe (v i) (v 4), eLe (v i) (v 9), .pr 0 [v 3, v 8, v i]]
  meas := .bin .sub (v 4) (v i)
def xDiffs (P : Program) : Cx := { P, cs := [cShown27], anns := [aDf 16 16 10 [2, 3, 14, 15], aDf 17 6 11 [2, 3]], kn := kn }
end Go.Jn
