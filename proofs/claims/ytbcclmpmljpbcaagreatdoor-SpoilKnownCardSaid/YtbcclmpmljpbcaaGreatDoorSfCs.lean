/-
  Contracts of what writes and reads faults as texts. Definitions alone. Conditions: none.
-/
import Derived.Test.YtbcclmpmljpbcaaGreatDoorMgCs
namespace Go.Sf
open Go Go.Sx Go.Mg

/-! fn 1, 2 what Follows says (kind index field), its error · 3 a numeral · 4 a fault's text (kind index field number) · 5 texts joined (table n sep) · 6, 7 pieces (text sep), their number · 8, 9 a text without a prefix, whether it has it · 10, 11 a number that is read, whether not · 12 the same, digit by digit, as far as i -/
def fsS : Nat → Option Bool
  | 1 | 2 | 3 | 4 | 5 | 7 | 8 | 9 | 10 | 11 | 12 => some false
  | 6 => some true
  | 1000 | 1001 | 1002 | 1003 | 1004 | 1005 => some false
  | 1006 => some true
  | _ => none
def str (e : E) : AV := .sat e
def sln (e : E) : E := .fn 1001 e (.lit 0) (.lit 0) (.lit 0)
def z0 : E := .lit 0
def sK : List CK := [.str]
def fK : List CK := [.bool, .str]
def mn : E := .lit (-9223372036854775808)
def mx : E := .lit 9223372036854775807
/-- Contracts of the library's. -/
def cFormat : Contract := { c0 with fn := 71, sorts := [false], args := [i64 (v 0), i64 (.lit 10)], pre := [.rng .i64 (v 0)], outs := [false], res := str (v 1), post := [.same (v 1) (.fn 3 (v 0) z0 z0 z0)] }
def cTrim : Contract := { c0 with fn := 74, sorts := [false, false], args := [str (v 0), str (v 1)], outs := [false, false], res := .tup [str (v 2), .bool (v 3)], post := [.same (v 2) (.fn 8 (v 0) (v 1) z0 z0), .same (v 3) (.fn 9 (v 0) (v 1) z0 z0)] }
def cPInt : Contract := { c0 with fn := 76, sorts := [false], args := [str (v 0), i64 (.lit 10), i64 (.lit 64)], pre := [eLe (sln (v 0)) (.lit 1000000)], outs := [false, false], res := .tup [i64 (v 1), .ifo (v 2)], post := [.same (v 1) (.fn 10 (v 0) z0 z0 z0), .same (v 2) (.fn 11 (v 0) z0 z0 z0), .rng .i64 (v 1)] }
def cSplit : Contract := { c0 with fn := 28, sorts := [false, false], args := [str (v 0), str (v 1)], pre := [eLe (sln (v 0)) (.lit 1000000), eLe (.lit 1) (sln (v 1))], outs := [true, false], res := .slice 0 z0 (v 3) 1 false, fresh := [(0, .rows sK (v 2) (v 3) true false)], post := [.same (v 2) (.fn 6 (v 0) (v 1) z0 z0), .same (v 3) (.fn 7 (v 0) (v 1) z0 z0), eLe (.lit 1) (v 3)] }
/-! pr 30 short texts: T n sep -/
def cJoin : Contract := { c0 with fn := 24, sorts := [true, false, false], args := [.slice 0 z0 (v 1) 1 true, str (v 2)], mem := [(0, .rows sK (v 0) (v 1) false true)], nb := 1, pre := [eLe z0 (v 1), .pr 30 [v 0, v 1, v 2]], outs := [false], res := str (v 3), post := [.same (v 3) (.fn 5 (v 0) (v 1) (v 2) z0)] }
/-- What a place is. -/
def cFol (f : FuncId) : Contract := { c0 with fn := f, sorts := [false, false, false], args := [i64 (v 0), i64 (v 1), i64 (v 2)], outs := [false, false], res := .tup [.bool (v 3), i64 (v 4)], post := [.same (v 3) (.fn 1 (v 0) (v 1) (v 2) z0), .same (v 4) (.fn 2 (v 0) (v 1) (v 2) z0)] }
def cDig : Contract := { c0 with fn := 26, sorts := [false], args := [i64 (v 0)], pre := [.rng .i64 (v 0)], outs := [false], res := str (v 1), post := [.same (v 1) (.fn 3 (v 0) z0 z0 z0)] }
def cPrt (f : FuncId) : Contract := { c0 with fn := f, sorts := [false, false, false, false], args := [.agg [i64 (v 0), i64 (v 1), i64 (v 2), i64 (v 3)]], pre := [.rng .i64 (v 0), .rng .i64 (v 1), .rng .i64 (v 2), .rng .i64 (v 3)], outs := [false, false], res := .tup [str (v 4), i64 (v 5)], post := [.same (v 5) (.fn 2 (v 0) (v 1) (v 2) z0), .same (v 4) (.fn 4 (v 0) (v 1) (v 2) (v 3))] }
/-! pr 10 a numeral is read: s n e -/
def cInt (f : FuncId) : Contract := { c0 with fn := f, sorts := [false], args := [str (v 0), i64 mn, i64 mx], pre := [eLe (sln (v 0)) (.lit 100000)], outs := [false, false], res := .tup [i64 (v 1), i64 (v 2)], post := [.rng .i64 (v 1), .pr 10 [v 0, v 1, v 2]] }
def aInt : Ann where
  fn := 29
  bid := 0
  keep := [0, 1, 2, 8, 9, 22]
  tmps := [(23, i64 (v 3))]
  drop := []
  mem := []
  sorts := [false]
  nbl := 0
  inv := [eLe z0 (v 3), eLe (v 3) (sln (v 1))]
  meas := .bin .sub (sln (v 1)) (v 3)
/-! pr 18 a fault is read: s k i f t e -/
def cPar (f : FuncId) : Contract := { c0 with fn := f, sorts := [false], args := [str (v 0)], pre := [eLe (sln (v 0)) (.lit 200)], outs := [false, false, false, false, false], res := .tup [.agg [i64 (v 1), i64 (v 2), i64 (v 3), i64 (v 4)], i64 (v 5)], post := [.pr 18 [v 0, v 1, v 2, v 3, v 4, v 5]] }
def cs0 : List Contract := [cFormat, cTrim, cPInt, cSplit, cJoin]
def xFol (P : Program) : Cx := { P, cs := [], anns := [], kn := kn }
def xDig (P : Program) : Cx := { P, cs := [cFormat], anns := [], kn := kn }
def xPrt (P : Program) : Cx := { P, cs := [cFol 10, cDig, cJoin], anns := [], kn := kn }
def xInt (P : Program) : Cx := { P, cs := [cTrim, cPInt], anns := [aInt], kn := kn }
def xPar (P : Program) : Cx := { P, cs := [cSplit, cInt 29, cPrt 9], anns := [], kn := kn }
/-! The reference's. pr 20, 21 a number's depth · pr 11 a numeral is whole: s b · pr 12 a field ends: s from to · pr 13 no blank so far: s from i · pr 14 printable: s b · pr 15 a right field: quoted s b · pr 16 fields: s T n e · pr 17 fields so far: s from T n -/
def cRDig (j : Nat) : Contract := { c0 with fn := 34, sorts := [false], args := [i64 (v 0)], pre := [.rng .i64 (v 0), .pr j [v 0]], outs := [false], res := str (v 1), post := [.same (v 1) (.fn 3 (v 0) z0 z0 z0)] }
def cRDg : Contract := { c0 with fn := 34, sorts := [false], args := [i64 (v 0)], pre := [.rng .i64 (v 0)], outs := [false], res := str (v 1), post := [.same (v 1) (.fn 3 (v 0) z0 z0 z0)] }
def sPre : List PE := [eLe (sln (v 0)) (.lit 100000)]
def cWhole : Contract := { c0 with fn := 80, sorts := [false], args := [str (v 0)], pre := sPre, outs := [false], res := .bool (v 1), post := [.pr 11 [v 0, v 1]] }
def aWhole (q : Int) : Ann where
  fn := 80
  bid := 0
  keep := [0]
  tmps := [(3, i64 (.lit q)), (4, i64 (v 1))]
  drop := []
  mem := []
  sorts := [false]
  nbl := 0
  inv := [eLe (.lit q) (v 1), eLe (v 1) (sln (v 0))]
  meas := .bin .sub (sln (v 0)) (v 1)
def aRInt : Ann where
  fn := 36
  bid := 0
  keep := [0, 1, 2]
  tmps := [(9, i64 (v 2)), (8, i64 (v 3))]
  drop := []
  mem := []
  sorts := [false, false]
  nbl := 0
  inv := [eLe z0 (v 2), eLe (v 2) (sln (v 0)), .same (v 3) (.fn 12 (v 0) (v 2) z0 z0)]
  meas := .bin .sub (sln (v 0)) (v 2)
def cEnd : Contract := { c0 with fn := 77, sorts := [false, false], args := [str (v 0), i64 (v 1)], pre := [eLe (sln (v 0)) (.lit 100000), eLe z0 (v 1), .tt (.bin .lt (v 1) (sln (v 0)))], outs := [false], res := i64 (v 2), post := [eLe (v 1) (v 2), eLe (v 2) (sln (v 0)), .pr 12 [v 0, v 1, v 2]] }
def aEnd : Ann where
  fn := 77
  bid := 0
  keep := [0, 1, 5]
  tmps := [(6, i64 (v 2))]
  drop := []
  mem := []
  sorts := [false]
  nbl := 0
  inv := [eLe (v 1) (v 2), eLe (v 2) (sln (v 0)), .pr 13 [v 0, v 1, v 2]]
  meas := .bin .sub (sln (v 0)) (v 2)
def cText : Contract := { c0 with fn := 157, sorts := [false], args := [str (v 0)], pre := sPre, outs := [false], res := .bool (v 1), post := [.pr 14 [v 0, v 1]] }
def aText : Ann where
  fn := 157
  bid := 0
  keep := [0]
  tmps := [(3, i64 (v 1))]
  drop := []
  mem := []
  sorts := [false]
  nbl := 0
  inv := [eLe z0 (v 1), eLe (v 1) (sln (v 0))]
  meas := .bin .sub (sln (v 0)) (v 1)
def cUnq : Contract := { c0 with fn := 78, sorts := [false], args := [str (v 0)], pre := sPre, outs := [false, false], res := .tup [str (v 1), i64 (v 2)], post := [eLe (sln (v 1)) (.lit 100000)] }
def aUnq : Ann where
  fn := 78
  bid := 0
  keep := [0]
  tmps := [(5, i64 (v 1)), (4, str (v 2))]
  drop := []
  mem := []
  sorts := [false, false]
  nbl := 0
  inv := [eLe (.lit 1) (v 1), eLe (v 1) (sln (v 0)), eLe (sln (v 2)) (v 1)]
  meas := .bin .sub (sln (v 0)) (v 1)
def cRight : Contract := { c0 with fn := 79, sorts := [false, false], args := [.agg [.bool (v 0), str (v 1)]], pre := [eLe (sln (v 1)) (.lit 100000)], outs := [false], res := .bool (v 2), post := [.pr 15 [v 0, v 1, v 2]] }
def aRight : Ann where
  fn := 79
  bid := 0
  keep := [1]
  tmps := [(3, i64 (v 2))]
  drop := []
  mem := []
  sorts := [false]
  nbl := 0
  inv := [eLe z0 (v 2), eLe (v 2) (sln (v 1))]
  meas := .bin .sub (sln (v 1)) (v 2)
def cRSpl : Contract := { c0 with fn := 35, sorts := [false], args := [str (v 0)], pre := [eLe (sln (v 0)) (.lit 200)], outs := [true, false, false], res := .tup [.slice 0 z0 (v 2) 2 true, i64 (v 3)], fresh := [(0, .rows fK (v 1) (v 2) true true)], post := [eLe z0 (v 2), .pr 22 [v 1, v 2], .pr 16 [v 0, v 1, v 2, v 3]] }
def aRSpl : Ann where
  fn := 35
  bid := 0
  keep := [0]
  tmps := [(5, i64 (v 1)), (4, .slice 0 z0 (v 3) 2 true)]
  drop := []
  mem := [(0, .rows fK (v 2) (v 3) true true)]
  sorts := [false, true, false]
  nbl := 1
  inv := [eLe z0 (v 1), eLe (v 1) (.bin .add (sln (v 0)) (.lit 1)), eLe z0 (v 3), eLe (v 3) (v 1), .pr 22 [v 2, v 3], .pr 17 [v 0, v 1, v 2, v 3]]
  meas := .bin .sub (.bin .add (sln (v 0)) (.lit 1)) (v 1)
def aRPar : Ann where
  fn := 15
  bid := 2
  keep := [0, 2, 6]
  tmps := [(8, i64 (v 10))]
  drop := []
  mem := []
  sorts := [false]
  nbl := 0
  inv := [eLe (.lit 1) (v 10), eLe (v 10) (.lit 17), .pr 19 [v 0, v 10, v 4, v 6, v 8]]
  meas := .bin .sub (.lit 17) (v 10)
def xRDig (P : Program) : Cx := { P, cs := [cRDig 20], anns := [], kn := kn }
def xWhole (P : Program) : Cx := { P, cs := [], anns := [aWhole 0, aWhole 1], kn := kn }
def xRInt (P : Program) : Cx := { P, cs := [cWhole, cRDg], anns := [aRInt], kn := { kn with wrp := true } }
def xEnd (P : Program) : Cx := { P, cs := [], anns := [aEnd], kn := kn }
def xText (P : Program) : Cx := { P, cs := [], anns := [aText], kn := kn }
def xUnq (P : Program) : Cx := { P, cs := [cText], anns := [aUnq], kn := kn }
def xRight (P : Program) : Cx := { P, cs := [cText], anns := [aRight], kn := kn }
def xRSpl (P : Program) : Cx := { P, cs := [cEnd, cUnq, cRight], anns := [aRSpl], kn := kn }
def xRPrt (P : Program) : Cx := { P, cs := [cFol 13, cRDg], anns := [], kn := kn }
def xRPar (P : Program) : Cx := { P, cs := [cRSpl, cInt 36, cPrt 14], anns := [aRPar], kn := kn }
end Go.Sf
namespace Go.Sf
open Go Go.Sx Go.Mg
/-- The test of being awake: it returns true. -/
def cAw : Contract := { c0 with fn := 12, res := .bool (.lit 1) }
def cTexts : Contract := { c0 with fn := 4, sorts := [false, false, false, false, false], args := [.agg [i64 (v 0), i64 (v 1), i64 (v 2), i64 (v 3)], str (v 4)], pre := [.rng .i64 (v 0), .rng .i64 (v 1), .rng .i64 (v 2), .rng .i64 (v 3)], res := .bool (.lit 1) }
def xTexts (P : Program) : Cx := { P, cs := [cAw, cFol 10, cFol 13, cPrt 9, cPrt 14, cPar 11, cPar 15], anns := [], kn := kn }
end Go.Sf
