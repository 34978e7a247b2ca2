/-
  The contract of JournalDiffs. Definitions alone. Conditions: none.
-/
import Derived.Test.YtoeacadacnnoeaaGreatDoorMgSv
namespace Go.Jn
open Go Go.Sx Go.Mg
/-- An entry's seven numbers. -/
def k7 : List CK := [.int .i64, .int .i64, .int .i64, .int .i64, .int .i64, .int .i64, .int .i64]
def logA (b : Nat) (i : Nat) : AV := .agg [i64 (v i), i64 (v (i + 1)), i64 (v (i + 2)), .slice b (.lit 0) (v (i + 4)) 7 true]
def logB (i : Nat) : Blk := .rows k7 (v (i + 3)) (v (i + 4)) false true
/-! pr 0 the rows before i are equal: A B i -/
def cDiffs : Contract := { c0 with fn := 4, sorts := [false, false, false, true, false, false, false, false, true, false], args := [logA 0 0, logA 1 5], mem := [(0, logB 0), (1, logB 5)], nb := 2, pre := [eLe (.lit 0) (v 4), eLe (.lit 0) (v 9)], res := .bool (.lit 1) }
def aDf (fn t i : Nat) (keep : List Nat) : Ann where
  fn := fn
  bid := 0
  keep := keep
  tmps := [(t, i64 (v i))]
  drop := []
  mem := []
  sorts := [false]
  nbl := 0
  inv := [eLe (.lit 0) (v i), eLe (v i) (v 4), eLe (v i) (v 9), .pr 0 [v 3, v 8, v i]]
  meas := .bin .sub (v 4) (v i)
def xDiffs (P : Program) : Cx := { P, cs := [cShown27], anns := [aDf 16 16 10 [2, 3, 14, 15], aDf 17 6 11 [2, 3]], kn := kn }
end Go.Jn

namespace Go.Jn
open Go Go.Sx Go.Mg

/-! fn 1 eight bytes of a number behind n rows: T n x · fn 2 the checksum: T lo n h · fn 3 four bytes of a checksum behind n rows: T n h · fn 4 the number at a row: T at ·
pr 10 a header: F lim age keep · pr 11 an entry is added: R h' T n h x0 .. x6 · pr 12 an encoding: F lim age keep E k · pr 14 four bytes at a row are a checksum's: b T at h · pr 15 a right header: T n · pr 16 so many entries are valid: T n k · pr 17 the entries that are read: T E k · pr 18 no right header: T n -/
def fsJ : Nat → Option Bool
  | 1 | 3 => some true
  | 2 | 4 => some false
  | _ => none
def u8K : List CK := [.int .u8]
def bytB (t n : E) (w : Bool) : Blk := .rows u8K t n w true
def bytF (t n : E) : Blk := .rows u8K t n true false
def eAdd (a b : E) : E := .bin .add a b
def cPut (f : FuncId) : Contract := { c0 with fn := f, sorts := [true, false, false], args := [.slice 0 (.lit 0) (v 1) 1 true, i64 (v 2)], mem := [(0, bytB (v 0) (v 1) true)], nb := 1, pre := [eLe (.lit 0) (v 1), eLe (v 1) (.lit 100000)], outs := [true, false], res := .slice 1 (.lit 0) (v 4) 1 false, mods := [], fresh := [(1, bytF (v 3) (v 4))], post := [.same (v 3) (.fn 1 (v 0) (v 1) (v 2) (.lit 0)), .same (v 4) (eAdd (v 1) (.lit 8))] }
def cSeal : Contract := { c0 with fn := 106, sorts := [true, false, false], args := [.slice 0 (.lit 0) (v 1) 1 true, .int .u32 (v 2)], mem := [(0, bytB (v 0) (v 1) true)], nb := 1, pre := [eLe (.lit 0) (v 1), eLe (v 1) (.lit 100000), .rng .u32 (v 2)], outs := [true, false], res := .slice 1 (.lit 0) (v 4) 1 false, mods := [], fresh := [(1, bytF (v 3) (v 4))], post := [.same (v 3) (.fn 3 (v 0) (v 1) (v 2) (.lit 0)), .same (v 4) (eAdd (v 1) (.lit 4))] }
def cHash : Contract := { c0 with fn := 57, sorts := [false, true, false, false, false], args := [.int .u32 (v 0), .slice 0 (v 3) (v 4) 1 true], mem := [(0, bytB (v 1) (v 2) false)], nb := 1, pre := [.rng .u32 (v 0), eLe (.lit 0) (v 3), eLe (.lit 0) (v 4), eLe (eAdd (v 3) (v 4)) (v 2), eLe (v 2) (.lit 1000000)], outs := [false], res := .int .u32 (v 5), post := [.same (v 5) (.fn 2 (v 1) (v 3) (v 4) (v 0))] }
def aHash : Ann where
  fn := 57
  bid := 0
  keep := [7, 8]
  tmps := [(9, i64 (v 5)), (0, .int .u32 (v 6))]
  drop := []
  mem := []
  sorts := [false, false]
  nbl := 0
  inv := [eLe (.lit 0) (v 5), eLe (v 5) (v 4), .same (v 6) (.fn 2 (v 1) (v 3) (v 5) (v 0))]
  meas := .bin .sub (v 4) (v 5)
def cHeader : Contract := { c0 with fn := 56, sorts := [false, false, false], args := [.agg [i64 (v 0), i64 (v 1), i64 (v 2)]], outs := [true, false], res := .slice 0 (.lit 0) (v 4) 1 false, fresh := [(0, bytF (v 3) (v 4))], post := [.same (v 4) (.lit 36), .pr 10 [v 3, v 0, v 1, v 2]] }
def cAdd : Contract := { c0 with fn := 58, sorts := [true, false, false, false, false, false, false, false, false, false], args := [.slice 0 (.lit 0) (v 1) 1 true, .agg [i64 (v 3), i64 (v 4), i64 (v 5), i64 (v 6), i64 (v 7), i64 (v 8), i64 (v 9)], .int .u32 (v 2)], mem := [(0, bytB (v 0) (v 1) true)], nb := 1, pre := [eLe (.lit 0) (v 1), eLe (v 1) (.lit 40000), .rng .u32 (v 2)], outs := [true, false, false], res := .tup [.slice 1 (.lit 0) (v 12) 1 false, .int .u32 (v 11)], mods := [], fresh := [(1, bytF (v 10) (v 12))], post := [.same (v 12) (eAdd (v 1) (.lit 60)), .pr 11 [v 10, v 11, v 0, v 1, v 2, v 3, v 4, v 5, v 6, v 7, v 8, v 9]] }
def encN (k : E) : E := eAdd (.lit 36) (.bin .mul (.lit 60) k)
def cEncode : Contract := { c0 with fn := 18, sorts := [false, false, false, true, false], args := [logA 0 0], mem := [(0, logB 0)], nb := 1, pre := [eLe (.lit 0) (v 4), eLe (v 4) (.lit 500)], outs := [true, false], res := .tup [.slice 1 (.lit 0) (v 6) 1 false, i64 (.lit 0)], mods := [], fresh := [(1, bytF (v 5) (v 6))], post := [.same (v 6) (encN (v 4)), .pr 12 [v 5, v 0, v 1, v 2, v 3, v 4]] }
def cPuts : List Contract := [cPut 104, cPut 105, cPut 107, cSeal, cHash]
def xJ1 (P : Program) : Cx := { P, cs := cPuts, anns := [], kn := kn }
def aEnc : Ann where
  fn := 18
  bid := 0
  keep := [18, 19, 1]
  tmps := [(20, i64 (v 10)), (4, .slice 3 (.lit 0) (v 9) 1 false), (5, .int .u32 (v 11))]
  drop := [2]
  mem := [(3, bytF (v 8) (v 9))]
  sorts := [true, false, false, false]
  nbl := 1
  inv := [eLe (.lit 0) (v 10), eLe (v 10) (v 4), .same (v 9) (encN (v 10)), .pr 12 [v 8, v 0, v 1, v 2, v 3, v 10], .same (v 11) (.fn 2 (v 8) (.lit 0) (encN (v 10)) (.lit 2166136261))]
  meas := .bin .sub (v 4) (v 10)
def xJ2 (P : Program) : Cx := { P, cs := [cHeader, cHash, cAdd], anns := [aEnc], kn := kn }
def cSealed : Contract := { c0 with fn := 61, sorts := [true, false, false, false, false], args := [.slice 0 (v 2) (v 3) 1 true, .int .u32 (v 4)], mem := [(0, bytB (v 0) (v 1) false)], nb := 1, pre := [eLe (.lit 0) (v 2), eLe (.lit 4) (v 3), eLe (eAdd (v 2) (v 3)) (v 1), eLe (v 1) (.lit 1000000), .byt (v 0) (v 1), .rng .u32 (v 4)], outs := [false], res := .bool (v 5), post := [.pr 14 [v 5, v 0, .bin .sub (eAdd (v 2) (v 3)) (.lit 4), v 4]] }
def cGet (f : FuncId) : Contract := { c0 with fn := f, sorts := [true, false, false, false], args := [.slice 0 (v 2) (v 3) 1 true], mem := [(0, bytB (v 0) (v 1) false)], nb := 1, pre := [eLe (.lit 0) (v 2), eLe (.lit 8) (v 3), eLe (eAdd (v 2) (v 3)) (v 1), eLe (v 1) (.lit 1000000), .byt (v 0) (v 1)], outs := [false], res := i64 (v 4), post := [.same (v 4) (.fn 4 (v 0) (v 2) (.lit 0) (.lit 0))] }
def cDecode : Contract := { c0 with fn := 21, sorts := [true, false, false], args := [.slice 0 (.lit 0) (v 2) 1 true], mem := [(0, bytB (v 0) (v 1) false)], nb := 1, pre := [eLe (.lit 0) (v 2), eLe (v 2) (v 1), eLe (v 1) (.lit 1000000), eLe (v 2) (.lit 30036), .byt (v 0) (v 1), .pr 15 [v 0, v 2]], outs := [true, false, false, false, false, false], res := .tup [.agg [i64 (v 5), i64 (v 6), i64 (v 7), .slice 1 (.lit 0) (v 4) 7 true], i64 (v 8), i64 (.lit 0)], fresh := [(1, .rows k7 (v 3) (v 4) true true)], post := [.same (v 5) (.fn 4 (v 0) (.lit 8) (.lit 0) (.lit 0)), .same (v 6) (.fn 4 (v 0) (.lit 16) (.lit 0) (.lit 0)), .same (v 7) (.fn 4 (v 0) (.lit 24) (.lit 0) (.lit 0)), .same (v 8) (encN (v 4)), .pr 16 [v 0, v 2, v 4], .pr 17 [v 0, v 3, v 4]] }
def cDecodeBad : Contract := { c0 with fn := 21, sorts := [true, false, false], args := [.slice 0 (.lit 0) (v 2) 1 true], mem := [(0, bytB (v 0) (v 1) false)], nb := 1, pre := [eLe (.lit 0) (v 2), eLe (v 2) (v 1), eLe (v 1) (.lit 1000000), eLe (v 2) (.lit 30036), .byt (v 0) (v 1), .pr 18 [v 0, v 2]], res := .tup [.agg [i64 (.lit 0), i64 (.lit 0), i64 (.lit 0), .nilslice], i64 (.lit 0), i64 (.lit 6)] }
def cGets : List Contract := [cHash, cSealed, cGet 62, cGet 63, cGet 111]
def aDec : Ann where
  fn := 110
  bid := 0
  keep := [0, 1]
  tmps := [(4, .slice 0 (v 12) (v 13) 1 true), (3, .int .u32 (v 11))]
  drop := [1, 4]
  mem := [(1, .cells [i64 (v 5), i64 (v 6), i64 (v 7), .slice 5 (.lit 0) (v 10) 7 true] true), (5, .rows k7 (v 9) (v 10) true true), (4, .loop .ready none 21 0 55 [(2, .ptr 1 (.lit 0) 0 0)] 3)]
  sorts := [true, false, false, false, false]
  nbl := 1
  inv := [eLe (.lit 0) (v 10), eLe (encN (v 10)) (v 2), .same (v 12) (encN (v 10)), .same (v 13) (.bin .sub (v 2) (encN (v 10))), .pr 17 [v 0, v 9, v 10], .pr 19 [v 0, v 10], .same (v 11) (.fn 2 (v 0) (.lit 0) (encN (v 10)) (.lit 2166136261))]
  meas := .bin .sub (v 2) (encN (v 10))
def xJ3 (P : Program) : Cx := { P, cs := cGets, anns := [aDec], kn := kn }
def xJ0 (P : Program) : Cx := { P, cs := [], anns := [aHash], kn := kn }
/-- Are two logs equal? -/
def cSameL : Contract := { c0 with fn := 22, sorts := [false, false, false, true, false, false, false, false, true, false, false], args := [.agg [i64 (v 0), i64 (v 1), i64 (v 2), .slice 0 (.lit 0) (v 4) 7 true], .agg [i64 (v 5), i64 (v 6), i64 (v 7), .slice 1 (.lit 0) (v 10) 7 true]], mem := [(0, .rows k7 (v 3) (v 4) false true), (1, .rows k7 (v 8) (v 9) false true)], nb := 2, pre := [eLe (.lit 0) (v 4), eLe (.lit 0) (v 10), eLe (v 10) (v 9), eLe (v 9) (.lit 1000000)], outs := [false], res := .bool (v 11), post := [.pr 20 [v 11, v 0, v 1, v 2, v 3, v 4, v 5, v 6, v 7, v 8, v 10]] }
def aSameL : Ann := { aDf 17 6 11 [2, 3] with inv := [eLe (.lit 0) (v 11), eLe (v 11) (v 4), eLe (v 11) (v 10), .pr 0 [v 3, v 8, v 11]] }
def xSameL (P : Program) : Cx := { P, cs := [], anns := [aSameL], kn := kn }
/-- JournalBytes: a byte of the header, or another. -/
def encLen : E := encN (v 4)
def cBytes (p : PE) : Contract := { c0 with fn := 6, sorts := [false, false, false, true, false, false, false], args := [logA 0 0, .int .u16 (v 5), .int .u8 (v 6)], mem := [(0, logB 0)], nb := 1, pre := [eLe (.lit 0) (v 4), .rng .i64 (v 0), .rng .i64 (v 1), .rng .i64 (v 2), .pr 22 [v 3, v 4], .rng .u16 (v 5), .rng .u8 (v 6), p], res := .bool (.lit 1) }
def cBytesH : Contract := cBytes (.tt (.bin .lt (.bin .tmod (v 5) encLen) (.lit 36)))
def cBytesE : Contract := cBytes (.tt (.bin .le (.lit 36) (.bin .tmod (v 5) encLen)))
def xBytesH (P : Program) : Cx := { P, cs := [cShown27, cEncode, cDecodeBad, cSameL], anns := [], kn := kn }
def xBytesE (P : Program) : Cx := { P, cs := [cShown27, cEncode, cDecode, cSameL], anns := [], kn := kn }
end Go.Jn

namespace Go.Jn
open Go Go.Sx Go.Mg
def cCuts (p : PE) : Contract := { c0 with fn := 9, sorts := [false, false, false, true, false, false], args := [logA 0 0, .int .u16 (v 5)], mem := [(0, logB 0)], nb := 1, pre := [eLe (.lit 0) (v 4), .rng .i64 (v 0), .rng .i64 (v 1), .rng .i64 (v 2), .pr 22 [v 3, v 4], .rng .u16 (v 5), p], res := .bool (.lit 1) }
def cutE : E := .bin .tmod (v 5) (eAdd encLen (.lit 1))
def cCutsH : Contract := cCuts (.tt (.bin .lt cutE (.lit 36)))
def cCutsE : Contract := cCuts (.tt (.bin .le (.lit 36) cutE))
def aCuts : Ann where
  fn := 9
  bid := 0
  keep := [2, 5]
  tmps := [(15, i64 (v 21)), (12, .slice 9 (.lit 0) (v 23) 1 false)]
  drop := [8]
  mem := [(9, bytF (v 22) (v 23))]
  sorts := [false, true, false]
  nbl := 1
  inv := [eLe (.lit 0) (v 21), eLe (v 21) (v 4), .same (v 23) (encN (v 21)), .pr 12 [v 22, v 0, v 1, v 2, v 3, v 21]]
  meas := .bin .sub (v 4) (v 21)
def xCutsH (P : Program) : Cx := { P, cs := [cShown27, cEncode, cDecodeBad, cSameL], anns := [], kn := kn }
def xCutsE (P : Program) : Cx := { P, cs := [cShown27, cEncode, cDecode, cSameL, cAdd, cHash], anns := [aCuts], kn := kn }
end Go.Jn

namespace Go.Jn
open Go Go.Sx Go.Mg
def rSum : Contract := { c0 with fn := 160, sorts := [true, false, false, false], args := [.slice 0 (v 2) (v 3) 1 true], mem := [(0, bytB (v 0) (v 1) false)], nb := 1, pre := [eLe (.lit 0) (v 2), eLe (.lit 0) (v 3), eLe (eAdd (v 2) (v 3)) (v 1), eLe (v 1) (.lit 1000000)], outs := [false], res := .int .u32 (v 4), post := [.same (v 4) (.fn 2 (v 0) (v 2) (v 3) (.lit 2166136261))] }
def aRSum : Ann where
  fn := 160
  bid := 0
  keep := [0]
  tmps := [(4, i64 (v 4)), (3, .int .u32 (v 5))]
  drop := []
  mem := []
  sorts := [false, false]
  nbl := 0
  inv := [eLe (.lit 0) (v 4), eLe (v 4) (v 3), .same (v 5) (.fn 2 (v 0) (v 2) (v 4) (.lit 2166136261))]
  meas := .bin .sub (v 3) (v 4)
def rNumber : Contract := { c0 with fn := 108, sorts := [false], args := [i64 (v 0)], outs := [true, false], res := .slice 0 (.lit 0) (v 2) 1 false, fresh := [(0, bytF (v 1) (v 2))], post := [.same (v 2) (.lit 8), .same (v 1) (.fn 1 .zt (.lit 0) (v 0) (.lit 0))] }
def rSealed : Contract := { c0 with fn := 109, sorts := [true, false, false], args := [.slice 0 (.lit 0) (v 2) 1 true], mem := [(0, bytB (v 0) (v 1) false)], nb := 1, pre := [eLe (.lit 1) (v 2), eLe (v 2) (v 1), eLe (v 1) (.lit 900000)], outs := [true, false], res := .slice 1 (.lit 0) (v 4) 1 false, fresh := [(1, bytF (v 3) (v 4))], post := [.same (v 4) (eAdd (v 2) (.lit 4)), .pr 21 [v 3, v 0, v 2]] }
def rHeader : Contract := { cHeader with fn := 59 }
def rWith : Contract := { c0 with fn := 60, sorts := [true, false, false, false, false, false, false, false, false], args := [.slice 0 (.lit 0) (v 1) 1 true, .agg [i64 (v 2), i64 (v 3), i64 (v 4), i64 (v 5), i64 (v 6), i64 (v 7), i64 (v 8)]], mem := [(0, bytB (v 0) (v 1) false)], nb := 1, pre := [eLe (.lit 1) (v 1), eLe (v 1) (.lit 40000)], outs := [true, false], res := .slice 1 (.lit 0) (v 10) 1 false, fresh := [(1, bytF (v 9) (v 10))], post := [.same (v 10) (eAdd (v 1) (.lit 60)), .pr 23 [v 9, v 0, v 1, v 2, v 3, v 4, v 5, v 6, v 7, v 8]] }
def rEncode : Contract := { cEncode with fn := 19 }
def cLong (f : FuncId) : Contract := { c0 with fn := f, sorts := [false, false, false, true, false], args := [logA 0 0], mem := [(0, logB 0)], nb := 1, pre := [eLe (.lit 501) (v 4)], res := .tup [.nilslice, i64 (.lit 3)] }
def xR0 (P : Program) : Cx := { P, cs := [], anns := [aRSum], kn := kn }
def xR1 (P : Program) : Cx := { P, cs := [rSum], anns := [], kn := kn }
def xR2 (P : Program) : Cx := { P, cs := [rNumber, rSealed], anns := [], kn := kn }
def aREnc : Ann where
  fn := 19
  bid := 0
  keep := [1]
  tmps := [(5, i64 (v 9)), (4, .slice 3 (.lit 0) (v 8) 1 false)]
  drop := [2]
  mem := [(3, bytF (v 7) (v 8))]
  sorts := [true, false, false]
  nbl := 1
  inv := [eLe (.lit 0) (v 9), eLe (v 9) (v 4), .same (v 8) (encN (v 9)), .pr 12 [v 7, v 0, v 1, v 2, v 3, v 9]]
  meas := .bin .sub (v 4) (v 9)
def xR3 (P : Program) : Cx := { P, cs := [rHeader, rWith], anns := [aREnc], kn := kn }
def cCodes (p : PE) : Contract := { c0 with fn := 5, sorts := [false, false, false, true, false], args := [logA 0 0], mem := [(0, logB 0)], nb := 1, pre := [eLe (.lit 0) (v 4), .rng .i64 (v 0), .rng .i64 (v 1), .rng .i64 (v 2), .pr 22 [v 3, v 4], p], res := .bool (.lit 1) }
def cCodesOk : Contract := cCodes (eLe (v 4) (.lit 500))
def cCodesLong : Contract := cCodes (eLe (.lit 501) (v 4))
def xCodesOk (P : Program) : Cx := { P, cs := [cShown27, cEncode, rEncode, cDecode, cSameL], anns := [], kn := kn }
def xCodesLong (P : Program) : Cx := { P, cs := [cShown27, cLong 18, cLong 19], anns := [], kn := kn }
end Go.Jn

namespace Go.Jn
open Go Go.Sx Go.Mg
def rRight : Contract := { c0 with fn := 66, sorts := [true, false, false, false], args := [.slice 0 (.lit 0) (v 2) 1 true, i64 (v 3)], mem := [(0, bytB (v 0) (v 1) false)], nb := 1, pre := [eLe (.lit 5) (v 3), eLe (v 3) (v 2), eLe (v 2) (v 1), eLe (v 1) (.lit 900000), .byt (v 0) (v 1)], outs := [false], res := .bool (v 4), post := [.pr 24 [v 4, v 0, .bin .sub (v 3) (.lit 4)]] }
def rValue : Contract := { c0 with fn := 67, sorts := [true, false, false, false], args := [.slice 0 (.lit 0) (v 2) 1 true, i64 (v 3)], mem := [(0, bytB (v 0) (v 1) false)], nb := 1, pre := [eLe (.lit 0) (v 3), eLe (eAdd (v 3) (.lit 8)) (v 2), eLe (v 2) (v 1), eLe (v 1) (.lit 1000000), .byt (v 0) (v 1)], outs := [false], res := i64 (v 4), post := [.same (v 4) (.fn 4 (v 0) (v 3) (.lit 0) (.lit 0))] }
def rDecode : Contract := { cDecode with fn := 24, pre := [eLe (.lit 0) (v 2), eLe (v 2) (v 1), eLe (v 1) (.lit 900000), eLe (v 2) (.lit 30036), .byt (v 0) (v 1), .pr 15 [v 0, v 2]] }
def rDecodeBad : Contract := { cDecodeBad with fn := 24, pre := [eLe (.lit 0) (v 2), eLe (v 2) (v 1), eLe (v 1) (.lit 900000), eLe (v 2) (.lit 30036), .byt (v 0) (v 1), .pr 18 [v 0, v 2]] }
def cDecLong (f : FuncId) : Contract := { cDecodeBad with fn := f, pre := [eLe (.lit 30037) (v 2)], res := .tup [.agg [i64 (.lit 0), i64 (.lit 0), i64 (.lit 0), .nilslice], i64 (.lit 0), i64 (.lit 3)] }
def xR4 (P : Program) : Cx := { P, cs := [rSealed], anns := [], kn := kn }
def aRDec : Ann where
  fn := 24
  bid := 0
  keep := [0, 2, 5]
  tmps := [(6, i64 (v 9))]
  drop := [2]
  mem := [(2, .cells [i64 (v 4), i64 (v 5), i64 (v 6), .slice 3 (.lit 0) (v 8) 7 true] true), (3, .rows k7 (v 7) (v 8) true true)]
  sorts := [true, false, false]
  nbl := 1
  inv := [eLe (.lit 0) (v 8), .same (v 9) (encN (v 8)), eLe (encN (v 8)) (v 2), .pr 17 [v 0, v 7, v 8], .pr 19 [v 0, v 8]]
  meas := .bin .sub (v 2) (v 9)
def xR5 (P : Program) : Cx := { P, cs := [rRight, rValue], anns := [aRDec], kn := kn }
def cReads (nl : Bool) (l : List PE) : Contract := { c0 with fn := 8, sorts := [true, false, false, false, false, false, false, false, false], args := [.slice 0 (.lit 0) (v 1) 1 nl, .agg [i64 (v 2), i64 (v 3), i64 (v 4), i64 (v 5), i64 (v 6), i64 (v 7), i64 (v 8)]], mem := [(0, .rows u8K (v 0) (v 1) false nl)], nb := 1, pre := [eLe (.lit 0) (v 1), .byt (v 0) (v 1)] ++ l, res := .bool (.lit 1) }
def cReadsE : Contract := cReads false [eLe (v 1) (.lit 30036), .pr 15 [v 0, v 1]]
def cReadsB : Contract := cReads true [eLe (v 1) (.lit 30036), .pr 18 [v 0, v 1]]
def xReadsE (P : Program) : Cx := { P, cs := [cShown27, cDecode, rDecode, cSameL, cHash, cAdd, rWith, cEncode], anns := [], kn := kn }
def xReadsB (P : Program) : Cx := { P, cs := [cShown27, cDecodeBad, rDecodeBad, cSameL, cHash, cAdd, rWith, cEncode], anns := [], kn := kn }
def xReadsL (P : Program) : Cx := { P, cs := [cShown27, cDecLong 21, cDecLong 24, cSameL, cHash, cAdd, rWith, cEncode], anns := [], kn := kn }
def cReadsL : Contract := cReads true [eLe (.lit 30037) (v 1)]
end Go.Jn
