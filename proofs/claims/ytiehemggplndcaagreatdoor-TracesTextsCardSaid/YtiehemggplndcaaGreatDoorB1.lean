/-
  Contracts of three loops over all pages; what the executor knows of the manager's types and variables. Definitions alone; nothing here speaks of a program.
-/
import Derived.Test.YtiehemggplndcaaGreatDoorA4
import Derived.Lib.ItoaLen
import Derived.Lib.ItoaMem
import Derived.Lib.SplitLaws
import Derived.Lib.ParseIntBTie
import Derived.Lib.ParseIntBCases
namespace Go.Mg
open Go Go.Sx
def v (i : Nat) : E := .var i
def i64 (e : E) : AV := .int .i64 e
def eLe (a b : E) : PE := .tt (.bin .le a b)
def pgK : List CK := .int .i64 :: .bool :: List.replicate 64 (.int .u8)
def bgs : List Big := [⟨253, 1, pgK, 1024⟩, ⟨259, 2, [.int .u64], 352⟩, ⟨541, 0, [.int .u64], 1024⟩, ⟨242, 5, [.int .i64], 1024⟩]
def tab64 : List Int := [0, 1, 56, 2, 57, 49, 28, 3, 61, 58, 42, 50, 38, 29, 17, 4, 62, 47, 59, 36, 45, 43, 51, 22, 53, 39, 33, 30, 24, 18, 12, 5, 63, 55, 48, 27, 60, 41, 37, 16, 46, 35, 44, 21, 52, 32, 23, 11, 54, 26, 40, 15, 34, 20, 31, 10, 25, 14, 19, 9, 13, 8, 7, 6]
def tab32 : List Int := [0, 1, 28, 2, 29, 14, 24, 3, 30, 22, 20, 15, 25, 17, 4, 8, 31, 27, 13, 23, 21, 19, 16, 7, 26, 12, 18, 6, 11, 5, 10, 9]
def pow10 : List Int := [1, 10, 100, 1000, 10000, 100000, 1000000, 10000000, 100000000, 1000000000, 10000000000, 100000000000, 1000000000000, 10000000000000, 100000000000000, 1000000000000000, 10000000000000000, 100000000000000000, 1000000000000000000, 10000000000000000000]
def gls : List Glob := [{ g := 5, k := .int .u8, l := tab64 }, { g := 4, k := .int .u8, l := tab32 }, { g := 1, k := .int .u64, l := pow10, full := true }, { g := 0, k := .int .i64, l := [], ity := true }, { g := 2, k := .int .i64, l := [], ifc := true }, { g := 3, k := .int .i64, l := [], ifc := true }]
def kn : Kn := { bigs := bgs, globs := gls }
def c0 : Contract where
  fn := 0
  sorts := []
  args := []
  mem := []
  nb := 0
  pre := []
  outs := []
  res := .tup []
  mods := []
  fresh := []
  post := []
def cCounts : Contract := { c0 with fn := 282, sorts := [true], args := [.ptr 0 (.lit 0) 0 0], mem := [(0, .big [.bool (.lit 1)] pgK (v 0) 1024 [] false)], nb := 1, pre := [.col (v 0) 0 0 3], outs := [false, false, false, false, false], res := .tup [.agg [i64 (v 1), i64 (v 2), i64 (v 3), i64 (v 4), i64 (v 5)], i64 (.lit 0)] }
def aCounts : Ann where
  fn := 282
  bid := 0
  keep := [5, 4, 2, 0]
  tmps := [(16, i64 (v 6))]
  drop := []
  mem := [(2, .cells [i64 (v 1), i64 (v 2), i64 (v 3), i64 (v 4), i64 (v 5)] true)]
  sorts := [false, false, false, false, false, false]
  nbl := 0
  inv := [eLe (.lit 0) (v 6), eLe (v 6) (.lit 1024), eLe (.lit 0) (v 1), eLe (v 1) (v 6), eLe (.lit 0) (v 2), eLe (v 2) (v 6), eLe (.lit 0) (v 3), eLe (v 3) (v 6), eLe (.lit 0) (v 4), eLe (v 4) (v 6), eLe (.lit 0) (v 5), eLe (v 5) (v 6)]
  meas := .bin .sub (.lit 1024) (v 6)
def cAll (q : Nat) : Contract := { c0 with fn := 277, sorts := [true], args := [.any, .ptr 0 (.lit 0) 0 0], mem := [(0, .cells [.ptr 1 (.lit 0) 0 (2 + 16 * q)] false), (1, .big [.any, .any] [.int .u64] (v 0) 352 [] false)], nb := 2, pre := (List.range 16).map fun i => .ff (.sel (v 0) (.lit ((16 * q + i : Nat) : Int)) 0) }
def aAll : Ann where
  fn := 277
  bid := 0
  keep := [0, 1]
  tmps := [(4, i64 (v 1))]
  drop := []
  mem := []
  sorts := [false]
  nbl := 0
  inv := [eLe (.lit 0) (v 1), eLe (v 1) (.lit 1024)]
  meas := .bin .sub (.lit 1024) (v 1)
def cState : Contract := { c0 with fn := 335, sorts := [true], args := [.ptr 0 (.lit 0) 0 0], mem := [(0, .big [] [.int .u64] (v 0) 1024 [] false)], nb := 1, pre := [.col (v 0) 0 0 0], res := .agg [.nilslice] }
def aState : Ann where
  fn := 335
  bid := 0
  keep := [6, 3, 2, 0]
  tmps := [(7, i64 (v 1))]
  drop := []
  mem := []
  sorts := [false]
  nbl := 0
  inv := [eLe (.lit 0) (v 1), eLe (v 1) (.lit 1024)]
  meas := .bin .sub (.lit 1024) (v 1)
def k5 : List CK := [.int .i64, .int .i64, .int .i64, .int .i64, .int .i64]
def k3 : List CK := [.int .i64, .int .i64, .int .i64]
def cFresh : Contract := { c0 with fn := 169, args := [i64 (.lit 1024), i64 (.lit 1)], res := .ptr 0 (.lit 0) 0 0, fresh := [(0, .cells [.slice 1 (.lit 0) (.lit 1024) 5 false, .slice 2 (.lit 0) (.lit 1) 3 false, i64 (.lit 0)] true), (1, .rows k5 (.kt [0, 0, -1, -1, -1]) (.lit 1024) true false), (2, .rows k3 (.kt [-1, -1, 0]) (.lit 1) true false)] }
def aFresh0 : Ann where
  fn := 169
  bid := 0
  keep := [5, 18]
  tmps := [(19, i64 (v 1))]
  drop := []
  mem := [(0, .rows k5 (v 0) (.lit 1024) true false)]
  sorts := [true, false]
  nbl := 0
  inv := [eLe (.lit 0) (v 1), eLe (v 1) (.lit 1024), .agr (v 0) (.kt [0, 0, -1, -1, -1]) (v 1) 5]
  meas := .bin .sub (.lit 1024) (v 1)
def cVmNew : Contract := { c0 with fn := 100, args := [.agg [.nilslice]], res := .tup [.ptr 0 (.lit 0) 0 0, i64 (.lit 0)], fresh := [(0, .big [.bool (.lit 1)] pgK .zt 1024 (.nilslice :: List.replicate 14 (i64 (.lit 0))) true)] }
def xLoops (P : Program) : Cx := { P, cs := [], anns := [aCounts, aAll, aState, aFresh0], kn := kn }
def loops : List Contract := [cCounts, cState, cFresh, cVmNew, cAll 3, cAll 4, cAll 5, cAll 6, cAll 7, cAll 8, cAll 9]
end Go.Mg
namespace Go.Mg
open Go Go.Sx
def tCounts : Tree := (.assume (.col (.var 0) 0 (0) (3)) (.havoc false (.havoc false (.havoc false (.havoc false (.havoc false (.havoc false (.assume (.tt (.bin .le (.lit 0) (.var 6))) (.assume (.tt (.bin .le (.var 6) (.lit 1024))) (.assume (.tt (.bin .le (.lit 0) (.var 1))) (.assume (.tt (.bin .le (.var 1) (.var 6))) (.assume (.tt (.bin .le (.lit 0) (.var 2))) (.assume (.tt (.bin .le (.var 2) (.var 6))) (.assume (.tt (.bin .le (.lit 0) (.var 3))) (.assume (.tt (.bin .le (.var 3) (.var 6))) (.assume (.tt (.bin .le (.lit 0) (.var 4))) (.assume (.tt (.bin .le (.var 4) (.var 6))) (.assume (.tt (.bin .le (.lit 0) (.var 5))) (.assume (.tt (.bin .le (.var 5) (.var 6))) (.branch (.bin .lt (.var 6) (.lit 1024)) (.branch (.bin .eq (.sel (.var 0) (.var 6) 0) (.lit 3)) (.assert (.rng .i64 (.bin .add (.var 4) (.lit 1))) (.branch (.sel (.var 0) (.var 6) 1) (.branch (.bin .eq (.bin .tmod (.var 6) (.lit 16)) (.lit 0)) (.assert (.rng .i64 (.bin .add (.var 5) (.lit 1))) (.assert (.rng .i64 (.bin .add (.var 6) (.lit 1))) (.assert (.tt (.bin .le (.lit 0) (.bin .add (.var 6) (.lit 1)))) (.assert (.tt (.bin .le (.bin .add (.var 6) (.lit 1)) (.lit 1024))) (.assert (.tt (.bin .le (.var 1) (.bin .add (.var 6) (.lit 1)))) (.assert (.tt (.bin .le (.var 2) (.bin .add (.var 6) (.lit 1)))) (.assert (.tt (.bin .le (.var 3) (.bin .add (.var 6) (.lit 1)))) (.assert (.tt (.bin .le (.lit 0) (.bin .add (.var 4) (.lit 1)))) (.assert (.tt (.bin .le (.bin .add (.var 4) (.lit 1)) (.bin .add (.var 6) (.lit 1)))) (.assert (.tt (.bin .le (.lit 0) (.bin .add (.var 5) (.lit 1)))) (.assert (.tt (.bin .le (.bin .add (.var 5) (.lit 1)) (.bin .add (.var 6) (.lit 1)))) (.assert (.tt (.bin .le (.lit 0) (.bin .sub (.lit 1024) (.bin .add (.var 6) (.lit 1))))) (.assert (.tt (.bin .lt (.bin .sub (.lit 1024) (.bin .add (.var 6) (.lit 1))) (.bin .sub (.lit 1024) (.var 6)))) .ok))))))))))))) (.assert (.rng .i64 (.bin .add (.var 6) (.lit 1))) (.assert (.tt (.bin .le (.lit 0) (.bin .add (.var 6) (.lit 1)))) (.assert (.tt (.bin .le (.bin .add (.var 6) (.lit 1)) (.lit 1024))) (.assert (.tt (.bin .le (.var 1) (.bin .add (.var 6) (.lit 1)))) (.assert (.tt (.bin .le (.var 2) (.bin .add (.var 6) (.lit 1)))) (.assert (.tt (.bin .le (.var 3) (.bin .add (.var 6) (.lit 1)))) (.assert (.tt (.bin .le (.lit 0) (.bin .add (.var 4) (.lit 1)))) (.assert (.tt (.bin .le (.bin .add (.var 4) (.lit 1)) (.bin .add (.var 6) (.lit 1)))) (.assert (.tt (.bin .le (.var 5) (.bin .add (.var 6) (.lit 1)))) (.assert (.tt (.bin .le (.lit 0) (.bin .sub (.lit 1024) (.bin .add (.var 6) (.lit 1))))) (.assert (.tt (.bin .lt (.bin .sub (.lit 1024) (.bin .add (.var 6) (.lit 1))) (.bin .sub (.lit 1024) (.var 6)))) .ok)))))))))))) (.assert (.rng .i64 (.bin .add (.var 6) (.lit 1))) (.assert (.tt (.bin .le (.lit 0) (.bin .add (.var 6) (.lit 1)))) (.assert (.tt (.bin .le (.bin .add (.var 6) (.lit 1)) (.lit 1024))) (.assert (.tt (.bin .le (.var 1) (.bin .add (.var 6) (.lit 1)))) (.assert (.tt (.bin .le (.var 2) (.bin .add (.var 6) (.lit 1)))) (.assert (.tt (.bin .le (.var 3) (.bin .add (.var 6) (.lit 1)))) (.assert (.tt (.bin .le (.lit 0) (.bin .add (.var 4) (.lit 1)))) (.assert (.tt (.bin .le (.bin .add (.var 4) (.lit 1)) (.bin .add (.var 6) (.lit 1)))) (.assert (.tt (.bin .le (.var 5) (.bin .add (.var 6) (.lit 1)))) (.assert (.tt (.bin .le (.lit 0) (.bin .sub (.lit 1024) (.bin .add (.var 6) (.lit 1))))) (.assert (.tt (.bin .lt (.bin .sub (.lit 1024) (.bin .add (.var 6) (.lit 1))) (.bin .sub (.lit 1024) (.var 6)))) .ok))))))))))))) (.branch (.bin .eq (.sel (.var 0) (.var 6) 0) (.lit 2)) (.assert (.rng .i64 (.bin .add (.var 3) (.lit 1))) (.branch (.sel (.var 0) (.var 6) 1) (.branch (.bin .eq (.bin .tmod (.var 6) (.lit 16)) (.lit 0)) (.assert (.rng .i64 (.bin .add (.var 5) (.lit 1))) (.assert (.rng .i64 (.bin .add (.var 6) (.lit 1))) (.assert (.tt (.bin .le (.lit 0) (.bin .add (.var 6) (.lit 1)))) (.assert (.tt (.bin .le (.bin .add (.var 6) (.lit 1)) (.lit 1024))) (.assert (.tt (.bin .le (.var 1) (.bin .add (.var 6) (.lit 1)))) (.assert (.tt (.bin .le (.var 2) (.bin .add (.var 6) (.lit 1)))) (.assert (.tt (.bin .le (.lit 0) (.bin .add (.var 3) (.lit 1)))) (.assert (.tt (.bin .le (.bin .add (.var 3) (.lit 1)) (.bin .add (.var 6) (.lit 1)))) (.assert (.tt (.bin .le (.var 4) (.bin .add (.var 6) (.lit 1)))) (.assert (.tt (.bin .le (.lit 0) (.bin .add (.var 5) (.lit 1)))) (.assert (.tt (.bin .le (.bin .add (.var 5) (.lit 1)) (.bin .add (.var 6) (.lit 1)))) (.assert (.tt (.bin .le (.lit 0) (.bin .sub (.lit 1024) (.bin .add (.var 6) (.lit 1))))) (.assert (.tt (.bin .lt (.bin .sub (.lit 1024) (.bin .add (.var 6) (.lit 1))) (.bin .sub (.lit 1024) (.var 6)))) .ok))))))))))))) (.assert (.rng .i64 (.bin .add (.var 6) (.lit 1))) (.assert (.tt (.bin .le (.lit 0) (.bin .add (.var 6) (.lit 1)))) (.assert (.tt (.bin .le (.bin .add (.var 6) (.lit 1)) (.lit 1024))) (.assert (.tt (.bin .le (.var 1) (.bin .add (.var 6) (.lit 1)))) (.assert (.tt (.bin .le (.var 2) (.bin .add (.var 6) (.lit 1)))) (.assert (.tt (.bin .le (.lit 0) (.bin .add (.var 3) (.lit 1)))) (.assert (.tt (.bin .le (.bin .add (.var 3) (.lit 1)) (.bin .add (.var 6) (.lit 1)))) (.assert (.tt (.bin .le (.var 4) (.bin .add (.var 6) (.lit 1)))) (.assert (.tt (.bin .le (.var 5) (.bin .add (.var 6) (.lit 1)))) (.assert (.tt (.bin .le (.lit 0) (.bin .sub (.lit 1024) (.bin .add (.var 6) (.lit 1))))) (.assert (.tt (.bin .lt (.bin .sub (.lit 1024) (.bin .add (.var 6) (.lit 1))) (.bin .sub (.lit 1024) (.var 6)))) .ok)))))))))))) (.assert (.rng .i64 (.bin .add (.var 6) (.lit 1))) (.assert (.tt (.bin .le (.lit 0) (.bin .add (.var 6) (.lit 1)))) (.assert (.tt (.bin .le (.bin .add (.var 6) (.lit 1)) (.lit 1024))) (.assert (.tt (.bin .le (.var 1) (.bin .add (.var 6) (.lit 1)))) (.assert (.tt (.bin .le (.var 2) (.bin .add (.var 6) (.lit 1)))) (.assert (.tt (.bin .le (.lit 0) (.bin .add (.var 3) (.lit 1)))) (.assert (.tt (.bin .le (.bin .add (.var 3) (.lit 1)) (.bin .add (.var 6) (.lit 1)))) (.assert (.tt (.bin .le (.var 4) (.bin .add (.var 6) (.lit 1)))) (.assert (.tt (.bin .le (.var 5) (.bin .add (.var 6) (.lit 1)))) (.assert (.tt (.bin .le (.lit 0) (.bin .sub (.lit 1024) (.bin .add (.var 6) (.lit 1))))) (.assert (.tt (.bin .lt (.bin .sub (.lit 1024) (.bin .add (.var 6) (.lit 1))) (.bin .sub (.lit 1024) (.var 6)))) .ok))))))))))))) (.branch (.bin .eq (.sel (.var 0) (.var 6) 0) (.lit 1)) (.assert (.rng .i64 (.bin .add (.var 2) (.lit 1))) (.branch (.sel (.var 0) (.var 6) 1) (.branch (.bin .eq (.bin .tmod (.var 6) (.lit 16)) (.lit 0)) (.assert (.rng .i64 (.bin .add (.var 5) (.lit 1))) (.assert (.rng .i64 (.bin .add (.var 6) (.lit 1))) (.assert (.tt (.bin .le (.lit 0) (.bin .add (.var 6) (.lit 1)))) (.assert (.tt (.bin .le (.bin .add (.var 6) (.lit 1)) (.lit 1024))) (.assert (.tt (.bin .le (.var 1) (.bin .add (.var 6) (.lit 1)))) (.assert (.tt (.bin .le (.lit 0) (.bin .add (.var 2) (.lit 1)))) (.assert (.tt (.bin .le (.bin .add (.var 2) (.lit 1)) (.bin .add (.var 6) (.lit 1)))) (.assert (.tt (.bin .le (.var 3) (.bin .add (.var 6) (.lit 1)))) (.assert (.tt (.bin .le (.var 4) (.bin .add (.var 6) (.lit 1)))) (.assert (.tt (.bin .le (.lit 0) (.bin .add (.var 5) (.lit 1)))) (.assert (.tt (.bin .le (.bin .add (.var 5) (.lit 1)) (.bin .add (.var 6) (.lit 1)))) (.assert (.tt (.bin .le (.lit 0) (.bin .sub (.lit 1024) (.bin .add (.var 6) (.lit 1))))) (.assert (.tt (.bin .lt (.bin .sub (.lit 1024) (.bin .add (.var 6) (.lit 1))) (.bin .sub (.lit 1024) (.var 6)))) .ok))))))))))))) (.assert (.rng .i64 (.bin .add (.var 6) (.lit 1))) (.assert (.tt (.bin .le (.lit 0) (.bin .add (.var 6) (.lit 1)))) (.assert (.tt (.bin .le (.bin .add (.var 6) (.lit 1)) (.lit 1024))) (.assert (.tt (.bin .le (.var 1) (.bin .add (.var 6) (.lit 1)))) (.assert (.tt (.bin .le (.lit 0) (.bin .add (.var 2) (.lit 1)))) (.assert (.tt (.bin .le (.bin .add (.var 2) (.lit 1)) (.bin .add (.var 6) (.lit 1)))) (.assert (.tt (.bin .le (.var 3) (.bin .add (.var 6) (.lit 1)))) (.assert (.tt (.bin .le (.var 4) (.bin .add (.var 6) (.lit 1)))) (.assert (.tt (.bin .le (.var 5) (.bin .add (.var 6) (.lit 1)))) (.assert (.tt (.bin .le (.lit 0) (.bin .sub (.lit 1024) (.bin .add (.var 6) (.lit 1))))) (.assert (.tt (.bin .lt (.bin .sub (.lit 1024) (.bin .add (.var 6) (.lit 1))) (.bin .sub (.lit 1024) (.var 6)))) .ok)))))))))))) (.assert (.rng .i64 (.bin .add (.var 6) (.lit 1))) (.assert (.tt (.bin .le (.lit 0) (.bin .add (.var 6) (.lit 1)))) (.assert (.tt (.bin .le (.bin .add (.var 6) (.lit 1)) (.lit 1024))) (.assert (.tt (.bin .le (.var 1) (.bin .add (.var 6) (.lit 1)))) (.assert (.tt (.bin .le (.lit 0) (.bin .add (.var 2) (.lit 1)))) (.assert (.tt (.bin .le (.bin .add (.var 2) (.lit 1)) (.bin .add (.var 6) (.lit 1)))) (.assert (.tt (.bin .le (.var 3) (.bin .add (.var 6) (.lit 1)))) (.assert (.tt (.bin .le (.var 4) (.bin .add (.var 6) (.lit 1)))) (.assert (.tt (.bin .le (.var 5) (.bin .add (.var 6) (.lit 1)))) (.assert (.tt (.bin .le (.lit 0) (.bin .sub (.lit 1024) (.bin .add (.var 6) (.lit 1))))) (.assert (.tt (.bin .lt (.bin .sub (.lit 1024) (.bin .add (.var 6) (.lit 1))) (.bin .sub (.lit 1024) (.var 6)))) .ok))))))))))))) (.branch (.bin .eq (.sel (.var 0) (.var 6) 0) (.lit 0)) (.assert (.rng .i64 (.bin .add (.var 1) (.lit 1))) (.branch (.sel (.var 0) (.var 6) 1) (.branch (.bin .eq (.bin .tmod (.var 6) (.lit 16)) (.lit 0)) (.assert (.rng .i64 (.bin .add (.var 5) (.lit 1))) (.assert (.rng .i64 (.bin .add (.var 6) (.lit 1))) (.assert (.tt (.bin .le (.lit 0) (.bin .add (.var 6) (.lit 1)))) (.assert (.tt (.bin .le (.bin .add (.var 6) (.lit 1)) (.lit 1024))) (.assert (.tt (.bin .le (.lit 0) (.bin .add (.var 1) (.lit 1)))) (.assert (.tt (.bin .le (.bin .add (.var 1) (.lit 1)) (.bin .add (.var 6) (.lit 1)))) (.assert (.tt (.bin .le (.var 2) (.bin .add (.var 6) (.lit 1)))) (.assert (.tt (.bin .le (.var 3) (.bin .add (.var 6) (.lit 1)))) (.assert (.tt (.bin .le (.var 4) (.bin .add (.var 6) (.lit 1)))) (.assert (.tt (.bin .le (.lit 0) (.bin .add (.var 5) (.lit 1)))) (.assert (.tt (.bin .le (.bin .add (.var 5) (.lit 1)) (.bin .add (.var 6) (.lit 1)))) (.assert (.tt (.bin .le (.lit 0) (.bin .sub (.lit 1024) (.bin .add (.var 6) (.lit 1))))) (.assert (.tt (.bin .lt (.bin .sub (.lit 1024) (.bin .add (.var 6) (.lit 1))) (.bin .sub (.lit 1024) (.var 6)))) .ok))))))))))))) (.assert (.rng .i64 (.bin .add (.var 6) (.lit 1))) (.assert (.tt (.bin .le (.lit 0) (.bin .add (.var 6) (.lit 1)))) (.assert (.tt (.bin .le (.bin .add (.var 6) (.lit 1)) (.lit 1024))) (.assert (.tt (.bin .le (.lit 0) (.bin .add (.var 1) (.lit 1)))) (.assert (.tt (.bin .le (.bin .add (.var 1) (.lit 1)) (.bin .add (.var 6) (.lit 1)))) (.assert (.tt (.bin .le (.var 2) (.bin .add (.var 6) (.lit 1)))) (.assert (.tt (.bin .le (.var 3) (.bin .add (.var 6) (.lit 1)))) (.assert (.tt (.bin .le (.var 4) (.bin .add (.var 6) (.lit 1)))) (.assert (.tt (.bin .le (.var 5) (.bin .add (.var 6) (.lit 1)))) (.assert (.tt (.bin .le (.lit 0) (.bin .sub (.lit 1024) (.bin .add (.var 6) (.lit 1))))) (.assert (.tt (.bin .lt (.bin .sub (.lit 1024) (.bin .add (.var 6) (.lit 1))) (.bin .sub (.lit 1024) (.var 6)))) .ok)))))))))))) (.assert (.rng .i64 (.bin .add (.var 6) (.lit 1))) (.assert (.tt (.bin .le (.lit 0) (.bin .add (.var 6) (.lit 1)))) (.assert (.tt (.bin .le (.bin .add (.var 6) (.lit 1)) (.lit 1024))) (.assert (.tt (.bin .le (.lit 0) (.bin .add (.var 1) (.lit 1)))) (.assert (.tt (.bin .le (.bin .add (.var 1) (.lit 1)) (.bin .add (.var 6) (.lit 1)))) (.assert (.tt (.bin .le (.var 2) (.bin .add (.var 6) (.lit 1)))) (.assert (.tt (.bin .le (.var 3) (.bin .add (.var 6) (.lit 1)))) (.assert (.tt (.bin .le (.var 4) (.bin .add (.var 6) (.lit 1)))) (.assert (.tt (.bin .le (.var 5) (.bin .add (.var 6) (.lit 1)))) (.assert (.tt (.bin .le (.lit 0) (.bin .sub (.lit 1024) (.bin .add (.var 6) (.lit 1))))) (.assert (.tt (.bin .lt (.bin .sub (.lit 1024) (.bin .add (.var 6) (.lit 1))) (.bin .sub (.lit 1024) (.var 6)))) .ok))))))))))))) (.fail 29))))) .ok))))))))))))))))))))
def tState : Tree := (.assume (.col (.var 0) 0 (0) (0)) (.havoc false (.assume (.tt (.bin .le (.lit 0) (.var 1))) (.assume (.tt (.bin .le (.var 1) (.lit 1024))) (.branch (.bin .lt (.var 1) (.lit 1024)) (.branch (.bin .eq (.bin .eq (.sel (.var 0) (.var 1) 0) (.lit 0)) (.lit 0)) (.branch (.bin .eq (.bin .eq (.bin (.bits 5 .u64) (.sel (.var 0) (.var 1) 0) (.lit 0)) (.lit 0)) (.lit 0)) (.fail 20) (.assert (.rng .i64 (.bin .add (.var 1) (.lit 1))) (.fail 61))) (.assert (.rng .i64 (.bin .add (.var 1) (.lit 1))) (.assert (.tt (.bin .le (.lit 0) (.bin .add (.var 1) (.lit 1)))) (.assert (.tt (.bin .le (.bin .add (.var 1) (.lit 1)) (.lit 1024))) (.assert (.tt (.bin .le (.lit 0) (.bin .sub (.lit 1024) (.bin .add (.var 1) (.lit 1))))) (.assert (.tt (.bin .lt (.bin .sub (.lit 1024) (.bin .add (.var 1) (.lit 1))) (.bin .sub (.lit 1024) (.var 1)))) .ok)))))) .ok)))))
def tFresh : Tree := (.assert (.agr .zt (.kt [0, 0, -1, -1, -1]) (.lit 0) 5) (.havoc true (.havoc false (.assume (.tt (.bin .le (.lit 0) (.var 1))) (.assume (.tt (.bin .le (.var 1) (.lit 1024))) (.assume (.agr (.var 0) (.kt [0, 0, -1, -1, -1]) (.var 1) 5) (.branch (.bin .lt (.var 1) (.lit 1024)) (.assert (.rng .i64 (.bin .add (.var 1) (.lit 1))) (.assert (.tt (.bin .le (.lit 0) (.bin .add (.var 1) (.lit 1)))) (.assert (.tt (.bin .le (.bin .add (.var 1) (.lit 1)) (.lit 1024))) (.assert (.agr (.upd (.upd (.upd (.upd (.upd (.var 0) (.var 1) 0 (.lit 0)) (.var 1) 1 (.lit 0)) (.var 1) 2 (.lit (-1))) (.var 1) 3 (.lit (-1))) (.var 1) 4 (.lit (-1))) (.kt [0, 0, -1, -1, -1]) (.bin .add (.var 1) (.lit 1)) 5) (.assert (.tt (.bin .le (.lit 0) (.bin .sub (.lit 1024) (.bin .add (.var 1) (.lit 1))))) (.assert (.tt (.bin .lt (.bin .sub (.lit 1024) (.bin .add (.var 1) (.lit 1))) (.bin .sub (.lit 1024) (.var 1)))) .ok)))))) (.assert (.agr (.kt [0, 0, -1, -1, -1]) (.var 0) (.lit 1024) 5) (.assert (.agr (.kt [-1, -1, 0]) (.upd (.upd .zt (.lit 0) 0 (.lit (-1))) (.lit 0) 1 (.lit (-1))) (.lit 1) 3) .ok)))))))))
def tVmNew : Tree := .ok
def tAll3 : Tree := (.assume (.ff (.sel (.var 0) (.lit 48) 0)) (.assume (.ff (.sel (.var 0) (.lit 49) 0)) (.assume (.ff (.sel (.var 0) (.lit 50) 0)) (.assume (.ff (.sel (.var 0) (.lit 51) 0)) (.assume (.ff (.sel (.var 0) (.lit 52) 0)) (.assume (.ff (.sel (.var 0) (.lit 53) 0)) (.assume (.ff (.sel (.var 0) (.lit 54) 0)) (.assume (.ff (.sel (.var 0) (.lit 55) 0)) (.assume (.ff (.sel (.var 0) (.lit 56) 0)) (.assume (.ff (.sel (.var 0) (.lit 57) 0)) (.assume (.ff (.sel (.var 0) (.lit 58) 0)) (.assume (.ff (.sel (.var 0) (.lit 59) 0)) (.assume (.ff (.sel (.var 0) (.lit 60) 0)) (.assume (.ff (.sel (.var 0) (.lit 61) 0)) (.assume (.ff (.sel (.var 0) (.lit 62) 0)) (.assume (.ff (.sel (.var 0) (.lit 63) 0)) (.havoc false (.assume (.tt (.bin .le (.lit 0) (.var 1))) (.assume (.tt (.bin .le (.var 1) (.lit 1024))) (.branch (.bin .lt (.var 1) (.lit 1024)) (.assert (.tt (.bin .le (.lit 0) (.bin (.bits 6 .i64) (.var 1) (.lit 64)))) (.assert (.tt (.bin .lt (.bin (.bits 6 .i64) (.var 1) (.lit 64)) (.lit 16))) (.assert (.tt (.bin .le (.lit 0) (.bin .add (.bin (.bits 6 .i64) (.var 1) (.lit 64)) (.lit 48)))) (.assert (.tt (.bin .lt (.bin .add (.bin (.bits 6 .i64) (.var 1) (.lit 64)) (.lit 48)) (.lit 352))) (.assert (.tt (.bin .le (.lit 0) (.bin .tmod (.var 1) (.lit 64)))) (.branch (.bin .eq (.bin (.bits 0 .u64) (.bin (.bits 5 .u64) (.sel (.var 0) (.bin .add (.bin (.bits 6 .i64) (.var 1) (.lit 64)) (.lit 48)) 0) (.bin .tmod (.var 1) (.lit 64))) (.lit 1)) (.lit 1)) (.fail 20) (.assert (.rng .i64 (.bin .add (.var 1) (.lit 1))) (.assert (.tt (.bin .le (.lit 0) (.bin .add (.var 1) (.lit 1)))) (.assert (.tt (.bin .le (.bin .add (.var 1) (.lit 1)) (.lit 1024))) (.assert (.tt (.bin .le (.lit 0) (.bin .sub (.lit 1024) (.bin .add (.var 1) (.lit 1))))) (.assert (.tt (.bin .lt (.bin .sub (.lit 1024) (.bin .add (.var 1) (.lit 1))) (.bin .sub (.lit 1024) (.var 1)))) .ok))))))))))) .ok))))))))))))))))))))
def tAll4 : Tree := (.assume (.ff (.sel (.var 0) (.lit 64) 0)) (.assume (.ff (.sel (.var 0) (.lit 65) 0)) (.assume (.ff (.sel (.var 0) (.lit 66) 0)) (.assume (.ff (.sel (.var 0) (.lit 67) 0)) (.assume (.ff (.sel (.var 0) (.lit 68) 0)) (.assume (.ff (.sel (.var 0) (.lit 69) 0)) (.assume (.ff (.sel (.var 0) (.lit 70) 0)) (.assume (.ff (.sel (.var 0) (.lit 71) 0)) (.assume (.ff (.sel (.var 0) (.lit 72) 0)) (.assume (.ff (.sel (.var 0) (.lit 73) 0)) (.assume (.ff (.sel (.var 0) (.lit 74) 0)) (.assume (.ff (.sel (.var 0) (.lit 75) 0)) (.assume (.ff (.sel (.var 0) (.lit 76) 0)) (.assume (.ff (.sel (.var 0) (.lit 77) 0)) (.assume (.ff (.sel (.var 0) (.lit 78) 0)) (.assume (.ff (.sel (.var 0) (.lit 79) 0)) (.havoc false (.assume (.tt (.bin .le (.lit 0) (.var 1))) (.assume (.tt (.bin .le (.var 1) (.lit 1024))) (.branch (.bin .lt (.var 1) (.lit 1024)) (.assert (.tt (.bin .le (.lit 0) (.bin (.bits 6 .i64) (.var 1) (.lit 64)))) (.assert (.tt (.bin .lt (.bin (.bits 6 .i64) (.var 1) (.lit 64)) (.lit 16))) (.assert (.tt (.bin .le (.lit 0) (.bin .add (.bin (.bits 6 .i64) (.var 1) (.lit 64)) (.lit 64)))) (.assert (.tt (.bin .lt (.bin .add (.bin (.bits 6 .i64) (.var 1) (.lit 64)) (.lit 64)) (.lit 352))) (.assert (.tt (.bin .le (.lit 0) (.bin .tmod (.var 1) (.lit 64)))) (.branch (.bin .eq (.bin (.bits 0 .u64) (.bin (.bits 5 .u64) (.sel (.var 0) (.bin .add (.bin (.bits 6 .i64) (.var 1) (.lit 64)) (.lit 64)) 0) (.bin .tmod (.var 1) (.lit 64))) (.lit 1)) (.lit 1)) (.fail 20) (.assert (.rng .i64 (.bin .add (.var 1) (.lit 1))) (.assert (.tt (.bin .le (.lit 0) (.bin .add (.var 1) (.lit 1)))) (.assert (.tt (.bin .le (.bin .add (.var 1) (.lit 1)) (.lit 1024))) (.assert (.tt (.bin .le (.lit 0) (.bin .sub (.lit 1024) (.bin .add (.var 1) (.lit 1))))) (.assert (.tt (.bin .lt (.bin .sub (.lit 1024) (.bin .add (.var 1) (.lit 1))) (.bin .sub (.lit 1024) (.var 1)))) .ok))))))))))) .ok))))))))))))))))))))
def tAll5 : Tree := (.assume (.ff (.sel (.var 0) (.lit 80) 0)) (.assume (.ff (.sel (.var 0) (.lit 81) 0)) (.assume (.ff (.sel (.var 0) (.lit 82) 0)) (.assume (.ff (.sel (.var 0) (.lit 83) 0)) (.assume (.ff (.sel (.var 0) (.lit 84) 0)) (.assume (.ff (.sel (.var 0) (.lit 85) 0)) (.assume (.ff (.sel (.var 0) (.lit 86) 0)) (.assume (.ff (.sel (.var 0) (.lit 87) 0)) (.assume (.ff (.sel (.var 0) (.lit 88) 0)) (.assume (.ff (.sel (.var 0) (.lit 89) 0)) (.assume (.ff (.sel (.var 0) (.lit 90) 0)) (.assume (.ff (.sel (.var 0) (.lit 91) 0)) (.assume (.ff (.sel (.var 0) (.lit 92) 0)) (.assume (.ff (.sel (.var 0) (.lit 93) 0)) (.assume (.ff (.sel (.var 0) (.lit 94) 0)) (.assume (.ff (.sel (.var 0) (.lit 95) 0)) (.havoc false (.assume (.tt (.bin .le (.lit 0) (.var 1))) (.assume (.tt (.bin .le (.var 1) (.lit 1024))) (.branch (.bin .lt (.var 1) (.lit 1024)) (.assert (.tt (.bin .le (.lit 0) (.bin (.bits 6 .i64) (.var 1) (.lit 64)))) (.assert (.tt (.bin .lt (.bin (.bits 6 .i64) (.var 1) (.lit 64)) (.lit 16))) (.assert (.tt (.bin .le (.lit 0) (.bin .add (.bin (.bits 6 .i64) (.var 1) (.lit 64)) (.lit 80)))) (.assert (.tt (.bin .lt (.bin .add (.bin (.bits 6 .i64) (.var 1) (.lit 64)) (.lit 80)) (.lit 352))) (.assert (.tt (.bin .le (.lit 0) (.bin .tmod (.var 1) (.lit 64)))) (.branch (.bin .eq (.bin (.bits 0 .u64) (.bin (.bits 5 .u64) (.sel (.var 0) (.bin .add (.bin (.bits 6 .i64) (.var 1) (.lit 64)) (.lit 80)) 0) (.bin .tmod (.var 1) (.lit 64))) (.lit 1)) (.lit 1)) (.fail 20) (.assert (.rng .i64 (.bin .add (.var 1) (.lit 1))) (.assert (.tt (.bin .le (.lit 0) (.bin .add (.var 1) (.lit 1)))) (.assert (.tt (.bin .le (.bin .add (.var 1) (.lit 1)) (.lit 1024))) (.assert (.tt (.bin .le (.lit 0) (.bin .sub (.lit 1024) (.bin .add (.var 1) (.lit 1))))) (.assert (.tt (.bin .lt (.bin .sub (.lit 1024) (.bin .add (.var 1) (.lit 1))) (.bin .sub (.lit 1024) (.var 1)))) .ok))))))))))) .ok))))))))))))))))))))
def tAll6 : Tree := (.assume (.ff (.sel (.var 0) (.lit 96) 0)) (.assume (.ff (.sel (.var 0) (.lit 97) 0)) (.assume (.ff (.sel (.var 0) (.lit 98) 0)) (.assume (.ff (.sel (.var 0) (.lit 99) 0)) (.assume (.ff (.sel (.var 0) (.lit 100) 0)) (.assume (.ff (.sel (.var 0) (.lit 101) 0)) (.assume (.ff (.sel (.var 0) (.lit 102) 0)) (.assume (.ff (.sel (.var 0) (.lit 103) 0)) (.assume (.ff (.sel (.var 0) (.lit 104) 0)) (.assume (.ff (.sel (.var 0) (.lit 105) 0)) (.assume (.ff (.sel (.var 0) (.lit 106) 0)) (.assume (.ff (.sel (.var 0) (.lit 107) 0)) (.assume (.ff (.sel (.var 0) (.lit 108) 0)) (.assume (.ff (.sel (.var 0) (.lit 109) 0)) (.assume (.ff (.sel (.var 0) (.lit 110) 0)) (.assume (.ff (.sel (.var 0) (.lit 111) 0)) (.havoc false (.assume (.tt (.bin .le (.lit 0) (.var 1))) (.assume (.tt (.bin .le (.var 1) (.lit 1024))) (.branch (.bin .lt (.var 1) (.lit 1024)) (.assert (.tt (.bin .le (.lit 0) (.bin (.bits 6 .i64) (.var 1) (.lit 64)))) (.assert (.tt (.bin .lt (.bin (.bits 6 .i64) (.var 1) (.lit 64)) (.lit 16))) (.assert (.tt (.bin .le (.lit 0) (.bin .add (.bin (.bits 6 .i64) (.var 1) (.lit 64)) (.lit 96)))) (.assert (.tt (.bin .lt (.bin .add (.bin (.bits 6 .i64) (.var 1) (.lit 64)) (.lit 96)) (.lit 352))) (.assert (.tt (.bin .le (.lit 0) (.bin .tmod (.var 1) (.lit 64)))) (.branch (.bin .eq (.bin (.bits 0 .u64) (.bin (.bits 5 .u64) (.sel (.var 0) (.bin .add (.bin (.bits 6 .i64) (.var 1) (.lit 64)) (.lit 96)) 0) (.bin .tmod (.var 1) (.lit 64))) (.lit 1)) (.lit 1)) (.fail 20) (.assert (.rng .i64 (.bin .add (.var 1) (.lit 1))) (.assert (.tt (.bin .le (.lit 0) (.bin .add (.var 1) (.lit 1)))) (.assert (.tt (.bin .le (.bin .add (.var 1) (.lit 1)) (.lit 1024))) (.assert (.tt (.bin .le (.lit 0) (.bin .sub (.lit 1024) (.bin .add (.var 1) (.lit 1))))) (.assert (.tt (.bin .lt (.bin .sub (.lit 1024) (.bin .add (.var 1) (.lit 1))) (.bin .sub (.lit 1024) (.var 1)))) .ok))))))))))) .ok))))))))))))))))))))
def tAll7 : Tree := (.assume (.ff (.sel (.var 0) (.lit 112) 0)) (.assume (.ff (.sel (.var 0) (.lit 113) 0)) (.assume (.ff (.sel (.var 0) (.lit 114) 0)) (.assume (.ff (.sel (.var 0) (.lit 115) 0)) (.assume (.ff (.sel (.var 0) (.lit 116) 0)) (.assume (.ff (.sel (.var 0) (.lit 117) 0)) (.assume (.ff (.sel (.var 0) (.lit 118) 0)) (.assume (.ff (.sel (.var 0) (.lit 119) 0)) (.assume (.ff (.sel (.var 0) (.lit 120) 0)) (.assume (.ff (.sel (.var 0) (.lit 121) 0)) (.assume (.ff (.sel (.var 0) (.lit 122) 0)) (.assume (.ff (.sel (.var 0) (.lit 123) 0)) (.assume (.ff (.sel (.var 0) (.lit 124) 0)) (.assume (.ff (.sel (.var 0) (.lit 125) 0)) (.assume (.ff (.sel (.var 0) (.lit 126) 0)) (.assume (.ff (.sel (.var 0) (.lit 127) 0)) (.havoc false (.assume (.tt (.bin .le (.lit 0) (.var 1))) (.assume (.tt (.bin .le (.var 1) (.lit 1024))) (.branch (.bin .lt (.var 1) (.lit 1024)) (.assert (.tt (.bin .le (.lit 0) (.bin (.bits 6 .i64) (.var 1) (.lit 64)))) (.assert (.tt (.bin .lt (.bin (.bits 6 .i64) (.var 1) (.lit 64)) (.lit 16))) (.assert (.tt (.bin .le (.lit 0) (.bin .add (.bin (.bits 6 .i64) (.var 1) (.lit 64)) (.lit 112)))) (.assert (.tt (.bin .lt (.bin .add (.bin (.bits 6 .i64) (.var 1) (.lit 64)) (.lit 112)) (.lit 352))) (.assert (.tt (.bin .le (.lit 0) (.bin .tmod (.var 1) (.lit 64)))) (.branch (.bin .eq (.bin (.bits 0 .u64) (.bin (.bits 5 .u64) (.sel (.var 0) (.bin .add (.bin (.bits 6 .i64) (.var 1) (.lit 64)) (.lit 112)) 0) (.bin .tmod (.var 1) (.lit 64))) (.lit 1)) (.lit 1)) (.fail 20) (.assert (.rng .i64 (.bin .add (.var 1) (.lit 1))) (.assert (.tt (.bin .le (.lit 0) (.bin .add (.var 1) (.lit 1)))) (.assert (.tt (.bin .le (.bin .add (.var 1) (.lit 1)) (.lit 1024))) (.assert (.tt (.bin .le (.lit 0) (.bin .sub (.lit 1024) (.bin .add (.var 1) (.lit 1))))) (.assert (.tt (.bin .lt (.bin .sub (.lit 1024) (.bin .add (.var 1) (.lit 1))) (.bin .sub (.lit 1024) (.var 1)))) .ok))))))))))) .ok))))))))))))))))))))
def tAll8 : Tree := (.assume (.ff (.sel (.var 0) (.lit 128) 0)) (.assume (.ff (.sel (.var 0) (.lit 129) 0)) (.assume (.ff (.sel (.var 0) (.lit 130) 0)) (.assume (.ff (.sel (.var 0) (.lit 131) 0)) (.assume (.ff (.sel (.var 0) (.lit 132) 0)) (.assume (.ff (.sel (.var 0) (.lit 133) 0)) (.assume (.ff (.sel (.var 0) (.lit 134) 0)) (.assume (.ff (.sel (.var 0) (.lit 135) 0)) (.assume (.ff (.sel (.var 0) (.lit 136) 0)) (.assume (.ff (.sel (.var 0) (.lit 137) 0)) (.assume (.ff (.sel (.var 0) (.lit 138) 0)) (.assume (.ff (.sel (.var 0) (.lit 139) 0)) (.assume (.ff (.sel (.var 0) (.lit 140) 0)) (.assume (.ff (.sel (.var 0) (.lit 141) 0)) (.assume (.ff (.sel (.var 0) (.lit 142) 0)) (.assume (.ff (.sel (.var 0) (.lit 143) 0)) (.havoc false (.assume (.tt (.bin .le (.lit 0) (.var 1))) (.assume (.tt (.bin .le (.var 1) (.lit 1024))) (.branch (.bin .lt (.var 1) (.lit 1024)) (.assert (.tt (.bin .le (.lit 0) (.bin (.bits 6 .i64) (.var 1) (.lit 64)))) (.assert (.tt (.bin .lt (.bin (.bits 6 .i64) (.var 1) (.lit 64)) (.lit 16))) (.assert (.tt (.bin .le (.lit 0) (.bin .add (.bin (.bits 6 .i64) (.var 1) (.lit 64)) (.lit 128)))) (.assert (.tt (.bin .lt (.bin .add (.bin (.bits 6 .i64) (.var 1) (.lit 64)) (.lit 128)) (.lit 352))) (.assert (.tt (.bin .le (.lit 0) (.bin .tmod (.var 1) (.lit 64)))) (.branch (.bin .eq (.bin (.bits 0 .u64) (.bin (.bits 5 .u64) (.sel (.var 0) (.bin .add (.bin (.bits 6 .i64) (.var 1) (.lit 64)) (.lit 128)) 0) (.bin .tmod (.var 1) (.lit 64))) (.lit 1)) (.lit 1)) (.fail 20) (.assert (.rng .i64 (.bin .add (.var 1) (.lit 1))) (.assert (.tt (.bin .le (.lit 0) (.bin .add (.var 1) (.lit 1)))) (.assert (.tt (.bin .le (.bin .add (.var 1) (.lit 1)) (.lit 1024))) (.assert (.tt (.bin .le (.lit 0) (.bin .sub (.lit 1024) (.bin .add (.var 1) (.lit 1))))) (.assert (.tt (.bin .lt (.bin .sub (.lit 1024) (.bin .add (.var 1) (.lit 1))) (.bin .sub (.lit 1024) (.var 1)))) .ok))))))))))) .ok))))))))))))))))))))
def tAll9 : Tree := (.assume (.ff (.sel (.var 0) (.lit 144) 0)) (.assume (.ff (.sel (.var 0) (.lit 145) 0)) (.assume (.ff (.sel (.var 0) (.lit 146) 0)) (.assume (.ff (.sel (.var 0) (.lit 147) 0)) (.assume (.ff (.sel (.var 0) (.lit 148) 0)) (.assume (.ff (.sel (.var 0) (.lit 149) 0)) (.assume (.ff (.sel (.var 0) (.lit 150) 0)) (.assume (.ff (.sel (.var 0) (.lit 151) 0)) (.assume (.ff (.sel (.var 0) (.lit 152) 0)) (.assume (.ff (.sel (.var 0) (.lit 153) 0)) (.assume (.ff (.sel (.var 0) (.lit 154) 0)) (.assume (.ff (.sel (.var 0) (.lit 155) 0)) (.assume (.ff (.sel (.var 0) (.lit 156) 0)) (.assume (.ff (.sel (.var 0) (.lit 157) 0)) (.assume (.ff (.sel (.var 0) (.lit 158) 0)) (.assume (.ff (.sel (.var 0) (.lit 159) 0)) (.havoc false (.assume (.tt (.bin .le (.lit 0) (.var 1))) (.assume (.tt (.bin .le (.var 1) (.lit 1024))) (.branch (.bin .lt (.var 1) (.lit 1024)) (.assert (.tt (.bin .le (.lit 0) (.bin (.bits 6 .i64) (.var 1) (.lit 64)))) (.assert (.tt (.bin .lt (.bin (.bits 6 .i64) (.var 1) (.lit 64)) (.lit 16))) (.assert (.tt (.bin .le (.lit 0) (.bin .add (.bin (.bits 6 .i64) (.var 1) (.lit 64)) (.lit 144)))) (.assert (.tt (.bin .lt (.bin .add (.bin (.bits 6 .i64) (.var 1) (.lit 64)) (.lit 144)) (.lit 352))) (.assert (.tt (.bin .le (.lit 0) (.bin .tmod (.var 1) (.lit 64)))) (.branch (.bin .eq (.bin (.bits 0 .u64) (.bin (.bits 5 .u64) (.sel (.var 0) (.bin .add (.bin (.bits 6 .i64) (.var 1) (.lit 64)) (.lit 144)) 0) (.bin .tmod (.var 1) (.lit 64))) (.lit 1)) (.lit 1)) (.fail 20) (.assert (.rng .i64 (.bin .add (.var 1) (.lit 1))) (.assert (.tt (.bin .le (.lit 0) (.bin .add (.var 1) (.lit 1)))) (.assert (.tt (.bin .le (.bin .add (.var 1) (.lit 1)) (.lit 1024))) (.assert (.tt (.bin .le (.lit 0) (.bin .sub (.lit 1024) (.bin .add (.var 1) (.lit 1))))) (.assert (.tt (.bin .lt (.bin .sub (.lit 1024) (.bin .add (.var 1) (.lit 1))) (.bin .sub (.lit 1024) (.var 1)))) .ok))))))))))) .ok))))))))))))))))))))
end Go.Mg
namespace Go.Mg
open Go Go.Sx
variable {I : Itp}
theorem words {f : Int → Nat → Int} {c x : Int} (h : ∀ i : Nat, i < 16 → f (c + i) 0 = 0) (h0 : 0 ≤ x) (h1 : x < 1024) : f (x / 64 + c) 0 = 0 := by
  have := h (x / 64).toNat (by omega)
  rw [← this]; congr 1; omega
theorem vCounts : ∀ ds, Sorts cCounts.sorts ds → tCounts.vc I ds := by
  refine all_t fun T => all_n ?_
  set_option linter.unusedSimpArgs false in
  simp only [tCounts, Tree.vc, PE.den, E.den, dens, BO.ev, List.getElem?_cons_zero, List.getElem?_cons_succ, List.cons_append, List.nil_append, Option.some.injEq, D.i.injEq, D.t.injEq, exists_eq_left', exists_const, forall_const, forall_eq', one_ne, one_eq, zero_ne, zero_eq, min_i64, max_i64, min_u8, max_u8, min_u16, max_u16, min_u32, max_u32, min_u64, max_u64, and_true, true_and]
  intro hT a b c d e x h0 h1 h2 h3 h4 h5 h6 h7 h8 h9 h10 h11
  have hx := hT x
  generalize T x 0 = k at *
  generalize T x 1 = y at *
  clear hT
  refine ⟨fun h => ?_, fun _ => trivial⟩
  repeat' (first | omega | (intro _) | (refine And.intro ?_ ?_) | trivial)
theorem vState : ∀ ds, Sorts cState.sorts ds → tState.vc I ds := by
  refine all_t fun T => all_n ?_
  set_option linter.unusedSimpArgs false in
  simp only [tState, Tree.vc, PE.den, E.den, dens, BO.ev, List.getElem?_cons_zero, List.getElem?_cons_succ, List.cons_append, List.nil_append, Option.some.injEq, D.i.injEq, D.t.injEq, exists_eq_left', exists_const, forall_const, forall_eq', one_ne, one_eq, zero_ne, zero_eq, min_i64, max_i64, min_u8, max_u8, min_u16, max_u16, min_u32, max_u32, min_u64, max_u64, and_true, true_and]
  intro hT x h0 h1
  have hx := hT x
  have hx : T x 0 = 0 := by omega
  rw [hx]
  clear hT
  refine ⟨fun h => ?_, fun _ => trivial⟩
  repeat' (first | omega | (intro _) | (refine And.intro ?_ ?_) | trivial)
theorem vAll3 : ∀ ds, Sorts (cAll 3).sorts ds → tAll3.vc I ds := by
  refine all_t fun T => all_n ?_
  set_option linter.unusedSimpArgs false in
  simp only [tAll3, Tree.vc, PE.den, E.den, dens, BO.ev, List.getElem?_cons_zero, List.getElem?_cons_succ, List.cons_append, List.nil_append, Option.some.injEq, D.i.injEq, D.t.injEq, exists_eq_left', exists_const, forall_const, forall_eq', one_ne, one_eq, zero_ne, zero_eq, min_i64, max_i64, min_u8, max_u8, min_u16, max_u16, min_u32, max_u32, min_u64, max_u64, and_true, true_and]
  intro a0 a1 a2 a3 a4 a5 a6 a7 a8 a9 a10 a11 a12 a13 a14 a15 x h0 h1
  refine ⟨fun h => ?_, fun _ => trivial⟩
  have hw := words (f := T) (c := 48) (x := x) (fun i hi => by
    match i, hi with
    | 0, _ => exact a0 | 1, _ => exact a1 | 2, _ => exact a2 | 3, _ => exact a3 | 4, _ => exact a4 | 5, _ => exact a5 | 6, _ => exact a6 | 7, _ => exact a7
    | 8, _ => exact a8 | 9, _ => exact a9 | 10, _ => exact a10 | 11, _ => exact a11 | 12, _ => exact a12 | 13, _ => exact a13 | 14, _ => exact a14 | 15, _ => exact a15
    | n + 16, hi => omega) h0 h
  rw [quo64 h0 h]
  rw [hw, bits_zero]
  have hm : x.tmod 64 = x % 64 := Int.tmod_eq_emod_of_nonneg h0
  rw [hm]
  clear a0 a1 a2 a3 a4 a5 a6 a7 a8 a9 a10 a11 a12 a13 a14 a15 hw
  repeat' (first | omega | (intro _) | (refine And.intro ?_ ?_) | trivial)
theorem vAll4 : ∀ ds, Sorts (cAll 4).sorts ds → tAll4.vc I ds := by
  refine all_t fun T => all_n ?_
  set_option linter.unusedSimpArgs false in
  simp only [tAll4, Tree.vc, PE.den, E.den, dens, BO.ev, List.getElem?_cons_zero, List.getElem?_cons_succ, List.cons_append, List.nil_append, Option.some.injEq, D.i.injEq, D.t.injEq, exists_eq_left', exists_const, forall_const, forall_eq', one_ne, one_eq, zero_ne, zero_eq, min_i64, max_i64, min_u8, max_u8, min_u16, max_u16, min_u32, max_u32, min_u64, max_u64, and_true, true_and]
  intro a0 a1 a2 a3 a4 a5 a6 a7 a8 a9 a10 a11 a12 a13 a14 a15 x h0 h1
  refine ⟨fun h => ?_, fun _ => trivial⟩
  have hw := words (f := T) (c := 64) (x := x) (fun i hi => by
    match i, hi with
    | 0, _ => exact a0 | 1, _ => exact a1 | 2, _ => exact a2 | 3, _ => exact a3 | 4, _ => exact a4 | 5, _ => exact a5 | 6, _ => exact a6 | 7, _ => exact a7
    | 8, _ => exact a8 | 9, _ => exact a9 | 10, _ => exact a10 | 11, _ => exact a11 | 12, _ => exact a12 | 13, _ => exact a13 | 14, _ => exact a14 | 15, _ => exact a15
    | n + 16, hi => omega) h0 h
  rw [quo64 h0 h]
  rw [hw, bits_zero]
  have hm : x.tmod 64 = x % 64 := Int.tmod_eq_emod_of_nonneg h0
  rw [hm]
  clear a0 a1 a2 a3 a4 a5 a6 a7 a8 a9 a10 a11 a12 a13 a14 a15 hw
  repeat' (first | omega | (intro _) | (refine And.intro ?_ ?_) | trivial)
theorem vAll5 : ∀ ds, Sorts (cAll 5).sorts ds → tAll5.vc I ds := by
  refine all_t fun T => all_n ?_
  set_option linter.unusedSimpArgs false in
  simp only [tAll5, Tree.vc, PE.den, E.den, dens, BO.ev, List.getElem?_cons_zero, List.getElem?_cons_succ, List.cons_append, List.nil_append, Option.some.injEq, D.i.injEq, D.t.injEq, exists_eq_left', exists_const, forall_const, forall_eq', one_ne, one_eq, zero_ne, zero_eq, min_i64, max_i64, min_u8, max_u8, min_u16, max_u16, min_u32, max_u32, min_u64, max_u64, and_true, true_and]
  intro a0 a1 a2 a3 a4 a5 a6 a7 a8 a9 a10 a11 a12 a13 a14 a15 x h0 h1
  refine ⟨fun h => ?_, fun _ => trivial⟩
  have hw := words (f := T) (c := 80) (x := x) (fun i hi => by
    match i, hi with
    | 0, _ => exact a0 | 1, _ => exact a1 | 2, _ => exact a2 | 3, _ => exact a3 | 4, _ => exact a4 | 5, _ => exact a5 | 6, _ => exact a6 | 7, _ => exact a7
    | 8, _ => exact a8 | 9, _ => exact a9 | 10, _ => exact a10 | 11, _ => exact a11 | 12, _ => exact a12 | 13, _ => exact a13 | 14, _ => exact a14 | 15, _ => exact a15
    | n + 16, hi => omega) h0 h
  rw [quo64 h0 h]
  rw [hw, bits_zero]
  have hm : x.tmod 64 = x % 64 := Int.tmod_eq_emod_of_nonneg h0
  rw [hm]
  clear a0 a1 a2 a3 a4 a5 a6 a7 a8 a9 a10 a11 a12 a13 a14 a15 hw
  repeat' (first | omega | (intro _) | (refine And.intro ?_ ?_) | trivial)
theorem vAll6 : ∀ ds, Sorts (cAll 6).sorts ds → tAll6.vc I ds := by
  refine all_t fun T => all_n ?_
  set_option linter.unusedSimpArgs false in
  simp only [tAll6, Tree.vc, PE.den, E.den, dens, BO.ev, List.getElem?_cons_zero, List.getElem?_cons_succ, List.cons_append, List.nil_append, Option.some.injEq, D.i.injEq, D.t.injEq, exists_eq_left', exists_const, forall_const, forall_eq', one_ne, one_eq, zero_ne, zero_eq, min_i64, max_i64, min_u8, max_u8, min_u16, max_u16, min_u32, max_u32, min_u64, max_u64, and_true, true_and]
  intro a0 a1 a2 a3 a4 a5 a6 a7 a8 a9 a10 a11 a12 a13 a14 a15 x h0 h1
  refine ⟨fun h => ?_, fun _ => trivial⟩
  have hw := words (f := T) (c := 96) (x := x) (fun i hi => by
    match i, hi with
    | 0, _ => exact a0 | 1, _ => exact a1 | 2, _ => exact a2 | 3, _ => exact a3 | 4, _ => exact a4 | 5, _ => exact a5 | 6, _ => exact a6 | 7, _ => exact a7
    | 8, _ => exact a8 | 9, _ => exact a9 | 10, _ => exact a10 | 11, _ => exact a11 | 12, _ => exact a12 | 13, _ => exact a13 | 14, _ => exact a14 | 15, _ => exact a15
    | n + 16, hi => omega) h0 h
  rw [quo64 h0 h]
  rw [hw, bits_zero]
  have hm : x.tmod 64 = x % 64 := Int.tmod_eq_emod_of_nonneg h0
  rw [hm]
  clear a0 a1 a2 a3 a4 a5 a6 a7 a8 a9 a10 a11 a12 a13 a14 a15 hw
  repeat' (first | omega | (intro _) | (refine And.intro ?_ ?_) | trivial)
theorem vAll7 : ∀ ds, Sorts (cAll 7).sorts ds → tAll7.vc I ds := by
  refine all_t fun T => all_n ?_
  set_option linter.unusedSimpArgs false in
  simp only [tAll7, Tree.vc, PE.den, E.den, dens, BO.ev, List.getElem?_cons_zero, List.getElem?_cons_succ, List.cons_append, List.nil_append, Option.some.injEq, D.i.injEq, D.t.injEq, exists_eq_left', exists_const, forall_const, forall_eq', one_ne, one_eq, zero_ne, zero_eq, min_i64, max_i64, min_u8, max_u8, min_u16, max_u16, min_u32, max_u32, min_u64, max_u64, and_true, true_and]
  intro a0 a1 a2 a3 a4 a5 a6 a7 a8 a9 a10 a11 a12 a13 a14 a15 x h0 h1
  refine ⟨fun h => ?_, fun _ => trivial⟩
  have hw := words (f := T) (c := 112) (x := x) (fun i hi => by
    match i, hi with
    | 0, _ => exact a0 | 1, _ => exact a1 | 2, _ => exact a2 | 3, _ => exact a3 | 4, _ => exact a4 | 5, _ => exact a5 | 6, _ => exact a6 | 7, _ => exact a7
    | 8, _ => exact a8 | 9, _ => exact a9 | 10, _ => exact a10 | 11, _ => exact a11 | 12, _ => exact a12 | 13, _ => exact a13 | 14, _ => exact a14 | 15, _ => exact a15
    | n + 16, hi => omega) h0 h
  rw [quo64 h0 h]
  rw [hw, bits_zero]
  have hm : x.tmod 64 = x % 64 := Int.tmod_eq_emod_of_nonneg h0
  rw [hm]
  clear a0 a1 a2 a3 a4 a5 a6 a7 a8 a9 a10 a11 a12 a13 a14 a15 hw
  repeat' (first | omega | (intro _) | (refine And.intro ?_ ?_) | trivial)
theorem vAll8 : ∀ ds, Sorts (cAll 8).sorts ds → tAll8.vc I ds := by
  refine all_t fun T => all_n ?_
  set_option linter.unusedSimpArgs false in
  simp only [tAll8, Tree.vc, PE.den, E.den, dens, BO.ev, List.getElem?_cons_zero, List.getElem?_cons_succ, List.cons_append, List.nil_append, Option.some.injEq, D.i.injEq, D.t.injEq, exists_eq_left', exists_const, forall_const, forall_eq', one_ne, one_eq, zero_ne, zero_eq, min_i64, max_i64, min_u8, max_u8, min_u16, max_u16, min_u32, max_u32, min_u64, max_u64, and_true, true_and]
  intro a0 a1 a2 a3 a4 a5 a6 a7 a8 a9 a10 a11 a12 a13 a14 a15 x h0 h1
  refine ⟨fun h => ?_, fun _ => trivial⟩
  have hw := words (f := T) (c := 128) (x := x) (fun i hi => by
    match i, hi with
    | 0, _ => exact a0 | 1, _ => exact a1 | 2, _ => exact a2 | 3, _ => exact a3 | 4, _ => exact a4 | 5, _ => exact a5 | 6, _ => exact a6 | 7, _ => exact a7
    | 8, _ => exact a8 | 9, _ => exact a9 | 10, _ => exact a10 | 11, _ => exact a11 | 12, _ => exact a12 | 13, _ => exact a13 | 14, _ => exact a14 | 15, _ => exact a15
    | n + 16, hi => omega) h0 h
  rw [quo64 h0 h]
  rw [hw, bits_zero]
  have hm : x.tmod 64 = x % 64 := Int.tmod_eq_emod_of_nonneg h0
  rw [hm]
  clear a0 a1 a2 a3 a4 a5 a6 a7 a8 a9 a10 a11 a12 a13 a14 a15 hw
  repeat' (first | omega | (intro _) | (refine And.intro ?_ ?_) | trivial)
theorem vAll9 : ∀ ds, Sorts (cAll 9).sorts ds → tAll9.vc I ds := by
  refine all_t fun T => all_n ?_
  set_option linter.unusedSimpArgs false in
  simp only [tAll9, Tree.vc, PE.den, E.den, dens, BO.ev, List.getElem?_cons_zero, List.getElem?_cons_succ, List.cons_append, List.nil_append, Option.some.injEq, D.i.injEq, D.t.injEq, exists_eq_left', exists_const, forall_const, forall_eq', one_ne, one_eq, zero_ne, zero_eq, min_i64, max_i64, min_u8, max_u8, min_u16, max_u16, min_u32, max_u32, min_u64, max_u64, and_true, true_and]
  intro a0 a1 a2 a3 a4 a5 a6 a7 a8 a9 a10 a11 a12 a13 a14 a15 x h0 h1
  refine ⟨fun h => ?_, fun _ => trivial⟩
  have hw := words (f := T) (c := 144) (x := x) (fun i hi => by
    match i, hi with
    | 0, _ => exact a0 | 1, _ => exact a1 | 2, _ => exact a2 | 3, _ => exact a3 | 4, _ => exact a4 | 5, _ => exact a5 | 6, _ => exact a6 | 7, _ => exact a7
    | 8, _ => exact a8 | 9, _ => exact a9 | 10, _ => exact a10 | 11, _ => exact a11 | 12, _ => exact a12 | 13, _ => exact a13 | 14, _ => exact a14 | 15, _ => exact a15
    | n + 16, hi => omega) h0 h
  rw [quo64 h0 h]
  rw [hw, bits_zero]
  have hm : x.tmod 64 = x % 64 := Int.tmod_eq_emod_of_nonneg h0
  rw [hm]
  clear a0 a1 a2 a3 a4 a5 a6 a7 a8 a9 a10 a11 a12 a13 a14 a15 hw
  repeat' (first | omega | (intro _) | (refine And.intro ?_ ?_) | trivial)
theorem vFresh : ∀ ds, Sorts cFresh.sorts ds → tFresh.vc I ds := by
  refine all_n ?_
  set_option linter.unusedSimpArgs false in
  simp only [tFresh, Tree.vc, PE.den, E.den, dens, BO.ev, List.getElem?_cons_zero, List.getElem?_cons_succ, List.cons_append, List.nil_append, Option.some.injEq, D.i.injEq, D.t.injEq, exists_eq_left', exists_const, forall_const, forall_eq', one_ne, one_eq, zero_ne, zero_eq, min_i64, max_i64, min_u8, max_u8, min_u16, max_u16, min_u32, max_u32, min_u64, max_u64, and_true, true_and]
  refine ⟨⟨_, _, _, rfl, rfl, rfl, fun r c h0 h1 _ => by omega⟩, ?_⟩
  rintro T x h0 h1 ⟨_, _, _, rfl, rfl, rfl, hT⟩
  refine ⟨fun h => ⟨by omega, by omega, by omega, ⟨_, _, _, rfl, rfl, rfl, ?_⟩, by omega, by omega⟩, fun h => ⟨⟨_, _, _, rfl, rfl, rfl, ?_⟩, ⟨_, _, _, rfl, rfl, rfl, ?_⟩⟩⟩
  · intro r c hr hx hc
    by_cases hrx : r = x
    · subst hrx
      match c, hc with
      | 0, _ => simp [tupd]
      | 1, _ => simp [tupd]
      | 2, _ => simp [tupd]
      | 3, _ => simp [tupd]
      | 4, _ => simp [tupd]
      | n + 5, hc => omega
    · simp only [tupd, hrx, false_and, if_false]
      exact hT r c hr (by omega) hc
  · intro r c hr hx hc
    exact (hT r c hr (by omega) hc).symm
  · intro r c hr hx hc
    have : r = 0 := by omega
    subst this
    match c, hc with
    | 0, _ => simp [tupd]
    | 1, _ => simp [tupd]
    | 2, _ => simp [tupd]
    | n + 3, hc => omega
theorem vVmNew : ∀ ds, Sorts cVmNew.sorts ds → tVmNew.vc I ds := fun _ _ => trivial
def tMem1 : E := .upd .zt (.lit 2) 0 (.lit 549755813888)
def cState1 : Contract := { c0 with fn := 335, args := [.ptr 0 (.lit 0) 0 0], mem := [(0, .big [] [.int .u64] tMem1 1024 [] false)], nb := 1, res := .agg [.slice 1 (.lit 0) (.lit 1) 2 false], fresh := [(1, .cells [i64 (.lit 2), .slice 2 (.lit 0) (.lit 1) 2 false] true), (2, .rows [.int .i64, .int .i64] (.upd (.upd .zt (.lit 0) 0 (.lit 39)) (.lit 0) 1 (.lit 1)) (.lit 1) true false)] }
def aState1 : Ann where
  fn := 335
  bid := 0
  keep := [6, 3, 2, 0]
  tmps := [(7, i64 (v 0))]
  drop := [2]
  mem := [(2, .cells [.slice 6 (.lit 0) (.lit 1) 2 false] true)]
  sorts := [false]
  nbl := 0
  inv := [eLe (.lit 3) (v 0), eLe (v 0) (.lit 1024)]
  meas := .bin .sub (.lit 1024) (v 0)
def xState1 (P : Program) : Cx := { P, cs := [], anns := [aState1], kn := kn }
def tState1 : Tree := (.havoc false (.assume (.tt (.bin .le (.lit 3) (.var 0))) (.assume (.tt (.bin .le (.var 0) (.lit 1024))) (.branch (.bin .lt (.var 0) (.lit 1024)) (.assert (.tt (.bin .le (.lit 0) (.var 0))) (.branch (.bin .eq (.bin .eq (.sel (.upd .zt (.lit 2) 0 (.lit 549755813888)) (.var 0) 0) (.lit 0)) (.lit 0)) (.branch (.bin .eq (.bin .eq (.bin (.bits 5 .u64) (.sel (.upd .zt (.lit 2) 0 (.lit 549755813888)) (.var 0) 0) (.lit 0)) (.lit 0)) (.lit 0)) (.fail 20) (.assert (.rng .i64 (.bin .add (.var 0) (.lit 1))) (.fail 61))) (.assert (.rng .i64 (.bin .add (.var 0) (.lit 1))) (.assert (.tt (.bin .le (.lit 3) (.bin .add (.var 0) (.lit 1)))) (.assert (.tt (.bin .le (.bin .add (.var 0) (.lit 1)) (.lit 1024))) (.assert (.tt (.bin .le (.lit 0) (.bin .sub (.lit 1024) (.bin .add (.var 0) (.lit 1))))) (.assert (.tt (.bin .lt (.bin .sub (.lit 1024) (.bin .add (.var 0) (.lit 1))) (.bin .sub (.lit 1024) (.var 0)))) .ok))))))) .ok))))
theorem vState1 : ∀ ds, Sorts cState1.sorts ds → tState1.vc I ds := by
  refine all_n ?_
  set_option linter.unusedSimpArgs false in
  simp only [tState1, Tree.vc, PE.den, E.den, dens, BO.ev, List.getElem?_cons_zero, List.getElem?_cons_succ, List.cons_append, List.nil_append, Option.some.injEq, D.i.injEq, D.t.injEq, exists_eq_left', exists_const, forall_const, forall_eq', one_ne, one_eq, zero_ne, zero_eq, min_i64, max_i64, min_u8, max_u8, min_u16, max_u16, min_u32, max_u32, min_u64, max_u64, and_true, true_and]
  intro x h0 h1
  refine ⟨fun h => ?_, fun _ => trivial⟩
  have hx : tupd (fun _ _ => 0) 2 0 549755813888 x 0 = 0 := by simp only [tupd]; rw [if_neg (by omega)]
  rw [hx]
  repeat' (first | omega | (intro _) | (refine And.intro ?_ ?_) | trivial)
end Go.Mg
namespace Go.Mg
open Go Go.Sx
set_option maxRecDepth 10000
def q (n : Int) : AV := .int .i64 (.lit n)
def q0 : AV := .int .i64 (.lit 0)
def q1 : AV := .int .i64 (.lit 1)
def b0 : AV := .bool (.lit 0)
def b1 : AV := .bool (.lit 1)
def u (n : Int) : AV := .int .u64 (.lit n)
def p (b k : Nat) : AV := .ptr b (.lit 0) 0 k
def sb0 : Blk := .rows [(.int .i64), .str, .str, (.int .i64), (.int .i64), (.int .i64), (.int .i64), (.int .i64)] (.upd (.upd (.upd (.upd (.upd (.upd (.upd (.upd (.upd (.upd (.upd (.upd (.upd (.upd (.upd (.upd (.upd (.upd (.upd (.upd (.upd (.upd (.upd (.upd (.upd (.upd (.upd (.upd (.upd (.upd (.upd (.upd (.upd (.upd (.upd (.upd (.upd (.upd .zt (.lit 0) 0 (.lit 1)) (.lit 0) 1 (.lit 934621495)) (.lit 0) 3 (.lit 3)) (.lit 0) 4 (.lit 1)) (.lit 1) 0 (.lit 3)) (.lit 1) 1 (.lit 934621495)) (.lit 1) 2 (.lit 49)) (.lit 1) 3 (.lit 100)) (.lit 1) 4 (.lit 1)) (.lit 2) 0 (.lit 4)) (.lit 2) 1 (.lit 934621495)) (.lit 2) 2 (.lit 55)) (.lit 3) 0 (.lit 3)) (.lit 3) 1 (.lit 934621495)) (.lit 3) 2 (.lit (-50))) (.lit 3) 3 (.lit 10)) (.lit 3) 4 (.lit 1)) (.lit 4) 0 (.lit 8)) (.lit 4) 1 (.lit 934621495)) (.lit 4) 2 (.lit (-50))) (.lit 4) 3 (.lit 3)) (.lit 4) 4 (.lit 7)) (.lit 4) 6 (.lit 1)) (.lit 5) 0 (.lit 7)) (.lit 5) 1 (.lit 934621495)) (.lit 5) 2 (.lit (-50))) (.lit 5) 3 (.lit 3)) (.lit 5) 6 (.lit 1)) (.lit 5) 7 (.lit 7)) (.lit 6) 0 (.lit 5)) (.lit 6) 1 (.lit 934621495)) (.lit 6) 2 (.lit 55)) (.lit 7) 0 (.lit 7)) (.lit 7) 1 (.lit 934621495)) (.lit 7) 2 (.lit (-50))) (.lit 7) 3 (.lit 3)) (.lit 7) 6 (.lit 2)) (.lit 7) 7 (.lit 170)) (.lit 8) true false
def sb1 : Blk := .cells [(p 1 0), (p 2 0), q0, (p 3 0), q0, q0, q0, q0, q0, q0, q0, .nilslice, b0, .nilslice, .nilslice, q0, q0, q0, q0, q0, q0, q0, q0, .nilslice, b0, .nilslice, .nilslice, q0, q0, q0, q0, q0, q0, q0, q0, .nilslice, b0, .nilslice, .nilslice, q0, q0, q0, q0, q0, q0, q0, q0, .nilslice, b0, .nilslice, .nilslice, q0, q0, q0, q0, q0, q0, q0, q0, .nilslice, b0, .nilslice, .nilslice, q0, q0, q0, q0, q0, q0, q0, q0, .nilslice, b0, .nilslice, .nilslice, q0, q0, q0, q0, q0, q0, q0, q0, .nilslice, b0, .nilslice, .nilslice, q0, q0, q0, q0, q0, q0, q0, q0, .nilslice, b0, .nilslice, .nilslice, q0, q0, q0, q0, q0, q0, q0, q0, .nilslice, b0, .nilslice, .nilslice, q0, q0, q0, q0, q0, q0, q0, q0, .nilslice, b0, .nilslice, .nilslice, q0, q0, q0, q0, q0, q0, q0, q0, .nilslice, b0, .nilslice, .nilslice, q0, q0, q0, q0, q0, q0, q0, q0, .nilslice, b0, .nilslice, .nilslice, q0, q0, q0, q0, q0, q0, q0, q0, .nilslice, b0, .nilslice, .nilslice, q0, q0, q0, q0, q0, q0, q0, q0, .nilslice, b0, .nilslice, .nilslice, q0, q0, q0, q0, q0, q0, q0, q0, .nilslice, b0, .nilslice, .nilslice, q0, q0, q0, q0, q0, q0, q0, q0, .nilslice, b0, .nilslice, .nilslice, q0] true
def sb2 : Blk := .cells [(p 4 0), (p 5 0), (p 6 0), .nilslice, q0] true
def sb3 : Blk := .big [b1, (q 10)] [(.int .u64)] (.upd .zt (.lit 160) 0 (.lit 1)) 352 [] true
def sb4 : Blk := .cells [(.slice 7 (.lit 0) (.lit 16) 3 false), (q 16), (.slice 8 (.lit 0) (.lit 1) 1 false), q0] true
def sb5 : Blk := .big [b1] pgK .zt 1024 [.nilslice, q0, q0, q0, q0, q0, q0, q0, q0, q0, q0, q0, q0, q0, q0] true
def sb6 : Blk := .cells [b1, (.slice 9 (.lit 0) (.lit 1) 6 false)] true
def sb7 : Blk := .big [(q 10), q0, (q 2), q0, (p 10 0)] [(.int .i64)] .zt 1024 [] true
def sb8 : Blk := .rows [(.int .i64), .bool, (.int .i64)] .zt (.lit 16) true false
def sb9 : Blk := .rows [(.int .u64)] (.upd .zt (.lit 0) 0 (.lit 65535)) (.lit 1) true false
def sb10 : Blk := .rows [(.int .i64), (.int .i64), (.int .i64), (.int .i64), .bool, (.int .i64)] (.upd (.upd .zt (.lit 0) 0 (.lit (-1))) (.lit 0) 1 (.lit 20)) (.lit 1) true false
def sb11 : Blk := .cells [(.slice 11 (.lit 0) (.lit 1024) 5 false), (.slice 12 (.lit 0) (.lit 1) 3 false), q0] true
def sb12 : Blk := .rows [(.int .i64), (.int .i64), (.int .i64), (.int .i64), (.int .i64)] (.kt [0, 0, -1, -1, -1]) (.lit 1024) true false
def sb13 : Blk := .rows [(.int .i64), (.int .i64), (.int .i64)] (.kt [-1, -1, 0]) (.lit 1) true false
def sb14 : Blk := .cells [(p 1 0), (p 2 0), q0, (p 3 0), q0, (q 8), q1, q1, q0, q1, q0, .nilslice, b0, .nilslice, .nilslice, q1, q0, q0, q0, q0, q0, q0, q0, .nilslice, b0, .nilslice, .nilslice, q0, q0, q0, q0, q0, q0, q0, q0, .nilslice, b0, .nilslice, .nilslice, q0, q0, q0, q0, q0, q0, q0, q0, .nilslice, b0, .nilslice, .nilslice, q0, q0, q0, q0, q0, q0, q0, q0, .nilslice, b0, .nilslice, .nilslice, q0, q0, q0, q0, q0, q0, q0, q0, .nilslice, b0, .nilslice, .nilslice, q0, q0, q0, q0, q0, q0, q0, q0, .nilslice, b0, .nilslice, .nilslice, q0, q0, q0, q0, q0, q0, q0, q0, .nilslice, b0, .nilslice, .nilslice, q0, q0, q0, q0, q0, q0, q0, q0, .nilslice, b0, .nilslice, .nilslice, q0, q0, q0, q0, q0, q0, q0, q0, .nilslice, b0, .nilslice, .nilslice, q0, q0, q0, q0, q0, q0, q0, q0, .nilslice, b0, .nilslice, .nilslice, q0, q0, q0, q0, q0, q0, q0, q0, .nilslice, b0, .nilslice, .nilslice, q0, q0, q0, q0, q0, q0, q0, q0, .nilslice, b0, .nilslice, .nilslice, q0, q0, q0, q0, q0, q0, q0, q0, .nilslice, b0, .nilslice, .nilslice, q0, q0, q0, q0, q0, q0, q0, q0, .nilslice, b0, .nilslice, .nilslice, q0, q0, q0, q0, q0, q0, q0, q0, .nilslice, b0, .nilslice, .nilslice, q0] true
def sb15 : Blk := .big [b1, (q 10)] [(.int .u64)] (.upd (.upd (.upd (.upd (.upd (.upd (.upd (.upd (.upd .zt (.lit 160) 0 (.lit 0)) (.lit 152) 0 (.lit 1)) (.lit 132) 0 (.lit 1)) (.lit 114) 0 (.lit 1)) (.lit 97) 0 (.lit 1)) (.lit 80) 0 (.lit 4294967296)) (.lit 64) 0 (.lit 65536)) (.lit 48) 0 (.lit 256)) (.lit 224) 0 (.lit 1)) 352 [] true
def sb16 : Blk := .big [b1] pgK (.upd (.upd (.upd (.upd (.upd (.upd (.upd (.upd .zt (.lit 0) 0 (.lit 3)) (.lit 1) 0 (.lit 1)) (.lit 2) 0 (.lit 1)) (.lit 3) 0 (.lit 1)) (.lit 4) 0 (.lit 1)) (.lit 5) 0 (.lit 1)) (.lit 6) 0 (.lit 1)) (.lit 7) 0 (.lit 3)) 1024 [.nilslice, q1, q0, q0, q0, (q 2), q0, q0, q0, q0, q0, q0, q0, q0, q0] true
def sb17 : Blk := .rows [(.int .i64), .bool, (.int .i64)] (.upd (.upd .zt (.lit 0) 0 (.lit 1)) (.lit 0) 1 (.lit 1)) (.lit 16) true false
def sb18 : Blk := .rows [(.int .u64)] (.upd .zt (.lit 0) 0 (.lit 65534)) (.lit 1) true false
def sb19 : Blk := .rows [(.int .i64), (.int .i64), (.int .i64), (.int .i64), .bool, (.int .i64)] (.upd (.upd (.upd .zt (.lit 0) 0 (.lit (-1))) (.lit 0) 1 (.lit 20)) (.lit 1) 1 (.lit 4096)) (.lit 2) true false
def sb20 : Blk := .cells [b1, (.slice 2 (.lit 0) (.lit 2) 6 false)] true
def sb21 : Blk := .big [b1] pgK (.upd (.upd (.upd (.upd (.upd (.upd (.upd (.upd .zt (.lit 0) 0 (.lit 3)) (.lit 1) 0 (.lit 2)) (.lit 2) 0 (.lit 2)) (.lit 3) 0 (.lit 1)) (.lit 4) 0 (.lit 1)) (.lit 5) 0 (.lit 1)) (.lit 6) 0 (.lit 1)) (.lit 7) 0 (.lit 3)) 1024 [.nilslice, q1, q0, q1, q0, (q 2), q0, q0, q0, q0, q0, q0, q0, q0, q0] true
def sb22 : Blk := .rows [(.int .i64), (.int .i64), (.int .i64), (.int .i64), .bool, (.int .i64)] (.upd (.upd (.upd (.upd (.upd (.upd (.upd (.upd .zt (.lit 0) 0 (.lit (-1))) (.lit 0) 1 (.lit 20)) (.lit 1) 1 (.lit 4096)) (.lit 1) 2 (.lit 2)) (.lit 1) 5 (.lit 2)) (.lit 1) 3 (.lit 2)) (.lit 0) 5 (.lit 2)) (.lit 0) 3 (.lit 2)) (.lit 2) true false
def sb23 : Blk := .cells [(p 2 0), (p 3 0), (p 4 0), .nilslice, q0] true
def sb24 : Blk := .cells [b1, (.slice 5 (.lit 0) (.lit 2) 6 false)] true
def sb25 : Blk := .big [(q 10), q0, (q 2), q0, (p 6 0)] [(.int .i64)] .zt 1024 [] true
def sb26 : Blk := .cells [(.slice 7 (.lit 0) (.lit 1024) 5 false), (.slice 8 (.lit 0) (.lit 1) 3 false), q0] true
def sb27 : Blk := .cells [(.slice 7 (.lit 0) (.lit 16) 3 false), (q 16), (.slice 8 (.lit 0) (.lit 1) 1 false), q1] true
def sb28 : Blk := .cells [b1, (.slice 9 (.lit 0) (.lit 2) 6 false)] true
def sb29 : Blk := .rows [(.int .i64), (.int .i64)] (.upd (.upd .zt (.lit 0) 0 (.lit 64)) (.lit 0) 1 (.lit 100)) (.lit 1) true false
def sb30 : Blk := .cells [(p 5 0), (p 6 0), (p 7 0), .nilslice, q0] true
def sb31 : Blk := .cells [(.slice 8 (.lit 0) (.lit 16) 3 false), (q 16), (.slice 9 (.lit 0) (.lit 1) 1 false), q1] true
def sb32 : Blk := .cells [b1, (.slice 10 (.lit 0) (.lit 2) 6 false)] true
def sb33 : Blk := .big [(q 10), q0, (q 2), q0, (p 11 0)] [(.int .i64)] .zt 1024 [] true
def sb34 : Blk := .cells [(.slice 12 (.lit 0) (.lit 1024) 5 false), (.slice 13 (.lit 0) (.lit 1) 3 false), q0] true
def sb35 : Blk := .rows [(.int .i64), (.int .i64)] (.upd (.upd .zt (.lit 0) 0 (.lit 1)) (.lit 0) 1 (.lit 1)) (.lit 1) true false
def sb36 : Blk := .cells [(p 1 0), q0, (q 8), q1, q1, q0, q1, (q 2), .nilslice, b0, (.slice 2 (.lit 0) (.lit 1) 2 false), (.slice 3 (.lit 0) (.lit 1) 2 false), (q 2)] true
def sb37 : Blk := .cells [b1, (.slice 7 (.lit 0) (.lit 2) 6 false)] true
def sb38 : Blk := .big [(q 10), q0, (q 2), q0, (p 8 0)] [(.int .i64)] .zt 1024 [] true
def sb39 : Blk := .cells [(.slice 9 (.lit 0) (.lit 1024) 5 false), (.slice 10 (.lit 0) (.lit 1) 3 false), q0] true
def sb40 : Blk := .cells [(p 1 0), (p 2 0), q0, (p 3 0), q0, (q 8), q1, q1, q0, q1, (q 2), .nilslice, b0, (.slice 4 (.lit 0) (.lit 1) 2 false), (.slice 5 (.lit 0) (.lit 1) 2 false), (q 2), q0, q0, q0, q0, q0, q0, q0, .nilslice, b0, .nilslice, .nilslice, q0, q0, q0, q0, q0, q0, q0, q0, .nilslice, b0, .nilslice, .nilslice, q0, q0, q0, q0, q0, q0, q0, q0, .nilslice, b0, .nilslice, .nilslice, q0, q0, q0, q0, q0, q0, q0, q0, .nilslice, b0, .nilslice, .nilslice, q0, q0, q0, q0, q0, q0, q0, q0, .nilslice, b0, .nilslice, .nilslice, q0, q0, q0, q0, q0, q0, q0, q0, .nilslice, b0, .nilslice, .nilslice, q0, q0, q0, q0, q0, q0, q0, q0, .nilslice, b0, .nilslice, .nilslice, q0, q0, q0, q0, q0, q0, q0, q0, .nilslice, b0, .nilslice, .nilslice, q0, q0, q0, q0, q0, q0, q0, q0, .nilslice, b0, .nilslice, .nilslice, q0, q0, q0, q0, q0, q0, q0, q0, .nilslice, b0, .nilslice, .nilslice, q0, q0, q0, q0, q0, q0, q0, q0, .nilslice, b0, .nilslice, .nilslice, q0, q0, q0, q0, q0, q0, q0, q0, .nilslice, b0, .nilslice, .nilslice, q0, q0, q0, q0, q0, q0, q0, q0, .nilslice, b0, .nilslice, .nilslice, q0, q0, q0, q0, q0, q0, q0, q0, .nilslice, b0, .nilslice, .nilslice, q0, q0, q0, q0, q0, q0, q0, q0, .nilslice, b0, .nilslice, .nilslice, q0] true
def sb41 : Blk := .cells [(p 6 0), (p 7 0), (p 8 0), .nilslice, q0] true
def sb42 : Blk := .cells [(.slice 9 (.lit 0) (.lit 16) 3 false), (q 16), (.slice 10 (.lit 0) (.lit 1) 1 false), q1] true
def sb43 : Blk := .cells [b1, (.slice 11 (.lit 0) (.lit 2) 6 false)] true
def sb44 : Blk := .big [(q 10), q0, (q 2), q0, (p 12 0)] [(.int .i64)] .zt 1024 [] true
def sb45 : Blk := .cells [(.slice 13 (.lit 0) (.lit 1024) 5 false), (.slice 14 (.lit 0) (.lit 1) 3 false), q0] true
def sb46 : Blk := .rows [(.int .i64), (.int .i64)] (.upd (.upd (.upd (.upd .zt (.lit 0) 0 (.lit 64)) (.lit 0) 1 (.lit 100)) (.lit 1) 0 (.lit 164)) (.lit 1) 1 (.lit 10)) (.lit 2) true false
def sb47 : Blk := .cells [(p 1 0), (p 2 0), q0, (p 3 0), q0, (q 8), q1, q1, q0, q1, (q 2), .nilslice, b0, (.slice 4 (.lit 0) (.lit 2) 2 false), (.slice 5 (.lit 0) (.lit 1) 2 false), (q 2), q0, q0, q0, q0, q0, q0, q0, .nilslice, b0, .nilslice, .nilslice, q0, q0, q0, q0, q0, q0, q0, q0, .nilslice, b0, .nilslice, .nilslice, q0, q0, q0, q0, q0, q0, q0, q0, .nilslice, b0, .nilslice, .nilslice, q0, q0, q0, q0, q0, q0, q0, q0, .nilslice, b0, .nilslice, .nilslice, q0, q0, q0, q0, q0, q0, q0, q0, .nilslice, b0, .nilslice, .nilslice, q0, q0, q0, q0, q0, q0, q0, q0, .nilslice, b0, .nilslice, .nilslice, q0, q0, q0, q0, q0, q0, q0, q0, .nilslice, b0, .nilslice, .nilslice, q0, q0, q0, q0, q0, q0, q0, q0, .nilslice, b0, .nilslice, .nilslice, q0, q0, q0, q0, q0, q0, q0, q0, .nilslice, b0, .nilslice, .nilslice, q0, q0, q0, q0, q0, q0, q0, q0, .nilslice, b0, .nilslice, .nilslice, q0, q0, q0, q0, q0, q0, q0, q0, .nilslice, b0, .nilslice, .nilslice, q0, q0, q0, q0, q0, q0, q0, q0, .nilslice, b0, .nilslice, .nilslice, q0, q0, q0, q0, q0, q0, q0, q0, .nilslice, b0, .nilslice, .nilslice, q0, q0, q0, q0, q0, q0, q0, q0, .nilslice, b0, .nilslice, .nilslice, q0, q0, q0, q0, q0, q0, q0, q0, .nilslice, b0, .nilslice, .nilslice, q0] true
def sb48 : Blk := .big [b1] pgK (.upd (.upd (.upd (.upd (.upd (.upd (.upd (.upd (.upd .zt (.lit 0) 0 (.lit 3)) (.lit 1) 0 (.lit 2)) (.lit 2) 0 (.lit 2)) (.lit 3) 0 (.lit 1)) (.lit 4) 0 (.lit 1)) (.lit 5) 0 (.lit 1)) (.lit 6) 0 (.lit 1)) (.lit 7) 0 (.lit 3)) (.lit 2) 41 (.lit 7)) 1024 [.nilslice, q1, q0, q1, q0, (q 2), q0, q0, q0, q0, q0, q0, q0, q0, q0] true
def sb49 : Blk := .rows [(.int .i64), (.int .i64)] (.upd (.upd .zt (.lit 0) 0 (.lit 39)) (.lit 0) 1 (.lit 1)) (.lit 1) true false
def sb50 : Blk := .cells [(p 6 0), (p 7 0), (p 8 0), (.slice 9 (.lit 0) (.lit 1) 2 false), q0] true
def sb51 : Blk := .cells [(.slice 10 (.lit 0) (.lit 16) 3 false), (q 16), (.slice 11 (.lit 0) (.lit 1) 1 false), q1] true
def sb52 : Blk := .cells [b1, (.slice 12 (.lit 0) (.lit 2) 6 false)] true
def sb53 : Blk := .big [(q 10), q0, (q 2), q0, (p 13 0)] [(.int .i64)] .zt 1024 [] true
def sb54 : Blk := .cells [(q 2), (.slice 14 (.lit 0) (.lit 1) 2 false)] true
def sb55 : Blk := .cells [(.slice 15 (.lit 0) (.lit 1024) 5 false), (.slice 16 (.lit 0) (.lit 1) 3 false), q0] true
def sb56 : Blk := .cells [(p 4 0), (p 5 0), (p 6 0), (.slice 7 (.lit 0) (.lit 1) 2 false), q0] true
def sb57 : Blk := .rows [(.int .i64), (.int .i64)] (.upd (.upd (.upd (.upd .zt (.lit 0) 0 (.lit 64)) (.lit 0) 1 (.lit 100)) (.lit 1) 0 (.lit 164)) (.lit 1) 1 (.lit 10)) (.lit 1) true false
def sb58 : Blk := .cells [b1, (.slice 8 (.lit 0) (.lit 2) 6 false)] true
def sb59 : Blk := .big [(q 10), q0, (q 2), q0, (p 9 0)] [(.int .i64)] .zt 1024 [] true
def sb60 : Blk := .cells [(q 2), (.slice 10 (.lit 0) (.lit 1) 2 false)] true
def st0 : Contract := { fn := 14, sorts := [], args := [(.agg [(q 20), (q 10), (q 2), (.slice 0 (.lit 0) (.lit 8) 8 false)])], mem := [(0, sb0)], nb := 1, pre := [], outs := [], res := (.tup [q0, q0]), mods := [(0, sb0)], fresh := [], post := [] }
def st1 : Contract := { fn := 73, sorts := [], args := [(q 20), (q 10), (q 2)], mem := [], nb := 0, pre := [], outs := [], res := (.tup [(p 0 0), q0]), mods := [], fresh := [(0, sb1), (1, sb2), (2, sb3), (3, sb4), (4, sb5), (5, sb6), (6, sb7), (7, sb8), (8, sb9), (9, sb10), (10, sb11), (11, sb12), (12, sb13)], post := [] }
def st2 : Contract := { fn := 75, sorts := [], args := [(p 0 0), (.agg [q1, q0, (q 3), q1, q0])], mem := [(0, sb1), (1, sb2), (2, sb3), (3, sb4), (4, sb5), (5, sb6), (6, sb7), (7, sb8), (8, sb9), (9, sb10), (10, sb11), (11, sb12), (12, sb13)], nb := 13, pre := [], outs := [], res := (.agg [(q 65536), q0]), mods := [(0, sb14), (1, sb2), (2, sb15), (3, .cells [(.slice 7 (.lit 0) (.lit 16) 3 false), (q 16), (.slice 13 (.lit 0) (.lit 1) 1 false), q1] true), (4, sb16), (5, .cells [b1, (.slice 14 (.lit 0) (.lit 2) 6 false)] true), (6, sb7), (7, sb17), (8, sb9), (10, sb11), (11, sb12), (12, sb13)], fresh := [(13, sb18), (14, sb19)], post := [] }
def st4 : Contract := { fn := 189, sorts := [], args := [(.agg [q0, (q 8), q1, q1, q0, q1, q0, .nilslice, b0, .nilslice, .nilslice, q1]), (q 100), q1], mem := [], nb := 0, pre := [], outs := [], res := (.tup [(q 64), (q 2), q0]), mods := [], fresh := [], post := [] }
def st5 : Contract := { fn := 240, sorts := [], args := [(p 0 0), (p 1 0), (.agg [q0, (q 8), q1, q1, q0, q1, q0, .nilslice, b0]), (q 2)], mem := [(0, sb16), (1, sb20), (2, sb19)], nb := 3, pre := [], outs := [], res := (.tup [(.agg [q0, (q 8), q1, q1, q0, q1, (q 2), .nilslice, b0]), q0]), mods := [(0, sb21), (1, sb20), (2, sb22)], fresh := [], post := [] }
def st6 : Contract := { fn := 241, sorts := [], args := [(p 0 0), (.agg [q0, (q 8), q1, q1, q0, q1, (q 2), .nilslice, b0])], mem := [(0, .cells [(p 1 0), q0, (q 8), q1, q1, q0, q1, q0, .nilslice, b0, .nilslice, .nilslice, q1] true), (1, sb23), (2, sb21), (3, sb24), (4, sb25), (5, sb22), (6, sb26), (7, sb12), (8, sb13)], nb := 9, pre := [], outs := [], res := (.tup []), mods := [(0, .cells [(p 1 0), q0, (q 8), q1, q1, q0, q1, (q 2), .nilslice, b0, .nilslice, .nilslice, q1] true), (1, sb23), (2, sb21), (3, sb24), (4, sb25), (5, sb22), (6, sb26), (7, sb12), (8, sb13)], fresh := [], post := [] }
def st7 : Contract := { fn := 75, sorts := [], args := [(p 0 0), (.agg [(q 3), (q 65536), (q 100), q1, q0])], mem := [(0, sb14), (1, sb2), (2, sb15), (3, sb27), (4, sb16), (5, sb28), (6, sb7), (7, sb17), (8, sb18), (9, sb19), (10, sb11), (11, sb12), (12, sb13)], nb := 13, pre := [], outs := [], res := (.agg [(q 64), q0]), mods := [(0, .cells [(p 1 0), (p 2 0), q0, (p 3 0), q0, (q 8), q1, q1, q0, q1, (q 2), .nilslice, b0, (.slice 13 (.lit 0) (.lit 1) 2 false), .nilslice, q1, q0, q0, q0, q0, q0, q0, q0, .nilslice, b0, .nilslice, .nilslice, q0, q0, q0, q0, q0, q0, q0, q0, .nilslice, b0, .nilslice, .nilslice, q0, q0, q0, q0, q0, q0, q0, q0, .nilslice, b0, .nilslice, .nilslice, q0, q0, q0, q0, q0, q0, q0, q0, .nilslice, b0, .nilslice, .nilslice, q0, q0, q0, q0, q0, q0, q0, q0, .nilslice, b0, .nilslice, .nilslice, q0, q0, q0, q0, q0, q0, q0, q0, .nilslice, b0, .nilslice, .nilslice, q0, q0, q0, q0, q0, q0, q0, q0, .nilslice, b0, .nilslice, .nilslice, q0, q0, q0, q0, q0, q0, q0, q0, .nilslice, b0, .nilslice, .nilslice, q0, q0, q0, q0, q0, q0, q0, q0, .nilslice, b0, .nilslice, .nilslice, q0, q0, q0, q0, q0, q0, q0, q0, .nilslice, b0, .nilslice, .nilslice, q0, q0, q0, q0, q0, q0, q0, q0, .nilslice, b0, .nilslice, .nilslice, q0, q0, q0, q0, q0, q0, q0, q0, .nilslice, b0, .nilslice, .nilslice, q0, q0, q0, q0, q0, q0, q0, q0, .nilslice, b0, .nilslice, .nilslice, q0, q0, q0, q0, q0, q0, q0, q0, .nilslice, b0, .nilslice, .nilslice, q0, q0, q0, q0, q0, q0, q0, q0, .nilslice, b0, .nilslice, .nilslice, q0] true), (1, sb2), (2, sb15), (3, sb27), (4, sb21), (5, sb28), (6, sb7), (7, sb17), (8, sb18), (9, sb22), (10, sb11), (11, sb12), (12, sb13)], fresh := [(13, sb29)], post := [] }
def st9 : Contract := { fn := 75, sorts := [], args := [(p 0 0), (.agg [(q 4), (q 65536), q0, q0, q0])], mem := [(0, .cells [(p 1 0), (p 2 0), q0, (p 3 0), q0, (q 8), q1, q1, q0, q1, (q 2), .nilslice, b0, (.slice 4 (.lit 0) (.lit 1) 2 false), .nilslice, q1, q0, q0, q0, q0, q0, q0, q0, .nilslice, b0, .nilslice, .nilslice, q0, q0, q0, q0, q0, q0, q0, q0, .nilslice, b0, .nilslice, .nilslice, q0, q0, q0, q0, q0, q0, q0, q0, .nilslice, b0, .nilslice, .nilslice, q0, q0, q0, q0, q0, q0, q0, q0, .nilslice, b0, .nilslice, .nilslice, q0, q0, q0, q0, q0, q0, q0, q0, .nilslice, b0, .nilslice, .nilslice, q0, q0, q0, q0, q0, q0, q0, q0, .nilslice, b0, .nilslice, .nilslice, q0, q0, q0, q0, q0, q0, q0, q0, .nilslice, b0, .nilslice, .nilslice, q0, q0, q0, q0, q0, q0, q0, q0, .nilslice, b0, .nilslice, .nilslice, q0, q0, q0, q0, q0, q0, q0, q0, .nilslice, b0, .nilslice, .nilslice, q0, q0, q0, q0, q0, q0, q0, q0, .nilslice, b0, .nilslice, .nilslice, q0, q0, q0, q0, q0, q0, q0, q0, .nilslice, b0, .nilslice, .nilslice, q0, q0, q0, q0, q0, q0, q0, q0, .nilslice, b0, .nilslice, .nilslice, q0, q0, q0, q0, q0, q0, q0, q0, .nilslice, b0, .nilslice, .nilslice, q0, q0, q0, q0, q0, q0, q0, q0, .nilslice, b0, .nilslice, .nilslice, q0, q0, q0, q0, q0, q0, q0, q0, .nilslice, b0, .nilslice, .nilslice, q0] true), (1, sb30), (2, sb15), (3, sb31), (4, sb29), (5, sb21), (6, sb32), (7, sb33), (8, sb17), (9, sb18), (10, sb22), (11, sb34), (12, sb12), (13, sb13)], nb := 14, pre := [], outs := [], res := (.agg [q1, q0]), mods := [(0, .cells [(p 1 0), (p 2 0), q0, (p 3 0), q0, (q 8), q1, q1, q0, q1, (q 2), .nilslice, b0, (.slice 4 (.lit 0) (.lit 1) 2 false), (.slice 14 (.lit 0) (.lit 1) 2 false), (q 2), q0, q0, q0, q0, q0, q0, q0, .nilslice, b0, .nilslice, .nilslice, q0, q0, q0, q0, q0, q0, q0, q0, .nilslice, b0, .nilslice, .nilslice, q0, q0, q0, q0, q0, q0, q0, q0, .nilslice, b0, .nilslice, .nilslice, q0, q0, q0, q0, q0, q0, q0, q0, .nilslice, b0, .nilslice, .nilslice, q0, q0, q0, q0, q0, q0, q0, q0, .nilslice, b0, .nilslice, .nilslice, q0, q0, q0, q0, q0, q0, q0, q0, .nilslice, b0, .nilslice, .nilslice, q0, q0, q0, q0, q0, q0, q0, q0, .nilslice, b0, .nilslice, .nilslice, q0, q0, q0, q0, q0, q0, q0, q0, .nilslice, b0, .nilslice, .nilslice, q0, q0, q0, q0, q0, q0, q0, q0, .nilslice, b0, .nilslice, .nilslice, q0, q0, q0, q0, q0, q0, q0, q0, .nilslice, b0, .nilslice, .nilslice, q0, q0, q0, q0, q0, q0, q0, q0, .nilslice, b0, .nilslice, .nilslice, q0, q0, q0, q0, q0, q0, q0, q0, .nilslice, b0, .nilslice, .nilslice, q0, q0, q0, q0, q0, q0, q0, q0, .nilslice, b0, .nilslice, .nilslice, q0, q0, q0, q0, q0, q0, q0, q0, .nilslice, b0, .nilslice, .nilslice, q0, q0, q0, q0, q0, q0, q0, q0, .nilslice, b0, .nilslice, .nilslice, q0] true), (1, sb30), (2, sb15), (3, sb31), (4, sb29), (5, sb21), (6, sb32), (7, sb33), (8, sb17), (9, sb18), (10, sb22), (11, sb34), (12, sb12), (13, sb13)], fresh := [(14, sb35)], post := [] }
def st11 : Contract := { fn := 189, sorts := [], args := [(.agg [q0, (q 8), q1, q1, q0, q1, (q 2), .nilslice, b0, (.slice 0 (.lit 0) (.lit 1) 2 false), (.slice 1 (.lit 0) (.lit 1) 2 false), (q 2)]), (q 10), q1], mem := [(0, sb29), (1, sb35)], nb := 2, pre := [], outs := [], res := (.tup [(q 164), (q 2), q0]), mods := [(0, sb29), (1, sb35)], fresh := [], post := [] }
def st12 : Contract := { fn := 240, sorts := [], args := [(p 0 0), (p 1 0), (.agg [q0, (q 8), q1, q1, q0, q1, (q 2), .nilslice, b0]), (q 2)], mem := [(0, sb21), (1, sb20), (2, sb22)], nb := 3, pre := [], outs := [], res := (.tup [(.agg [q0, (q 8), q1, q1, q0, q1, (q 2), .nilslice, b0]), q0]), mods := [(0, sb21), (1, sb20), (2, sb22)], fresh := [], post := [] }
def st13 : Contract := { fn := 241, sorts := [], args := [(p 0 0), (.agg [q0, (q 8), q1, q1, q0, q1, (q 2), .nilslice, b0])], mem := [(0, sb36), (1, sb2), (2, sb29), (3, sb35), (4, sb21), (5, sb37), (6, sb38), (7, sb22), (8, sb39), (9, sb12), (10, sb13)], nb := 11, pre := [], outs := [], res := (.tup []), mods := [(0, sb36), (1, sb2), (2, sb29), (3, sb35), (4, sb21), (5, sb37), (6, sb38), (7, sb22), (8, sb39), (9, sb12), (10, sb13)], fresh := [], post := [] }
def st14 : Contract := { fn := 75, sorts := [], args := [(p 0 0), (.agg [(q 3), (q 65536), (q 10), q1, q0])], mem := [(0, sb40), (1, sb41), (2, sb15), (3, sb42), (4, sb29), (5, sb35), (6, sb21), (7, sb43), (8, sb44), (9, sb17), (10, sb18), (11, sb22), (12, sb45), (13, sb12), (14, sb13)], nb := 15, pre := [], outs := [], res := (.agg [(q 164), q0]), mods := [(0, .cells [(p 1 0), (p 2 0), q0, (p 3 0), q0, (q 8), q1, q1, q0, q1, (q 2), .nilslice, b0, (.slice 15 (.lit 0) (.lit 2) 2 false), (.slice 5 (.lit 0) (.lit 1) 2 false), (q 2), q0, q0, q0, q0, q0, q0, q0, .nilslice, b0, .nilslice, .nilslice, q0, q0, q0, q0, q0, q0, q0, q0, .nilslice, b0, .nilslice, .nilslice, q0, q0, q0, q0, q0, q0, q0, q0, .nilslice, b0, .nilslice, .nilslice, q0, q0, q0, q0, q0, q0, q0, q0, .nilslice, b0, .nilslice, .nilslice, q0, q0, q0, q0, q0, q0, q0, q0, .nilslice, b0, .nilslice, .nilslice, q0, q0, q0, q0, q0, q0, q0, q0, .nilslice, b0, .nilslice, .nilslice, q0, q0, q0, q0, q0, q0, q0, q0, .nilslice, b0, .nilslice, .nilslice, q0, q0, q0, q0, q0, q0, q0, q0, .nilslice, b0, .nilslice, .nilslice, q0, q0, q0, q0, q0, q0, q0, q0, .nilslice, b0, .nilslice, .nilslice, q0, q0, q0, q0, q0, q0, q0, q0, .nilslice, b0, .nilslice, .nilslice, q0, q0, q0, q0, q0, q0, q0, q0, .nilslice, b0, .nilslice, .nilslice, q0, q0, q0, q0, q0, q0, q0, q0, .nilslice, b0, .nilslice, .nilslice, q0, q0, q0, q0, q0, q0, q0, q0, .nilslice, b0, .nilslice, .nilslice, q0, q0, q0, q0, q0, q0, q0, q0, .nilslice, b0, .nilslice, .nilslice, q0, q0, q0, q0, q0, q0, q0, q0, .nilslice, b0, .nilslice, .nilslice, q0] true), (1, sb41), (2, sb15), (3, sb42), (4, sb29), (5, sb35), (6, sb21), (7, sb43), (8, sb44), (9, sb17), (10, sb18), (11, sb22), (12, sb45), (13, sb12), (14, sb13)], fresh := [(15, sb46)], post := [] }
def st16 : Contract := { fn := 75, sorts := [], args := [(p 0 0), (.agg [(q 8), (q 65536), (q 167), (q 7), q0])], mem := [(0, sb47), (1, sb41), (2, sb15), (3, sb42), (4, sb46), (5, sb35), (6, sb21), (7, sb43), (8, sb44), (9, sb17), (10, sb18), (11, sb22), (12, sb45), (13, sb12), (14, sb13)], nb := 15, pre := [], outs := [], res := (.agg [q0, q0]), mods := [(0, sb47), (1, .cells [(p 6 0), (p 7 0), (p 8 0), (.slice 15 (.lit 0) (.lit 1) 2 false), q0] true), (2, sb15), (3, sb42), (4, sb46), (5, sb35), (6, sb48), (7, sb43), (8, sb44), (9, sb17), (10, sb18), (11, sb22), (12, sb45), (13, sb12), (14, sb13)], fresh := [(15, .cells [(q 2), (.slice 16 (.lit 0) (.lit 1) 2 false)] true), (16, sb49)], post := [] }
def st18 : Contract := { fn := 75, sorts := [], args := [(p 0 0), (.agg [(q 7), (q 65536), (q 167), q0, q0])], mem := [(0, sb47), (1, sb50), (2, sb15), (3, sb51), (4, sb46), (5, sb35), (6, sb48), (7, sb52), (8, sb53), (9, sb54), (10, sb17), (11, sb18), (12, sb22), (13, sb55), (14, sb49), (15, sb12), (16, sb13)], nb := 17, pre := [], outs := [], res := (.agg [(q 7), q0]), mods := [(0, sb47), (1, sb50), (2, sb15), (3, sb51), (4, sb46), (5, sb35), (6, sb48), (7, sb52), (8, sb53), (9, sb54), (10, sb17), (11, sb18), (12, sb22), (13, sb55), (14, sb49), (15, sb12), (16, sb13)], fresh := [], post := [] }
def st20 : Contract := { fn := 241, sorts := [], args := [(p 0 0), (.agg [q0, (q 8), q1, q1, q0, q1, (q 2), .nilslice, b0])], mem := [(0, sb36), (1, sb56), (2, sb57), (3, sb35), (4, sb48), (5, sb58), (6, sb59), (7, sb60), (8, sb22), (9, sb11), (10, sb49), (11, sb12), (12, sb13)], nb := 13, pre := [], outs := [], res := (.tup []), mods := [(0, sb36), (1, sb56), (2, sb57), (3, sb35), (4, sb48), (5, sb58), (6, sb59), (7, sb60), (8, sb22), (9, sb11), (10, sb49), (11, sb12), (12, sb13)], fresh := [], post := [] }
def st21 : Contract := { fn := 75, sorts := [], args := [(p 0 0), (.agg [(q 5), (q 65536), q1, q0, q0])], mem := [(0, sb47), (1, sb50), (2, sb15), (3, sb51), (4, sb46), (5, sb35), (6, sb48), (7, sb52), (8, sb53), (9, sb54), (10, sb17), (11, sb18), (12, sb22), (13, sb55), (14, sb49), (15, sb12), (16, sb13)], nb := 17, pre := [], outs := [], res := (.agg [q0, q0]), mods := [(0, .cells [(p 1 0), (p 2 0), q0, (p 3 0), q0, (q 8), q1, q1, q0, q1, (q 2), .nilslice, b0, (.slice 17 (.lit 0) (.lit 1) 2 false), (.slice 18 (.lit 0) (.lit 1) 2 false), (q 2), q0, q0, q0, q0, q0, q0, q0, .nilslice, b0, .nilslice, .nilslice, q0, q0, q0, q0, q0, q0, q0, q0, .nilslice, b0, .nilslice, .nilslice, q0, q0, q0, q0, q0, q0, q0, q0, .nilslice, b0, .nilslice, .nilslice, q0, q0, q0, q0, q0, q0, q0, q0, .nilslice, b0, .nilslice, .nilslice, q0, q0, q0, q0, q0, q0, q0, q0, .nilslice, b0, .nilslice, .nilslice, q0, q0, q0, q0, q0, q0, q0, q0, .nilslice, b0, .nilslice, .nilslice, q0, q0, q0, q0, q0, q0, q0, q0, .nilslice, b0, .nilslice, .nilslice, q0, q0, q0, q0, q0, q0, q0, q0, .nilslice, b0, .nilslice, .nilslice, q0, q0, q0, q0, q0, q0, q0, q0, .nilslice, b0, .nilslice, .nilslice, q0, q0, q0, q0, q0, q0, q0, q0, .nilslice, b0, .nilslice, .nilslice, q0, q0, q0, q0, q0, q0, q0, q0, .nilslice, b0, .nilslice, .nilslice, q0, q0, q0, q0, q0, q0, q0, q0, .nilslice, b0, .nilslice, .nilslice, q0, q0, q0, q0, q0, q0, q0, q0, .nilslice, b0, .nilslice, .nilslice, q0, q0, q0, q0, q0, q0, q0, q0, .nilslice, b0, .nilslice, .nilslice, q0, q0, q0, q0, q0, q0, q0, q0, .nilslice, b0, .nilslice, .nilslice, q0] true), (1, sb50), (2, sb15), (3, sb51), (4, sb46), (5, sb35), (6, sb48), (7, sb52), (8, sb53), (9, sb54), (10, sb17), (11, sb18), (12, sb22), (13, sb55), (14, sb49), (15, sb12), (16, sb13)], fresh := [(17, sb57), (18, sb35)], post := [] }
def st23 : Contract := { fn := 75, sorts := [], args := [(p 0 0), (.agg [(q 7), (q 65536), (q 167), q0, q0])], mem := [(0, sb40), (1, sb50), (2, sb15), (3, sb51), (4, sb57), (5, sb35), (6, sb48), (7, sb52), (8, sb53), (9, sb54), (10, sb17), (11, sb18), (12, sb22), (13, sb55), (14, sb49), (15, sb12), (16, sb13)], nb := 17, pre := [], outs := [], res := (.agg [q0, (q 170)]), mods := [(0, sb40), (1, sb50), (2, sb15), (3, sb51), (4, sb57), (5, sb35), (6, sb48), (7, sb52), (8, sb53), (9, sb54), (10, sb17), (11, sb18), (12, sb22), (13, sb55), (14, sb49), (15, sb12), (16, sb13)], fresh := [], post := [] }
def xPlus (P : Program) (l : List Contract) : Cx := { P, cs := l ++ cState1 :: loops, anns := [], kn := kn }
def cMain : Contract := { c0 with fn := 6, res := .bool (.lit 1) }
end Go.Mg
namespace Go.Sf
open Go Go.Lib
theorem dd_small {u : Nat} (h : u < 10) : decDigits u = [UInt8.ofNat (48 + u)] := by rw [decDigits, dif_pos h]
theorem dd_big {u : Nat} (h : ¬ u < 10) : decDigits u = decDigits (u / 10) ++ [UInt8.ofNat (48 + u % 10)] := by rw [decDigits, dif_neg h]
theorem dg_nat {d : Nat} (h : d < 10) : (UInt8.ofNat (48 + d)).toNat = 48 + d := by
  simp; omega
theorem dd_digit (u : Nat) : ∀ b ∈ decDigits u, 48 ≤ b.toNat ∧ b.toNat ≤ 57 := by
  induction u using Nat.strongRecOn with
  | _ u ih =>
    intro b hb
    by_cases h : u < 10
    · rw [dd_small h] at hb
      simp only [List.mem_singleton] at hb
      subst hb
      rw [dg_nat h]; omega
    · rw [dd_big h] at hb
      rcases List.mem_append.1 hb with hb | hb
      · exact ih (u / 10) (by omega) b hb
      · simp only [List.mem_singleton] at hb
        subst hb
        rw [dg_nat (Nat.mod_lt _ (by omega))]; omega
theorem dd_ne (u : Nat) : decDigits u ≠ [] := by
  by_cases h : u < 10
  · rw [dd_small h]; simp
  · rw [dd_big h]; simp
theorem dd_head (u : Nat) (h0 : 1 ≤ u) : ∀ b, (decDigits u).head? = some b → b.toNat ≠ 48 := by
  induction u using Nat.strongRecOn with
  | _ u ih =>
    intro b hb
    by_cases h : u < 10
    · rw [dd_small h] at hb
      simp only [List.head?_cons, Option.some.injEq] at hb
      subst hb
      rw [dg_nat h]; omega
    · rw [dd_big h] at hb
      obtain ⟨c, r, hr⟩ := List.exists_cons_of_ne_nil (dd_ne (u / 10))
      rw [hr] at hb
      simp only [List.cons_append, List.head?_cons, Option.some.injEq] at hb
      subst hb
      exact ih (u / 10) (by omega) (by omega) c (by rw [hr]; rfl)
theorem itoa_ne (n : Int) : itoa n ≠ [] := by
  unfold itoa; split
  · simp
  · exact dd_ne _
theorem itoa_mem (n : Int) : ∀ b ∈ itoa n, b.toNat = 45 ∨ (48 ≤ b.toNat ∧ b.toNat ≤ 57) := by
  intro b hb
  unfold itoa at hb
  split at hb
  · rcases List.mem_cons.1 hb with rfl | hb
    · exact .inl rfl
    · exact .inr (dd_digit _ b hb)
  · exact .inr (dd_digit _ b hb)
def dstep (a : Nat) (c : UInt8) : Nat := a * 10 + (c.toNat - 48)
def dval (acc : Nat) (l : List UInt8) : Nat := l.foldl dstep acc
theorem dval_nil (acc : Nat) : dval acc [] = acc := rfl
theorem dval_cons (acc : Nat) (c : UInt8) (r : List UInt8) : dval acc (c :: r) = dval (acc * 10 + (c.toNat - 48)) r := List.foldl_cons
theorem dval_append (l m : List UInt8) (acc : Nat) : dval acc (l ++ m) = dval (dval acc l) m := List.foldl_append
theorem dval_ge : ∀ (l : List UInt8) (acc : Nat), acc ≤ dval acc l
  | [], _ => Nat.le_refl _
  | c :: l, acc => by
    have h := dval_ge l (acc * 10 + (c.toNat - 48))
    rw [dval_cons]
    omega
theorem dval_one (acc d : Nat) (h : d < 10) : dval acc [UInt8.ofNat (48 + d)] = acc * 10 + d := by
  rw [dval_cons, dval_nil, dg_nat h]
  omega
theorem dval_dd (u : Nat) : dval 0 (decDigits u) = u := by
  induction u using Nat.strongRecOn with
  | _ u ih =>
    by_cases h : u < 10
    · rw [dd_small h, dval_one 0 u h]; omega
    · rw [dd_big h, dval_append, ih (u / 10) (by omega), dval_one _ _ (Nat.mod_lt _ (by omega))]
      omega
theorem parseM_cons {M acc : Nat} {c : UInt8} {r : List UInt8} (h : 48 ≤ c.toNat ∧ c.toNat ≤ 57) : parseUintM M acc (c :: r) =
      if 1844674407370955162 ≤ acc then .range else if M < acc * 10 + (c.toNat - 48) then .range else parseUintM M (acc * 10 + (c.toNat - 48)) r := if_pos h
theorem room {M acc d x : Nat} (hM : M ≤ 18446744073709551615) (h1 : acc * 10 + d ≤ x) (h : x ≤ M) : acc < 1844674407370955162 := by omega
theorem parseM_ok {M : Nat} (hM : M ≤ 18446744073709551615) (l : List UInt8) : ∀ (acc : Nat), (∀ b ∈ l, 48 ≤ b.toNat ∧ b.toNat ≤ 57) → dval acc l ≤ M → parseUintM M acc l = .ok (dval acc l) := by
  induction l with
  | nil => exact fun _ _ _ => rfl
  | cons c l ih =>
    intro acc hd hle
    have hc := hd c (List.mem_cons_self ..)
    rw [dval_cons] at hle
    have h1 := dval_ge l (acc * 10 + (c.toNat - 48))
    have h2 : ¬ 1844674407370955162 ≤ acc := Nat.not_le.2 (room hM h1 hle)
    have h3 : ¬ M < acc * 10 + (c.toNat - 48) := Nat.not_lt.2 (Nat.le_trans h1 hle)
    rw [parseM_cons hc, dval_cons, if_neg h2, if_neg h3]
    exact ih _ (fun b hb => hd b (List.mem_cons_of_mem _ hb)) hle
theorem parse_itoa {n : Int} (h0 : -9223372036854775808 ≤ n) (h1 : n ≤ 9223372036854775807) : parseIntB 64 (itoa n) = .ok n := by
  have hU : ∀ u : Nat, u ≤ 18446744073709551615 → parseUintB 64 (decDigits u) = .ok u := fun u hu => by
    unfold parseUintB
    rw [if_neg (dd_ne u)]
    have := parseM_ok (M := 2 ^ 64 - 1) (by decide) (decDigits u) 0 (dd_digit u) (by rw [dval_dd]; exact hu)
    rw [dval_dd] at this
    exact this
  unfold itoa
  by_cases hn : n < 0
  · rw [if_pos hn]
    simp only [parseIntB]
    have e : (45 : UInt8).toNat = 45 := rfl
    rw [e, if_pos (.inr rfl), hU n.natAbs (by omega)]
    have h2 : ¬ (2 ^ (64 - 1) < n.natAbs) := by simp; omega
    simp only [not_true_eq_false, false_and, if_false, true_and, if_neg h2, if_true]
    congr 1; omega
  · rw [if_neg hn]
    have hne := dd_ne n.toNat
    have hd := dd_digit n.toNat
    have hu := hU n.toNat (by omega)
    generalize decDigits n.toNat = l at hne hd hu
    cases l with
    | nil => exact absurd rfl hne
    | cons c r =>
      have hc := hd c (by simp)
      simp only [parseIntB]
      rw [if_neg (by omega), hu]
      simp only
      rw [if_neg (by simp; omega), if_neg (by omega), if_neg (by omega)]
      congr 1; omega
theorem indexByte_at (c : UInt8) : ∀ (w rest : List UInt8), c ∉ w → indexByte (w ++ c :: rest) c = (w.length : Int)
  | [], rest, _ => by simp [indexByte]
  | b :: w, rest, h => by
    have h1 : b ≠ c := fun e => h (by simp [e])
    have h2 := indexByte_at c w rest (fun hm => h (by simp [hm]))
    simp [indexByte, h1, h2]
theorem split_last {c : UInt8} {w : List UInt8} (h : c ∉ w) : split w [c] = [w] := by
  unfold split
  rw [count_one, List.count_eq_zero_of_not_mem h]
  rfl
theorem split_step {c : UInt8} {w rest : List UInt8} (h : c ∉ w) : split (w ++ c :: rest) [c] = w :: split rest [c] := by
  unfold split
  rw [count_one, count_one, List.count_append, List.count_eq_zero_of_not_mem h, List.count_cons_self, Nat.zero_add]
  simp only [splitK]
  rw [index_one, indexByte_at c w rest h]
  have h1 : ¬ (((w.length : Int) == -1) = true) := by simp
  rw [if_neg h1]
  simp
end Go.Sf
namespace Go.Tt
open Go Go.Sx Go.Mg
def ttS : Nat → Option Bool
  | 3 | 5 | 7 | 8 | 9 | 10 | 11 | 12 | 13 | 14 | 15 | 20 => some false
  | 6 => some true
  | 1000 | 1001 | 1002 | 1003 | 1004 | 1005 | 1008 | 1010 | 1011 => some false
  | 1006 | 1007 | 1009 => some true
  | _ => none
def str (e : E) : AV := .sat e
def sln (e : E) : E := .fn 1001 e (.lit 0) (.lit 0) (.lit 0)
def z0 : E := .lit 0
def sK : List CK := [.str]
def fK : List CK := [.bool, .str]
def stK : List CK := [.int .i64, .str, .str, .int .i64, .int .i64, .int .i64, .int .i64, .int .i64]
def mn : E := .lit (-9223372036854775808)
def mx : E := .lit 9223372036854775807
def fn1 (j : Nat) (a : E) : E := .fn j a z0 z0 z0
def fn2 (j : Nat) (a b : E) : E := .fn j a b z0 z0
def ann (f : FuncId) (b : Nat) (keep : List Nat) (tmps : Tmps) (sorts : List Bool) (inv : List PE) (meas : E) : Ann :=
  { fn := f, bid := b, keep, tmps, drop := [], mem := [], sorts, nbl := 0, inv, meas }
def kt : Kn := { kn with tab := [54] }
def cFormat : Contract := { c0 with fn := 64, sorts := [false], args := [i64 (v 0), i64 (.lit 10)], pre := [.rng .i64 (v 0)], outs := [false], res := str (v 1), post := [.same (v 1) (fn1 3 (v 0))] }
def cTrim : Contract := { c0 with fn := 94, sorts := [false, false], args := [str (v 0), str (v 1)], outs := [false, false], res := .tup [str (v 2), .bool (v 3)], post := [.same (v 2) (fn2 8 (v 0) (v 1)), .same (v 3) (fn2 9 (v 0) (v 1))] }
def cPInt : Contract := { c0 with fn := 96, sorts := [false], args := [str (v 0), i64 (.lit 10), i64 (.lit 64)], pre := [eLe (sln (v 0)) (.lit 1000000)], outs := [false, false], res := .tup [i64 (v 1), .ifo (v 2)], post := [.same (v 1) (fn1 10 (v 0)), .same (v 2) (fn1 11 (v 0)), .rng .i64 (v 1)] }
def cSplit : Contract := { c0 with fn := 67, sorts := [false, false], args := [str (v 0), str (v 1)], pre := [eLe (sln (v 0)) (.lit 1000000), eLe (.lit 1) (sln (v 1))], outs := [true, false], res := .slice 0 z0 (v 3) 1 false, fresh := [(0, .rows sK (v 2) (v 3) true false)], post := [.same (v 2) (fn2 6 (v 0) (v 1)), .same (v 3) (fn2 7 (v 0) (v 1)), eLe (.lit 1) (v 3)] }
def cJoin : Contract := { c0 with fn := 27, sorts := [true, false, false], args := [.slice 0 z0 (v 1) 1 true, str (v 2)], mem := [(0, .rows sK (v 0) (v 1) false true)], nb := 1, pre := [eLe z0 (v 1), .pr 30 [v 0, v 1, v 2]], outs := [false], res := str (v 3), post := [.same (v 3) (.fn 5 (v 0) (v 1) (v 2) z0)] }
def cHPre : Contract := { c0 with fn := 91, sorts := [false, false], args := [str (v 0), str (v 1)], outs := [false], res := .bool (v 2), post := [.same (v 2) (fn2 9 (v 0) (v 1))] }
def cHSuf : Contract := { c0 with fn := 65, sorts := [false, false], args := [str (v 0), str (v 1)], pre := [eLe (sln (v 0)) (.lit 1000000)], outs := [false], res := .bool (v 2), post := [.same (v 2) (fn2 13 (v 0) (v 1))] }
def cCount : Contract := { c0 with fn := 66, sorts := [false], args := [str (v 0), .str [10]], outs := [false], res := i64 (v 1), post := [.same (v 1) (fn2 14 (v 0) (.lit 10))] }
def cCont : Contract := { c0 with fn := 127, sorts := [false], args := [str (v 0), .str [34]], outs := [false], res := .bool (v 1), post := [.same (v 1) (fn2 15 (v 0) (.lit 34))] }
def cRep1 : Contract := { c0 with fn := 123, sorts := [false], args := [str (v 0), .str [34, 34], .str [34]], pre := [eLe (sln (v 0)) (.lit 10000)], outs := [false], res := str (v 1), post := [eLe (sln (v 1)) (.lit 10000)] }
def cRep2 : Contract := { c0 with fn := 123, sorts := [false], args := [str (v 0), .str [34], .str [34, 34]], pre := [eLe (sln (v 0)) (.lit 10000)], outs := [false], res := str (v 1), post := [eLe (sln (v 1)) (.lit 20000)] }
def cDig : Contract := { c0 with fn := 28, sorts := [false], args := [i64 (v 0)], pre := [.rng .i64 (v 0)], outs := [false], res := str (v 1), post := [.same (v 1) (fn1 3 (v 0))] }
def sPre : List PE := [eLe (sln (v 0)) (.lit 100000)]
def cInt (f : FuncId) : Contract := { c0 with fn := f, sorts := [false], args := [str (v 0), i64 mn, i64 mx], pre := sPre, outs := [false, false], res := .tup [i64 (v 1), i64 (v 2)], post := [.rng .i64 (v 1), .pr 10 [v 0, v 1, v 2]] }
def aInt : Ann := ann 69 0 [0, 1, 2, 8, 9, 22] [(23, i64 (v 3))] [false] [eLe z0 (v 3), eLe (v 3) (sln (v 1)), .pr 73 [v 1, v 3]] (.bin .sub (sln (v 1)) (v 3))
def cName (f : FuncId) : Contract := { c0 with fn := f, sorts := [false], args := [str (v 0)], pre := sPre, outs := [false], res := .bool (v 1), post := [.same (v 1) (fn1 20 (v 0))] }
def aName : Ann := ann 76 0 [0, 6] [(7, i64 (v 1))] [false] [eLe z0 (v 1), eLe (v 1) (sln (v 0)), .pr 40 [v 0, v 1]] (.bin .sub (sln (v 0)) (v 1))
def aRName : Ann := ann 59 0 [0] [(3, i64 (v 1))] [false] [eLe z0 (v 1), eLe (v 1) (sln (v 0)), .pr 40 [v 0, v 1]] (.bin .sub (sln (v 0)) (v 1))
def cPrn : Contract := { c0 with fn := 126, sorts := [false, false], args := [str (v 0), .int .u8 (v 1)], pre := sPre, outs := [false], res := .bool (v 2), post := [.pr 41 [v 0, v 1, v 2]] }
def aPrn : Ann := ann 126 0 [0, 1, 7] [(8, i64 (v 2))] [false] [eLe z0 (v 2), eLe (v 2) (sln (v 0)), .pr 42 [v 0, v 1, v 2]] (.bin .sub (sln (v 0)) (v 2))
def cUnqP : Contract := { c0 with fn := 92, sorts := [false], args := [str (v 0)], pre := [eLe (sln (v 0)) (.lit 5000)], outs := [false, false], res := .tup [str (v 1), i64 (v 2)], post := [eLe (sln (v 1)) (.lit 10000)] }
def cRgt : Contract := { c0 with fn := 93, sorts := [false, false], args := [.agg [.bool (v 0), str (v 1)]], pre := [eLe (sln (v 1)) (.lit 100000)], outs := [false], res := .bool (v 2), post := [.pr 15 [v 0, v 1, v 2]] }
def cIxF : Contract := { c0 with fn := 121, sorts := [false, false], args := [str (v 0), .func 119 [.ptr 0 z0 0 0]], mem := [(0, .cells [.bool (v 1)] true)], nb := 1, pre := sPre, outs := [false, false], res := i64 (v 2), mods := [(0, .cells [.bool (v 3)] true)], post := [eLe (.lit (-1)) (v 2), .tt (.bin .lt (v 2) (.bin .add (sln (v 0)) (.lit 1))), .pr 35 [v 0, v 1, v 2, v 3]] }
def aIxF : Ann := { ann 162 0 [0, 1, 2, 10] [] [false, false] [eLe z0 (v 2), eLe (v 2) (sln (v 0)), .pr 36 [v 0, v 1, v 2, v 3]] (.bin .sub (sln (v 0)) (v 2)) with drop := [0, 1], mem := [(0, .cells [.bool (v 3)] true), (1, .iter (v 0) (v 2) 0)] }
def cSpl (f : FuncId) : Contract := { c0 with fn := f, sorts := [false], args := [str (v 0)], pre := sPre, outs := [true, false, false], res := .tup [.slice 0 z0 (v 2) 2 true, i64 (v 3)], fresh := [(0, .rows fK (v 1) (v 2) true true)], post := [eLe z0 (v 2), eLe (v 2) (.lit 64), .pr 22 [v 1, v 2], .pr 16 [v 0, v 1, v 2, v 3]] }
def kCells : List AV := [
  i64 (.lit 0), .str [], i64 (.lit 0), i64 (.lit 0), i64 (.lit 0), i64 (.lit 0), .nilfunc,
  i64 (.lit 1), .str [99, 114, 101, 97, 116, 101], i64 (.lit 1), i64 (.lit 0), i64 (.lit 0), i64 (.lit 3), .func 45 [],
  i64 (.lit 2), .str [100, 101, 115, 116, 114, 111, 121], i64 (.lit 2), i64 (.lit 0), i64 (.lit 0), i64 (.lit 0), .func 46 [],
  i64 (.lit 3), .str [97, 108, 108, 111, 99], i64 (.lit 2), i64 (.lit 1), i64 (.lit 3), i64 (.lit 2), .func 46 [],
  i64 (.lit 4), .str [109, 97, 114, 107], i64 (.lit 2), i64 (.lit 1), i64 (.lit 4), i64 (.lit 0), .func 46 [],
  i64 (.lit 5), .str [114, 101, 119, 105, 110, 100], i64 (.lit 2), i64 (.lit 2), i64 (.lit 4), i64 (.lit 0), .func 48 [.ptr 1 (.lit 0) 0 0],
  i64 (.lit 6), .str [114, 101, 115, 101, 116], i64 (.lit 2), i64 (.lit 0), i64 (.lit 0), i64 (.lit 0), .func 46 [],
  i64 (.lit 7), .str [108, 111, 97, 100], i64 (.lit 2), i64 (.lit 2), i64 (.lit 3), i64 (.lit 1), .func 47 [.ptr 1 (.lit 0) 0 0],
  i64 (.lit 8), .str [115, 116, 111, 114, 101], i64 (.lit 2), i64 (.lit 2), i64 (.lit 3), i64 (.lit 2), .func 47 [.ptr 1 (.lit 0) 0 0],
  i64 (.lit 9), .str [116, 105, 99, 107], i64 (.lit 0), i64 (.lit 0), i64 (.lit 0), i64 (.lit 1), .func 45 [],
  i64 (.lit 10), .str [112, 117, 114, 103, 101], i64 (.lit 0), i64 (.lit 0), i64 (.lit 0), i64 (.lit 0), .func 45 [],
  i64 (.lit 11), .str [108, 105, 109, 105, 116], i64 (.lit 0), i64 (.lit 0), i64 (.lit 0), i64 (.lit 1), .func 45 [],
  i64 (.lit 12), .str [114, 101, 102, 117, 115, 101], i64 (.lit 0), i64 (.lit 0), i64 (.lit 0), i64 (.lit 3), .func 45 [],
  i64 (.lit 13), .str [104, 117, 103, 101], i64 (.lit 2), i64 (.lit 0), i64 (.lit 0), i64 (.lit 0), .func 46 []]
def kMem : Mem := [(0, .cells kCells false), (1, .cells [.func 46 []] false)]
def kArg : AV := .slice 0 z0 (.lit 14) 7 false
def rMem : Mem := [(0, .cells [.slice 1 (v 1) (v 2) 2 true, .bool (v 3)] true), (1, .rows fK (v 0) (v 4) false true)]
def rPre : List PE := [eLe z0 (v 1), eLe z0 (v 2), eLe (.bin .add (v 1) (v 2)) (v 4), .pr 22 [v 0, v 4]]
def cFld : Contract := { c0 with fn := 32, sorts := [true, false, false, false, false], args := [.ptr 0 z0 0 0], mem := rMem, nb := 2, pre := rPre, outs := [false, false, false, false], res := str (v 5), mods := [(0, .cells [.slice 1 (v 6) (v 7) 2 true, .bool (v 8)] true)], post := [eLe z0 (v 6), eLe z0 (v 7), eLe (.bin .add (v 6) (v 7)) (v 4), eLe (sln (v 5)) (.lit 100000), .pr 33 [v 0, v 1, v 2, v 3, v 5, v 6, v 7, v 8]] }
def cNum : Contract := { c0 with fn := 33, sorts := [true, false, false, false, false], args := [.ptr 0 z0 0 0], mem := rMem, nb := 2, pre := rPre, outs := [false, false, false, false], res := i64 (v 5), mods := [(0, .cells [.slice 1 (v 6) (v 7) 2 true, .bool (v 8)] true)], post := [.rng .i64 (v 5), eLe z0 (v 6), eLe z0 (v 7), eLe (.bin .add (v 6) (v 7)) (v 4), .pr 38 [v 0, v 1, v 2, v 3, v 5, v 6, v 7, v 8]] }
def stAV (f : Nat → E) : List AV := [i64 (f 0), str (f 1), str (f 2), i64 (f 3), i64 (f 4), i64 (f 5), i64 (f 6), i64 (f 7)]
def stRow (T r : E) : List E := (List.range 8).map fun i => .sel T r i
def stB : Blk := .rows stK (v 0) (v 1) false true
def inRows (i n : E) : List PE := [eLe z0 i, .tt (.bin .lt i n)]
def cShpR : Contract := { c0 with fn := 23, sorts := [true, false, false], args := [kArg, .ptr 2 (v 2) 8 0], mem := kMem ++ [(2, stB)], nb := 3, pre := inRows (v 2) (v 1) ++ [.pr 45 [v 0, v 1]], outs := [false], res := i64 (v 3), post := [.pr 31 (stRow (v 0) (v 2) ++ [v 3])] }
def cWrR : Contract := { c0 with fn := 26, sorts := [true, false, false], args := [kArg, .ptr 2 (v 2) 8 0], mem := kMem ++ [(2, stB)], nb := 3, pre := inRows (v 2) (v 1) ++ [.pr 45 [v 0, v 1], .pr 43 (stRow (v 0) (v 2))], outs := [false], res := str (v 3), post := [.pr 32 (stRow (v 0) (v 2) ++ [v 3]), eLe (sln (v 3)) (.lit 200)] }
def st9 : List Bool := List.replicate 9 false
def stVs1 : List E := (List.range 8).map fun i => v (i + 1)
def stPost : List PE := [.rng .i64 (v 1), eLe (sln (v 2)) (.lit 100000), eLe (sln (v 3)) (.lit 100000), .rng .i64 (v 4), .rng .i64 (v 5), .rng .i64 (v 6), .rng .i64 (v 7), .rng .i64 (v 8)]
def cStp : Contract := { c0 with fn := 22, sorts := [false], args := [kArg, str (v 0)], mem := kMem, nb := 2, pre := sPre, outs := st9, res := .tup [.agg (stAV fun i => v (i + 1)), .bool (v 9)], post := stPost ++ [.pr 34 (v 0 :: stVs1 ++ [v 9])] }
def ntK : List CK := [.int .i64, .str, .str, .int .i64]
def cChk : Contract := { c0 with fn := 35, sorts := [true, false, false, true, false], args := [.mref 3, kArg, .ptr 2 (v 2) 8 0], mem := kMem ++ [(2, stB), (3, .smp 3 false ntK (v 3) (v 4))], nb := 4, pre := inRows (v 2) (v 1) ++ [.pr 45 [v 0, v 1], eLe z0 (v 4)], outs := [false], res := i64 (v 5), mods := [(3, .smp 3 false ntK (v 3) (v 4))], post := [.pr 46 ([v 3, v 4] ++ stRow (v 0) (v 2) ++ [v 5])] }
def prg (i b : Nat) : AV := .agg [i64 (v i), i64 (v (i + 1)), i64 (v (i + 2)), .slice b z0 (v (i + 4)) 8 true]
def prgB (i : Nat) : Blk := .rows stK (v (i + 3)) (v (i + 4)) false true
def prgS : List Bool := [false, false, false, true, false]
def prgV (i : Nat) : List E := [v i, v (i + 1), v (i + 2), v (i + 3), v (i + 4)]
def prgP (i : Nat) : List PE := [eLe z0 (v (i + 4)), eLe (v (i + 4)) (.lit 1000000), .pr 45 [v (i + 3), v (i + 4)], .rng .i64 (v i), .rng .i64 (v (i + 1)), .rng .i64 (v (i + 2))]
def cCheck (f : FuncId) : Contract := { c0 with fn := f, sorts := prgS, args := [prg 0 0], mem := [(0, prgB 0)], nb := 1, pre := prgP 0, outs := [false, false], res := .tup [i64 (v 5), i64 (v 6)], post := [eLe (.lit (-1)) (v 5), eLe (v 5) (.lit 500), .pr 44 (prgV 0 ++ [v 5, v 6])] }
def aCheck : Ann := { ann 14 1 [1, 4, 5, 26] [(27, i64 (v 5))] [false, true, false] [eLe z0 (v 5), eLe (v 5) (v 4), eLe z0 (v 7), .pr 47 [v 3, v 5, v 6, v 7]] (.bin .sub (v 4) (v 5)) with drop := [4], mem := [(4, .smp 3 false ntK (v 6) (v 7))] }
def cLines (f : FuncId) : Contract := { c0 with fn := f, sorts := [false], args := [str (v 0)], pre := sPre, outs := [true, false, false], res := .tup [.slice 0 z0 (v 2) 1 true, i64 (v 3)], fresh := [(0, .rows sK (v 1) (v 2) true true)], post := [eLe z0 (v 2), .pr 23 [v 1, v 2], .pr 61 [v 0, v 1, v 2, v 3]] }
def cPrint (f : FuncId) : Contract := { c0 with fn := f, sorts := prgS, args := [prg 0 0], mem := [(0, prgB 0)], nb := 1, pre := prgP 0, outs := [false, false], res := .tup [str (v 5), i64 (v 6)], post := [eLe (sln (v 5)) (.bin .add (.lit 400) (.bin .mul (.lit 210) (v 4))), .pr 63 (prgV 0 ++ [v 5, v 6])] }
def cParse (f : FuncId) : Contract := { c0 with fn := f, sorts := [false], args := [str (v 0)], pre := sPre, outs := [false, false, false, true, false, false, false], res := .tup [.agg [i64 (v 1), i64 (v 2), i64 (v 3), .slice 0 z0 (v 5) 8 true], i64 (v 6), i64 (v 7)], fresh := [(0, .rows stK (v 4) (v 5) true true)], post := [eLe z0 (v 5), eLe (v 5) (.lit 500), .pr 45 [v 4, v 5], .rng .i64 (v 1), .rng .i64 (v 2), .rng .i64 (v 3), .pr 66 [v 0, v 1, v 2, v 3, v 4, v 5, v 6, v 7]] }
def cSame : Contract := { c0 with fn := 13, sorts := prgS ++ prgS, args := [prg 0 0, prg 5 1], mem := [(0, prgB 0), (1, prgB 5)], nb := 2, pre := prgP 0 ++ prgP 5, outs := [false], res := .bool (v 10), post := [.pr 67 (prgV 0 ++ prgV 5 ++ [v 10])] }
def aSame : Ann := ann 13 0 [2, 3] [(5, i64 (v 10))] [false] [eLe z0 (v 10), eLe (v 10) (v 4), eLe (v 10) (v 9), .pr 68 [v 3, v 8, v 10]] (.bin .sub (v 4) (v 10))
def cFar : Contract := { c0 with fn := 10, sorts := prgS, args := [prg 0 0, i64 (.lit 60)], mem := [(0, prgB 0)], nb := 1, pre := [eLe z0 (v 4), .rng .i64 (v 4)], outs := [false], res := .bool (v 5), post := [.pr 69 [v 3, v 4, v 5]] }
def aFar : Ann := ann 10 0 [2] [(5, i64 (v 5))] [false] [eLe z0 (v 5), eLe (v 5) (v 4), .pr 70 [v 3, v 5]] (.bin .sub (v 4) (v 5))
def aSplP : Ann := { ann 120 0 [0, 1, 2] [(4, str (v 1))] [false, false, true, false] [eLe z0 (v 4), eLe (.bin .add (v 4) (sln (v 1))) (sln (v 0)), .pr 22 [v 3, v 4], .pr 37 [v 0, v 1, v 2, v 3, v 4]] (sln (v 1)) with
  drop := [7, 4, 2]
  mem := [(7, .loop .ready none 68 0 41 [(4, .ptr 2 z0 0 0), (3, .ptr 1 z0 0 0), (2, .ptr 0 z0 0 0)] 6), (4, .cells [.bool (v 2)] true), (2, .cells [.slice 8 z0 (v 4) 2 true] true), (8, .rows fK (v 3) (v 4) true true)]
  nbl := 1 }
def aPrint : Ann := { ann 11 0 [1, 6, 32] [(33, i64 (v 11)), (7, .slice 6 z0 (v 13) 1 false)] [false, true, false] [eLe z0 (v 11), eLe (v 11) (v 4), eLe z0 (v 13), eLe (v 13) (.bin .add (v 11) (.lit 1)), .pr 64 [v 0, v 1, v 2, v 3, v 11, v 12, v 13]] (.bin .sub (v 4) (v 11)) with
  drop := [5]
  mem := [(6, .rows sK (v 12) (v 13) true false)]
  nbl := 1 }
def aParse : Ann := { ann 12 0 [2, 6, 7, 37, 38] [(39, i64 (v 23))] [false, true, false] [eLe z0 (v 23), eLe (v 23) (.bin .sub (v 2) (.lit 1)), eLe (v 23) (v 25), eLe (v 25) (v 23), .pr 45 [v 24, v 25], .pr 72 [v 1, v 24, v 25]] (.bin .sub (.bin .sub (v 2) (.lit 1)) (v 23)) with
  drop := [4]
  mem := [(4, .cells [i64 (v 11), i64 (v 15), i64 (v 19), .slice 7 z0 (v 25) 8 true] true), (7, .rows stK (v 24) (v 25) true true)]
  nbl := 1 }
def xDig (P : Program) : Cx := { P, cs := [cFormat], anns := [], kn := kn }
def xInt (P : Program) : Cx := { P, cs := [cTrim, cPInt], anns := [aInt], kn := kn }
def xName (P : Program) : Cx := { P, cs := [], anns := [aName, aRName], kn := kn }
def xPrn (P : Program) : Cx := { P, cs := [], anns := [aPrn], kn := kn }
def xUnqP (P : Program) : Cx := { P, cs := [cRep1, cRep2, cPrn], anns := [], kn := kn }
def xRgt (P : Program) : Cx := { P, cs := [cPrn, cCont], anns := [], kn := kn }
def xIxF (P : Program) : Cx := { P, cs := [], anns := [aIxF], kn := kn }
def xSplP (P : Program) : Cx := { P, cs := [cIxF, cHPre, cUnqP, cRgt], anns := [aSplP], kn := kn }
def xFld (P : Program) : Cx := { P, cs := [], anns := [], kn := kn }
def xNum (P : Program) : Cx := { P, cs := [cFld, cInt 69], anns := [], kn := kn }
def cAny (f : FuncId) (j : Nat) : Contract := { c0 with fn := 53, sorts := [true, false, false, false], args := [.slice 0 (v 2) (v 3) 1 true, .func f []], mem := [(0, .rows [.int .i64] (v 0) (v 1) false true)], nb := 1, pre := [eLe z0 (v 2), eLe z0 (v 3), eLe (.bin .add (v 2) (v 3)) (v 1), eLe (v 3) (.lit 1000)], outs := [false], res := .bool (v 4), post := [.pr j [v 0, v 2, v 3, v 4]] }
def aAny (f : FuncId) (j : Nat) : Ann := ann 77 0 [0, 7] [(8, i64 (v 4)), (1, .func f [])] [false] [eLe z0 (v 4), eLe (v 4) (v 3), .pr j [v 0, v 2, v 4]] (.bin .sub (v 3) (v 4))
def xAny (P : Program) : Cx := { P, cs := [], anns := [aAny 54 83, aAny 55 84], kn := kn }
def xShp (P : Program) : Cx := { P, cs := [cName 76, cAny 54 81, cAny 55 82], anns := [], kn := kt }
def xWr (P : Program) : Cx := { P, cs := [cDig, cJoin], anns := [], kn := kt }
def xStp (P : Program) : Cx := { P, cs := [cSpl 68, cFld, cNum], anns := [], kn := kn }
def xChk (P : Program) : Cx := { P, cs := [cShpR], anns := [], kn := kt }
def xCheck (P : Program) : Cx := { P, cs := [cChk], anns := [aCheck], kn := kt }
def xPrint (P : Program) : Cx := { P, cs := [cCheck 14, cDig, cJoin, cWrR], anns := [aPrint], kn := kt }
def xLines (P : Program) : Cx := { P, cs := [cHSuf, cCount, cSplit], anns := [], kn := kn }
def xParse (P : Program) : Cx := { P, cs := [cLines 29, cSpl 68, cFld, cNum, cStp, cCheck 14], anns := [aParse], kn := kt }
def xSame (P : Program) : Cx := { P, cs := [], anns := [aSame], kn := kn }
def xFar (P : Program) : Cx := { P, cs := [], anns := [aFar], kn := kn }
def cAw : Contract := { c0 with fn := 6, res := .bool (.lit 1) }
def cTxs : Contract := { c0 with fn := 4, sorts := prgS, args := [prg 0 0], mem := [(0, prgB 0)], nb := 1, pre := [eLe z0 (v 4), .rng .i64 (v 4), .pr 71 [v 3, v 4], .rng .i64 (v 0), .rng .i64 (v 1), .rng .i64 (v 2)], res := .bool (.lit 1) }
def xTxs (P : Program) : Cx := { P, cs := [cAw, cFar, cPrint 11, cParse 12, cSame], anns := [], kn := kn }
end Go.Tt
namespace Go.Tt
open Go Go.Lib Go.Sf
theorem dval_pos {c : UInt8} {r : List UInt8} (h : c.toNat ≠ 48) (h2 : 48 ≤ c.toNat) : 1 ≤ dval 0 (c :: r) := by
  rw [dval_cons]
  have := dval_ge r (0 * 10 + (c.toNat - 48))
  omega
theorem canon : ∀ (k : Nat) (l : List UInt8), l.length = k → l ≠ [] → (∀ b ∈ l, 48 ≤ b.toNat ∧ b.toNat ≤ 57) → (∀ b, l.head? = some b → b.toNat = 48 → l.length = 1) → decDigits (dval 0 l) = l := by
  intro k
  induction k with
  | zero => intro l hl hne; exact absurd (List.eq_nil_of_length_eq_zero hl) hne
  | succ k ih =>
    intro l hl hne hd hz
    obtain ⟨m, c, rfl⟩ : ∃ m c, l = m ++ [c] := ⟨l.dropLast, l.getLast hne, (List.dropLast_concat_getLast hne).symm⟩
    have hc := hd c (by simp)
    have e1 : dval 0 (m ++ [c]) = dval 0 m * 10 + (c.toNat - 48) := by rw [dval_append, dval_cons, dval_nil]
    have ec : UInt8.ofNat (48 + (c.toNat - 48)) = c := by
      rw [show 48 + (c.toNat - 48) = c.toNat by omega, UInt8.ofNat_toNat]
    cases m with
    | nil =>
      rw [e1]
      simp only [dval, List.foldl_nil, Nat.zero_mul, Nat.zero_add, List.nil_append]
      rw [dd_small (by omega), ec]
    | cons b m =>
      have hb : b.toNat ≠ 48 := fun h => by
        have := hz b rfl h
        simp at this
      have h48 := hd b (by simp)
      have hp := dval_pos (r := m) hb h48.1
      have ih' := ih (b :: m) (by simpa using hl) (by simp) (fun x hx => hd x (by simp at hx ⊢; rcases hx with h | h; exact .inl h; exact .inr (.inl h))) (fun x hx h => by simp at hx; subst hx; exact absurd h hb)
      rw [e1, dd_big (by omega), show (dval 0 (b :: m) * 10 + (c.toNat - 48)) / 10 = dval 0 (b :: m) by omega, show (dval 0 (b :: m) * 10 + (c.toNat - 48)) % 10 = c.toNat - 48 by omega, ih', ec]
theorem parseM_eq {M : Nat} : ∀ (l : List UInt8) (acc v : Nat), parseUintM M acc l = .ok v → v = dval acc l
  | [], acc, v, h => by simp [parseUintM] at h; simp [dval, h]
  | c :: r, acc, v, h => by
    simp only [parseUintM] at h
    split at h
    · split at h
      · cases h
      · split at h
        · cases h
        · rw [dval_cons]; exact parseM_eq r _ v h
    · cases h
theorem parseU_eq {l : List UInt8} {v : Nat} (h : parseUintB 64 l = .ok v) : v = dval 0 l := by
  unfold parseUintB at h
  split at h
  · cases h
  · exact parseM_eq _ _ _ h
def Canon (l : List UInt8) : Prop := l ≠ [] ∧ (∀ b ∈ l, 48 ≤ b.toNat ∧ b.toNat ≤ 57) ∧ ∀ b, l.head? = some b → b.toNat = 48 → l.length = 1
theorem parse_neg {t : List UInt8} {v : Int} (hc : Canon t) (h0 : ¬ t.head? = some 48) (h : parseIntB 64 (45 :: t) = .ok v) : 45 :: t = itoa v := by
  simp only [parseIntB] at h
  have e : (45 : UInt8).toNat = 45 := rfl
  rw [e] at h
  simp only [or_true, if_true] at h
  split at h
  · cases h
  · cases h
  · rename_i u hu
    have h1 := parseU_eq hu
    simp only [not_true_eq_false, false_and, if_false, true_and] at h
    split at h
    · cases h
    · simp only [NumEnd.ok.injEq] at h
      subst h
      have hcan := canon _ t rfl hc.1 hc.2.1 hc.2.2
      have hpos : 1 ≤ u := by
        obtain ⟨c, r, rfl⟩ := List.exists_cons_of_ne_nil hc.1
        rw [h1]
        have hcb := hc.2.1 c (by simp)
        refine dval_pos (fun h => h0 ?_) hcb.1
        have : c = 48 := UInt8.toNat.inj h
        rw [this]; rfl
      unfold itoa
      rw [if_pos (by omega)]
      have : (-(u : Int)).natAbs = u := by omega
      rw [this, h1, hcan]
theorem parse_pos {t : List UInt8} {v : Int} (hc : Canon t) (h : parseIntB 64 t = .ok v) : t = itoa v := by
  have hcan := canon _ t rfl hc.1 hc.2.1 hc.2.2
  obtain ⟨c, r, rfl⟩ := List.exists_cons_of_ne_nil hc.1
  have hcb := hc.2.1 c (by simp)
  simp only [parseIntB] at h
  rw [if_neg (by omega)] at h
  split at h
  · cases h
  · cases h
  · rename_i u hu
    have h1 := parseU_eq hu
    have hn : ¬ c.toNat = 45 := by omega
    simp only [hn, not_false_eq_true, true_and, false_and, if_false] at h
    split at h
    · cases h
    · simp only [NumEnd.ok.injEq] at h
      subst h
      rw [itoa_nonneg, h1, hcan]
def joinW : List (List UInt8) → List UInt8
  | [] => []
  | [w] => w
  | w :: l => w ++ 32 :: joinW l
def preW : List (List UInt8) → List UInt8
  | [] => []
  | w :: l => w ++ 32 :: preW l
def BareW (w : List UInt8) : Prop := w ≠ [] ∧ w.length ≤ 200 ∧ ∀ b ∈ w, 33 ≤ b.toNat ∧ b.toNat ≤ 126 ∧ b.toNat ≠ 34
def Bare (ws : List (List UInt8)) : Prop := ∀ w ∈ ws, BareW w
theorem joinW_cons (w : List UInt8) (l : List (List UInt8)) : joinW (w :: l) = w ++ (if l = [] then [] else 32 :: joinW l) := by
  cases l with
  | nil => simp [joinW]
  | cons x l => simp [joinW]
theorem preW_append (l m : List (List UInt8)) : preW (l ++ m) = preW l ++ preW m := by
  induction l with
  | nil => rfl
  | cons w l ih => simp [preW, ih]
theorem joinW_append (l : List (List UInt8)) (w : List UInt8) : joinW (l ++ [w]) = preW l ++ w := by
  induction l with
  | nil => simp [joinW, preW]
  | cons x l ih =>
    rw [List.cons_append, joinW_cons, if_neg (by simp), ih]
    simp [preW]
theorem BareW.no {w : List UInt8} (h : BareW w) : (32 : UInt8) ∉ w := fun hm => by
  have := (h.2.2 32 hm).1
  revert this; decide
theorem joinW_split : ∀ {ws : List (List UInt8)}, ws ≠ [] → Bare ws → Lib.split (joinW ws) [32] = ws
  | [], h, _ => absurd rfl h
  | [w], _, h => by
    have := (h w (by simp)).no
    simp only [joinW]
    exact split_last this
  | w :: x :: l, _, h => by
    have hw := (h w (by simp)).no
    simp only [joinW]
    rw [split_step hw, joinW_split (by simp) fun y hy => h y (by simp at hy ⊢; exact .inr hy)]
theorem joinW_ne {ws : List (List UInt8)} (h : ws ≠ []) (hb : Bare ws) : joinW ws ≠ [] := by
  cases ws with
  | nil => exact absurd rfl h
  | cons w l =>
    have := (hb w (by simp)).1
    rw [joinW_cons]
    intro e
    exact this (List.append_eq_nil_iff.1 e).1
theorem joinW_inj {ws vs : List (List UInt8)} (hw : Bare ws) (hv : Bare vs) (h : joinW ws = joinW vs) : ws = vs := by
  by_cases h1 : ws = []
  · subst h1
    by_cases h2 : vs = []
    · exact h2.symm
    · exact absurd h.symm (joinW_ne h2 hv)
  · by_cases h2 : vs = []
    · subst h2
      exact absurd h (joinW_ne h1 hw)
    · rw [← joinW_split h1 hw, ← joinW_split h2 hv, h]
def I64 (n : Int) : Prop := -9223372036854775808 ≤ n ∧ n ≤ 9223372036854775807
theorem nDigits_le : ∀ (k u : Nat), 1 ≤ k → u < 10 ^ k → nDigits u ≤ k
  | 0, _, h, _ => by omega
  | k + 1, u, _, h => by
    by_cases h0 : u < 10
    · rw [nDigits_small h0]; omega
    · rw [nDigits_big h0]
      rw [Nat.pow_succ] at h
      have hk : 1 ≤ k := by
        cases k with
        | zero => simp at h; omega
        | succ k => omega
      have := nDigits_le k (u / 10) hk (by omega)
      omega
theorem dd_length (u : Nat) : (decDigits u).length = nDigits u := by rw [decDigits_eq]; simp
theorem itoa_len {m : Int} (h : I64 m) : (itoa m).length ≤ 20 := by
  have h1 := nDigits_le 19 m.natAbs (by omega) (by obtain ⟨h0, h1⟩ := h; omega)
  unfold itoa
  split
  · simp only [List.length_cons, dd_length]; omega
  · rw [dd_length]
    have : m.toNat = m.natAbs := by omega
    rw [this]; omega
theorem itoa_inj {a b : Int} (ha : I64 a) (hb : I64 b) (h : itoa a = itoa b) : a = b := by
  have h1 := parse_itoa ha.1 ha.2
  have h2 := parse_itoa hb.1 hb.2
  rw [h, h2] at h1
  cases h1; rfl
theorem itoa_bare {n : Int} (h : I64 n) : BareW (itoa n) := by
  refine ⟨itoa_ne n, ?_, fun b hb => ?_⟩
  · have := itoa_len h; omega
  · have := itoa_mem n b hb; omega
def kw : List (List UInt8) := [[], [99, 114, 101, 97, 116, 101], [100, 101, 115, 116, 114, 111, 121], [97, 108, 108, 111, 99], [109, 97, 114, 107], [114, 101, 119, 105, 110, 100], [114, 101, 115, 101, 116], [108, 111, 97, 100], [115, 116, 111, 114, 101], [116, 105, 99, 107], [112, 117, 114, 103, 101], [108, 105, 109, 105, 116], [114, 101, 102, 117, 115, 101], [104, 117, 103, 101]]
def wIs : List UInt8 := [105, 115]
def wFails : List UInt8 := [102, 97, 105, 108, 115]
def kar : Nat → Nat
  | 1 => 1
  | 2 | 3 | 4 | 5 | 6 | 7 | 8 | 13 => 2
  | _ => 0
def knm : Nat → Nat
  | 3 | 4 => 1
  | 5 | 7 | 8 => 2
  | _ => 0
def knum : Nat → Nat
  | 1 | 12 => 3
  | 3 | 8 => 2
  | 7 | 9 | 11 => 1
  | _ => 0
structure Sp where
  k : Nat
  a : List UInt8
  m : List UInt8
  x : Int
  y : Int
  z : Int
  w : Int
  n : Int
def Sp.wd (s : Sp) : List (List UInt8) :=
  kw.getD s.k [] :: ((if kar s.k = 0 then [] else [s.a]) ++ (if knm s.k = 0 then [] else [s.m]) ++ (([s.x, s.y, s.z].take (knum s.k)).map itoa) ++
    (if s.w = 1 then [wIs, itoa s.n] else if s.w = 2 then [wFails, itoa s.n] else []))
structure Sp.Norm (s : Sp) : Prop where
  k : 1 ≤ s.k ∧ s.k ≤ 13
  a : kar s.k = 0 → s.a = []
  m : knm s.k = 0 → s.m = []
  x : I64 s.x ∧ (knum s.k < 1 → s.x = 0)
  y : I64 s.y ∧ (knum s.k < 2 → s.y = 0)
  z : I64 s.z ∧ (knum s.k < 3 → s.z = 0)
  w : s.w = 0 ∨ s.w = 1 ∨ s.w = 2
  n : I64 s.n ∧ (s.w = 0 → s.n = 0)
theorem kw_inj' : ∀ a b : Fin 14, kw.getD a [] = kw.getD b [] → a = b := by decide
theorem kw_inj {k l : Nat} (hk : k ≤ 13) (hl : l ≤ 13) (h : kw.getD k [] = kw.getD l []) : k = l := by
  have := kw_inj' ⟨k, by omega⟩ ⟨l, by omega⟩ h
  exact congrArg Fin.val this
theorem kw_bare' : ∀ a : Fin 14, 1 ≤ a.val → kw.getD a [] ≠ [] ∧ (kw.getD a []).length ≤ 200 ∧ ∀ b ∈ kw.getD a [], 33 ≤ b.toNat ∧ b.toNat ≤ 126 ∧ b.toNat ≠ 34 := by decide
theorem kw_bare {k : Nat} (h : 1 ≤ k ∧ k ≤ 13) : BareW (kw.getD k []) := kw_bare' ⟨k, by omega⟩ h.1
theorem kw_len {k : Nat} (h : k ≤ 13) : (kw.getD k []).length ≤ 7 := by
  have : ∀ a : Fin 14, (kw.getD a []).length ≤ 7 := by decide
  exact this ⟨k, by omega⟩
theorem wd_len (s : Sp) : s.wd.length ≤ 8 := by
  have hn : knum s.k ≤ 3 := by unfold knum; split <;> omega
  unfold Sp.wd
  simp only [List.length_cons, List.length_append, List.length_map, List.length_take, List.length_nil]
  split <;> split <;> split <;> (try split) <;> simp <;> omega
theorem wd_inj {s t : Sp} (hs : s.Norm) (ht : t.Norm) (h : s.wd = t.wd) : s = t := by
  obtain ⟨k, a, m, x, y, z, w, n⟩ := s
  obtain ⟨k', a', m', x', y', z', w', n'⟩ := t
  obtain ⟨s1, s2, s3, s4, s5, s6, s7, s8⟩ := hs
  obtain ⟨t1, t2, t3, t4, t5, t6, t7, t8⟩ := ht
  simp only at *
  unfold Sp.wd at h
  simp only [List.cons.injEq] at h
  obtain ⟨h1, h2⟩ := h
  have hk := kw_inj (by omega) (by omega) h1
  subst hk
  have key : ∀ {l l' r r' : List (List UInt8)}, l.length = l'.length → l ++ r = l' ++ r' → l = l' ∧ r = r' := fun hl he => List.append_inj he hl
  obtain ⟨h2, h3⟩ := key (by simp only [List.length_append, List.length_map, List.length_take, List.length_cons, List.length_nil]; split <;> split <;> rfl) h2
  obtain ⟨h2, h4⟩ := key (by split <;> split <;> rfl) h2
  obtain ⟨h2, h5⟩ := key (by split <;> rfl) h2
  have ha : a = a' := by
    by_cases h0 : kar k = 0
    · rw [s2 h0, t2 h0]
    · rw [if_neg h0, if_neg h0] at h2
      exact (List.cons.inj h2).1
  have hm : m = m' := by
    by_cases h0 : knm k = 0
    · rw [s3 h0, t3 h0]
    · rw [if_neg h0, if_neg h0] at h5
      exact (List.cons.inj h5).1
  have hwn : w = w' ∧ n = n' := by
    have d : wIs ≠ wFails := by decide
    rcases s7 with rfl | rfl | rfl <;> rcases t7 with rfl | rfl | rfl <;> simp at h3
    · exact ⟨rfl, by rw [s8.2 rfl, t8.2 rfl]⟩
    · exact ⟨rfl, itoa_inj s8.1 t8.1 h3⟩
    · exact absurd h3.1 d
    · exact absurd h3.1.symm d
    · exact ⟨rfl, itoa_inj s8.1 t8.1 h3⟩
  have hn : knum k = 0 ∨ knum k = 1 ∨ knum k = 2 ∨ knum k = 3 := by
    have : knum k ≤ 3 := by unfold knum; split <;> omega
    omega
  obtain ⟨rfl, rfl⟩ := hwn
  subst ha; subst hm
  have hxyz : x = x' ∧ y = y' ∧ z = z' := by
    rcases hn with hn | hn | hn | hn <;> rw [hn] at h4 s4 s5 s6 t4 t5 t6 <;> simp at h4
    · exact ⟨by rw [s4.2 (by omega), t4.2 (by omega)], by rw [s5.2 (by omega), t5.2 (by omega)], by rw [s6.2 (by omega), t6.2 (by omega)]⟩
    · exact ⟨itoa_inj s4.1 t4.1 h4, by rw [s5.2 (by omega), t5.2 (by omega)], by rw [s6.2 (by omega), t6.2 (by omega)]⟩
    · exact ⟨itoa_inj s4.1 t4.1 h4.1, itoa_inj s5.1 t5.1 h4.2, by rw [s6.2 (by omega), t6.2 (by omega)]⟩
    · exact ⟨itoa_inj s4.1 t4.1 h4.1, itoa_inj s5.1 t5.1 h4.2.1, itoa_inj s6.1 t6.1 h4.2.2⟩
  obtain ⟨rfl, rfl, rfl⟩ := hxyz
  rfl
def Sp.NB (s : Sp) : Prop := (kar s.k ≠ 0 → BareW s.a) ∧ (knm s.k ≠ 0 → BareW s.m)
theorem wd_bare {s : Sp} (hs : s.Norm) (hb : s.NB) : Bare s.wd := by
  intro w hw
  unfold Sp.wd at hw
  simp only [List.mem_cons, List.mem_append] at hw
  rcases hw with rfl | ((hw | hw) | hw) | hw
  · exact kw_bare hs.k
  · split at hw
    · cases hw
    · rename_i h; simp at hw; subst hw; exact hb.1 h
  · split at hw
    · cases hw
    · rename_i h; simp at hw; subst hw; exact hb.2 h
  · obtain ⟨q, h1, rfl⟩ := List.mem_map.1 hw
    have h2 := List.mem_of_mem_take h1
    simp at h2
    rcases h2 with rfl | rfl | rfl
    · exact itoa_bare hs.x.1
    · exact itoa_bare hs.y.1
    · exact itoa_bare hs.z.1
  · have b1 : BareW wIs := by unfold BareW; decide
    have b2 : BareW wFails := by unfold BareW; decide
    split at hw
    · simp at hw
      rcases hw with rfl | rfl
      · exact b1
      · exact itoa_bare hs.n.1
    · split at hw
      · simp at hw
        rcases hw with rfl | rfl
        · exact b2
        · exact itoa_bare hs.n.1
      · cases hw
def Sp.line (s : Sp) : List UInt8 := joinW s.wd
theorem line_inj {s t : Sp} (hs : s.Norm) (hsb : s.NB) (ht : t.Norm) (htb : t.NB) (h : s.line = t.line) : s = t := wd_inj hs ht (joinW_inj (wd_bare hs hsb) (wd_bare ht htb) h)
def letterB (b : UInt8) : Bool := decide (97 ≤ b.toNat ∧ b.toNat ≤ 122) || decide (65 ≤ b.toNat ∧ b.toNat ≤ 90)
def nameB (b : UInt8) : Bool := letterB b || decide (48 ≤ b.toNat ∧ b.toNat ≤ 57) || decide (b.toNat = 95)
def NameP (l : List UInt8) : Prop := 1 ≤ l.length ∧ l.length ≤ 16 ∧ (∀ b, l.head? = some b → letterB b = true) ∧ ∀ b ∈ l, nameB b = true
instance (l : List UInt8) : Decidable (NameP l) := by
  unfold NameP
  cases l with
  | nil => exact isFalse fun h => by have := h.1; simp at this
  | cons c r => exact decidable_of_iff (1 ≤ (c :: r).length ∧ (c :: r).length ≤ 16 ∧ letterB c = true ∧ ∀ b ∈ c :: r, nameB b = true) (by simp)
theorem NameP.bare {l : List UInt8} (h : NameP l) : BareW l := by
  obtain ⟨h1, h2, _, h4⟩ := h
  refine ⟨fun e => by subst e; simp at h1, by omega, fun b hb => ?_⟩
  have := h4 b hb
  simp only [nameB, letterB, Bool.or_eq_true, decide_eq_true_eq] at this
  omega
def Big (n : Int) : Prop := n < -1000000000000 ∨ 1000000000000 < n
instance (n : Int) : Decidable (Big n) := by unfold Big; infer_instance
def stepE (k : Int) (a m : List UInt8) (x y z w n : Int) : Int :=
  if k < 1 ∨ 13 < k ∨ w < 0 ∨ 2 < w ∨ (w = 0 ∧ n ≠ 0) then 2 else
  if (kar k.toNat = 0 ∧ a ≠ []) ∨ (knm k.toNat = 0 ∧ m ≠ []) ∨ (knum k.toNat < 1 ∧ x ≠ 0) ∨ (knum k.toNat < 2 ∧ y ≠ 0) ∨ (knum k.toNat < 3 ∧ z ≠ 0) then 2 else
  if (kar k.toNat ≠ 0 ∧ ¬ NameP a) ∨ (knm k.toNat ≠ 0 ∧ ¬ NameP m) then 6 else
  if Big x ∨ Big y ∨ Big z ∨ (w = 1 ∧ Big n) ∨ (w = 2 ∧ (n < 1 ∨ 999 < n)) then 7 else 0
theorem stepE_norm {k : Int} {a m : List UInt8} {x y z w n : Int} (hn : I64 n) (h : stepE k a m x y z w n = 0) : Sp.Norm ⟨k.toNat, a, m, x, y, z, w, n⟩ ∧ Sp.NB ⟨k.toNat, a, m, x, y, z, w, n⟩ ∧ k = k.toNat := by
  unfold stepE at h
  split at h
  · cases h
  · rename_i h1
    split at h
    · cases h
    · rename_i h2
      split at h
      · cases h
      · rename_i h3
        split at h
        · cases h
        · rename_i h4
          unfold Big at h4
          have nx : I64 x := ⟨by omega, by omega⟩
          have ny : I64 y := ⟨by omega, by omega⟩
          have nz : I64 z := ⟨by omega, by omega⟩
          have e1 : ∀ {p q : Prop}, ¬ (p ∧ ¬ q) → p → q := fun h hp => Classical.byContradiction fun hq => h ⟨hp, hq⟩
          refine ⟨⟨?_, ?_, ?_, ⟨nx, ?_⟩, ⟨ny, ?_⟩, ⟨nz, ?_⟩, ?_, ⟨hn, ?_⟩⟩, ⟨fun h => ?_, fun h => ?_⟩, by omega⟩
          · exact ⟨by simp; omega, by simp; omega⟩
          · intro h; exact e1 (fun hh => h2 (.inl hh)) h
          · intro h; exact e1 (fun hh => h2 (.inr (.inl hh))) h
          · intro h; exact e1 (fun hh => h2 (.inr (.inr (.inl hh)))) h
          · intro h; exact e1 (fun hh => h2 (.inr (.inr (.inr (.inl hh))))) h
          · intro h; exact e1 (fun hh => h2 (.inr (.inr (.inr (.inr hh))))) h
          · show w = 0 ∨ w = 1 ∨ w = 2; omega
          · intro h; show n = 0; have h : w = 0 := h; omega
          · exact (e1 (fun hh => h3 (.inl hh)) h).bare
          · exact (e1 (fun hh => h3 (.inr hh)) h).bare
end Go.Tt
