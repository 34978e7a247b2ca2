/-
  Contracts of three loops over all pages; what the executor knows of the manager's types and variables. Definitions alone; nothing here speaks of a program.
-/
import Derived.Test.YtmlimaopoghcmaaGreatDoorA4
import Derived.Lib.ItoaLen
import Derived.Lib.ItoaMem
import Derived.Test.YtmlimaopoghcmaaGreatDoorA1
import Derived.Test.YtmlimaopoghcmaaGreatDoorA2
namespace Go.Mg
open Go Go.Sx
def v (i : Nat) : E := .var i
def i64 (e : E) : AV := .int .i64 e
def eLe (a b : E) : PE := .tt (.bin .le a b)
def pgK : List CK := .int .i64 :: .bool :: List.replicate 64 (.int .u8)
def auK : List CK := [.int .i64, .int .i64, .int .i64, .bool, .bool, .int .i64] ++ List.replicate 64 .bool
def bgs : List Big := [⟨120, 254, auK, 1024⟩, ⟨233, 1, pgK, 1024⟩, ⟨239, 2, [.int .u64], 352⟩, ⟨514, 0, [.int .u64], 1024⟩, ⟨226, 5, [.int .i64], 1024⟩]
def tab64 : List Int := [0, 1, 56, 2, 57, 49, 28, 3, 61, 58, 42, 50, 38, 29, 17, 4, 62, 47, 59, 36, 45, 43, 51, 22, 53, 39, 33, 30, 24, 18, 12, 5, 63, 55, 48, 27, 60, 41, 37, 16, 46, 35, 44, 21, 52, 32, 23, 11, 54, 26, 40, 15, 34, 20, 31, 10, 25, 14, 19, 9, 13, 8, 7, 6]
def tab32 : List Int := [0, 1, 28, 2, 29, 14, 24, 3, 30, 22, 20, 15, 25, 17, 4, 8, 31, 27, 13, 23, 21, 19, 16, 7, 26, 12, 18, 6, 11, 5, 10, 9]
def pow10 : List Int := [1, 10, 100, 1000, 10000, 100000, 1000000, 10000000, 100000000, 1000000000, 10000000000, 100000000000, 1000000000000, 10000000000000, 100000000000000, 1000000000000000, 10000000000000000, 100000000000000000, 1000000000000000000, 10000000000000000000]
def gls : List Glob := [{ g := 2, k := .int .u8, l := tab64 }, { g := 1, k := .int .u8, l := tab32 }, { g := 0, k := .int .u64, l := pow10, full := true }]
def kn : Kn := { bigs := bgs, globs := gls }
def c0 : Contract where
  fn := 0
  sorts := []
  args := []
  mem := []
  nb := 0
  pre := []
  outs := []
  res := .tup []
  mods := []
  fresh := []
  post := []
def cCounts : Contract := { c0 with fn := 282, sorts := [true], args := [.ptr 0 (.lit 0) 0 0], mem := [(0, .big [.bool (.lit 1)] pgK (v 0) 1024 [] false)], nb := 1, pre := [.col (v 0) 0 0 3], outs := [false, false, false, false, false], res := .tup [.agg [i64 (v 1), i64 (v 2), i64 (v 3), i64 (v 4), i64 (v 5)], i64 (.lit 0)] }
def aCounts : Ann where
  fn := 282
  bid := 0
  keep := [5, 4, 2, 0]
  tmps := [(16, i64 (v 6))]
  drop := []
  mem := [(2, .cells [i64 (v 1), i64 (v 2), i64 (v 3), i64 (v 4), i64 (v 5)] true)]
  sorts := [false, false, false, false, false, false]
  nbl := 0
  inv := [eLe (.lit 0) (v 6), eLe (v 6) (.lit 1024), eLe (.lit 0) (v 1), eLe (v 1) (v 6), eLe (.lit 0) (v 2), eLe (v 2) (v 6), eLe (.lit 0) (v 3), eLe (v 3) (v 6), eLe (.lit 0) (v 4), eLe (v 4) (v 6), eLe (.lit 0) (v 5), eLe (v 5) (v 6)]
  meas := .bin .sub (.lit 1024) (v 6)
def cAll (q : Nat) : Contract := { c0 with fn := 253, sorts := [true], args := [.any, .ptr 0 (.lit 0) 0 0], mem := [(0, .cells [.ptr 1 (.lit 0) 0 (2 + 16 * q)] false), (1, .big [.any, .any] [.int .u64] (v 0) 352 [] false)], nb := 2, pre := (List.range 16).map fun i => .ff (.sel (v 0) (.lit ((16 * q + i : Nat) : Int)) 0) }
def aAll : Ann where
  fn := 253
  bid := 0
  keep := [0, 1]
  tmps := [(4, i64 (v 1))]
  drop := []
  mem := []
  sorts := [false]
  nbl := 0
  inv := [eLe (.lit 0) (v 1), eLe (v 1) (.lit 1024)]
  meas := .bin .sub (.lit 1024) (v 1)
def cState : Contract := { c0 with fn := 320, sorts := [true], args := [.ptr 0 (.lit 0) 0 0], mem := [(0, .big [] [.int .u64] (v 0) 1024 [] false)], nb := 1, pre := [.col (v 0) 0 0 0], res := .agg [.nilslice] }
def aState : Ann where
  fn := 320
  bid := 0
  keep := [6, 3, 2, 0]
  tmps := [(7, i64 (v 1))]
  drop := []
  mem := []
  sorts := [false]
  nbl := 0
  inv := [eLe (.lit 0) (v 1), eLe (v 1) (.lit 1024)]
  meas := .bin .sub (.lit 1024) (v 1)
def k5 : List CK := [.int .i64, .int .i64, .int .i64, .int .i64, .int .i64]
def k3 : List CK := [.int .i64, .int .i64, .int .i64]
def cFresh : Contract := { c0 with fn := 143, args := [i64 (.lit 1024), i64 (.lit 1)], res := .ptr 0 (.lit 0) 0 0, fresh := [(0, .cells [.slice 1 (.lit 0) (.lit 1024) 5 false, .slice 2 (.lit 0) (.lit 1) 3 false, i64 (.lit 0)] true), (1, .rows k5 (.kt [0, 0, -1, -1, -1]) (.lit 1024) true false), (2, .rows k3 (.kt [-1, -1, 0]) (.lit 1) true false)] }
def aFresh0 : Ann where
  fn := 143
  bid := 0
  keep := [5, 18]
  tmps := [(19, i64 (v 1))]
  drop := []
  mem := [(0, .rows k5 (v 0) (.lit 1024) true false)]
  sorts := [true, false]
  nbl := 0
  inv := [eLe (.lit 0) (v 1), eLe (v 1) (.lit 1024), .agr (v 0) (.kt [0, 0, -1, -1, -1]) (v 1) 5]
  meas := .bin .sub (.lit 1024) (v 1)
def cVmNew : Contract := { c0 with fn := 45, args := [.agg [.nilslice]], res := .tup [.ptr 0 (.lit 0) 0 0, i64 (.lit 0)], fresh := [(0, .big [.bool (.lit 1)] pgK .zt 1024 (.nilslice :: List.replicate 14 (i64 (.lit 0))) true)] }
def xLoops (P : Program) : Cx := { P, cs := [], anns := [aCounts, aAll, aState, aFresh0], kn := kn }
def loops : List Contract := [cCounts, cState, cFresh, cVmNew] ++ (List.range 22).map cAll
end Go.Mg
namespace Go.Mg
open Go Go.Sx
def tCounts : Tree := (.assume (.col (.var 0) 0 (0) (3)) (.havoc false (.havoc false (.havoc false (.havoc false (.havoc false (.havoc false (.assume (.tt (.bin .le (.lit 0) (.var 6))) (.assume (.tt (.bin .le (.var 6) (.lit 1024))) (.assume (.tt (.bin .le (.lit 0) (.var 1))) (.assume (.tt (.bin .le (.var 1) (.var 6))) (.assume (.tt (.bin .le (.lit 0) (.var 2))) (.assume (.tt (.bin .le (.var 2) (.var 6))) (.assume (.tt (.bin .le (.lit 0) (.var 3))) (.assume (.tt (.bin .le (.var 3) (.var 6))) (.assume (.tt (.bin .le (.lit 0) (.var 4))) (.assume (.tt (.bin .le (.var 4) (.var 6))) (.assume (.tt (.bin .le (.lit 0) (.var 5))) (.assume (.tt (.bin .le (.var 5) (.var 6))) (.branch (.bin .lt (.var 6) (.lit 1024)) (.branch (.bin .eq (.sel (.var 0) (.var 6) 0) (.lit 3)) (.assert (.rng .i64 (.bin .add (.var 4) (.lit 1))) (.branch (.sel (.var 0) (.var 6) 1) (.branch (.bin .eq (.bin .tmod (.var 6) (.lit 16)) (.lit 0)) (.assert (.rng .i64 (.bin .add (.var 5) (.lit 1))) (.assert (.rng .i64 (.bin .add (.var 6) (.lit 1))) (.assert (.tt (.bin .le (.lit 0) (.bin .add (.var 6) (.lit 1)))) (.assert (.tt (.bin .le (.bin .add (.var 6) (.lit 1)) (.lit 1024))) (.assert (.tt (.bin .le (.var 1) (.bin .add (.var 6) (.lit 1)))) (.assert (.tt (.bin .le (.var 2) (.bin .add (.var 6) (.lit 1)))) (.assert (.tt (.bin .le (.var 3) (.bin .add (.var 6) (.lit 1)))) (.assert (.tt (.bin .le (.lit 0) (.bin .add (.var 4) (.lit 1)))) (.assert (.tt (.bin .le (.bin .add (.var 4) (.lit 1)) (.bin .add (.var 6) (.lit 1)))) (.assert (.tt (.bin .le (.lit 0) (.bin .add (.var 5) (.lit 1)))) (.assert (.tt (.bin .le (.bin .add (.var 5) (.lit 1)) (.bin .add (.var 6) (.lit 1)))) (.assert (.tt (.bin .le (.lit 0) (.bin .sub (.lit 1024) (.bin .add (.var 6) (.lit 1))))) (.assert (.tt (.bin .lt (.bin .sub (.lit 1024) (.bin .add (.var 6) (.lit 1))) (.bin .sub (.lit 1024) (.var 6)))) .ok))))))))))))) (.assert (.rng .i64 (.bin .add (.var 6) (.lit 1))) (.assert (.tt (.bin .le (.lit 0) (.bin .add (.var 6) (.lit 1)))) (.assert (.tt (.bin .le (.bin .add (.var 6) (.lit 1)) (.lit 1024))) (.assert (.tt (.bin .le (.var 1) (.bin .add (.var 6) (.lit 1)))) (.assert (.tt (.bin .le (.var 2) (.bin .add (.var 6) (.lit 1)))) (.assert (.tt (.bin .le (.var 3) (.bin .add (.var 6) (.lit 1)))) (.assert (.tt (.bin .le (.lit 0) (.bin .add (.var 4) (.lit 1)))) (.assert (.tt (.bin .le (.bin .add (.var 4) (.lit 1)) (.bin .add (.var 6) (.lit 1)))) (.assert (.tt (.bin .le (.var 5) (.bin .add (.var 6) (.lit 1)))) (.assert (.tt (.bin .le (.lit 0) (.bin .sub (.lit 1024) (.bin .add (.var 6) (.lit 1))))) (.assert (.tt (.bin .lt (.bin .sub (.lit 1024) (.bin .add (.var 6) (.lit 1))) (.bin .sub (.lit 1024) (.var 6)))) .ok)))))))))))) (.assert (.rng .i64 (.bin .add (.var 6) (.lit 1))) (.assert (.tt (.bin .le (.lit 0) (.bin .add (.var 6) (.lit 1)))) (.assert (.tt (.bin .le (.bin .add (.var 6) (.lit 1)) (.lit 1024))) (.assert (.tt (.bin .le (.var 1) (.bin .add (.var 6) (.lit 1)))) (.assert (.tt (.bin .le (.var 2) (.bin .add (.var 6) (.lit 1)))) (.assert (.tt (.bin .le (.var 3) (.bin .add (.var 6) (.lit 1)))) (.assert (.tt (.bin .le (.lit 0) (.bin .add (.var 4) (.lit 1)))) (.assert (.tt (.bin .le (.bin .add (.var 4) (.lit 1)) (.bin .add (.var 6) (.lit 1)))) (.assert (.tt (.bin .le (.var 5) (.bin .add (.var 6) (.lit 1)))) (.assert (.tt (.bin .le (.lit 0) (.bin .sub (.lit 1024) (.bin .add (.var 6) (.lit 1))))) (.assert (.tt (.bin .lt (.bin .sub (.lit 1024) (.bin .add (.var 6) (.lit 1))) (.bin .sub (.lit 1024) (.var 6)))) .ok))))))))))))) (.branch (.bin .eq (.sel (.var 0) (.var 6) 0) (.lit 2)) (.assert (.rng .i64 (.bin .add (.var 3) (.lit 1))) (.branch (.sel (.var 0) (.var 6) 1) (.branch (.bin .eq (.bin .tmod (.var 6) (.lit 16)) (.lit 0)) (.assert (.rng .i64 (.bin .add (.var 5) (.lit 1))) (.assert (.rng .i64 (.bin .add (.var 6) (.lit 1))) (.assert (.tt (.bin .le (.lit 0) (.bin .add (.var 6) (.lit 1)))) (.assert (.tt (.bin .le (.bin .add (.var 6) (.lit 1)) (.lit 1024))) (.assert (.tt (.bin .le (.var 1) (.bin .add (.var 6) (.lit 1)))) (.assert (.tt (.bin .le (.var 2) (.bin .add (.var 6) (.lit 1)))) (.assert (.tt (.bin .le (.lit 0) (.bin .add (.var 3) (.lit 1)))) (.assert (.tt (.bin .le (.bin .add (.var 3) (.lit 1)) (.bin .add (.var 6) (.lit 1)))) (.assert (.tt (.bin .le (.var 4) (.bin .add (.var 6) (.lit 1)))) (.assert (.tt (.bin .le (.lit 0) (.bin .add (.var 5) (.lit 1)))) (.assert (.tt (.bin .le (.bin .add (.var 5) (.lit 1)) (.bin .add (.var 6) (.lit 1)))) (.assert (.tt (.bin .le (.lit 0) (.bin .sub (.lit 1024) (.bin .add (.var 6) (.lit 1))))) (.assert (.tt (.bin .lt (.bin .sub (.lit 1024) (.bin .add (.var 6) (.lit 1))) (.bin .sub (.lit 1024) (.var 6)))) .ok))))))))))))) (.assert (.rng .i64 (.bin .add (.var 6) (.lit 1))) (.assert (.tt (.bin .le (.lit 0) (.bin .add (.var 6) (.lit 1)))) (.assert (.tt (.bin .le (.bin .add (.var 6) (.lit 1)) (.lit 1024))) (.assert (.tt (.bin .le (.var 1) (.bin .add (.var 6) (.lit 1)))) (.assert (.tt (.bin .le (.var 2) (.bin .add (.var 6) (.lit 1)))) (.assert (.tt (.bin .le (.lit 0) (.bin .add (.var 3) (.lit 1)))) (.assert (.tt (.bin .le (.bin .add (.var 3) (.lit 1)) (.bin .add (.var 6) (.lit 1)))) (.assert (.tt (.bin .le (.var 4) (.bin .add (.var 6) (.lit 1)))) (.assert (.tt (.bin .le (.var 5) (.bin .add (.var 6) (.lit 1)))) (.assert (.tt (.bin .le (.lit 0) (.bin .sub (.lit 1024) (.bin .add (.var 6) (.lit 1))))) (.assert (.tt (.bin .lt (.bin .sub (.lit 1024) (.bin .add (.var 6) (.lit 1))) (.bin .sub (.lit 1024) (.var 6)))) .ok)))))))))))) (.assert (.rng .i64 (.bin .add (.var 6) (.lit 1))) (.assert (.tt (.bin .le (.lit 0) (.bin .add (.var 6) (.lit 1)))) (.assert (.tt (.bin .le (.bin .add (.var 6) (.lit 1)) (.lit 1024))) (.assert (.tt (.bin .le (.var 1) (.bin .add (.var 6) (.lit 1)))) (.assert (.tt (.bin .le (.var 2) (.bin .add (.var 6) (.lit 1)))) (.assert (.tt (.bin .le (.lit 0) (.bin .add (.var 3) (.lit 1)))) (.assert (.tt (.bin .le (.bin .add (.var 3) (.lit 1)) (.bin .add (.var 6) (.lit 1)))) (.assert (.tt (.bin .le (.var 4) (.bin .add (.var 6) (.lit 1)))) (.assert (.tt (.bin .le (.var 5) (.bin .add (.var 6) (.lit 1)))) (.assert (.tt (.bin .le (.lit 0) (.bin .sub (.lit 1024) (.bin .add (.var 6) (.lit 1))))) (.assert (.tt (.bin .lt (.bin .sub (.lit 1024) (.bin .add (.var 6) (.lit 1))) (.bin .sub (.lit 1024) (.var 6)))) .ok))))))))))))) (.branch (.bin .eq (.sel (.var 0) (.var 6) 0) (.lit 1)) (.assert (.rng .i64 (.bin .add (.var 2) (.lit 1))) (.branch (.sel (.var 0) (.var 6) 1) (.branch (.bin .eq (.bin .tmod (.var 6) (.lit 16)) (.lit 0)) (.assert (.rng .i64 (.bin .add (.var 5) (.lit 1))) (.assert (.rng .i64 (.bin .add (.var 6) (.lit 1))) (.assert (.tt (.bin .le (.lit 0) (.bin .add (.var 6) (.lit 1)))) (.assert (.tt (.bin .le (.bin .add (.var 6) (.lit 1)) (.lit 1024))) (.assert (.tt (.bin .le (.var 1) (.bin .add (.var 6) (.lit 1)))) (.assert (.tt (.bin .le (.lit 0) (.bin .add (.var 2) (.lit 1)))) (.assert (.tt (.bin .le (.bin .add (.var 2) (.lit 1)) (.bin .add (.var 6) (.lit 1)))) (.assert (.tt (.bin .le (.var 3) (.bin .add (.var 6) (.lit 1)))) (.assert (.tt (.bin .le (.var 4) (.bin .add (.var 6) (.lit 1)))) (.assert (.tt (.bin .le (.lit 0) (.bin .add (.var 5) (.lit 1)))) (.assert (.tt (.bin .le (.bin .add (.var 5) (.lit 1)) (.bin .add (.var 6) (.lit 1)))) (.assert (.tt (.bin .le (.lit 0) (.bin .sub (.lit 1024) (.bin .add (.var 6) (.lit 1))))) (.assert (.tt (.bin .lt (.bin .sub (.lit 1024) (.bin .add (.var 6) (.lit 1))) (.bin .sub (.lit 1024) (.var 6)))) .ok))))))))))))) (.assert (.rng .i64 (.bin .add (.var 6) (.lit 1))) (.assert (.tt (.bin .le (.lit 0) (.bin .add (.var 6) (.lit 1)))) (.assert (.tt (.bin .le (.bin .add (.var 6) (.lit 1)) (.lit 1024))) (.assert (.tt (.bin .le (.var 1) (.bin .add (.var 6) (.lit 1)))) (.assert (.tt (.bin .le (.lit 0) (.bin .add (.var 2) (.lit 1)))) (.assert (.tt (.bin .le (.bin .add (.var 2) (.lit 1)) (.bin .add (.var 6) (.lit 1)))) (.assert (.tt (.bin .le (.var 3) (.bin .add (.var 6) (.lit 1)))) (.assert (.tt (.bin .le (.var 4) (.bin .add (.var 6) (.lit 1)))) (.assert (.tt (.bin .le (.var 5) (.bin .add (.var 6) (.lit 1)))) (.assert (.tt (.bin .le (.lit 0) (.bin .sub (.lit 1024) (.bin .add (.var 6) (.lit 1))))) (.assert (.tt (.bin .lt (.bin .sub (.lit 1024) (.bin .add (.var 6) (.lit 1))) (.bin .sub (.lit 1024) (.var 6)))) .ok)))))))))))) (.assert (.rng .i64 (.bin .add (.var 6) (.lit 1))) (.assert (.tt (.bin .le (.lit 0) (.bin .add (.var 6) (.lit 1)))) (.assert (.tt (.bin .le (.bin .add (.var 6) (.lit 1)) (.lit 1024))) (.assert (.tt (.bin .le (.var 1) (.bin .add (.var 6) (.lit 1)))) (.assert (.tt (.bin .le (.lit 0) (.bin .add (.var 2) (.lit 1)))) (.assert (.tt (.bin .le (.bin .add (.var 2) (.lit 1)) (.bin .add (.var 6) (.lit 1)))) (.assert (.tt (.bin .le (.var 3) (.bin .add (.var 6) (.lit 1)))) (.assert (.tt (.bin .le (.var 4) (.bin .add (.var 6) (.lit 1)))) (.assert (.tt (.bin .le (.var 5) (.bin .add (.var 6) (.lit 1)))) (.assert (.tt (.bin .le (.lit 0) (.bin .sub (.lit 1024) (.bin .add (.var 6) (.lit 1))))) (.assert (.tt (.bin .lt (.bin .sub (.lit 1024) (.bin .add (.var 6) (.lit 1))) (.bin .sub (.lit 1024) (.var 6)))) .ok))))))))))))) (.branch (.bin .eq (.sel (.var 0) (.var 6) 0) (.lit 0)) (.assert (.rng .i64 (.bin .add (.var 1) (.lit 1))) (.branch (.sel (.var 0) (.var 6) 1) (.branch (.bin .eq (.bin .tmod (.var 6) (.lit 16)) (.lit 0)) (.assert (.rng .i64 (.bin .add (.var 5) (.lit 1))) (.assert (.rng .i64 (.bin .add (.var 6) (.lit 1))) (.assert (.tt (.bin .le (.lit 0) (.bin .add (.var 6) (.lit 1)))) (.assert (.tt (.bin .le (.bin .add (.var 6) (.lit 1)) (.lit 1024))) (.assert (.tt (.bin .le (.lit 0) (.bin .add (.var 1) (.lit 1)))) (.assert (.tt (.bin .le (.bin .add (.var 1) (.lit 1)) (.bin .add (.var 6) (.lit 1)))) (.assert (.tt (.bin .le (.var 2) (.bin .add (.var 6) (.lit 1)))) (.assert (.tt (.bin .le (.var 3) (.bin .add (.var 6) (.lit 1)))) (.assert (.tt (.bin .le (.var 4) (.bin .add (.var 6) (.lit 1)))) (.assert (.tt (.bin .le (.lit 0) (.bin .add (.var 5) (.lit 1)))) (.assert (.tt (.bin .le (.bin .add (.var 5) (.lit 1)) (.bin .add (.var 6) (.lit 1)))) (.assert (.tt (.bin .le (.lit 0) (.bin .sub (.lit 1024) (.bin .add (.var 6) (.lit 1))))) (.assert (.tt (.bin .lt (.bin .sub (.lit 1024) (.bin .add (.var 6) (.lit 1))) (.bin .sub (.lit 1024) (.var 6)))) .ok))))))))))))) (.assert (.rng .i64 (.bin .add (.var 6) (.lit 1))) (.assert (.tt (.bin .le (.lit 0) (.bin .add (.var 6) (.lit 1)))) (.assert (.tt (.bin .le (.bin .add (.var 6) (.lit 1)) (.lit 1024))) (.assert (.tt (.bin .le (.lit 0) (.bin .add (.var 1) (.lit 1)))) (.assert (.tt (.bin .le (.bin .add (.var 1) (.lit 1)) (.bin .add (.var 6) (.lit 1)))) (.assert (.tt (.bin .le (.var 2) (.bin .add (.var 6) (.lit 1)))) (.assert (.tt (.bin .le (.var 3) (.bin .add (.var 6) (.lit 1)))) (.assert (.tt (.bin .le (.var 4) (.bin .add (.var 6) (.lit 1)))) (.assert (.tt (.bin .le (.var 5) (.bin .add (.var 6) (.lit 1)))) (.assert (.tt (.bin .le (.lit 0) (.bin .sub (.lit 1024) (.bin .add (.var 6) (.lit 1))))) (.assert (.tt (.bin .lt (.bin .sub (.lit 1024) (.bin .add (.var 6) (.lit 1))) (.bin .sub (.lit 1024) (.var 6)))) .ok)))))))))))) (.assert (.rng .i64 (.bin .add (.var 6) (.lit 1))) (.assert (.tt (.bin .le (.lit 0) (.bin .add (.var 6) (.lit 1)))) (.assert (.tt (.bin .le (.bin .add (.var 6) (.lit 1)) (.lit 1024))) (.assert (.tt (.bin .le (.lit 0) (.bin .add (.var 1) (.lit 1)))) (.assert (.tt (.bin .le (.bin .add (.var 1) (.lit 1)) (.bin .add (.var 6) (.lit 1)))) (.assert (.tt (.bin .le (.var 2) (.bin .add (.var 6) (.lit 1)))) (.assert (.tt (.bin .le (.var 3) (.bin .add (.var 6) (.lit 1)))) (.assert (.tt (.bin .le (.var 4) (.bin .add (.var 6) (.lit 1)))) (.assert (.tt (.bin .le (.var 5) (.bin .add (.var 6) (.lit 1)))) (.assert (.tt (.bin .le (.lit 0) (.bin .sub (.lit 1024) (.bin .add (.var 6) (.lit 1))))) (.assert (.tt (.bin .lt (.bin .sub (.lit 1024) (.bin .add (.var 6) (.lit 1))) (.bin .sub (.lit 1024) (.var 6)))) .ok))))))))))))) (.fail 29))))) .ok))))))))))))))))))))
def tState : Tree := (.assume (.col (.var 0) 0 (0) (0)) (.havoc false (.assume (.tt (.bin .le (.lit 0) (.var 1))) (.assume (.tt (.bin .le (.var 1) (.lit 1024))) (.branch (.bin .lt (.var 1) (.lit 1024)) (.branch (.bin .eq (.bin .eq (.sel (.var 0) (.var 1) 0) (.lit 0)) (.lit 0)) (.branch (.bin .eq (.bin .eq (.bin (.bits 5 .u64) (.sel (.var 0) (.var 1) 0) (.lit 0)) (.lit 0)) (.lit 0)) (.fail 20) (.assert (.rng .i64 (.bin .add (.var 1) (.lit 1))) (.fail 61))) (.assert (.rng .i64 (.bin .add (.var 1) (.lit 1))) (.assert (.tt (.bin .le (.lit 0) (.bin .add (.var 1) (.lit 1)))) (.assert (.tt (.bin .le (.bin .add (.var 1) (.lit 1)) (.lit 1024))) (.assert (.tt (.bin .le (.lit 0) (.bin .sub (.lit 1024) (.bin .add (.var 1) (.lit 1))))) (.assert (.tt (.bin .lt (.bin .sub (.lit 1024) (.bin .add (.var 1) (.lit 1))) (.bin .sub (.lit 1024) (.var 1)))) .ok)))))) .ok)))))
def tFresh : Tree := (.assert (.agr .zt (.kt [0, 0, -1, -1, -1]) (.lit 0) 5) (.havoc true (.havoc false (.assume (.tt (.bin .le (.lit 0) (.var 1))) (.assume (.tt (.bin .le (.var 1) (.lit 1024))) (.assume (.agr (.var 0) (.kt [0, 0, -1, -1, -1]) (.var 1) 5) (.branch (.bin .lt (.var 1) (.lit 1024)) (.assert (.rng .i64 (.bin .add (.var 1) (.lit 1))) (.assert (.tt (.bin .le (.lit 0) (.bin .add (.var 1) (.lit 1)))) (.assert (.tt (.bin .le (.bin .add (.var 1) (.lit 1)) (.lit 1024))) (.assert (.agr (.upd (.upd (.upd (.upd (.upd (.var 0) (.var 1) 0 (.lit 0)) (.var 1) 1 (.lit 0)) (.var 1) 2 (.lit (-1))) (.var 1) 3 (.lit (-1))) (.var 1) 4 (.lit (-1))) (.kt [0, 0, -1, -1, -1]) (.bin .add (.var 1) (.lit 1)) 5) (.assert (.tt (.bin .le (.lit 0) (.bin .sub (.lit 1024) (.bin .add (.var 1) (.lit 1))))) (.assert (.tt (.bin .lt (.bin .sub (.lit 1024) (.bin .add (.var 1) (.lit 1))) (.bin .sub (.lit 1024) (.var 1)))) .ok)))))) (.assert (.agr (.kt [0, 0, -1, -1, -1]) (.var 0) (.lit 1024) 5) (.assert (.agr (.kt [-1, -1, 0]) (.upd (.upd .zt (.lit 0) 0 (.lit (-1))) (.lit 0) 1 (.lit (-1))) (.lit 1) 3) .ok)))))))))
def tVmNew : Tree := .ok
def tAll0 : Tree := (.assume (.ff (.sel (.var 0) (.lit 0) 0)) (.assume (.ff (.sel (.var 0) (.lit 1) 0)) (.assume (.ff (.sel (.var 0) (.lit 2) 0)) (.assume (.ff (.sel (.var 0) (.lit 3) 0)) (.assume (.ff (.sel (.var 0) (.lit 4) 0)) (.assume (.ff (.sel (.var 0) (.lit 5) 0)) (.assume (.ff (.sel (.var 0) (.lit 6) 0)) (.assume (.ff (.sel (.var 0) (.lit 7) 0)) (.assume (.ff (.sel (.var 0) (.lit 8) 0)) (.assume (.ff (.sel (.var 0) (.lit 9) 0)) (.assume (.ff (.sel (.var 0) (.lit 10) 0)) (.assume (.ff (.sel (.var 0) (.lit 11) 0)) (.assume (.ff (.sel (.var 0) (.lit 12) 0)) (.assume (.ff (.sel (.var 0) (.lit 13) 0)) (.assume (.ff (.sel (.var 0) (.lit 14) 0)) (.assume (.ff (.sel (.var 0) (.lit 15) 0)) (.havoc false (.assume (.tt (.bin .le (.lit 0) (.var 1))) (.assume (.tt (.bin .le (.var 1) (.lit 1024))) (.branch (.bin .lt (.var 1) (.lit 1024)) (.assert (.tt (.bin .le (.lit 0) (.bin (.bits 6 .i64) (.var 1) (.lit 64)))) (.assert (.tt (.bin .lt (.bin (.bits 6 .i64) (.var 1) (.lit 64)) (.lit 16))) (.assert (.tt (.bin .lt (.bin (.bits 6 .i64) (.var 1) (.lit 64)) (.lit 352))) (.assert (.tt (.bin .le (.lit 0) (.bin .tmod (.var 1) (.lit 64)))) (.branch (.bin .eq (.bin (.bits 0 .u64) (.bin (.bits 5 .u64) (.sel (.var 0) (.bin (.bits 6 .i64) (.var 1) (.lit 64)) 0) (.bin .tmod (.var 1) (.lit 64))) (.lit 1)) (.lit 1)) (.fail 20) (.assert (.rng .i64 (.bin .add (.var 1) (.lit 1))) (.assert (.tt (.bin .le (.lit 0) (.bin .add (.var 1) (.lit 1)))) (.assert (.tt (.bin .le (.bin .add (.var 1) (.lit 1)) (.lit 1024))) (.assert (.tt (.bin .le (.lit 0) (.bin .sub (.lit 1024) (.bin .add (.var 1) (.lit 1))))) (.assert (.tt (.bin .lt (.bin .sub (.lit 1024) (.bin .add (.var 1) (.lit 1))) (.bin .sub (.lit 1024) (.var 1)))) .ok)))))))))) .ok))))))))))))))))))))
def tAll1 : Tree := (.assume (.ff (.sel (.var 0) (.lit 16) 0)) (.assume (.ff (.sel (.var 0) (.lit 17) 0)) (.assume (.ff (.sel (.var 0) (.lit 18) 0)) (.assume (.ff (.sel (.var 0) (.lit 19) 0)) (.assume (.ff (.sel (.var 0) (.lit 20) 0)) (.assume (.ff (.sel (.var 0) (.lit 21) 0)) (.assume (.ff (.sel (.var 0) (.lit 22) 0)) (.assume (.ff (.sel (.var 0) (.lit 23) 0)) (.assume (.ff (.sel (.var 0) (.lit 24) 0)) (.assume (.ff (.sel (.var 0) (.lit 25) 0)) (.assume (.ff (.sel (.var 0) (.lit 26) 0)) (.assume (.ff (.sel (.var 0) (.lit 27) 0)) (.assume (.ff (.sel (.var 0) (.lit 28) 0)) (.assume (.ff (.sel (.var 0) (.lit 29) 0)) (.assume (.ff (.sel (.var 0) (.lit 30) 0)) (.assume (.ff (.sel (.var 0) (.lit 31) 0)) (.havoc false (.assume (.tt (.bin .le (.lit 0) (.var 1))) (.assume (.tt (.bin .le (.var 1) (.lit 1024))) (.branch (.bin .lt (.var 1) (.lit 1024)) (.assert (.tt (.bin .le (.lit 0) (.bin (.bits 6 .i64) (.var 1) (.lit 64)))) (.assert (.tt (.bin .lt (.bin (.bits 6 .i64) (.var 1) (.lit 64)) (.lit 16))) (.assert (.tt (.bin .le (.lit 0) (.bin .add (.bin (.bits 6 .i64) (.var 1) (.lit 64)) (.lit 16)))) (.assert (.tt (.bin .lt (.bin .add (.bin (.bits 6 .i64) (.var 1) (.lit 64)) (.lit 16)) (.lit 352))) (.assert (.tt (.bin .le (.lit 0) (.bin .tmod (.var 1) (.lit 64)))) (.branch (.bin .eq (.bin (.bits 0 .u64) (.bin (.bits 5 .u64) (.sel (.var 0) (.bin .add (.bin (.bits 6 .i64) (.var 1) (.lit 64)) (.lit 16)) 0) (.bin .tmod (.var 1) (.lit 64))) (.lit 1)) (.lit 1)) (.fail 20) (.assert (.rng .i64 (.bin .add (.var 1) (.lit 1))) (.assert (.tt (.bin .le (.lit 0) (.bin .add (.var 1) (.lit 1)))) (.assert (.tt (.bin .le (.bin .add (.var 1) (.lit 1)) (.lit 1024))) (.assert (.tt (.bin .le (.lit 0) (.bin .sub (.lit 1024) (.bin .add (.var 1) (.lit 1))))) (.assert (.tt (.bin .lt (.bin .sub (.lit 1024) (.bin .add (.var 1) (.lit 1))) (.bin .sub (.lit 1024) (.var 1)))) .ok))))))))))) .ok))))))))))))))))))))
def tAll2 : Tree := (.assume (.ff (.sel (.var 0) (.lit 32) 0)) (.assume (.ff (.sel (.var 0) (.lit 33) 0)) (.assume (.ff (.sel (.var 0) (.lit 34) 0)) (.assume (.ff (.sel (.var 0) (.lit 35) 0)) (.assume (.ff (.sel (.var 0) (.lit 36) 0)) (.assume (.ff (.sel (.var 0) (.lit 37) 0)) (.assume (.ff (.sel (.var 0) (.lit 38) 0)) (.assume (.ff (.sel (.var 0) (.lit 39) 0)) (.assume (.ff (.sel (.var 0) (.lit 40) 0)) (.assume (.ff (.sel (.var 0) (.lit 41) 0)) (.assume (.ff (.sel (.var 0) (.lit 42) 0)) (.assume (.ff (.sel (.var 0) (.lit 43) 0)) (.assume (.ff (.sel (.var 0) (.lit 44) 0)) (.assume (.ff (.sel (.var 0) (.lit 45) 0)) (.assume (.ff (.sel (.var 0) (.lit 46) 0)) (.assume (.ff (.sel (.var 0) (.lit 47) 0)) (.havoc false (.assume (.tt (.bin .le (.lit 0) (.var 1))) (.assume (.tt (.bin .le (.var 1) (.lit 1024))) (.branch (.bin .lt (.var 1) (.lit 1024)) (.assert (.tt (.bin .le (.lit 0) (.bin (.bits 6 .i64) (.var 1) (.lit 64)))) (.assert (.tt (.bin .lt (.bin (.bits 6 .i64) (.var 1) (.lit 64)) (.lit 16))) (.assert (.tt (.bin .le (.lit 0) (.bin .add (.bin (.bits 6 .i64) (.var 1) (.lit 64)) (.lit 32)))) (.assert (.tt (.bin .lt (.bin .add (.bin (.bits 6 .i64) (.var 1) (.lit 64)) (.lit 32)) (.lit 352))) (.assert (.tt (.bin .le (.lit 0) (.bin .tmod (.var 1) (.lit 64)))) (.branch (.bin .eq (.bin (.bits 0 .u64) (.bin (.bits 5 .u64) (.sel (.var 0) (.bin .add (.bin (.bits 6 .i64) (.var 1) (.lit 64)) (.lit 32)) 0) (.bin .tmod (.var 1) (.lit 64))) (.lit 1)) (.lit 1)) (.fail 20) (.assert (.rng .i64 (.bin .add (.var 1) (.lit 1))) (.assert (.tt (.bin .le (.lit 0) (.bin .add (.var 1) (.lit 1)))) (.assert (.tt (.bin .le (.bin .add (.var 1) (.lit 1)) (.lit 1024))) (.assert (.tt (.bin .le (.lit 0) (.bin .sub (.lit 1024) (.bin .add (.var 1) (.lit 1))))) (.assert (.tt (.bin .lt (.bin .sub (.lit 1024) (.bin .add (.var 1) (.lit 1))) (.bin .sub (.lit 1024) (.var 1)))) .ok))))))))))) .ok))))))))))))))))))))
def tAll3 : Tree := (.assume (.ff (.sel (.var 0) (.lit 48) 0)) (.assume (.ff (.sel (.var 0) (.lit 49) 0)) (.assume (.ff (.sel (.var 0) (.lit 50) 0)) (.assume (.ff (.sel (.var 0) (.lit 51) 0)) (.assume (.ff (.sel (.var 0) (.lit 52) 0)) (.assume (.ff (.sel (.var 0) (.lit 53) 0)) (.assume (.ff (.sel (.var 0) (.lit 54) 0)) (.assume (.ff (.sel (.var 0) (.lit 55) 0)) (.assume (.ff (.sel (.var 0) (.lit 56) 0)) (.assume (.ff (.sel (.var 0) (.lit 57) 0)) (.assume (.ff (.sel (.var 0) (.lit 58) 0)) (.assume (.ff (.sel (.var 0) (.lit 59) 0)) (.assume (.ff (.sel (.var 0) (.lit 60) 0)) (.assume (.ff (.sel (.var 0) (.lit 61) 0)) (.assume (.ff (.sel (.var 0) (.lit 62) 0)) (.assume (.ff (.sel (.var 0) (.lit 63) 0)) (.havoc false (.assume (.tt (.bin .le (.lit 0) (.var 1))) (.assume (.tt (.bin .le (.var 1) (.lit 1024))) (.branch (.bin .lt (.var 1) (.lit 1024)) (.assert (.tt (.bin .le (.lit 0) (.bin (.bits 6 .i64) (.var 1) (.lit 64)))) (.assert (.tt (.bin .lt (.bin (.bits 6 .i64) (.var 1) (.lit 64)) (.lit 16))) (.assert (.tt (.bin .le (.lit 0) (.bin .add (.bin (.bits 6 .i64) (.var 1) (.lit 64)) (.lit 48)))) (.assert (.tt (.bin .lt (.bin .add (.bin (.bits 6 .i64) (.var 1) (.lit 64)) (.lit 48)) (.lit 352))) (.assert (.tt (.bin .le (.lit 0) (.bin .tmod (.var 1) (.lit 64)))) (.branch (.bin .eq (.bin (.bits 0 .u64) (.bin (.bits 5 .u64) (.sel (.var 0) (.bin .add (.bin (.bits 6 .i64) (.var 1) (.lit 64)) (.lit 48)) 0) (.bin .tmod (.var 1) (.lit 64))) (.lit 1)) (.lit 1)) (.fail 20) (.assert (.rng .i64 (.bin .add (.var 1) (.lit 1))) (.assert (.tt (.bin .le (.lit 0) (.bin .add (.var 1) (.lit 1)))) (.assert (.tt (.bin .le (.bin .add (.var 1) (.lit 1)) (.lit 1024))) (.assert (.tt (.bin .le (.lit 0) (.bin .sub (.lit 1024) (.bin .add (.var 1) (.lit 1))))) (.assert (.tt (.bin .lt (.bin .sub (.lit 1024) (.bin .add (.var 1) (.lit 1))) (.bin .sub (.lit 1024) (.var 1)))) .ok))))))))))) .ok))))))))))))))))))))
def tAll4 : Tree := (.assume (.ff (.sel (.var 0) (.lit 64) 0)) (.assume (.ff (.sel (.var 0) (.lit 65) 0)) (.assume (.ff (.sel (.var 0) (.lit 66) 0)) (.assume (.ff (.sel (.var 0) (.lit 67) 0)) (.assume (.ff (.sel (.var 0) (.lit 68) 0)) (.assume (.ff (.sel (.var 0) (.lit 69) 0)) (.assume (.ff (.sel (.var 0) (.lit 70) 0)) (.assume (.ff (.sel (.var 0) (.lit 71) 0)) (.assume (.ff (.sel (.var 0) (.lit 72) 0)) (.assume (.ff (.sel (.var 0) (.lit 73) 0)) (.assume (.ff (.sel (.var 0) (.lit 74) 0)) (.assume (.ff (.sel (.var 0) (.lit 75) 0)) (.assume (.ff (.sel (.var 0) (.lit 76) 0)) (.assume (.ff (.sel (.var 0) (.lit 77) 0)) (.assume (.ff (.sel (.var 0) (.lit 78) 0)) (.assume (.ff (.sel (.var 0) (.lit 79) 0)) (.havoc false (.assume (.tt (.bin .le (.lit 0) (.var 1))) (.assume (.tt (.bin .le (.var 1) (.lit 1024))) (.branch (.bin .lt (.var 1) (.lit 1024)) (.assert (.tt (.bin .le (.lit 0) (.bin (.bits 6 .i64) (.var 1) (.lit 64)))) (.assert (.tt (.bin .lt (.bin (.bits 6 .i64) (.var 1) (.lit 64)) (.lit 16))) (.assert (.tt (.bin .le (.lit 0) (.bin .add (.bin (.bits 6 .i64) (.var 1) (.lit 64)) (.lit 64)))) (.assert (.tt (.bin .lt (.bin .add (.bin (.bits 6 .i64) (.var 1) (.lit 64)) (.lit 64)) (.lit 352))) (.assert (.tt (.bin .le (.lit 0) (.bin .tmod (.var 1) (.lit 64)))) (.branch (.bin .eq (.bin (.bits 0 .u64) (.bin (.bits 5 .u64) (.sel (.var 0) (.bin .add (.bin (.bits 6 .i64) (.var 1) (.lit 64)) (.lit 64)) 0) (.bin .tmod (.var 1) (.lit 64))) (.lit 1)) (.lit 1)) (.fail 20) (.assert (.rng .i64 (.bin .add (.var 1) (.lit 1))) (.assert (.tt (.bin .le (.lit 0) (.bin .add (.var 1) (.lit 1)))) (.assert (.tt (.bin .le (.bin .add (.var 1) (.lit 1)) (.lit 1024))) (.assert (.tt (.bin .le (.lit 0) (.bin .sub (.lit 1024) (.bin .add (.var 1) (.lit 1))))) (.assert (.tt (.bin .lt (.bin .sub (.lit 1024) (.bin .add (.var 1) (.lit 1))) (.bin .sub (.lit 1024) (.var 1)))) .ok))))))))))) .ok))))))))))))))))))))
def tAll5 : Tree := (.assume (.ff (.sel (.var 0) (.lit 80) 0)) (.assume (.ff (.sel (.var 0) (.lit 81) 0)) (.assume (.ff (.sel (.var 0) (.lit 82) 0)) (.assume (.ff (.sel (.var 0) (.lit 83) 0)) (.assume (.ff (.sel (.var 0) (.lit 84) 0)) (.assume (.ff (.sel (.var 0) (.lit 85) 0)) (.assume (.ff (.sel (.var 0) (.lit 86) 0)) (.assume (.ff (.sel (.var 0) (.lit 87) 0)) (.assume (.ff (.sel (.var 0) (.lit 88) 0)) (.assume (.ff (.sel (.var 0) (.lit 89) 0)) (.assume (.ff (.sel (.var 0) (.lit 90) 0)) (.assume (.ff (.sel (.var 0) (.lit 91) 0)) (.assume (.ff (.sel (.var 0) (.lit 92) 0)) (.assume (.ff (.sel (.var 0) (.lit 93) 0)) (.assume (.ff (.sel (.var 0) (.lit 94) 0)) (.assume (.ff (.sel (.var 0) (.lit 95) 0)) (.havoc false (.assume (.tt (.bin .le (.lit 0) (.var 1))) (.assume (.tt (.bin .le (.var 1) (.lit 1024))) (.branch (.bin .lt (.var 1) (.lit 1024)) (.assert (.tt (.bin .le (.lit 0) (.bin (.bits 6 .i64) (.var 1) (.lit 64)))) (.assert (.tt (.bin .lt (.bin (.bits 6 .i64) (.var 1) (.lit 64)) (.lit 16))) (.assert (.tt (.bin .le (.lit 0) (.bin .add (.bin (.bits 6 .i64) (.var 1) (.lit 64)) (.lit 80)))) (.assert (.tt (.bin .lt (.bin .add (.bin (.bits 6 .i64) (.var 1) (.lit 64)) (.lit 80)) (.lit 352))) (.assert (.tt (.bin .le (.lit 0) (.bin .tmod (.var 1) (.lit 64)))) (.branch (.bin .eq (.bin (.bits 0 .u64) (.bin (.bits 5 .u64) (.sel (.var 0) (.bin .add (.bin (.bits 6 .i64) (.var 1) (.lit 64)) (.lit 80)) 0) (.bin .tmod (.var 1) (.lit 64))) (.lit 1)) (.lit 1)) (.fail 20) (.assert (.rng .i64 (.bin .add (.var 1) (.lit 1))) (.assert (.tt (.bin .le (.lit 0) (.bin .add (.var 1) (.lit 1)))) (.assert (.tt (.bin .le (.bin .add (.var 1) (.lit 1)) (.lit 1024))) (.assert (.tt (.bin .le (.lit 0) (.bin .sub (.lit 1024) (.bin .add (.var 1) (.lit 1))))) (.assert (.tt (.bin .lt (.bin .sub (.lit 1024) (.bin .add (.var 1) (.lit 1))) (.bin .sub (.lit 1024) (.var 1)))) .ok))))))))))) .ok))))))))))))))))))))
def tAll6 : Tree := (.assume (.ff (.sel (.var 0) (.lit 96) 0)) (.assume (.ff (.sel (.var 0) (.lit 97) 0)) (.assume (.ff (.sel (.var 0) (.lit 98) 0)) (.assume (.ff (.sel (.var 0) (.lit 99) 0)) (.assume (.ff (.sel (.var 0) (.lit 100) 0)) (.assume (.ff (.sel (.var 0) (.lit 101) 0)) (.assume (.ff (.sel (.var 0) (.lit 102) 0)) (.assume (.ff (.sel (.var 0) (.lit 103) 0)) (.assume (.ff (.sel (.var 0) (.lit 104) 0)) (.assume (.ff (.sel (.var 0) (.lit 105) 0)) (.assume (.ff (.sel (.var 0) (.lit 106) 0)) (.assume (.ff (.sel (.var 0) (.lit 107) 0)) (.assume (.ff (.sel (.var 0) (.lit 108) 0)) (.assume (.ff (.sel (.var 0) (.lit 109) 0)) (.assume (.ff (.sel (.var 0) (.lit 110) 0)) (.assume (.ff (.sel (.var 0) (.lit 111) 0)) (.havoc false (.assume (.tt (.bin .le (.lit 0) (.var 1))) (.assume (.tt (.bin .le (.var 1) (.lit 1024))) (.branch (.bin .lt (.var 1) (.lit 1024)) (.assert (.tt (.bin .le (.lit 0) (.bin (.bits 6 .i64) (.var 1) (.lit 64)))) (.assert (.tt (.bin .lt (.bin (.bits 6 .i64) (.var 1) (.lit 64)) (.lit 16))) (.assert (.tt (.bin .le (.lit 0) (.bin .add (.bin (.bits 6 .i64) (.var 1) (.lit 64)) (.lit 96)))) (.assert (.tt (.bin .lt (.bin .add (.bin (.bits 6 .i64) (.var 1) (.lit 64)) (.lit 96)) (.lit 352))) (.assert (.tt (.bin .le (.lit 0) (.bin .tmod (.var 1) (.lit 64)))) (.branch (.bin .eq (.bin (.bits 0 .u64) (.bin (.bits 5 .u64) (.sel (.var 0) (.bin .add (.bin (.bits 6 .i64) (.var 1) (.lit 64)) (.lit 96)) 0) (.bin .tmod (.var 1) (.lit 64))) (.lit 1)) (.lit 1)) (.fail 20) (.assert (.rng .i64 (.bin .add (.var 1) (.lit 1))) (.assert (.tt (.bin .le (.lit 0) (.bin .add (.var 1) (.lit 1)))) (.assert (.tt (.bin .le (.bin .add (.var 1) (.lit 1)) (.lit 1024))) (.assert (.tt (.bin .le (.lit 0) (.bin .sub (.lit 1024) (.bin .add (.var 1) (.lit 1))))) (.assert (.tt (.bin .lt (.bin .sub (.lit 1024) (.bin .add (.var 1) (.lit 1))) (.bin .sub (.lit 1024) (.var 1)))) .ok))))))))))) .ok))))))))))))))))))))
def tAll7 : Tree := (.assume (.ff (.sel (.var 0) (.lit 112) 0)) (.assume (.ff (.sel (.var 0) (.lit 113) 0)) (.assume (.ff (.sel (.var 0) (.lit 114) 0)) (.assume (.ff (.sel (.var 0) (.lit 115) 0)) (.assume (.ff (.sel (.var 0) (.lit 116) 0)) (.assume (.ff (.sel (.var 0) (.lit 117) 0)) (.assume (.ff (.sel (.var 0) (.lit 118) 0)) (.assume (.ff (.sel (.var 0) (.lit 119) 0)) (.assume (.ff (.sel (.var 0) (.lit 120) 0)) (.assume (.ff (.sel (.var 0) (.lit 121) 0)) (.assume (.ff (.sel (.var 0) (.lit 122) 0)) (.assume (.ff (.sel (.var 0) (.lit 123) 0)) (.assume (.ff (.sel (.var 0) (.lit 124) 0)) (.assume (.ff (.sel (.var 0) (.lit 125) 0)) (.assume (.ff (.sel (.var 0) (.lit 126) 0)) (.assume (.ff (.sel (.var 0) (.lit 127) 0)) (.havoc false (.assume (.tt (.bin .le (.lit 0) (.var 1))) (.assume (.tt (.bin .le (.var 1) (.lit 1024))) (.branch (.bin .lt (.var 1) (.lit 1024)) (.assert (.tt (.bin .le (.lit 0) (.bin (.bits 6 .i64) (.var 1) (.lit 64)))) (.assert (.tt (.bin .lt (.bin (.bits 6 .i64) (.var 1) (.lit 64)) (.lit 16))) (.assert (.tt (.bin .le (.lit 0) (.bin .add (.bin (.bits 6 .i64) (.var 1) (.lit 64)) (.lit 112)))) (.assert (.tt (.bin .lt (.bin .add (.bin (.bits 6 .i64) (.var 1) (.lit 64)) (.lit 112)) (.lit 352))) (.assert (.tt (.bin .le (.lit 0) (.bin .tmod (.var 1) (.lit 64)))) (.branch (.bin .eq (.bin (.bits 0 .u64) (.bin (.bits 5 .u64) (.sel (.var 0) (.bin .add (.bin (.bits 6 .i64) (.var 1) (.lit 64)) (.lit 112)) 0) (.bin .tmod (.var 1) (.lit 64))) (.lit 1)) (.lit 1)) (.fail 20) (.assert (.rng .i64 (.bin .add (.var 1) (.lit 1))) (.assert (.tt (.bin .le (.lit 0) (.bin .add (.var 1) (.lit 1)))) (.assert (.tt (.bin .le (.bin .add (.var 1) (.lit 1)) (.lit 1024))) (.assert (.tt (.bin .le (.lit 0) (.bin .sub (.lit 1024) (.bin .add (.var 1) (.lit 1))))) (.assert (.tt (.bin .lt (.bin .sub (.lit 1024) (.bin .add (.var 1) (.lit 1))) (.bin .sub (.lit 1024) (.var 1)))) .ok))))))))))) .ok))))))))))))))))))))
def tAll8 : Tree := (.assume (.ff (.sel (.var 0) (.lit 128) 0)) (.assume (.ff (.sel (.var 0) (.lit 129) 0)) (.assume (.ff (.sel (.var 0) (.lit 130) 0)) (.assume (.ff (.sel (.var 0) (.lit 131) 0)) (.assume (.ff (.sel (.var 0) (.lit 132) 0)) (.assume (.ff (.sel (.var 0) (.lit 133) 0)) (.assume (.ff (.sel (.var 0) (.lit 134) 0)) (.assume (.ff (.sel (.var 0) (.lit 135) 0)) (.assume (.ff (.sel (.var 0) (.lit 136) 0)) (.assume (.ff (.sel (.var 0) (.lit 137) 0)) (.assume (.ff (.sel (.var 0) (.lit 138) 0)) (.assume (.ff (.sel (.var 0) (.lit 139) 0)) (.assume (.ff (.sel (.var 0) (.lit 140) 0)) (.assume (.ff (.sel (.var 0) (.lit 141) 0)) (.assume (.ff (.sel (.var 0) (.lit 142) 0)) (.assume (.ff (.sel (.var 0) (.lit 143) 0)) (.havoc false (.assume (.tt (.bin .le (.lit 0) (.var 1))) (.assume (.tt (.bin .le (.var 1) (.lit 1024))) (.branch (.bin .lt (.var 1) (.lit 1024)) (.assert (.tt (.bin .le (.lit 0) (.bin (.bits 6 .i64) (.var 1) (.lit 64)))) (.assert (.tt (.bin .lt (.bin (.bits 6 .i64) (.var 1) (.lit 64)) (.lit 16))) (.assert (.tt (.bin .le (.lit 0) (.bin .add (.bin (.bits 6 .i64) (.var 1) (.lit 64)) (.lit 128)))) (.assert (.tt (.bin .lt (.bin .add (.bin (.bits 6 .i64) (.var 1) (.lit 64)) (.lit 128)) (.lit 352))) (.assert (.tt (.bin .le (.lit 0) (.bin .tmod (.var 1) (.lit 64)))) (.branch (.bin .eq (.bin (.bits 0 .u64) (.bin (.bits 5 .u64) (.sel (.var 0) (.bin .add (.bin (.bits 6 .i64) (.var 1) (.lit 64)) (.lit 128)) 0) (.bin .tmod (.var 1) (.lit 64))) (.lit 1)) (.lit 1)) (.fail 20) (.assert (.rng .i64 (.bin .add (.var 1) (.lit 1))) (.assert (.tt (.bin .le (.lit 0) (.bin .add (.var 1) (.lit 1)))) (.assert (.tt (.bin .le (.bin .add (.var 1) (.lit 1)) (.lit 1024))) (.assert (.tt (.bin .le (.lit 0) (.bin .sub (.lit 1024) (.bin .add (.var 1) (.lit 1))))) (.assert (.tt (.bin .lt (.bin .sub (.lit 1024) (.bin .add (.var 1) (.lit 1))) (.bin .sub (.lit 1024) (.var 1)))) .ok))))))))))) .ok))))))))))))))))))))
def tAll9 : Tree := (.assume (.ff (.sel (.var 0) (.lit 144) 0)) (.assume (.ff (.sel (.var 0) (.lit 145) 0)) (.assume (.ff (.sel (.var 0) (.lit 146) 0)) (.assume (.ff (.sel (.var 0) (.lit 147) 0)) (.assume (.ff (.sel (.var 0) (.lit 148) 0)) (.assume (.ff (.sel (.var 0) (.lit 149) 0)) (.assume (.ff (.sel (.var 0) (.lit 150) 0)) (.assume (.ff (.sel (.var 0) (.lit 151) 0)) (.assume (.ff (.sel (.var 0) (.lit 152) 0)) (.assume (.ff (.sel (.var 0) (.lit 153) 0)) (.assume (.ff (.sel (.var 0) (.lit 154) 0)) (.assume (.ff (.sel (.var 0) (.lit 155) 0)) (.assume (.ff (.sel (.var 0) (.lit 156) 0)) (.assume (.ff (.sel (.var 0) (.lit 157) 0)) (.assume (.ff (.sel (.var 0) (.lit 158) 0)) (.assume (.ff (.sel (.var 0) (.lit 159) 0)) (.havoc false (.assume (.tt (.bin .le (.lit 0) (.var 1))) (.assume (.tt (.bin .le (.var 1) (.lit 1024))) (.branch (.bin .lt (.var 1) (.lit 1024)) (.assert (.tt (.bin .le (.lit 0) (.bin (.bits 6 .i64) (.var 1) (.lit 64)))) (.assert (.tt (.bin .lt (.bin (.bits 6 .i64) (.var 1) (.lit 64)) (.lit 16))) (.assert (.tt (.bin .le (.lit 0) (.bin .add (.bin (.bits 6 .i64) (.var 1) (.lit 64)) (.lit 144)))) (.assert (.tt (.bin .lt (.bin .add (.bin (.bits 6 .i64) (.var 1) (.lit 64)) (.lit 144)) (.lit 352))) (.assert (.tt (.bin .le (.lit 0) (.bin .tmod (.var 1) (.lit 64)))) (.branch (.bin .eq (.bin (.bits 0 .u64) (.bin (.bits 5 .u64) (.sel (.var 0) (.bin .add (.bin (.bits 6 .i64) (.var 1) (.lit 64)) (.lit 144)) 0) (.bin .tmod (.var 1) (.lit 64))) (.lit 1)) (.lit 1)) (.fail 20) (.assert (.rng .i64 (.bin .add (.var 1) (.lit 1))) (.assert (.tt (.bin .le (.lit 0) (.bin .add (.var 1) (.lit 1)))) (.assert (.tt (.bin .le (.bin .add (.var 1) (.lit 1)) (.lit 1024))) (.assert (.tt (.bin .le (.lit 0) (.bin .sub (.lit 1024) (.bin .add (.var 1) (.lit 1))))) (.assert (.tt (.bin .lt (.bin .sub (.lit 1024) (.bin .add (.var 1) (.lit 1))) (.bin .sub (.lit 1024) (.var 1)))) .ok))))))))))) .ok))))))))))))))))))))
def tAll10 : Tree := (.assume (.ff (.sel (.var 0) (.lit 160) 0)) (.assume (.ff (.sel (.var 0) (.lit 161) 0)) (.assume (.ff (.sel (.var 0) (.lit 162) 0)) (.assume (.ff (.sel (.var 0) (.lit 163) 0)) (.assume (.ff (.sel (.var 0) (.lit 164) 0)) (.assume (.ff (.sel (.var 0) (.lit 165) 0)) (.assume (.ff (.sel (.var 0) (.lit 166) 0)) (.assume (.ff (.sel (.var 0) (.lit 167) 0)) (.assume (.ff (.sel (.var 0) (.lit 168) 0)) (.assume (.ff (.sel (.var 0) (.lit 169) 0)) (.assume (.ff (.sel (.var 0) (.lit 170) 0)) (.assume (.ff (.sel (.var 0) (.lit 171) 0)) (.assume (.ff (.sel (.var 0) (.lit 172) 0)) (.assume (.ff (.sel (.var 0) (.lit 173) 0)) (.assume (.ff (.sel (.var 0) (.lit 174) 0)) (.assume (.ff (.sel (.var 0) (.lit 175) 0)) (.havoc false (.assume (.tt (.bin .le (.lit 0) (.var 1))) (.assume (.tt (.bin .le (.var 1) (.lit 1024))) (.branch (.bin .lt (.var 1) (.lit 1024)) (.assert (.tt (.bin .le (.lit 0) (.bin (.bits 6 .i64) (.var 1) (.lit 64)))) (.assert (.tt (.bin .lt (.bin (.bits 6 .i64) (.var 1) (.lit 64)) (.lit 16))) (.assert (.tt (.bin .le (.lit 0) (.bin .add (.bin (.bits 6 .i64) (.var 1) (.lit 64)) (.lit 160)))) (.assert (.tt (.bin .lt (.bin .add (.bin (.bits 6 .i64) (.var 1) (.lit 64)) (.lit 160)) (.lit 352))) (.assert (.tt (.bin .le (.lit 0) (.bin .tmod (.var 1) (.lit 64)))) (.branch (.bin .eq (.bin (.bits 0 .u64) (.bin (.bits 5 .u64) (.sel (.var 0) (.bin .add (.bin (.bits 6 .i64) (.var 1) (.lit 64)) (.lit 160)) 0) (.bin .tmod (.var 1) (.lit 64))) (.lit 1)) (.lit 1)) (.fail 20) (.assert (.rng .i64 (.bin .add (.var 1) (.lit 1))) (.assert (.tt (.bin .le (.lit 0) (.bin .add (.var 1) (.lit 1)))) (.assert (.tt (.bin .le (.bin .add (.var 1) (.lit 1)) (.lit 1024))) (.assert (.tt (.bin .le (.lit 0) (.bin .sub (.lit 1024) (.bin .add (.var 1) (.lit 1))))) (.assert (.tt (.bin .lt (.bin .sub (.lit 1024) (.bin .add (.var 1) (.lit 1))) (.bin .sub (.lit 1024) (.var 1)))) .ok))))))))))) .ok))))))))))))))))))))
def tAll11 : Tree := (.assume (.ff (.sel (.var 0) (.lit 176) 0)) (.assume (.ff (.sel (.var 0) (.lit 177) 0)) (.assume (.ff (.sel (.var 0) (.lit 178) 0)) (.assume (.ff (.sel (.var 0) (.lit 179) 0)) (.assume (.ff (.sel (.var 0) (.lit 180) 0)) (.assume (.ff (.sel (.var 0) (.lit 181) 0)) (.assume (.ff (.sel (.var 0) (.lit 182) 0)) (.assume (.ff (.sel (.var 0) (.lit 183) 0)) (.assume (.ff (.sel (.var 0) (.lit 184) 0)) (.assume (.ff (.sel (.var 0) (.lit 185) 0)) (.assume (.ff (.sel (.var 0) (.lit 186) 0)) (.assume (.ff (.sel (.var 0) (.lit 187) 0)) (.assume (.ff (.sel (.var 0) (.lit 188) 0)) (.assume (.ff (.sel (.var 0) (.lit 189) 0)) (.assume (.ff (.sel (.var 0) (.lit 190) 0)) (.assume (.ff (.sel (.var 0) (.lit 191) 0)) (.havoc false (.assume (.tt (.bin .le (.lit 0) (.var 1))) (.assume (.tt (.bin .le (.var 1) (.lit 1024))) (.branch (.bin .lt (.var 1) (.lit 1024)) (.assert (.tt (.bin .le (.lit 0) (.bin (.bits 6 .i64) (.var 1) (.lit 64)))) (.assert (.tt (.bin .lt (.bin (.bits 6 .i64) (.var 1) (.lit 64)) (.lit 16))) (.assert (.tt (.bin .le (.lit 0) (.bin .add (.bin (.bits 6 .i64) (.var 1) (.lit 64)) (.lit 176)))) (.assert (.tt (.bin .lt (.bin .add (.bin (.bits 6 .i64) (.var 1) (.lit 64)) (.lit 176)) (.lit 352))) (.assert (.tt (.bin .le (.lit 0) (.bin .tmod (.var 1) (.lit 64)))) (.branch (.bin .eq (.bin (.bits 0 .u64) (.bin (.bits 5 .u64) (.sel (.var 0) (.bin .add (.bin (.bits 6 .i64) (.var 1) (.lit 64)) (.lit 176)) 0) (.bin .tmod (.var 1) (.lit 64))) (.lit 1)) (.lit 1)) (.fail 20) (.assert (.rng .i64 (.bin .add (.var 1) (.lit 1))) (.assert (.tt (.bin .le (.lit 0) (.bin .add (.var 1) (.lit 1)))) (.assert (.tt (.bin .le (.bin .add (.var 1) (.lit 1)) (.lit 1024))) (.assert (.tt (.bin .le (.lit 0) (.bin .sub (.lit 1024) (.bin .add (.var 1) (.lit 1))))) (.assert (.tt (.bin .lt (.bin .sub (.lit 1024) (.bin .add (.var 1) (.lit 1))) (.bin .sub (.lit 1024) (.var 1)))) .ok))))))))))) .ok))))))))))))))))))))
def tAll12 : Tree := (.assume (.ff (.sel (.var 0) (.lit 192) 0)) (.assume (.ff (.sel (.var 0) (.lit 193) 0)) (.assume (.ff (.sel (.var 0) (.lit 194) 0)) (.assume (.ff (.sel (.var 0) (.lit 195) 0)) (.assume (.ff (.sel (.var 0) (.lit 196) 0)) (.assume (.ff (.sel (.var 0) (.lit 197) 0)) (.assume (.ff (.sel (.var 0) (.lit 198) 0)) (.assume (.ff (.sel (.var 0) (.lit 199) 0)) (.assume (.ff (.sel (.var 0) (.lit 200) 0)) (.assume (.ff (.sel (.var 0) (.lit 201) 0)) (.assume (.ff (.sel (.var 0) (.lit 202) 0)) (.assume (.ff (.sel (.var 0) (.lit 203) 0)) (.assume (.ff (.sel (.var 0) (.lit 204) 0)) (.assume (.ff (.sel (.var 0) (.lit 205) 0)) (.assume (.ff (.sel (.var 0) (.lit 206) 0)) (.assume (.ff (.sel (.var 0) (.lit 207) 0)) (.havoc false (.assume (.tt (.bin .le (.lit 0) (.var 1))) (.assume (.tt (.bin .le (.var 1) (.lit 1024))) (.branch (.bin .lt (.var 1) (.lit 1024)) (.assert (.tt (.bin .le (.lit 0) (.bin (.bits 6 .i64) (.var 1) (.lit 64)))) (.assert (.tt (.bin .lt (.bin (.bits 6 .i64) (.var 1) (.lit 64)) (.lit 16))) (.assert (.tt (.bin .le (.lit 0) (.bin .add (.bin (.bits 6 .i64) (.var 1) (.lit 64)) (.lit 192)))) (.assert (.tt (.bin .lt (.bin .add (.bin (.bits 6 .i64) (.var 1) (.lit 64)) (.lit 192)) (.lit 352))) (.assert (.tt (.bin .le (.lit 0) (.bin .tmod (.var 1) (.lit 64)))) (.branch (.bin .eq (.bin (.bits 0 .u64) (.bin (.bits 5 .u64) (.sel (.var 0) (.bin .add (.bin (.bits 6 .i64) (.var 1) (.lit 64)) (.lit 192)) 0) (.bin .tmod (.var 1) (.lit 64))) (.lit 1)) (.lit 1)) (.fail 20) (.assert (.rng .i64 (.bin .add (.var 1) (.lit 1))) (.assert (.tt (.bin .le (.lit 0) (.bin .add (.var 1) (.lit 1)))) (.assert (.tt (.bin .le (.bin .add (.var 1) (.lit 1)) (.lit 1024))) (.assert (.tt (.bin .le (.lit 0) (.bin .sub (.lit 1024) (.bin .add (.var 1) (.lit 1))))) (.assert (.tt (.bin .lt (.bin .sub (.lit 1024) (.bin .add (.var 1) (.lit 1))) (.bin .sub (.lit 1024) (.var 1)))) .ok))))))))))) .ok))))))))))))))))))))
def tAll13 : Tree := (.assume (.ff (.sel (.var 0) (.lit 208) 0)) (.assume (.ff (.sel (.var 0) (.lit 209) 0)) (.assume (.ff (.sel (.var 0) (.lit 210) 0)) (.assume (.ff (.sel (.var 0) (.lit 211) 0)) (.assume (.ff (.sel (.var 0) (.lit 212) 0)) (.assume (.ff (.sel (.var 0) (.lit 213) 0)) (.assume (.ff (.sel (.var 0) (.lit 214) 0)) (.assume (.ff (.sel (.var 0) (.lit 215) 0)) (.assume (.ff (.sel (.var 0) (.lit 216) 0)) (.assume (.ff (.sel (.var 0) (.lit 217) 0)) (.assume (.ff (.sel (.var 0) (.lit 218) 0)) (.assume (.ff (.sel (.var 0) (.lit 219) 0)) (.assume (.ff (.sel (.var 0) (.lit 220) 0)) (.assume (.ff (.sel (.var 0) (.lit 221) 0)) (.assume (.ff (.sel (.var 0) (.lit 222) 0)) (.assume (.ff (.sel (.var 0) (.lit 223) 0)) (.havoc false (.assume (.tt (.bin .le (.lit 0) (.var 1))) (.assume (.tt (.bin .le (.var 1) (.lit 1024))) (.branch (.bin .lt (.var 1) (.lit 1024)) (.assert (.tt (.bin .le (.lit 0) (.bin (.bits 6 .i64) (.var 1) (.lit 64)))) (.assert (.tt (.bin .lt (.bin (.bits 6 .i64) (.var 1) (.lit 64)) (.lit 16))) (.assert (.tt (.bin .le (.lit 0) (.bin .add (.bin (.bits 6 .i64) (.var 1) (.lit 64)) (.lit 208)))) (.assert (.tt (.bin .lt (.bin .add (.bin (.bits 6 .i64) (.var 1) (.lit 64)) (.lit 208)) (.lit 352))) (.assert (.tt (.bin .le (.lit 0) (.bin .tmod (.var 1) (.lit 64)))) (.branch (.bin .eq (.bin (.bits 0 .u64) (.bin (.bits 5 .u64) (.sel (.var 0) (.bin .add (.bin (.bits 6 .i64) (.var 1) (.lit 64)) (.lit 208)) 0) (.bin .tmod (.var 1) (.lit 64))) (.lit 1)) (.lit 1)) (.fail 20) (.assert (.rng .i64 (.bin .add (.var 1) (.lit 1))) (.assert (.tt (.bin .le (.lit 0) (.bin .add (.var 1) (.lit 1)))) (.assert (.tt (.bin .le (.bin .add (.var 1) (.lit 1)) (.lit 1024))) (.assert (.tt (.bin .le (.lit 0) (.bin .sub (.lit 1024) (.bin .add (.var 1) (.lit 1))))) (.assert (.tt (.bin .lt (.bin .sub (.lit 1024) (.bin .add (.var 1) (.lit 1))) (.bin .sub (.lit 1024) (.var 1)))) .ok))))))))))) .ok))))))))))))))))))))
def tAll14 : Tree := (.assume (.ff (.sel (.var 0) (.lit 224) 0)) (.assume (.ff (.sel (.var 0) (.lit 225) 0)) (.assume (.ff (.sel (.var 0) (.lit 226) 0)) (.assume (.ff (.sel (.var 0) (.lit 227) 0)) (.assume (.ff (.sel (.var 0) (.lit 228) 0)) (.assume (.ff (.sel (.var 0) (.lit 229) 0)) (.assume (.ff (.sel (.var 0) (.lit 230) 0)) (.assume (.ff (.sel (.var 0) (.lit 231) 0)) (.assume (.ff (.sel (.var 0) (.lit 232) 0)) (.assume (.ff (.sel (.var 0) (.lit 233) 0)) (.assume (.ff (.sel (.var 0) (.lit 234) 0)) (.assume (.ff (.sel (.var 0) (.lit 235) 0)) (.assume (.ff (.sel (.var 0) (.lit 236) 0)) (.assume (.ff (.sel (.var 0) (.lit 237) 0)) (.assume (.ff (.sel (.var 0) (.lit 238) 0)) (.assume (.ff (.sel (.var 0) (.lit 239) 0)) (.havoc false (.assume (.tt (.bin .le (.lit 0) (.var 1))) (.assume (.tt (.bin .le (.var 1) (.lit 1024))) (.branch (.bin .lt (.var 1) (.lit 1024)) (.assert (.tt (.bin .le (.lit 0) (.bin (.bits 6 .i64) (.var 1) (.lit 64)))) (.assert (.tt (.bin .lt (.bin (.bits 6 .i64) (.var 1) (.lit 64)) (.lit 16))) (.assert (.tt (.bin .le (.lit 0) (.bin .add (.bin (.bits 6 .i64) (.var 1) (.lit 64)) (.lit 224)))) (.assert (.tt (.bin .lt (.bin .add (.bin (.bits 6 .i64) (.var 1) (.lit 64)) (.lit 224)) (.lit 352))) (.assert (.tt (.bin .le (.lit 0) (.bin .tmod (.var 1) (.lit 64)))) (.branch (.bin .eq (.bin (.bits 0 .u64) (.bin (.bits 5 .u64) (.sel (.var 0) (.bin .add (.bin (.bits 6 .i64) (.var 1) (.lit 64)) (.lit 224)) 0) (.bin .tmod (.var 1) (.lit 64))) (.lit 1)) (.lit 1)) (.fail 20) (.assert (.rng .i64 (.bin .add (.var 1) (.lit 1))) (.assert (.tt (.bin .le (.lit 0) (.bin .add (.var 1) (.lit 1)))) (.assert (.tt (.bin .le (.bin .add (.var 1) (.lit 1)) (.lit 1024))) (.assert (.tt (.bin .le (.lit 0) (.bin .sub (.lit 1024) (.bin .add (.var 1) (.lit 1))))) (.assert (.tt (.bin .lt (.bin .sub (.lit 1024) (.bin .add (.var 1) (.lit 1))) (.bin .sub (.lit 1024) (.var 1)))) .ok))))))))))) .ok))))))))))))))))))))
def tAll15 : Tree := (.assume (.ff (.sel (.var 0) (.lit 240) 0)) (.assume (.ff (.sel (.var 0) (.lit 241) 0)) (.assume (.ff (.sel (.var 0) (.lit 242) 0)) (.assume (.ff (.sel (.var 0) (.lit 243) 0)) (.assume (.ff (.sel (.var 0) (.lit 244) 0)) (.assume (.ff (.sel (.var 0) (.lit 245) 0)) (.assume (.ff (.sel (.var 0) (.lit 246) 0)) (.assume (.ff (.sel (.var 0) (.lit 247) 0)) (.assume (.ff (.sel (.var 0) (.lit 248) 0)) (.assume (.ff (.sel (.var 0) (.lit 249) 0)) (.assume (.ff (.sel (.var 0) (.lit 250) 0)) (.assume (.ff (.sel (.var 0) (.lit 251) 0)) (.assume (.ff (.sel (.var 0) (.lit 252) 0)) (.assume (.ff (.sel (.var 0) (.lit 253) 0)) (.assume (.ff (.sel (.var 0) (.lit 254) 0)) (.assume (.ff (.sel (.var 0) (.lit 255) 0)) (.havoc false (.assume (.tt (.bin .le (.lit 0) (.var 1))) (.assume (.tt (.bin .le (.var 1) (.lit 1024))) (.branch (.bin .lt (.var 1) (.lit 1024)) (.assert (.tt (.bin .le (.lit 0) (.bin (.bits 6 .i64) (.var 1) (.lit 64)))) (.assert (.tt (.bin .lt (.bin (.bits 6 .i64) (.var 1) (.lit 64)) (.lit 16))) (.assert (.tt (.bin .le (.lit 0) (.bin .add (.bin (.bits 6 .i64) (.var 1) (.lit 64)) (.lit 240)))) (.assert (.tt (.bin .lt (.bin .add (.bin (.bits 6 .i64) (.var 1) (.lit 64)) (.lit 240)) (.lit 352))) (.assert (.tt (.bin .le (.lit 0) (.bin .tmod (.var 1) (.lit 64)))) (.branch (.bin .eq (.bin (.bits 0 .u64) (.bin (.bits 5 .u64) (.sel (.var 0) (.bin .add (.bin (.bits 6 .i64) (.var 1) (.lit 64)) (.lit 240)) 0) (.bin .tmod (.var 1) (.lit 64))) (.lit 1)) (.lit 1)) (.fail 20) (.assert (.rng .i64 (.bin .add (.var 1) (.lit 1))) (.assert (.tt (.bin .le (.lit 0) (.bin .add (.var 1) (.lit 1)))) (.assert (.tt (.bin .le (.bin .add (.var 1) (.lit 1)) (.lit 1024))) (.assert (.tt (.bin .le (.lit 0) (.bin .sub (.lit 1024) (.bin .add (.var 1) (.lit 1))))) (.assert (.tt (.bin .lt (.bin .sub (.lit 1024) (.bin .add (.var 1) (.lit 1))) (.bin .sub (.lit 1024) (.var 1)))) .ok))))))))))) .ok))))))))))))))))))))
def tAll16 : Tree := (.assume (.ff (.sel (.var 0) (.lit 256) 0)) (.assume (.ff (.sel (.var 0) (.lit 257) 0)) (.assume (.ff (.sel (.var 0) (.lit 258) 0)) (.assume (.ff (.sel (.var 0) (.lit 259) 0)) (.assume (.ff (.sel (.var 0) (.lit 260) 0)) (.assume (.ff (.sel (.var 0) (.lit 261) 0)) (.assume (.ff (.sel (.var 0) (.lit 262) 0)) (.assume (.ff (.sel (.var 0) (.lit 263) 0)) (.assume (.ff (.sel (.var 0) (.lit 264) 0)) (.assume (.ff (.sel (.var 0) (.lit 265) 0)) (.assume (.ff (.sel (.var 0) (.lit 266) 0)) (.assume (.ff (.sel (.var 0) (.lit 267) 0)) (.assume (.ff (.sel (.var 0) (.lit 268) 0)) (.assume (.ff (.sel (.var 0) (.lit 269) 0)) (.assume (.ff (.sel (.var 0) (.lit 270) 0)) (.assume (.ff (.sel (.var 0) (.lit 271) 0)) (.havoc false (.assume (.tt (.bin .le (.lit 0) (.var 1))) (.assume (.tt (.bin .le (.var 1) (.lit 1024))) (.branch (.bin .lt (.var 1) (.lit 1024)) (.assert (.tt (.bin .le (.lit 0) (.bin (.bits 6 .i64) (.var 1) (.lit 64)))) (.assert (.tt (.bin .lt (.bin (.bits 6 .i64) (.var 1) (.lit 64)) (.lit 16))) (.assert (.tt (.bin .le (.lit 0) (.bin .add (.bin (.bits 6 .i64) (.var 1) (.lit 64)) (.lit 256)))) (.assert (.tt (.bin .lt (.bin .add (.bin (.bits 6 .i64) (.var 1) (.lit 64)) (.lit 256)) (.lit 352))) (.assert (.tt (.bin .le (.lit 0) (.bin .tmod (.var 1) (.lit 64)))) (.branch (.bin .eq (.bin (.bits 0 .u64) (.bin (.bits 5 .u64) (.sel (.var 0) (.bin .add (.bin (.bits 6 .i64) (.var 1) (.lit 64)) (.lit 256)) 0) (.bin .tmod (.var 1) (.lit 64))) (.lit 1)) (.lit 1)) (.fail 20) (.assert (.rng .i64 (.bin .add (.var 1) (.lit 1))) (.assert (.tt (.bin .le (.lit 0) (.bin .add (.var 1) (.lit 1)))) (.assert (.tt (.bin .le (.bin .add (.var 1) (.lit 1)) (.lit 1024))) (.assert (.tt (.bin .le (.lit 0) (.bin .sub (.lit 1024) (.bin .add (.var 1) (.lit 1))))) (.assert (.tt (.bin .lt (.bin .sub (.lit 1024) (.bin .add (.var 1) (.lit 1))) (.bin .sub (.lit 1024) (.var 1)))) .ok))))))))))) .ok))))))))))))))))))))
def tAll17 : Tree := (.assume (.ff (.sel (.var 0) (.lit 272) 0)) (.assume (.ff (.sel (.var 0) (.lit 273) 0)) (.assume (.ff (.sel (.var 0) (.lit 274) 0)) (.assume (.ff (.sel (.var 0) (.lit 275) 0)) (.assume (.ff (.sel (.var 0) (.lit 276) 0)) (.assume (.ff (.sel (.var 0) (.lit 277) 0)) (.assume (.ff (.sel (.var 0) (.lit 278) 0)) (.assume (.ff (.sel (.var 0) (.lit 279) 0)) (.assume (.ff (.sel (.var 0) (.lit 280) 0)) (.assume (.ff (.sel (.var 0) (.lit 281) 0)) (.assume (.ff (.sel (.var 0) (.lit 282) 0)) (.assume (.ff (.sel (.var 0) (.lit 283) 0)) (.assume (.ff (.sel (.var 0) (.lit 284) 0)) (.assume (.ff (.sel (.var 0) (.lit 285) 0)) (.assume (.ff (.sel (.var 0) (.lit 286) 0)) (.assume (.ff (.sel (.var 0) (.lit 287) 0)) (.havoc false (.assume (.tt (.bin .le (.lit 0) (.var 1))) (.assume (.tt (.bin .le (.var 1) (.lit 1024))) (.branch (.bin .lt (.var 1) (.lit 1024)) (.assert (.tt (.bin .le (.lit 0) (.bin (.bits 6 .i64) (.var 1) (.lit 64)))) (.assert (.tt (.bin .lt (.bin (.bits 6 .i64) (.var 1) (.lit 64)) (.lit 16))) (.assert (.tt (.bin .le (.lit 0) (.bin .add (.bin (.bits 6 .i64) (.var 1) (.lit 64)) (.lit 272)))) (.assert (.tt (.bin .lt (.bin .add (.bin (.bits 6 .i64) (.var 1) (.lit 64)) (.lit 272)) (.lit 352))) (.assert (.tt (.bin .le (.lit 0) (.bin .tmod (.var 1) (.lit 64)))) (.branch (.bin .eq (.bin (.bits 0 .u64) (.bin (.bits 5 .u64) (.sel (.var 0) (.bin .add (.bin (.bits 6 .i64) (.var 1) (.lit 64)) (.lit 272)) 0) (.bin .tmod (.var 1) (.lit 64))) (.lit 1)) (.lit 1)) (.fail 20) (.assert (.rng .i64 (.bin .add (.var 1) (.lit 1))) (.assert (.tt (.bin .le (.lit 0) (.bin .add (.var 1) (.lit 1)))) (.assert (.tt (.bin .le (.bin .add (.var 1) (.lit 1)) (.lit 1024))) (.assert (.tt (.bin .le (.lit 0) (.bin .sub (.lit 1024) (.bin .add (.var 1) (.lit 1))))) (.assert (.tt (.bin .lt (.bin .sub (.lit 1024) (.bin .add (.var 1) (.lit 1))) (.bin .sub (.lit 1024) (.var 1)))) .ok))))))))))) .ok))))))))))))))))))))
def tAll18 : Tree := (.assume (.ff (.sel (.var 0) (.lit 288) 0)) (.assume (.ff (.sel (.var 0) (.lit 289) 0)) (.assume (.ff (.sel (.var 0) (.lit 290) 0)) (.assume (.ff (.sel (.var 0) (.lit 291) 0)) (.assume (.ff (.sel (.var 0) (.lit 292) 0)) (.assume (.ff (.sel (.var 0) (.lit 293) 0)) (.assume (.ff (.sel (.var 0) (.lit 294) 0)) (.assume (.ff (.sel (.var 0) (.lit 295) 0)) (.assume (.ff (.sel (.var 0) (.lit 296) 0)) (.assume (.ff (.sel (.var 0) (.lit 297) 0)) (.assume (.ff (.sel (.var 0) (.lit 298) 0)) (.assume (.ff (.sel (.var 0) (.lit 299) 0)) (.assume (.ff (.sel (.var 0) (.lit 300) 0)) (.assume (.ff (.sel (.var 0) (.lit 301) 0)) (.assume (.ff (.sel (.var 0) (.lit 302) 0)) (.assume (.ff (.sel (.var 0) (.lit 303) 0)) (.havoc false (.assume (.tt (.bin .le (.lit 0) (.var 1))) (.assume (.tt (.bin .le (.var 1) (.lit 1024))) (.branch (.bin .lt (.var 1) (.lit 1024)) (.assert (.tt (.bin .le (.lit 0) (.bin (.bits 6 .i64) (.var 1) (.lit 64)))) (.assert (.tt (.bin .lt (.bin (.bits 6 .i64) (.var 1) (.lit 64)) (.lit 16))) (.assert (.tt (.bin .le (.lit 0) (.bin .add (.bin (.bits 6 .i64) (.var 1) (.lit 64)) (.lit 288)))) (.assert (.tt (.bin .lt (.bin .add (.bin (.bits 6 .i64) (.var 1) (.lit 64)) (.lit 288)) (.lit 352))) (.assert (.tt (.bin .le (.lit 0) (.bin .tmod (.var 1) (.lit 64)))) (.branch (.bin .eq (.bin (.bits 0 .u64) (.bin (.bits 5 .u64) (.sel (.var 0) (.bin .add (.bin (.bits 6 .i64) (.var 1) (.lit 64)) (.lit 288)) 0) (.bin .tmod (.var 1) (.lit 64))) (.lit 1)) (.lit 1)) (.fail 20) (.assert (.rng .i64 (.bin .add (.var 1) (.lit 1))) (.assert (.tt (.bin .le (.lit 0) (.bin .add (.var 1) (.lit 1)))) (.assert (.tt (.bin .le (.bin .add (.var 1) (.lit 1)) (.lit 1024))) (.assert (.tt (.bin .le (.lit 0) (.bin .sub (.lit 1024) (.bin .add (.var 1) (.lit 1))))) (.assert (.tt (.bin .lt (.bin .sub (.lit 1024) (.bin .add (.var 1) (.lit 1))) (.bin .sub (.lit 1024) (.var 1)))) .ok))))))))))) .ok))))))))))))))))))))
def tAll19 : Tree := (.assume (.ff (.sel (.var 0) (.lit 304) 0)) (.assume (.ff (.sel (.var 0) (.lit 305) 0)) (.assume (.ff (.sel (.var 0) (.lit 306) 0)) (.assume (.ff (.sel (.var 0) (.lit 307) 0)) (.assume (.ff (.sel (.var 0) (.lit 308) 0)) (.assume (.ff (.sel (.var 0) (.lit 309) 0)) (.assume (.ff (.sel (.var 0) (.lit 310) 0)) (.assume (.ff (.sel (.var 0) (.lit 311) 0)) (.assume (.ff (.sel (.var 0) (.lit 312) 0)) (.assume (.ff (.sel (.var 0) (.lit 313) 0)) (.assume (.ff (.sel (.var 0) (.lit 314) 0)) (.assume (.ff (.sel (.var 0) (.lit 315) 0)) (.assume (.ff (.sel (.var 0) (.lit 316) 0)) (.assume (.ff (.sel (.var 0) (.lit 317) 0)) (.assume (.ff (.sel (.var 0) (.lit 318) 0)) (.assume (.ff (.sel (.var 0) (.lit 319) 0)) (.havoc false (.assume (.tt (.bin .le (.lit 0) (.var 1))) (.assume (.tt (.bin .le (.var 1) (.lit 1024))) (.branch (.bin .lt (.var 1) (.lit 1024)) (.assert (.tt (.bin .le (.lit 0) (.bin (.bits 6 .i64) (.var 1) (.lit 64)))) (.assert (.tt (.bin .lt (.bin (.bits 6 .i64) (.var 1) (.lit 64)) (.lit 16))) (.assert (.tt (.bin .le (.lit 0) (.bin .add (.bin (.bits 6 .i64) (.var 1) (.lit 64)) (.lit 304)))) (.assert (.tt (.bin .lt (.bin .add (.bin (.bits 6 .i64) (.var 1) (.lit 64)) (.lit 304)) (.lit 352))) (.assert (.tt (.bin .le (.lit 0) (.bin .tmod (.var 1) (.lit 64)))) (.branch (.bin .eq (.bin (.bits 0 .u64) (.bin (.bits 5 .u64) (.sel (.var 0) (.bin .add (.bin (.bits 6 .i64) (.var 1) (.lit 64)) (.lit 304)) 0) (.bin .tmod (.var 1) (.lit 64))) (.lit 1)) (.lit 1)) (.fail 20) (.assert (.rng .i64 (.bin .add (.var 1) (.lit 1))) (.assert (.tt (.bin .le (.lit 0) (.bin .add (.var 1) (.lit 1)))) (.assert (.tt (.bin .le (.bin .add (.var 1) (.lit 1)) (.lit 1024))) (.assert (.tt (.bin .le (.lit 0) (.bin .sub (.lit 1024) (.bin .add (.var 1) (.lit 1))))) (.assert (.tt (.bin .lt (.bin .sub (.lit 1024) (.bin .add (.var 1) (.lit 1))) (.bin .sub (.lit 1024) (.var 1)))) .ok))))))))))) .ok))))))))))))))))))))
def tAll20 : Tree := (.assume (.ff (.sel (.var 0) (.lit 320) 0)) (.assume (.ff (.sel (.var 0) (.lit 321) 0)) (.assume (.ff (.sel (.var 0) (.lit 322) 0)) (.assume (.ff (.sel (.var 0) (.lit 323) 0)) (.assume (.ff (.sel (.var 0) (.lit 324) 0)) (.assume (.ff (.sel (.var 0) (.lit 325) 0)) (.assume (.ff (.sel (.var 0) (.lit 326) 0)) (.assume (.ff (.sel (.var 0) (.lit 327) 0)) (.assume (.ff (.sel (.var 0) (.lit 328) 0)) (.assume (.ff (.sel (.var 0) (.lit 329) 0)) (.assume (.ff (.sel (.var 0) (.lit 330) 0)) (.assume (.ff (.sel (.var 0) (.lit 331) 0)) (.assume (.ff (.sel (.var 0) (.lit 332) 0)) (.assume (.ff (.sel (.var 0) (.lit 333) 0)) (.assume (.ff (.sel (.var 0) (.lit 334) 0)) (.assume (.ff (.sel (.var 0) (.lit 335) 0)) (.havoc false (.assume (.tt (.bin .le (.lit 0) (.var 1))) (.assume (.tt (.bin .le (.var 1) (.lit 1024))) (.branch (.bin .lt (.var 1) (.lit 1024)) (.assert (.tt (.bin .le (.lit 0) (.bin (.bits 6 .i64) (.var 1) (.lit 64)))) (.assert (.tt (.bin .lt (.bin (.bits 6 .i64) (.var 1) (.lit 64)) (.lit 16))) (.assert (.tt (.bin .le (.lit 0) (.bin .add (.bin (.bits 6 .i64) (.var 1) (.lit 64)) (.lit 320)))) (.assert (.tt (.bin .lt (.bin .add (.bin (.bits 6 .i64) (.var 1) (.lit 64)) (.lit 320)) (.lit 352))) (.assert (.tt (.bin .le (.lit 0) (.bin .tmod (.var 1) (.lit 64)))) (.branch (.bin .eq (.bin (.bits 0 .u64) (.bin (.bits 5 .u64) (.sel (.var 0) (.bin .add (.bin (.bits 6 .i64) (.var 1) (.lit 64)) (.lit 320)) 0) (.bin .tmod (.var 1) (.lit 64))) (.lit 1)) (.lit 1)) (.fail 20) (.assert (.rng .i64 (.bin .add (.var 1) (.lit 1))) (.assert (.tt (.bin .le (.lit 0) (.bin .add (.var 1) (.lit 1)))) (.assert (.tt (.bin .le (.bin .add (.var 1) (.lit 1)) (.lit 1024))) (.assert (.tt (.bin .le (.lit 0) (.bin .sub (.lit 1024) (.bin .add (.var 1) (.lit 1))))) (.assert (.tt (.bin .lt (.bin .sub (.lit 1024) (.bin .add (.var 1) (.lit 1))) (.bin .sub (.lit 1024) (.var 1)))) .ok))))))))))) .ok))))))))))))))))))))
def tAll21 : Tree := (.assume (.ff (.sel (.var 0) (.lit 336) 0)) (.assume (.ff (.sel (.var 0) (.lit 337) 0)) (.assume (.ff (.sel (.var 0) (.lit 338) 0)) (.assume (.ff (.sel (.var 0) (.lit 339) 0)) (.assume (.ff (.sel (.var 0) (.lit 340) 0)) (.assume (.ff (.sel (.var 0) (.lit 341) 0)) (.assume (.ff (.sel (.var 0) (.lit 342) 0)) (.assume (.ff (.sel (.var 0) (.lit 343) 0)) (.assume (.ff (.sel (.var 0) (.lit 344) 0)) (.assume (.ff (.sel (.var 0) (.lit 345) 0)) (.assume (.ff (.sel (.var 0) (.lit 346) 0)) (.assume (.ff (.sel (.var 0) (.lit 347) 0)) (.assume (.ff (.sel (.var 0) (.lit 348) 0)) (.assume (.ff (.sel (.var 0) (.lit 349) 0)) (.assume (.ff (.sel (.var 0) (.lit 350) 0)) (.assume (.ff (.sel (.var 0) (.lit 351) 0)) (.havoc false (.assume (.tt (.bin .le (.lit 0) (.var 1))) (.assume (.tt (.bin .le (.var 1) (.lit 1024))) (.branch (.bin .lt (.var 1) (.lit 1024)) (.assert (.tt (.bin .le (.lit 0) (.bin (.bits 6 .i64) (.var 1) (.lit 64)))) (.assert (.tt (.bin .lt (.bin (.bits 6 .i64) (.var 1) (.lit 64)) (.lit 16))) (.assert (.tt (.bin .le (.lit 0) (.bin .add (.bin (.bits 6 .i64) (.var 1) (.lit 64)) (.lit 336)))) (.assert (.tt (.bin .lt (.bin .add (.bin (.bits 6 .i64) (.var 1) (.lit 64)) (.lit 336)) (.lit 352))) (.assert (.tt (.bin .le (.lit 0) (.bin .tmod (.var 1) (.lit 64)))) (.branch (.bin .eq (.bin (.bits 0 .u64) (.bin (.bits 5 .u64) (.sel (.var 0) (.bin .add (.bin (.bits 6 .i64) (.var 1) (.lit 64)) (.lit 336)) 0) (.bin .tmod (.var 1) (.lit 64))) (.lit 1)) (.lit 1)) (.fail 20) (.assert (.rng .i64 (.bin .add (.var 1) (.lit 1))) (.assert (.tt (.bin .le (.lit 0) (.bin .add (.var 1) (.lit 1)))) (.assert (.tt (.bin .le (.bin .add (.var 1) (.lit 1)) (.lit 1024))) (.assert (.tt (.bin .le (.lit 0) (.bin .sub (.lit 1024) (.bin .add (.var 1) (.lit 1))))) (.assert (.tt (.bin .lt (.bin .sub (.lit 1024) (.bin .add (.var 1) (.lit 1))) (.bin .sub (.lit 1024) (.var 1)))) .ok))))))))))) .ok))))))))))))))))))))
end Go.Mg
namespace Go.Mg
open Go Go.Sx
variable {I : Itp}
theorem words {f : Int → Nat → Int} {c x : Int} (h : ∀ i : Nat, i < 16 → f (c + i) 0 = 0) (h0 : 0 ≤ x) (h1 : x < 1024) : f (x / 64 + c) 0 = 0 := by
  have := h (x / 64).toNat (by omega)
  rw [← this]; congr 1; omega
theorem vCounts : ∀ ds, Sorts cCounts.sorts ds → tCounts.vc I ds := by
  refine all_t fun T => all_n ?_
  set_option linter.unusedSimpArgs false in
  simp only [tCounts, Tree.vc, PE.den, E.den, dens, BO.ev, List.getElem?_cons_zero, List.getElem?_cons_succ, List.cons_append, List.nil_append, Option.some.injEq, D.i.injEq, D.t.injEq, exists_eq_left', exists_const, forall_const, forall_eq', one_ne, one_eq, zero_ne, zero_eq, min_i64, max_i64, min_u8, max_u8, min_u16, max_u16, min_u32, max_u32, min_u64, max_u64, and_true, true_and]
  intro hT a b c d e x h0 h1 h2 h3 h4 h5 h6 h7 h8 h9 h10 h11
  have hx := hT x
  generalize T x 0 = k at *
  generalize T x 1 = y at *
  clear hT
  refine ⟨fun h => ?_, fun _ => trivial⟩
  repeat' (first | omega | (intro _) | (refine And.intro ?_ ?_) | trivial)
theorem vState : ∀ ds, Sorts cState.sorts ds → tState.vc I ds := by
  refine all_t fun T => all_n ?_
  set_option linter.unusedSimpArgs false in
  simp only [tState, Tree.vc, PE.den, E.den, dens, BO.ev, List.getElem?_cons_zero, List.getElem?_cons_succ, List.cons_append, List.nil_append, Option.some.injEq, D.i.injEq, D.t.injEq, exists_eq_left', exists_const, forall_const, forall_eq', one_ne, one_eq, zero_ne, zero_eq, min_i64, max_i64, min_u8, max_u8, min_u16, max_u16, min_u32, max_u32, min_u64, max_u64, and_true, true_and]
  intro hT x h0 h1
  have hx := hT x
  have hx : T x 0 = 0 := by omega
  rw [hx]
  clear hT
  refine ⟨fun h => ?_, fun _ => trivial⟩
  repeat' (first | omega | (intro _) | (refine And.intro ?_ ?_) | trivial)
theorem vAll0 : ∀ ds, Sorts (cAll 0).sorts ds → tAll0.vc I ds := by
  refine all_t fun T => all_n ?_
  set_option linter.unusedSimpArgs false in
  simp only [tAll0, Tree.vc, PE.den, E.den, dens, BO.ev, List.getElem?_cons_zero, List.getElem?_cons_succ, List.cons_append, List.nil_append, Option.some.injEq, D.i.injEq, D.t.injEq, exists_eq_left', exists_const, forall_const, forall_eq', one_ne, one_eq, zero_ne, zero_eq, min_i64, max_i64, min_u8, max_u8, min_u16, max_u16, min_u32, max_u32, min_u64, max_u64, and_true, true_and]
  intro a0 a1 a2 a3 a4 a5 a6 a7 a8 a9 a10 a11 a12 a13 a14 a15 x h0 h1
  refine ⟨fun h => ?_, fun _ => trivial⟩
  have hw := words (f := T) (c := 0) (x := x) (fun i hi => by
    match i, hi with
    | 0, _ => exact a0 | 1, _ => exact a1 | 2, _ => exact a2 | 3, _ => exact a3 | 4, _ => exact a4 | 5, _ => exact a5 | 6, _ => exact a6 | 7, _ => exact a7
    | 8, _ => exact a8 | 9, _ => exact a9 | 10, _ => exact a10 | 11, _ => exact a11 | 12, _ => exact a12 | 13, _ => exact a13 | 14, _ => exact a14 | 15, _ => exact a15
    | n + 16, hi => omega) h0 h
  rw [quo64 h0 h]; simp only [Int.add_zero] at hw
  rw [hw, bits_zero]
  have hm : x.tmod 64 = x % 64 := Int.tmod_eq_emod_of_nonneg h0
  rw [hm]
  clear a0 a1 a2 a3 a4 a5 a6 a7 a8 a9 a10 a11 a12 a13 a14 a15 hw
  repeat' (first | omega | (intro _) | (refine And.intro ?_ ?_) | trivial)
theorem vAll1 : ∀ ds, Sorts (cAll 1).sorts ds → tAll1.vc I ds := by
  refine all_t fun T => all_n ?_
  set_option linter.unusedSimpArgs false in
  simp only [tAll1, Tree.vc, PE.den, E.den, dens, BO.ev, List.getElem?_cons_zero, List.getElem?_cons_succ, List.cons_append, List.nil_append, Option.some.injEq, D.i.injEq, D.t.injEq, exists_eq_left', exists_const, forall_const, forall_eq', one_ne, one_eq, zero_ne, zero_eq, min_i64, max_i64, min_u8, max_u8, min_u16, max_u16, min_u32, max_u32, min_u64, max_u64, and_true, true_and]
  intro a0 a1 a2 a3 a4 a5 a6 a7 a8 a9 a10 a11 a12 a13 a14 a15 x h0 h1
  refine ⟨fun h => ?_, fun _ => trivial⟩
  have hw := words (f := T) (c := 16) (x := x) (fun i hi => by
    match i, hi with
    | 0, _ => exact a0 | 1, _ => exact a1 | 2, _ => exact a2 | 3, _ => exact a3 | 4, _ => exact a4 | 5, _ => exact a5 | 6, _ => exact a6 | 7, _ => exact a7
    | 8, _ => exact a8 | 9, _ => exact a9 | 10, _ => exact a10 | 11, _ => exact a11 | 12, _ => exact a12 | 13, _ => exact a13 | 14, _ => exact a14 | 15, _ => exact a15
    | n + 16, hi => omega) h0 h
  rw [quo64 h0 h]
  rw [hw, bits_zero]
  have hm : x.tmod 64 = x % 64 := Int.tmod_eq_emod_of_nonneg h0
  rw [hm]
  clear a0 a1 a2 a3 a4 a5 a6 a7 a8 a9 a10 a11 a12 a13 a14 a15 hw
  repeat' (first | omega | (intro _) | (refine And.intro ?_ ?_) | trivial)
theorem vAll2 : ∀ ds, Sorts (cAll 2).sorts ds → tAll2.vc I ds := by
  refine all_t fun T => all_n ?_
  set_option linter.unusedSimpArgs false in
  simp only [tAll2, Tree.vc, PE.den, E.den, dens, BO.ev, List.getElem?_cons_zero, List.getElem?_cons_succ, List.cons_append, List.nil_append, Option.some.injEq, D.i.injEq, D.t.injEq, exists_eq_left', exists_const, forall_const, forall_eq', one_ne, one_eq, zero_ne, zero_eq, min_i64, max_i64, min_u8, max_u8, min_u16, max_u16, min_u32, max_u32, min_u64, max_u64, and_true, true_and]
  intro a0 a1 a2 a3 a4 a5 a6 a7 a8 a9 a10 a11 a12 a13 a14 a15 x h0 h1
  refine ⟨fun h => ?_, fun _ => trivial⟩
  have hw := words (f := T) (c := 32) (x := x) (fun i hi => by
    match i, hi with
    | 0, _ => exact a0 | 1, _ => exact a1 | 2, _ => exact a2 | 3, _ => exact a3 | 4, _ => exact a4 | 5, _ => exact a5 | 6, _ => exact a6 | 7, _ => exact a7
    | 8, _ => exact a8 | 9, _ => exact a9 | 10, _ => exact a10 | 11, _ => exact a11 | 12, _ => exact a12 | 13, _ => exact a13 | 14, _ => exact a14 | 15, _ => exact a15
    | n + 16, hi => omega) h0 h
  rw [quo64 h0 h]
  rw [hw, bits_zero]
  have hm : x.tmod 64 = x % 64 := Int.tmod_eq_emod_of_nonneg h0
  rw [hm]
  clear a0 a1 a2 a3 a4 a5 a6 a7 a8 a9 a10 a11 a12 a13 a14 a15 hw
  repeat' (first | omega | (intro _) | (refine And.intro ?_ ?_) | trivial)
theorem vAll3 : ∀ ds, Sorts (cAll 3).sorts ds → tAll3.vc I ds := by
  refine all_t fun T => all_n ?_
  set_option linter.unusedSimpArgs false in
  simp only [tAll3, Tree.vc, PE.den, E.den, dens, BO.ev, List.getElem?_cons_zero, List.getElem?_cons_succ, List.cons_append, List.nil_append, Option.some.injEq, D.i.injEq, D.t.injEq, exists_eq_left', exists_const, forall_const, forall_eq', one_ne, one_eq, zero_ne, zero_eq, min_i64, max_i64, min_u8, max_u8, min_u16, max_u16, min_u32, max_u32, min_u64, max_u64, and_true, true_and]
  intro a0 a1 a2 a3 a4 a5 a6 a7 a8 a9 a10 a11 a12 a13 a14 a15 x h0 h1
  refine ⟨fun h => ?_, fun _ => trivial⟩
  have hw := words (f := T) (c := 48) (x := x) (fun i hi => by
    match i, hi with
    | 0, _ => exact a0 | 1, _ => exact a1 | 2, _ => exact a2 | 3, _ => exact a3 | 4, _ => exact a4 | 5, _ => exact a5 | 6, _ => exact a6 | 7, _ => exact a7
    | 8, _ => exact a8 | 9, _ => exact a9 | 10, _ => exact a10 | 11, _ => exact a11 | 12, _ => exact a12 | 13, _ => exact a13 | 14, _ => exact a14 | 15, _ => exact a15
    | n + 16, hi => omega) h0 h
  rw [quo64 h0 h]
  rw [hw, bits_zero]
  have hm : x.tmod 64 = x % 64 := Int.tmod_eq_emod_of_nonneg h0
  rw [hm]
  clear a0 a1 a2 a3 a4 a5 a6 a7 a8 a9 a10 a11 a12 a13 a14 a15 hw
  repeat' (first | omega | (intro _) | (refine And.intro ?_ ?_) | trivial)
theorem vAll4 : ∀ ds, Sorts (cAll 4).sorts ds → tAll4.vc I ds := by
  refine all_t fun T => all_n ?_
  set_option linter.unusedSimpArgs false in
  simp only [tAll4, Tree.vc, PE.den, E.den, dens, BO.ev, List.getElem?_cons_zero, List.getElem?_cons_succ, List.cons_append, List.nil_append, Option.some.injEq, D.i.injEq, D.t.injEq, exists_eq_left', exists_const, forall_const, forall_eq', one_ne, one_eq, zero_ne, zero_eq, min_i64, max_i64, min_u8, max_u8, min_u16, max_u16, min_u32, max_u32, min_u64, max_u64, and_true, true_and]
  intro a0 a1 a2 a3 a4 a5 a6 a7 a8 a9 a10 a11 a12 a13 a14 a15 x h0 h1
  refine ⟨fun h => ?_, fun _ => trivial⟩
  have hw := words (f := T) (c := 64) (x := x) (fun i hi => by
    match i, hi with
    | 0, _ => exact a0 | 1, _ => exact a1 | 2, _ => exact a2 | 3, _ => exact a3 | 4, _ => exact a4 | 5, _ => exact a5 | 6, _ => exact a6 | 7, _ => exact a7
    | 8, _ => exact a8 | 9, _ => exact a9 | 10, _ => exact a10 | 11, _ => exact a11 | 12, _ => exact a12 | 13, _ => exact a13 | 14, _ => exact a14 | 15, _ => exact a15
    | n + 16, hi => omega) h0 h
  rw [quo64 h0 h]
  rw [hw, bits_zero]
  have hm : x.tmod 64 = x % 64 := Int.tmod_eq_emod_of_nonneg h0
  rw [hm]
  clear a0 a1 a2 a3 a4 a5 a6 a7 a8 a9 a10 a11 a12 a13 a14 a15 hw
  repeat' (first | omega | (intro _) | (refine And.intro ?_ ?_) | trivial)
theorem vAll5 : ∀ ds, Sorts (cAll 5).sorts ds → tAll5.vc I ds := by
  refine all_t fun T => all_n ?_
  set_option linter.unusedSimpArgs false in
  simp only [tAll5, Tree.vc, PE.den, E.den, dens, BO.ev, List.getElem?_cons_zero, List.getElem?_cons_succ, List.cons_append, List.nil_append, Option.some.injEq, D.i.injEq, D.t.injEq, exists_eq_left', exists_const, forall_const, forall_eq', one_ne, one_eq, zero_ne, zero_eq, min_i64, max_i64, min_u8, max_u8, min_u16, max_u16, min_u32, max_u32, min_u64, max_u64, and_true, true_and]
  intro a0 a1 a2 a3 a4 a5 a6 a7 a8 a9 a10 a11 a12 a13 a14 a15 x h0 h1
  refine ⟨fun h => ?_, fun _ => trivial⟩
  have hw := words (f := T) (c := 80) (x := x) (fun i hi => by
    match i, hi with
    | 0, _ => exact a0 | 1, _ => exact a1 | 2, _ => exact a2 | 3, _ => exact a3 | 4, _ => exact a4 | 5, _ => exact a5 | 6, _ => exact a6 | 7, _ => exact a7
    | 8, _ => exact a8 | 9, _ => exact a9 | 10, _ => exact a10 | 11, _ => exact a11 | 12, _ => exact a12 | 13, _ => exact a13 | 14, _ => exact a14 | 15, _ => exact a15
    | n + 16, hi => omega) h0 h
  rw [quo64 h0 h]
  rw [hw, bits_zero]
  have hm : x.tmod 64 = x % 64 := Int.tmod_eq_emod_of_nonneg h0
  rw [hm]
  clear a0 a1 a2 a3 a4 a5 a6 a7 a8 a9 a10 a11 a12 a13 a14 a15 hw
  repeat' (first | omega | (intro _) | (refine And.intro ?_ ?_) | trivial)
theorem vAll6 : ∀ ds, Sorts (cAll 6).sorts ds → tAll6.vc I ds := by
  refine all_t fun T => all_n ?_
  set_option linter.unusedSimpArgs false in
  simp only [tAll6, Tree.vc, PE.den, E.den, dens, BO.ev, List.getElem?_cons_zero, List.getElem?_cons_succ, List.cons_append, List.nil_append, Option.some.injEq, D.i.injEq, D.t.injEq, exists_eq_left', exists_const, forall_const, forall_eq', one_ne, one_eq, zero_ne, zero_eq, min_i64, max_i64, min_u8, max_u8, min_u16, max_u16, min_u32, max_u32, min_u64, max_u64, and_true, true_and]
  intro a0 a1 a2 a3 a4 a5 a6 a7 a8 a9 a10 a11 a12 a13 a14 a15 x h0 h1
  refine ⟨fun h => ?_, fun _ => trivial⟩
  have hw := words (f := T) (c := 96) (x := x) (fun i hi => by
    match i, hi with
    | 0, _ => exact a0 | 1, _ => exact a1 | 2, _ => exact a2 | 3, _ => exact a3 | 4, _ => exact a4 | 5, _ => exact a5 | 6, _ => exact a6 | 7, _ => exact a7
    | 8, _ => exact a8 | 9, _ => exact a9 | 10, _ => exact a10 | 11, _ => exact a11 | 12, _ => exact a12 | 13, _ => exact a13 | 14, _ => exact a14 | 15, _ => exact a15
    | n + 16, hi => omega) h0 h
  rw [quo64 h0 h]
  rw [hw, bits_zero]
  have hm : x.tmod 64 = x % 64 := Int.tmod_eq_emod_of_nonneg h0
  rw [hm]
  clear a0 a1 a2 a3 a4 a5 a6 a7 a8 a9 a10 a11 a12 a13 a14 a15 hw
  repeat' (first | omega | (intro _) | (refine And.intro ?_ ?_) | trivial)
theorem vAll7 : ∀ ds, Sorts (cAll 7).sorts ds → tAll7.vc I ds := by
  refine all_t fun T => all_n ?_
  set_option linter.unusedSimpArgs false in
  simp only [tAll7, Tree.vc, PE.den, E.den, dens, BO.ev, List.getElem?_cons_zero, List.getElem?_cons_succ, List.cons_append, List.nil_append, Option.some.injEq, D.i.injEq, D.t.injEq, exists_eq_left', exists_const, forall_const, forall_eq', one_ne, one_eq, zero_ne, zero_eq, min_i64, max_i64, min_u8, max_u8, min_u16, max_u16, min_u32, max_u32, min_u64, max_u64, and_true, true_and]
  intro a0 a1 a2 a3 a4 a5 a6 a7 a8 a9 a10 a11 a12 a13 a14 a15 x h0 h1
  refine ⟨fun h => ?_, fun _ => trivial⟩
  have hw := words (f := T) (c := 112) (x := x) (fun i hi => by
    match i, hi with
    | 0, _ => exact a0 | 1, _ => exact a1 | 2, _ => exact a2 | 3, _ => exact a3 | 4, _ => exact a4 | 5, _ => exact a5 | 6, _ => exact a6 | 7, _ => exact a7
    | 8, _ => exact a8 | 9, _ => exact a9 | 10, _ => exact a10 | 11, _ => exact a11 | 12, _ => exact a12 | 13, _ => exact a13 | 14, _ => exact a14 | 15, _ => exact a15
    | n + 16, hi => omega) h0 h
  rw [quo64 h0 h]
  rw [hw, bits_zero]
  have hm : x.tmod 64 = x % 64 := Int.tmod_eq_emod_of_nonneg h0
  rw [hm]
  clear a0 a1 a2 a3 a4 a5 a6 a7 a8 a9 a10 a11 a12 a13 a14 a15 hw
  repeat' (first | omega | (intro _) | (refine And.intro ?_ ?_) | trivial)
theorem vAll8 : ∀ ds, Sorts (cAll 8).sorts ds → tAll8.vc I ds := by
  refine all_t fun T => all_n ?_
  set_option linter.unusedSimpArgs false in
  simp only [tAll8, Tree.vc, PE.den, E.den, dens, BO.ev, List.getElem?_cons_zero, List.getElem?_cons_succ, List.cons_append, List.nil_append, Option.some.injEq, D.i.injEq, D.t.injEq, exists_eq_left', exists_const, forall_const, forall_eq', one_ne, one_eq, zero_ne, zero_eq, min_i64, max_i64, min_u8, max_u8, min_u16, max_u16, min_u32, max_u32, min_u64, max_u64, and_true, true_and]
  intro a0 a1 a2 a3 a4 a5 a6 a7 a8 a9 a10 a11 a12 a13 a14 a15 x h0 h1
  refine ⟨fun h => ?_, fun _ => trivial⟩
  have hw := words (f := T) (c := 128) (x := x) (fun i hi => by
    match i, hi with
    | 0, _ => exact a0 | 1, _ => exact a1 | 2, _ => exact a2 | 3, _ => exact a3 | 4, _ => exact a4 | 5, _ => exact a5 | 6, _ => exact a6 | 7, _ => exact a7
    | 8, _ => exact a8 | 9, _ => exact a9 | 10, _ => exact a10 | 11, _ => exact a11 | 12, _ => exact a12 | 13, _ => exact a13 | 14, _ => exact a14 | 15, _ => exact a15
    | n + 16, hi => omega) h0 h
  rw [quo64 h0 h]
  rw [hw, bits_zero]
  have hm : x.tmod 64 = x % 64 := Int.tmod_eq_emod_of_nonneg h0
  rw [hm]
  clear a0 a1 a2 a3 a4 a5 a6 a7 a8 a9 a10 a11 a12 a13 a14 a15 hw
  repeat' (first | omega | (intro _) | (refine And.intro ?_ ?_) | trivial)
theorem vAll9 : ∀ ds, Sorts (cAll 9).sorts ds → tAll9.vc I ds := by
  refine all_t fun T => all_n ?_
  set_option linter.unusedSimpArgs false in
  simp only [tAll9, Tree.vc, PE.den, E.den, dens, BO.ev, List.getElem?_cons_zero, List.getElem?_cons_succ, List.cons_append, List.nil_append, Option.some.injEq, D.i.injEq, D.t.injEq, exists_eq_left', exists_const, forall_const, forall_eq', one_ne, one_eq, zero_ne, zero_eq, min_i64, max_i64, min_u8, max_u8, min_u16, max_u16, min_u32, max_u32, min_u64, max_u64, and_true, true_and]
  intro a0 a1 a2 a3 a4 a5 a6 a7 a8 a9 a10 a11 a12 a13 a14 a15 x h0 h1
  refine ⟨fun h => ?_, fun _ => trivial⟩
  have hw := words (f := T) (c := 144) (x := x) (fun i hi => by
    match i, hi with
    | 0, _ => exact a0 | 1, _ => exact a1 | 2, _ => exact a2 | 3, _ => exact a3 | 4, _ => exact a4 | 5, _ => exact a5 | 6, _ => exact a6 | 7, _ => exact a7
    | 8, _ => exact a8 | 9, _ => exact a9 | 10, _ => exact a10 | 11, _ => exact a11 | 12, _ => exact a12 | 13, _ => exact a13 | 14, _ => exact a14 | 15, _ => exact a15
    | n + 16, hi => omega) h0 h
  rw [quo64 h0 h]
  rw [hw, bits_zero]
  have hm : x.tmod 64 = x % 64 := Int.tmod_eq_emod_of_nonneg h0
  rw [hm]
  clear a0 a1 a2 a3 a4 a5 a6 a7 a8 a9 a10 a11 a12 a13 a14 a15 hw
  repeat' (first | omega | (intro _) | (refine And.intro ?_ ?_) | trivial)
theorem vAll10 : ∀ ds, Sorts (cAll 10).sorts ds → tAll10.vc I ds := by
  refine all_t fun T => all_n ?_
  set_option linter.unusedSimpArgs false in
  simp only [tAll10, Tree.vc, PE.den, E.den, dens, BO.ev, List.getElem?_cons_zero, List.getElem?_cons_succ, List.cons_append, List.nil_append, Option.some.injEq, D.i.injEq, D.t.injEq, exists_eq_left', exists_const, forall_const, forall_eq', one_ne, one_eq, zero_ne, zero_eq, min_i64, max_i64, min_u8, max_u8, min_u16, max_u16, min_u32, max_u32, min_u64, max_u64, and_true, true_and]
  intro a0 a1 a2 a3 a4 a5 a6 a7 a8 a9 a10 a11 a12 a13 a14 a15 x h0 h1
  refine ⟨fun h => ?_, fun _ => trivial⟩
  have hw := words (f := T) (c := 160) (x := x) (fun i hi => by
    match i, hi with
    | 0, _ => exact a0 | 1, _ => exact a1 | 2, _ => exact a2 | 3, _ => exact a3 | 4, _ => exact a4 | 5, _ => exact a5 | 6, _ => exact a6 | 7, _ => exact a7
    | 8, _ => exact a8 | 9, _ => exact a9 | 10, _ => exact a10 | 11, _ => exact a11 | 12, _ => exact a12 | 13, _ => exact a13 | 14, _ => exact a14 | 15, _ => exact a15
    | n + 16, hi => omega) h0 h
  rw [quo64 h0 h]
  rw [hw, bits_zero]
  have hm : x.tmod 64 = x % 64 := Int.tmod_eq_emod_of_nonneg h0
  rw [hm]
  clear a0 a1 a2 a3 a4 a5 a6 a7 a8 a9 a10 a11 a12 a13 a14 a15 hw
  repeat' (first | omega | (intro _) | (refine And.intro ?_ ?_) | trivial)
theorem vAll11 : ∀ ds, Sorts (cAll 11).sorts ds → tAll11.vc I ds := by
  refine all_t fun T => all_n ?_
  set_option linter.unusedSimpArgs false in
  simp only [tAll11, Tree.vc, PE.den, E.den, dens, BO.ev, List.getElem?_cons_zero, List.getElem?_cons_succ, List.cons_append, List.nil_append, Option.some.injEq, D.i.injEq, D.t.injEq, exists_eq_left', exists_const, forall_const, forall_eq', one_ne, one_eq, zero_ne, zero_eq, min_i64, max_i64, min_u8, max_u8, min_u16, max_u16, min_u32, max_u32, min_u64, max_u64, and_true, true_and]
  intro a0 a1 a2 a3 a4 a5 a6 a7 a8 a9 a10 a11 a12 a13 a14 a15 x h0 h1
  refine ⟨fun h => ?_, fun _ => trivial⟩
  have hw := words (f := T) (c := 176) (x := x) (fun i hi => by
    match i, hi with
    | 0, _ => exact a0 | 1, _ => exact a1 | 2, _ => exact a2 | 3, _ => exact a3 | 4, _ => exact a4 | 5, _ => exact a5 | 6, _ => exact a6 | 7, _ => exact a7
    | 8, _ => exact a8 | 9, _ => exact a9 | 10, _ => exact a10 | 11, _ => exact a11 | 12, _ => exact a12 | 13, _ => exact a13 | 14, _ => exact a14 | 15, _ => exact a15
    | n + 16, hi => omega) h0 h
  rw [quo64 h0 h]
  rw [hw, bits_zero]
  have hm : x.tmod 64 = x % 64 := Int.tmod_eq_emod_of_nonneg h0
  rw [hm]
  clear a0 a1 a2 a3 a4 a5 a6 a7 a8 a9 a10 a11 a12 a13 a14 a15 hw
  repeat' (first | omega | (intro _) | (refine And.intro ?_ ?_) | trivial)
theorem vAll12 : ∀ ds, Sorts (cAll 12).sorts ds → tAll12.vc I ds := by
  refine all_t fun T => all_n ?_
  set_option linter.unusedSimpArgs false in
  simp only [tAll12, Tree.vc, PE.den, E.den, dens, BO.ev, List.getElem?_cons_zero, List.getElem?_cons_succ, List.cons_append, List.nil_append, Option.some.injEq, D.i.injEq, D.t.injEq, exists_eq_left', exists_const, forall_const, forall_eq', one_ne, one_eq, zero_ne, zero_eq, min_i64, max_i64, min_u8, max_u8, min_u16, max_u16, min_u32, max_u32, min_u64, max_u64, and_true, true_and]
  intro a0 a1 a2 a3 a4 a5 a6 a7 a8 a9 a10 a11 a12 a13 a14 a15 x h0 h1
  refine ⟨fun h => ?_, fun _ => trivial⟩
  have hw := words (f := T) (c := 192) (x := x) (fun i hi => by
    match i, hi with
    | 0, _ => exact a0 | 1, _ => exact a1 | 2, _ => exact a2 | 3, _ => exact a3 | 4, _ => exact a4 | 5, _ => exact a5 | 6, _ => exact a6 | 7, _ => exact a7
    | 8, _ => exact a8 | 9, _ => exact a9 | 10, _ => exact a10 | 11, _ => exact a11 | 12, _ => exact a12 | 13, _ => exact a13 | 14, _ => exact a14 | 15, _ => exact a15
    | n + 16, hi => omega) h0 h
  rw [quo64 h0 h]
  rw [hw, bits_zero]
  have hm : x.tmod 64 = x % 64 := Int.tmod_eq_emod_of_nonneg h0
  rw [hm]
  clear a0 a1 a2 a3 a4 a5 a6 a7 a8 a9 a10 a11 a12 a13 a14 a15 hw
  repeat' (first | omega | (intro _) | (refine And.intro ?_ ?_) | trivial)
theorem vAll13 : ∀ ds, Sorts (cAll 13).sorts ds → tAll13.vc I ds := by
  refine all_t fun T => all_n ?_
  set_option linter.unusedSimpArgs false in
  simp only [tAll13, Tree.vc, PE.den, E.den, dens, BO.ev, List.getElem?_cons_zero, List.getElem?_cons_succ, List.cons_append, List.nil_append, Option.some.injEq, D.i.injEq, D.t.injEq, exists_eq_left', exists_const, forall_const, forall_eq', one_ne, one_eq, zero_ne, zero_eq, min_i64, max_i64, min_u8, max_u8, min_u16, max_u16, min_u32, max_u32, min_u64, max_u64, and_true, true_and]
  intro a0 a1 a2 a3 a4 a5 a6 a7 a8 a9 a10 a11 a12 a13 a14 a15 x h0 h1
  refine ⟨fun h => ?_, fun _ => trivial⟩
  have hw := words (f := T) (c := 208) (x := x) (fun i hi => by
    match i, hi with
    | 0, _ => exact a0 | 1, _ => exact a1 | 2, _ => exact a2 | 3, _ => exact a3 | 4, _ => exact a4 | 5, _ => exact a5 | 6, _ => exact a6 | 7, _ => exact a7
    | 8, _ => exact a8 | 9, _ => exact a9 | 10, _ => exact a10 | 11, _ => exact a11 | 12, _ => exact a12 | 13, _ => exact a13 | 14, _ => exact a14 | 15, _ => exact a15
    | n + 16, hi => omega) h0 h
  rw [quo64 h0 h]
  rw [hw, bits_zero]
  have hm : x.tmod 64 = x % 64 := Int.tmod_eq_emod_of_nonneg h0
  rw [hm]
  clear a0 a1 a2 a3 a4 a5 a6 a7 a8 a9 a10 a11 a12 a13 a14 a15 hw
  repeat' (first | omega | (intro _) | (refine And.intro ?_ ?_) | trivial)
theorem vAll14 : ∀ ds, Sorts (cAll 14).sorts ds → tAll14.vc I ds := by
  refine all_t fun T => all_n ?_
  set_option linter.unusedSimpArgs false in
  simp only [tAll14, Tree.vc, PE.den, E.den, dens, BO.ev, List.getElem?_cons_zero, List.getElem?_cons_succ, List.cons_append, List.nil_append, Option.some.injEq, D.i.injEq, D.t.injEq, exists_eq_left', exists_const, forall_const, forall_eq', one_ne, one_eq, zero_ne, zero_eq, min_i64, max_i64, min_u8, max_u8, min_u16, max_u16, min_u32, max_u32, min_u64, max_u64, and_true, true_and]
  intro a0 a1 a2 a3 a4 a5 a6 a7 a8 a9 a10 a11 a12 a13 a14 a15 x h0 h1
  refine ⟨fun h => ?_, fun _ => trivial⟩
  have hw := words (f := T) (c := 224) (x := x) (fun i hi => by
    match i, hi with
    | 0, _ => exact a0 | 1, _ => exact a1 | 2, _ => exact a2 | 3, _ => exact a3 | 4, _ => exact a4 | 5, _ => exact a5 | 6, _ => exact a6 | 7, _ => exact a7
    | 8, _ => exact a8 | 9, _ => exact a9 | 10, _ => exact a10 | 11, _ => exact a11 | 12, _ => exact a12 | 13, _ => exact a13 | 14, _ => exact a14 | 15, _ => exact a15
    | n + 16, hi => omega) h0 h
  rw [quo64 h0 h]
  rw [hw, bits_zero]
  have hm : x.tmod 64 = x % 64 := Int.tmod_eq_emod_of_nonneg h0
  rw [hm]
  clear a0 a1 a2 a3 a4 a5 a6 a7 a8 a9 a10 a11 a12 a13 a14 a15 hw
  repeat' (first | omega | (intro _) | (refine And.intro ?_ ?_) | trivial)
theorem vAll15 : ∀ ds, Sorts (cAll 15).sorts ds → tAll15.vc I ds := by
  refine all_t fun T => all_n ?_
  set_option linter.unusedSimpArgs false in
  simp only [tAll15, Tree.vc, PE.den, E.den, dens, BO.ev, List.getElem?_cons_zero, List.getElem?_cons_succ, List.cons_append, List.nil_append, Option.some.injEq, D.i.injEq, D.t.injEq, exists_eq_left', exists_const, forall_const, forall_eq', one_ne, one_eq, zero_ne, zero_eq, min_i64, max_i64, min_u8, max_u8, min_u16, max_u16, min_u32, max_u32, min_u64, max_u64, and_true, true_and]
  intro a0 a1 a2 a3 a4 a5 a6 a7 a8 a9 a10 a11 a12 a13 a14 a15 x h0 h1
  refine ⟨fun h => ?_, fun _ => trivial⟩
  have hw := words (f := T) (c := 240) (x := x) (fun i hi => by
    match i, hi with
    | 0, _ => exact a0 | 1, _ => exact a1 | 2, _ => exact a2 | 3, _ => exact a3 | 4, _ => exact a4 | 5, _ => exact a5 | 6, _ => exact a6 | 7, _ => exact a7
    | 8, _ => exact a8 | 9, _ => exact a9 | 10, _ => exact a10 | 11, _ => exact a11 | 12, _ => exact a12 | 13, _ => exact a13 | 14, _ => exact a14 | 15, _ => exact a15
    | n + 16, hi => omega) h0 h
  rw [quo64 h0 h]
  rw [hw, bits_zero]
  have hm : x.tmod 64 = x % 64 := Int.tmod_eq_emod_of_nonneg h0
  rw [hm]
  clear a0 a1 a2 a3 a4 a5 a6 a7 a8 a9 a10 a11 a12 a13 a14 a15 hw
  repeat' (first | omega | (intro _) | (refine And.intro ?_ ?_) | trivial)
theorem vAll16 : ∀ ds, Sorts (cAll 16).sorts ds → tAll16.vc I ds := by
  refine all_t fun T => all_n ?_
  set_option linter.unusedSimpArgs false in
  simp only [tAll16, Tree.vc, PE.den, E.den, dens, BO.ev, List.getElem?_cons_zero, List.getElem?_cons_succ, List.cons_append, List.nil_append, Option.some.injEq, D.i.injEq, D.t.injEq, exists_eq_left', exists_const, forall_const, forall_eq', one_ne, one_eq, zero_ne, zero_eq, min_i64, max_i64, min_u8, max_u8, min_u16, max_u16, min_u32, max_u32, min_u64, max_u64, and_true, true_and]
  intro a0 a1 a2 a3 a4 a5 a6 a7 a8 a9 a10 a11 a12 a13 a14 a15 x h0 h1
  refine ⟨fun h => ?_, fun _ => trivial⟩
  have hw := words (f := T) (c := 256) (x := x) (fun i hi => by
    match i, hi with
    | 0, _ => exact a0 | 1, _ => exact a1 | 2, _ => exact a2 | 3, _ => exact a3 | 4, _ => exact a4 | 5, _ => exact a5 | 6, _ => exact a6 | 7, _ => exact a7
    | 8, _ => exact a8 | 9, _ => exact a9 | 10, _ => exact a10 | 11, _ => exact a11 | 12, _ => exact a12 | 13, _ => exact a13 | 14, _ => exact a14 | 15, _ => exact a15
    | n + 16, hi => omega) h0 h
  rw [quo64 h0 h]
  rw [hw, bits_zero]
  have hm : x.tmod 64 = x % 64 := Int.tmod_eq_emod_of_nonneg h0
  rw [hm]
  clear a0 a1 a2 a3 a4 a5 a6 a7 a8 a9 a10 a11 a12 a13 a14 a15 hw
  repeat' (first | omega | (intro _) | (refine And.intro ?_ ?_) | trivial)
theorem vAll17 : ∀ ds, Sorts (cAll 17).sorts ds → tAll17.vc I ds := by
  refine all_t fun T => all_n ?_
  set_option linter.unusedSimpArgs false in
  simp only [tAll17, Tree.vc, PE.den, E.den, dens, BO.ev, List.getElem?_cons_zero, List.getElem?_cons_succ, List.cons_append, List.nil_append, Option.some.injEq, D.i.injEq, D.t.injEq, exists_eq_left', exists_const, forall_const, forall_eq', one_ne, one_eq, zero_ne, zero_eq, min_i64, max_i64, min_u8, max_u8, min_u16, max_u16, min_u32, max_u32, min_u64, max_u64, and_true, true_and]
  intro a0 a1 a2 a3 a4 a5 a6 a7 a8 a9 a10 a11 a12 a13 a14 a15 x h0 h1
  refine ⟨fun h => ?_, fun _ => trivial⟩
  have hw := words (f := T) (c := 272) (x := x) (fun i hi => by
    match i, hi with
    | 0, _ => exact a0 | 1, _ => exact a1 | 2, _ => exact a2 | 3, _ => exact a3 | 4, _ => exact a4 | 5, _ => exact a5 | 6, _ => exact a6 | 7, _ => exact a7
    | 8, _ => exact a8 | 9, _ => exact a9 | 10, _ => exact a10 | 11, _ => exact a11 | 12, _ => exact a12 | 13, _ => exact a13 | 14, _ => exact a14 | 15, _ => exact a15
    | n + 16, hi => omega) h0 h
  rw [quo64 h0 h]
  rw [hw, bits_zero]
  have hm : x.tmod 64 = x % 64 := Int.tmod_eq_emod_of_nonneg h0
  rw [hm]
  clear a0 a1 a2 a3 a4 a5 a6 a7 a8 a9 a10 a11 a12 a13 a14 a15 hw
  repeat' (first | omega | (intro _) | (refine And.intro ?_ ?_) | trivial)
theorem vAll18 : ∀ ds, Sorts (cAll 18).sorts ds → tAll18.vc I ds := by
  refine all_t fun T => all_n ?_
  set_option linter.unusedSimpArgs false in
  simp only [tAll18, Tree.vc, PE.den, E.den, dens, BO.ev, List.getElem?_cons_zero, List.getElem?_cons_succ, List.cons_append, List.nil_append, Option.some.injEq, D.i.injEq, D.t.injEq, exists_eq_left', exists_const, forall_const, forall_eq', one_ne, one_eq, zero_ne, zero_eq, min_i64, max_i64, min_u8, max_u8, min_u16, max_u16, min_u32, max_u32, min_u64, max_u64, and_true, true_and]
  intro a0 a1 a2 a3 a4 a5 a6 a7 a8 a9 a10 a11 a12 a13 a14 a15 x h0 h1
  refine ⟨fun h => ?_, fun _ => trivial⟩
  have hw := words (f := T) (c := 288) (x := x) (fun i hi => by
    match i, hi with
    | 0, _ => exact a0 | 1, _ => exact a1 | 2, _ => exact a2 | 3, _ => exact a3 | 4, _ => exact a4 | 5, _ => exact a5 | 6, _ => exact a6 | 7, _ => exact a7
    | 8, _ => exact a8 | 9, _ => exact a9 | 10, _ => exact a10 | 11, _ => exact a11 | 12, _ => exact a12 | 13, _ => exact a13 | 14, _ => exact a14 | 15, _ => exact a15
    | n + 16, hi => omega) h0 h
  rw [quo64 h0 h]
  rw [hw, bits_zero]
  have hm : x.tmod 64 = x % 64 := Int.tmod_eq_emod_of_nonneg h0
  rw [hm]
  clear a0 a1 a2 a3 a4 a5 a6 a7 a8 a9 a10 a11 a12 a13 a14 a15 hw
  repeat' (first | omega | (intro _) | (refine And.intro ?_ ?_) | trivial)
theorem vAll19 : ∀ ds, Sorts (cAll 19).sorts ds → tAll19.vc I ds := by
  refine all_t fun T => all_n ?_
  set_option linter.unusedSimpArgs false in
  simp only [tAll19, Tree.vc, PE.den, E.den, dens, BO.ev, List.getElem?_cons_zero, List.getElem?_cons_succ, List.cons_append, List.nil_append, Option.some.injEq, D.i.injEq, D.t.injEq, exists_eq_left', exists_const, forall_const, forall_eq', one_ne, one_eq, zero_ne, zero_eq, min_i64, max_i64, min_u8, max_u8, min_u16, max_u16, min_u32, max_u32, min_u64, max_u64, and_true, true_and]
  intro a0 a1 a2 a3 a4 a5 a6 a7 a8 a9 a10 a11 a12 a13 a14 a15 x h0 h1
  refine ⟨fun h => ?_, fun _ => trivial⟩
  have hw := words (f := T) (c := 304) (x := x) (fun i hi => by
    match i, hi with
    | 0, _ => exact a0 | 1, _ => exact a1 | 2, _ => exact a2 | 3, _ => exact a3 | 4, _ => exact a4 | 5, _ => exact a5 | 6, _ => exact a6 | 7, _ => exact a7
    | 8, _ => exact a8 | 9, _ => exact a9 | 10, _ => exact a10 | 11, _ => exact a11 | 12, _ => exact a12 | 13, _ => exact a13 | 14, _ => exact a14 | 15, _ => exact a15
    | n + 16, hi => omega) h0 h
  rw [quo64 h0 h]
  rw [hw, bits_zero]
  have hm : x.tmod 64 = x % 64 := Int.tmod_eq_emod_of_nonneg h0
  rw [hm]
  clear a0 a1 a2 a3 a4 a5 a6 a7 a8 a9 a10 a11 a12 a13 a14 a15 hw
  repeat' (first | omega | (intro _) | (refine And.intro ?_ ?_) | trivial)
theorem vAll20 : ∀ ds, Sorts (cAll 20).sorts ds → tAll20.vc I ds := by
  refine all_t fun T => all_n ?_
  set_option linter.unusedSimpArgs false in
  simp only [tAll20, Tree.vc, PE.den, E.den, dens, BO.ev, List.getElem?_cons_zero, List.getElem?_cons_succ, List.cons_append, List.nil_append, Option.some.injEq, D.i.injEq, D.t.injEq, exists_eq_left', exists_const, forall_const, forall_eq', one_ne, one_eq, zero_ne, zero_eq, min_i64, max_i64, min_u8, max_u8, min_u16, max_u16, min_u32, max_u32, min_u64, max_u64, and_true, true_and]
  intro a0 a1 a2 a3 a4 a5 a6 a7 a8 a9 a10 a11 a12 a13 a14 a15 x h0 h1
  refine ⟨fun h => ?_, fun _ => trivial⟩
  have hw := words (f := T) (c := 320) (x := x) (fun i hi => by
    match i, hi with
    | 0, _ => exact a0 | 1, _ => exact a1 | 2, _ => exact a2 | 3, _ => exact a3 | 4, _ => exact a4 | 5, _ => exact a5 | 6, _ => exact a6 | 7, _ => exact a7
    | 8, _ => exact a8 | 9, _ => exact a9 | 10, _ => exact a10 | 11, _ => exact a11 | 12, _ => exact a12 | 13, _ => exact a13 | 14, _ => exact a14 | 15, _ => exact a15
    | n + 16, hi => omega) h0 h
  rw [quo64 h0 h]
  rw [hw, bits_zero]
  have hm : x.tmod 64 = x % 64 := Int.tmod_eq_emod_of_nonneg h0
  rw [hm]
  clear a0 a1 a2 a3 a4 a5 a6 a7 a8 a9 a10 a11 a12 a13 a14 a15 hw
  repeat' (first | omega | (intro _) | (refine And.intro ?_ ?_) | trivial)
theorem vAll21 : ∀ ds, Sorts (cAll 21).sorts ds → tAll21.vc I ds := by
  refine all_t fun T => all_n ?_
  set_option linter.unusedSimpArgs false in
  simp only [tAll21, Tree.vc, PE.den, E.den, dens, BO.ev, List.getElem?_cons_zero, List.getElem?_cons_succ, List.cons_append, List.nil_append, Option.some.injEq, D.i.injEq, D.t.injEq, exists_eq_left', exists_const, forall_const, forall_eq', one_ne, one_eq, zero_ne, zero_eq, min_i64, max_i64, min_u8, max_u8, min_u16, max_u16, min_u32, max_u32, min_u64, max_u64, and_true, true_and]
  intro a0 a1 a2 a3 a4 a5 a6 a7 a8 a9 a10 a11 a12 a13 a14 a15 x h0 h1
  refine ⟨fun h => ?_, fun _ => trivial⟩
  have hw := words (f := T) (c := 336) (x := x) (fun i hi => by
    match i, hi with
    | 0, _ => exact a0 | 1, _ => exact a1 | 2, _ => exact a2 | 3, _ => exact a3 | 4, _ => exact a4 | 5, _ => exact a5 | 6, _ => exact a6 | 7, _ => exact a7
    | 8, _ => exact a8 | 9, _ => exact a9 | 10, _ => exact a10 | 11, _ => exact a11 | 12, _ => exact a12 | 13, _ => exact a13 | 14, _ => exact a14 | 15, _ => exact a15
    | n + 16, hi => omega) h0 h
  rw [quo64 h0 h]
  rw [hw, bits_zero]
  have hm : x.tmod 64 = x % 64 := Int.tmod_eq_emod_of_nonneg h0
  rw [hm]
  clear a0 a1 a2 a3 a4 a5 a6 a7 a8 a9 a10 a11 a12 a13 a14 a15 hw
  repeat' (first | omega | (intro _) | (refine And.intro ?_ ?_) | trivial)
theorem vFresh : ∀ ds, Sorts cFresh.sorts ds → tFresh.vc I ds := by
  refine all_n ?_
  set_option linter.unusedSimpArgs false in
  simp only [tFresh, Tree.vc, PE.den, E.den, dens, BO.ev, List.getElem?_cons_zero, List.getElem?_cons_succ, List.cons_append, List.nil_append, Option.some.injEq, D.i.injEq, D.t.injEq, exists_eq_left', exists_const, forall_const, forall_eq', one_ne, one_eq, zero_ne, zero_eq, min_i64, max_i64, min_u8, max_u8, min_u16, max_u16, min_u32, max_u32, min_u64, max_u64, and_true, true_and]
  refine ⟨⟨_, _, _, rfl, rfl, rfl, fun r c h0 h1 _ => by omega⟩, ?_⟩
  rintro T x h0 h1 ⟨_, _, _, rfl, rfl, rfl, hT⟩
  refine ⟨fun h => ⟨by omega, by omega, by omega, ⟨_, _, _, rfl, rfl, rfl, ?_⟩, by omega, by omega⟩, fun h => ⟨⟨_, _, _, rfl, rfl, rfl, ?_⟩, ⟨_, _, _, rfl, rfl, rfl, ?_⟩⟩⟩
  · intro r c hr hx hc
    by_cases hrx : r = x
    · subst hrx
      match c, hc with
      | 0, _ => simp [tupd]
      | 1, _ => simp [tupd]
      | 2, _ => simp [tupd]
      | 3, _ => simp [tupd]
      | 4, _ => simp [tupd]
      | n + 5, hc => omega
    · simp only [tupd, hrx, false_and, if_false]
      exact hT r c hr (by omega) hc
  · intro r c hr hx hc
    exact (hT r c hr (by omega) hc).symm
  · intro r c hr hx hc
    have : r = 0 := by omega
    subst this
    match c, hc with
    | 0, _ => simp [tupd]
    | 1, _ => simp [tupd]
    | 2, _ => simp [tupd]
    | n + 3, hc => omega
theorem vVmNew : ∀ ds, Sorts cVmNew.sorts ds → tVmNew.vc I ds := fun _ _ => trivial
end Go.Mg
namespace Go.Mg
open Go Go.Sx
set_option maxRecDepth 10000
def cV43 : Contract where
  fn := 51
  sorts := []
  args := [(.ptr 0 (.lit 0) 0 0)]
  mem := [(0, .big [(.bool (.lit 1))] pgK (.upd (.upd (.upd (.upd (.upd (.upd (.upd (.upd .zt (.lit 0) 0 (.lit 3)) (.lit 1) 0 (.lit 2)) (.lit 2) 0 (.lit 2)) (.lit 3) 0 (.lit 1)) (.lit 4) 0 (.lit 1)) (.lit 5) 0 (.lit 1)) (.lit 6) 0 (.lit 1)) (.lit 7) 0 (.lit 3)) 1024 [.nilslice, (.int .i64 (.lit 1)), (.int .i64 (.lit 0)), (.int .i64 (.lit 1)), (.int .i64 (.lit 0)), (.int .i64 (.lit 2)), (.int .i64 (.lit 0)), (.int .i64 (.lit 0)), (.int .i64 (.lit 0)), (.int .i64 (.lit 0)), (.int .i64 (.lit 0)), (.int .i64 (.lit 0)), (.int .i64 (.lit 0)), (.int .i64 (.lit 0)), (.int .i64 (.lit 0))] true)]
  nb := 1
  pre := []
  outs := []
  res := (.agg [(.slice 1 (.lit 0) (.lit 4) 3 false), .nilslice, .nilslice, .nilslice, (.int .i64 (.lit 1)), (.int .i64 (.lit 0)), (.int .i64 (.lit 1)), (.int .i64 (.lit 0)), (.int .i64 (.lit 2)), (.int .i64 (.lit 0)), (.int .i64 (.lit 0)), (.int .i64 (.lit 0)), (.int .i64 (.lit 0)), (.int .i64 (.lit 0)), (.int .i64 (.lit 0)), (.int .i64 (.lit 0)), (.int .i64 (.lit 0)), (.int .i64 (.lit 0))])
  mods := [(0, .big [(.bool (.lit 1))] pgK (.upd (.upd (.upd (.upd (.upd (.upd (.upd (.upd .zt (.lit 0) 0 (.lit 3)) (.lit 1) 0 (.lit 2)) (.lit 2) 0 (.lit 2)) (.lit 3) 0 (.lit 1)) (.lit 4) 0 (.lit 1)) (.lit 5) 0 (.lit 1)) (.lit 6) 0 (.lit 1)) (.lit 7) 0 (.lit 3)) 1024 [.nilslice, (.int .i64 (.lit 1)), (.int .i64 (.lit 0)), (.int .i64 (.lit 1)), (.int .i64 (.lit 0)), (.int .i64 (.lit 2)), (.int .i64 (.lit 0)), (.int .i64 (.lit 0)), (.int .i64 (.lit 0)), (.int .i64 (.lit 0)), (.int .i64 (.lit 0)), (.int .i64 (.lit 0)), (.int .i64 (.lit 0)), (.int .i64 (.lit 0)), (.int .i64 (.lit 0))] true)]
  fresh := [(1, .rows [(.int .i64), (.int .i64), (.int .i64)] (.upd (.upd (.upd (.upd (.upd (.upd (.upd (.upd (.upd (.upd (.upd .zt (.lit 0) 1 (.lit 1)) (.lit 0) 2 (.lit 3)) (.lit 1) 0 (.lit 1)) (.lit 1) 1 (.lit 2)) (.lit 1) 2 (.lit 2)) (.lit 2) 0 (.lit 3)) (.lit 2) 1 (.lit 4)) (.lit 2) 2 (.lit 1)) (.lit 3) 0 (.lit 7)) (.lit 3) 1 (.lit 1)) (.lit 3) 2 (.lit 3)) (.lit 4) true false)]
  post := []
def cB44 : Contract where
  fn := 52
  sorts := []
  args := [(.ptr 0 (.lit 0) 0 0)]
  mem := [(0, .big [(.bool (.lit 1)), (.int .i64 (.lit 10))] [(.int .u64)] (.upd (.upd (.upd (.upd (.upd (.upd (.upd (.upd (.upd .zt (.lit 160) 0 (.lit 0)) (.lit 152) 0 (.lit 1)) (.lit 132) 0 (.lit 1)) (.lit 114) 0 (.lit 1)) (.lit 97) 0 (.lit 1)) (.lit 80) 0 (.lit 4294967296)) (.lit 64) 0 (.lit 65536)) (.lit 48) 0 (.lit 256)) (.lit 224) 0 (.lit 1)) 352 [] true)]
  nb := 1
  pre := []
  outs := []
  res := (.agg [(.int .i64 (.lit 10)), (.slice 1 (.lit 0) (.lit 1) 2 false)])
  mods := [(0, .big [(.bool (.lit 1)), (.int .i64 (.lit 10))] [(.int .u64)] (.upd (.upd (.upd (.upd (.upd (.upd (.upd (.upd (.upd .zt (.lit 160) 0 (.lit 0)) (.lit 152) 0 (.lit 1)) (.lit 132) 0 (.lit 1)) (.lit 114) 0 (.lit 1)) (.lit 97) 0 (.lit 1)) (.lit 80) 0 (.lit 4294967296)) (.lit 64) 0 (.lit 65536)) (.lit 48) 0 (.lit 256)) (.lit 224) 0 (.lit 1)) 352 [] true)]
  fresh := [(1, .rows [(.int .i64), (.int .i64)] (.upd .zt (.lit 0) 1 (.lit 3)) (.lit 1) true false)]
  post := []
def aRunsO : Ann where
  fn := 177
  bid := 0
  keep := [0, 1]
  tmps := [(3, i64 (v 0))]
  drop := [4]
  mem := [(4, .cells [.slice 22 (.lit 0) (.lit 4) 3 false] true)]
  sorts := [false]
  nbl := 0
  inv := [eLe (.lit 8) (v 0), eLe (v 0) (.lit 1024), .tt (.bin .or (.bin .eq (v 0) (.lit 8)) (.bin .eq (v 0) (.lit 1024)))]
  meas := .bin .sub (.lit 1024) (v 0)
def aRunsI : Ann where
  fn := 177
  bid := 2
  keep := [0, 1, 4]
  tmps := [(3, i64 (v 1))]
  drop := [23]
  mem := [(23, .cells [i64 (v 0), i64 (v 2), i64 (v 3)] true)]
  sorts := [false, false, false]
  nbl := 0
  inv := [eLe (v 0) (v 1), eLe (v 1) (.lit 1024), .same (v 2) (.bin .sub (v 1) (v 0)), .same (v 3) (.lit 0)]
  meas := .bin .sub (.lit 1024) (v 1)
def aPages : Ann where
  fn := 51
  bid := 0
  keep := [0, 2, 3]
  tmps := [(28, i64 (v 1))]
  drop := []
  mem := []
  sorts := [false]
  nbl := 0
  inv := [eLe (.lit 0) (v 1), eLe (v 1) (.lit 1024)]
  meas := .bin .sub (.lit 1024) (v 1)
def aGiven : Ann where
  fn := 253
  bid := 0
  keep := [0, 1]
  tmps := [(4, i64 (v 0))]
  drop := [2]
  mem := [(2, .cells [.slice 20 (.lit 0) (.lit 1) 2 false] true)]
  sorts := [false]
  nbl := 0
  inv := [eLe (.lit 1) (v 0), eLe (v 0) (.lit 1024)]
  meas := .bin .sub (.lit 1024) (v 0)
def xSv (P : Program) : Cx := { P, cs := loops, anns := [aRunsO, aRunsI, aPages, aGiven], kn := kn }
end Go.Mg
namespace Go.Mg
open Go Go.Sx
variable {I : Itp}
set_option maxRecDepth 10000
def tV43 : Tree := (.havoc false (.assume (.tt (.bin .le (.lit 8) (.var 0))) (.assume (.tt (.bin .le (.var 0) (.lit 1024))) (.assume (.tt (.bin .or (.bin .eq (.var 0) (.lit 8)) (.bin .eq (.var 0) (.lit 1024)))) (.branch (.bin .lt (.var 0) (.lit 1024)) (.assert (.tt (.bin .le (.lit 0) (.var 0))) (.assert (.tt (.bin .le (.var 0) (.var 0))) (.assert (.same (.lit 0) (.bin .sub (.var 0) (.var 0))) (.assert (.same (.sel (.upd (.upd (.upd (.upd (.upd (.upd (.upd (.upd .zt (.lit 0) 0 (.lit 3)) (.lit 1) 0 (.lit 2)) (.lit 2) 0 (.lit 2)) (.lit 3) 0 (.lit 1)) (.lit 4) 0 (.lit 1)) (.lit 5) 0 (.lit 1)) (.lit 6) 0 (.lit 1)) (.lit 7) 0 (.lit 3)) (.var 0) 0) (.lit 0)) (.havoc false (.havoc false (.havoc false (.assume (.tt (.bin .le (.var 0) (.var 1))) (.assume (.tt (.bin .le (.var 1) (.lit 1024))) (.assume (.same (.var 2) (.bin .sub (.var 1) (.var 0))) (.assume (.same (.var 3) (.lit 0)) (.branch (.bin .lt (.var 1) (.lit 1024)) (.assert (.tt (.bin .le (.lit 0) (.var 1))) (.branch (.bin .eq (.sel (.upd (.upd (.upd (.upd (.upd (.upd (.upd (.upd .zt (.lit 0) 0 (.lit 3)) (.lit 1) 0 (.lit 2)) (.lit 2) 0 (.lit 2)) (.lit 3) 0 (.lit 1)) (.lit 4) 0 (.lit 1)) (.lit 5) 0 (.lit 1)) (.lit 6) 0 (.lit 1)) (.lit 7) 0 (.lit 3)) (.var 1) 0) (.lit 0)) (.assert (.rng .i64 (.bin .add (.var 1) (.lit 1))) (.assert (.rng .i64 (.bin .add (.bin .sub (.var 1) (.var 0)) (.lit 1))) (.assert (.tt (.bin .le (.var 0) (.bin .add (.var 1) (.lit 1)))) (.assert (.tt (.bin .le (.bin .add (.var 1) (.lit 1)) (.lit 1024))) (.assert (.same (.bin .add (.bin .sub (.var 1) (.var 0)) (.lit 1)) (.bin .sub (.bin .add (.var 1) (.lit 1)) (.var 0))) (.assert (.tt (.bin .le (.lit 0) (.bin .sub (.lit 1024) (.bin .add (.var 1) (.lit 1))))) (.assert (.tt (.bin .lt (.bin .sub (.lit 1024) (.bin .add (.var 1) (.lit 1))) (.bin .sub (.lit 1024) (.var 1)))) .ok))))))) (.assert (.tt (.bin .le (.lit 8) (.var 1))) (.assert (.tt (.bin .or (.bin .eq (.var 1) (.lit 8)) (.bin .eq (.var 1) (.lit 1024)))) (.assert (.tt (.bin .le (.lit 0) (.bin .sub (.lit 1024) (.var 1)))) (.assert (.tt (.bin .lt (.bin .sub (.lit 1024) (.var 1)) (.bin .sub (.lit 1024) (.var 0)))) .ok)))))) (.assert (.tt (.bin .le (.lit 8) (.var 1))) (.assert (.tt (.bin .or (.bin .eq (.var 1) (.lit 8)) (.bin .eq (.var 1) (.lit 1024)))) (.assert (.tt (.bin .le (.lit 0) (.bin .sub (.lit 1024) (.var 1)))) (.assert (.tt (.bin .lt (.bin .sub (.lit 1024) (.var 1)) (.bin .sub (.lit 1024) (.var 0)))) .ok)))))))))))))))) (.havoc false (.assume (.tt (.bin .le (.lit 0) (.var 1))) (.assume (.tt (.bin .le (.var 1) (.lit 1024))) (.branch (.bin .lt (.var 1) (.lit 1024)) (.branch (.bin .eq (.bin .tmod (.var 1) (.lit 16)) (.lit 0)) (.assert (.rng .i64 (.bin .add (.var 1) (.lit 1))) (.assert (.tt (.bin .le (.lit 0) (.bin .add (.var 1) (.lit 1)))) (.assert (.tt (.bin .le (.bin .add (.var 1) (.lit 1)) (.lit 1024))) (.assert (.tt (.bin .le (.lit 0) (.bin .sub (.lit 1024) (.bin .add (.var 1) (.lit 1))))) (.assert (.tt (.bin .lt (.bin .sub (.lit 1024) (.bin .add (.var 1) (.lit 1))) (.bin .sub (.lit 1024) (.var 1)))) .ok))))) (.assert (.rng .i64 (.bin .add (.var 1) (.lit 1))) (.assert (.tt (.bin .le (.lit 0) (.bin .add (.var 1) (.lit 1)))) (.assert (.tt (.bin .le (.bin .add (.var 1) (.lit 1)) (.lit 1024))) (.assert (.tt (.bin .le (.lit 0) (.bin .sub (.lit 1024) (.bin .add (.var 1) (.lit 1))))) (.assert (.tt (.bin .lt (.bin .sub (.lit 1024) (.bin .add (.var 1) (.lit 1))) (.bin .sub (.lit 1024) (.var 1)))) .ok)))))) .ok)))))))))
def tB44 : Tree := (.havoc false (.assume (.tt (.bin .le (.lit 1) (.var 0))) (.assume (.tt (.bin .le (.var 0) (.lit 1024))) (.branch (.bin .lt (.var 0) (.lit 1024)) (.assert (.tt (.bin .le (.lit 0) (.bin (.bits 6 .i64) (.var 0) (.lit 64)))) (.assert (.tt (.bin .lt (.bin (.bits 6 .i64) (.var 0) (.lit 64)) (.lit 16))) (.assert (.tt (.bin .le (.lit 0) (.bin .add (.bin (.bits 6 .i64) (.var 0) (.lit 64)) (.lit 224)))) (.assert (.tt (.bin .lt (.bin .add (.bin (.bits 6 .i64) (.var 0) (.lit 64)) (.lit 224)) (.lit 352))) (.assert (.tt (.bin .le (.lit 0) (.bin .tmod (.var 0) (.lit 64)))) (.branch (.bin .eq (.bin (.bits 0 .u64) (.bin (.bits 5 .u64) (.sel (.upd (.upd (.upd (.upd (.upd (.upd (.upd (.upd (.upd .zt (.lit 160) 0 (.lit 0)) (.lit 152) 0 (.lit 1)) (.lit 132) 0 (.lit 1)) (.lit 114) 0 (.lit 1)) (.lit 97) 0 (.lit 1)) (.lit 80) 0 (.lit 4294967296)) (.lit 64) 0 (.lit 65536)) (.lit 48) 0 (.lit 256)) (.lit 224) 0 (.lit 1)) (.bin .add (.bin (.bits 6 .i64) (.var 0) (.lit 64)) (.lit 224)) 0) (.bin .tmod (.var 0) (.lit 64))) (.lit 1)) (.lit 1)) (.assert (.rng .i64 (.bin .add (.var 0) (.lit 1))) (.fail 61)) (.assert (.rng .i64 (.bin .add (.var 0) (.lit 1))) (.assert (.tt (.bin .le (.lit 1) (.bin .add (.var 0) (.lit 1)))) (.assert (.tt (.bin .le (.bin .add (.var 0) (.lit 1)) (.lit 1024))) (.assert (.tt (.bin .le (.lit 0) (.bin .sub (.lit 1024) (.bin .add (.var 0) (.lit 1))))) (.assert (.tt (.bin .lt (.bin .sub (.lit 1024) (.bin .add (.var 0) (.lit 1))) (.bin .sub (.lit 1024) (.var 0)))) .ok))))))))))) .ok))))
theorem far {f : Int → Nat → Int} {r x v : Int} {c : Nat} (h : x ≠ r) : tupd f r c v x 0 = f x 0 := by simp [tupd, h]
theorem pages_free {x : Int} (h : 8 ≤ x) : tupd (tupd (tupd (tupd (tupd (tupd (tupd (tupd (fun _ _ => 0) 0 0 3) 1 0 2) 2 0 2) 3 0 1) 4 0 1) 5 0 1) 6 0 1) 7 0 3 x 0 = 0 := by
  rw [far (by omega), far (by omega), far (by omega), far (by omega), far (by omega), far (by omega), far (by omega), far (by omega)]
theorem shr_one : ∀ k : Fin 64, k.val ≠ 0 → bitsEv 5 .u64 1 (k.val : Int) = 0 := by decide
theorem given_none {x : Int} (h1 : 1 ≤ x) (h2 : x < 1024) : bitsEv 0 .u64 (bitsEv 5 .u64 (tupd (tupd (tupd (tupd (tupd (tupd (tupd (tupd (tupd (fun _ _ => 0) 160 0 0) 152 0 1) 132 0 1) 114 0 1) 97 0 1) 80 0 4294967296) 64 0 65536) 48 0 256) 224 0 1 (x / 64 + 224) 0) (x % 64)) 1 = 0 := by
  by_cases h : x < 64
  · have e : x / 64 + 224 = 224 := by omega
    have e2 : x % 64 = x := by omega
    rw [e, e2]
    have := shr_one ⟨x.toNat, by omega⟩ (by simp only; omega)
    simp only [show ((x.toNat : Nat) : Int) = x by omega] at this
    simp only [tupd, and_self, if_true, this]
    rfl
  · rw [far (by omega), far (by omega), far (by omega), far (by omega), far (by omega), far (by omega), far (by omega), far (by omega), far (by omega)]
    exact bits_zero _
theorem vV43 : ∀ ds, Sorts cV43.sorts ds → tV43.vc I ds := by
  refine all_n ?_
  set_option linter.unusedSimpArgs false in
  simp only [tV43, Tree.vc, PE.den, E.den, dens, BO.ev, List.getElem?_cons_zero, List.getElem?_cons_succ, List.cons_append, List.nil_append, Option.some.injEq, D.i.injEq, D.t.injEq, exists_eq_left', exists_const, forall_const, forall_eq', one_ne, one_eq, zero_ne, zero_eq, min_i64, max_i64, min_u8, max_u8, min_u16, max_u16, min_u32, max_u32, min_u64, max_u64, and_true, true_and]
  intro x h8 hx hor
  refine ⟨fun hlt => ?_, fun hge y h0 hy => ⟨fun hlt => ?_, fun _ => trivial⟩⟩
  · rw [pages_free h8]
    refine ⟨by omega, by omega, by omega, rfl, ?_⟩
    rintro y _ _ hxy hy rfl rfl
    rw [pages_free (show 8 ≤ y by omega)]
    repeat' (first | omega | (intro _) | (refine And.intro ?_ ?_) | trivial)
  · repeat' (first | omega | (intro _) | (refine And.intro ?_ ?_) | trivial)
theorem vB44 : ∀ ds, Sorts cB44.sorts ds → tB44.vc I ds := by
  refine all_n ?_
  set_option linter.unusedSimpArgs false in
  simp only [tB44, Tree.vc, PE.den, E.den, dens, BO.ev, List.getElem?_cons_zero, List.getElem?_cons_succ, List.cons_append, List.nil_append, Option.some.injEq, D.i.injEq, D.t.injEq, exists_eq_left', exists_const, forall_const, forall_eq', one_ne, one_eq, zero_ne, zero_eq, min_i64, max_i64, min_u8, max_u8, min_u16, max_u16, min_u32, max_u32, min_u64, max_u64, and_true, true_and]
  intro x h1 h2
  refine ⟨fun hlt => ?_, fun _ => trivial⟩
  have hm : x.tmod 64 = x % 64 := Int.tmod_eq_emod_of_nonneg (by omega)
  rw [quo64 (by omega) hlt, hm, given_none h1 hlt]
  repeat' (first | omega | (intro _) | (refine And.intro ?_ ?_) | trivial)
end Go.Mg
namespace Go.Mg
open Go Go.Sx
set_option maxRecDepth 10000
def w (t : E) (r : Int) (c : Nat) (x : Int) : E := .upd t (.lit r) c (.lit x)
def q (n : Int) : AV := .int .i64 (.lit n)
def q0 : AV := .int .i64 (.lit 0)
def q1 : AV := .int .i64 (.lit 1)
def b0 : AV := .bool (.lit 0)
def b1 : AV := .bool (.lit 1)
def u (n : Int) : AV := .int .u64 (.lit n)
def p (b k : Nat) : AV := .ptr b (.lit 0) 0 k
def auZ : E := .kt ([0, 0, -1] ++ List.replicate 67 0)
def sb0 : Blk := .cells [(p 1 0), (p 2 0), q0, (p 3 0), q0, q0, q0, q0, q0, q0, q0, .nilslice, b0, .nilslice, .nilslice, q0, q0, q0, q0, q0, q0, q0, q0, .nilslice, b0, .nilslice, .nilslice, q0, q0, q0, q0, q0, q0, q0, q0, .nilslice, b0, .nilslice, .nilslice, q0, q0, q0, q0, q0, q0, q0, q0, .nilslice, b0, .nilslice, .nilslice, q0, q0, q0, q0, q0, q0, q0, q0, .nilslice, b0, .nilslice, .nilslice, q0, q0, q0, q0, q0, q0, q0, q0, .nilslice, b0, .nilslice, .nilslice, q0, q0, q0, q0, q0, q0, q0, q0, .nilslice, b0, .nilslice, .nilslice, q0, q0, q0, q0, q0, q0, q0, q0, .nilslice, b0, .nilslice, .nilslice, q0, q0, q0, q0, q0, q0, q0, q0, .nilslice, b0, .nilslice, .nilslice, q0, q0, q0, q0, q0, q0, q0, q0, .nilslice, b0, .nilslice, .nilslice, q0, q0, q0, q0, q0, q0, q0, q0, .nilslice, b0, .nilslice, .nilslice, q0, q0, q0, q0, q0, q0, q0, q0, .nilslice, b0, .nilslice, .nilslice, q0, q0, q0, q0, q0, q0, q0, q0, .nilslice, b0, .nilslice, .nilslice, q0, q0, q0, q0, q0, q0, q0, q0, .nilslice, b0, .nilslice, .nilslice, q0, q0, q0, q0, q0, q0, q0, q0, .nilslice, b0, .nilslice, .nilslice, q0, q0, q0, q0, q0, q0, q0, q0, .nilslice, b0, .nilslice, .nilslice, q0] true
def sb1 : Blk := .cells [(p 4 0), (p 5 0), (p 6 0), .nilslice, q0] true
def sb2 : Blk := .big [b1, (q 10)] [(.int .u64)] (w .zt 160 0 1) 352 [] true
def sb3 : Blk := .cells [(.slice 7 (.lit 0) (.lit 16) 3 false), (q 16), (.slice 8 (.lit 0) (.lit 1) 1 false), q0] true
def sb4 : Blk := .big [b1] pgK .zt 1024 [.nilslice, q0, q0, q0, q0, q0, q0, q0, q0, q0, q0, q0, q0, q0, q0] true
def sb5 : Blk := .cells [b1, (.slice 9 (.lit 0) (.lit 1) 6 false)] true
def sb6 : Blk := .big [(q 10), q0, (q 2), q0, (p 10 0)] [(.int .i64)] .zt 1024 [] true
def sb7 : Blk := .rows [(.int .i64), .bool, (.int .i64)] .zt (.lit 16) true false
def sb8 : Blk := .rows [(.int .u64)] (w .zt 0 0 65535) (.lit 1) true false
def sb9 : Blk := .rows [(.int .i64), (.int .i64), (.int .i64), (.int .i64), .bool, (.int .i64)] (w (w .zt 0 0 (-1)) 0 1 20) (.lit 1) true false
def sb10 : Blk := .cells [(.slice 11 (.lit 0) (.lit 1024) 5 false), (.slice 12 (.lit 0) (.lit 1) 3 false), q0] true
def sb11 : Blk := .rows [(.int .i64), (.int .i64), (.int .i64), (.int .i64), (.int .i64)] (.kt [0, 0, -1, -1, -1]) (.lit 1024) true false
def sb12 : Blk := .rows [(.int .i64), (.int .i64), (.int .i64)] (.kt [-1, -1, 0]) (.lit 1) true false
def sb13 : Blk := .cells [(p 1 0), (p 2 0), q0, (p 3 0), q0, (q 8), q1, q1, q0, q1, q0, .nilslice, b0, .nilslice, .nilslice, q1, q0, q0, q0, q0, q0, q0, q0, .nilslice, b0, .nilslice, .nilslice, q0, q0, q0, q0, q0, q0, q0, q0, .nilslice, b0, .nilslice, .nilslice, q0, q0, q0, q0, q0, q0, q0, q0, .nilslice, b0, .nilslice, .nilslice, q0, q0, q0, q0, q0, q0, q0, q0, .nilslice, b0, .nilslice, .nilslice, q0, q0, q0, q0, q0, q0, q0, q0, .nilslice, b0, .nilslice, .nilslice, q0, q0, q0, q0, q0, q0, q0, q0, .nilslice, b0, .nilslice, .nilslice, q0, q0, q0, q0, q0, q0, q0, q0, .nilslice, b0, .nilslice, .nilslice, q0, q0, q0, q0, q0, q0, q0, q0, .nilslice, b0, .nilslice, .nilslice, q0, q0, q0, q0, q0, q0, q0, q0, .nilslice, b0, .nilslice, .nilslice, q0, q0, q0, q0, q0, q0, q0, q0, .nilslice, b0, .nilslice, .nilslice, q0, q0, q0, q0, q0, q0, q0, q0, .nilslice, b0, .nilslice, .nilslice, q0, q0, q0, q0, q0, q0, q0, q0, .nilslice, b0, .nilslice, .nilslice, q0, q0, q0, q0, q0, q0, q0, q0, .nilslice, b0, .nilslice, .nilslice, q0, q0, q0, q0, q0, q0, q0, q0, .nilslice, b0, .nilslice, .nilslice, q0, q0, q0, q0, q0, q0, q0, q0, .nilslice, b0, .nilslice, .nilslice, q0] true
def sb14 : Blk := .big [b1, (q 10)] [(.int .u64)] (w (w (w (w (w (w (w (w (w .zt 160 0 0) 152 0 1) 132 0 1) 114 0 1) 97 0 1) 80 0 4294967296) 64 0 65536) 48 0 256) 224 0 1) 352 [] true
def sb15 : Blk := .big [b1] pgK (w (w (w (w (w (w (w (w .zt 0 0 3) 1 0 1) 2 0 1) 3 0 1) 4 0 1) 5 0 1) 6 0 1) 7 0 3) 1024 [.nilslice, q1, q0, q0, q0, (q 2), q0, q0, q0, q0, q0, q0, q0, q0, q0] true
def sb16 : Blk := .rows [(.int .i64), .bool, (.int .i64)] (w (w .zt 0 0 1) 0 1 1) (.lit 16) true false
def sb17 : Blk := .rows [(.int .u64)] (w .zt 0 0 65534) (.lit 1) true false
def sb18 : Blk := .rows [(.int .i64), (.int .i64), (.int .i64), (.int .i64), .bool, (.int .i64)] (w (w (w .zt 0 0 (-1)) 0 1 20) 1 1 4096) (.lit 2) true false
def sb19 : Blk := .cells [(p 2 0), (p 3 0), (p 4 0), .nilslice, q0] true
def sb20 : Blk := .big [b1] pgK (w (w (w (w (w (w (w (w .zt 0 0 3) 1 0 2) 2 0 2) 3 0 1) 4 0 1) 5 0 1) 6 0 1) 7 0 3) 1024 [.nilslice, q1, q0, q1, q0, (q 2), q0, q0, q0, q0, q0, q0, q0, q0, q0] true
def sb21 : Blk := .cells [b1, (.slice 5 (.lit 0) (.lit 2) 6 false)] true
def sb22 : Blk := .big [(q 10), q0, (q 2), q0, (p 6 0)] [(.int .i64)] .zt 1024 [] true
def sb23 : Blk := .rows [(.int .i64), (.int .i64), (.int .i64), (.int .i64), .bool, (.int .i64)] (w (w (w (w (w (w (w (w .zt 0 0 (-1)) 0 1 20) 1 1 4096) 1 2 2) 1 5 2) 1 3 2) 0 5 2) 0 3 2) (.lit 2) true false
def sb24 : Blk := .cells [(.slice 7 (.lit 0) (.lit 1024) 5 false), (.slice 8 (.lit 0) (.lit 1) 3 false), q0] true
def sb25 : Blk := .cells [(p 1 0), (p 2 0), (p 3 0), .nilslice, q0] true
def sb26 : Blk := .cells [b1, (.slice 4 (.lit 0) (.lit 2) 6 false)] true
def sb27 : Blk := .big [(q 10), q0, (q 2), q0, (p 5 0)] [(.int .i64)] .zt 1024 [] true
def sb28 : Blk := .cells [(.slice 6 (.lit 0) (.lit 1024) 5 false), (.slice 7 (.lit 0) (.lit 1) 3 false), q0] true
def sb29 : Blk := .rows [(.int .i64), (.int .i64)] (w (w .zt 0 0 64) 0 1 100) (.lit 1) true false
def sb30 : Blk := .cells [(.slice 7 (.lit 0) (.lit 16) 3 false), (q 16), (.slice 8 (.lit 0) (.lit 1) 1 false), q1] true
def sb31 : Blk := .cells [b1, (.slice 9 (.lit 0) (.lit 2) 6 false)] true
def sb32 : Blk := .rows [(.int .i64), (.int .i64)] (w .zt 0 1 2) (.lit 1) true false
def sb33 : Blk := .rows [(.int .i64), (.int .i64)] .zt (.lit 0) true false
def sb34 : Blk := .cells [b1, (.slice 7 (.lit 0) (.lit 2) 6 false)] true
def sb35 : Blk := .rows [(.int .i64), (.int .i64), (.int .i64), (.int .i64), (.int .i64)] (.upd (.upd (.upd (.upd (.upd (.upd (.kt [0, 0, -1, -1, -1]) (.lit 0) 0 (.lit 1)) (.lit 0) 2 (.lit 0)) (.lit 1) 0 (.lit 2)) (.lit 1) 2 (.lit 0)) (.lit 1) 4 (.lit 0)) (.lit 0) 3 (.lit 1)) (.lit 1024) true false
def sb36 : Blk := .rows [(.int .i64), (.int .i64), (.int .i64)] (.upd (.upd (.upd (.kt [-1, -1, 0]) (.lit 0) 0 (.lit 0)) (.lit 0) 1 (.lit 1)) (.lit 0) 2 (.lit 2)) (.lit 1) true false
def sb37 : Blk := .cells [(p 3 0), (p 4 0), (p 5 0), .nilslice, q0] true
def sb38 : Blk := .cells [b1, (.slice 6 (.lit 0) (.lit 2) 6 false)] true
def sb39 : Blk := .cells [(p 5 0), (p 6 0), (p 7 0), .nilslice, q0] true
def sb40 : Blk := .cells [(.slice 8 (.lit 0) (.lit 16) 3 false), (q 16), (.slice 9 (.lit 0) (.lit 1) 1 false), q1] true
def sb41 : Blk := .cells [b1, (.slice 10 (.lit 0) (.lit 2) 6 false)] true
def sb42 : Blk := .cells [(p 1 0), (p 2 0), q0, (p 3 0), q0, (q 8), q1, q1, q0, q1, q0, (.slice 4 (.lit 0) (.lit 1) 2 false), b0, (.slice 5 (.lit 0) (.lit 0) 2 false), .nilslice, q1, q0, q0, q0, q0, q0, q0, q0, .nilslice, b0, .nilslice, .nilslice, q0, q0, q0, q0, q0, q0, q0, q0, .nilslice, b0, .nilslice, .nilslice, q0, q0, q0, q0, q0, q0, q0, q0, .nilslice, b0, .nilslice, .nilslice, q0, q0, q0, q0, q0, q0, q0, q0, .nilslice, b0, .nilslice, .nilslice, q0, q0, q0, q0, q0, q0, q0, q0, .nilslice, b0, .nilslice, .nilslice, q0, q0, q0, q0, q0, q0, q0, q0, .nilslice, b0, .nilslice, .nilslice, q0, q0, q0, q0, q0, q0, q0, q0, .nilslice, b0, .nilslice, .nilslice, q0, q0, q0, q0, q0, q0, q0, q0, .nilslice, b0, .nilslice, .nilslice, q0, q0, q0, q0, q0, q0, q0, q0, .nilslice, b0, .nilslice, .nilslice, q0, q0, q0, q0, q0, q0, q0, q0, .nilslice, b0, .nilslice, .nilslice, q0, q0, q0, q0, q0, q0, q0, q0, .nilslice, b0, .nilslice, .nilslice, q0, q0, q0, q0, q0, q0, q0, q0, .nilslice, b0, .nilslice, .nilslice, q0, q0, q0, q0, q0, q0, q0, q0, .nilslice, b0, .nilslice, .nilslice, q0, q0, q0, q0, q0, q0, q0, q0, .nilslice, b0, .nilslice, .nilslice, q0, q0, q0, q0, q0, q0, q0, q0, .nilslice, b0, .nilslice, .nilslice, q0] true
def sb43 : Blk := .cells [(p 6 0), (p 7 0), (p 8 0), .nilslice, q0] true
def sb44 : Blk := .cells [(.slice 9 (.lit 0) (.lit 16) 3 false), (q 16), (.slice 10 (.lit 0) (.lit 1) 1 false), q1] true
def sb45 : Blk := .cells [b1, (.slice 11 (.lit 0) (.lit 2) 6 false)] true
def sb46 : Blk := .big [(q 10), q0, (q 2), (q 2), (p 12 0)] [(.int .i64)] (w (w .zt 1 0 1) 2 0 2) 1024 [] true
def sb47 : Blk := .cells [(.slice 13 (.lit 0) (.lit 1024) 5 false), (.slice 14 (.lit 0) (.lit 1) 3 false), q1] true
def sb48 : Blk := .rows [(.int .i64), (.int .i64), (.int .i64)] (w (w (w (w (w (w (w (w (w (w (w .zt 0 1 1) 0 2 3) 1 0 1) 1 1 2) 1 2 2) 2 0 3) 2 1 4) 2 2 1) 3 0 7) 3 1 1) 3 2 3) (.lit 4) true false
def sb49 : Blk := .rows [(.int .i64), (.int .i64)] (w .zt 0 1 3) (.lit 1) true false
def sb50 : Blk := .rows [(.int .i64), (.int .i64), (.int .i64), (.int .i64), .bool] (w (w (w (w (w (w .zt 0 0 (-1)) 0 1 20) 0 3 2) 1 1 4096) 1 2 2) 1 3 2) (.lit 2) true false
def sb51 : Blk := .rows [(.int .i64), (.int .i64)] (w (w .zt 0 0 1) 1 0 2) (.lit 2) true false
def sb52 : Blk := .rows [(.int .i64)] (w .zt 0 0 1) (.lit 16) true false
def sb53 : Blk := .rows [.bool] (w .zt 0 0 1) (.lit 16) true false
def sb54 : Blk := .rows [(.int .i64)] .zt (.lit 16) true false
def sb55 : Blk := .big [(.slice 0 (.lit 0) (.lit 4) 3 false), .nilslice, .nilslice, .nilslice, q1, q0, q1, q0, (q 2), q0, q0, q0, q0, q0, q0, q0, q0, q0, (q 10), (.slice 1 (.lit 0) (.lit 1) 2 false), (.slice 2 (.lit 0) (.lit 2) 5 false), (q 10), q0, (q 2), (.slice 3 (.lit 0) (.lit 2) 2 false), .nilslice, q0, (.slice 4 (.lit 0) (.lit 16) 1 false), (.slice 5 (.lit 0) (.lit 16) 1 false), (.slice 6 (.lit 0) (.lit 16) 1 false), q0, (q 8), q1, q1, q0, q1, q0, (.slice 7 (.lit 0) (.lit 1) 2 false), b0, (.slice 8 (.lit 0) (.lit 0) 2 false), .nilslice, q1, q0, q0, q0, q0, q0, q0, q0, .nilslice, b0, .nilslice, .nilslice, q0, q0, q0, q0, q0, q0, q0, q0, .nilslice, b0, .nilslice, .nilslice, q0, q0, q0, q0, q0, q0, q0, q0, .nilslice, b0, .nilslice, .nilslice, q0, q0, q0, q0, q0, q0, q0, q0, .nilslice, b0, .nilslice, .nilslice, q0, q0, q0, q0, q0, q0, q0, q0, .nilslice, b0, .nilslice, .nilslice, q0, q0, q0, q0, q0, q0, q0, q0, .nilslice, b0, .nilslice, .nilslice, q0, q0, q0, q0, q0, q0, q0, q0, .nilslice, b0, .nilslice, .nilslice, q0, q0, q0, q0, q0, q0, q0, q0, .nilslice, b0, .nilslice, .nilslice, q0, q0, q0, q0, q0, q0, q0, q0, .nilslice, b0, .nilslice, .nilslice, q0, q0, q0, q0, q0, q0, q0, q0, .nilslice, b0, .nilslice, .nilslice, q0, q0, q0, q0, q0, q0, q0, q0, .nilslice, b0, .nilslice, .nilslice, q0, q0, q0, q0, q0, q0, q0, q0, .nilslice, b0, .nilslice, .nilslice, q0, q0, q0, q0, q0, q0, q0, q0, .nilslice, b0, .nilslice, .nilslice, q0, q0, q0, q0, q0, q0, q0, q0, .nilslice, b0, .nilslice, .nilslice, q0, q0, q0, q0, q0, q0, q0, q0, .nilslice, b0, .nilslice, .nilslice, q0, b1, b0, b0, b0, b0, b0, b0, b0, b0, b0, b0, b0, b0, b0, b0, b0, b1, b0, b0, b0, b0, b0, b0, b0, b0, b0, b0, b0, b0, b0, b0, b0] auK (w (w (w (w (w (w (w (w (w (w (w (w (w (w (w (w (w (w (w (w (w (w (w (w (w (w (w (w auZ 0 0 3) 0 1 3) 0 2 0) 1 0 2) 1 1 2) 1 2 0) 1 3 1) 1 4 1) 2 0 2) 2 1 2) 2 2 0) 2 3 1) 2 4 1) 3 0 1) 3 1 1) 3 2 0) 4 0 1) 4 1 1) 4 2 0) 5 0 1) 5 1 1) 5 2 0) 6 0 1) 6 1 1) 6 2 0) 7 0 3) 7 1 3) 7 2 0) 1024 [(.mref 10), .nilslice] true
def sb56 : List AV := [(.agg [(.slice 0 (.lit 0) (.lit 4) 3 false), .nilslice, .nilslice, .nilslice, q1, q0, q1, q0, (q 2), q0, q0, q0, q0, q0, q0, q0, q0, q0, (q 10), (.slice 1 (.lit 0) (.lit 1) 2 false), (.slice 2 (.lit 0) (.lit 2) 5 false), (q 10), q0, (q 2), (.slice 3 (.lit 0) (.lit 2) 2 false), .nilslice, q0, (.slice 4 (.lit 0) (.lit 16) 1 false), (.slice 5 (.lit 0) (.lit 16) 1 false), (.slice 6 (.lit 0) (.lit 16) 1 false), q0, (q 8), q1, q1, q0, q1, q0, (.slice 7 (.lit 0) (.lit 1) 2 false), b0, (.slice 8 (.lit 0) (.lit 0) 2 false), .nilslice, q1, q0, q0, q0, q0, q0, q0, q0, .nilslice, b0, .nilslice, .nilslice, q0, q0, q0, q0, q0, q0, q0, q0, .nilslice, b0, .nilslice, .nilslice, q0, q0, q0, q0, q0, q0, q0, q0, .nilslice, b0, .nilslice, .nilslice, q0, q0, q0, q0, q0, q0, q0, q0, .nilslice, b0, .nilslice, .nilslice, q0, q0, q0, q0, q0, q0, q0, q0, .nilslice, b0, .nilslice, .nilslice, q0, q0, q0, q0, q0, q0, q0, q0, .nilslice, b0, .nilslice, .nilslice, q0, q0, q0, q0, q0, q0, q0, q0, .nilslice, b0, .nilslice, .nilslice, q0, q0, q0, q0, q0, q0, q0, q0, .nilslice, b0, .nilslice, .nilslice, q0, q0, q0, q0, q0, q0, q0, q0, .nilslice, b0, .nilslice, .nilslice, q0, q0, q0, q0, q0, q0, q0, q0, .nilslice, b0, .nilslice, .nilslice, q0, q0, q0, q0, q0, q0, q0, q0, .nilslice, b0, .nilslice, .nilslice, q0, q0, q0, q0, q0, q0, q0, q0, .nilslice, b0, .nilslice, .nilslice, q0, q0, q0, q0, q0, q0, q0, q0, .nilslice, b0, .nilslice, .nilslice, q0, q0, q0, q0, q0, q0, q0, q0, .nilslice, b0, .nilslice, .nilslice, q0, q0, q0, q0, q0, q0, q0, q0, .nilslice, b0, .nilslice, .nilslice, q0])]
def sb57 : Blk := .rows [(.int .i64), (.int .i64), (.int .i64), (.int .i64), .bool] (w (w (w (w (w (w .zt 0 0 (-1)) 0 1 20) 0 3 3) 1 1 4096) 1 2 3) 1 3 3) (.lit 2) true false
def sb58 : Blk := .big [(.slice 2 (.lit 0) (.lit 4) 3 false), .nilslice, .nilslice, .nilslice, q1, q0, q1, q0, (q 2), q0, q0, q0, q0, q0, q0, q0, q0, q0, (q 10), (.slice 3 (.lit 0) (.lit 1) 2 false), (.slice 4 (.lit 0) (.lit 2) 5 false), (q 10), q0, (q 2), (.slice 5 (.lit 0) (.lit 2) 2 false), .nilslice, q0, (.slice 6 (.lit 0) (.lit 16) 1 false), (.slice 7 (.lit 0) (.lit 16) 1 false), (.slice 8 (.lit 0) (.lit 16) 1 false), q0, (q 8), q1, q1, q0, q1, q0, (.slice 9 (.lit 0) (.lit 1) 2 false), b0, (.slice 10 (.lit 0) (.lit 0) 2 false), .nilslice, q1, q0, q0, q0, q0, q0, q0, q0, .nilslice, b0, .nilslice, .nilslice, q0, q0, q0, q0, q0, q0, q0, q0, .nilslice, b0, .nilslice, .nilslice, q0, q0, q0, q0, q0, q0, q0, q0, .nilslice, b0, .nilslice, .nilslice, q0, q0, q0, q0, q0, q0, q0, q0, .nilslice, b0, .nilslice, .nilslice, q0, q0, q0, q0, q0, q0, q0, q0, .nilslice, b0, .nilslice, .nilslice, q0, q0, q0, q0, q0, q0, q0, q0, .nilslice, b0, .nilslice, .nilslice, q0, q0, q0, q0, q0, q0, q0, q0, .nilslice, b0, .nilslice, .nilslice, q0, q0, q0, q0, q0, q0, q0, q0, .nilslice, b0, .nilslice, .nilslice, q0, q0, q0, q0, q0, q0, q0, q0, .nilslice, b0, .nilslice, .nilslice, q0, q0, q0, q0, q0, q0, q0, q0, .nilslice, b0, .nilslice, .nilslice, q0, q0, q0, q0, q0, q0, q0, q0, .nilslice, b0, .nilslice, .nilslice, q0, q0, q0, q0, q0, q0, q0, q0, .nilslice, b0, .nilslice, .nilslice, q0, q0, q0, q0, q0, q0, q0, q0, .nilslice, b0, .nilslice, .nilslice, q0, q0, q0, q0, q0, q0, q0, q0, .nilslice, b0, .nilslice, .nilslice, q0, q0, q0, q0, q0, q0, q0, q0, .nilslice, b0, .nilslice, .nilslice, q0, b1, b0, b0, b0, b0, b0, b0, b0, b0, b0, b0, b0, b0, b0, b0, b0, b1, b0, b0, b0, b0, b0, b0, b0, b0, b0, b0, b0, b0, b0, b0, b0] auK (w (w (w (w (w (w (w (w (w (w (w (w (w (w (w (w (w (w (w (w (w (w (w (w (w (w (w (w auZ 0 0 3) 0 1 3) 0 2 0) 1 0 2) 1 1 2) 1 2 0) 1 3 1) 1 4 1) 2 0 2) 2 1 2) 2 2 0) 2 3 1) 2 4 1) 3 0 1) 3 1 1) 3 2 0) 4 0 1) 4 1 1) 4 2 0) 5 0 1) 5 1 1) 5 2 0) 6 0 1) 6 1 1) 6 2 0) 7 0 3) 7 1 3) 7 2 0) 1024 [(.mref 1), .nilslice] true
def sb59 : Blk := .big [(.slice 3 (.lit 0) (.lit 4) 3 false), .nilslice, .nilslice, .nilslice, q1, q0, q1, q0, (q 2), q0, q0, q0, q0, q0, q0, q0, q0, q0, (q 10), (.slice 4 (.lit 0) (.lit 1) 2 false), (.slice 5 (.lit 0) (.lit 2) 5 false), (q 10), q0, (q 2), (.slice 6 (.lit 0) (.lit 2) 2 false), .nilslice, q0, (.slice 7 (.lit 0) (.lit 16) 1 false), (.slice 8 (.lit 0) (.lit 16) 1 false), (.slice 9 (.lit 0) (.lit 16) 1 false), q0, (q 8), q1, q1, q0, q1, q0, (.slice 10 (.lit 0) (.lit 1) 2 false), b0, (.slice 11 (.lit 0) (.lit 0) 2 false), .nilslice, q1, q0, q0, q0, q0, q0, q0, q0, .nilslice, b0, .nilslice, .nilslice, q0, q0, q0, q0, q0, q0, q0, q0, .nilslice, b0, .nilslice, .nilslice, q0, q0, q0, q0, q0, q0, q0, q0, .nilslice, b0, .nilslice, .nilslice, q0, q0, q0, q0, q0, q0, q0, q0, .nilslice, b0, .nilslice, .nilslice, q0, q0, q0, q0, q0, q0, q0, q0, .nilslice, b0, .nilslice, .nilslice, q0, q0, q0, q0, q0, q0, q0, q0, .nilslice, b0, .nilslice, .nilslice, q0, q0, q0, q0, q0, q0, q0, q0, .nilslice, b0, .nilslice, .nilslice, q0, q0, q0, q0, q0, q0, q0, q0, .nilslice, b0, .nilslice, .nilslice, q0, q0, q0, q0, q0, q0, q0, q0, .nilslice, b0, .nilslice, .nilslice, q0, q0, q0, q0, q0, q0, q0, q0, .nilslice, b0, .nilslice, .nilslice, q0, q0, q0, q0, q0, q0, q0, q0, .nilslice, b0, .nilslice, .nilslice, q0, q0, q0, q0, q0, q0, q0, q0, .nilslice, b0, .nilslice, .nilslice, q0, q0, q0, q0, q0, q0, q0, q0, .nilslice, b0, .nilslice, .nilslice, q0, q0, q0, q0, q0, q0, q0, q0, .nilslice, b0, .nilslice, .nilslice, q0, q0, q0, q0, q0, q0, q0, q0, .nilslice, b0, .nilslice, .nilslice, q0, b1, b0, b0, b0, b0, b0, b0, b0, b0, b0, b0, b0, b0, b0, b0, b0, b1, b0, b0, b0, b0, b0, b0, b0, b0, b0, b0, b0, b0, b0, b0, b0] auK (w (w (w (w (w (w (w (w (w (w (w (w (w (w (w (w (w (w (w (w (w (w (w (w (w (w (w (w auZ 0 0 3) 0 1 3) 0 2 0) 1 0 2) 1 1 2) 1 2 0) 1 3 1) 1 4 1) 2 0 2) 2 1 2) 2 2 0) 2 3 1) 2 4 1) 3 0 1) 3 1 1) 3 2 0) 4 0 1) 4 1 1) 4 2 0) 5 0 1) 5 1 1) 5 2 0) 6 0 1) 6 1 1) 6 2 0) 7 0 3) 7 1 3) 7 2 0) 1024 [(.mref 1), (.slice 2 (.lit 0) (.lit 1) 4 false)] true
def sb60 : Blk := .rows [(.int .i64), (.int .i64), (.int .i64), (.int .i64)] (w (w (w (w .zt 0 0 11) 0 1 1) 0 2 2) 0 3 3) (.lit 1) true false
def sb61 : AV := (.slice 11 (.lit 0) (.lit 1) 4 false)
def sb62 : AV := (.slice 9 (.lit 0) (.lit 1) 4 false)
def sb63 : List AV := [(.agg [(.slice 0 (.lit 0) (.lit 4) 3 false), .nilslice, .nilslice, .nilslice, q1, q0, q1, q0, (q 2), q0, q0, q0, q0, q0, q0, q0, q0, q0, (q 10), (.slice 1 (.lit 0) (.lit 1) 2 false), (.slice 2 (.lit 0) (.lit 2) 5 false), (q 10), q0, (q 2), (.slice 3 (.lit 1) (.lit 1) 2 false), .nilslice, q0, (.slice 4 (.lit 0) (.lit 16) 1 false), (.slice 5 (.lit 0) (.lit 16) 1 false), (.slice 6 (.lit 0) (.lit 16) 1 false), q0, (q 8), q1, q1, q0, q1, q0, (.slice 7 (.lit 0) (.lit 1) 2 false), b0, (.slice 8 (.lit 0) (.lit 0) 2 false), .nilslice, q1, q0, q0, q0, q0, q0, q0, q0, .nilslice, b0, .nilslice, .nilslice, q0, q0, q0, q0, q0, q0, q0, q0, .nilslice, b0, .nilslice, .nilslice, q0, q0, q0, q0, q0, q0, q0, q0, .nilslice, b0, .nilslice, .nilslice, q0, q0, q0, q0, q0, q0, q0, q0, .nilslice, b0, .nilslice, .nilslice, q0, q0, q0, q0, q0, q0, q0, q0, .nilslice, b0, .nilslice, .nilslice, q0, q0, q0, q0, q0, q0, q0, q0, .nilslice, b0, .nilslice, .nilslice, q0, q0, q0, q0, q0, q0, q0, q0, .nilslice, b0, .nilslice, .nilslice, q0, q0, q0, q0, q0, q0, q0, q0, .nilslice, b0, .nilslice, .nilslice, q0, q0, q0, q0, q0, q0, q0, q0, .nilslice, b0, .nilslice, .nilslice, q0, q0, q0, q0, q0, q0, q0, q0, .nilslice, b0, .nilslice, .nilslice, q0, q0, q0, q0, q0, q0, q0, q0, .nilslice, b0, .nilslice, .nilslice, q0, q0, q0, q0, q0, q0, q0, q0, .nilslice, b0, .nilslice, .nilslice, q0, q0, q0, q0, q0, q0, q0, q0, .nilslice, b0, .nilslice, .nilslice, q0, q0, q0, q0, q0, q0, q0, q0, .nilslice, b0, .nilslice, .nilslice, q0, q0, q0, q0, q0, q0, q0, q0, .nilslice, b0, .nilslice, .nilslice, q0])]
def sb64 : Blk := .big [(.slice 2 (.lit 0) (.lit 4) 3 false), .nilslice, .nilslice, .nilslice, q1, q0, q1, q0, (q 2), q0, q0, q0, q0, q0, q0, q0, q0, q0, (q 10), (.slice 3 (.lit 0) (.lit 1) 2 false), (.slice 4 (.lit 0) (.lit 2) 5 false), (q 10), q0, (q 2), (.slice 5 (.lit 1) (.lit 1) 2 false), .nilslice, q0, (.slice 6 (.lit 0) (.lit 16) 1 false), (.slice 7 (.lit 0) (.lit 16) 1 false), (.slice 8 (.lit 0) (.lit 16) 1 false), q0, (q 8), q1, q1, q0, q1, q0, (.slice 9 (.lit 0) (.lit 1) 2 false), b0, (.slice 10 (.lit 0) (.lit 0) 2 false), .nilslice, q1, q0, q0, q0, q0, q0, q0, q0, .nilslice, b0, .nilslice, .nilslice, q0, q0, q0, q0, q0, q0, q0, q0, .nilslice, b0, .nilslice, .nilslice, q0, q0, q0, q0, q0, q0, q0, q0, .nilslice, b0, .nilslice, .nilslice, q0, q0, q0, q0, q0, q0, q0, q0, .nilslice, b0, .nilslice, .nilslice, q0, q0, q0, q0, q0, q0, q0, q0, .nilslice, b0, .nilslice, .nilslice, q0, q0, q0, q0, q0, q0, q0, q0, .nilslice, b0, .nilslice, .nilslice, q0, q0, q0, q0, q0, q0, q0, q0, .nilslice, b0, .nilslice, .nilslice, q0, q0, q0, q0, q0, q0, q0, q0, .nilslice, b0, .nilslice, .nilslice, q0, q0, q0, q0, q0, q0, q0, q0, .nilslice, b0, .nilslice, .nilslice, q0, q0, q0, q0, q0, q0, q0, q0, .nilslice, b0, .nilslice, .nilslice, q0, q0, q0, q0, q0, q0, q0, q0, .nilslice, b0, .nilslice, .nilslice, q0, q0, q0, q0, q0, q0, q0, q0, .nilslice, b0, .nilslice, .nilslice, q0, q0, q0, q0, q0, q0, q0, q0, .nilslice, b0, .nilslice, .nilslice, q0, q0, q0, q0, q0, q0, q0, q0, .nilslice, b0, .nilslice, .nilslice, q0, q0, q0, q0, q0, q0, q0, q0, .nilslice, b0, .nilslice, .nilslice, q0, b1, b0, b0, b0, b0, b0, b0, b0, b0, b0, b0, b0, b0, b0, b0, b0, b1, b0, b0, b0, b0, b0, b0, b0, b0, b0, b0, b0, b0, b0, b0, b0] auK (w (w (w (w (w (w (w (w (w (w (w (w (w (w (w (w (w (w (w (w (w (w (w (w (w (w (w auZ 0 0 3) 0 1 3) 0 2 0) 1 0 2) 1 1 2) 1 2 0) 1 3 1) 2 0 2) 2 1 2) 2 2 0) 2 3 1) 2 4 1) 3 0 1) 3 1 1) 3 2 0) 4 0 1) 4 1 1) 4 2 0) 5 0 1) 5 1 1) 5 2 0) 6 0 1) 6 1 1) 6 2 0) 7 0 3) 7 1 3) 7 2 0) 1024 [(.mref 1), .nilslice] true
def sb65 : Blk := .big [(.slice 2 (.lit 0) (.lit 4) 3 false), .nilslice, .nilslice, .nilslice, q1, q0, q1, q0, (q 2), q0, q0, q0, q0, q0, q0, q0, q0, q0, (q 10), (.slice 3 (.lit 0) (.lit 1) 2 false), (.slice 4 (.lit 0) (.lit 2) 5 false), (q 10), q0, (q 2), (.slice 5 (.lit 1) (.lit 1) 2 false), .nilslice, q0, (.slice 6 (.lit 0) (.lit 16) 1 false), (.slice 7 (.lit 0) (.lit 16) 1 false), (.slice 8 (.lit 0) (.lit 16) 1 false), q0, (q 8), q1, q1, q0, q1, q0, (.slice 9 (.lit 0) (.lit 1) 2 false), b0, (.slice 10 (.lit 0) (.lit 0) 2 false), .nilslice, q1, q0, q0, q0, q0, q0, q0, q0, .nilslice, b0, .nilslice, .nilslice, q0, q0, q0, q0, q0, q0, q0, q0, .nilslice, b0, .nilslice, .nilslice, q0, q0, q0, q0, q0, q0, q0, q0, .nilslice, b0, .nilslice, .nilslice, q0, q0, q0, q0, q0, q0, q0, q0, .nilslice, b0, .nilslice, .nilslice, q0, q0, q0, q0, q0, q0, q0, q0, .nilslice, b0, .nilslice, .nilslice, q0, q0, q0, q0, q0, q0, q0, q0, .nilslice, b0, .nilslice, .nilslice, q0, q0, q0, q0, q0, q0, q0, q0, .nilslice, b0, .nilslice, .nilslice, q0, q0, q0, q0, q0, q0, q0, q0, .nilslice, b0, .nilslice, .nilslice, q0, q0, q0, q0, q0, q0, q0, q0, .nilslice, b0, .nilslice, .nilslice, q0, q0, q0, q0, q0, q0, q0, q0, .nilslice, b0, .nilslice, .nilslice, q0, q0, q0, q0, q0, q0, q0, q0, .nilslice, b0, .nilslice, .nilslice, q0, q0, q0, q0, q0, q0, q0, q0, .nilslice, b0, .nilslice, .nilslice, q0, q0, q0, q0, q0, q0, q0, q0, .nilslice, b0, .nilslice, .nilslice, q0, q0, q0, q0, q0, q0, q0, q0, .nilslice, b0, .nilslice, .nilslice, q0, q0, q0, q0, q0, q0, q0, q0, .nilslice, b0, .nilslice, .nilslice, q0, b1, b0, b0, b0, b0, b0, b0, b0, b0, b0, b0, b0, b0, b0, b0, b0, b1, b0, b0, b0, b0, b0, b0, b0, b0, b0, b0, b0, b0, b0, b0, b0] auK (w (w (w (w (w (w (w (w (w (w (w (w (w (w (w (w (w (w (w (w (w (w (w (w (w (w (w auZ 0 0 3) 0 1 3) 0 2 0) 1 0 2) 1 1 2) 1 2 0) 1 3 1) 2 0 2) 2 1 2) 2 2 0) 2 3 1) 2 4 1) 3 0 1) 3 1 1) 3 2 0) 4 0 1) 4 1 1) 4 2 0) 5 0 1) 5 1 1) 5 2 0) 6 0 1) 6 1 1) 6 2 0) 7 0 3) 7 1 3) 7 2 0) 1024 [(.mref 1), (.slice 11 (.lit 0) (.lit 1) 4 false)] true
def sb66 : Blk := .rows [(.int .i64), (.int .i64), (.int .i64), (.int .i64)] (w (w (w .zt 0 0 12) 0 1 1) 0 2 1) (.lit 1) true false
def sb67 : Blk := .big [(.slice 3 (.lit 0) (.lit 4) 3 false), .nilslice, .nilslice, .nilslice, q1, q0, q1, q0, (q 2), q0, q0, q0, q0, q0, q0, q0, q0, q0, (q 10), (.slice 4 (.lit 0) (.lit 1) 2 false), (.slice 5 (.lit 0) (.lit 2) 5 false), (q 10), q0, (q 2), (.slice 6 (.lit 1) (.lit 1) 2 false), .nilslice, q0, (.slice 7 (.lit 0) (.lit 16) 1 false), (.slice 8 (.lit 0) (.lit 16) 1 false), (.slice 9 (.lit 0) (.lit 16) 1 false), q0, (q 8), q1, q1, q0, q1, q0, (.slice 10 (.lit 0) (.lit 1) 2 false), b0, (.slice 11 (.lit 0) (.lit 0) 2 false), .nilslice, q1, q0, q0, q0, q0, q0, q0, q0, .nilslice, b0, .nilslice, .nilslice, q0, q0, q0, q0, q0, q0, q0, q0, .nilslice, b0, .nilslice, .nilslice, q0, q0, q0, q0, q0, q0, q0, q0, .nilslice, b0, .nilslice, .nilslice, q0, q0, q0, q0, q0, q0, q0, q0, .nilslice, b0, .nilslice, .nilslice, q0, q0, q0, q0, q0, q0, q0, q0, .nilslice, b0, .nilslice, .nilslice, q0, q0, q0, q0, q0, q0, q0, q0, .nilslice, b0, .nilslice, .nilslice, q0, q0, q0, q0, q0, q0, q0, q0, .nilslice, b0, .nilslice, .nilslice, q0, q0, q0, q0, q0, q0, q0, q0, .nilslice, b0, .nilslice, .nilslice, q0, q0, q0, q0, q0, q0, q0, q0, .nilslice, b0, .nilslice, .nilslice, q0, q0, q0, q0, q0, q0, q0, q0, .nilslice, b0, .nilslice, .nilslice, q0, q0, q0, q0, q0, q0, q0, q0, .nilslice, b0, .nilslice, .nilslice, q0, q0, q0, q0, q0, q0, q0, q0, .nilslice, b0, .nilslice, .nilslice, q0, q0, q0, q0, q0, q0, q0, q0, .nilslice, b0, .nilslice, .nilslice, q0, q0, q0, q0, q0, q0, q0, q0, .nilslice, b0, .nilslice, .nilslice, q0, q0, q0, q0, q0, q0, q0, q0, .nilslice, b0, .nilslice, .nilslice, q0, b1, b0, b0, b0, b0, b0, b0, b0, b0, b0, b0, b0, b0, b0, b0, b0, b1, b0, b0, b0, b0, b0, b0, b0, b0, b0, b0, b0, b0, b0, b0, b0] auK (w (w (w (w (w (w (w (w (w (w (w (w (w (w (w (w (w (w (w (w (w (w (w (w (w (w (w auZ 0 0 3) 0 1 3) 0 2 0) 1 0 2) 1 1 2) 1 2 0) 1 3 1) 2 0 2) 2 1 2) 2 2 0) 2 3 1) 2 4 1) 3 0 1) 3 1 1) 3 2 0) 4 0 1) 4 1 1) 4 2 0) 5 0 1) 5 1 1) 5 2 0) 6 0 1) 6 1 1) 6 2 0) 7 0 3) 7 1 3) 7 2 0) 1024 [(.mref 1), (.slice 2 (.lit 0) (.lit 1) 4 false)] true
def st0 : Contract := { fn := 18, sorts := [], args := [(q 20), (q 10), (q 2)], mem := [], nb := 0, pre := [], outs := [], res := (.tup [(p 0 0), q0]), mods := [], fresh := [(0, sb0), (1, sb1), (2, sb2), (3, sb3), (4, sb4), (5, sb5), (6, sb6), (7, sb7), (8, sb8), (9, sb9), (10, sb10), (11, sb11), (12, sb12)], post := [] }
def st1 : Contract := { fn := 19, sorts := [], args := [(p 0 0), (.agg [q1, q0, (q 3), q1, q0])], mem := [(0, sb0), (1, sb1), (2, sb2), (3, sb3), (4, sb4), (5, sb5), (6, sb6), (7, sb7), (8, sb8), (9, sb9), (10, sb10), (11, sb11), (12, sb12)], nb := 13, pre := [], outs := [], res := (.agg [(q 65536), q0]), mods := [(0, sb13), (1, sb1), (2, sb14), (3, .cells [(.slice 7 (.lit 0) (.lit 16) 3 false), (q 16), (.slice 13 (.lit 0) (.lit 1) 1 false), q1] true), (4, sb15), (5, .cells [b1, (.slice 14 (.lit 0) (.lit 2) 6 false)] true), (6, sb6), (7, sb16), (8, sb8), (10, sb10), (11, sb11), (12, sb12)], fresh := [(13, sb17), (14, sb18)], post := [] }
def st2 : Contract := { fn := 235, sorts := [], args := [(p 0 0), (.agg [q0, (q 8), q1, q1, q0, q1, (q 2), .nilslice, b0])], mem := [(0, .cells [(p 1 0), q0, (q 8), q1, q1, q0, q1, q0, .nilslice, b0, .nilslice, .nilslice, q1] true), (1, sb19), (2, sb20), (3, sb21), (4, sb22), (5, sb23), (6, sb24), (7, sb11), (8, sb12)], nb := 9, pre := [], outs := [], res := (.tup []), mods := [(0, .cells [(p 1 0), q0, (q 8), q1, q1, q0, q1, (q 2), .nilslice, b0, .nilslice, .nilslice, q1] true), (1, sb19), (2, sb20), (3, sb21), (4, sb22), (5, sb23), (6, sb24), (7, sb11), (8, sb12)], fresh := [], post := [] }
def st3 : Contract := { fn := 159, sorts := [], args := [(p 0 0), (.agg [q0, (q 8), q1, q1, q0, q1, q0, .nilslice, b0, .nilslice, .nilslice, q1]), (q 100), q1], mem := [(0, sb25), (1, sb15), (2, sb26), (3, sb27), (4, sb18), (5, sb28), (6, sb11), (7, sb12)], nb := 8, pre := [], outs := [], res := (.tup [(.agg [q0, (q 8), q1, q1, q0, q1, (q 2), .nilslice, b0, (.slice 8 (.lit 0) (.lit 1) 2 false), .nilslice, q1]), (q 64), q0]), mods := [(0, sb25), (1, sb20), (2, sb26), (3, sb27), (4, sb23), (5, sb28), (6, sb11), (7, sb12)], fresh := [(8, sb29)], post := [] }
def st4 : Contract := { fn := 19, sorts := [], args := [(p 0 0), (.agg [(q 3), (q 65536), (q 100), q1, q0])], mem := [(0, sb13), (1, sb1), (2, sb14), (3, sb30), (4, sb15), (5, sb31), (6, sb6), (7, sb16), (8, sb17), (9, sb18), (10, sb10), (11, sb11), (12, sb12)], nb := 13, pre := [], outs := [], res := (.agg [(q 64), q0]), mods := [(0, .cells [(p 1 0), (p 2 0), q0, (p 3 0), q0, (q 8), q1, q1, q0, q1, (q 2), .nilslice, b0, (.slice 13 (.lit 0) (.lit 1) 2 false), .nilslice, q1, q0, q0, q0, q0, q0, q0, q0, .nilslice, b0, .nilslice, .nilslice, q0, q0, q0, q0, q0, q0, q0, q0, .nilslice, b0, .nilslice, .nilslice, q0, q0, q0, q0, q0, q0, q0, q0, .nilslice, b0, .nilslice, .nilslice, q0, q0, q0, q0, q0, q0, q0, q0, .nilslice, b0, .nilslice, .nilslice, q0, q0, q0, q0, q0, q0, q0, q0, .nilslice, b0, .nilslice, .nilslice, q0, q0, q0, q0, q0, q0, q0, q0, .nilslice, b0, .nilslice, .nilslice, q0, q0, q0, q0, q0, q0, q0, q0, .nilslice, b0, .nilslice, .nilslice, q0, q0, q0, q0, q0, q0, q0, q0, .nilslice, b0, .nilslice, .nilslice, q0, q0, q0, q0, q0, q0, q0, q0, .nilslice, b0, .nilslice, .nilslice, q0, q0, q0, q0, q0, q0, q0, q0, .nilslice, b0, .nilslice, .nilslice, q0, q0, q0, q0, q0, q0, q0, q0, .nilslice, b0, .nilslice, .nilslice, q0, q0, q0, q0, q0, q0, q0, q0, .nilslice, b0, .nilslice, .nilslice, q0, q0, q0, q0, q0, q0, q0, q0, .nilslice, b0, .nilslice, .nilslice, q0, q0, q0, q0, q0, q0, q0, q0, .nilslice, b0, .nilslice, .nilslice, q0, q0, q0, q0, q0, q0, q0, q0, .nilslice, b0, .nilslice, .nilslice, q0] true), (1, sb1), (2, sb14), (3, sb30), (4, sb20), (5, sb31), (6, sb6), (7, sb16), (8, sb17), (9, sb23), (10, sb10), (11, sb11), (12, sb12)], fresh := [(13, sb29)], post := [] }
def st5 : Contract := { fn := 235, sorts := [], args := [(p 0 0), (.agg [q0, (q 8), q1, q1, q0, q1, q0, (.slice 1 (.lit 0) (.lit 1) 2 false), b0])], mem := [(0, .cells [(p 2 0), q0, (q 8), q1, q1, q0, q1, (q 2), .nilslice, b0, (.slice 3 (.lit 0) (.lit 0) 2 false), .nilslice, q1] true), (1, sb32), (2, sb1), (3, sb33), (4, sb20), (5, sb34), (6, .big [(q 10), q0, (q 2), q0, (p 8 0)] [(.int .i64)] .zt 1024 [] true), (7, sb23), (8, .cells [(.slice 9 (.lit 0) (.lit 1024) 5 false), (.slice 10 (.lit 0) (.lit 1) 3 false), q0] true), (9, sb11), (10, sb12)], nb := 11, pre := [], outs := [], res := (.tup []), mods := [(0, .cells [(p 2 0), q0, (q 8), q1, q1, q0, q1, q0, (.slice 1 (.lit 0) (.lit 1) 2 false), b0, (.slice 3 (.lit 0) (.lit 0) 2 false), .nilslice, q1] true), (1, sb32), (2, sb1), (3, sb33), (4, sb20), (5, sb34), (6, .big [(q 10), q0, (q 2), (q 2), (p 8 0)] [(.int .i64)] (w (w .zt 1 0 1) 2 0 2) 1024 [] true), (7, sb23), (8, .cells [(.slice 9 (.lit 0) (.lit 1024) 5 false), (.slice 10 (.lit 0) (.lit 1) 3 false), q1] true), (9, sb35), (10, sb36)], fresh := [], post := [] }
def st6 : Contract := { fn := 231, sorts := [], args := [(p 0 0), q0, q0], mem := [(0, .cells [(p 1 0), q0, (q 8), q1, q1, q0, q1, (q 2), .nilslice, b0, (.slice 2 (.lit 0) (.lit 1) 2 false), .nilslice, q1] true), (1, sb37), (2, sb29), (3, sb20), (4, sb38), (5, .big [(q 10), q0, (q 2), q0, (p 7 0)] [(.int .i64)] .zt 1024 [] true), (6, sb23), (7, .cells [(.slice 8 (.lit 0) (.lit 1024) 5 false), (.slice 9 (.lit 0) (.lit 1) 3 false), q0] true), (8, sb11), (9, sb12)], nb := 10, pre := [], outs := [], res := (.agg [q0, (q 8), q1, q1, q0, q1, q0, (.slice 10 (.lit 0) (.lit 1) 2 false), b0, (.slice 11 (.lit 0) (.lit 0) 2 false), .nilslice, q1]), mods := [(0, .cells [(p 1 0), q0, (q 8), q1, q1, q0, q1, q0, (.slice 10 (.lit 0) (.lit 1) 2 false), b0, (.slice 11 (.lit 0) (.lit 0) 2 false), .nilslice, q1] true), (1, sb37), (2, sb29), (3, sb20), (4, sb38), (5, .big [(q 10), q0, (q 2), (q 2), (p 7 0)] [(.int .i64)] (w (w .zt 1 0 1) 2 0 2) 1024 [] true), (6, sb23), (7, .cells [(.slice 8 (.lit 0) (.lit 1024) 5 false), (.slice 9 (.lit 0) (.lit 1) 3 false), q1] true), (8, sb35), (9, sb36)], fresh := [(10, sb32), (11, sb33)], post := [] }
def st7 : Contract := { fn := 19, sorts := [], args := [(p 0 0), (.agg [(q 6), (q 65536), q0, q0, q0])], mem := [(0, .cells [(p 1 0), (p 2 0), q0, (p 3 0), q0, (q 8), q1, q1, q0, q1, (q 2), .nilslice, b0, (.slice 4 (.lit 0) (.lit 1) 2 false), .nilslice, q1, q0, q0, q0, q0, q0, q0, q0, .nilslice, b0, .nilslice, .nilslice, q0, q0, q0, q0, q0, q0, q0, q0, .nilslice, b0, .nilslice, .nilslice, q0, q0, q0, q0, q0, q0, q0, q0, .nilslice, b0, .nilslice, .nilslice, q0, q0, q0, q0, q0, q0, q0, q0, .nilslice, b0, .nilslice, .nilslice, q0, q0, q0, q0, q0, q0, q0, q0, .nilslice, b0, .nilslice, .nilslice, q0, q0, q0, q0, q0, q0, q0, q0, .nilslice, b0, .nilslice, .nilslice, q0, q0, q0, q0, q0, q0, q0, q0, .nilslice, b0, .nilslice, .nilslice, q0, q0, q0, q0, q0, q0, q0, q0, .nilslice, b0, .nilslice, .nilslice, q0, q0, q0, q0, q0, q0, q0, q0, .nilslice, b0, .nilslice, .nilslice, q0, q0, q0, q0, q0, q0, q0, q0, .nilslice, b0, .nilslice, .nilslice, q0, q0, q0, q0, q0, q0, q0, q0, .nilslice, b0, .nilslice, .nilslice, q0, q0, q0, q0, q0, q0, q0, q0, .nilslice, b0, .nilslice, .nilslice, q0, q0, q0, q0, q0, q0, q0, q0, .nilslice, b0, .nilslice, .nilslice, q0, q0, q0, q0, q0, q0, q0, q0, .nilslice, b0, .nilslice, .nilslice, q0, q0, q0, q0, q0, q0, q0, q0, .nilslice, b0, .nilslice, .nilslice, q0] true), (1, sb39), (2, sb14), (3, sb40), (4, sb29), (5, sb20), (6, sb41), (7, .big [(q 10), q0, (q 2), q0, (p 11 0)] [(.int .i64)] .zt 1024 [] true), (8, sb16), (9, sb17), (10, sb23), (11, .cells [(.slice 12 (.lit 0) (.lit 1024) 5 false), (.slice 13 (.lit 0) (.lit 1) 3 false), q0] true), (12, sb11), (13, sb12)], nb := 14, pre := [], outs := [], res := (.agg [q0, q0]), mods := [(0, .cells [(p 1 0), (p 2 0), q0, (p 3 0), q0, (q 8), q1, q1, q0, q1, q0, (.slice 14 (.lit 0) (.lit 1) 2 false), b0, (.slice 15 (.lit 0) (.lit 0) 2 false), .nilslice, q1, q0, q0, q0, q0, q0, q0, q0, .nilslice, b0, .nilslice, .nilslice, q0, q0, q0, q0, q0, q0, q0, q0, .nilslice, b0, .nilslice, .nilslice, q0, q0, q0, q0, q0, q0, q0, q0, .nilslice, b0, .nilslice, .nilslice, q0, q0, q0, q0, q0, q0, q0, q0, .nilslice, b0, .nilslice, .nilslice, q0, q0, q0, q0, q0, q0, q0, q0, .nilslice, b0, .nilslice, .nilslice, q0, q0, q0, q0, q0, q0, q0, q0, .nilslice, b0, .nilslice, .nilslice, q0, q0, q0, q0, q0, q0, q0, q0, .nilslice, b0, .nilslice, .nilslice, q0, q0, q0, q0, q0, q0, q0, q0, .nilslice, b0, .nilslice, .nilslice, q0, q0, q0, q0, q0, q0, q0, q0, .nilslice, b0, .nilslice, .nilslice, q0, q0, q0, q0, q0, q0, q0, q0, .nilslice, b0, .nilslice, .nilslice, q0, q0, q0, q0, q0, q0, q0, q0, .nilslice, b0, .nilslice, .nilslice, q0, q0, q0, q0, q0, q0, q0, q0, .nilslice, b0, .nilslice, .nilslice, q0, q0, q0, q0, q0, q0, q0, q0, .nilslice, b0, .nilslice, .nilslice, q0, q0, q0, q0, q0, q0, q0, q0, .nilslice, b0, .nilslice, .nilslice, q0, q0, q0, q0, q0, q0, q0, q0, .nilslice, b0, .nilslice, .nilslice, q0] true), (1, sb39), (2, sb14), (3, sb40), (4, sb29), (5, sb20), (6, sb41), (7, .big [(q 10), q0, (q 2), (q 2), (p 11 0)] [(.int .i64)] (w (w .zt 1 0 1) 2 0 2) 1024 [] true), (8, sb16), (9, sb17), (10, sb23), (11, .cells [(.slice 12 (.lit 0) (.lit 1024) 5 false), (.slice 13 (.lit 0) (.lit 1) 3 false), q1] true), (12, sb35), (13, sb36)], fresh := [(14, sb32), (15, sb33)], post := [] }
def st8 : Contract := { fn := 20, sorts := [], args := [(p 0 0)], mem := [(0, sb42), (1, sb43), (2, sb14), (3, sb44), (4, sb32), (5, sb33), (6, sb20), (7, sb45), (8, sb46), (9, sb16), (10, sb17), (11, sb23), (12, sb47), (13, sb35), (14, sb36)], nb := 15, pre := [], outs := [], res := (.agg [(.slice 15 (.lit 0) (.lit 4) 3 false), .nilslice, .nilslice, .nilslice, q1, q0, q1, q0, (q 2), q0, q0, q0, q0, q0, q0, q0, q0, q0, (q 10), (.slice 16 (.lit 0) (.lit 1) 2 false), (.slice 17 (.lit 0) (.lit 2) 5 false), (q 10), q0, (q 2), (.slice 18 (.lit 0) (.lit 2) 2 false), .nilslice, q0, (.slice 19 (.lit 0) (.lit 16) 1 false), (.slice 20 (.lit 0) (.lit 16) 1 false), (.slice 21 (.lit 0) (.lit 16) 1 false), q0, (q 8), q1, q1, q0, q1, q0, (.slice 22 (.lit 0) (.lit 1) 2 false), b0, (.slice 23 (.lit 0) (.lit 0) 2 false), .nilslice, q1, q0, q0, q0, q0, q0, q0, q0, .nilslice, b0, .nilslice, .nilslice, q0, q0, q0, q0, q0, q0, q0, q0, .nilslice, b0, .nilslice, .nilslice, q0, q0, q0, q0, q0, q0, q0, q0, .nilslice, b0, .nilslice, .nilslice, q0, q0, q0, q0, q0, q0, q0, q0, .nilslice, b0, .nilslice, .nilslice, q0, q0, q0, q0, q0, q0, q0, q0, .nilslice, b0, .nilslice, .nilslice, q0, q0, q0, q0, q0, q0, q0, q0, .nilslice, b0, .nilslice, .nilslice, q0, q0, q0, q0, q0, q0, q0, q0, .nilslice, b0, .nilslice, .nilslice, q0, q0, q0, q0, q0, q0, q0, q0, .nilslice, b0, .nilslice, .nilslice, q0, q0, q0, q0, q0, q0, q0, q0, .nilslice, b0, .nilslice, .nilslice, q0, q0, q0, q0, q0, q0, q0, q0, .nilslice, b0, .nilslice, .nilslice, q0, q0, q0, q0, q0, q0, q0, q0, .nilslice, b0, .nilslice, .nilslice, q0, q0, q0, q0, q0, q0, q0, q0, .nilslice, b0, .nilslice, .nilslice, q0, q0, q0, q0, q0, q0, q0, q0, .nilslice, b0, .nilslice, .nilslice, q0, q0, q0, q0, q0, q0, q0, q0, .nilslice, b0, .nilslice, .nilslice, q0, q0, q0, q0, q0, q0, q0, q0, .nilslice, b0, .nilslice, .nilslice, q0]), mods := [(0, sb42), (1, sb43), (2, sb14), (3, sb44), (4, sb32), (5, sb33), (6, sb20), (7, sb45), (8, sb46), (9, sb16), (10, sb17), (11, sb23), (12, sb47), (13, sb35), (14, sb36)], fresh := [(15, sb48), (16, sb49), (17, sb50), (18, sb51), (19, sb52), (20, sb53), (21, sb54), (22, sb32), (23, sb33)], post := [] }
def st9 : Contract := { fn := 7, sorts := [], args := [], mem := [], nb := 0, pre := [], outs := [], res := (.tup [(.agg [(.slice 0 (.lit 0) (.lit 4) 3 false), .nilslice, .nilslice, .nilslice, q1, q0, q1, q0, (q 2), q0, q0, q0, q0, q0, q0, q0, q0, q0, (q 10), (.slice 1 (.lit 0) (.lit 1) 2 false), (.slice 2 (.lit 0) (.lit 2) 5 false), (q 10), q0, (q 2), (.slice 3 (.lit 0) (.lit 2) 2 false), .nilslice, q0, (.slice 4 (.lit 0) (.lit 16) 1 false), (.slice 5 (.lit 0) (.lit 16) 1 false), (.slice 6 (.lit 0) (.lit 16) 1 false), q0, (q 8), q1, q1, q0, q1, q0, (.slice 7 (.lit 0) (.lit 1) 2 false), b0, (.slice 8 (.lit 0) (.lit 0) 2 false), .nilslice, q1, q0, q0, q0, q0, q0, q0, q0, .nilslice, b0, .nilslice, .nilslice, q0, q0, q0, q0, q0, q0, q0, q0, .nilslice, b0, .nilslice, .nilslice, q0, q0, q0, q0, q0, q0, q0, q0, .nilslice, b0, .nilslice, .nilslice, q0, q0, q0, q0, q0, q0, q0, q0, .nilslice, b0, .nilslice, .nilslice, q0, q0, q0, q0, q0, q0, q0, q0, .nilslice, b0, .nilslice, .nilslice, q0, q0, q0, q0, q0, q0, q0, q0, .nilslice, b0, .nilslice, .nilslice, q0, q0, q0, q0, q0, q0, q0, q0, .nilslice, b0, .nilslice, .nilslice, q0, q0, q0, q0, q0, q0, q0, q0, .nilslice, b0, .nilslice, .nilslice, q0, q0, q0, q0, q0, q0, q0, q0, .nilslice, b0, .nilslice, .nilslice, q0, q0, q0, q0, q0, q0, q0, q0, .nilslice, b0, .nilslice, .nilslice, q0, q0, q0, q0, q0, q0, q0, q0, .nilslice, b0, .nilslice, .nilslice, q0, q0, q0, q0, q0, q0, q0, q0, .nilslice, b0, .nilslice, .nilslice, q0, q0, q0, q0, q0, q0, q0, q0, .nilslice, b0, .nilslice, .nilslice, q0, q0, q0, q0, q0, q0, q0, q0, .nilslice, b0, .nilslice, .nilslice, q0, q0, q0, q0, q0, q0, q0, q0, .nilslice, b0, .nilslice, .nilslice, q0]), b1]), mods := [], fresh := [(0, sb48), (1, sb49), (2, sb50), (3, sb51), (4, sb52), (5, sb53), (6, sb54), (7, sb32), (8, sb33)], post := [] }
def st10 : Contract := { fn := 21, sorts := [], args := sb56, mem := [(0, sb48), (1, sb49), (2, sb50), (3, sb51), (4, sb52), (5, sb53), (6, sb54), (7, sb32), (8, sb33)], nb := 9, pre := [], outs := [], res := (p 9 0), mods := [(0, sb48), (1, sb49), (2, sb50), (3, sb51), (4, sb52), (5, sb53), (6, sb54), (7, sb32), (8, sb33)], fresh := [(9, sb55), (10, .mp [q1] [q0])], post := [] }
def st11 : Contract := { fn := 8, sorts := [], args := sb56, mem := [(0, sb48), (1, sb49), (2, sb50), (3, sb51), (4, sb52), (5, sb53), (6, sb54), (7, sb32), (8, sb33)], nb := 9, pre := [], outs := [], res := (.tup [(.agg [q1, q0, (q 4), (q 2), (q 2), (q 2), q0, q0, q0, q0]), q0]), mods := [(0, sb48), (1, sb49), (2, sb50), (3, sb51), (4, sb52), (5, sb53), (6, sb54), (7, sb32), (8, sb33)], fresh := [], post := [] }
def st12 : Contract := { fn := 21, sorts := [], args := sb56, mem := [(0, sb48), (1, sb49), (2, sb57), (3, sb51), (4, sb52), (5, sb53), (6, sb54), (7, sb32), (8, sb33)], nb := 9, pre := [], outs := [], res := (p 9 0), mods := [(0, sb48), (1, sb49), (2, sb57), (3, sb51), (4, sb52), (5, sb53), (6, sb54), (7, sb32), (8, sb33)], fresh := [(9, sb55), (10, .mp [q1] [q0])], post := [] }
def st13 : Contract := { fn := 27, sorts := [], args := [(p 0 0)], mem := [(0, sb58), (1, .mp [q1] [q0]), (2, sb48), (3, sb49), (4, sb57), (5, sb51), (6, sb52), (7, sb53), (8, sb54), (9, sb32), (10, sb33)], nb := 11, pre := [], outs := [], res := (.tup []), mods := [(0, sb58), (1, .mp [q1] [q0]), (2, sb48), (3, sb49), (4, sb57), (5, sb51), (6, sb52), (7, sb53), (8, sb54), (9, sb32), (10, sb33)], fresh := [], post := [] }
def st14 : Contract := { fn := 34, sorts := [], args := [(p 0 0)], mem := [(0, sb59), (1, .mp [q1] [q0]), (2, sb60), (3, sb48), (4, sb49), (5, sb57), (6, sb51), (7, sb52), (8, sb53), (9, sb54), (10, sb32), (11, sb33)], nb := 12, pre := [], outs := [], res := (.tup []), mods := [(0, sb59), (1, .mp [q1] [q0]), (2, sb60), (3, sb48), (4, sb49), (5, sb57), (6, sb51), (7, sb52), (8, sb53), (9, sb54), (10, sb32), (11, sb33)], fresh := [], post := [] }
def st15 : Contract := { fn := 35, sorts := [], args := [(p 0 0)], mem := [(0, sb59), (1, .mp [q1] [q0]), (2, sb60), (3, sb48), (4, sb49), (5, sb57), (6, sb51), (7, sb52), (8, sb53), (9, sb54), (10, sb32), (11, sb33)], nb := 12, pre := [], outs := [], res := (.tup []), mods := [(0, sb59), (1, .mp [q1] [q0]), (2, sb60), (3, sb48), (4, sb49), (5, sb57), (6, sb51), (7, sb52), (8, sb53), (9, sb54), (10, sb32), (11, sb33)], fresh := [], post := [] }
def st16 : Contract := { fn := 22, sorts := [], args := [(p 0 0)], mem := [(0, sb58), (1, .mp [q1] [q0]), (2, sb48), (3, sb49), (4, sb57), (5, sb51), (6, sb52), (7, sb53), (8, sb54), (9, sb32), (10, sb33)], nb := 11, pre := [], outs := [], res := sb61, mods := [(0, .big [(.slice 2 (.lit 0) (.lit 4) 3 false), .nilslice, .nilslice, .nilslice, q1, q0, q1, q0, (q 2), q0, q0, q0, q0, q0, q0, q0, q0, q0, (q 10), (.slice 3 (.lit 0) (.lit 1) 2 false), (.slice 4 (.lit 0) (.lit 2) 5 false), (q 10), q0, (q 2), (.slice 5 (.lit 0) (.lit 2) 2 false), .nilslice, q0, (.slice 6 (.lit 0) (.lit 16) 1 false), (.slice 7 (.lit 0) (.lit 16) 1 false), (.slice 8 (.lit 0) (.lit 16) 1 false), q0, (q 8), q1, q1, q0, q1, q0, (.slice 9 (.lit 0) (.lit 1) 2 false), b0, (.slice 10 (.lit 0) (.lit 0) 2 false), .nilslice, q1, q0, q0, q0, q0, q0, q0, q0, .nilslice, b0, .nilslice, .nilslice, q0, q0, q0, q0, q0, q0, q0, q0, .nilslice, b0, .nilslice, .nilslice, q0, q0, q0, q0, q0, q0, q0, q0, .nilslice, b0, .nilslice, .nilslice, q0, q0, q0, q0, q0, q0, q0, q0, .nilslice, b0, .nilslice, .nilslice, q0, q0, q0, q0, q0, q0, q0, q0, .nilslice, b0, .nilslice, .nilslice, q0, q0, q0, q0, q0, q0, q0, q0, .nilslice, b0, .nilslice, .nilslice, q0, q0, q0, q0, q0, q0, q0, q0, .nilslice, b0, .nilslice, .nilslice, q0, q0, q0, q0, q0, q0, q0, q0, .nilslice, b0, .nilslice, .nilslice, q0, q0, q0, q0, q0, q0, q0, q0, .nilslice, b0, .nilslice, .nilslice, q0, q0, q0, q0, q0, q0, q0, q0, .nilslice, b0, .nilslice, .nilslice, q0, q0, q0, q0, q0, q0, q0, q0, .nilslice, b0, .nilslice, .nilslice, q0, q0, q0, q0, q0, q0, q0, q0, .nilslice, b0, .nilslice, .nilslice, q0, q0, q0, q0, q0, q0, q0, q0, .nilslice, b0, .nilslice, .nilslice, q0, q0, q0, q0, q0, q0, q0, q0, .nilslice, b0, .nilslice, .nilslice, q0, q0, q0, q0, q0, q0, q0, q0, .nilslice, b0, .nilslice, .nilslice, q0, b1, b0, b0, b0, b0, b0, b0, b0, b0, b0, b0, b0, b0, b0, b0, b0, b1, b0, b0, b0, b0, b0, b0, b0, b0, b0, b0, b0, b0, b0, b0, b0] auK (w (w (w (w (w (w (w (w (w (w (w (w (w (w (w (w (w (w (w (w (w (w (w (w (w (w (w (w auZ 0 0 3) 0 1 3) 0 2 0) 1 0 2) 1 1 2) 1 2 0) 1 3 1) 1 4 1) 2 0 2) 2 1 2) 2 2 0) 2 3 1) 2 4 1) 3 0 1) 3 1 1) 3 2 0) 4 0 1) 4 1 1) 4 2 0) 5 0 1) 5 1 1) 5 2 0) 6 0 1) 6 1 1) 6 2 0) 7 0 3) 7 1 3) 7 2 0) 1024 [(.mref 1), (.slice 11 (.lit 0) (.lit 1) 4 false)] true), (1, .mp [q1] [q0]), (2, sb48), (3, sb49), (4, sb57), (5, sb51), (6, sb52), (7, sb53), (8, sb54), (9, sb32), (10, sb33)], fresh := [(11, sb60)], post := [] }
def st17 : Contract := { fn := 9, sorts := [], args := sb56, mem := [(0, sb48), (1, sb49), (2, sb57), (3, sb51), (4, sb52), (5, sb53), (6, sb54), (7, sb32), (8, sb33)], nb := 9, pre := [], outs := [], res := sb62, mods := [(0, sb48), (1, sb49), (2, sb57), (3, sb51), (4, sb52), (5, sb53), (6, sb54), (7, sb32), (8, sb33)], fresh := [(9, sb60)], post := [] }
def st18 : Contract := { fn := 21, sorts := [], args := sb63, mem := [(0, sb48), (1, sb49), (2, sb50), (3, sb51), (4, sb52), (5, sb53), (6, sb54), (7, sb32), (8, sb33)], nb := 9, pre := [], outs := [], res := (p 9 0), mods := [(0, sb48), (1, sb49), (2, sb50), (3, sb51), (4, sb52), (5, sb53), (6, sb54), (7, sb32), (8, sb33)], fresh := [(9, .big [(.slice 0 (.lit 0) (.lit 4) 3 false), .nilslice, .nilslice, .nilslice, q1, q0, q1, q0, (q 2), q0, q0, q0, q0, q0, q0, q0, q0, q0, (q 10), (.slice 1 (.lit 0) (.lit 1) 2 false), (.slice 2 (.lit 0) (.lit 2) 5 false), (q 10), q0, (q 2), (.slice 3 (.lit 1) (.lit 1) 2 false), .nilslice, q0, (.slice 4 (.lit 0) (.lit 16) 1 false), (.slice 5 (.lit 0) (.lit 16) 1 false), (.slice 6 (.lit 0) (.lit 16) 1 false), q0, (q 8), q1, q1, q0, q1, q0, (.slice 7 (.lit 0) (.lit 1) 2 false), b0, (.slice 8 (.lit 0) (.lit 0) 2 false), .nilslice, q1, q0, q0, q0, q0, q0, q0, q0, .nilslice, b0, .nilslice, .nilslice, q0, q0, q0, q0, q0, q0, q0, q0, .nilslice, b0, .nilslice, .nilslice, q0, q0, q0, q0, q0, q0, q0, q0, .nilslice, b0, .nilslice, .nilslice, q0, q0, q0, q0, q0, q0, q0, q0, .nilslice, b0, .nilslice, .nilslice, q0, q0, q0, q0, q0, q0, q0, q0, .nilslice, b0, .nilslice, .nilslice, q0, q0, q0, q0, q0, q0, q0, q0, .nilslice, b0, .nilslice, .nilslice, q0, q0, q0, q0, q0, q0, q0, q0, .nilslice, b0, .nilslice, .nilslice, q0, q0, q0, q0, q0, q0, q0, q0, .nilslice, b0, .nilslice, .nilslice, q0, q0, q0, q0, q0, q0, q0, q0, .nilslice, b0, .nilslice, .nilslice, q0, q0, q0, q0, q0, q0, q0, q0, .nilslice, b0, .nilslice, .nilslice, q0, q0, q0, q0, q0, q0, q0, q0, .nilslice, b0, .nilslice, .nilslice, q0, q0, q0, q0, q0, q0, q0, q0, .nilslice, b0, .nilslice, .nilslice, q0, q0, q0, q0, q0, q0, q0, q0, .nilslice, b0, .nilslice, .nilslice, q0, q0, q0, q0, q0, q0, q0, q0, .nilslice, b0, .nilslice, .nilslice, q0, q0, q0, q0, q0, q0, q0, q0, .nilslice, b0, .nilslice, .nilslice, q0, b1, b0, b0, b0, b0, b0, b0, b0, b0, b0, b0, b0, b0, b0, b0, b0, b1, b0, b0, b0, b0, b0, b0, b0, b0, b0, b0, b0, b0, b0, b0, b0] auK (w (w (w (w (w (w (w (w (w (w (w (w (w (w (w (w (w (w (w (w (w (w (w (w (w (w (w auZ 0 0 3) 0 1 3) 0 2 0) 1 0 2) 1 1 2) 1 2 0) 1 3 1) 2 0 2) 2 1 2) 2 2 0) 2 3 1) 2 4 1) 3 0 1) 3 1 1) 3 2 0) 4 0 1) 4 1 1) 4 2 0) 5 0 1) 5 1 1) 5 2 0) 6 0 1) 6 1 1) 6 2 0) 7 0 3) 7 1 3) 7 2 0) 1024 [(.mref 10), .nilslice] true), (10, .mp [q1] [q0])], post := [] }
def st19 : Contract := { fn := 27, sorts := [], args := [(p 0 0)], mem := [(0, sb64), (1, .mp [q1] [q0]), (2, sb48), (3, sb49), (4, sb50), (5, sb51), (6, sb52), (7, sb53), (8, sb54), (9, sb32), (10, sb33)], nb := 11, pre := [], outs := [], res := (.tup []), mods := [(0, sb64), (1, .mp [q1] [q0]), (2, sb48), (3, sb49), (4, sb50), (5, sb51), (6, sb52), (7, sb53), (8, sb54), (9, sb32), (10, sb33)], fresh := [], post := [] }
def st20 : Contract := { fn := 34, sorts := [], args := [(p 0 0)], mem := [(0, sb64), (1, .mp [q1] [q0]), (2, sb48), (3, sb49), (4, sb50), (5, sb51), (6, sb52), (7, sb53), (8, sb54), (9, sb32), (10, sb33)], nb := 11, pre := [], outs := [], res := (.tup []), mods := [(0, sb65), (1, .mp [q1] [q0]), (2, sb48), (3, sb49), (4, sb50), (5, sb51), (6, sb52), (7, sb53), (8, sb54), (9, sb32), (10, sb33)], fresh := [(11, sb66)], post := [] }
def st21 : Contract := { fn := 35, sorts := [], args := [(p 0 0)], mem := [(0, sb67), (1, .mp [q1] [q0]), (2, sb66), (3, sb48), (4, sb49), (5, sb50), (6, sb51), (7, sb52), (8, sb53), (9, sb54), (10, sb32), (11, sb33)], nb := 12, pre := [], outs := [], res := (.tup []), mods := [(0, sb67), (1, .mp [q1] [q0]), (2, sb66), (3, sb48), (4, sb49), (5, sb50), (6, sb51), (7, sb52), (8, sb53), (9, sb54), (10, sb32), (11, sb33)], fresh := [], post := [] }
def st22 : Contract := { fn := 22, sorts := [], args := [(p 0 0)], mem := [(0, sb64), (1, .mp [q1] [q0]), (2, sb48), (3, sb49), (4, sb50), (5, sb51), (6, sb52), (7, sb53), (8, sb54), (9, sb32), (10, sb33)], nb := 11, pre := [], outs := [], res := sb61, mods := [(0, sb65), (1, .mp [q1] [q0]), (2, sb48), (3, sb49), (4, sb50), (5, sb51), (6, sb52), (7, sb53), (8, sb54), (9, sb32), (10, sb33)], fresh := [(11, sb66)], post := [] }
def st23 : Contract := { fn := 9, sorts := [], args := sb63, mem := [(0, sb48), (1, sb49), (2, sb50), (3, sb51), (4, sb52), (5, sb53), (6, sb54), (7, sb32), (8, sb33)], nb := 9, pre := [], outs := [], res := sb62, mods := [(0, sb48), (1, sb49), (2, sb50), (3, sb51), (4, sb52), (5, sb53), (6, sb54), (7, sb32), (8, sb33)], fresh := [(9, sb66)], post := [] }
def st24 : Contract := { fn := 27, sorts := [], args := [(p 0 0)], mem := [(0, sb58), (1, .mp [q1] [q0]), (2, sb48), (3, sb49), (4, sb50), (5, sb51), (6, sb52), (7, sb53), (8, sb54), (9, sb32), (10, sb33)], nb := 11, pre := [], outs := [], res := (.tup []), mods := [(0, sb58), (1, .mp [q1] [q0]), (2, sb48), (3, sb49), (4, sb50), (5, sb51), (6, sb52), (7, sb53), (8, sb54), (9, sb32), (10, sb33)], fresh := [], post := [] }
def st25 : Contract := { fn := 34, sorts := [], args := [(p 0 0)], mem := [(0, sb58), (1, .mp [q1] [q0]), (2, sb48), (3, sb49), (4, sb50), (5, sb51), (6, sb52), (7, sb53), (8, sb54), (9, sb32), (10, sb33)], nb := 11, pre := [], outs := [], res := (.tup []), mods := [(0, sb58), (1, .mp [q1] [q0]), (2, sb48), (3, sb49), (4, sb50), (5, sb51), (6, sb52), (7, sb53), (8, sb54), (9, sb32), (10, sb33)], fresh := [], post := [] }
def st26 : Contract := { fn := 35, sorts := [], args := [(p 0 0)], mem := [(0, sb58), (1, .mp [q1] [q0]), (2, sb48), (3, sb49), (4, sb50), (5, sb51), (6, sb52), (7, sb53), (8, sb54), (9, sb32), (10, sb33)], nb := 11, pre := [], outs := [], res := (.tup []), mods := [(0, sb58), (1, .mp [q1] [q0]), (2, sb48), (3, sb49), (4, sb50), (5, sb51), (6, sb52), (7, sb53), (8, sb54), (9, sb32), (10, sb33)], fresh := [], post := [] }
def st27 : Contract := { fn := 22, sorts := [], args := [(p 0 0)], mem := [(0, sb58), (1, .mp [q1] [q0]), (2, sb48), (3, sb49), (4, sb50), (5, sb51), (6, sb52), (7, sb53), (8, sb54), (9, sb32), (10, sb33)], nb := 11, pre := [], outs := [], res := .nilslice, mods := [(0, sb58), (1, .mp [q1] [q0]), (2, sb48), (3, sb49), (4, sb50), (5, sb51), (6, sb52), (7, sb53), (8, sb54), (9, sb32), (10, sb33)], fresh := [], post := [] }
def st28 : Contract := { fn := 9, sorts := [], args := sb56, mem := [(0, sb48), (1, sb49), (2, sb50), (3, sb51), (4, sb52), (5, sb53), (6, sb54), (7, sb32), (8, sb33)], nb := 9, pre := [], outs := [], res := .nilslice, mods := [(0, sb48), (1, sb49), (2, sb50), (3, sb51), (4, sb52), (5, sb53), (6, sb54), (7, sb32), (8, sb33)], fresh := [], post := [] }
def xPlus (P : Program) (l : List Contract) : Cx := { P, cs := l ++ loops, anns := [], kn := kn }
def cAwake : Contract := { c0 with fn := 4, res := .bool (.lit 1) }
end Go.Mg
namespace Go.Au
open Go Go.Sx Go.Mg
def auS : Nat → Option Bool
  | 1 | 2 | 3 => some false
  | 1000 | 1001 | 1002 | 1003 | 1004 | 1005 => some false
  | 5 | 1006 => some true
  | _ => none
def str (e : E) : AV := .sat e
def sln (e : E) : E := .fn 1001 e (.lit 0) (.lit 0) (.lit 0)
def sct (a b : E) : E := .fn 1002 a b (.lit 0) (.lit 0)
def z0 : E := .lit 0
def fn1 (j : Nat) (a : E) : E := .fn j a z0 z0 z0
def fn2 (j : Nat) (a b : E) : E := .fn j a b z0 z0
def kb : Kn := { kn with bld := (85, 5), tab := [86] }
def flK : List CK := [.int .i64, .int .i64, .int .i64, .int .i64]
def bMem : Mem := [(0, .bld 85 (v 0) 1), (1, .byt 5 (v 0))]
def cWS : Contract := { c0 with fn := 12, sorts := [false, false], args := [.ptr 0 z0 0 0, str (v 1)], mem := bMem, nb := 2, pre := [eLe (.bin .add (sln (v 0)) (sln (v 1))) (.lit 1000000)], outs := [false], res := .tup [i64 (sln (v 1)), .nilif], mods := [(0, .bld 85 (v 2) 2)], fresh := [(2, .byt 5 (v 2))], post := [.same (v 2) (sct (v 0) (v 1))] }
def cWB (c : Int) (d : List UInt8) : Contract := { c0 with fn := 13, sorts := [false], args := [.ptr 0 z0 0 0, .int .u8 (.lit c)], mem := bMem, nb := 2, pre := [eLe (.bin .add (sln (v 0)) (.lit 1)) (.lit 1000000)], outs := [false], res := .nilif, mods := [(0, .bld 85 (v 1) 2)], fresh := [(2, .byt 5 (v 1))], post := [.same (v 1) (sct (v 0) (.lit (senc d)))] }
def cBS : Contract := { c0 with fn := 15, sorts := [false], args := [.ptr 0 z0 0 0], mem := bMem, nb := 2, res := str (v 0) }
def cFormat : Contract := { c0 with fn := 14, sorts := [false], args := [i64 (v 0), i64 (.lit 10)], pre := [.rng .i64 (v 0)], outs := [false], res := str (v 1), post := [.same (v 1) (fn1 3 (v 0)), eLe (sln (v 1)) (.lit 20)] }
def cRDig (j : Nat) : Contract := { c0 with fn := 17, sorts := [false], args := [i64 (v 0)], pre := [.rng .i64 (v 0), .pr j [v 0]], outs := [false], res := str (v 1), post := [.same (v 1) (fn1 3 (v 0)), eLe (sln (v 1)) (.lit 20)] }
def cRDg : Contract := { c0 with fn := 17, sorts := [false], args := [i64 (v 0)], pre := [.rng .i64 (v 0)], outs := [false], res := str (v 1), post := [.same (v 1) (fn1 3 (v 0)), eLe (sln (v 1)) (.lit 20)] }
def flB : Blk := .rows flK (v 0) (v 1) false true
def flA : AV := .slice 0 z0 (v 1) 4 true
def cPrint (f : FuncId) : Contract := { c0 with fn := f, sorts := [true, false], args := [flA], mem := [(0, flB)], nb := 1, pre := [eLe z0 (v 1), eLe (v 1) (.lit 300), .pr 3 [v 0, v 1]], outs := [false, false], res := .tup [str (v 2), i64 (v 3)], post := [.pr 1 [v 0, v 1, v 2, v 3]] }
def aPrint : Ann where
  fn := 5
  bid := 0
  keep := [0, 4, 5, 11, 12]
  tmps := [(13, i64 (v 2))]
  drop := [1, 2]
  mem := [(2, .bld 85 (v 3) 4), (4, .byt 5 (v 3))]
  sorts := [false, false]
  nbl := 1
  inv := [eLe z0 (v 2), eLe (v 2) (v 1), eLe (sln (v 3)) (.bin .mul (.lit 100) (v 2)), .same (v 3) (fn2 2 (v 0) (v 2)), .pr 2 [v 0, v 2]]
  meas := .bin .sub (v 1) (v 2)
def xPrint (P : Program) : Cx := { P, cs := [cWS, cWB 32 [32], cWB 10 [10], cBS, cFormat], anns := [aPrint], kn := kb }
def aRPrint : Ann where
  fn := 6
  bid := 0
  keep := [0]
  tmps := [(5, i64 (v 2)), (4, str (v 3))]
  drop := []
  mem := []
  sorts := [false, false]
  nbl := 0
  inv := [eLe z0 (v 2), eLe (v 2) (v 1), eLe (sln (v 3)) (.bin .mul (.lit 100) (v 2)), .same (v 3) (fn2 2 (v 0) (v 2)), .pr 2 [v 0, v 2]]
  meas := .bin .sub (v 1) (v 2)
def xRPrint (P : Program) : Cx := { P, cs := [cRDg], anns := [aRPrint], kn := kb }
def xRDig (P : Program) : Cx := { P, cs := [cRDig 20], anns := [], kn := kn }
def cLaw : Contract := { c0 with fn := 3, sorts := [true, false], args := [flA], mem := [(0, flB)], nb := 1, pre := [eLe z0 (v 1), .rng .i64 (v 1), .pr 3 [v 0, v 1]], res := .bool (.lit 1) }
def ν (n : Nat) : E := .var n
def κ (n : Int) : E := .lit n
def ο : E := .lit 0
def γ (a b : E) : PE := .tt (.bin .le a b)
def ω (a b : E) : PE := .tt (.bin .lt a b)
def ρ (a : E) : PE := .rng .i64 a
def χ (a b : E) : E := .bin .eq a b
def π (a b : E) : E := .bin .add a b
def δ (a b : E) : E := .bin .sub a b
def ξ (t r : E) (c : Nat) : E := .sel t r c
def υ (t r : E) (c : Nat) (x : E) : E := .upd t r c x
def α (p : PE) (t : Tree) : Tree := .assert p t
def μ (p : PE) (t : Tree) : Tree := .assume p t
def β (e : E) (a b : Tree) : Tree := .branch e a b
def η (t : Tree) : Tree := .havoc false t
def τ (t : Tree) : Tree := .havoc true t
end Go.Au
namespace Go.Mg
open Go Go.Sx
set_option maxRecDepth 10000
def sc0 : Blk := .rows [(.int .i64), (.int .i64), (.int .i64)] (w (w (w (w (w (w (w (w (w (w (w .zt 0 1 1) 0 2 3) 1 0 1) 1 1 2) 1 2 2) 2 0 3) 2 1 4) 2 2 1) 3 0 7) 3 1 1) 3 2 3) (.lit 4) true false
def sc1 : AV := (.tup [(p 1 0), q0])
def sc2 : Blk := .rows [(.int .i64), (.int .i64)] (w .zt 0 1 3) (.lit 1) true false
def sc3 : Blk := .rows [(.int .i64), (.int .i64), (.int .i64), (.int .i64), .bool] (w (w (w (w (w (w .zt 0 0 (-1)) 0 1 20) 0 3 2) 1 1 4096) 1 2 2) 1 3 2) (.lit 2) true false
def sc4 : Blk := .cells [b1, (.slice 2 (.lit 0) (.lit 2) 6 false)] true
def sc5 : List AV := [(.agg [(.slice 0 (.lit 0) (.lit 2) 5 false)])]
def sc6 : Blk := .rows [(.int .i64), (.int .i64)] (w .zt 0 1 2) (.lit 1) true false
def sc7 : Blk := .rows [(.int .i64), (.int .i64)] .zt (.lit 0) true false
def sc8 : Blk := .rows [(.int .i64), (.int .i64), (.int .i64), (.int .i64), .bool] (w (w (w (w (w (w .zt 0 0 (-1)) 0 1 20) 0 3 3) 1 1 4096) 1 2 3) 1 3 3) (.lit 2) true false
def st32 : Contract := { fn := 115, sorts := [], args := [(.agg [(.slice 0 (.lit 0) (.lit 4) 3 false), .nilslice, .nilslice, .nilslice, q1, q0, q1, q0, (q 2), q0, q0, q0, q0, q0, q0, q0, q0, q0])], mem := [(0, sc0)], nb := 1, pre := [], outs := [], res := sc1, mods := [(0, sc0)], fresh := [(1, .big [b1] pgK (w (w (w (w (w (w (w (w .zt 0 0 3) 1 0 2) 2 0 2) 3 0 1) 4 0 1) 5 0 1) 6 0 1) 7 0 3) 1024 [.nilslice, q1, q0, q1, q0, (q 2), q0, q0, q0, q0, q0, q0, q0, q0, q0] true)], post := [] }
def st33 : Contract := { fn := 117, sorts := [], args := [(.agg [(q 10), (.slice 0 (.lit 0) (.lit 1) 2 false)])], mem := [(0, sc2)], nb := 1, pre := [], outs := [], res := sc1, mods := [(0, sc2)], fresh := [(1, .big [b1, (q 10)] [(.int .u64)] (w (w (w (w (w (w (w (w (w .zt 160 0 0) 152 0 1) 132 0 1) 114 0 1) 97 0 1) 80 0 4294967296) 64 0 65536) 48 0 256) 224 0 1) 352 [] true)], post := [] }
def st34 : Contract := { fn := 119, sorts := [], args := sc5, mem := [(0, sc3)], nb := 1, pre := [], outs := [], res := sc1, mods := [(0, sc3)], fresh := [(1, sc4), (2, .rows [(.int .i64), (.int .i64), (.int .i64), (.int .i64), .bool, (.int .i64)] (w (w (w (w (w (w (w (w .zt 0 0 (-1)) 0 1 20) 0 3 2) 1 1 4096) 1 2 2) 1 3 2) 1 5 2) 0 5 2) (.lit 2) true false)], post := [] }
def st35 : Contract := { fn := 64, sorts := [], args := [(.agg [q0, (q 8), q1, q1, q0, q1, q0, (.slice 0 (.lit 0) (.lit 1) 2 false), b0, (.slice 1 (.lit 0) (.lit 0) 2 false), .nilslice, q1])], mem := [(0, sc6), (1, sc7)], nb := 2, pre := [], outs := [], res := q0, mods := [(0, sc6), (1, sc7)], fresh := [], post := [] }
def st36 : Contract := { fn := 119, sorts := [], args := sc5, mem := [(0, sc8)], nb := 1, pre := [], outs := [], res := sc1, mods := [(0, sc8)], fresh := [(1, sc4), (2, .rows [(.int .i64), (.int .i64), (.int .i64), (.int .i64), .bool, (.int .i64)] (w (w (w (w (w (w (w (w .zt 0 0 (-1)) 0 1 20) 0 3 3) 1 1 4096) 1 2 3) 1 3 3) 1 5 3) 0 5 3) (.lit 2) true false)], post := [] }
end Go.Mg
namespace Go.Mg
open Go Go.Sx
def aBase (f : FuncId) (b : Nat) : Ann := { fn := f, bid := b, keep := [], tmps := [], drop := [], mem := [], sorts := [false], nbl := 0, inv := [eLe (.lit 0) (v 0), eLe (v 0) (.lit 1024)], meas := .bin .sub (.lit 1024) (v 0) }
def aPg (f : FuncId) : Ann := { aBase f 0 with keep := [0, 7], tmps := [(8, i64 (v 0))] }
def bigPre : Mem → List AV
  | (_, .big l _ _ _ _ _) :: _ => l
  | _ => []
def bigTab : Mem → E
  | (_, .big _ _ t _ _ _) :: _ => t
  | _ => .zt
def aQ20 : Ann := { aBase 34 0 with keep := [0, 7], tmps := [(8, i64 (v 0))], drop := [0], mem := [(0, .big (bigPre st20.mem) auK (bigTab st20.mem) 1024 [.mref 1, .slice 14 (.lit 0) (.lit 1) 4 false] true)], inv := [eLe (.lit 2) (v 0), eLe (v 0) (.lit 1024)] }
def argCells (c : Contract) : List AV := match c.args with
  | [.agg l] => l
  | _ => []
def aOpen (c : Contract) : Ann := { aBase 21 4 with keep := [1, 3], tmps := [(82, i64 (v 0))], drop := [11], mem := [(11, .big (argCells c ++ b1 :: List.replicate 31 b0) auK (v 1) 1024 [.mref 10, .nilslice] true)], sorts := [false, true], inv := [eLe (.lit 0) (v 0), eLe (v 0) (.lit 1024), .same (v 1) (.fn 5 (v 0) (.lit 0) (.lit 0) (.lit 0))] }
def ramp (n : Int) (from0 : Int) : E := .bin .min (.lit n) (.bin .max (.lit 0) (.bin .sub (v 0) (.lit from0)))
def aMany : Ann := { aBase 8 0 with keep := [1, 2, 3, 4, 5, 6, 43], tmps := [(44, i64 (v 0))], drop := [13], mem := [(13, .cells [q0, q0, i64 (v 1), i64 (v 2), i64 (v 3), q 2, q0, q0, q0, q0] true)], sorts := [false, false, false, false], inv := [eLe (.lit 0) (v 0), eLe (v 0) (.lit 1024), .same (v 1) (ramp 4 3), .same (v 2) (ramp 2 1), .same (v 3) (.bin .add (ramp 1 0) (ramp 1 7))] }
def st11b : Contract := { st11 with outs := [false, false, false], res := .tup [.agg [q1, q0, i64 (v 0), i64 (v 1), i64 (v 2), q 2, q0, q0, q0, q0], q0], post := [.same (v 0) (.lit 4), .same (v 1) (.lit 2), .same (v 2) (.lit 2)] }
def xAn (P : Program) (l : List Contract) (a : List Ann) : Cx := { P, cs := l ++ loops, anns := a, kn := kn }
def xAw (P : Program) : Cx := { P, cs := [st9, st11b, st17, st23, st28, Go.Au.cPrint 5] ++ loops, anns := [], kn := kn }
def xLaw (P : Program) : Cx := { P, cs := [cAwake, Go.Au.cPrint 5, Go.Au.cPrint 6], anns := [], kn := kn }
end Go.Mg
namespace Go.Au
open Go Go.Sx Go.Lib
abbrev Tb := Int → Nat → Int
def I64 (n : Int) : Prop := -9223372036854775808 ≤ n ∧ n ≤ 9223372036854775807
def kw : List (List UInt8) := [[112, 97, 114, 116], [111, 114, 100, 101, 114], [98, 108, 111, 99, 107], [114, 97, 110, 103, 101], [107, 105, 110, 100], [104, 117, 103, 101], [110, 111, 100, 101], [98, 117, 100, 103, 101, 116], [108, 105, 109, 105, 116], [112, 97, 114, 101, 110, 116], [111, 119, 110], [113, 117, 101, 117, 101, 100], [115, 116, 97, 109, 112], [122, 101, 114, 111, 101, 100], [98, 121, 116, 101], [115, 108, 111, 116, 115], [104, 97, 110, 100, 108, 101], [111, 114, 112, 104, 97, 110]]
def lineL (k a b c : Int) : List UInt8 := kw.getD (k - 1).toNat [] ++ [32] ++ itoa a ++ [32] ++ itoa b ++ [32] ++ itoa c ++ [10]
def txtL (T : Tb) : Nat → List UInt8
  | 0 => []
  | i + 1 => txtL T i ++ lineL (T i 0) (T i 1) (T i 2) (T i 3)
def txt (T : Tb) (i : Int) : Int := senc (txtL T i.toNat)
def Kinds (T : Tb) (n : Int) : Prop := ∀ r : Int, 0 ≤ r → r < n → 1 ≤ T r 0 ∧ T r 0 ≤ 18
def Nums (T : Tb) (n : Int) : Prop := ∀ r : Int, 0 ≤ r → r < n → I64 (T r 0) ∧ I64 (T r 1) ∧ I64 (T r 2) ∧ I64 (T r 3)
def PrintP (T : Tb) (n s e : Int) : Prop := (Kinds T n ∧ s = txt T n ∧ e = 0) ∨ (¬ Kinds T n ∧ s = 0 ∧ e = 2)
def dep (n : Int) : Nat := 2 * nDigits n.natAbs + if n < 0 then 1 else 0
def zfill (i : Int) : Tb := fun r c => if 0 ≤ r ∧ r < i ∧ c = 2 then -1 else 0
def AIfn (j : Nat) (a b _c _d : D) : D :=
  match j with
  | 2 => .i (txt a.tab b.int)
  | 3 => .i (senc (itoa a.int))
  | 5 => .t (zfill a.int)
  | _ => .i 0
def AIpr (N : Nat) (j : Nat) (l : List D) : Prop :=
  match j, l with
  | 1, [.t T, .i n, .i s, .i e] => PrintP T n s e
  | 2, [.t T, .i n] => Kinds T n
  | 3, [.t T, .i n] => Nums T n
  | 20, [.i n] => dep n < N
  | 21, [.i n] => dep n ≤ N
  | _, _ => False
def AI (N : Nat) : Itp where
  fn j a b c d := some (AIfn j a b c d)
  pr := AIpr N
variable {N : Nat}
theorem AI_tot : (AI N).tot auS := by
  intro j s hs a b c d
  unfold Itp.ap
  unfold auS at hs
  split at hs <;> cases hs
  all_goals first
    | exact ⟨_, (if_neg (by decide)).trans rfl, trivial⟩
    | exact ⟨_, (if_pos (by decide)).trans rfl, trivial⟩
section signs
variable {a b c d x y z u : Int} {T : Tb}
theorem S2 : (AI N).ap 2 (.t T) (.i b) (.i c) (.i d) = some (.i (txt T b)) := rfl
theorem S3 : (AI N).ap 3 (.i a) (.i b) (.i c) (.i d) = some (.i (senc (itoa a))) := rfl
theorem S5 : (AI N).ap 5 (.i a) (.i b) (.i c) (.i d) = some (.t (zfill a)) := rfl
theorem S1001 : (AI N).ap 1001 (.i a) (.i b) (.i c) (.i d) = some (.i (slen a)) := rfl
theorem S1002 : (AI N).ap 1002 (.i a) (.i b) (.i c) (.i d) = some (.i (scat a b)) := rfl
theorem S1005 : (AI N).ap 1005 (.t T) (.i b) (.i c) (.i d) = some (.i (scode T b)) := rfl
theorem P1 : (AI N).pr 1 [.t T, .i a, .i b, .i c] = PrintP T a b c := rfl
theorem P2 : (AI N).pr 2 [.t T, .i a] = Kinds T a := rfl
theorem P3 : (AI N).pr 3 [.t T, .i a] = Nums T a := rfl
theorem P20 : (AI N).pr 20 [.i a] = (dep a < N) := rfl
theorem P21 : (AI N).pr 21 [.i a] = (dep a ≤ N) := rfl
end signs
theorem dd_small {u : Nat} (h : u < 10) : decDigits u = [UInt8.ofNat (48 + u)] := by rw [decDigits, dif_pos h]
theorem dd_big {u : Nat} (h : ¬ u < 10) : decDigits u = decDigits (u / 10) ++ [UInt8.ofNat (48 + u % 10)] := by rw [decDigits, dif_neg h]
theorem itoa_small {n : Int} (h0 : 0 ≤ n) (h : n < 10) : itoa n = [UInt8.ofNat (48 + n.toNat)] := by
  unfold itoa; rw [if_neg (by omega), dd_small (by omega)]
theorem itoa_big {n : Int} (h : 10 ≤ n) : itoa n = itoa (n.tdiv 10) ++ itoa (n.tmod 10) := by
  obtain ⟨u, rfl⟩ := Int.eq_ofNat_of_zero_le (show 0 ≤ n by omega)
  have e1 : ((u : Int)).tdiv 10 = ((u / 10 : Nat) : Int) := by rw [Int.tdiv_eq_ediv_of_nonneg (by omega)]; rfl
  have e2 : ((u : Int)).tmod 10 = ((u % 10 : Nat) : Int) := by rw [Int.tmod_eq_emod_of_nonneg (by omega)]; rfl
  rw [e1, e2, itoa_nonneg, itoa_nonneg, itoa_nonneg, dd_big (by omega), dd_small (u := u % 10) (Nat.mod_lt _ (by omega))]
theorem itoa_negs {n : Int} (h0 : n < 0) (h : -10 < n) : itoa n = 45 :: itoa (-n) := by
  obtain ⟨u, hu⟩ := Int.eq_ofNat_of_zero_le (show 0 ≤ -n by omega)
  have : n = -(u : Int) := by omega
  rw [hu, this, itoa_nonneg, itoa_neg u (by omega)]
theorem itoa_negb {n : Int} (h : n ≤ -10) : itoa n = itoa (n.tdiv 10) ++ itoa (-(n.tmod 10)) := by
  obtain ⟨u, hu⟩ := Int.eq_ofNat_of_zero_le (show 0 ≤ -n by omega)
  have hn : n = -(u : Int) := by omega
  have e1 : n.tdiv 10 = -((u / 10 : Nat) : Int) := by rw [hn, Int.neg_tdiv, Int.tdiv_eq_ediv_of_nonneg (by omega)]; rfl
  have e2 : -(n.tmod 10) = ((u % 10 : Nat) : Int) := by rw [hn, Int.neg_tmod, Int.neg_neg, Int.tmod_eq_emod_of_nonneg (by omega)]; rfl
  rw [e1, e2, hn, itoa_neg u (by omega), itoa_neg (u / 10) (by omega), itoa_nonneg, dd_big (by omega), dd_small (u := u % 10) (Nat.mod_lt _ (by omega))]
  rfl
theorem nDigits_le : ∀ (k u : Nat), 1 ≤ k → u < 10 ^ k → nDigits u ≤ k
  | 0, _, h, _ => by omega
  | k + 1, u, _, h => by
    by_cases h0 : u < 10
    · rw [nDigits_small h0]; omega
    · rw [nDigits_big h0]
      rw [Nat.pow_succ] at h
      have hk : 1 ≤ k := by
        cases k with
        | zero => simp at h; omega
        | succ k => omega
      have := nDigits_le k (u / 10) hk (by omega)
      omega
theorem dd_length (u : Nat) : (decDigits u).length = nDigits u := by rw [decDigits_eq]; simp
theorem itoa_len {m : Int} (h : I64 m) : (itoa m).length ≤ 20 := by
  have h1 := nDigits_le 19 m.natAbs (by omega) (by obtain ⟨h0, h1⟩ := h; omega)
  unfold itoa
  split
  · simp only [List.length_cons, dd_length]; omega
  · rw [dd_length]
    have : m.toNat = m.natAbs := by omega
    rw [this]; omega
theorem w8 {x : Int} (h : 0 ≤ x ∧ x ≤ 255) : IntKind.u8.wrap x = x := wrap_rng (k := .u8) h
theorem nd_one {u : Nat} : 1 ≤ nDigits u := nDigits_pos u
theorem dep_small {n : Int} (h : 0 ≤ n) (h1 : n < 10) : dep n = 2 := by
  unfold dep; rw [if_neg (by omega), nDigits_small (by omega)]
theorem dep_big {n : Int} (h : 10 ≤ n) : dep (n.tdiv 10) < dep n ∧ dep (n.tmod 10) < dep n := by
  have e1 : n.tdiv 10 = n / 10 := Int.tdiv_eq_ediv_of_nonneg (by omega)
  have e2 : n.tmod 10 = n % 10 := Int.tmod_eq_emod_of_nonneg (by omega)
  rw [e1, e2, dep_small (n := n % 10) (by omega) (by omega)]
  unfold dep
  rw [if_neg (by omega), if_neg (by omega), nDigits_big (u := n.natAbs) (by omega)]
  have : (n / 10).natAbs = n.natAbs / 10 := by omega
  rw [this]
  have := nd_one (u := n.natAbs / 10)
  omega
theorem dep_negs {n : Int} (h : n < 0) (h1 : -10 < n) : dep (-n) < dep n := by
  rw [dep_small (n := -n) (by omega) (by omega)]
  unfold dep
  rw [if_pos h]
  have := nd_one (u := n.natAbs)
  omega
theorem dep_negb {n : Int} (h : n ≤ -10) : dep (n.tdiv 10) < dep n ∧ dep (-(n.tmod 10)) < dep n := by
  obtain ⟨u, hu⟩ := Int.eq_ofNat_of_zero_le (show 0 ≤ -n by omega)
  have hn : n = -(u : Int) := by omega
  have e1 : n.tdiv 10 = -((u / 10 : Nat) : Int) := by rw [hn, Int.neg_tdiv, Int.tdiv_eq_ediv_of_nonneg (by omega)]; rfl
  have e2 : -(n.tmod 10) = ((u % 10 : Nat) : Int) := by rw [hn, Int.neg_tmod, Int.neg_neg, Int.tmod_eq_emod_of_nonneg (by omega)]; rfl
  rw [e1, e2, dep_small (n := ((u % 10 : Nat) : Int)) (by omega) (by omega)]
  unfold dep
  rw [if_pos (by omega), if_pos (by omega), show n.natAbs = u by omega, nDigits_big (u := u) (by omega), show (-((u / 10 : Nat) : Int)).natAbs = u / 10 by omega]
  have := nd_one (u := u / 10)
  omega
theorem dep_le {n : Int} (h : I64 n) : dep n ≤ 39 := by
  have := nDigits_le 19 n.natAbs (by omega) (by obtain ⟨h0, h1⟩ := h; omega)
  unfold dep
  split <;> omega
theorem slen_senc (l : List UInt8) : slen (senc l) = (l.length : Nat) := by unfold slen; rw [sdec_senc]
theorem dash : sdec 23 = [45] := rfl
theorem w64 {x : Int} (h : -9223372036854775808 ≤ x ∧ x ≤ 9223372036854775807) : IntKind.i64.wrap x = x := wrap_rng (k := .i64) h
theorem q10 {n : Int} (h : I64 n) : bitsEv 6 IntKind.i64 n 10 = n.tdiv 10 := by
  obtain ⟨h0, h1⟩ := h
  show IntKind.i64.wrap (n.tdiv 10) = _
  refine w64 ?_
  rcases Int.le_total 0 n with h2 | h2
  · rw [Int.tdiv_eq_ediv_of_nonneg h2]; omega
  · obtain ⟨u, hu⟩ := Int.eq_ofNat_of_zero_le (show 0 ≤ -n by omega)
    have hn : n = -(u : Int) := by omega
    rw [hn, Int.neg_tdiv, Int.tdiv_eq_ediv_of_nonneg (by omega)]; omega
theorem tdiv_rng {n : Int} (h : I64 n) : I64 (n.tdiv 10) := by
  obtain ⟨h0, h1⟩ := h
  rcases Int.le_total 0 n with h2 | h2
  · rw [Int.tdiv_eq_ediv_of_nonneg h2]; constructor <;> omega
  · obtain ⟨u, hu⟩ := Int.eq_ofNat_of_zero_le (show 0 ≤ -n by omega)
    have hn : n = -(u : Int) := by omega
    rw [hn, Int.neg_tdiv, Int.tdiv_eq_ediv_of_nonneg (by omega)]; constructor <;> omega
theorem tmod_rng (n : Int) : -10 < n.tmod 10 ∧ n.tmod 10 < 10 := by
  rcases Int.le_total 0 n with h2 | h2
  · rw [Int.tmod_eq_emod_of_nonneg h2]; omega
  · obtain ⟨u, hu⟩ := Int.eq_ofNat_of_zero_le (show 0 ≤ -n by omega)
    have hn : n = -(u : Int) := by omega
    rw [hn, Int.neg_tmod, Int.tmod_eq_emod_of_nonneg (by omega)]; omega
theorem scat_senc (l m : List UInt8) : scat (senc l) (senc m) = senc (l ++ m) := by unfold scat; rw [sdec_senc, sdec_senc]
theorem slen_itoa {n : Int} (h : I64 n) : slen (senc (itoa n)) ≤ 20 := by
  rw [slen_senc]
  have := itoa_len h
  omega
end Go.Au
namespace Go.Au
open Go Go.Sx
set_option maxRecDepth 100000
def p0 : PE := (γ (sln (ν 3)) (.bin .mul (κ 100) (ν 2)))
def e1 : E := (fn2 2 (ν 0) (ν 2))
def e2 : E := (.bin .lt (ξ (ν 0) (ν 2) 0) (κ 1))
def q3 : Tree := (α (.pr 1 [(ν 0), (ν 1), ο, (κ 2)]) .ok)
def e4 : E := (.bin .lt (κ 18) (ξ (ν 0) (ν 2) 0))
def e5 : E := (δ (ξ (ν 0) (ν 2) 0) (κ 1))
def tb6 : E := (υ (υ (υ (υ (υ (υ (υ (υ (υ (υ (υ (υ (υ (υ (υ (υ (υ (υ .zt ο 0 (κ (-985248057))) (κ 1) 0 (κ 247819581880)) (κ 2) 0 (κ (-232770778802))) (κ 3) 0 (κ (-219919397178))) (κ 4) 0 (κ 850900278)) (κ 5) 0 (κ (-859061045))) (κ 6) 0 (κ (-858961976))) (κ 7) 0 (κ (-64541349296946))) (κ 8) 0 (κ (-252148397367))) (κ 9) 0 (κ (-64560660328761))) (κ 10) 0 (κ 3652664)) (κ 11) 0 (κ 55745373748025)) (κ 12) 0 (κ 243591625402)) (κ 13) 0 (κ (-55745323840318))) (κ 14) 0 (κ (-859487538))) (κ 15) 0 (κ 250093254330)) (κ 16) 0 (κ (-56310019633461))) (κ 17) 0 (κ 61234233260472))
def e7 : E := (κ 1000000)
def p8 : PE := (γ (π (sln e1) (sln (ξ tb6 e5 0))) e7)
def e9 : E := (fn2 1002 e1 (ξ tb6 e5 0))
def e10 : E := (fn2 1002 e9 (κ (-17)))
def e11 : E := (fn1 3 (ξ (ν 0) (ν 2) 1))
def e12 : E := (fn2 1002 e10 e11)
def e13 : E := (fn2 1002 e12 (κ (-17)))
def e14 : E := (fn1 3 (ξ (ν 0) (ν 2) 2))
def e15 : E := (fn2 1002 e13 e14)
def e16 : E := (fn2 1002 e15 (κ (-17)))
def e17 : E := (fn1 3 (ξ (ν 0) (ν 2) 3))
def e18 : E := (fn2 1002 e16 e17)
def e19 : E := (fn2 1002 e18 (κ (-6)))
def e20 : E := (π (ν 2) (κ 1))
def q21 : Tree := (α (ρ e20) (α (γ ο e20) (α (γ e20 (ν 1)) (α (γ (sln e19) (.bin .mul (κ 100) e20)) (α (.same e19 (fn2 2 (ν 0) e20)) (α (.pr 2 [(ν 0), e20]) (α (γ ο (δ (ν 1) e20)) (α (ω (δ (ν 1) e20) (δ (ν 1) (ν 2))) .ok))))))))
def q22 : Tree := (α (.pr 1 [(ν 0), (ν 1), e1, ο]) .ok)
def e23 : E := (fn1 3 (δ ο (ν 0)))
def e24 : E := (fn1 3 (ν 0))
def e25 : E := (.bin (.bits 6 .i64) (ν 0) (κ 10))
def e26 : E := (.bin .tmod (ν 0) (κ 10))
def e27 : E := (fn2 1002 (fn1 3 e25) (fn1 3 (δ ο e26)))
def e28 : E := (υ .zt ο 0 (.wrap .u8 (π (κ 48) (ν 0))))
def e29 : E := (fn2 1002 (fn1 3 e25) (fn1 3 e26))
def tPrint : Tree := (μ (γ ο (ν 1)) (μ (γ (ν 1) (κ 300)) (μ (.pr 3 [(ν 0), (ν 1)]) (α (γ (sln ο) ο) (α (.same ο (fn1 2 (ν 0))) (α (.pr 2 [(ν 0), ο]) (η (η (μ (γ ο (ν 2)) (μ (γ (ν 2) (ν 1)) (μ p0 (μ (.same (ν 3) e1) (μ (.pr 2 [(ν 0), (ν 2)]) (β (.bin .lt (ν 2) (ν 1)) (β e2 q3 (β e4 q3 (α (ρ e5) (α (γ ο e5) (α (ω e5 (κ 18)) (α p8 (η (μ (.same (ν 4) e9) (α (γ (π (sln e9) (κ 1)) e7) (η (μ (.same (ν 5) e10) (α (ρ (ξ (ν 0) (ν 2) 1)) (η (μ (.same (ν 6) e11) (μ (γ (sln e11) (κ 20)) (α (γ (π (sln e10) (sln e11)) e7) (η (μ (.same (ν 7) e12) (α (γ (π (sln e12) (κ 1)) e7) (η (μ (.same (ν 8) e13) (α (ρ (ξ (ν 0) (ν 2) 2)) (η (μ (.same (ν 9) e14) (μ (γ (sln e14) (κ 20)) (α (γ (π (sln e13) (sln e14)) e7) (η (μ (.same (ν 10) e15) (α (γ (π (sln e15) (κ 1)) e7) (η (μ (.same (ν 11) e16) (α (ρ (ξ (ν 0) (ν 2) 3)) (η (μ (.same (ν 12) e17) (μ (γ (sln e17) (κ 20)) (α (γ (π (sln e16) (sln e17)) e7) (η (μ (.same (ν 13) e18) (α (γ (π (sln e18) (κ 1)) e7) (η (μ (.same (ν 14) e19) q21))))))))))))))))))))))))))))))))))))))))) q22))))))))))))))
def tRPrint : Tree := (μ (γ ο (ν 1)) (μ (γ (ν 1) (κ 300)) (μ (.pr 3 [(ν 0), (ν 1)]) (α (γ (sln ο) ο) (α (.same ο (fn1 2 (ν 0))) (α (.pr 2 [(ν 0), ο]) (η (η (μ (γ ο (ν 2)) (μ (γ (ν 2) (ν 1)) (μ p0 (μ (.same (ν 3) e1) (μ (.pr 2 [(ν 0), (ν 2)]) (β (.bin .lt (ν 2) (ν 1)) (β e2 q3 (β e4 q3 (α (ρ e5) (α (γ ο e5) (α (ω e5 (κ 18)) (α p8 (α (γ (π (sln e9) (κ 1)) e7) (α (ρ (ξ (ν 0) (ν 2) 1)) (η (μ (.same (ν 4) e11) (μ (γ (sln e11) (κ 20)) (α (γ (π (sln e10) (sln e11)) e7) (α (γ (π (sln e12) (κ 1)) e7) (α (ρ (ξ (ν 0) (ν 2) 2)) (η (μ (.same (ν 5) e14) (μ (γ (sln e14) (κ 20)) (α (γ (π (sln e13) (sln e14)) e7) (α (γ (π (sln e15) (κ 1)) e7) (α (ρ (ξ (ν 0) (ν 2) 3)) (η (μ (.same (ν 6) e17) (μ (γ (sln e17) (κ 20)) (α (γ (π (sln e16) (sln e17)) e7) (α (γ (π (sln e18) (κ 1)) e7) q21))))))))))))))))))))))))) q22))))))))))))))
def tRDig : Tree := (μ (ρ (ν 0)) (μ (.pr 21 [(ν 0)]) (β (.bin .lt (ν 0) ο) (β (.bin .lt (κ (-10)) (ν 0)) (α (ρ (δ ο (ν 0))) (α (.pr 20 [(δ ο (ν 0))]) (η (μ (.same (ν 1) e23) (μ (γ (sln e23) (κ 20)) (α (γ (π (κ 1) (sln e23)) e7) (α (.same (fn2 1002 (κ 23) e23) e24) (α (γ (sln (fn2 1002 (κ 23) e23)) (κ 20)) .ok)))))))) (α (ρ e25) (α (.pr 20 [e25]) (η (μ (.same (ν 1) (fn1 3 e25)) (μ (γ (sln (fn1 3 e25)) (κ 20)) (α (ρ (δ ο e26)) (α (.pr 20 [(δ ο e26)]) (η (μ (.same (ν 2) (fn1 3 (δ ο e26))) (μ (γ (sln (fn1 3 (δ ο e26))) (κ 20)) (α (γ (π (sln (fn1 3 e25)) (sln (fn1 3 (δ ο e26)))) e7) (α (.same e27 e24) (α (γ (sln e27) (κ 20)) .ok)))))))))))))) (β (.bin .lt (ν 0) (κ 10)) (α (ρ (π (κ 48) (ν 0))) (α (.byt e28 (κ 1)) (α (.same (fn2 1005 e28 (κ 1)) e24) (α (γ (sln (fn2 1005 e28 (κ 1))) (κ 20)) .ok)))) (α (ρ e25) (α (.pr 20 [e25]) (η (μ (.same (ν 1) (fn1 3 e25)) (μ (γ (sln (fn1 3 e25)) (κ 20)) (α (ρ e26) (α (.pr 20 [e26]) (η (μ (.same (ν 2) (fn1 3 e26)) (μ (γ (sln (fn1 3 e26)) (κ 20)) (α (γ (π (sln (fn1 3 e25)) (sln (fn1 3 e26))) e7) (α (.same e29 e24) (α (γ (sln e29) (κ 20)) .ok)))))))))))))))))
end Go.Au
namespace Go.Au
open Go Go.Sx Go.Mg
set_option maxRecDepth 100000
def pb0 : PE := (γ ο (ν 0))
def pb1 : PE := (γ (ν 0) (κ 1024))
def eb2 : E := (.bin .lt (ν 0) (κ 1024))
def eb3 : E := (π (ν 0) (κ 1))
def pb4 : PE := (γ eb3 (κ 1024))
def qb5 : Tree := (α (γ ο (δ (κ 1024) eb3)) (α (ω (δ (κ 1024) eb3) (δ (κ 1024) (ν 0))) .ok))
def qb6 : Tree := (α (ρ eb3) (α (γ ο eb3) (α pb4 (α (.same (υ (fn1 5 (ν 0)) (ν 0) 2 (κ (-1))) (fn1 5 eb3)) qb5))))
def eb7 : E := (υ (υ (υ (υ (υ (υ (υ (.kt [0, 0, -1, 0, 0, 0, 0, 0, 0, 0, 0, 0, 0, 0, 0, 0, 0, 0, 0, 0, 0, 0, 0, 0, 0, 0, 0, 0, 0, 0, 0, 0, 0, 0, 0, 0, 0, 0, 0, 0, 0, 0, 0, 0, 0, 0, 0, 0, 0, 0, 0, 0, 0, 0, 0, 0, 0, 0, 0, 0, 0, 0, 0, 0, 0, 0, 0, 0, 0, 0]) ο 0 (κ 3)) ο 1 (κ 3)) ο 2 ο) (κ 1) 0 (κ 2)) (κ 1) 1 (κ 2)) (κ 1) 2 ο) (κ 1) 3 (κ 1))
def eb8 : E := (υ (υ (υ (υ (υ eb7 (κ 1) 4 (κ 1)) (κ 2) 0 (κ 2)) (κ 2) 1 (κ 2)) (κ 2) 2 ο) (κ 2) 3 (κ 1))
def eb9 : E := (υ (υ (υ (υ (υ (υ (υ (υ (υ (υ (υ (υ (υ (υ eb8 (κ 2) 4 (κ 1)) (κ 3) 0 (κ 1)) (κ 3) 1 (κ 1)) (κ 3) 2 ο) (κ 4) 0 (κ 1)) (κ 4) 1 (κ 1)) (κ 4) 2 ο) (κ 5) 0 (κ 1)) (κ 5) 1 (κ 1)) (κ 5) 2 ο) (κ 6) 0 (κ 1)) (κ 6) 1 (κ 1)) (κ 6) 2 ο) (κ 7) 0 (κ 3))
def eb10 : E := (υ (υ (υ (υ (υ (υ (υ (υ (υ (υ (υ (υ (υ (υ (υ (υ (υ (υ (υ (υ (υ (υ (υ (υ (υ (υ (υ (υ (υ (υ (υ (υ (fn1 5 (ν 0)) ο 0 (κ 3)) (κ 1) 0 (κ 2)) (κ 2) 0 (κ 2)) (κ 3) 0 (κ 1)) (κ 4) 0 (κ 1)) (κ 5) 0 (κ 1)) (κ 6) 0 (κ 1)) (κ 7) 0 (κ 3)) ο 2 ο) ο 3 ο) ο 1 (κ 3)) (κ 1) 2 ο) (κ 1) 3 (κ 1)) (κ 1) 1 (κ 2)) (κ 2) 2 ο) (κ 2) 3 (κ 1)) (κ 2) 1 (κ 2)) (κ 3) 2 ο) (κ 3) 3 ο) (κ 3) 1 (κ 1)) (κ 4) 2 ο) (κ 4) 3 ο) (κ 4) 1 (κ 1)) (κ 5) 2 ο) (κ 5) 3 ο) (κ 5) 1 (κ 1)) (κ 6) 2 ο) (κ 6) 3 ο) (κ 6) 1 (κ 1)) (κ 7) 2 ο) (κ 7) 3 ο) (κ 7) 1 (κ 3))
def eb11 : E := (υ (υ (υ (υ eb7 (κ 2) 0 (κ 2)) (κ 2) 1 (κ 2)) (κ 2) 2 ο) (κ 2) 3 (κ 1))
def eb12 : E := (υ (υ (υ (υ (υ (υ (υ (υ (υ (υ (υ (υ (υ (υ eb11 (κ 2) 4 (κ 1)) (κ 3) 0 (κ 1)) (κ 3) 1 (κ 1)) (κ 3) 2 ο) (κ 4) 0 (κ 1)) (κ 4) 1 (κ 1)) (κ 4) 2 ο) (κ 5) 0 (κ 1)) (κ 5) 1 (κ 1)) (κ 5) 2 ο) (κ 6) 0 (κ 1)) (κ 6) 1 (κ 1)) (κ 6) 2 ο) (κ 7) 0 (κ 3))
def eb13 : E := (ξ eb9 (ν 0) 0)
def qb14 : Tree := (α (ρ eb3) (.fail 61))
def qb15 : Tree := (α (ρ eb3) (α (γ ο eb3) (α pb4 qb5)))
def eb16 : E := (ξ (υ eb8 (κ 2) 4 (κ 1)) (ν 0) 4)
def eb17 : E := (ξ (υ eb11 (κ 2) 4 (κ 1)) (ν 0) 4)
def eb18 : E := (.bin .min (κ 4) (.bin .max ο (δ (ν 0) (κ 3))))
def eb19 : E := (.bin .min (κ 2) (.bin .max ο (δ (ν 0) (κ 1))))
def eb20 : E := (π (.bin .min (κ 1) (.bin .max ο (δ (ν 0) ο))) (.bin .min (κ 1) (.bin .max ο (δ (ν 0) (κ 7)))))
def eb21 : E := (.bin .min (κ 4) (.bin .max ο (δ eb3 (κ 3))))
def eb22 : E := (.bin .min (κ 2) (.bin .max ο (δ eb3 (κ 1))))
def eb23 : E := (π (.bin .min (κ 1) (.bin .max ο (δ eb3 ο))) (.bin .min (κ 1) (.bin .max ο (δ eb3 (κ 7)))))
def qb24 : Tree := (α (.same eb19 eb22) (α (.same eb20 eb23) qb5))
def tSt10 : Tree := (α (.same .zt (fn1 5 ο)) (η (τ (μ pb0 (μ pb1 (μ (.same (ν 1) (fn1 5 (ν 0))) (β eb2 qb6 (α (.agr (υ (υ eb9 (κ 7) 1 (κ 3)) (κ 7) 2 ο) (υ (υ (υ (υ eb10 (κ 1) 4 (κ 1)) (κ 1) 5 ο) (κ 2) 4 (κ 1)) (κ 2) 5 ο) (κ 1024) 70) .ok))))))))
def tSt12 : Tree := (α (.same .zt (fn1 5 ο)) (η (τ (μ pb0 (μ pb1 (μ (.same (ν 1) (fn1 5 (ν 0))) (β eb2 qb6 (α (.agr (υ (υ eb9 (κ 7) 1 (κ 3)) (κ 7) 2 ο) (υ (υ (υ (υ eb10 (κ 1) 4 (κ 1)) (κ 1) 5 ο) (κ 2) 4 (κ 1)) (κ 2) 5 ο) (κ 1024) 70) .ok))))))))
def tSt18 : Tree := (α (.same .zt (fn1 5 ο)) (η (τ (μ pb0 (μ pb1 (μ (.same (ν 1) (fn1 5 (ν 0))) (β eb2 qb6 (α (.agr (υ (υ eb12 (κ 7) 1 (κ 3)) (κ 7) 2 ο) (υ (υ eb10 (κ 2) 4 (κ 1)) (κ 2) 5 ο) (κ 1024) 70) .ok))))))))
def tSt13 : Tree := (η (μ pb0 (μ pb1 (β eb2 (β (χ (χ eb13 (ξ (υ eb9 (κ 7) 1 (κ 3)) (ν 0) 1)) ο) qb14 qb15) .ok))))
def tSt14 : Tree := (η (μ pb0 (μ pb1 (β eb2 (β (χ (χ (.bin .ne (ξ eb8 (ν 0) 3) ο) (.bin .ne eb16 ο)) ο) (β (ξ eb8 (ν 0) 3) (β eb16 qb14 qb14) (β eb16 qb14 qb14)) qb15) .ok))))
def tSt15 : Tree := (η (μ pb0 (μ pb1 (β eb2 (β eb16 qb15 qb15) .ok))))
def tSt19 : Tree := (η (μ pb0 (μ pb1 (β eb2 (β (χ (χ (ξ eb12 (ν 0) 0) (ξ (υ eb12 (κ 7) 1 (κ 3)) (ν 0) 1)) ο) qb14 qb15) .ok))))
def tSt20 : Tree := (η (μ (γ (κ 2) (ν 0)) (μ pb1 (β eb2 (α pb0 (β (χ (χ (.bin .ne (ξ eb11 (ν 0) 3) ο) (.bin .ne eb17 ο)) ο) (β (ξ eb11 (ν 0) 3) (β eb17 qb14 qb14) (β eb17 qb14 qb14)) (α (ρ eb3) (α (γ (κ 2) eb3) (α pb4 qb5))))) .ok))))
def tSt21 : Tree := (η (μ pb0 (μ pb1 (β eb2 (β eb17 qb15 qb15) .ok))))
def tSt24 : Tree := (η (μ pb0 (μ pb1 (β eb2 (β (χ (χ eb13 (ξ (υ eb9 (κ 7) 1 (κ 3)) (ν 0) 1)) ο) qb14 qb15) .ok))))
def tSt25 : Tree := (η (μ pb0 (μ pb1 (β eb2 (β (χ (χ (.bin .ne (ξ eb8 (ν 0) 3) ο) (.bin .ne eb16 ο)) ο) (β (ξ eb8 (ν 0) 3) (β eb16 qb14 qb14) (β eb16 qb14 qb14)) qb15) .ok))))
def tSt26 : Tree := (η (μ pb0 (μ pb1 (β eb2 (β eb16 qb15 qb15) .ok))))
def tSt11 : Tree := (η (η (η (η (μ pb0 (μ pb1 (μ (.same (ν 1) eb18) (μ (.same (ν 2) eb19) (μ (.same (ν 3) eb20) (β eb2 (β (χ eb13 (κ 3)) (α (ρ (π eb20 (κ 1))) (α (ρ eb3) (α (γ ο eb3) (α pb4 (α (.same eb18 eb21) (α (.same eb19 eb22) (α (.same (π eb20 (κ 1)) eb23) qb5))))))) (β (χ eb13 (κ 2)) (α (ρ (π eb19 (κ 1))) (α (ρ eb3) (α (γ ο eb3) (α pb4 (α (.same eb18 eb21) (α (.same (π eb19 (κ 1)) eb22) (α (.same eb20 eb23) qb5))))))) (β (χ eb13 (κ 1)) (α (ρ (π eb18 (κ 1))) (α (ρ eb3) (α (γ ο eb3) (α pb4 (α (.same (π eb18 (κ 1)) eb21) qb24))))) (β (χ eb13 ο) (α (ρ eb3) (α (γ ο eb3) (α pb4 (α (.same eb18 eb21) qb24)))) (.fail 29))))) (α (.same eb18 (κ 4)) (α (.same eb19 (κ 2)) (α (.same eb20 (κ 2)) .ok)))))))))))))
end Go.Au
namespace Go.Au
open Go Go.Sx
set_option maxRecDepth 100000
def ec0 : E := (υ (υ (υ (υ .zt ο 0 (κ 11)) ο 1 (κ 1)) ο 2 (κ 2)) ο 3 (κ 3))
def tAwake : Tree := (η (η (η (μ (.same (ν 0) (κ 4)) (μ (.same (ν 1) (κ 2)) (μ (.same (ν 2) (κ 2)) (α (.pr 3 [ec0, (κ 1)]) (η (η (μ (.pr 1 [ec0, (κ 1), (ν 3), (ν 4)]) (β (χ (χ (ν 4) ο) ο) (.fail 100) (β (.bin .ne (ν 3) (κ 26453827147862625467448)) (.fail 100) .ok))))))))))))
def tLaw : Tree := (μ (γ ο (ν 1)) (μ (ρ (ν 1)) (μ (.pr 3 [(ν 0), (ν 1)]) (β (.bin .lt (κ 300) (ν 1)) .ok (η (η (μ (.pr 1 [(ν 0), (ν 1), (ν 2), (ν 3)]) (η (η (μ (.pr 1 [(ν 0), (ν 1), (ν 4), (ν 5)]) (β (χ (ν 2) (ν 4)) (β (χ (ν 3) (ν 5)) .ok (.fail 100)) (.fail 100))))))))))))
end Go.Au
