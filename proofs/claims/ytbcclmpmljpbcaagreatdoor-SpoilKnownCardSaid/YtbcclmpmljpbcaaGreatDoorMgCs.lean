/-
  Contracts of three loops over all pages; what the executor knows of the manager's types and variables. Definitions alone; nothing here speaks of a program.
-/
import Derived.Test.YtbcclmpmljpbcaaGreatDoorSxVc
namespace Go.Mg
open Go Go.Sx

def v (i : Nat) : E := .var i
def i64 (e : E) : AV := .int .i64 e
def eLe (a b : E) : PE := .tt (.bin .le a b)
def pgK : List CK := .int .i64 :: .bool :: List.replicate 64 (.int .u8)
def bgs : List Big := [⟨246, 1, pgK, 1024⟩, ⟨253, 2, [.int .u64], 352⟩, ⟨571, 0, [.int .u64], 1024⟩, ⟨239, 5, [.int .i64], 1024⟩]
def tab64 : List Int := [0, 1, 56, 2, 57, 49, 28, 3, 61, 58, 42, 50, 38, 29, 17, 4, 62, 47, 59, 36, 45, 43, 51, 22, 53, 39, 33, 30, 24, 18, 12, 5, 63, 55, 48, 27, 60, 41, 37, 16, 46, 35, 44, 21, 52, 32, 23, 11, 54, 26, 40, 15, 34, 20, 31, 10, 25, 14, 19, 9, 13, 8, 7, 6]
def tab32 : List Int := [0, 1, 28, 2, 29, 14, 24, 3, 30, 22, 20, 15, 25, 17, 4, 8, 31, 27, 13, 23, 21, 19, 16, 7, 26, 12, 18, 6, 11, 5, 10, 9]
def pow10 : List Int := [1, 10, 100, 1000, 10000, 100000, 1000000, 10000000, 100000000, 1000000000, 10000000000, 100000000000, 1000000000000, 10000000000000, 100000000000000, 1000000000000000, 10000000000000000, 100000000000000000, 1000000000000000000, 10000000000000000000]
def gls : List Glob := [{ g := 7, k := .int .u8, l := tab64 }, { g := 6, k := .int .u8, l := tab32 }, { g := 1, k := .int .u64, l := pow10, full := true }, { g := 0, k := .int .i64, l := [], ity := true }, { g := 2, k := .int .i64, l := [], ifc := true }, { g := 3, k := .int .i64, l := [], ifc := true }]
def kn : Kn := { bigs := bgs, globs := gls }
def c0 : Contract where
  fn := 0
  sorts := []
  args := []
  mem := []
  nb := 0
  pre := []
  outs := []
  res := .tup []
  mods := []
  fresh := []
  post := []
/-- All pages are counted by their kinds. -/
def cCounts : Contract := { c0 with fn := 300, sorts := [true], args := [.ptr 0 (.lit 0) 0 0], mem := [(0, .big [.bool (.lit 1)] pgK (v 0) 1024 [] false)], nb := 1, pre := [.col (v 0) 0 0 3], outs := [false, false, false, false, false], res := .tup [.agg [i64 (v 1), i64 (v 2), i64 (v 3), i64 (v 4), i64 (v 5)], i64 (.lit 0)] }
def aCounts : Ann where
  fn := 300
  bid := 0
  keep := [5, 4, 2, 0]
  tmps := [(16, i64 (v 6))]
  drop := []
  mem := [(2, .cells [i64 (v 1), i64 (v 2), i64 (v 3), i64 (v 4), i64 (v 5)] true)]
  sorts := [false, false, false, false, false, false]
  nbl := 0
  inv := [eLe (.lit 0) (v 6), eLe (v 6) (.lit 1024), eLe (.lit 0) (v 1), eLe (v 1) (v 6), eLe (.lit 0) (v 2), eLe (v 2) (v 6), eLe (.lit 0) (v 3), eLe (v 3) (v 6), eLe (.lit 0) (v 4), eLe (v 4) (v 6), eLe (.lit 0) (v 5), eLe (v 5) (v 6)]
  meas := .bin .sub (.lit 1024) (v 6)
/-- An empty set of pages yields nothing: sixteen words, from number 16 q of the lists on. -/
def cAll (q : Nat) : Contract := { c0 with fn := 269, sorts := [true], args := [.any, .ptr 0 (.lit 0) 0 0], mem := [(0, .cells [.ptr 1 (.lit 0) 0 (2 + 16 * q)] false), (1, .big [.any, .any] [.int .u64] (v 0) 352 [] false)], nb := 2, pre := (List.range 16).map fun i => .ff (.sel (v 0) (.lit ((16 * q + i : Nat) : Int)) 0) }
def aAll : Ann where
  fn := 269
  bid := 0
  keep := [0, 1]
  tmps := [(4, i64 (v 1))]
  drop := []
  mem := []
  sorts := [false]
  nbl := 0
  inv := [eLe (.lit 0) (v 1), eLe (v 1) (.lit 1024)]
  meas := .bin .sub (.lit 1024) (v 1)
/-- Memory that is all zero has no parts. -/
def cState : Contract := { c0 with fn := 353, sorts := [true], args := [.ptr 0 (.lit 0) 0 0], mem := [(0, .big [] [.int .u64] (v 0) 1024 [] false)], nb := 1, pre := [.col (v 0) 0 0 0], res := .agg [.nilslice] }
def aState : Ann where
  fn := 353
  bid := 0
  keep := [6, 3, 2, 0]
  tmps := [(7, i64 (v 1))]
  drop := []
  mem := []
  sorts := [false]
  nbl := 0
  inv := [eLe (.lit 0) (v 1), eLe (v 1) (.lit 1024)]
  meas := .bin .sub (.lit 1024) (v 1)
/-- A list's cells: all free. -/
def k5 : List CK := [.int .i64, .int .i64, .int .i64, .int .i64, .int .i64]
def k3 : List CK := [.int .i64, .int .i64, .int .i64]
def cFresh : Contract := { c0 with fn := 158, args := [i64 (.lit 1024), i64 (.lit 1)], res := .ptr 0 (.lit 0) 0 0, fresh := [(0, .cells [.slice 1 (.lit 0) (.lit 1024) 5 false, .slice 2 (.lit 0) (.lit 1) 3 false, i64 (.lit 0)] true), (1, .rows k5 (.kt [0, 0, -1, -1, -1]) (.lit 1024) true false), (2, .rows k3 (.kt [-1, -1, 0]) (.lit 1) true false)] }
def aFresh0 : Ann where
  fn := 158
  bid := 0
  keep := [5, 18]
  tmps := [(19, i64 (v 1))]
  drop := []
  mem := [(0, .rows k5 (v 0) (.lit 1024) true false)]
  sorts := [true, false]
  nbl := 0
  inv := [eLe (.lit 0) (v 1), eLe (v 1) (.lit 1024), .agr (v 0) (.kt [0, 0, -1, -1, -1]) (v 1) 5]
  meas := .bin .sub (.lit 1024) (v 1)
/-- All pages of a system that is made. -/
def cVmNew : Contract := { c0 with fn := 39, args := [.agg [.nilslice]], res := .tup [.ptr 0 (.lit 0) 0 0, i64 (.lit 0)], fresh := [(0, .big [.bool (.lit 1)] pgK .zt 1024 (.nilslice :: List.replicate 14 (i64 (.lit 0))) true)] }
def xLoops (P : Program) : Cx := { P, cs := [], anns := [aCounts, aAll, aState, aFresh0], kn := kn }
def loops : List Contract := [cCounts, cState, cFresh, cVmNew] ++ (List.range 22).map cAll
def xRun (P : Program) : Cx := { P, cs := loops, anns := [], kn := kn }
end Go.Mg
