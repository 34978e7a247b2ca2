/-
  Contracts of three loops over all pages; what the executor knows of the manager's types and variables. Definitions alone; nothing here speaks of a program.
-/
import Derived.Test.YtdelhnefoccnbaaGreatDoorA5
import Derived.Lib.ItoaLen
import Derived.Lib.ItoaMem
import Derived.Lib.SplitLaws
import Derived.Lib.ParseIntBTie
import Derived.Lib.ParseIntBCases
namespace Go.Mg
open Go Go.Sx
def v (i : Nat) : E := .var i
def i64 (e : E) : AV := .int .i64 e
def eLe (a b : E) : PE := .tt (.bin .le a b)
def pgK : List CK := .int .i64 :: .bool :: List.replicate 64 (.int .u8)
def bgs : List Big := [⟨188, 1, pgK, 1024⟩, ⟨195, 2, [.int .u64], 352⟩, ⟨452, 0, [.int .u64], 1024⟩, ⟨177, 5, [.int .i64], 1024⟩]
def tab64 : List Int := [0, 1, 56, 2, 57, 49, 28, 3, 61, 58, 42, 50, 38, 29, 17, 4, 62, 47, 59, 36, 45, 43, 51, 22, 53, 39, 33, 30, 24, 18, 12, 5, 63, 55, 48, 27, 60, 41, 37, 16, 46, 35, 44, 21, 52, 32, 23, 11, 54, 26, 40, 15, 34, 20, 31, 10, 25, 14, 19, 9, 13, 8, 7, 6]
def tab32 : List Int := [0, 1, 28, 2, 29, 14, 24, 3, 30, 22, 20, 15, 25, 17, 4, 8, 31, 27, 13, 23, 21, 19, 16, 7, 26, 12, 18, 6, 11, 5, 10, 9]
def gls : List Glob := [{ g := 1, k := .int .u8, l := tab64 }, { g := 0, k := .int .u8, l := tab32 }]
def kn : Kn := { bigs := bgs, globs := gls }
def c0 : Contract where
  fn := 0
  sorts := []
  args := []
  mem := []
  nb := 0
  pre := []
  outs := []
  res := .tup []
  mods := []
  fresh := []
  post := []
def cCounts : Contract := { c0 with fn := 195, sorts := [true], args := [.ptr 0 (.lit 0) 0 0], mem := [(0, .big [.bool (.lit 1)] pgK (v 0) 1024 [] false)], nb := 1, pre := [.col (v 0) 0 0 3], outs := [false, false, false, false, false], res := .tup [.agg [i64 (v 1), i64 (v 2), i64 (v 3), i64 (v 4), i64 (v 5)], i64 (.lit 0)] }
def aCounts : Ann where
  fn := 195
  bid := 0
  keep := [5, 4, 2, 0]
  tmps := [(16, i64 (v 6))]
  drop := []
  mem := [(2, .cells [i64 (v 1), i64 (v 2), i64 (v 3), i64 (v 4), i64 (v 5)] true)]
  sorts := [false, false, false, false, false, false]
  nbl := 0
  inv := [eLe (.lit 0) (v 6), eLe (v 6) (.lit 1024), eLe (.lit 0) (v 1), eLe (v 1) (v 6), eLe (.lit 0) (v 2), eLe (v 2) (v 6), eLe (.lit 0) (v 3), eLe (v 3) (v 6), eLe (.lit 0) (v 4), eLe (v 4) (v 6), eLe (.lit 0) (v 5), eLe (v 5) (v 6)]
  meas := .bin .sub (.lit 1024) (v 6)
def cAll (q : Nat) : Contract := { c0 with fn := 190, sorts := [true], args := [.any, .ptr 0 (.lit 0) 0 0], mem := [(0, .cells [.ptr 1 (.lit 0) 0 (2 + 16 * q)] false), (1, .big [.any, .any] [.int .u64] (v 0) 352 [] false)], nb := 2, pre := (List.range 16).map fun i => .ff (.sel (v 0) (.lit ((16 * q + i : Nat) : Int)) 0) }
def aAll : Ann where
  fn := 190
  bid := 0
  keep := [0, 1]
  tmps := [(4, i64 (v 1))]
  drop := []
  mem := []
  sorts := [false]
  nbl := 0
  inv := [eLe (.lit 0) (v 1), eLe (v 1) (.lit 1024)]
  meas := .bin .sub (.lit 1024) (v 1)
def cState : Contract := { c0 with fn := 250, sorts := [true], args := [.ptr 0 (.lit 0) 0 0], mem := [(0, .big [] [.int .u64] (v 0) 1024 [] false)], nb := 1, pre := [.col (v 0) 0 0 0], res := .agg [.nilslice] }
def aState : Ann where
  fn := 250
  bid := 0
  keep := [6, 3, 2, 0]
  tmps := [(7, i64 (v 1))]
  drop := []
  mem := []
  sorts := [false]
  nbl := 0
  inv := [eLe (.lit 0) (v 1), eLe (v 1) (.lit 1024)]
  meas := .bin .sub (.lit 1024) (v 1)
def k5 : List CK := [.int .i64, .int .i64, .int .i64, .int .i64, .int .i64]
def k3 : List CK := [.int .i64, .int .i64, .int .i64]
def cFresh : Contract := { c0 with fn := 92, args := [i64 (.lit 1024), i64 (.lit 1)], res := .ptr 0 (.lit 0) 0 0, fresh := [(0, .cells [.slice 1 (.lit 0) (.lit 1024) 5 false, .slice 2 (.lit 0) (.lit 1) 3 false, i64 (.lit 0)] true), (1, .rows k5 (.kt [0, 0, -1, -1, -1]) (.lit 1024) true false), (2, .rows k3 (.kt [-1, -1, 0]) (.lit 1) true false)] }
def aFresh0 : Ann where
  fn := 92
  bid := 0
  keep := [5, 18]
  tmps := [(19, i64 (v 1))]
  drop := []
  mem := [(0, .rows k5 (v 0) (.lit 1024) true false)]
  sorts := [true, false]
  nbl := 0
  inv := [eLe (.lit 0) (v 1), eLe (v 1) (.lit 1024), .agr (v 0) (.kt [0, 0, -1, -1, -1]) (v 1) 5]
  meas := .bin .sub (.lit 1024) (v 1)
def cVmNew : Contract := { c0 with fn := 64, args := [.agg [.nilslice]], res := .tup [.ptr 0 (.lit 0) 0 0, i64 (.lit 0)], fresh := [(0, .big [.bool (.lit 1)] pgK .zt 1024 (.nilslice :: List.replicate 14 (i64 (.lit 0))) true)] }
def xLoops (P : Program) : Cx := { P, cs := [], anns := [aCounts, aAll, aState, aFresh0], kn := kn }
def loops : List Contract := [cCounts, cState, cFresh, cVmNew, cAll 3, cAll 4, cAll 5, cAll 6, cAll 7, cAll 8, cAll 9]
end Go.Mg
namespace Go.Mg
open Go Go.Sx
def ν (n : Nat) : E := .var n
def κ (n : Int) : E := .lit n
def ο : E := .lit 0
def γ (a b : E) : PE := .tt (.bin .le a b)
def ω (a b : E) : PE := .tt (.bin .lt a b)
def ρ (a : E) : PE := .rng .i64 a
def χ (a b : E) : E := .bin .eq a b
def π (a b : E) : E := .bin .add a b
def δ (a b : E) : E := .bin .sub a b
def ξ (t r : E) (c : Nat) : E := .sel t r c
def α (p : PE) (t : Tree) : Tree := .assert p t
def μ (p : PE) (t : Tree) : Tree := .assume p t
def β (e : E) (a b : Tree) : Tree := .branch e a b
def η (t : Tree) : Tree := .havoc false t
def τ (t : Tree) : Tree := .havoc true t
def tCounts : Tree := (μ (.col (ν 0) 0 0 3) (η (η (η (η (η (η (μ (γ ο (ν 6)) (μ (γ (ν 6) (κ 1024)) (μ (γ ο (ν 1)) (μ (γ (ν 1) (ν 6)) (μ (γ ο (ν 2)) (μ (γ (ν 2) (ν 6)) (μ (γ ο (ν 3)) (μ (γ (ν 3) (ν 6)) (μ (γ ο (ν 4)) (μ (γ (ν 4) (ν 6)) (μ (γ ο (ν 5)) (μ (γ (ν 5) (ν 6)) (β (.bin .lt (ν 6) (κ 1024)) (β (χ (ξ (ν 0) (ν 6) 0) (κ 3)) (α (ρ (π (ν 4) (κ 1))) (β (ξ (ν 0) (ν 6) 1) (β (χ (.bin .tmod (ν 6) (κ 16)) ο) (α (ρ (π (ν 5) (κ 1))) (α (ρ (π (ν 6) (κ 1))) (α (γ ο (π (ν 6) (κ 1))) (α (γ (π (ν 6) (κ 1)) (κ 1024)) (α (γ (ν 1) (π (ν 6) (κ 1))) (α (γ (ν 2) (π (ν 6) (κ 1))) (α (γ (ν 3) (π (ν 6) (κ 1))) (α (γ ο (π (ν 4) (κ 1))) (α (γ (π (ν 4) (κ 1)) (π (ν 6) (κ 1))) (α (γ ο (π (ν 5) (κ 1))) (α (γ (π (ν 5) (κ 1)) (π (ν 6) (κ 1))) (α (γ ο (δ (κ 1024) (π (ν 6) (κ 1)))) (α (ω (δ (κ 1024) (π (ν 6) (κ 1))) (δ (κ 1024) (ν 6))) .ok))))))))))))) (α (ρ (π (ν 6) (κ 1))) (α (γ ο (π (ν 6) (κ 1))) (α (γ (π (ν 6) (κ 1)) (κ 1024)) (α (γ (ν 1) (π (ν 6) (κ 1))) (α (γ (ν 2) (π (ν 6) (κ 1))) (α (γ (ν 3) (π (ν 6) (κ 1))) (α (γ ο (π (ν 4) (κ 1))) (α (γ (π (ν 4) (κ 1)) (π (ν 6) (κ 1))) (α (γ (ν 5) (π (ν 6) (κ 1))) (α (γ ο (δ (κ 1024) (π (ν 6) (κ 1)))) (α (ω (δ (κ 1024) (π (ν 6) (κ 1))) (δ (κ 1024) (ν 6))) .ok)))))))))))) (α (ρ (π (ν 6) (κ 1))) (α (γ ο (π (ν 6) (κ 1))) (α (γ (π (ν 6) (κ 1)) (κ 1024)) (α (γ (ν 1) (π (ν 6) (κ 1))) (α (γ (ν 2) (π (ν 6) (κ 1))) (α (γ (ν 3) (π (ν 6) (κ 1))) (α (γ ο (π (ν 4) (κ 1))) (α (γ (π (ν 4) (κ 1)) (π (ν 6) (κ 1))) (α (γ (ν 5) (π (ν 6) (κ 1))) (α (γ ο (δ (κ 1024) (π (ν 6) (κ 1)))) (α (ω (δ (κ 1024) (π (ν 6) (κ 1))) (δ (κ 1024) (ν 6))) .ok))))))))))))) (β (χ (ξ (ν 0) (ν 6) 0) (κ 2)) (α (ρ (π (ν 3) (κ 1))) (β (ξ (ν 0) (ν 6) 1) (β (χ (.bin .tmod (ν 6) (κ 16)) ο) (α (ρ (π (ν 5) (κ 1))) (α (ρ (π (ν 6) (κ 1))) (α (γ ο (π (ν 6) (κ 1))) (α (γ (π (ν 6) (κ 1)) (κ 1024)) (α (γ (ν 1) (π (ν 6) (κ 1))) (α (γ (ν 2) (π (ν 6) (κ 1))) (α (γ ο (π (ν 3) (κ 1))) (α (γ (π (ν 3) (κ 1)) (π (ν 6) (κ 1))) (α (γ (ν 4) (π (ν 6) (κ 1))) (α (γ ο (π (ν 5) (κ 1))) (α (γ (π (ν 5) (κ 1)) (π (ν 6) (κ 1))) (α (γ ο (δ (κ 1024) (π (ν 6) (κ 1)))) (α (ω (δ (κ 1024) (π (ν 6) (κ 1))) (δ (κ 1024) (ν 6))) .ok))))))))))))) (α (ρ (π (ν 6) (κ 1))) (α (γ ο (π (ν 6) (κ 1))) (α (γ (π (ν 6) (κ 1)) (κ 1024)) (α (γ (ν 1) (π (ν 6) (κ 1))) (α (γ (ν 2) (π (ν 6) (κ 1))) (α (γ ο (π (ν 3) (κ 1))) (α (γ (π (ν 3) (κ 1)) (π (ν 6) (κ 1))) (α (γ (ν 4) (π (ν 6) (κ 1))) (α (γ (ν 5) (π (ν 6) (κ 1))) (α (γ ο (δ (κ 1024) (π (ν 6) (κ 1)))) (α (ω (δ (κ 1024) (π (ν 6) (κ 1))) (δ (κ 1024) (ν 6))) .ok)))))))))))) (α (ρ (π (ν 6) (κ 1))) (α (γ ο (π (ν 6) (κ 1))) (α (γ (π (ν 6) (κ 1)) (κ 1024)) (α (γ (ν 1) (π (ν 6) (κ 1))) (α (γ (ν 2) (π (ν 6) (κ 1))) (α (γ ο (π (ν 3) (κ 1))) (α (γ (π (ν 3) (κ 1)) (π (ν 6) (κ 1))) (α (γ (ν 4) (π (ν 6) (κ 1))) (α (γ (ν 5) (π (ν 6) (κ 1))) (α (γ ο (δ (κ 1024) (π (ν 6) (κ 1)))) (α (ω (δ (κ 1024) (π (ν 6) (κ 1))) (δ (κ 1024) (ν 6))) .ok))))))))))))) (β (χ (ξ (ν 0) (ν 6) 0) (κ 1)) (α (ρ (π (ν 2) (κ 1))) (β (ξ (ν 0) (ν 6) 1) (β (χ (.bin .tmod (ν 6) (κ 16)) ο) (α (ρ (π (ν 5) (κ 1))) (α (ρ (π (ν 6) (κ 1))) (α (γ ο (π (ν 6) (κ 1))) (α (γ (π (ν 6) (κ 1)) (κ 1024)) (α (γ (ν 1) (π (ν 6) (κ 1))) (α (γ ο (π (ν 2) (κ 1))) (α (γ (π (ν 2) (κ 1)) (π (ν 6) (κ 1))) (α (γ (ν 3) (π (ν 6) (κ 1))) (α (γ (ν 4) (π (ν 6) (κ 1))) (α (γ ο (π (ν 5) (κ 1))) (α (γ (π (ν 5) (κ 1)) (π (ν 6) (κ 1))) (α (γ ο (δ (κ 1024) (π (ν 6) (κ 1)))) (α (ω (δ (κ 1024) (π (ν 6) (κ 1))) (δ (κ 1024) (ν 6))) .ok))))))))))))) (α (ρ (π (ν 6) (κ 1))) (α (γ ο (π (ν 6) (κ 1))) (α (γ (π (ν 6) (κ 1)) (κ 1024)) (α (γ (ν 1) (π (ν 6) (κ 1))) (α (γ ο (π (ν 2) (κ 1))) (α (γ (π (ν 2) (κ 1)) (π (ν 6) (κ 1))) (α (γ (ν 3) (π (ν 6) (κ 1))) (α (γ (ν 4) (π (ν 6) (κ 1))) (α (γ (ν 5) (π (ν 6) (κ 1))) (α (γ ο (δ (κ 1024) (π (ν 6) (κ 1)))) (α (ω (δ (κ 1024) (π (ν 6) (κ 1))) (δ (κ 1024) (ν 6))) .ok)))))))))))) (α (ρ (π (ν 6) (κ 1))) (α (γ ο (π (ν 6) (κ 1))) (α (γ (π (ν 6) (κ 1)) (κ 1024)) (α (γ (ν 1) (π (ν 6) (κ 1))) (α (γ ο (π (ν 2) (κ 1))) (α (γ (π (ν 2) (κ 1)) (π (ν 6) (κ 1))) (α (γ (ν 3) (π (ν 6) (κ 1))) (α (γ (ν 4) (π (ν 6) (κ 1))) (α (γ (ν 5) (π (ν 6) (κ 1))) (α (γ ο (δ (κ 1024) (π (ν 6) (κ 1)))) (α (ω (δ (κ 1024) (π (ν 6) (κ 1))) (δ (κ 1024) (ν 6))) .ok))))))))))))) (β (χ (ξ (ν 0) (ν 6) 0) ο) (α (ρ (π (ν 1) (κ 1))) (β (ξ (ν 0) (ν 6) 1) (β (χ (.bin .tmod (ν 6) (κ 16)) ο) (α (ρ (π (ν 5) (κ 1))) (α (ρ (π (ν 6) (κ 1))) (α (γ ο (π (ν 6) (κ 1))) (α (γ (π (ν 6) (κ 1)) (κ 1024)) (α (γ ο (π (ν 1) (κ 1))) (α (γ (π (ν 1) (κ 1)) (π (ν 6) (κ 1))) (α (γ (ν 2) (π (ν 6) (κ 1))) (α (γ (ν 3) (π (ν 6) (κ 1))) (α (γ (ν 4) (π (ν 6) (κ 1))) (α (γ ο (π (ν 5) (κ 1))) (α (γ (π (ν 5) (κ 1)) (π (ν 6) (κ 1))) (α (γ ο (δ (κ 1024) (π (ν 6) (κ 1)))) (α (ω (δ (κ 1024) (π (ν 6) (κ 1))) (δ (κ 1024) (ν 6))) .ok))))))))))))) (α (ρ (π (ν 6) (κ 1))) (α (γ ο (π (ν 6) (κ 1))) (α (γ (π (ν 6) (κ 1)) (κ 1024)) (α (γ ο (π (ν 1) (κ 1))) (α (γ (π (ν 1) (κ 1)) (π (ν 6) (κ 1))) (α (γ (ν 2) (π (ν 6) (κ 1))) (α (γ (ν 3) (π (ν 6) (κ 1))) (α (γ (ν 4) (π (ν 6) (κ 1))) (α (γ (ν 5) (π (ν 6) (κ 1))) (α (γ ο (δ (κ 1024) (π (ν 6) (κ 1)))) (α (ω (δ (κ 1024) (π (ν 6) (κ 1))) (δ (κ 1024) (ν 6))) .ok)))))))))))) (α (ρ (π (ν 6) (κ 1))) (α (γ ο (π (ν 6) (κ 1))) (α (γ (π (ν 6) (κ 1)) (κ 1024)) (α (γ ο (π (ν 1) (κ 1))) (α (γ (π (ν 1) (κ 1)) (π (ν 6) (κ 1))) (α (γ (ν 2) (π (ν 6) (κ 1))) (α (γ (ν 3) (π (ν 6) (κ 1))) (α (γ (ν 4) (π (ν 6) (κ 1))) (α (γ (ν 5) (π (ν 6) (κ 1))) (α (γ ο (δ (κ 1024) (π (ν 6) (κ 1)))) (α (ω (δ (κ 1024) (π (ν 6) (κ 1))) (δ (κ 1024) (ν 6))) .ok))))))))))))) (.fail 29))))) .ok))))))))))))))))))))
def tState : Tree := (μ (.col (ν 0) 0 0 0) (η (μ (γ ο (ν 1)) (μ (γ (ν 1) (κ 1024)) (β (.bin .lt (ν 1) (κ 1024)) (β (χ (χ (ξ (ν 0) (ν 1) 0) ο) ο) (β (χ (χ (.bin (.bits 5 .u64) (ξ (ν 0) (ν 1) 0) ο) ο) ο) (.fail 20) (α (ρ (π (ν 1) (κ 1))) (.fail 61))) (α (ρ (π (ν 1) (κ 1))) (α (γ ο (π (ν 1) (κ 1))) (α (γ (π (ν 1) (κ 1)) (κ 1024)) (α (γ ο (δ (κ 1024) (π (ν 1) (κ 1)))) (α (ω (δ (κ 1024) (π (ν 1) (κ 1))) (δ (κ 1024) (ν 1))) .ok)))))) .ok)))))
def tFresh : Tree := (α (.agr .zt (.kt [0, 0, (-1), (-1), (-1)]) ο 5) (τ (η (μ (γ ο (ν 1)) (μ (γ (ν 1) (κ 1024)) (μ (.agr (ν 0) (.kt [0, 0, (-1), (-1), (-1)]) (ν 1) 5) (β (.bin .lt (ν 1) (κ 1024)) (α (ρ (π (ν 1) (κ 1))) (α (γ ο (π (ν 1) (κ 1))) (α (γ (π (ν 1) (κ 1)) (κ 1024)) (α (.agr (.upd (.upd (.upd (.upd (.upd (ν 0) (ν 1) 0 ο) (ν 1) 1 ο) (ν 1) 2 (κ (-1))) (ν 1) 3 (κ (-1))) (ν 1) 4 (κ (-1))) (.kt [0, 0, (-1), (-1), (-1)]) (π (ν 1) (κ 1)) 5) (α (γ ο (δ (κ 1024) (π (ν 1) (κ 1)))) (α (ω (δ (κ 1024) (π (ν 1) (κ 1))) (δ (κ 1024) (ν 1))) .ok)))))) (α (.agr (.kt [0, 0, (-1), (-1), (-1)]) (ν 0) (κ 1024) 5) (α (.agr (.kt [(-1), (-1), 0]) (.upd (.upd .zt ο 0 (κ (-1))) ο 1 (κ (-1))) (κ 1) 3) .ok)))))))))
def tVmNew : Tree := .ok
def tAll (c : Int) : Tree := (μ (.ff (ξ (ν 0) (κ c) 0)) (μ (.ff (ξ (ν 0) (κ (c + 1)) 0)) (μ (.ff (ξ (ν 0) (κ (c + 2)) 0)) (μ (.ff (ξ (ν 0) (κ (c + 3)) 0)) (μ (.ff (ξ (ν 0) (κ (c + 4)) 0)) (μ (.ff (ξ (ν 0) (κ (c + 5)) 0)) (μ (.ff (ξ (ν 0) (κ (c + 6)) 0)) (μ (.ff (ξ (ν 0) (κ (c + 7)) 0)) (μ (.ff (ξ (ν 0) (κ (c + 8)) 0)) (μ (.ff (ξ (ν 0) (κ (c + 9)) 0)) (μ (.ff (ξ (ν 0) (κ (c + 10)) 0)) (μ (.ff (ξ (ν 0) (κ (c + 11)) 0)) (μ (.ff (ξ (ν 0) (κ (c + 12)) 0)) (μ (.ff (ξ (ν 0) (κ (c + 13)) 0)) (μ (.ff (ξ (ν 0) (κ (c + 14)) 0)) (μ (.ff (ξ (ν 0) (κ (c + 15)) 0)) (η (μ (γ ο (ν 1)) (μ (γ (ν 1) (κ 1024)) (β (.bin .lt (ν 1) (κ 1024)) (α (γ ο (.bin (.bits 6 .i64) (ν 1) (κ 64))) (α (ω (.bin (.bits 6 .i64) (ν 1) (κ 64)) (κ 16)) (α (γ ο (π (.bin (.bits 6 .i64) (ν 1) (κ 64)) (κ c))) (α (ω (π (.bin (.bits 6 .i64) (ν 1) (κ 64)) (κ c)) (κ 352)) (α (γ ο (.bin .tmod (ν 1) (κ 64))) (β (χ (.bin (.bits 0 .u64) (.bin (.bits 5 .u64) (ξ (ν 0) (π (.bin (.bits 6 .i64) (ν 1) (κ 64)) (κ c)) 0) (.bin .tmod (ν 1) (κ 64))) (κ 1)) (κ 1)) (.fail 20) (α (ρ (π (ν 1) (κ 1))) (α (γ ο (π (ν 1) (κ 1))) (α (γ (π (ν 1) (κ 1)) (κ 1024)) (α (γ ο (δ (κ 1024) (π (ν 1) (κ 1)))) (α (ω (δ (κ 1024) (π (ν 1) (κ 1))) (δ (κ 1024) (ν 1))) .ok))))))))))) .ok))))))))))))))))))))
end Go.Mg
namespace Go.Mg
open Go Go.Sx
variable {I : Itp}
theorem words {f : Int → Nat → Int} {c x : Int} (h : ∀ i : Nat, i < 16 → f (c + i) 0 = 0) (h0 : 0 ≤ x) (h1 : x < 1024) : f (x / 64 + c) 0 = 0 := by
  have := h (x / 64).toNat (by omega)
  rw [← this]; congr 1; omega
theorem vCounts : ∀ ds, Sorts cCounts.sorts ds → tCounts.vc I ds := by
  refine all_t fun T => all_n ?_
  set_option linter.unusedSimpArgs false in
  simp only [tCounts, ν, κ, ο, γ, ω, ρ, χ, π, δ, ξ, α, μ, β, η, τ, Tree.vc, PE.den, E.den, dens, BO.ev, List.getElem?_cons_zero, List.getElem?_cons_succ, List.cons_append, List.nil_append, Option.some.injEq, D.i.injEq, D.t.injEq, exists_eq_left', exists_const, forall_const, forall_eq', one_ne, one_eq, zero_ne, zero_eq, min_i64, max_i64, min_u8, max_u8, min_u16, max_u16, min_u32, max_u32, min_u64, max_u64, and_true, true_and]
  intro hT a b c d e x h0 h1 h2 h3 h4 h5 h6 h7 h8 h9 h10 h11
  have hx := hT x
  generalize T x 0 = k at *
  generalize T x 1 = y at *
  clear hT
  refine ⟨fun h => ?_, fun _ => trivial⟩
  repeat' (first | omega | (intro _) | (refine And.intro ?_ ?_) | trivial)
theorem vState : ∀ ds, Sorts cState.sorts ds → tState.vc I ds := by
  refine all_t fun T => all_n ?_
  set_option linter.unusedSimpArgs false in
  simp only [tState, ν, κ, ο, γ, ω, ρ, χ, π, δ, ξ, α, μ, β, η, τ, Tree.vc, PE.den, E.den, dens, BO.ev, List.getElem?_cons_zero, List.getElem?_cons_succ, List.cons_append, List.nil_append, Option.some.injEq, D.i.injEq, D.t.injEq, exists_eq_left', exists_const, forall_const, forall_eq', one_ne, one_eq, zero_ne, zero_eq, min_i64, max_i64, min_u8, max_u8, min_u16, max_u16, min_u32, max_u32, min_u64, max_u64, and_true, true_and]
  intro hT x h0 h1
  have hx := hT x
  have hx : T x 0 = 0 := by omega
  rw [hx]
  clear hT
  refine ⟨fun h => ?_, fun _ => trivial⟩
  repeat' (first | omega | (intro _) | (refine And.intro ?_ ?_) | trivial)
theorem vAll (c : Int) (hc : 0 ≤ c) (hd : c ≤ 160) : ∀ ds, Sorts [true] ds → (tAll c).vc I ds := by
  refine all_t fun T => all_n ?_
  set_option linter.unusedSimpArgs false in
  simp only [tAll, ν, κ, ο, γ, ω, ρ, χ, π, δ, ξ, α, μ, β, η, τ, Tree.vc, PE.den, E.den, dens, BO.ev, List.getElem?_cons_zero, List.getElem?_cons_succ, List.cons_append, List.nil_append, Option.some.injEq, D.i.injEq, D.t.injEq, exists_eq_left', exists_const, forall_const, forall_eq', one_ne, one_eq, zero_ne, zero_eq, min_i64, max_i64, min_u8, max_u8, min_u16, max_u16, min_u32, max_u32, min_u64, max_u64, and_true, true_and]
  intro a0 a1 a2 a3 a4 a5 a6 a7 a8 a9 a10 a11 a12 a13 a14 a15 x h0 h1
  refine ⟨fun h => ?_, fun _ => trivial⟩
  have hw := words (f := T) (c := c) (x := x) (fun i hi => by
    match i, hi with
    | 0, _ => simpa using a0 | 1, _ => exact a1 | 2, _ => exact a2 | 3, _ => exact a3 | 4, _ => exact a4 | 5, _ => exact a5 | 6, _ => exact a6 | 7, _ => exact a7
    | 8, _ => exact a8 | 9, _ => exact a9 | 10, _ => exact a10 | 11, _ => exact a11 | 12, _ => exact a12 | 13, _ => exact a13 | 14, _ => exact a14 | 15, _ => exact a15
    | n + 16, hi => omega) h0 h
  rw [quo64 h0 h]
  rw [hw, bits_zero]
  have hm : x.tmod 64 = x % 64 := Int.tmod_eq_emod_of_nonneg h0
  rw [hm]
  clear a0 a1 a2 a3 a4 a5 a6 a7 a8 a9 a10 a11 a12 a13 a14 a15 hw
  repeat' (first | omega | (intro _) | (refine And.intro ?_ ?_) | trivial)
theorem vFresh : ∀ ds, Sorts cFresh.sorts ds → tFresh.vc I ds := by
  refine all_n ?_
  set_option linter.unusedSimpArgs false in
  simp only [tFresh, ν, κ, ο, γ, ω, ρ, χ, π, δ, ξ, α, μ, β, η, τ, Tree.vc, PE.den, E.den, dens, BO.ev, List.getElem?_cons_zero, List.getElem?_cons_succ, List.cons_append, List.nil_append, Option.some.injEq, D.i.injEq, D.t.injEq, exists_eq_left', exists_const, forall_const, forall_eq', one_ne, one_eq, zero_ne, zero_eq, min_i64, max_i64, min_u8, max_u8, min_u16, max_u16, min_u32, max_u32, min_u64, max_u64, and_true, true_and]
  refine ⟨⟨_, _, _, rfl, rfl, rfl, fun r c h0 h1 _ => by omega⟩, ?_⟩
  rintro T x h0 h1 ⟨_, _, _, rfl, rfl, rfl, hT⟩
  refine ⟨fun h => ⟨by omega, by omega, by omega, ⟨_, _, _, rfl, rfl, rfl, ?_⟩, by omega, by omega⟩, fun h => ⟨⟨_, _, _, rfl, rfl, rfl, ?_⟩, ⟨_, _, _, rfl, rfl, rfl, ?_⟩⟩⟩
  · intro r c hr hx hc
    by_cases hrx : r = x
    · subst hrx
      match c, hc with
      | 0, _ => simp [tupd]
      | 1, _ => simp [tupd]
      | 2, _ => simp [tupd]
      | 3, _ => simp [tupd]
      | 4, _ => simp [tupd]
      | n + 5, hc => omega
    · simp only [tupd, hrx, false_and, if_false]
      exact hT r c hr (by omega) hc
  · intro r c hr hx hc
    exact (hT r c hr (by omega) hc).symm
  · intro r c hr hx hc
    have : r = 0 := by omega
    subst this
    match c, hc with
    | 0, _ => simp [tupd]
    | 1, _ => simp [tupd]
    | 2, _ => simp [tupd]
    | n + 3, hc => omega
theorem vVmNew : ∀ ds, Sorts cVmNew.sorts ds → tVmNew.vc I ds := fun _ _ => trivial
def tMem1 : E := .upd .zt (.lit 2) 0 (.lit 549755813888)
def cState1 : Contract := { c0 with fn := 250, args := [.ptr 0 (.lit 0) 0 0], mem := [(0, .big [] [.int .u64] tMem1 1024 [] false)], nb := 1, res := .agg [.slice 1 (.lit 0) (.lit 1) 2 false], fresh := [(1, .cells [i64 (.lit 2), .slice 2 (.lit 0) (.lit 1) 2 false] true), (2, .rows [.int .i64, .int .i64] (.upd (.upd .zt (.lit 0) 0 (.lit 39)) (.lit 0) 1 (.lit 1)) (.lit 1) true false)] }
def aState1 : Ann where
  fn := 250
  bid := 0
  keep := [6, 3, 2, 0]
  tmps := [(7, i64 (v 0))]
  drop := [2]
  mem := [(2, .cells [.slice 6 (.lit 0) (.lit 1) 2 false] true)]
  sorts := [false]
  nbl := 0
  inv := [eLe (.lit 3) (v 0), eLe (v 0) (.lit 1024)]
  meas := .bin .sub (.lit 1024) (v 0)
def xState1 (P : Program) : Cx := { P, cs := [], anns := [aState1], kn := kn }
def tState1 : Tree := (η (μ (γ (κ 3) (ν 0)) (μ (γ (ν 0) (κ 1024)) (β (.bin .lt (ν 0) (κ 1024)) (α (γ ο (ν 0)) (β (χ (χ (ξ (.upd .zt (κ 2) 0 (κ 549755813888)) (ν 0) 0) ο) ο) (β (χ (χ (.bin (.bits 5 .u64) (ξ (.upd .zt (κ 2) 0 (κ 549755813888)) (ν 0) 0) ο) ο) ο) (.fail 20) (α (ρ (π (ν 0) (κ 1))) (.fail 61))) (α (ρ (π (ν 0) (κ 1))) (α (γ (κ 3) (π (ν 0) (κ 1))) (α (γ (π (ν 0) (κ 1)) (κ 1024)) (α (γ ο (δ (κ 1024) (π (ν 0) (κ 1)))) (α (ω (δ (κ 1024) (π (ν 0) (κ 1))) (δ (κ 1024) (ν 0))) .ok))))))) .ok))))
theorem vState1 : ∀ ds, Sorts cState1.sorts ds → tState1.vc I ds := by
  refine all_n ?_
  set_option linter.unusedSimpArgs false in
  simp only [tState1, ν, κ, ο, γ, ω, ρ, χ, π, δ, ξ, α, μ, β, η, τ, Tree.vc, PE.den, E.den, dens, BO.ev, List.getElem?_cons_zero, List.getElem?_cons_succ, List.cons_append, List.nil_append, Option.some.injEq, D.i.injEq, D.t.injEq, exists_eq_left', exists_const, forall_const, forall_eq', one_ne, one_eq, zero_ne, zero_eq, min_i64, max_i64, min_u8, max_u8, min_u16, max_u16, min_u32, max_u32, min_u64, max_u64, and_true, true_and]
  intro x h0 h1
  refine ⟨fun h => ?_, fun _ => trivial⟩
  have hx : tupd (fun _ _ => 0) 2 0 549755813888 x 0 = 0 := by simp only [tupd]; rw [if_neg (by omega)]
  rw [hx]
  repeat' (first | omega | (intro _) | (refine And.intro ?_ ?_) | trivial)
end Go.Mg
namespace Go.Mg
open Go Go.Sx
set_option maxRecDepth 10000
def w (t : E) (r : Int) (c : Nat) (x : Int) : E := .upd t (.lit r) c (.lit x)
def q (n : Int) : AV := .int .i64 (.lit n)
def q0 : AV := .int .i64 (.lit 0)
def q1 : AV := .int .i64 (.lit 1)
def b0 : AV := .bool (.lit 0)
def b1 : AV := .bool (.lit 1)
def u (n : Int) : AV := .int .u64 (.lit n)
def p (b k : Nat) : AV := .ptr b (.lit 0) 0 k
def sb0 : Blk := .rows [(.int .i64), .str, .str, (.int .i64), (.int .i64), (.int .i64), (.int .i64), (.int .i64)] (w (w (w (w (w (w (w (w (w (w (w (w (w (w (w (w (w (w (w (w (w (w (w (w (w (w (w (w (w (w (w (w (w (w (w (w (w (w .zt 0 0 1) 0 1 934621495) 0 3 3) 0 4 1) 1 0 3) 1 1 934621495) 1 2 49) 1 3 100) 1 4 1) 2 0 4) 2 1 934621495) 2 2 55) 3 0 3) 3 1 934621495) 3 2 (-50)) 3 3 10) 3 4 1) 4 0 8) 4 1 934621495) 4 2 (-50)) 4 3 3) 4 4 7) 4 6 1) 5 0 7) 5 1 934621495) 5 2 (-50)) 5 3 3) 5 6 1) 5 7 7) 6 0 5) 6 1 934621495) 6 2 55) 7 0 7) 7 1 934621495) 7 2 (-50)) 7 3 3) 7 6 2) 7 7 170) (.lit 8) true false
def sb1 : Blk := .cells [(p 1 0), (p 2 0), q0, (p 3 0), q0, q0, q0, q0, q0, q0, q0, .nilslice, b0, .nilslice, .nilslice, q0, q0, q0, q0, q0, q0, q0, q0, .nilslice, b0, .nilslice, .nilslice, q0, q0, q0, q0, q0, q0, q0, q0, .nilslice, b0, .nilslice, .nilslice, q0, q0, q0, q0, q0, q0, q0, q0, .nilslice, b0, .nilslice, .nilslice, q0, q0, q0, q0, q0, q0, q0, q0, .nilslice, b0, .nilslice, .nilslice, q0, q0, q0, q0, q0, q0, q0, q0, .nilslice, b0, .nilslice, .nilslice, q0, q0, q0, q0, q0, q0, q0, q0, .nilslice, b0, .nilslice, .nilslice, q0, q0, q0, q0, q0, q0, q0, q0, .nilslice, b0, .nilslice, .nilslice, q0, q0, q0, q0, q0, q0, q0, q0, .nilslice, b0, .nilslice, .nilslice, q0, q0, q0, q0, q0, q0, q0, q0, .nilslice, b0, .nilslice, .nilslice, q0, q0, q0, q0, q0, q0, q0, q0, .nilslice, b0, .nilslice, .nilslice, q0, q0, q0, q0, q0, q0, q0, q0, .nilslice, b0, .nilslice, .nilslice, q0, q0, q0, q0, q0, q0, q0, q0, .nilslice, b0, .nilslice, .nilslice, q0, q0, q0, q0, q0, q0, q0, q0, .nilslice, b0, .nilslice, .nilslice, q0, q0, q0, q0, q0, q0, q0, q0, .nilslice, b0, .nilslice, .nilslice, q0, q0, q0, q0, q0, q0, q0, q0, .nilslice, b0, .nilslice, .nilslice, q0] true
def sb2 : Blk := .cells [(p 4 0), (p 5 0), (p 6 0), .nilslice, q0] true
def sb3 : Blk := .big [b1, (q 10)] [(.int .u64)] (w .zt 160 0 1) 352 [] true
def sb4 : Blk := .cells [(.slice 7 (.lit 0) (.lit 16) 3 false), (q 16), (.slice 8 (.lit 0) (.lit 1) 1 false), q0] true
def sb5 : Blk := .big [b1] pgK .zt 1024 [.nilslice, q0, q0, q0, q0, q0, q0, q0, q0, q0, q0, q0, q0, q0, q0] true
def sb6 : Blk := .cells [b1, (.slice 9 (.lit 0) (.lit 1) 6 false)] true
def sb7 : Blk := .big [(q 10), q0, (q 2), q0, (p 10 0)] [(.int .i64)] .zt 1024 [] true
def sb8 : Blk := .rows [(.int .i64), .bool, (.int .i64)] .zt (.lit 16) true false
def sb9 : Blk := .rows [(.int .u64)] (w .zt 0 0 65535) (.lit 1) true false
def sb10 : Blk := .rows [(.int .i64), (.int .i64), (.int .i64), (.int .i64), .bool, (.int .i64)] (w (w .zt 0 0 (-1)) 0 1 20) (.lit 1) true false
def sb11 : Blk := .cells [(.slice 11 (.lit 0) (.lit 1024) 5 false), (.slice 12 (.lit 0) (.lit 1) 3 false), q0] true
def sb12 : Blk := .rows [(.int .i64), (.int .i64), (.int .i64), (.int .i64), (.int .i64)] (.kt [0, 0, -1, -1, -1]) (.lit 1024) true false
def sb13 : Blk := .rows [(.int .i64), (.int .i64), (.int .i64)] (.kt [-1, -1, 0]) (.lit 1) true false
def sb14 : Blk := .cells [(p 1 0), (p 2 0), q0, (p 3 0), q0, (q 8), q1, q1, q0, q1, q0, .nilslice, b0, .nilslice, .nilslice, q1, q0, q0, q0, q0, q0, q0, q0, .nilslice, b0, .nilslice, .nilslice, q0, q0, q0, q0, q0, q0, q0, q0, .nilslice, b0, .nilslice, .nilslice, q0, q0, q0, q0, q0, q0, q0, q0, .nilslice, b0, .nilslice, .nilslice, q0, q0, q0, q0, q0, q0, q0, q0, .nilslice, b0, .nilslice, .nilslice, q0, q0, q0, q0, q0, q0, q0, q0, .nilslice, b0, .nilslice, .nilslice, q0, q0, q0, q0, q0, q0, q0, q0, .nilslice, b0, .nilslice, .nilslice, q0, q0, q0, q0, q0, q0, q0, q0, .nilslice, b0, .nilslice, .nilslice, q0, q0, q0, q0, q0, q0, q0, q0, .nilslice, b0, .nilslice, .nilslice, q0, q0, q0, q0, q0, q0, q0, q0, .nilslice, b0, .nilslice, .nilslice, q0, q0, q0, q0, q0, q0, q0, q0, .nilslice, b0, .nilslice, .nilslice, q0, q0, q0, q0, q0, q0, q0, q0, .nilslice, b0, .nilslice, .nilslice, q0, q0, q0, q0, q0, q0, q0, q0, .nilslice, b0, .nilslice, .nilslice, q0, q0, q0, q0, q0, q0, q0, q0, .nilslice, b0, .nilslice, .nilslice, q0, q0, q0, q0, q0, q0, q0, q0, .nilslice, b0, .nilslice, .nilslice, q0, q0, q0, q0, q0, q0, q0, q0, .nilslice, b0, .nilslice, .nilslice, q0] true
def sb15 : Blk := .big [b1, (q 10)] [(.int .u64)] (w (w (w (w (w (w (w (w (w .zt 160 0 0) 152 0 1) 132 0 1) 114 0 1) 97 0 1) 80 0 4294967296) 64 0 65536) 48 0 256) 224 0 1) 352 [] true
def sb16 : Blk := .big [b1] pgK (w (w (w (w (w (w (w (w .zt 0 0 3) 1 0 1) 2 0 1) 3 0 1) 4 0 1) 5 0 1) 6 0 1) 7 0 3) 1024 [.nilslice, q1, q0, q0, q0, (q 2), q0, q0, q0, q0, q0, q0, q0, q0, q0] true
def sb17 : Blk := .rows [(.int .i64), .bool, (.int .i64)] (w (w .zt 0 0 1) 0 1 1) (.lit 16) true false
def sb18 : Blk := .rows [(.int .u64)] (w .zt 0 0 65534) (.lit 1) true false
def sb19 : Blk := .rows [(.int .i64), (.int .i64), (.int .i64), (.int .i64), .bool, (.int .i64)] (w (w (w .zt 0 0 (-1)) 0 1 20) 1 1 4096) (.lit 2) true false
def sb20 : Blk := .cells [b1, (.slice 2 (.lit 0) (.lit 2) 6 false)] true
def sb21 : Blk := .big [b1] pgK (w (w (w (w (w (w (w (w .zt 0 0 3) 1 0 2) 2 0 2) 3 0 1) 4 0 1) 5 0 1) 6 0 1) 7 0 3) 1024 [.nilslice, q1, q0, q1, q0, (q 2), q0, q0, q0, q0, q0, q0, q0, q0, q0] true
def sb22 : Blk := .rows [(.int .i64), (.int .i64), (.int .i64), (.int .i64), .bool, (.int .i64)] (w (w (w (w (w (w (w (w .zt 0 0 (-1)) 0 1 20) 1 1 4096) 1 2 2) 1 5 2) 1 3 2) 0 5 2) 0 3 2) (.lit 2) true false
def sb23 : Blk := .cells [(p 2 0), (p 3 0), (p 4 0), .nilslice, q0] true
def sb24 : Blk := .cells [b1, (.slice 5 (.lit 0) (.lit 2) 6 false)] true
def sb25 : Blk := .big [(q 10), q0, (q 2), q0, (p 6 0)] [(.int .i64)] .zt 1024 [] true
def sb26 : Blk := .cells [(.slice 7 (.lit 0) (.lit 1024) 5 false), (.slice 8 (.lit 0) (.lit 1) 3 false), q0] true
def sb27 : Blk := .cells [(.slice 7 (.lit 0) (.lit 16) 3 false), (q 16), (.slice 8 (.lit 0) (.lit 1) 1 false), q1] true
def sb28 : Blk := .cells [b1, (.slice 9 (.lit 0) (.lit 2) 6 false)] true
def sb29 : Blk := .rows [(.int .i64), (.int .i64)] (w (w .zt 0 0 64) 0 1 100) (.lit 1) true false
def sb30 : Blk := .cells [(p 5 0), (p 6 0), (p 7 0), .nilslice, q0] true
def sb31 : Blk := .cells [(.slice 8 (.lit 0) (.lit 16) 3 false), (q 16), (.slice 9 (.lit 0) (.lit 1) 1 false), q1] true
def sb32 : Blk := .cells [b1, (.slice 10 (.lit 0) (.lit 2) 6 false)] true
def sb33 : Blk := .big [(q 10), q0, (q 2), q0, (p 11 0)] [(.int .i64)] .zt 1024 [] true
def sb34 : Blk := .cells [(.slice 12 (.lit 0) (.lit 1024) 5 false), (.slice 13 (.lit 0) (.lit 1) 3 false), q0] true
def sb35 : Blk := .rows [(.int .i64), (.int .i64)] (w (w .zt 0 0 1) 0 1 1) (.lit 1) true false
def sb36 : Blk := .cells [(p 1 0), q0, (q 8), q1, q1, q0, q1, (q 2), .nilslice, b0, (.slice 2 (.lit 0) (.lit 1) 2 false), (.slice 3 (.lit 0) (.lit 1) 2 false), (q 2)] true
def sb37 : Blk := .cells [b1, (.slice 7 (.lit 0) (.lit 2) 6 false)] true
def sb38 : Blk := .big [(q 10), q0, (q 2), q0, (p 8 0)] [(.int .i64)] .zt 1024 [] true
def sb39 : Blk := .cells [(.slice 9 (.lit 0) (.lit 1024) 5 false), (.slice 10 (.lit 0) (.lit 1) 3 false), q0] true
def sb40 : Blk := .cells [(p 1 0), (p 2 0), q0, (p 3 0), q0, (q 8), q1, q1, q0, q1, (q 2), .nilslice, b0, (.slice 4 (.lit 0) (.lit 1) 2 false), (.slice 5 (.lit 0) (.lit 1) 2 false), (q 2), q0, q0, q0, q0, q0, q0, q0, .nilslice, b0, .nilslice, .nilslice, q0, q0, q0, q0, q0, q0, q0, q0, .nilslice, b0, .nilslice, .nilslice, q0, q0, q0, q0, q0, q0, q0, q0, .nilslice, b0, .nilslice, .nilslice, q0, q0, q0, q0, q0, q0, q0, q0, .nilslice, b0, .nilslice, .nilslice, q0, q0, q0, q0, q0, q0, q0, q0, .nilslice, b0, .nilslice, .nilslice, q0, q0, q0, q0, q0, q0, q0, q0, .nilslice, b0, .nilslice, .nilslice, q0, q0, q0, q0, q0, q0, q0, q0, .nilslice, b0, .nilslice, .nilslice, q0, q0, q0, q0, q0, q0, q0, q0, .nilslice, b0, .nilslice, .nilslice, q0, q0, q0, q0, q0, q0, q0, q0, .nilslice, b0, .nilslice, .nilslice, q0, q0, q0, q0, q0, q0, q0, q0, .nilslice, b0, .nilslice, .nilslice, q0, q0, q0, q0, q0, q0, q0, q0, .nilslice, b0, .nilslice, .nilslice, q0, q0, q0, q0, q0, q0, q0, q0, .nilslice, b0, .nilslice, .nilslice, q0, q0, q0, q0, q0, q0, q0, q0, .nilslice, b0, .nilslice, .nilslice, q0, q0, q0, q0, q0, q0, q0, q0, .nilslice, b0, .nilslice, .nilslice, q0, q0, q0, q0, q0, q0, q0, q0, .nilslice, b0, .nilslice, .nilslice, q0] true
def sb41 : Blk := .cells [(p 6 0), (p 7 0), (p 8 0), .nilslice, q0] true
def sb42 : Blk := .cells [(.slice 9 (.lit 0) (.lit 16) 3 false), (q 16), (.slice 10 (.lit 0) (.lit 1) 1 false), q1] true
def sb43 : Blk := .cells [b1, (.slice 11 (.lit 0) (.lit 2) 6 false)] true
def sb44 : Blk := .big [(q 10), q0, (q 2), q0, (p 12 0)] [(.int .i64)] .zt 1024 [] true
def sb45 : Blk := .cells [(.slice 13 (.lit 0) (.lit 1024) 5 false), (.slice 14 (.lit 0) (.lit 1) 3 false), q0] true
def sb46 : Blk := .rows [(.int .i64), (.int .i64)] (w (w (w (w .zt 0 0 64) 0 1 100) 1 0 164) 1 1 10) (.lit 2) true false
def sb47 : Blk := .cells [(p 1 0), (p 2 0), q0, (p 3 0), q0, (q 8), q1, q1, q0, q1, (q 2), .nilslice, b0, (.slice 4 (.lit 0) (.lit 2) 2 false), (.slice 5 (.lit 0) (.lit 1) 2 false), (q 2), q0, q0, q0, q0, q0, q0, q0, .nilslice, b0, .nilslice, .nilslice, q0, q0, q0, q0, q0, q0, q0, q0, .nilslice, b0, .nilslice, .nilslice, q0, q0, q0, q0, q0, q0, q0, q0, .nilslice, b0, .nilslice, .nilslice, q0, q0, q0, q0, q0, q0, q0, q0, .nilslice, b0, .nilslice, .nilslice, q0, q0, q0, q0, q0, q0, q0, q0, .nilslice, b0, .nilslice, .nilslice, q0, q0, q0, q0, q0, q0, q0, q0, .nilslice, b0, .nilslice, .nilslice, q0, q0, q0, q0, q0, q0, q0, q0, .nilslice, b0, .nilslice, .nilslice, q0, q0, q0, q0, q0, q0, q0, q0, .nilslice, b0, .nilslice, .nilslice, q0, q0, q0, q0, q0, q0, q0, q0, .nilslice, b0, .nilslice, .nilslice, q0, q0, q0, q0, q0, q0, q0, q0, .nilslice, b0, .nilslice, .nilslice, q0, q0, q0, q0, q0, q0, q0, q0, .nilslice, b0, .nilslice, .nilslice, q0, q0, q0, q0, q0, q0, q0, q0, .nilslice, b0, .nilslice, .nilslice, q0, q0, q0, q0, q0, q0, q0, q0, .nilslice, b0, .nilslice, .nilslice, q0, q0, q0, q0, q0, q0, q0, q0, .nilslice, b0, .nilslice, .nilslice, q0, q0, q0, q0, q0, q0, q0, q0, .nilslice, b0, .nilslice, .nilslice, q0] true
def sb48 : Blk := .big [b1] pgK (w (w (w (w (w (w (w (w (w .zt 0 0 3) 1 0 2) 2 0 2) 3 0 1) 4 0 1) 5 0 1) 6 0 1) 7 0 3) 2 41 7) 1024 [.nilslice, q1, q0, q1, q0, (q 2), q0, q0, q0, q0, q0, q0, q0, q0, q0] true
def sb49 : Blk := .rows [(.int .i64), (.int .i64)] (w (w .zt 0 0 39) 0 1 1) (.lit 1) true false
def sb50 : Blk := .cells [(p 6 0), (p 7 0), (p 8 0), (.slice 9 (.lit 0) (.lit 1) 2 false), q0] true
def sb51 : Blk := .cells [(.slice 10 (.lit 0) (.lit 16) 3 false), (q 16), (.slice 11 (.lit 0) (.lit 1) 1 false), q1] true
def sb52 : Blk := .cells [b1, (.slice 12 (.lit 0) (.lit 2) 6 false)] true
def sb53 : Blk := .big [(q 10), q0, (q 2), q0, (p 13 0)] [(.int .i64)] .zt 1024 [] true
def sb54 : Blk := .cells [(q 2), (.slice 14 (.lit 0) (.lit 1) 2 false)] true
def sb55 : Blk := .cells [(.slice 15 (.lit 0) (.lit 1024) 5 false), (.slice 16 (.lit 0) (.lit 1) 3 false), q0] true
def sb56 : Blk := .cells [(p 4 0), (p 5 0), (p 6 0), (.slice 7 (.lit 0) (.lit 1) 2 false), q0] true
def sb57 : Blk := .rows [(.int .i64), (.int .i64)] (w (w (w (w .zt 0 0 64) 0 1 100) 1 0 164) 1 1 10) (.lit 1) true false
def sb58 : Blk := .cells [b1, (.slice 8 (.lit 0) (.lit 2) 6 false)] true
def sb59 : Blk := .big [(q 10), q0, (q 2), q0, (p 9 0)] [(.int .i64)] .zt 1024 [] true
def sb60 : Blk := .cells [(q 2), (.slice 10 (.lit 0) (.lit 1) 2 false)] true
def st0 : Contract := { fn := 16, sorts := [], args := [(.agg [(q 20), (q 10), (q 2), (.slice 0 (.lit 0) (.lit 8) 8 false)])], mem := [(0, sb0)], nb := 1, pre := [], outs := [], res := (.tup [q0, q0]), mods := [(0, sb0)], fresh := [], post := [] }
def st1 : Contract := { fn := 52, sorts := [], args := [(q 20), (q 10), (q 2)], mem := [], nb := 0, pre := [], outs := [], res := (.tup [(p 0 0), q0]), mods := [], fresh := [(0, sb1), (1, sb2), (2, sb3), (3, sb4), (4, sb5), (5, sb6), (6, sb7), (7, sb8), (8, sb9), (9, sb10), (10, sb11), (11, sb12), (12, sb13)], post := [] }
def st2 : Contract := { fn := 54, sorts := [], args := [(p 0 0), (.agg [q1, q0, (q 3), q1, q0])], mem := [(0, sb1), (1, sb2), (2, sb3), (3, sb4), (4, sb5), (5, sb6), (6, sb7), (7, sb8), (8, sb9), (9, sb10), (10, sb11), (11, sb12), (12, sb13)], nb := 13, pre := [], outs := [], res := (.agg [(q 65536), q0]), mods := [(0, sb14), (1, sb2), (2, sb15), (3, .cells [(.slice 7 (.lit 0) (.lit 16) 3 false), (q 16), (.slice 13 (.lit 0) (.lit 1) 1 false), q1] true), (4, sb16), (5, .cells [b1, (.slice 14 (.lit 0) (.lit 2) 6 false)] true), (6, sb7), (7, sb17), (8, sb9), (10, sb11), (11, sb12), (12, sb13)], fresh := [(13, sb18), (14, sb19)], post := [] }
def st4 : Contract := { fn := 112, sorts := [], args := [(.agg [q0, (q 8), q1, q1, q0, q1, q0, .nilslice, b0, .nilslice, .nilslice, q1]), (q 100), q1], mem := [], nb := 0, pre := [], outs := [], res := (.tup [(q 64), (q 2), q0]), mods := [], fresh := [], post := [] }
def st5 : Contract := { fn := 154, sorts := [], args := [(p 0 0), (p 1 0), (.agg [q0, (q 8), q1, q1, q0, q1, q0, .nilslice, b0]), (q 2)], mem := [(0, sb16), (1, sb20), (2, sb19)], nb := 3, pre := [], outs := [], res := (.tup [(.agg [q0, (q 8), q1, q1, q0, q1, (q 2), .nilslice, b0]), q0]), mods := [(0, sb21), (1, sb20), (2, sb22)], fresh := [], post := [] }
def st6 : Contract := { fn := 155, sorts := [], args := [(p 0 0), (.agg [q0, (q 8), q1, q1, q0, q1, (q 2), .nilslice, b0])], mem := [(0, .cells [(p 1 0), q0, (q 8), q1, q1, q0, q1, q0, .nilslice, b0, .nilslice, .nilslice, q1] true), (1, sb23), (2, sb21), (3, sb24), (4, sb25), (5, sb22), (6, sb26), (7, sb12), (8, sb13)], nb := 9, pre := [], outs := [], res := (.tup []), mods := [(0, .cells [(p 1 0), q0, (q 8), q1, q1, q0, q1, (q 2), .nilslice, b0, .nilslice, .nilslice, q1] true), (1, sb23), (2, sb21), (3, sb24), (4, sb25), (5, sb22), (6, sb26), (7, sb12), (8, sb13)], fresh := [], post := [] }
def st7 : Contract := { fn := 54, sorts := [], args := [(p 0 0), (.agg [(q 3), (q 65536), (q 100), q1, q0])], mem := [(0, sb14), (1, sb2), (2, sb15), (3, sb27), (4, sb16), (5, sb28), (6, sb7), (7, sb17), (8, sb18), (9, sb19), (10, sb11), (11, sb12), (12, sb13)], nb := 13, pre := [], outs := [], res := (.agg [(q 64), q0]), mods := [(0, .cells [(p 1 0), (p 2 0), q0, (p 3 0), q0, (q 8), q1, q1, q0, q1, (q 2), .nilslice, b0, (.slice 13 (.lit 0) (.lit 1) 2 false), .nilslice, q1, q0, q0, q0, q0, q0, q0, q0, .nilslice, b0, .nilslice, .nilslice, q0, q0, q0, q0, q0, q0, q0, q0, .nilslice, b0, .nilslice, .nilslice, q0, q0, q0, q0, q0, q0, q0, q0, .nilslice, b0, .nilslice, .nilslice, q0, q0, q0, q0, q0, q0, q0, q0, .nilslice, b0, .nilslice, .nilslice, q0, q0, q0, q0, q0, q0, q0, q0, .nilslice, b0, .nilslice, .nilslice, q0, q0, q0, q0, q0, q0, q0, q0, .nilslice, b0, .nilslice, .nilslice, q0, q0, q0, q0, q0, q0, q0, q0, .nilslice, b0, .nilslice, .nilslice, q0, q0, q0, q0, q0, q0, q0, q0, .nilslice, b0, .nilslice, .nilslice, q0, q0, q0, q0, q0, q0, q0, q0, .nilslice, b0, .nilslice, .nilslice, q0, q0, q0, q0, q0, q0, q0, q0, .nilslice, b0, .nilslice, .nilslice, q0, q0, q0, q0, q0, q0, q0, q0, .nilslice, b0, .nilslice, .nilslice, q0, q0, q0, q0, q0, q0, q0, q0, .nilslice, b0, .nilslice, .nilslice, q0, q0, q0, q0, q0, q0, q0, q0, .nilslice, b0, .nilslice, .nilslice, q0, q0, q0, q0, q0, q0, q0, q0, .nilslice, b0, .nilslice, .nilslice, q0, q0, q0, q0, q0, q0, q0, q0, .nilslice, b0, .nilslice, .nilslice, q0] true), (1, sb2), (2, sb15), (3, sb27), (4, sb21), (5, sb28), (6, sb7), (7, sb17), (8, sb18), (9, sb22), (10, sb11), (11, sb12), (12, sb13)], fresh := [(13, sb29)], post := [] }
def st9 : Contract := { fn := 54, sorts := [], args := [(p 0 0), (.agg [(q 4), (q 65536), q0, q0, q0])], mem := [(0, .cells [(p 1 0), (p 2 0), q0, (p 3 0), q0, (q 8), q1, q1, q0, q1, (q 2), .nilslice, b0, (.slice 4 (.lit 0) (.lit 1) 2 false), .nilslice, q1, q0, q0, q0, q0, q0, q0, q0, .nilslice, b0, .nilslice, .nilslice, q0, q0, q0, q0, q0, q0, q0, q0, .nilslice, b0, .nilslice, .nilslice, q0, q0, q0, q0, q0, q0, q0, q0, .nilslice, b0, .nilslice, .nilslice, q0, q0, q0, q0, q0, q0, q0, q0, .nilslice, b0, .nilslice, .nilslice, q0, q0, q0, q0, q0, q0, q0, q0, .nilslice, b0, .nilslice, .nilslice, q0, q0, q0, q0, q0, q0, q0, q0, .nilslice, b0, .nilslice, .nilslice, q0, q0, q0, q0, q0, q0, q0, q0, .nilslice, b0, .nilslice, .nilslice, q0, q0, q0, q0, q0, q0, q0, q0, .nilslice, b0, .nilslice, .nilslice, q0, q0, q0, q0, q0, q0, q0, q0, .nilslice, b0, .nilslice, .nilslice, q0, q0, q0, q0, q0, q0, q0, q0, .nilslice, b0, .nilslice, .nilslice, q0, q0, q0, q0, q0, q0, q0, q0, .nilslice, b0, .nilslice, .nilslice, q0, q0, q0, q0, q0, q0, q0, q0, .nilslice, b0, .nilslice, .nilslice, q0, q0, q0, q0, q0, q0, q0, q0, .nilslice, b0, .nilslice, .nilslice, q0, q0, q0, q0, q0, q0, q0, q0, .nilslice, b0, .nilslice, .nilslice, q0, q0, q0, q0, q0, q0, q0, q0, .nilslice, b0, .nilslice, .nilslice, q0] true), (1, sb30), (2, sb15), (3, sb31), (4, sb29), (5, sb21), (6, sb32), (7, sb33), (8, sb17), (9, sb18), (10, sb22), (11, sb34), (12, sb12), (13, sb13)], nb := 14, pre := [], outs := [], res := (.agg [q1, q0]), mods := [(0, .cells [(p 1 0), (p 2 0), q0, (p 3 0), q0, (q 8), q1, q1, q0, q1, (q 2), .nilslice, b0, (.slice 4 (.lit 0) (.lit 1) 2 false), (.slice 14 (.lit 0) (.lit 1) 2 false), (q 2), q0, q0, q0, q0, q0, q0, q0, .nilslice, b0, .nilslice, .nilslice, q0, q0, q0, q0, q0, q0, q0, q0, .nilslice, b0, .nilslice, .nilslice, q0, q0, q0, q0, q0, q0, q0, q0, .nilslice, b0, .nilslice, .nilslice, q0, q0, q0, q0, q0, q0, q0, q0, .nilslice, b0, .nilslice, .nilslice, q0, q0, q0, q0, q0, q0, q0, q0, .nilslice, b0, .nilslice, .nilslice, q0, q0, q0, q0, q0, q0, q0, q0, .nilslice, b0, .nilslice, .nilslice, q0, q0, q0, q0, q0, q0, q0, q0, .nilslice, b0, .nilslice, .nilslice, q0, q0, q0, q0, q0, q0, q0, q0, .nilslice, b0, .nilslice, .nilslice, q0, q0, q0, q0, q0, q0, q0, q0, .nilslice, b0, .nilslice, .nilslice, q0, q0, q0, q0, q0, q0, q0, q0, .nilslice, b0, .nilslice, .nilslice, q0, q0, q0, q0, q0, q0, q0, q0, .nilslice, b0, .nilslice, .nilslice, q0, q0, q0, q0, q0, q0, q0, q0, .nilslice, b0, .nilslice, .nilslice, q0, q0, q0, q0, q0, q0, q0, q0, .nilslice, b0, .nilslice, .nilslice, q0, q0, q0, q0, q0, q0, q0, q0, .nilslice, b0, .nilslice, .nilslice, q0, q0, q0, q0, q0, q0, q0, q0, .nilslice, b0, .nilslice, .nilslice, q0] true), (1, sb30), (2, sb15), (3, sb31), (4, sb29), (5, sb21), (6, sb32), (7, sb33), (8, sb17), (9, sb18), (10, sb22), (11, sb34), (12, sb12), (13, sb13)], fresh := [(14, sb35)], post := [] }
def st11 : Contract := { fn := 112, sorts := [], args := [(.agg [q0, (q 8), q1, q1, q0, q1, (q 2), .nilslice, b0, (.slice 0 (.lit 0) (.lit 1) 2 false), (.slice 1 (.lit 0) (.lit 1) 2 false), (q 2)]), (q 10), q1], mem := [(0, sb29), (1, sb35)], nb := 2, pre := [], outs := [], res := (.tup [(q 164), (q 2), q0]), mods := [(0, sb29), (1, sb35)], fresh := [], post := [] }
def st12 : Contract := { fn := 154, sorts := [], args := [(p 0 0), (p 1 0), (.agg [q0, (q 8), q1, q1, q0, q1, (q 2), .nilslice, b0]), (q 2)], mem := [(0, sb21), (1, sb20), (2, sb22)], nb := 3, pre := [], outs := [], res := (.tup [(.agg [q0, (q 8), q1, q1, q0, q1, (q 2), .nilslice, b0]), q0]), mods := [(0, sb21), (1, sb20), (2, sb22)], fresh := [], post := [] }
def st13 : Contract := { fn := 155, sorts := [], args := [(p 0 0), (.agg [q0, (q 8), q1, q1, q0, q1, (q 2), .nilslice, b0])], mem := [(0, sb36), (1, sb2), (2, sb29), (3, sb35), (4, sb21), (5, sb37), (6, sb38), (7, sb22), (8, sb39), (9, sb12), (10, sb13)], nb := 11, pre := [], outs := [], res := (.tup []), mods := [(0, sb36), (1, sb2), (2, sb29), (3, sb35), (4, sb21), (5, sb37), (6, sb38), (7, sb22), (8, sb39), (9, sb12), (10, sb13)], fresh := [], post := [] }
def st14 : Contract := { fn := 54, sorts := [], args := [(p 0 0), (.agg [(q 3), (q 65536), (q 10), q1, q0])], mem := [(0, sb40), (1, sb41), (2, sb15), (3, sb42), (4, sb29), (5, sb35), (6, sb21), (7, sb43), (8, sb44), (9, sb17), (10, sb18), (11, sb22), (12, sb45), (13, sb12), (14, sb13)], nb := 15, pre := [], outs := [], res := (.agg [(q 164), q0]), mods := [(0, .cells [(p 1 0), (p 2 0), q0, (p 3 0), q0, (q 8), q1, q1, q0, q1, (q 2), .nilslice, b0, (.slice 15 (.lit 0) (.lit 2) 2 false), (.slice 5 (.lit 0) (.lit 1) 2 false), (q 2), q0, q0, q0, q0, q0, q0, q0, .nilslice, b0, .nilslice, .nilslice, q0, q0, q0, q0, q0, q0, q0, q0, .nilslice, b0, .nilslice, .nilslice, q0, q0, q0, q0, q0, q0, q0, q0, .nilslice, b0, .nilslice, .nilslice, q0, q0, q0, q0, q0, q0, q0, q0, .nilslice, b0, .nilslice, .nilslice, q0, q0, q0, q0, q0, q0, q0, q0, .nilslice, b0, .nilslice, .nilslice, q0, q0, q0, q0, q0, q0, q0, q0, .nilslice, b0, .nilslice, .nilslice, q0, q0, q0, q0, q0, q0, q0, q0, .nilslice, b0, .nilslice, .nilslice, q0, q0, q0, q0, q0, q0, q0, q0, .nilslice, b0, .nilslice, .nilslice, q0, q0, q0, q0, q0, q0, q0, q0, .nilslice, b0, .nilslice, .nilslice, q0, q0, q0, q0, q0, q0, q0, q0, .nilslice, b0, .nilslice, .nilslice, q0, q0, q0, q0, q0, q0, q0, q0, .nilslice, b0, .nilslice, .nilslice, q0, q0, q0, q0, q0, q0, q0, q0, .nilslice, b0, .nilslice, .nilslice, q0, q0, q0, q0, q0, q0, q0, q0, .nilslice, b0, .nilslice, .nilslice, q0, q0, q0, q0, q0, q0, q0, q0, .nilslice, b0, .nilslice, .nilslice, q0, q0, q0, q0, q0, q0, q0, q0, .nilslice, b0, .nilslice, .nilslice, q0] true), (1, sb41), (2, sb15), (3, sb42), (4, sb29), (5, sb35), (6, sb21), (7, sb43), (8, sb44), (9, sb17), (10, sb18), (11, sb22), (12, sb45), (13, sb12), (14, sb13)], fresh := [(15, sb46)], post := [] }
def st16 : Contract := { fn := 54, sorts := [], args := [(p 0 0), (.agg [(q 8), (q 65536), (q 167), (q 7), q0])], mem := [(0, sb47), (1, sb41), (2, sb15), (3, sb42), (4, sb46), (5, sb35), (6, sb21), (7, sb43), (8, sb44), (9, sb17), (10, sb18), (11, sb22), (12, sb45), (13, sb12), (14, sb13)], nb := 15, pre := [], outs := [], res := (.agg [q0, q0]), mods := [(0, sb47), (1, .cells [(p 6 0), (p 7 0), (p 8 0), (.slice 15 (.lit 0) (.lit 1) 2 false), q0] true), (2, sb15), (3, sb42), (4, sb46), (5, sb35), (6, sb48), (7, sb43), (8, sb44), (9, sb17), (10, sb18), (11, sb22), (12, sb45), (13, sb12), (14, sb13)], fresh := [(15, .cells [(q 2), (.slice 16 (.lit 0) (.lit 1) 2 false)] true), (16, sb49)], post := [] }
def st18 : Contract := { fn := 54, sorts := [], args := [(p 0 0), (.agg [(q 7), (q 65536), (q 167), q0, q0])], mem := [(0, sb47), (1, sb50), (2, sb15), (3, sb51), (4, sb46), (5, sb35), (6, sb48), (7, sb52), (8, sb53), (9, sb54), (10, sb17), (11, sb18), (12, sb22), (13, sb55), (14, sb49), (15, sb12), (16, sb13)], nb := 17, pre := [], outs := [], res := (.agg [(q 7), q0]), mods := [(0, sb47), (1, sb50), (2, sb15), (3, sb51), (4, sb46), (5, sb35), (6, sb48), (7, sb52), (8, sb53), (9, sb54), (10, sb17), (11, sb18), (12, sb22), (13, sb55), (14, sb49), (15, sb12), (16, sb13)], fresh := [], post := [] }
def st20 : Contract := { fn := 155, sorts := [], args := [(p 0 0), (.agg [q0, (q 8), q1, q1, q0, q1, (q 2), .nilslice, b0])], mem := [(0, sb36), (1, sb56), (2, sb57), (3, sb35), (4, sb48), (5, sb58), (6, sb59), (7, sb60), (8, sb22), (9, sb11), (10, sb49), (11, sb12), (12, sb13)], nb := 13, pre := [], outs := [], res := (.tup []), mods := [(0, sb36), (1, sb56), (2, sb57), (3, sb35), (4, sb48), (5, sb58), (6, sb59), (7, sb60), (8, sb22), (9, sb11), (10, sb49), (11, sb12), (12, sb13)], fresh := [], post := [] }
def st21 : Contract := { fn := 54, sorts := [], args := [(p 0 0), (.agg [(q 5), (q 65536), q1, q0, q0])], mem := [(0, sb47), (1, sb50), (2, sb15), (3, sb51), (4, sb46), (5, sb35), (6, sb48), (7, sb52), (8, sb53), (9, sb54), (10, sb17), (11, sb18), (12, sb22), (13, sb55), (14, sb49), (15, sb12), (16, sb13)], nb := 17, pre := [], outs := [], res := (.agg [q0, q0]), mods := [(0, .cells [(p 1 0), (p 2 0), q0, (p 3 0), q0, (q 8), q1, q1, q0, q1, (q 2), .nilslice, b0, (.slice 17 (.lit 0) (.lit 1) 2 false), (.slice 18 (.lit 0) (.lit 1) 2 false), (q 2), q0, q0, q0, q0, q0, q0, q0, .nilslice, b0, .nilslice, .nilslice, q0, q0, q0, q0, q0, q0, q0, q0, .nilslice, b0, .nilslice, .nilslice, q0, q0, q0, q0, q0, q0, q0, q0, .nilslice, b0, .nilslice, .nilslice, q0, q0, q0, q0, q0, q0, q0, q0, .nilslice, b0, .nilslice, .nilslice, q0, q0, q0, q0, q0, q0, q0, q0, .nilslice, b0, .nilslice, .nilslice, q0, q0, q0, q0, q0, q0, q0, q0, .nilslice, b0, .nilslice, .nilslice, q0, q0, q0, q0, q0, q0, q0, q0, .nilslice, b0, .nilslice, .nilslice, q0, q0, q0, q0, q0, q0, q0, q0, .nilslice, b0, .nilslice, .nilslice, q0, q0, q0, q0, q0, q0, q0, q0, .nilslice, b0, .nilslice, .nilslice, q0, q0, q0, q0, q0, q0, q0, q0, .nilslice, b0, .nilslice, .nilslice, q0, q0, q0, q0, q0, q0, q0, q0, .nilslice, b0, .nilslice, .nilslice, q0, q0, q0, q0, q0, q0, q0, q0, .nilslice, b0, .nilslice, .nilslice, q0, q0, q0, q0, q0, q0, q0, q0, .nilslice, b0, .nilslice, .nilslice, q0, q0, q0, q0, q0, q0, q0, q0, .nilslice, b0, .nilslice, .nilslice, q0, q0, q0, q0, q0, q0, q0, q0, .nilslice, b0, .nilslice, .nilslice, q0] true), (1, sb50), (2, sb15), (3, sb51), (4, sb46), (5, sb35), (6, sb48), (7, sb52), (8, sb53), (9, sb54), (10, sb17), (11, sb18), (12, sb22), (13, sb55), (14, sb49), (15, sb12), (16, sb13)], fresh := [(17, sb57), (18, sb35)], post := [] }
def st23 : Contract := { fn := 54, sorts := [], args := [(p 0 0), (.agg [(q 7), (q 65536), (q 167), q0, q0])], mem := [(0, sb40), (1, sb50), (2, sb15), (3, sb51), (4, sb57), (5, sb35), (6, sb48), (7, sb52), (8, sb53), (9, sb54), (10, sb17), (11, sb18), (12, sb22), (13, sb55), (14, sb49), (15, sb12), (16, sb13)], nb := 17, pre := [], outs := [], res := (.agg [q0, (q 170)]), mods := [(0, sb40), (1, sb50), (2, sb15), (3, sb51), (4, sb57), (5, sb35), (6, sb48), (7, sb52), (8, sb53), (9, sb54), (10, sb17), (11, sb18), (12, sb22), (13, sb55), (14, sb49), (15, sb12), (16, sb13)], fresh := [], post := [] }
def xPlus (P : Program) (l : List Contract) : Cx := { P, cs := l ++ cState1 :: loops, anns := [], kn := kn }
def cMain : Contract := { c0 with fn := 7, res := .bool (.lit 1) }
end Go.Mg
namespace Go.Sf
open Go Go.Lib
theorem dd_small {u : Nat} (h : u < 10) : decDigits u = [UInt8.ofNat (48 + u)] := by rw [decDigits, dif_pos h]
theorem dd_big {u : Nat} (h : ¬ u < 10) : decDigits u = decDigits (u / 10) ++ [UInt8.ofNat (48 + u % 10)] := by rw [decDigits, dif_neg h]
theorem dg_nat {d : Nat} (h : d < 10) : (UInt8.ofNat (48 + d)).toNat = 48 + d := by
  simp; omega
theorem dd_digit (u : Nat) : ∀ b ∈ decDigits u, 48 ≤ b.toNat ∧ b.toNat ≤ 57 := by
  induction u using Nat.strongRecOn with
  | _ u ih =>
    intro b hb
    by_cases h : u < 10
    · rw [dd_small h] at hb
      simp only [List.mem_singleton] at hb
      subst hb
      rw [dg_nat h]; omega
    · rw [dd_big h] at hb
      rcases List.mem_append.1 hb with hb | hb
      · exact ih (u / 10) (by omega) b hb
      · simp only [List.mem_singleton] at hb
        subst hb
        rw [dg_nat (Nat.mod_lt _ (by omega))]; omega
theorem dd_ne (u : Nat) : decDigits u ≠ [] := by
  by_cases h : u < 10
  · rw [dd_small h]; simp
  · rw [dd_big h]; simp
theorem itoa_ne (n : Int) : itoa n ≠ [] := by
  unfold itoa; split
  · simp
  · exact dd_ne _
theorem itoa_mem (n : Int) : ∀ b ∈ itoa n, b.toNat = 45 ∨ (48 ≤ b.toNat ∧ b.toNat ≤ 57) := by
  intro b hb
  unfold itoa at hb
  split at hb
  · rcases List.mem_cons.1 hb with rfl | hb
    · exact .inl rfl
    · exact .inr (dd_digit _ b hb)
  · exact .inr (dd_digit _ b hb)
theorem room {M acc d x : Nat} (hM : M ≤ 18446744073709551615) (h1 : acc * 10 + d ≤ x) (h : x ≤ M) : acc < 1844674407370955162 := by omega
theorem indexByte_at (c : UInt8) : ∀ (w rest : List UInt8), c ∉ w → indexByte (w ++ c :: rest) c = (w.length : Int)
  | [], rest, _ => by simp [indexByte]
  | b :: w, rest, h => by
    have h1 : b ≠ c := fun e => h (by simp [e])
    have h2 := indexByte_at c w rest (fun hm => h (by simp [hm]))
    simp [indexByte, h1, h2]
theorem split_last {c : UInt8} {w : List UInt8} (h : c ∉ w) : split w [c] = [w] := by
  unfold split
  rw [count_one, List.count_eq_zero_of_not_mem h]
  rfl
theorem split_step {c : UInt8} {w rest : List UInt8} (h : c ∉ w) : split (w ++ c :: rest) [c] = w :: split rest [c] := by
  unfold split
  rw [count_one, count_one, List.count_append, List.count_eq_zero_of_not_mem h, List.count_cons_self, Nat.zero_add]
  simp only [splitK]
  rw [index_one, indexByte_at c w rest h]
  have h1 : ¬ (((w.length : Int) == -1) = true) := by simp
  rw [if_neg h1]
  simp
end Go.Sf
namespace Go.Tt
open Go Go.Sx Go.Mg
def ttS : Nat → Option Bool
  | 3 | 5 | 7 | 8 | 9 | 10 | 11 | 12 | 13 | 14 | 15 | 20 => some false
  | 6 => some true
  | 1000 | 1001 | 1002 | 1003 | 1004 | 1005 | 1008 | 1010 | 1011 => some false
  | 1006 | 1007 | 1009 | 1012 | 1013 => some true
  | _ => none
def str (e : E) : AV := .sat e
def sln (e : E) : E := .fn 1001 e (.lit 0) (.lit 0) (.lit 0)
def z0 : E := .lit 0
def stK : List CK := [.int .i64, .str, .str, .int .i64, .int .i64, .int .i64, .int .i64, .int .i64]
def mx : E := .lit 9223372036854775807
def fn1 (j : Nat) (a : E) : E := .fn j a z0 z0 z0
def fn2 (j : Nat) (a b : E) : E := .fn j a b z0 z0
def ann (f : FuncId) (b : Nat) (keep : List Nat) (tmps : Tmps) (sorts : List Bool) (inv : List PE) (meas : E) : Ann :=
  { fn := f, bid := b, keep, tmps, drop := [], mem := [], sorts, nbl := 0, inv, meas }
def kt : Kn := { kn with tab := [71] }
def sPre : List PE := [eLe (sln (v 0)) (.lit 100000)]
def cName (f : FuncId) : Contract := { c0 with fn := f, sorts := [false], args := [str (v 0)], pre := sPre, outs := [false], res := .bool (v 1), post := [.same (v 1) (fn1 20 (v 0))] }
def aName : Ann := ann 22 0 [0, 6] [(7, i64 (v 1))] [false] [eLe z0 (v 1), eLe (v 1) (sln (v 0)), .pr 40 [v 0, v 1]] (.bin .sub (sln (v 0)) (v 1))
def aRName : Ann := ann 25 0 [0] [(3, i64 (v 1))] [false] [eLe z0 (v 1), eLe (v 1) (sln (v 0)), .pr 40 [v 0, v 1]] (.bin .sub (sln (v 0)) (v 1))
def kCells : List AV := [
  i64 (.lit 0), .str [], i64 (.lit 0), i64 (.lit 0), i64 (.lit 0), i64 (.lit 0), .nilfunc,
  i64 (.lit 1), .str [99, 114, 101, 97, 116, 101], i64 (.lit 1), i64 (.lit 0), i64 (.lit 0), i64 (.lit 3), .func 46 [],
  i64 (.lit 2), .str [100, 101, 115, 116, 114, 111, 121], i64 (.lit 2), i64 (.lit 0), i64 (.lit 0), i64 (.lit 0), .func 47 [],
  i64 (.lit 3), .str [97, 108, 108, 111, 99], i64 (.lit 2), i64 (.lit 1), i64 (.lit 3), i64 (.lit 2), .func 47 [],
  i64 (.lit 4), .str [109, 97, 114, 107], i64 (.lit 2), i64 (.lit 1), i64 (.lit 4), i64 (.lit 0), .func 47 [],
  i64 (.lit 5), .str [114, 101, 119, 105, 110, 100], i64 (.lit 2), i64 (.lit 2), i64 (.lit 4), i64 (.lit 0), .func 49 [.ptr 1 (.lit 0) 0 0],
  i64 (.lit 6), .str [114, 101, 115, 101, 116], i64 (.lit 2), i64 (.lit 0), i64 (.lit 0), i64 (.lit 0), .func 47 [],
  i64 (.lit 7), .str [108, 111, 97, 100], i64 (.lit 2), i64 (.lit 2), i64 (.lit 3), i64 (.lit 1), .func 48 [.ptr 1 (.lit 0) 0 0],
  i64 (.lit 8), .str [115, 116, 111, 114, 101], i64 (.lit 2), i64 (.lit 2), i64 (.lit 3), i64 (.lit 2), .func 48 [.ptr 1 (.lit 0) 0 0],
  i64 (.lit 9), .str [116, 105, 99, 107], i64 (.lit 0), i64 (.lit 0), i64 (.lit 0), i64 (.lit 1), .func 46 [],
  i64 (.lit 10), .str [112, 117, 114, 103, 101], i64 (.lit 0), i64 (.lit 0), i64 (.lit 0), i64 (.lit 0), .func 46 [],
  i64 (.lit 11), .str [108, 105, 109, 105, 116], i64 (.lit 0), i64 (.lit 0), i64 (.lit 0), i64 (.lit 1), .func 46 [],
  i64 (.lit 12), .str [114, 101, 102, 117, 115, 101], i64 (.lit 0), i64 (.lit 0), i64 (.lit 0), i64 (.lit 3), .func 46 [],
  i64 (.lit 13), .str [104, 117, 103, 101], i64 (.lit 2), i64 (.lit 0), i64 (.lit 0), i64 (.lit 0), .func 47 []]
def kMem : Mem := [(0, .cells kCells false), (1, .cells [.func 47 []] false)]
def kArg : AV := .slice 0 z0 (.lit 14) 7 false
def stAV (f : Nat → E) : List AV := [i64 (f 0), str (f 1), str (f 2), i64 (f 3), i64 (f 4), i64 (f 5), i64 (f 6), i64 (f 7)]
def stCells : List AV := stAV fun i => v i
def stVs : List E := (List.range 8).map fun i => v i
def stRow (T r : E) : List E := (List.range 8).map fun i => .sel T r i
def stPre : List PE := [.rng .i64 (v 0), eLe (sln (v 1)) (.lit 100000), eLe (sln (v 2)) (.lit 100000), .rng .i64 (v 3), .rng .i64 (v 4), .rng .i64 (v 5), .rng .i64 (v 6), .rng .i64 (v 7)]
def st8 : List Bool := List.replicate 8 false
def stB : Blk := .rows stK (v 0) (v 1) false true
def inRows (i n : E) : List PE := [eLe z0 i, .tt (.bin .lt i n)]
def cShpR : Contract := { c0 with fn := 50, sorts := [true, false, false], args := [kArg, .ptr 2 (v 2) 8 0], mem := kMem ++ [(2, stB)], nb := 3, pre := inRows (v 2) (v 1) ++ [.pr 45 [v 0, v 1]], outs := [false], res := i64 (v 3), post := [.pr 31 (stRow (v 0) (v 2) ++ [v 3])] }
def st9 : List Bool := List.replicate 9 false
def ntK : List CK := [.int .i64, .str, .str, .int .i64]
def cChk : Contract := { c0 with fn := 33, sorts := [true, false, false, true, false], args := [.mref 3, kArg, .ptr 2 (v 2) 8 0], mem := kMem ++ [(2, stB), (3, .smp 3 false ntK (v 3) (v 4))], nb := 4, pre := inRows (v 2) (v 1) ++ [.pr 45 [v 0, v 1], eLe z0 (v 4)], outs := [false], res := i64 (v 5), mods := [(3, .smp 3 false ntK (v 3) (v 4))], post := [.pr 46 ([v 3, v 4] ++ stRow (v 0) (v 2) ++ [v 5])] }
def prg (i b : Nat) : AV := .agg [i64 (v i), i64 (v (i + 1)), i64 (v (i + 2)), .slice b z0 (v (i + 4)) 8 true]
def prgB (i : Nat) : Blk := .rows stK (v (i + 3)) (v (i + 4)) false true
def prgS : List Bool := [false, false, false, true, false]
def prgV (i : Nat) : List E := [v i, v (i + 1), v (i + 2), v (i + 3), v (i + 4)]
def prgP (i : Nat) : List PE := [eLe z0 (v (i + 4)), eLe (v (i + 4)) (.lit 1000000), .pr 45 [v (i + 3), v (i + 4)], .rng .i64 (v i), .rng .i64 (v (i + 1)), .rng .i64 (v (i + 2))]
def cCheck (f : FuncId) : Contract := { c0 with fn := f, sorts := prgS, args := [prg 0 0], mem := [(0, prgB 0)], nb := 1, pre := prgP 0, outs := [false, false], res := .tup [i64 (v 5), i64 (v 6)], post := [eLe (.lit (-1)) (v 5), eLe (v 5) (.lit 500), .pr 44 (prgV 0 ++ [v 5, v 6])] }
def aCheck : Ann := { ann 16 1 [1, 4, 5, 26] [(27, i64 (v 5))] [false, true, false] [eLe z0 (v 5), eLe (v 5) (v 4), eLe z0 (v 7), .pr 47 [v 3, v 5, v 6, v 7]] (.bin .sub (v 4) (v 5)) with drop := [4], mem := [(4, .smp 3 false ntK (v 6) (v 7))] }
def aRCheck : Ann := ann 24 0 [1] [(4, i64 (v 5))] [false] [eLe z0 (v 5), eLe (v 5) (v 4), .pr 48 [v 3, v 5]] (.bin .sub (v 4) (v 5))
def slP : List PE := [eLe z0 (v 2), eLe (v 2) (v 1), eLe (v 2) (.lit 1000), .pr 45 [v 0, v 1]]
def slA : AV := .slice 0 z0 (v 2) 8 true
def cAft : Contract := { c0 with fn := 41, sorts := [true, false, false] ++ st8, args := [slA, .agg (stAV fun i => v (i + 3))], mem := [(0, stB)], nb := 1, pre := slP ++ [.rng .i64 (v 3), eLe (sln (v 4)) (.lit 100000), eLe (sln (v 5)) (.lit 100000), .rng .i64 (v 6), .rng .i64 (v 7), .rng .i64 (v 8), .rng .i64 (v 9), .rng .i64 (v 10)], outs := [false], res := i64 (v 11), post := [.pr 49 ([v 0, v 2] ++ ((List.range 8).map fun i => v (i + 3)) ++ [v 11])] }
def cStepR : Contract := { c0 with fn := 55, sorts := st8, args := [.agg stCells], pre := stPre, outs := [false], res := i64 (v 8), post := [.pr 31 (stVs ++ [v 8])] }
def cMade : Contract := { c0 with fn := 26, sorts := [true, false, false, false], args := [slA, str (v 3)], mem := [(0, stB)], nb := 1, pre := slP, outs := [false], res := .bool (v 4), post := [.pr 50 [v 0, v 2, v 3, v 4]] }
def aMade : Ann := ann 26 0 [0, 1] [(5, i64 (v 4))] [false] [eLe z0 (v 4), eLe (v 4) (v 2), .pr 51 [v 0, v 4, v 3]] (.bin .sub (v 2) (v 4))
def cFind : Contract := { c0 with fn := 44, sorts := [true, false, false, false, false, false], args := [slA, i64 (v 3), str (v 4), str (v 5)], mem := [(0, stB)], nb := 1, pre := slP, outs := [false], res := i64 (v 6), post := [eLe (.lit (-1)) (v 6), .tt (.bin .lt (v 6) (.bin .add (v 2) (.lit 1))), .pr 52 [v 0, v 2, v 3, v 4, v 5, v 6]] }
def aFind : Ann := ann 44 0 [0, 1, 2, 3] [(9, i64 (v 6))] [false] [eLe z0 (v 6), eLe (v 6) (v 2), .pr 53 [v 0, v 6, v 3, v 4, v 5]] (.bin .sub (v 2) (v 6))
def cTab : Contract := { c0 with fn := 56, outs := [true], res := .slice 0 z0 (.lit 14) 4 false, fresh := [(0, .rows [.str, .str, .str, .int .i64] (v 0) (.lit 14) true false)], post := [.pr 80 [v 0]] }
def cSame : Contract := { c0 with fn := 12, sorts := prgS ++ prgS, args := [prg 0 0, prg 5 1], mem := [(0, prgB 0), (1, prgB 5)], nb := 2, pre := prgP 0 ++ prgP 5, outs := [false], res := .bool (v 10), post := [.pr 67 (prgV 0 ++ prgV 5 ++ [v 10])] }
def aSame : Ann := ann 12 0 [2, 3] [(5, i64 (v 10))] [false] [eLe z0 (v 10), eLe (v 10) (v 4), eLe (v 10) (v 9), .pr 68 [v 3, v 8, v 10]] (.bin .sub (v 4) (v 10))
def cFar : Contract := { c0 with fn := 6, sorts := prgS, args := [prg 0 0, i64 (.lit 60)], mem := [(0, prgB 0)], nb := 1, pre := [eLe z0 (v 4), .rng .i64 (v 4)], outs := [false], res := .bool (v 5), post := [.pr 69 [v 3, v 4, v 5]] }
def aFar : Ann := ann 6 0 [2] [(5, i64 (v 5))] [false] [eLe z0 (v 5), eLe (v 5) (v 4), .pr 70 [v 3, v 5]] (.bin .sub (v 4) (v 5))
def xName (P : Program) : Cx := { P, cs := [], anns := [aName, aRName], kn := kn }
def cAny (f : FuncId) (j : Nat) : Contract := { c0 with fn := 58, sorts := [true, false, false, false], args := [.slice 0 (v 2) (v 3) 1 true, .func f []], mem := [(0, .rows [.int .i64] (v 0) (v 1) false true)], nb := 1, pre := [eLe z0 (v 2), eLe z0 (v 3), eLe (.bin .add (v 2) (v 3)) (v 1), eLe (v 3) (.lit 1000)], outs := [false], res := .bool (v 4), post := [.pr j [v 0, v 2, v 3, v 4]] }
def aAny (f : FuncId) (j : Nat) : Ann := ann 71 0 [0, 7] [(8, i64 (v 4)), (1, .func f [])] [false] [eLe z0 (v 4), eLe (v 4) (v 3), .pr j [v 0, v 2, v 4]] (.bin .sub (v 3) (v 4))
def xAny (P : Program) : Cx := { P, cs := [], anns := [aAny 59 83, aAny 60 84], kn := kn }
def xShp (P : Program) : Cx := { P, cs := [cName 22, cAny 59 81, cAny 60 82], anns := [], kn := kt }
def xChk (P : Program) : Cx := { P, cs := [cShpR], anns := [], kn := kt }
def xCheck (P : Program) : Cx := { P, cs := [cChk], anns := [aCheck], kn := kt }
def xTab (P : Program) : Cx := { P, cs := [], anns := [], kn := kn }
def xStepR (P : Program) : Cx := { P, cs := [cTab, cName 25], anns := [], kn := kn }
def xMade (P : Program) : Cx := { P, cs := [], anns := [aMade, aFind], kn := kn }
def xAft (P : Program) : Cx := { P, cs := [cTab, cStepR, cMade, cFind], anns := [], kn := kn }
def xRCheck (P : Program) : Cx := { P, cs := [cAft], anns := [aRCheck], kn := kn }
def xSame (P : Program) : Cx := { P, cs := [], anns := [aSame], kn := kn }
def xFar (P : Program) : Cx := { P, cs := [], anns := [aFar], kn := kn }
def cAw : Contract := { c0 with fn := 7, res := .bool (.lit 1) }
def ν (n : Nat) : E := .var n
def κ (n : Int) : E := .lit n
def ο : E := .lit 0
def γ (a b : E) : PE := .tt (.bin .le a b)
def ω (a b : E) : PE := .tt (.bin .lt a b)
def ρ (a : E) : PE := .rng .i64 a
def χ (a b : E) : E := .bin .eq a b
def π (a b : E) : E := .bin .add a b
def δ (a b : E) : E := .bin .sub a b
def ξ (t r : E) (c : Nat) : E := .sel t r c
def υ (t r : E) (c : Nat) (x : E) : E := .upd t r c x
def α (p : PE) (t : Tree) : Tree := .assert p t
def μ (p : PE) (t : Tree) : Tree := .assume p t
def β (e : E) (a b : Tree) : Tree := .branch e a b
def η (t : Tree) : Tree := .havoc false t
def τ (t : Tree) : Tree := .havoc true t
end Go.Tt
namespace Go.Tt
open Go Go.Lib Go.Sf
def joinW : List (List UInt8) → List UInt8
  | [] => []
  | [w] => w
  | w :: l => w ++ 32 :: joinW l
def preW : List (List UInt8) → List UInt8
  | [] => []
  | w :: l => w ++ 32 :: preW l
def BareW (w : List UInt8) : Prop := w ≠ [] ∧ w.length ≤ 200 ∧ ∀ b ∈ w, 33 ≤ b.toNat ∧ b.toNat ≤ 126 ∧ b.toNat ≠ 34
def Bare (ws : List (List UInt8)) : Prop := ∀ w ∈ ws, BareW w
theorem joinW_cons (w : List UInt8) (l : List (List UInt8)) : joinW (w :: l) = w ++ (if l = [] then [] else 32 :: joinW l) := by
  cases l with
  | nil => simp [joinW]
  | cons x l => simp [joinW]
theorem BareW.no {w : List UInt8} (h : BareW w) : (32 : UInt8) ∉ w := fun hm => by
  have := (h.2.2 32 hm).1
  revert this; decide
theorem joinW_split : ∀ {ws : List (List UInt8)}, ws ≠ [] → Bare ws → Lib.split (joinW ws) [32] = ws
  | [], h, _ => absurd rfl h
  | [w], _, h => by
    have := (h w (by simp)).no
    simp only [joinW]
    exact split_last this
  | w :: x :: l, _, h => by
    have hw := (h w (by simp)).no
    simp only [joinW]
    rw [split_step hw, joinW_split (by simp) fun y hy => h y (by simp at hy ⊢; exact .inr hy)]
theorem joinW_ne {ws : List (List UInt8)} (h : ws ≠ []) (hb : Bare ws) : joinW ws ≠ [] := by
  cases ws with
  | nil => exact absurd rfl h
  | cons w l =>
    have := (hb w (by simp)).1
    rw [joinW_cons]
    intro e
    exact this (List.append_eq_nil_iff.1 e).1
theorem joinW_inj {ws vs : List (List UInt8)} (hw : Bare ws) (hv : Bare vs) (h : joinW ws = joinW vs) : ws = vs := by
  by_cases h1 : ws = []
  · subst h1
    by_cases h2 : vs = []
    · exact h2.symm
    · exact absurd h.symm (joinW_ne h2 hv)
  · by_cases h2 : vs = []
    · subst h2
      exact absurd h (joinW_ne h1 hw)
    · rw [← joinW_split h1 hw, ← joinW_split h2 hv, h]
def I64 (n : Int) : Prop := -9223372036854775808 ≤ n ∧ n ≤ 9223372036854775807
theorem nDigits_le : ∀ (k u : Nat), 1 ≤ k → u < 10 ^ k → nDigits u ≤ k
  | 0, _, h, _ => by omega
  | k + 1, u, _, h => by
    by_cases h0 : u < 10
    · rw [nDigits_small h0]; omega
    · rw [nDigits_big h0]
      rw [Nat.pow_succ] at h
      have hk : 1 ≤ k := by
        cases k with
        | zero => simp at h; omega
        | succ k => omega
      have := nDigits_le k (u / 10) hk (by omega)
      omega
theorem dd_length (u : Nat) : (decDigits u).length = nDigits u := by rw [decDigits_eq]; simp
theorem itoa_len {m : Int} (h : I64 m) : (itoa m).length ≤ 20 := by
  have h1 := nDigits_le 19 m.natAbs (by omega) (by obtain ⟨h0, h1⟩ := h; omega)
  unfold itoa
  split
  · simp only [List.length_cons, dd_length]; omega
  · rw [dd_length]
    have : m.toNat = m.natAbs := by omega
    rw [this]; omega
theorem itoa_bare {n : Int} (h : I64 n) : BareW (itoa n) := by
  refine ⟨itoa_ne n, ?_, fun b hb => ?_⟩
  · have := itoa_len h; omega
  · have := itoa_mem n b hb; omega
def kw : List (List UInt8) := [[], [99, 114, 101, 97, 116, 101], [100, 101, 115, 116, 114, 111, 121], [97, 108, 108, 111, 99], [109, 97, 114, 107], [114, 101, 119, 105, 110, 100], [114, 101, 115, 101, 116], [108, 111, 97, 100], [115, 116, 111, 114, 101], [116, 105, 99, 107], [112, 117, 114, 103, 101], [108, 105, 109, 105, 116], [114, 101, 102, 117, 115, 101], [104, 117, 103, 101]]
def wIs : List UInt8 := [105, 115]
def wFails : List UInt8 := [102, 97, 105, 108, 115]
def kar : Nat → Nat
  | 1 => 1
  | 2 | 3 | 4 | 5 | 6 | 7 | 8 | 13 => 2
  | _ => 0
def knm : Nat → Nat
  | 3 | 4 => 1
  | 5 | 7 | 8 => 2
  | _ => 0
def knum : Nat → Nat
  | 1 | 12 => 3
  | 3 | 8 => 2
  | 7 | 9 | 11 => 1
  | _ => 0
structure Sp where
  k : Nat
  a : List UInt8
  m : List UInt8
  x : Int
  y : Int
  z : Int
  w : Int
  n : Int
def Sp.wd (s : Sp) : List (List UInt8) :=
  kw.getD s.k [] :: ((if kar s.k = 0 then [] else [s.a]) ++ (if knm s.k = 0 then [] else [s.m]) ++ (([s.x, s.y, s.z].take (knum s.k)).map itoa) ++
    (if s.w = 1 then [wIs, itoa s.n] else if s.w = 2 then [wFails, itoa s.n] else []))
structure Sp.Norm (s : Sp) : Prop where
  k : 1 ≤ s.k ∧ s.k ≤ 13
  a : kar s.k = 0 → s.a = []
  m : knm s.k = 0 → s.m = []
  x : I64 s.x ∧ (knum s.k < 1 → s.x = 0)
  y : I64 s.y ∧ (knum s.k < 2 → s.y = 0)
  z : I64 s.z ∧ (knum s.k < 3 → s.z = 0)
  w : s.w = 0 ∨ s.w = 1 ∨ s.w = 2
  n : I64 s.n ∧ (s.w = 0 → s.n = 0)
theorem kw_inj' : ∀ a b : Fin 14, kw.getD a [] = kw.getD b [] → a = b := by decide
theorem kw_inj {k l : Nat} (hk : k ≤ 13) (hl : l ≤ 13) (h : kw.getD k [] = kw.getD l []) : k = l := by
  have := kw_inj' ⟨k, by omega⟩ ⟨l, by omega⟩ h
  exact congrArg Fin.val this
theorem kw_bare' : ∀ a : Fin 14, 1 ≤ a.val → kw.getD a [] ≠ [] ∧ (kw.getD a []).length ≤ 200 ∧ ∀ b ∈ kw.getD a [], 33 ≤ b.toNat ∧ b.toNat ≤ 126 ∧ b.toNat ≠ 34 := by decide
theorem kw_bare {k : Nat} (h : 1 ≤ k ∧ k ≤ 13) : BareW (kw.getD k []) := kw_bare' ⟨k, by omega⟩ h.1
def Sp.NB (s : Sp) : Prop := (kar s.k ≠ 0 → BareW s.a) ∧ (knm s.k ≠ 0 → BareW s.m)
theorem wd_bare {s : Sp} (hs : s.Norm) (hb : s.NB) : Bare s.wd := by
  intro w hw
  unfold Sp.wd at hw
  simp only [List.mem_cons, List.mem_append] at hw
  rcases hw with rfl | ((hw | hw) | hw) | hw
  · exact kw_bare hs.k
  · split at hw
    · cases hw
    · rename_i h; simp at hw; subst hw; exact hb.1 h
  · split at hw
    · cases hw
    · rename_i h; simp at hw; subst hw; exact hb.2 h
  · obtain ⟨q, h1, rfl⟩ := List.mem_map.1 hw
    have h2 := List.mem_of_mem_take h1
    simp at h2
    rcases h2 with rfl | rfl | rfl
    · exact itoa_bare hs.x.1
    · exact itoa_bare hs.y.1
    · exact itoa_bare hs.z.1
  · have b1 : BareW wIs := by unfold BareW; decide
    have b2 : BareW wFails := by unfold BareW; decide
    split at hw
    · simp at hw
      rcases hw with rfl | rfl
      · exact b1
      · exact itoa_bare hs.n.1
    · split at hw
      · simp at hw
        rcases hw with rfl | rfl
        · exact b2
        · exact itoa_bare hs.n.1
      · cases hw
def Sp.line (s : Sp) : List UInt8 := joinW s.wd
def letterB (b : UInt8) : Bool := decide (97 ≤ b.toNat ∧ b.toNat ≤ 122) || decide (65 ≤ b.toNat ∧ b.toNat ≤ 90)
def nameB (b : UInt8) : Bool := letterB b || decide (48 ≤ b.toNat ∧ b.toNat ≤ 57) || decide (b.toNat = 95)
def NameP (l : List UInt8) : Prop := 1 ≤ l.length ∧ l.length ≤ 16 ∧ (∀ b, l.head? = some b → letterB b = true) ∧ ∀ b ∈ l, nameB b = true
instance (l : List UInt8) : Decidable (NameP l) := by
  unfold NameP
  cases l with
  | nil => exact isFalse fun h => by have := h.1; simp at this
  | cons c r => exact decidable_of_iff (1 ≤ (c :: r).length ∧ (c :: r).length ≤ 16 ∧ letterB c = true ∧ ∀ b ∈ c :: r, nameB b = true) (by simp)
def Big (n : Int) : Prop := n < -1000000000000 ∨ 1000000000000 < n
instance (n : Int) : Decidable (Big n) := by unfold Big; infer_instance
def stepE (k : Int) (a m : List UInt8) (x y z w n : Int) : Int :=
  if k < 1 ∨ 13 < k ∨ w < 0 ∨ 2 < w ∨ (w = 0 ∧ n ≠ 0) then 2 else
  if (kar k.toNat = 0 ∧ a ≠ []) ∨ (knm k.toNat = 0 ∧ m ≠ []) ∨ (knum k.toNat < 1 ∧ x ≠ 0) ∨ (knum k.toNat < 2 ∧ y ≠ 0) ∨ (knum k.toNat < 3 ∧ z ≠ 0) then 2 else
  if (kar k.toNat ≠ 0 ∧ ¬ NameP a) ∨ (knm k.toNat ≠ 0 ∧ ¬ NameP m) then 6 else
  if Big x ∨ Big y ∨ Big z ∨ (w = 1 ∧ Big n) ∨ (w = 2 ∧ (n < 1 ∨ 999 < n)) then 7 else 0
end Go.Tt
